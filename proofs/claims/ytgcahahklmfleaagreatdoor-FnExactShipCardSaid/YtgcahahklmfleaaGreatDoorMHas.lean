/- M: what a follower has of a segment. -/
import Derived.Test.YtgcahahklmfleaaGreatDoorMBase
import Derived.Test.YtgcahahklmfleaaGreatDoorEA
set_option linter.unusedVariables false
set_option linter.unusedSimpArgs false
namespace Go.Proofs.YtgcahahklmfleaaGreatDoor.G
open Go.V
abbrev PieceL := List (Ty.den TPiece)
def hasM (l : PieceL) (id : Int) : ByteArray := match l with
  | [] => ⟨#[]⟩
  | p :: r => bif p.1 == id then p.2.1 else hasM r id
theorem implHas_eq {k : Nat} (hk : 2 ^ 50 ≤ k) (f : Ty.den TFollower) (id : Int) (hl : f.2.1.length ≤ 1099511627775) : impl_has.f k f id = some (hasM f.2.1 id, ()) := by
  unfold impl_has.f impl_has.t
  refine forL0 (L := fun n i (_ : Unit) => impl_has.l0 k n id f.2.1 f.2.1.length i) (R := fun r _ => some (hasM r id, ())) (Ty.dflt TPiece) f.2.1 (fun _ _ => True) (fun n s hs => ?_) (fun n i s x rest h0 h1 hx hr hp ih => ?_) (n := k) (s := ()) (by omega) trivial
  · simp (disch := omega) only [impl_has.l0, impl_has.b0, decF, cond_false, hasM]
  · simp (disch := omega) only [impl_has.l0, impl_has.b0, decT, cond_true, inb_eq, hx, w64_eq, hasM]
    rw [ih () trivial]
    cases x.1 == id <;> rfl
theorem specHas_eq {k : Nat} (hk : 2 ^ 50 ≤ k) (f : Ty.den TFollower) (id : Int) (hl : f.2.1.length ≤ 1099511627775) : spec_l27Text.f k f id = some (hasM f.2.1 id, ()) := by
  unfold spec_l27Text.f spec_l27Text.t
  refine forL0 (L := fun n i (_ : Unit) => spec_l27Text.l0 k n id i f.1 f.2.1) (R := fun r _ => some (hasM r id, ())) (Ty.dflt TPiece) f.2.1 (fun _ _ => True) (fun n s hs => ?_) (fun n i s x rest h0 h1 hx hr hp ih => ?_) (n := k) (s := ()) (by omega) trivial
  · simp (disch := omega) only [spec_l27Text.l0, spec_l27Text.b0, decF, cond_false, hasM]
  · simp (disch := omega) only [spec_l27Text.l0, spec_l27Text.b0, decT, cond_true, inb_eq, hx, w64_eq, hasM]
    rw [ih () trivial]
    cases x.1 == id <;> rfl
theorem hasM_size {l : PieceL} {id : Int} {b : Nat} (h : ∀ p ∈ l, p.2.1.size ≤ b) : (hasM l id).size ≤ b := by
  induction l with
  | nil => exact Nat.zero_le _
  | cons p r ih =>
    unfold hasM
    cases p.1 == id
    · exact ih fun q hq => h q (List.mem_cons_of_mem _ hq)
    · exact h p (List.mem_cons_self ..)
def txs (l : PieceL) : Nat := (l.map fun p => p.2.1.size).sum
theorem txs_mem {l : PieceL} {p : Ty.den TPiece} (h : p ∈ l) : p.2.1.size ≤ txs l := by
  unfold txs
  induction l with
  | nil => cases h
  | cons q l ih =>
    rw [List.map_cons, List.sum_cons]
    rcases List.mem_cons.1 h with e | e
    · subst e; omega
    · have := ih e; omega
theorem txs_weight (l : PieceL) : txs l ≤ weight (.slice TPiece) l := by
  rw [weight_slice]
  unfold txs
  induction l with
  | nil => exact Nat.zero_le _
  | cons p l ih =>
    rw [List.map_cons, List.sum_cons, List.length_cons, List.map_cons, List.sum_cons]
    have : p.2.1.size ≤ weight TPiece p := by show _ ≤ 0 + (p.2.1.size + 0); omega
    omega
end Go.Proofs.YtgcahahklmfleaaGreatDoor.G

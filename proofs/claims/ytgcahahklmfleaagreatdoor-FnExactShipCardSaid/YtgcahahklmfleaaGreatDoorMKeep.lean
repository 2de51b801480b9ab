/- M: records that are kept, their mark and their frames. -/
import Derived.Test.YtgcahahklmfleaaGreatDoorMScan2
set_option linter.unusedVariables false
set_option linter.unusedSimpArgs false
namespace Go.Proofs.YtgcahahklmfleaaGreatDoor.G
open Go.V
abbrev PairL := List (Ty.den TPair)
abbrev RecL := List (Ty.den TRec)
def keyOkB (s : ByteArray) : Bool := decide (1 ≤ (s.size : Int) ∧ (s.size : Int) ≤ 8)
/- Records that are kept, and their mark. -/
def keepR (p : Ty.den TPair) : Ty.den TRec := (4, (p.2.2.1, (p.1, (p.2.1, (0, (0, ()))))))
def sealR (kind batch : Int) (l : RecL) : Ty.den TRec := (kind, (batch, (ByteArray.empty, (ByteArray.empty, ((l.length : Int), (sumM l, ()))))))
def keepsM (l : PairL) (mark : Int) : RecL := l.map keepR ++ [sealR 5 mark (l.map keepR)]
theorem specSeal_eq {k : Nat} (hk : 2 ^ 50 ≤ k) {l : RecL} (hl : l.length ≤ 1073741824) (b kd : Int) : spec_l9Seal.f k l b kd = some (sealR kd b l, ()) := by
  unfold spec_l9Seal.f spec_l9Seal.t
  rw [specSumOf_eq hk hl, Option.bind_some]
  rfl
theorem implKeeps_eq {k : Nat} (hk : 2 ^ 50 ≤ k) {l : PairL} (hl : l.length ≤ 1073741823) (mark : Int) : impl_keeps.f k l mark = some (keepsM l mark, ()) := by
  unfold impl_keeps.f impl_keeps.t
  refine (forL0 (L := fun n i s => impl_keeps.l0 k n l mark l l.length i s) (R := fun r s => some (s ++ r.map keepR ++ [sealR 5 mark (s ++ r.map keepR)], ())) (Ty.dflt TPair) l (fun i s => (s.length : Int) = i) (fun n s hs => ?_) (fun n i s x rest h0 h1 hx hr hp ih => ?_) (n := k) (s := []) (by omega) (by decide)).trans (by rw [List.nil_append]; rfl)
  · simp (disch := first | omega | decide) only [impl_keeps.l0, impl_keeps.b0, decF, cond_false, implSumOf_eq hk, Option.bind_some, rm_ok, List.map_nil, List.append_nil, sealR, hs]
  · have ih := ih (s ++ [keepR x]) (by rw [List.length_append]; show ((s.length + 1 : Nat) : Int) = _; omega)
    simp (disch := first | omega | decide) only [impl_keeps.l0, impl_keeps.b0, decT, cond_true, inb_eq, hx, rm_ok, w64_eq]
    refine ih.trans ?_
    simp only [List.map_cons, List.append_assoc, List.cons_append, List.nil_append]
/-- Records, framed, one behind the other. -/
def framesM : RecL → ByteArray
  | [] => ⟨#[]⟩
  | r :: l => frameM (showRec r) ++ framesM l
theorem framesM_size : ∀ l : RecL, (framesM l).size ≤ 211 * l.length
  | [] => Nat.le_refl _
  | r :: l => by
    have h1 := frameM_size (showRec r)
    have h2 := framesM_size l
    rw [framesM, sz_app, List.length_cons]
    omega
theorem framesM_app : ∀ l m : RecL, framesM (l ++ m) = framesM l ++ framesM m
  | [], m => by rw [List.nil_append, framesM, app_nil]
  | r :: l, m => by rw [List.cons_append, framesM, framesM_app l m, framesM, app_assoc]
end Go.Proofs.YtgcahahklmfleaaGreatDoor.G

/- M: LiveOk: what it answers, in both readings. -/
import Derived.Test.YtgcahahklmfleaaGreatDoorMDisk
set_option linter.unusedVariables false
set_option linter.unusedSimpArgs false
namespace Go.Proofs.YtgcahahklmfleaaGreatDoor.G
open Go.V
/- Lists of segments. -/
def idOk (lim : Int) (p : Option Int) (x : Int) : Bool := decide ((1 : Int) ≤ x ∧ x ≤ lim) && (match p with | none => true | some y => decide (y < x))
def liveM (v : Ty.den TLive) : Bool := decide ((1 : Int) ≤ v.1 ∧ v.1 ≤ 100000) && (decide ((1 : Int) ≤ (v.2.1.length : Int) ∧ (v.2.1.length : Int) ≤ 60) && adj (idOk (w64 (v.1 - 1))) none v.2.1)
theorem specLive_eq {k : Nat} (hk : 2 ^ 50 ≤ k) (v : Ty.den TLive) : spec_LiveOk.f k v = some (liveM v, ()) := by
  unfold spec_LiveOk.f spec_LiveOk.t liveM
  rw [l1InD_eq, Option.bind_some]
  cases decide ((1 : Int) ≤ v.1 ∧ v.1 ≤ 100000) with
  | false => rfl
  | true =>
    rw [Bool.not_true, cond_false, l1InD_eq, Option.bind_some, Bool.true_and]
    by_cases c : (1 : Int) ≤ (v.2.1.length : Int) ∧ (v.2.1.length : Int) ≤ 60
    case neg => rw [decF c]; rfl
    rw [decT c, Bool.not_true, cond_false, Bool.true_and]
    refine (forAdj (L := fun n i => spec_LiveOk.l0 k n i v.1 v.2.1) (Ty.dflt (.int .i64)) v.2.1 (idOk (w64 (v.1 - 1))) (some (true, ())) (some (false, ())) (fun n => ?_) (fun n x h hx => ?_) (fun n i x y h0 h1 hx hy => ?_) (n := k) (by omega)).trans (by cases adj (idOk (w64 (v.1 - 1))) none v.2.1 <;> rfl)
    · simp (disch := omega) only [spec_LiveOk.l0, spec_LiveOk.b0, decF, cond_false]
    · simp (disch := omega) only [spec_LiveOk.l0, spec_LiveOk.b0, decT (show (0 : Int) < (v.2.1.length : Int) by omega), cond_true, inb_eq, hx, l1InD_eq k, Option.bind_some, decF (show ¬ (0 : Int) > 0 by omega), cond_false, w64_eq (n := (0 : Int) + 1), idOk]
      cases decide ((1 : Int) ≤ x ∧ x ≤ w64 (v.1 - 1)) <;> rfl
    · simp (disch := omega) only [spec_LiveOk.l0, spec_LiveOk.b0, decT h1, cond_true, inb_eq, hx, l1InD_eq k, Option.bind_some, decT (show i > 0 by omega), cond_false, w64_eq (n := i + 1), w64_eq (n := i - 1), hy, idOk]
      cases decide ((1 : Int) ≤ x ∧ x ≤ w64 (v.1 - 1)) with
      | false => rfl
      | true =>
        by_cases q : y < x
        · rw [decT q, decF (show ¬ x ≤ y from Int.not_le.2 q)]; rfl
        · rw [decF q, decT (show x ≤ y from Int.not_lt.1 q)]; rfl
theorem implLive_eq {k : Nat} (hk : 2 ^ 50 ≤ k) {v : Ty.den TLive} (hl : v.2.1.length ≤ 1099511627776) : impl_LiveOk.f k v = some (liveM v, ()) := by
  unfold impl_LiveOk.f impl_LiveOk.t liveM
  refine (forAdj (L := fun n i => impl_LiveOk.l0 k n v.2.1 v.2.1.length i v.1 v.2.1) (Ty.dflt (.int .i64)) v.2.1 (idOk (w64 (v.1 - 1))) (some (decide ((1 : Int) ≤ v.1 ∧ v.1 ≤ 100000) && decide ((1 : Int) ≤ (v.2.1.length : Int) ∧ (v.2.1.length : Int) ≤ 60), ())) (some (false, ())) (fun n => ?_) (fun n x h hx => ?_) (fun n i x y h0 h1 hx hy => ?_) (n := k) (by omega)).trans
    (by cases adj (idOk (w64 (v.1 - 1))) none v.2.1 <;> cases decide ((1 : Int) ≤ v.1 ∧ v.1 ≤ 100000) <;> cases decide ((1 : Int) ≤ (v.2.1.length : Int) ∧ (v.2.1.length : Int) ≤ 60) <;> rfl)
  · simp (disch := omega) only [impl_LiveOk.l0, impl_LiveOk.b0, decF, cond_false, inD_eq k, Option.bind_some]
    cases decide ((1 : Int) ≤ v.1 ∧ v.1 ≤ 100000) <;> rfl
  · simp (disch := omega) only [impl_LiveOk.l0, impl_LiveOk.b0, decT (show (0 : Int) < (v.2.1.length : Int) by omega), cond_true, inb_eq, hx, inD_eq k, Option.bind_some, decF (show ¬ (0 : Int) > 0 by omega), cond_false, w64_eq (n := (0 : Int) + 1), idOk]
    cases decide ((1 : Int) ≤ x ∧ x ≤ w64 (v.1 - 1)) <;> rfl
  · simp (disch := omega) only [impl_LiveOk.l0, impl_LiveOk.b0, decT h1, cond_true, inb_eq, hx, inD_eq k, Option.bind_some, decT (show i > 0 by omega), cond_false, w64_eq (n := i + 1), w64_eq (n := i - 1), hy, idOk]
    cases decide ((1 : Int) ≤ x ∧ x ≤ w64 (v.1 - 1)) with
    | false => rfl
    | true =>
      by_cases q : y < x
      · rw [decT q, decF (show ¬ y ≥ x from Int.not_le.2 q)]; rfl
      · rw [decF q, decT (show y ≥ x from Int.not_lt.1 q)]; rfl
end Go.Proofs.YtgcahahklmfleaaGreatDoor.G

/- The frame of FnExactReceive: what is copied, compared and marked stays as it should. -/
import Derived.Test.YtlbpalfjmjmimaaCoReceive
set_option linter.unusedVariables false
namespace Go.Proofs.Ytlbpalfjmjmimaa.G
open Go.V
theorem fnExactReceive_pure : ∀ x, Wf (tup [(.pair (.int .i64) (.pair (.slice (.pair (.int .i64) (.pair .str .unit))) .unit)), (.pair (.int .i64) (.pair (.slice (.pair (.int .i64) (.pair (.int .i64) (.pair .str .unit)))) .unit))]) x → ∃ k r, laws_FnExactReceive.f k x.1 x.2.1 = some r ∧ sndT (B := [.bool]) (outT ([.val (.pair (.int .i64) (.pair (.slice (.pair (.int .i64) (.pair .str .unit))) .unit)), .val (.pair (.int .i64) (.pair (.slice (.pair (.int .i64) (.pair (.int .i64) (.pair .str .unit)))) .unit))])) r = (true, ()) := by
  rintro ⟨a0, a1, _⟩ ⟨f0, f1, _⟩
  suffices Ev (fun k => laws_FnExactReceive.t k a0 a1) (true, ()) by
    obtain ⟨k, h⟩ := this.some
    exact ⟨k, (true, ()), h, rfl⟩
  unfold laws_FnExactReceive.t
  refine Ev.bind (szFollower_ev a0 f0 (1048576) (by omega) (by omega)) ?_
  by_cases c0 : ((weight TFollower a0 : Nat) : Int) ≤ 1048576
  case neg =>
    refine Ev.of fun k => ?_
    rw [sz_bad (by omega)]
    rfl
  rw [sz_ok c0]
  have w0 : weight TFollower a0 ≤ 1048576 := by omega
  have p0 := Nat.le_trans (wp_le TFollower a0) w0
  have q0 := Nat.le_trans (Nat.le_trans (wp_le TFollower a0) w0) (show 1048576 ≤ 4398046511104 by decide)
  refine Ev.skip (by first | omega | (dsimp only; omega)) ?_
  refine Ev.bind (szParcel_ev a1 f1 (1048576 - ((weight TFollower a0 : Nat) : Int)) (by omega) (by omega)) ?_
  by_cases c1 : ((weight TParcel a1 : Nat) : Int) ≤ 1048576 - ((weight TFollower a0 : Nat) : Int)
  case neg =>
    refine Ev.of fun k => ?_
    rw [sz_bad (by omega)]
    rfl
  rw [sz_ok c1]
  have w1 : weight TParcel a1 ≤ 1048576 := by omega
  have p1 := Nat.le_trans (wp_le TParcel a1) w1
  have q1 := Nat.le_trans (Nat.le_trans (wp_le TParcel a1) w1) (show 1048576 ≤ 4398046511104 by decide)
  refine Ev.skip (by first | omega | (dsimp only; omega)) ?_
  refine Ev.bind (toFollower_ev a0 w0) ?_
  refine Ev.bind (toParcel_ev a1 w1) ?_
  obtain ⟨r, hs, hi, hb⟩ := core_FnExactReceive f0 f1 w0 w1
  refine Ev.bind hs ?_
  refine Ev.bind (toFollower_ev a0 w0) ?_
  refine Ev.bind (toParcel_ev a1 w1) ?_
  refine Ev.bind hi ?_
  refine Ev.bind (eqFollower_ev r.1 (hb)) ?_
  refine Ev.notF ?_
  refine Ev.skipB ?_
  refine Ev.bind (toFollower_ev a0 w0) ?_
  refine Ev.bind (eqFollower_ev a0 q0) ?_
  refine Ev.notF ?_
  refine Ev.bind (toParcel_ev a1 w1) ?_
  refine Ev.bind (eqParcel_ev a1 q1) ?_
  refine Ev.notF ?_
  have ct_14 := ctFollower_le a0
  refine Ev.bind (markFollower_ev a0 (q0) 1 (by first | omega | (dsimp only; omega)) (by first | omega | (dsimp only; omega))) ?_
  have ct_15 := ctParcel_le a1
  refine Ev.bind (markParcel_ev a1 (q1) _ (by first | omega | (dsimp only; omega)) (by first | omega | (dsimp only; omega))) ?_
  refine Ev.skip (by first | omega | (dsimp only; omega)) ?_
  refine Ev.bind (eqFollower_ev r.1 (hb)) ?_
  refine Ev.notF ?_
  refine Ev.skipB ?_
  have ct_17 := ctFollower_le r.1
  refine Ev.bind (markFollower_ev r.1 (hb) 1 (by first | omega | (dsimp only; omega)) (by first | omega | (dsimp only; omega))) ?_
  refine Ev.bind (heldFollower_mk r.1 (hb) 1 (by omega) (by omega)) ?_
  refine Ev.skip (by first | omega | (dsimp only; omega)) ?_
  refine Ev.skipEq rfl ?_
  refine Ev.bind (toFollower_ev a0 w0) ?_
  refine Ev.bind (toParcel_ev a1 w1) ?_
  refine Ev.bind hi ?_
  refine Ev.bind (eqFollower_ev r.1 (hb)) ?_
  refine Ev.notF ?_
  refine Ev.skipB ?_
  refine Ev.bind (heldFollower_mk r.1 (hb) 1 (by omega) (by omega)) ?_
  refine Ev.skip (by first | omega | (dsimp only; omega)) ?_
  refine Ev.skipEq rfl ?_
  exact Ev.of fun _ => rfl
end Go.Proofs.Ytlbpalfjmjmimaa.G

/- The frame of FnExactDiff: what is copied, compared and marked stays as it should. -/
import Derived.Test.YtlbpalfjmjmimaaCoDiff
set_option linter.unusedVariables false
namespace Go.Proofs.Ytlbpalfjmjmimaa.G
open Go.V
theorem fnExactDiff_pure : ∀ x, Wf (tup [(.slice (.pair .str (.pair .str (.pair (.int .i64) .unit)))), (.slice (.pair .str (.pair .str (.pair (.int .i64) .unit))))]) x → ∃ k r, laws_FnExactDiff.f k x.1 x.2.1 = some r ∧ sndT (B := [.bool]) (outT ([.val (.slice (.pair .str (.pair .str (.pair (.int .i64) .unit)))), .val (.slice (.pair .str (.pair .str (.pair (.int .i64) .unit))))])) r = (true, ()) := by
  rintro ⟨a0, a1, _⟩ ⟨f0, f1, _⟩
  suffices Ev (fun k => laws_FnExactDiff.t k a0 a1) (true, ()) by
    obtain ⟨k, h⟩ := this.some
    exact ⟨k, (true, ()), h, rfl⟩
  unfold laws_FnExactDiff.t
  refine Ev.bind (szPairS_ev a0 f0 (1048576) (by omega) (by omega)) ?_
  by_cases c0 : ((weight (.slice TPair) a0 : Nat) : Int) ≤ 1048576
  case neg =>
    refine Ev.of fun k => ?_
    rw [sz_bad (by omega)]
    rfl
  rw [sz_ok c0]
  have w0 : weight (.slice TPair) a0 ≤ 1048576 := by omega
  have q0 := Nat.le_trans (Nat.le_trans (wp_le (.slice TPair) a0) w0) (show 1048576 ≤ 4398046511104 by decide)
  refine Ev.skip (by first | omega | (dsimp only; omega)) ?_
  refine Ev.bind (szPairS_ev a1 f1 (1048576 - ((weight (.slice TPair) a0 : Nat) : Int)) (by omega) (by omega)) ?_
  by_cases c1 : ((weight (.slice TPair) a1 : Nat) : Int) ≤ 1048576 - ((weight (.slice TPair) a0 : Nat) : Int)
  case neg =>
    refine Ev.of fun k => ?_
    rw [sz_bad (by omega)]
    rfl
  rw [sz_ok c1]
  have w1 : weight (.slice TPair) a1 ≤ 1048576 := by omega
  have q1 := Nat.le_trans (Nat.le_trans (wp_le (.slice TPair) a1) w1) (show 1048576 ≤ 4398046511104 by decide)
  refine Ev.skip (by first | omega | (dsimp only; omega)) ?_
  refine Ev.bind (toPairS_ev a0 w0) ?_
  refine Ev.bind (toPairS_ev a1 w1) ?_
  obtain ⟨r, hs, hi, hb⟩ := core_FnExactDiff f0 f1 w0 w1
  refine Ev.bind hs ?_
  refine Ev.bind (toPairS_ev a0 w0) ?_
  refine Ev.bind (toPairS_ev a1 w1) ?_
  refine Ev.bind hi ?_
  refine Ev.bind (eqPutS_ev r.1 (hb)) ?_
  refine Ev.notF ?_
  refine Ev.bind (toPairS_ev a0 w0) ?_
  refine Ev.bind (eqPairS_ev a0 q0) ?_
  refine Ev.notF ?_
  refine Ev.bind (toPairS_ev a1 w1) ?_
  refine Ev.bind (eqPairS_ev a1 q1) ?_
  refine Ev.notF ?_
  have ln_14 := wp_len q0
  refine Ev.bind (markPairS_ev a0 (wp_len q0) 1 (by first | omega | (dsimp only; omega)) (by first | omega | (dsimp only; omega))) ?_
  have ln_15 := wp_len q1
  refine Ev.bind (markPairS_ev a1 (wp_len q1) _ (by first | omega | (dsimp only; omega)) (by first | omega | (dsimp only; omega))) ?_
  refine Ev.skip (by first | omega | (dsimp only; omega)) ?_
  refine Ev.bind (eqPutS_ev r.1 (hb)) ?_
  refine Ev.notF ?_
  have ln_17 := wp_len hb
  refine Ev.bind (markPutS_ev r.1 (wp_len hb) 1 (by first | omega | (dsimp only; omega)) (by first | omega | (dsimp only; omega))) ?_
  refine Ev.bind (heldPutS_mk r.1 (wp_len hb) 1 (by omega) (by omega)) ?_
  refine Ev.skip (by first | omega | (dsimp only; omega)) ?_
  refine Ev.skipEq rfl ?_
  refine Ev.bind (toPairS_ev a0 w0) ?_
  refine Ev.bind (toPairS_ev a1 w1) ?_
  refine Ev.bind hi ?_
  refine Ev.bind (eqPutS_ev r.1 (hb)) ?_
  refine Ev.notF ?_
  refine Ev.bind (heldPutS_mk r.1 (wp_len hb) 1 (by omega) (by omega)) ?_
  refine Ev.skip (by first | omega | (dsimp only; omega)) ?_
  refine Ev.skipEq rfl ?_
  exact Ev.of fun _ => rfl
end Go.Proofs.Ytlbpalfjmjmimaa.G

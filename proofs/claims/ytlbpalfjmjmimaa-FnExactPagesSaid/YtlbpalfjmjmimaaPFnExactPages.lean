/- The frame of FnExactPages: what is copied, compared and marked stays as it should. -/
import Derived.Test.YtlbpalfjmjmimaaCoPages
set_option linter.unusedVariables false
namespace Go.Proofs.Ytlbpalfjmjmimaa.G
open Go.V
theorem fnExactPages_pure : ∀ x, Wf (tup [(.slice (.pair .str (.pair (.int .i64) (.pair (.int .i64) (.pair (.int .i64) (.pair (.int .i64) .unit)))))), (.int .i64)]) x → ∃ k r, laws_FnExactPages.f k x.1 x.2.1 = some r ∧ sndT (B := [.bool]) (outT ([.val (.slice (.pair .str (.pair (.int .i64) (.pair (.int .i64) (.pair (.int .i64) (.pair (.int .i64) .unit)))))), .val (.int .i64)])) r = (true, ()) := by
  rintro ⟨a0, a1, _⟩ ⟨f0, f1, _⟩
  suffices Ev (fun k => laws_FnExactPages.t k a0 a1) (true, ()) by
    obtain ⟨k, h⟩ := this.some
    exact ⟨k, (true, ()), h, rfl⟩
  unfold laws_FnExactPages.t
  refine Ev.bind (szEntryS_ev a0 f0 (1048576) (by omega) (by omega)) ?_
  by_cases c0 : ((weight (.slice TEntry) a0 : Nat) : Int) ≤ 1048576
  case neg =>
    refine Ev.of fun k => ?_
    rw [sz_bad (by omega)]
    rfl
  rw [sz_ok c0]
  have w0 : weight (.slice TEntry) a0 ≤ 1048576 := by omega
  have p0 := Nat.le_trans (wp_le (.slice TEntry) a0) w0
  have q0 := Nat.le_trans (Nat.le_trans (wp_le (.slice TEntry) a0) w0) (show 1048576 ≤ 4398046511104 by decide)
  refine Ev.skip (by first | omega | (dsimp only; omega)) ?_
  refine Ev.bind (toEntryS_ev a0 w0) ?_
  obtain ⟨r, hs, hi, hb⟩ := core_FnExactPages f0 f1 w0
  refine Ev.bind hs ?_
  refine Ev.bind (toEntryS_ev a0 w0) ?_
  refine Ev.bind hi ?_
  refine Ev.bind (eqStringS_ev r.1 (hb)) ?_
  refine Ev.notF ?_
  refine Ev.bind (toEntryS_ev a0 w0) ?_
  refine Ev.bind (eqEntryS_ev a0 q0) ?_
  refine Ev.notF ?_
  have ln_9 := wp_len q0
  refine Ev.bind (markEntryS_ev a0 (wp_len q0) 1 (by first | omega | (dsimp only; omega)) (by first | omega | (dsimp only; omega))) ?_
  refine Ev.skip (by first | omega | (dsimp only; omega)) ?_
  refine Ev.bind (eqStringS_ev r.1 (hb)) ?_
  refine Ev.notF ?_
  have ln_11 := wp_len hb
  refine Ev.bind (markStringS_ev r.1 (wp_len hb) 1 (by first | omega | (dsimp only; omega)) (by first | omega | (dsimp only; omega))) ?_
  refine Ev.bind (heldStringS_mk r.1 (wp_len hb) 1 (by omega) (by omega)) ?_
  refine Ev.skip (by first | omega | (dsimp only; omega)) ?_
  refine Ev.skipEq rfl ?_
  refine Ev.bind (toEntryS_ev a0 w0) ?_
  refine Ev.bind hi ?_
  refine Ev.bind (eqStringS_ev r.1 (hb)) ?_
  refine Ev.notF ?_
  refine Ev.bind (heldStringS_mk r.1 (wp_len hb) 1 (by omega) (by omega)) ?_
  refine Ev.skip (by first | omega | (dsimp only; omega)) ?_
  refine Ev.skipEq rfl ?_
  exact Ev.of fun _ => rfl
end Go.Proofs.Ytlbpalfjmjmimaa.G

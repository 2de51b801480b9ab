/- The frame of FnExactEndOk: what is copied, compared and marked stays as it should. -/
import Derived.Test.YtiigjojchlplpaaCoEnd
set_option linter.unusedVariables false
namespace Go.Proofs.Ytiigjojchlplpaa.G
open Go.V
theorem fnExactEndOk_pure : ∀ x, Wf (tup [(.pair (.slice (.pair .str (.pair .str (.pair (.int .i64) .unit)))) (.pair (.slice (.pair (.int .i64) (.pair (.slice (.pair .str (.pair .bool (.pair .str .unit)))) .unit))) (.pair (.slice (.pair .str (.pair .bool (.pair .str .unit)))) (.pair (.slice (.pair .str (.pair .str (.pair (.int .i64) .unit)))) (.pair (.int .i64) .unit)))))]) x → ∃ k r, laws_FnExactEndOk.f k x.1 = some r ∧ sndT (B := [.bool]) (outT ([.val (.pair (.slice (.pair .str (.pair .str (.pair (.int .i64) .unit)))) (.pair (.slice (.pair (.int .i64) (.pair (.slice (.pair .str (.pair .bool (.pair .str .unit)))) .unit))) (.pair (.slice (.pair .str (.pair .bool (.pair .str .unit)))) (.pair (.slice (.pair .str (.pair .str (.pair (.int .i64) .unit)))) (.pair (.int .i64) .unit)))))])) r = (true, ()) := by
  rintro ⟨a0, _⟩ ⟨f0, _⟩
  suffices Ev (fun k => laws_FnExactEndOk.t k a0) (true, ()) by
    obtain ⟨k, h⟩ := this.some
    exact ⟨k, (true, ()), h, rfl⟩
  unfold laws_FnExactEndOk.t
  refine Ev.bind (szEnd_ev a0 f0 (1048576) (by omega) (by omega)) ?_
  by_cases c0 : ((weight TEnd a0 : Nat) : Int) ≤ 1048576
  case neg =>
    refine Ev.of fun k => ?_
    rw [sz_bad (by omega)]
    rfl
  rw [sz_ok c0]
  have w0 : weight TEnd a0 ≤ 1048576 := by omega
  have p0 := Nat.le_trans (wp_le TEnd a0) w0
  have q0 := Nat.le_trans (Nat.le_trans (wp_le TEnd a0) w0) (show 1048576 ≤ 4398046511104 by decide)
  refine Ev.skip (by first | omega | (dsimp only; omega)) ?_
  refine Ev.bind (toEnd_ev a0 w0) ?_
  obtain ⟨r, hs, hi, hb⟩ := core_FnExactEndOk f0 w0
  refine Ev.bind hs ?_
  refine Ev.bind (toEnd_ev a0 w0) ?_
  refine Ev.bind hi ?_
  first | refine Ev.skipB ?_ | refine Ev.skipI ?_
  refine Ev.bind (toEnd_ev a0 w0) ?_
  refine Ev.bind (eqEnd_ev a0 q0) ?_
  refine Ev.notF ?_
  exact Ev.of fun _ => rfl
end Go.Proofs.Ytiigjojchlplpaa.G

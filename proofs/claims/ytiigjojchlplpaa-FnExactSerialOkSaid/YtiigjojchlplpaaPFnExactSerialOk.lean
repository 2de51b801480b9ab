/- The frame of FnExactSerialOk: what is copied, compared and marked stays as it should. -/
import Derived.Test.YtiigjojchlplpaaCoSerial
set_option linter.unusedVariables false
namespace Go.Proofs.Ytiigjojchlplpaa.G
open Go.V
theorem fnExactSerialOk_pure : ∀ x, Wf (tup [(.slice (.pair (.int .i64) (.pair (.slice (.pair .str (.pair .str (.pair (.int .i64) .unit)))) (.pair (.slice .str) (.pair (.slice (.pair .str (.pair .bool (.pair .str .unit)))) .unit)))))]) x → ∃ k r, laws_FnExactSerialOk.f k x.1 = some r ∧ sndT (B := [.bool]) (outT ([.val (.slice (.pair (.int .i64) (.pair (.slice (.pair .str (.pair .str (.pair (.int .i64) .unit)))) (.pair (.slice .str) (.pair (.slice (.pair .str (.pair .bool (.pair .str .unit)))) .unit)))))])) r = (true, ()) := by
  rintro ⟨a0, _⟩ ⟨f0, _⟩
  suffices Ev (fun k => laws_FnExactSerialOk.t k a0) (true, ()) by
    obtain ⟨k, h⟩ := this.some
    exact ⟨k, (true, ()), h, rfl⟩
  unfold laws_FnExactSerialOk.t
  refine Ev.bind (szHistS_ev a0 f0 (1048576) (by omega) (by omega)) ?_
  by_cases c0 : ((weight (.slice THist) a0 : Nat) : Int) ≤ 1048576
  case neg =>
    refine Ev.of fun k => ?_
    rw [sz_bad (by omega)]
    rfl
  rw [sz_ok c0]
  have w0 : weight (.slice THist) a0 ≤ 1048576 := by omega
  have p0 := Nat.le_trans (wp_le (.slice THist) a0) w0
  have q0 := Nat.le_trans (Nat.le_trans (wp_le (.slice THist) a0) w0) (show 1048576 ≤ 4398046511104 by decide)
  refine Ev.skip (by first | omega | (dsimp only; omega)) ?_
  refine Ev.bind (toHistS_ev a0 w0) ?_
  obtain ⟨r, hs, hi, hb⟩ := core_FnExactSerialOk f0 w0
  refine Ev.bind hs ?_
  refine Ev.bind (toHistS_ev a0 w0) ?_
  refine Ev.bind hi ?_
  first | refine Ev.skipB ?_ | refine Ev.skipI ?_
  refine Ev.bind (toHistS_ev a0 w0) ?_
  refine Ev.bind (eqHistS_ev a0 q0) ?_
  refine Ev.notF ?_
  exact Ev.of fun _ => rfl
end Go.Proofs.Ytiigjojchlplpaa.G

/- The frame of FnExactSound: what is copied, compared and marked stays as it should. -/
import Derived.Test.YtgcahahklmfleaaGreatDoorMCheck
set_option linter.unusedVariables false
namespace Go.Proofs.YtgcahahklmfleaaGreatDoor.G
open Go.V
theorem fnExactSound_pure : ∀ x, Wf (tup [(.pair (.slice (.pair .str (.pair .str (.pair (.int .i64) .unit)))) (.pair (.int .i64) (.pair (.int .i64) (.pair .bool .unit))))]) x → ∃ k r, laws_FnExactSound.f k x.1 = some r ∧ sndT (B := [.bool]) (outT ([.val (.pair (.slice (.pair .str (.pair .str (.pair (.int .i64) .unit)))) (.pair (.int .i64) (.pair (.int .i64) (.pair .bool .unit))))])) r = (true, ()) := by
  rintro ⟨a0, _⟩ ⟨f0, _⟩
  suffices Ev (fun k => laws_FnExactSound.t k a0) (true, ()) by
    obtain ⟨k, h⟩ := this.some
    exact ⟨k, (true, ()), h, rfl⟩
  unfold laws_FnExactSound.t
  refine Ev.bind (szDisk_ev a0 f0 (1048576) (by omega) (by omega)) ?_
  by_cases c0 : ((weight TDisk a0 : Nat) : Int) ≤ 1048576
  case neg =>
    refine Ev.of fun k => ?_
    rw [sz_bad (by omega)]
    rfl
  rw [sz_ok c0]
  have w0 : weight TDisk a0 ≤ 1048576 := by omega
  have p0 := Nat.le_trans (wp_le TDisk a0) w0
  have q0 := Nat.le_trans (Nat.le_trans (wp_le TDisk a0) w0) (show 1048576 ≤ 4398046511104 by decide)
  refine Ev.skip (by first | omega | (dsimp only; omega)) ?_
  refine Ev.bind (toDisk_ev a0 w0) ?_
  obtain ⟨r, hs, hi, hb⟩ := core_FnExactSound f0 w0
  refine Ev.bind hs ?_
  refine Ev.bind (toDisk_ev a0 w0) ?_
  refine Ev.bind hi ?_
  first | refine Ev.skipB ?_ | refine Ev.skipI ?_
  refine Ev.bind (toDisk_ev a0 w0) ?_
  refine Ev.bind (eqDisk_ev a0 q0) ?_
  refine Ev.notF ?_
  exact Ev.of fun _ => rfl
end Go.Proofs.YtgcahahklmfleaaGreatDoor.G

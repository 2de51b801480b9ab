/- The frame of FnExactFollowMap: what is copied, compared and marked stays as it should. -/
import Derived.Test.YtiigjojchlplpaaMFollow
set_option linter.unusedVariables false
namespace Go.Proofs.Ytiigjojchlplpaa.G
open Go.V
theorem fnExactFollowMap_pure : ∀ x, Wf (tup [(.pair (.int .i64) (.pair (.slice (.pair (.int .i64) (.pair .str .unit))) .unit))]) x → ∃ k r, laws_FnExactFollowMap.f k x.1 = some r ∧ sndT (B := [.bool]) (outT ([.val (.pair (.int .i64) (.pair (.slice (.pair (.int .i64) (.pair .str .unit))) .unit))])) r = (true, ()) := by
  rintro ⟨a0, _⟩ ⟨f0, _⟩
  suffices Ev (fun k => laws_FnExactFollowMap.t k a0) (true, ()) by
    obtain ⟨k, h⟩ := this.some
    exact ⟨k, (true, ()), h, rfl⟩
  unfold laws_FnExactFollowMap.t
  refine Ev.bind (szFollower_ev a0 f0 (1048576) (by omega) (by omega)) ?_
  by_cases c0 : ((weight TFollower a0 : Nat) : Int) ≤ 1048576
  case neg =>
    refine Ev.of fun k => ?_
    rw [sz_bad (by omega)]
    rfl
  rw [sz_ok c0]
  have w0 : weight TFollower a0 ≤ 1048576 := by omega
  have p0 := Nat.le_trans (wp_le TFollower a0) w0
  have q0 := Nat.le_trans (Nat.le_trans (wp_le TFollower a0) w0) (show 1048576 ≤ 4398046511104 by decide)
  refine Ev.skip (by first | omega | (dsimp only; omega)) ?_
  refine Ev.bind (toFollower_ev a0 w0) ?_
  obtain ⟨r, hs, hi, hb⟩ := core_FnExactFollowMap f0 w0
  refine Ev.bind hs ?_
  refine Ev.bind (toFollower_ev a0 w0) ?_
  refine Ev.bind hi ?_
  refine Ev.bind (eqPairS_ev r.1 (hb)) ?_
  refine Ev.notF ?_
  first | refine Ev.skipB ?_ | refine Ev.skipI ?_
  refine Ev.bind (toFollower_ev a0 w0) ?_
  refine Ev.bind (eqFollower_ev a0 q0) ?_
  refine Ev.notF ?_
  have ct_9 := ctFollower_le a0
  refine Ev.bind (markFollower_ev a0 (q0) 1 (by first | omega | (dsimp only; omega)) (by first | omega | (dsimp only; omega))) ?_
  refine Ev.skip (by first | omega | (dsimp only; omega)) ?_
  refine Ev.bind (eqPairS_ev r.1 (hb)) ?_
  refine Ev.notF ?_
  first | refine Ev.skipB ?_ | refine Ev.skipI ?_
  have ln_11 := wp_len hb
  refine Ev.bind (markPairS_ev r.1 (wp_len hb) 1 (by first | omega | (dsimp only; omega)) (by first | omega | (dsimp only; omega))) ?_
  refine Ev.bind (heldPairS_mk r.1 (wp_len hb) 1 (by omega) (by omega)) ?_
  refine Ev.skip (by first | omega | (dsimp only; omega)) ?_
  refine Ev.skipEq rfl ?_
  refine Ev.bind (toFollower_ev a0 w0) ?_
  refine Ev.bind hi ?_
  refine Ev.bind (eqPairS_ev r.1 (hb)) ?_
  refine Ev.notF ?_
  first | refine Ev.skipB ?_ | refine Ev.skipI ?_
  refine Ev.bind (heldPairS_mk r.1 (wp_len hb) 1 (by omega) (by omega)) ?_
  refine Ev.skip (by first | omega | (dsimp only; omega)) ?_
  refine Ev.skipEq rfl ?_
  exact Ev.of fun _ => rfl
end Go.Proofs.Ytiigjojchlplpaa.G

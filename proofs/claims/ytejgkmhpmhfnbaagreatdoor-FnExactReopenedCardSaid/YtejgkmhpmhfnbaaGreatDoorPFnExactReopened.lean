/- The frame of FnExactReopened: what is copied, compared and marked stays as it should. -/
import Derived.Test.YtejgkmhpmhfnbaaGreatDoorZB2
set_option linter.unusedVariables false
namespace Go.Proofs.YtejgkmhpmhfnbaaGreatDoor.G
open Go.V
theorem fr_wInt : ∀ l : List Int, (l.map (weight (.int .i64))).sum = 0
  | [] => rfl
  | x :: l => by rw [List.map_cons, List.sum_cons, fr_wInt l]; rfl
theorem fnExactReopened_pure : ∀ x, Wf (tup [(.pair (.slice (.pair .str (.pair .str (.pair (.int .i64) .unit)))) (.pair (.int .i64) (.pair (.int .i64) (.pair .bool .unit)))), (.slice (.int .i64))]) x → ∃ k r, laws_FnExactReopened.f k x.1 x.2.1 = some r ∧ sndT (B := [.bool]) (outT ([.val (.pair (.slice (.pair .str (.pair .str (.pair (.int .i64) .unit)))) (.pair (.int .i64) (.pair (.int .i64) (.pair .bool .unit)))), .val (.slice (.int .i64))])) r = (true, ()) := by
  rintro ⟨a0, a1, _⟩ ⟨f0, f1, _⟩
  suffices Ev (fun k => laws_FnExactReopened.t k a0 a1) (true, ()) by
    obtain ⟨k, h⟩ := this.some
    exact ⟨k, (true, ()), h, rfl⟩
  unfold laws_FnExactReopened.t
  refine Ev.big (fun _ => Ev.of fun _ => rfl) fun z1 => ?_
  have w1 : weight (.slice (.int .i64)) a1 ≤ 1048576 := by rw [weight_slice, fr_wInt]; exact z1
  have p1 := Nat.le_trans (wp_le (.slice (.int .i64)) a1) w1
  have q1 := Nat.le_trans (Nat.le_trans (wp_le (.slice (.int .i64)) a1) w1) (show 1048576 ≤ 4398046511104 by decide)
  refine Ev.bind (szDisk_ev a0 f0 (1048576) (by omega) (by omega)) ?_
  by_cases c0 : ((weight TDisk a0 : Nat) : Int) ≤ 1048576
  case neg =>
    refine Ev.of fun k => ?_
    rw [sz_bad (by omega)]
    rfl
  rw [sz_ok c0]
  have w0 : weight TDisk a0 ≤ 1048576 := by omega
  have p0 := Nat.le_trans (wp_le TDisk a0) w0
  have q0 := Nat.le_trans (Nat.le_trans (wp_le TDisk a0) w0) (show 1048576 ≤ 4398046511104 by decide)
  refine Ev.skip (by first | omega | (dsimp only; omega)) ?_
  refine Ev.bind (toDisk_ev a0 w0) ?_
  refine Ev.bind (toIntS_ev a1 w1) ?_
  obtain ⟨r, hs, hi, hb⟩ := core_FnExactReopened f0 f1 w0 w1
  refine Ev.bind hs ?_
  refine Ev.bind (toDisk_ev a0 w0) ?_
  refine Ev.bind (toIntS_ev a1 w1) ?_
  refine Ev.bind hi ?_
  refine Ev.bind (eqPairS_ev r.1 (hb)) ?_
  refine Ev.notF ?_
  refine Ev.skipEq rfl ?_
  refine Ev.bind (toDisk_ev a0 w0) ?_
  refine Ev.bind (eqDisk_ev a0 q0) ?_
  refine Ev.notF ?_
  refine Ev.bind (toIntS_ev a1 w1) ?_
  refine Ev.bind (eqIntS_ev a1 q1) ?_
  refine Ev.notF ?_
  have ct_13 := ctDisk_le a0
  refine Ev.bind (markDisk_ev a0 (q0) 1 (by first | omega | (dsimp only; omega)) (by first | omega | (dsimp only; omega))) ?_
  have ln_14 := wp_len q1
  refine Ev.bind (markIntS_ev a1 (wp_len q1) _ (by first | omega | (dsimp only; omega)) (by first | omega | (dsimp only; omega))) ?_
  refine Ev.skip (by first | omega | (dsimp only; omega)) ?_
  refine Ev.bind (eqPairS_ev r.1 (hb)) ?_
  refine Ev.notF ?_
  refine Ev.skipEq rfl ?_
  have ln_16 := wp_len hb
  refine Ev.bind (markPairS_ev r.1 (wp_len hb) 1 (by first | omega | (dsimp only; omega)) (by first | omega | (dsimp only; omega))) ?_
  refine Ev.bind (heldPairS_mk r.1 (wp_len hb) 1 (by omega) (by omega)) ?_
  refine Ev.skip (by first | omega | (dsimp only; omega)) ?_
  refine Ev.skipEq rfl ?_
  refine Ev.bind (toDisk_ev a0 w0) ?_
  refine Ev.bind (toIntS_ev a1 w1) ?_
  refine Ev.bind hi ?_
  refine Ev.bind (eqPairS_ev r.1 (hb)) ?_
  refine Ev.notF ?_
  refine Ev.skipEq rfl ?_
  refine Ev.bind (heldPairS_mk r.1 (wp_len hb) 1 (by omega) (by omega)) ?_
  refine Ev.skip (by first | omega | (dsimp only; omega)) ?_
  refine Ev.skipEq rfl ?_
  exact Ev.of fun _ => rfl
end Go.Proofs.YtejgkmhpmhfnbaaGreatDoor.G

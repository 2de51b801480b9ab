/- The frame of FnExactShip: what is copied, compared and marked stays as it should. -/
import Derived.Test.YtgcahahklmfleaaGreatDoorMShip
set_option linter.unusedVariables false
namespace Go.Proofs.YtgcahahklmfleaaGreatDoor.G
open Go.V
theorem fnExactShip_pure : ∀ x, Wf (tup [(.pair (.pair (.int .i64) (.pair (.slice (.int .i64)) .unit)) (.pair (.slice (.pair .str (.pair (.int .i64) (.pair (.int .i64) (.pair (.int .i64) (.pair (.int .i64) .unit)))))) (.pair (.int .i64) (.pair (.int .i64) (.pair (.int .i64) .unit))))), (.pair (.slice (.pair .str (.pair .str (.pair (.int .i64) .unit)))) (.pair (.int .i64) (.pair (.int .i64) (.pair .bool .unit)))), (.pair (.int .i64) (.pair (.slice (.pair (.int .i64) (.pair .str .unit))) .unit))]) x → ∃ k r, laws_FnExactShip.f k x.1 x.2.1 x.2.2.1 = some r ∧ sndT (B := [.bool]) (outT ([.val (.pair (.pair (.int .i64) (.pair (.slice (.int .i64)) .unit)) (.pair (.slice (.pair .str (.pair (.int .i64) (.pair (.int .i64) (.pair (.int .i64) (.pair (.int .i64) .unit)))))) (.pair (.int .i64) (.pair (.int .i64) (.pair (.int .i64) .unit))))), .val (.pair (.slice (.pair .str (.pair .str (.pair (.int .i64) .unit)))) (.pair (.int .i64) (.pair (.int .i64) (.pair .bool .unit)))), .val (.pair (.int .i64) (.pair (.slice (.pair (.int .i64) (.pair .str .unit))) .unit))])) r = (true, ()) := by
  rintro ⟨a0, a1, a2, _⟩ ⟨f0, f1, f2, _⟩
  suffices Ev (fun k => laws_FnExactShip.t k a0 a1 a2) (true, ()) by
    obtain ⟨k, h⟩ := this.some
    exact ⟨k, (true, ()), h, rfl⟩
  unfold laws_FnExactShip.t
  refine Ev.bind (szStore_ev a0 f0 (1048576) (by omega) (by omega)) ?_
  by_cases c0 : ((weight TStore a0 : Nat) : Int) ≤ 1048576
  case neg =>
    refine Ev.of fun k => ?_
    rw [sz_bad (by omega)]
    rfl
  rw [sz_ok c0]
  have w0 : weight TStore a0 ≤ 1048576 := by omega
  have p0 := Nat.le_trans (wp_le TStore a0) w0
  have q0 := Nat.le_trans (Nat.le_trans (wp_le TStore a0) w0) (show 1048576 ≤ 4398046511104 by decide)
  refine Ev.skip (by first | omega | (dsimp only; omega)) ?_
  refine Ev.bind (szDisk_ev a1 f1 (1048576 - ((weight TStore a0 : Nat) : Int)) (by omega) (by omega)) ?_
  by_cases c1 : ((weight TDisk a1 : Nat) : Int) ≤ 1048576 - ((weight TStore a0 : Nat) : Int)
  case neg =>
    refine Ev.of fun k => ?_
    rw [sz_bad (by omega)]
    rfl
  rw [sz_ok c1]
  have w1 : weight TDisk a1 ≤ 1048576 := by omega
  have p1 := Nat.le_trans (wp_le TDisk a1) w1
  have q1 := Nat.le_trans (Nat.le_trans (wp_le TDisk a1) w1) (show 1048576 ≤ 4398046511104 by decide)
  refine Ev.skip (by first | omega | (dsimp only; omega)) ?_
  refine Ev.bind (szFollower_ev a2 f2 (1048576 - ((weight TStore a0 : Nat) : Int) - ((weight TDisk a1 : Nat) : Int)) (by omega) (by omega)) ?_
  by_cases c2 : ((weight TFollower a2 : Nat) : Int) ≤ 1048576 - ((weight TStore a0 : Nat) : Int) - ((weight TDisk a1 : Nat) : Int)
  case neg =>
    refine Ev.of fun k => ?_
    rw [sz_bad (by omega)]
    rfl
  rw [sz_ok c2]
  have w2 : weight TFollower a2 ≤ 1048576 := by omega
  have p2 := Nat.le_trans (wp_le TFollower a2) w2
  have q2 := Nat.le_trans (Nat.le_trans (wp_le TFollower a2) w2) (show 1048576 ≤ 4398046511104 by decide)
  refine Ev.skip (by first | omega | (dsimp only; omega)) ?_
  refine Ev.bind (toStore_ev a0 w0) ?_
  refine Ev.bind (toDisk_ev a1 w1) ?_
  refine Ev.bind (toFollower_ev a2 w2) ?_
  obtain ⟨r, hs, hi, hb⟩ := core_FnExactShip f0 f1 f2 w0 w1 w2
  refine Ev.bind hs ?_
  refine Ev.bind (toStore_ev a0 w0) ?_
  refine Ev.bind (toDisk_ev a1 w1) ?_
  refine Ev.bind (toFollower_ev a2 w2) ?_
  refine Ev.bind hi ?_
  refine Ev.bind (eqParcel_ev r.1 (hb)) ?_
  refine Ev.notF ?_
  refine Ev.bind (toStore_ev a0 w0) ?_
  refine Ev.bind (eqStore_ev a0 q0) ?_
  refine Ev.notF ?_
  refine Ev.bind (toDisk_ev a1 w1) ?_
  refine Ev.bind (eqDisk_ev a1 q1) ?_
  refine Ev.notF ?_
  refine Ev.bind (toFollower_ev a2 w2) ?_
  refine Ev.bind (eqFollower_ev a2 q2) ?_
  refine Ev.notF ?_
  have ct_19 := ctStore_le a0
  refine Ev.bind (markStore_ev a0 (q0) 1 (by first | omega | (dsimp only; omega)) (by first | omega | (dsimp only; omega))) ?_
  have ct_20 := ctDisk_le a1
  refine Ev.bind (markDisk_ev a1 (q1) _ (by first | omega | (dsimp only; omega)) (by first | omega | (dsimp only; omega))) ?_
  have ct_21 := ctFollower_le a2
  refine Ev.bind (markFollower_ev a2 (q2) _ (by first | omega | (dsimp only; omega)) (by first | omega | (dsimp only; omega))) ?_
  refine Ev.skip (by first | omega | (dsimp only; omega)) ?_
  refine Ev.bind (eqParcel_ev r.1 (hb)) ?_
  refine Ev.notF ?_
  have ct_23 := ctParcel_le r.1
  refine Ev.bind (markParcel_ev r.1 (hb) 1 (by first | omega | (dsimp only; omega)) (by first | omega | (dsimp only; omega))) ?_
  refine Ev.bind (heldParcel_mk r.1 (hb) 1 (by omega) (by omega)) ?_
  refine Ev.skip (by first | omega | (dsimp only; omega)) ?_
  refine Ev.skipEq rfl ?_
  refine Ev.bind (toStore_ev a0 w0) ?_
  refine Ev.bind (toDisk_ev a1 w1) ?_
  refine Ev.bind (toFollower_ev a2 w2) ?_
  refine Ev.bind hi ?_
  refine Ev.bind (eqParcel_ev r.1 (hb)) ?_
  refine Ev.notF ?_
  refine Ev.bind (heldParcel_mk r.1 (hb) 1 (by omega) (by omega)) ?_
  refine Ev.skip (by first | omega | (dsimp only; omega)) ?_
  refine Ev.skipEq rfl ?_
  exact Ev.of fun _ => rfl
end Go.Proofs.YtgcahahklmfleaaGreatDoor.G

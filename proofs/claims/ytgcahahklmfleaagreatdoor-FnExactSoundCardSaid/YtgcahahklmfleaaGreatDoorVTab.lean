/- V's table of the types of this seat, and its checks. -/
import Derived.Test.YtgcahahklmfleaaGreatDoorProg
import Derived.Test.YtgcahahklmfleaaGreatDoorVS9
import Derived.Test.YtgcahahklmfleaaGreatDoorVS10
import Derived.Lib.LaidTab
import Derived.Lib.ItoaNum
set_option maxRecDepth 100000
namespace Go.Proofs.YtgcahahklmfleaaGreatDoor.G
open Go.V
def tb : Tab := ⟨[(2, (.int .i64)),
   (3, (.int .i64)),
   (4, .bool),
   (5, (.int .u8)),
   (9, .str),
   (12, (.int .u64)),
   (21, (.int .i32)),
   (22, (.slice (.int .i64))),
   (23, (.pair (.int .i64) (.pair (.slice (.int .i64)) .unit))),
   (24, (.pair (.int .i64) (.pair (.slice (.int .i64)) .unit))),
   (153, (.pair .str (.pair (.int .i64) (.pair (.int .i64) (.pair (.int .i64) (.pair (.int .i64) .unit)))))),
   (25, (.slice (.pair .str (.pair (.int .i64) (.pair (.int .i64) (.pair (.int .i64) (.pair (.int .i64) .unit))))))),
   (26, (.pair (.pair (.int .i64) (.pair (.slice (.int .i64)) .unit)) (.pair (.slice (.pair .str (.pair (.int .i64) (.pair (.int .i64) (.pair (.int .i64) (.pair (.int .i64) .unit)))))) (.pair (.int .i64) (.pair (.int .i64) (.pair (.int .i64) .unit)))))),
   (27, (.pair (.pair (.int .i64) (.pair (.slice (.int .i64)) .unit)) (.pair (.slice (.pair .str (.pair (.int .i64) (.pair (.int .i64) (.pair (.int .i64) (.pair (.int .i64) .unit)))))) (.pair (.int .i64) (.pair (.int .i64) (.pair (.int .i64) .unit)))))),
   (156, (.pair .str (.pair .str (.pair (.int .i64) .unit)))),
   (28, (.slice (.pair .str (.pair .str (.pair (.int .i64) .unit))))),
   (29, (.pair (.slice (.pair .str (.pair .str (.pair (.int .i64) .unit)))) (.pair (.int .i64) (.pair (.int .i64) (.pair .bool .unit))))),
   (30, (.pair (.slice (.pair .str (.pair .str (.pair (.int .i64) .unit)))) (.pair (.int .i64) (.pair (.int .i64) (.pair .bool .unit))))),
   (34, (.pair (.int .i64) (.pair (.slice (.int .i64)) .unit))),
   (109, (.pair .str (.pair (.int .i64) (.pair (.int .i64) (.pair (.int .i64) (.pair (.int .i64) .unit)))))),
   (35, (.slice (.pair .str (.pair (.int .i64) (.pair (.int .i64) (.pair (.int .i64) (.pair (.int .i64) .unit))))))),
   (36, (.pair (.pair (.int .i64) (.pair (.slice (.int .i64)) .unit)) (.pair (.slice (.pair .str (.pair (.int .i64) (.pair (.int .i64) (.pair (.int .i64) (.pair (.int .i64) .unit)))))) (.pair (.int .i64) (.pair (.int .i64) (.pair (.int .i64) .unit)))))),
   (37, (.pair (.pair (.int .i64) (.pair (.slice (.int .i64)) .unit)) (.pair (.slice (.pair .str (.pair (.int .i64) (.pair (.int .i64) (.pair (.int .i64) (.pair (.int .i64) .unit)))))) (.pair (.int .i64) (.pair (.int .i64) (.pair (.int .i64) .unit)))))),
   (168, (.pair .str (.pair .str (.pair (.int .i64) .unit)))),
   (39, (.slice (.pair .str (.pair .str (.pair (.int .i64) .unit))))),
   (40, (.pair (.slice (.pair .str (.pair .str (.pair (.int .i64) .unit)))) (.pair (.int .i64) (.pair (.int .i64) (.pair .bool .unit))))),
   (41, (.pair (.slice (.pair .str (.pair .str (.pair (.int .i64) .unit)))) (.pair (.int .i64) (.pair (.int .i64) (.pair .bool .unit))))),
   (176, (.pair .str (.pair (.int .i64) (.pair .str .unit)))),
   (48, (.slice (.pair .str (.pair (.int .i64) (.pair .str .unit))))),
   (49, (.pair (.int .i64) (.pair (.slice (.pair .str (.pair (.int .i64) (.pair .str .unit)))) (.pair (.int .i64) .unit)))),
   (50, (.pair (.int .i64) (.pair (.slice (.pair .str (.pair (.int .i64) (.pair .str .unit)))) (.pair (.int .i64) .unit)))),
   (113, (.pair .str (.pair (.int .i64) (.pair .str .unit)))),
   (52, (.slice (.pair .str (.pair (.int .i64) (.pair .str .unit))))),
   (53, (.pair (.int .i64) (.pair (.slice (.pair .str (.pair (.int .i64) (.pair .str .unit)))) (.pair (.int .i64) .unit)))),
   (54, (.pair (.int .i64) (.pair (.slice (.pair .str (.pair (.int .i64) (.pair .str .unit)))) (.pair (.int .i64) .unit)))),
   (55, (.pair .str (.pair .str (.pair (.int .i64) .unit)))),
   (56, (.pair .str (.pair .str (.pair (.int .i64) .unit)))),
   (181, (.pair (.int .i64) (.pair .str .unit))),
   (66, (.slice (.pair (.int .i64) (.pair .str .unit)))),
   (67, (.pair (.int .i64) (.pair (.slice (.pair (.int .i64) (.pair .str .unit))) .unit))),
   (68, (.pair (.int .i64) (.pair (.slice (.pair (.int .i64) (.pair .str .unit))) .unit))),
   (128, (.pair (.int .i64) (.pair (.int .i64) (.pair .str .unit)))),
   (70, (.slice (.pair (.int .i64) (.pair (.int .i64) (.pair .str .unit))))),
   (71, (.pair (.int .i64) (.pair (.slice (.pair (.int .i64) (.pair (.int .i64) (.pair .str .unit)))) .unit))),
   (72, (.pair (.int .i64) (.pair (.slice (.pair (.int .i64) (.pair (.int .i64) (.pair .str .unit)))) .unit))),
   (183, (.pair (.int .i64) (.pair .str .unit))),
   (74, (.slice (.pair (.int .i64) (.pair .str .unit)))),
   (75, (.pair (.int .i64) (.pair (.slice (.pair (.int .i64) (.pair .str .unit))) .unit))),
   (76, (.pair (.int .i64) (.pair (.slice (.pair (.int .i64) (.pair .str .unit))) .unit))),
   (85, (.pair .bool (.pair (.int .i64) (.pair (.int .i64) (.pair (.int .i64) (.pair (.int .i64) (.pair (.int .i64) (.pair (.int .i64) .unit)))))))),
   (86, (.pair .bool (.pair (.int .i64) (.pair (.int .i64) (.pair (.int .i64) (.pair (.int .i64) (.pair (.int .i64) (.pair (.int .i64) .unit)))))))),
   (92, (.slice (.pair .str (.pair .str (.pair (.int .i64) .unit))))),
   (108, (.pair .str (.pair (.int .i64) (.pair (.int .i64) (.pair (.int .i64) (.pair (.int .i64) .unit)))))),
   (112, (.pair .str (.pair (.int .i64) (.pair .str .unit)))),
   (127, (.pair (.int .i64) (.pair (.int .i64) (.pair .str .unit)))),
   (137, (.slice .str)),
   (146, (.pair (.int .i64) (.pair (.int .i64) (.pair .str (.pair .str (.pair (.int .i64) (.pair (.int .i64) .unit))))))),
   (148, (.pair (.int .i64) (.pair (.int .i64) (.pair (.int .i64) (.pair (.pair (.int .i64) (.pair (.int .i64) (.pair .str (.pair .str (.pair (.int .i64) (.pair (.int .i64) .unit)))))) .unit))))),
   (139, (.slice (.pair (.int .i64) (.pair (.int .i64) (.pair (.int .i64) (.pair (.pair (.int .i64) (.pair (.int .i64) (.pair .str (.pair .str (.pair (.int .i64) (.pair (.int .i64) .unit)))))) .unit)))))),
   (197, (.pair (.int .i64) (.pair (.int .i64) (.pair (.pair (.int .i64) (.pair (.int .i64) (.pair .str (.pair .str (.pair (.int .i64) (.pair (.int .i64) .unit)))))) .unit)))),
   (140, (.slice (.pair (.int .i64) (.pair (.int .i64) (.pair (.pair (.int .i64) (.pair (.int .i64) (.pair .str (.pair .str (.pair (.int .i64) (.pair (.int .i64) .unit)))))) .unit))))),
   (145, (.pair (.int .i64) (.pair (.int .i64) (.pair .str (.pair .str (.pair (.int .i64) (.pair (.int .i64) .unit))))))),
   (147, (.pair (.int .i64) (.pair (.int .i64) (.pair (.int .i64) (.pair (.pair (.int .i64) (.pair (.int .i64) (.pair .str (.pair .str (.pair (.int .i64) (.pair (.int .i64) .unit)))))) .unit))))),
   (155, (.pair .str (.pair .str (.pair (.int .i64) .unit)))),
   (161, (.slice (.pair (.int .i64) (.pair (.int .i64) (.pair .str (.pair .str (.pair (.int .i64) (.pair (.int .i64) .unit)))))))),
   (180, (.pair (.int .i64) (.pair .str .unit))),
   (196, (.pair (.int .i64) (.pair (.int .i64) (.pair (.pair (.int .i64) (.pair (.int .i64) (.pair .str (.pair .str (.pair (.int .i64) (.pair (.int .i64) .unit)))))) .unit)))),
   (200, .opq),
   (201, (.pair .str (.pair .bool .unit))),
   (202, (.pair .str (.pair .bool .unit))),
   (212, (.slice (.int .u8))),
   (219, (.int .u32)),
   (220, (.int .u64)),
   (227, (.int .i64)),
   (230, .opq),
   (234, (.int .u64)),
   (251, .opq),
   (252, .opq),
   (253, (.pair .str .unit)),
   (254, (.pair .str .unit))],
  [(23, [(0, 1), (1, 1)]), (24, [(0, 1), (1, 1)]), (153, [(0, 1), (1, 1), (2, 1), (3, 1), (4, 1)]), (26, [(0, 2), (2, 1), (3, 1), (4, 1), (5, 1)]), (27, [(0, 2), (2, 1), (3, 1), (4, 1), (5, 1)]), (156, [(0, 1), (1, 1), (2, 1)]), (29, [(0, 1), (1, 1), (2, 1), (3, 1)]), (30, [(0, 1), (1, 1), (2, 1), (3, 1)]), (34, [(0, 1), (1, 1)]), (109, [(0, 1), (1, 1), (2, 1), (3, 1), (4, 1)]), (36, [(0, 2), (2, 1), (3, 1), (4, 1), (5, 1)]), (37, [(0, 2), (2, 1), (3, 1), (4, 1), (5, 1)]), (168, [(0, 1), (1, 1), (2, 1)]), (40, [(0, 1), (1, 1), (2, 1), (3, 1)]), (41, [(0, 1), (1, 1), (2, 1), (3, 1)]), (176, [(0, 1), (1, 1), (2, 1)]), (49, [(0, 1), (1, 1), (2, 1)]), (50, [(0, 1), (1, 1), (2, 1)]), (113, [(0, 1), (1, 1), (2, 1)]), (53, [(0, 1), (1, 1), (2, 1)]), (54, [(0, 1), (1, 1), (2, 1)]), (55, [(0, 1), (1, 1), (2, 1)]), (56, [(0, 1), (1, 1), (2, 1)]), (181, [(0, 1), (1, 1)]), (67, [(0, 1), (1, 1)]), (68, [(0, 1), (1, 1)]), (128, [(0, 1), (1, 1), (2, 1)]), (71, [(0, 1), (1, 1)]), (72, [(0, 1), (1, 1)]), (183, [(0, 1), (1, 1)]), (75, [(0, 1), (1, 1)]), (76, [(0, 1), (1, 1)]), (85, [(0, 1), (1, 1), (2, 1), (3, 1), (4, 1), (5, 1), (6, 1)]), (86, [(0, 1), (1, 1), (2, 1), (3, 1), (4, 1), (5, 1), (6, 1)]), (108, [(0, 1), (1, 1), (2, 1), (3, 1), (4, 1)]), (112, [(0, 1), (1, 1), (2, 1)]), (127, [(0, 1), (1, 1), (2, 1)]), (146, [(0, 1), (1, 1), (2, 1), (3, 1), (4, 1), (5, 1)]), (148, [(0, 1), (1, 1), (2, 1), (3, 6)]), (197, [(0, 1), (1, 1), (2, 6)]), (145, [(0, 1), (1, 1), (2, 1), (3, 1), (4, 1), (5, 1)]), (147, [(0, 1), (1, 1), (2, 1), (3, 6)]), (155, [(0, 1), (1, 1), (2, 1)]), (180, [(0, 1), (1, 1)]), (196, [(0, 1), (1, 1), (2, 6)]), (201, [(0, 1), (1, 1)]), (202, [(0, 1), (1, 1)]), (253, [(0, 1)]), (254, [(0, 1)])],
  [(153, [.str, (.int .i64), (.int .i64), (.int .i64), (.int .i64)]), (156, [.str, .str, (.int .i64)]), (109, [.str, (.int .i64), (.int .i64), (.int .i64), (.int .i64)]), (168, [.str, .str, (.int .i64)]), (176, [.str, (.int .i64), .str]), (113, [.str, (.int .i64), .str]), (55, [.str, .str, (.int .i64)]), (56, [.str, .str, (.int .i64)]), (181, [(.int .i64), .str]), (128, [(.int .i64), (.int .i64), .str]), (183, [(.int .i64), .str]), (85, [.bool, (.int .i64), (.int .i64), (.int .i64), (.int .i64), (.int .i64), (.int .i64)]), (86, [.bool, (.int .i64), (.int .i64), (.int .i64), (.int .i64), (.int .i64), (.int .i64)]), (108, [.str, (.int .i64), (.int .i64), (.int .i64), (.int .i64)]), (112, [.str, (.int .i64), .str]), (127, [(.int .i64), (.int .i64), .str]), (146, [(.int .i64), (.int .i64), .str, .str, (.int .i64), (.int .i64)]), (145, [(.int .i64), (.int .i64), .str, .str, (.int .i64), (.int .i64)]), (155, [.str, .str, (.int .i64)]), (180, [(.int .i64), .str]), (201, [.str, .bool]), (202, [.str, .bool]), (253, [.str]), (254, [.str])],
  [(23, [3, 22]), (24, [3, 22]), (153, [9, 3, 3, 3, 3]), (26, [24, 25, 3, 3, 3]), (27, [24, 25, 3, 3, 3]), (156, [9, 9, 3]), (29, [28, 3, 3, 4]), (30, [28, 3, 3, 4]), (34, [3, 22]), (109, [9, 3, 3, 3, 3]), (36, [34, 35, 3, 3, 3]), (37, [34, 35, 3, 3, 3]), (168, [9, 9, 3]), (40, [39, 3, 3, 4]), (41, [39, 3, 3, 4]), (176, [9, 3, 9]), (49, [3, 48, 3]), (50, [3, 48, 3]), (113, [9, 3, 9]), (53, [3, 52, 3]), (54, [3, 52, 3]), (55, [9, 9, 3]), (56, [9, 9, 3]), (181, [3, 9]), (67, [3, 66]), (68, [3, 66]), (128, [3, 3, 9]), (71, [3, 70]), (72, [3, 70]), (183, [3, 9]), (75, [3, 74]), (76, [3, 74]), (85, [4, 3, 3, 3, 3, 3, 3]), (86, [4, 3, 3, 3, 3, 3, 3]), (108, [9, 3, 3, 3, 3]), (112, [9, 3, 9]), (127, [3, 3, 9]), (146, [3, 3, 9, 9, 3, 3]), (148, [3, 3, 3, 146]), (197, [3, 3, 146]), (145, [3, 3, 9, 9, 3, 3]), (147, [3, 3, 3, 146]), (155, [9, 9, 3]), (180, [3, 9]), (196, [3, 3, 146]), (201, [9, 4]), (202, [9, 4]), (253, [9]), (254, [9])]⟩
theorem tb_ok : tabCheck Tryz.prog tb = true := by kernel_rfl
theorem tb_rows : rowsCheck tb = true := by kernel_rfl
theorem tb_eqs : eqsCheck Tryz.prog tb = true := by kernel_rfl
theorem mixed : Tryz.prog.follows .mixedOrders = true := by kernel_rfl
theorem gPow : Tryz.prog.globalNamed "internal/strconv.uint64pow10" = some 2 := by kernel_rfl
theorem gSyn : Tryz.prog.globalNamed "strconv.ErrSyntax" = some 0 := by kernel_rfl
theorem gRng : Tryz.prog.globalNamed "strconv.ErrRange" = some 1 := by kernel_rfl
theorem var_frame {P : Program} {w w' : World} {name : String} {i n : Nat} (hg : P.globalNamed name = some i) (hi : i < n) (h : ∀ k, k < n → w'.heap[k]? = w.heap[k]?) : w'.var? P name = w.var? P name := by
  unfold World.var?
  rw [hg, Option.bind_some, Option.bind_some, h i hi]
/-- What is known of the tables and of the two errors of strconv. -/
def J : Gl where
  n := 3
  ok := fun w => 3 ≤ w.heap.size ∧ Lib.TabIs Tryz.prog w "internal/strconv.uint64pow10" .u64 Lib.pow10Tab ∧ (∃ t p, w.var? Tryz.prog "strconv.ErrSyntax" = some #[.iface t p]) ∧ (∃ t p, w.var? Tryz.prog "strconv.ErrRange" = some #[.iface t p]) ∧ True
  lt := fun w h => h.1
  frame := fun w w' h hb hs => ⟨Nat.le_trans h.1 hs, (by unfold Lib.TabIs; rw [var_frame gPow (by decide) hb]; exact h.2.1), (by rw [var_frame gSyn (by decide) hb]; exact h.2.2.1), (by rw [var_frame gRng (by decide) hb]; exact h.2.2.2.1), trivial⟩
/-- A path, out of a number's bits. -/
def bt : Nat → Nat → List Bool
  | 0, _ => []
  | d + 1, n => (n % 2 == 1) :: bt d (n / 2)
/-- What is behind a loop's round, where a loop within it ends. -/
noncomputable def lpK {R : Type} (E : Env) (c : Code) (g : Nat) (lv : List Nat) (K : Ex → St → Option R) (n : Nat) : Ex → St → Option R := fun e st => match e with
  | .normal => loopN (exec E c) (canon g lv) K n (canon g lv st)
  | .ret => K .ret st
  | .exit j => K (.exit j) st
theorem loop_eq {α : Type} {V l : Nat → α} {b : α → α} (h0 : V 0 = l 0) (hs : ∀ n, V (n + 1) = b (V n)) (hl : ∀ n, l (n + 1) = b (l n)) : ∀ n, V n = l n
  | 0 => h0
  | n + 1 => by rw [hs, hl, loop_eq h0 hs hl n]
def Cts (P : Program) (ct : List (Nat × Cn)) : Prop := ∀ g c, V.look ct g = some c → Ctr J P g c
theorem Cts.nil {P : Program} : Cts P [] := fun g c h => by cases h
theorem Cts.cons {P : Program} {f : Nat} {c : Cn} {ct : List (Nat × Cn)} (h : Ctr J P f c) (t : Cts P ct) : Cts P ((f, c) :: ct) := fun g d q => by
  simp only [V.look] at q
  cases hb : Nat.beq f g with
  | true => rw [hb] at q; cases q; rw [← Nat.eq_of_beq_eq_true hb]; exact h
  | false => rw [hb] at q; exact t g d q
end Go.Proofs.YtgcahahklmfleaaGreatDoor.G

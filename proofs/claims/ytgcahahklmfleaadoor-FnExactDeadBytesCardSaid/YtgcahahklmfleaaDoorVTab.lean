/- V's table of the types of this seat, and its checks. -/
import Derived.Test.YtgcahahklmfleaaDoorProg
import Derived.Test.YtgcahahklmfleaaDoorVSound30
import Derived.Test.YtgcahahklmfleaaDoorVSound31
import Derived.Test.YtgcahahklmfleaaDoorVSound34
import Derived.Lib.LaidTab
import Derived.Lib.ItoaNum
set_option maxRecDepth 100000
namespace Go.Proofs.YtgcahahklmfleaaDoor.G
open Go.V
def tb : Tab := ⟨[(2, (.int .i64)),
   (3, (.int .i64)),
   (4, .bool),
   (5, (.int .u8)),
   (9, .str),
   (12, (.int .u64)),
   (21, (.int .i32)),
   (22, (.slice (.int .i64))),
   (23, (.pair (.int .i64) (.pair (.slice (.int .i64)) .unit))),
   (24, (.pair (.int .i64) (.pair (.slice (.int .i64)) .unit))),
   (59, (.pair .str (.pair (.int .i64) (.pair (.int .i64) (.pair (.int .i64) (.pair (.int .i64) .unit)))))),
   (25, (.slice (.pair .str (.pair (.int .i64) (.pair (.int .i64) (.pair (.int .i64) (.pair (.int .i64) .unit))))))),
   (26, (.pair (.pair (.int .i64) (.pair (.slice (.int .i64)) .unit)) (.pair (.slice (.pair .str (.pair (.int .i64) (.pair (.int .i64) (.pair (.int .i64) (.pair (.int .i64) .unit)))))) (.pair (.int .i64) (.pair (.int .i64) (.pair (.int .i64) .unit)))))),
   (27, (.pair (.pair (.int .i64) (.pair (.slice (.int .i64)) .unit)) (.pair (.slice (.pair .str (.pair (.int .i64) (.pair (.int .i64) (.pair (.int .i64) (.pair (.int .i64) .unit)))))) (.pair (.int .i64) (.pair (.int .i64) (.pair (.int .i64) .unit)))))),
   (62, (.pair .str (.pair .str (.pair (.int .i64) .unit)))),
   (28, (.slice (.pair .str (.pair .str (.pair (.int .i64) .unit))))),
   (29, (.pair (.slice (.pair .str (.pair .str (.pair (.int .i64) .unit)))) (.pair (.int .i64) (.pair (.int .i64) (.pair .bool .unit))))),
   (30, (.pair (.slice (.pair .str (.pair .str (.pair (.int .i64) .unit)))) (.pair (.int .i64) (.pair (.int .i64) (.pair .bool .unit))))),
   (34, (.pair (.int .i64) (.pair (.slice (.int .i64)) .unit))),
   (50, (.pair .str (.pair (.int .i64) (.pair (.int .i64) (.pair (.int .i64) (.pair (.int .i64) .unit)))))),
   (35, (.slice (.pair .str (.pair (.int .i64) (.pair (.int .i64) (.pair (.int .i64) (.pair (.int .i64) .unit))))))),
   (36, (.pair (.pair (.int .i64) (.pair (.slice (.int .i64)) .unit)) (.pair (.slice (.pair .str (.pair (.int .i64) (.pair (.int .i64) (.pair (.int .i64) (.pair (.int .i64) .unit)))))) (.pair (.int .i64) (.pair (.int .i64) (.pair (.int .i64) .unit)))))),
   (37, (.pair (.pair (.int .i64) (.pair (.slice (.int .i64)) .unit)) (.pair (.slice (.pair .str (.pair (.int .i64) (.pair (.int .i64) (.pair (.int .i64) (.pair (.int .i64) .unit)))))) (.pair (.int .i64) (.pair (.int .i64) (.pair (.int .i64) .unit)))))),
   (68, (.pair .str (.pair .str (.pair (.int .i64) .unit)))),
   (39, (.slice (.pair .str (.pair .str (.pair (.int .i64) .unit))))),
   (40, (.pair (.slice (.pair .str (.pair .str (.pair (.int .i64) .unit)))) (.pair (.int .i64) (.pair (.int .i64) (.pair .bool .unit))))),
   (41, (.pair (.slice (.pair .str (.pair .str (.pair (.int .i64) .unit)))) (.pair (.int .i64) (.pair (.int .i64) (.pair .bool .unit))))),
   (49, (.pair .str (.pair (.int .i64) (.pair (.int .i64) (.pair (.int .i64) (.pair (.int .i64) .unit)))))),
   (61, (.pair .str (.pair .str (.pair (.int .i64) .unit)))),
   (79, (.slice (.int .u8))),
   (82, (.int .u64)),
   (90, (.int .u32)),
   (93, (.int .u64)),
   (108, .opq)],
  [(23, [(0, 1), (1, 1)]), (24, [(0, 1), (1, 1)]), (59, [(0, 1), (1, 1), (2, 1), (3, 1), (4, 1)]), (26, [(0, 2), (2, 1), (3, 1), (4, 1), (5, 1)]), (27, [(0, 2), (2, 1), (3, 1), (4, 1), (5, 1)]), (62, [(0, 1), (1, 1), (2, 1)]), (29, [(0, 1), (1, 1), (2, 1), (3, 1)]), (30, [(0, 1), (1, 1), (2, 1), (3, 1)]), (34, [(0, 1), (1, 1)]), (50, [(0, 1), (1, 1), (2, 1), (3, 1), (4, 1)]), (36, [(0, 2), (2, 1), (3, 1), (4, 1), (5, 1)]), (37, [(0, 2), (2, 1), (3, 1), (4, 1), (5, 1)]), (68, [(0, 1), (1, 1), (2, 1)]), (40, [(0, 1), (1, 1), (2, 1), (3, 1)]), (41, [(0, 1), (1, 1), (2, 1), (3, 1)]), (49, [(0, 1), (1, 1), (2, 1), (3, 1), (4, 1)]), (61, [(0, 1), (1, 1), (2, 1)])],
  [(59, [.str, (.int .i64), (.int .i64), (.int .i64), (.int .i64)]), (62, [.str, .str, (.int .i64)]), (50, [.str, (.int .i64), (.int .i64), (.int .i64), (.int .i64)]), (68, [.str, .str, (.int .i64)]), (49, [.str, (.int .i64), (.int .i64), (.int .i64), (.int .i64)]), (61, [.str, .str, (.int .i64)])],
  [(23, [3, 22]), (24, [3, 22]), (59, [9, 3, 3, 3, 3]), (26, [24, 25, 3, 3, 3]), (27, [24, 25, 3, 3, 3]), (62, [9, 9, 3]), (29, [28, 3, 3, 4]), (30, [28, 3, 3, 4]), (34, [3, 22]), (50, [9, 3, 3, 3, 3]), (36, [34, 35, 3, 3, 3]), (37, [34, 35, 3, 3, 3]), (68, [9, 9, 3]), (40, [39, 3, 3, 4]), (41, [39, 3, 3, 4]), (49, [9, 3, 3, 3, 3]), (61, [9, 9, 3])]⟩
theorem tb_ok : tabCheck Tryd.prog tb = true := by kernel_rfl
theorem tb_rows : rowsCheck tb = true := by kernel_rfl
theorem tb_eqs : eqsCheck Tryd.prog tb = true := by kernel_rfl
theorem mixed : Tryd.prog.follows .mixedOrders = true := by kernel_rfl
theorem gPow : Tryd.prog.globalNamed "internal/strconv.uint64pow10" = some 0 := by kernel_rfl
theorem var_frame {P : Program} {w w' : World} {name : String} {i n : Nat} (hg : P.globalNamed name = some i) (hi : i < n) (h : ∀ k, k < n → w'.heap[k]? = w.heap[k]?) : w'.var? P name = w.var? P name := by
  unfold World.var?
  rw [hg, Option.bind_some, Option.bind_some, h i hi]
/-- What is known of the tables and of the two errors of strconv. -/
def J : Gl where
  n := 1
  ok := fun w => 1 ≤ w.heap.size ∧ Lib.TabIs Tryd.prog w "internal/strconv.uint64pow10" .u64 Lib.pow10Tab ∧ True
  lt := fun w h => h.1
  frame := fun w w' h hb hs => ⟨Nat.le_trans h.1 hs, (by unfold Lib.TabIs; rw [var_frame gPow (by decide) hb]; exact h.2.1), trivial⟩
/-- A path, out of a number's bits. -/
def bt : Nat → Nat → List Bool
  | 0, _ => []
  | d + 1, n => (n % 2 == 1) :: bt d (n / 2)
/-- What is behind a loop's round, where a loop within it ends. -/
noncomputable def lpK {R : Type} (E : Env) (c : Code) (g : Nat) (lv : List Nat) (K : Ex → St → Option R) (n : Nat) : Ex → St → Option R := fun e st => match e with
  | .normal => loopN (exec E c) (canon g lv) K n (canon g lv st)
  | .ret => K .ret st
  | .exit j => K (.exit j) st
theorem loop_eq {α : Type} {V l : Nat → α} {b : α → α} (h0 : V 0 = l 0) (hs : ∀ n, V (n + 1) = b (V n)) (hl : ∀ n, l (n + 1) = b (l n)) : ∀ n, V n = l n
  | 0 => h0
  | n + 1 => by rw [hs, hl, loop_eq h0 hs hl n]
def Cts (P : Program) (ct : List (Nat × Cn)) : Prop := ∀ g c, V.look ct g = some c → Ctr J P g c
theorem Cts.nil {P : Program} : Cts P [] := fun g c h => by cases h
theorem Cts.cons {P : Program} {f : Nat} {c : Cn} {ct : List (Nat × Cn)} (h : Ctr J P f c) (t : Cts P ct) : Cts P ((f, c) :: ct) := fun g d q => by
  simp only [V.look] at q
  cases hb : Nat.beq f g with
  | true => rw [hb] at q; cases q; rw [← Nat.eq_of_beq_eq_true hb]; exact h
  | false => rw [hb] at q; exact t g d q
end Go.Proofs.YtgcahahklmfleaaDoor.G

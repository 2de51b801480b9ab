/- V's table of the types of this seat, and its checks. -/
import Derived.Test.YtccccehgfmphjaaDoorProg
import Derived.Test.YtccccehgfmphjaaDoorVS9
import Derived.Test.YtccccehgfmphjaaDoorVS10
import Derived.Lib.LaidTab
import Derived.Lib.ItoaNum
set_option maxRecDepth 100000
namespace Go.Proofs.YtccccehgfmphjaaDoor.G
open Go.V
def tb : Tab := ⟨[(2, (.int .i64)),
   (3, (.int .i64)),
   (4, .bool),
   (5, (.int .u8)),
   (9, .str),
   (12, (.int .u64)),
   (21, (.int .i32)),
   (22, (.slice (.int .u8))),
   (24, (.slice (.int .i64))),
   (25, (.pair (.int .i64) (.pair (.slice (.int .i64)) .unit))),
   (26, (.pair (.int .i64) (.pair (.slice (.int .i64)) .unit))),
   (65, (.pair .str (.pair .str (.pair (.int .i64) .unit)))),
   (37, (.slice (.pair .str (.pair .str (.pair (.int .i64) .unit))))),
   (38, (.pair (.slice (.pair .str (.pair .str (.pair (.int .i64) .unit)))) (.pair (.int .i64) (.pair (.int .i64) (.pair .bool .unit))))),
   (39, (.pair (.slice (.pair .str (.pair .str (.pair (.int .i64) .unit)))) (.pair (.int .i64) (.pair (.int .i64) (.pair .bool .unit))))),
   (42, (.slice .str)),
   (46, .opq),
   (53, .opq),
   (54, (.pair .str (.pair .bool .unit))),
   (55, (.pair .str (.pair .bool .unit))),
   (64, (.pair .str (.pair .str (.pair (.int .i64) .unit)))),
   (66, (.pair (.slice (.int .u8)) (.pair (.int .i64) (.pair (.int .i64) .unit)))),
   (67, (.pair (.slice (.int .u8)) (.pair (.int .i64) (.pair (.int .i64) .unit)))),
   (81, (.int .u32)),
   (82, (.int .u64)),
   (91, (.int .i64)),
   (94, .opq),
   (101, (.int .u64)),
   (110, .opq),
   (111, .opq),
   (112, (.pair .str .unit)),
   (113, (.pair .str .unit))],
  [(25, [(0, 1), (1, 1)]), (26, [(0, 1), (1, 1)]), (65, [(0, 1), (1, 1), (2, 1)]), (38, [(0, 1), (1, 1), (2, 1), (3, 1)]), (39, [(0, 1), (1, 1), (2, 1), (3, 1)]), (54, [(0, 1), (1, 1)]), (55, [(0, 1), (1, 1)]), (64, [(0, 1), (1, 1), (2, 1)]), (66, [(0, 1), (1, 1), (2, 1)]), (67, [(0, 1), (1, 1), (2, 1)]), (112, [(0, 1)]), (113, [(0, 1)])],
  [(65, [.str, .str, (.int .i64)]), (54, [.str, .bool]), (55, [.str, .bool]), (64, [.str, .str, (.int .i64)]), (112, [.str]), (113, [.str])],
  [(25, [3, 24]), (26, [3, 24]), (65, [9, 9, 3]), (38, [37, 3, 3, 4]), (39, [37, 3, 3, 4]), (54, [9, 4]), (55, [9, 4]), (64, [9, 9, 3]), (66, [22, 3, 3]), (67, [22, 3, 3]), (112, [9]), (113, [9])]⟩
theorem tb_ok : tabCheck Tryd.prog tb = true := by kernel_rfl
theorem tb_rows : rowsCheck tb = true := by kernel_rfl
theorem tb_eqs : eqsCheck Tryd.prog tb = true := by kernel_rfl
theorem mixed : Tryd.prog.follows .mixedOrders = true := by kernel_rfl
theorem gPow : Tryd.prog.globalNamed "internal/strconv.uint64pow10" = some 2 := by kernel_rfl
theorem gSyn : Tryd.prog.globalNamed "strconv.ErrSyntax" = some 0 := by kernel_rfl
theorem gRng : Tryd.prog.globalNamed "strconv.ErrRange" = some 1 := by kernel_rfl
theorem var_frame {P : Program} {w w' : World} {name : String} {i n : Nat} (hg : P.globalNamed name = some i) (hi : i < n) (h : ∀ k, k < n → w'.heap[k]? = w.heap[k]?) : w'.var? P name = w.var? P name := by
  unfold World.var?
  rw [hg, Option.bind_some, Option.bind_some, h i hi]
/-- What is known of the tables and of the two errors of strconv. -/
def J : Gl where
  n := 3
  ok := fun w => 3 ≤ w.heap.size ∧ Lib.TabIs Tryd.prog w "internal/strconv.uint64pow10" .u64 Lib.pow10Tab ∧ (∃ t p, w.var? Tryd.prog "strconv.ErrSyntax" = some #[.iface t p]) ∧ (∃ t p, w.var? Tryd.prog "strconv.ErrRange" = some #[.iface t p]) ∧ True
  lt := fun w h => h.1
  frame := fun w w' h hb hs => ⟨Nat.le_trans h.1 hs, (by unfold Lib.TabIs; rw [var_frame gPow (by decide) hb]; exact h.2.1), (by rw [var_frame gSyn (by decide) hb]; exact h.2.2.1), (by rw [var_frame gRng (by decide) hb]; exact h.2.2.2.1), trivial⟩
/-- A path, out of a number's bits. -/
def bt : Nat → Nat → List Bool
  | 0, _ => []
  | d + 1, n => (n % 2 == 1) :: bt d (n / 2)
/-- What is behind a loop's round, where a loop within it ends. -/
noncomputable def lpK {R : Type} (E : Env) (c : Code) (g : Nat) (lv : List Nat) (K : Ex → St → Option R) (n : Nat) : Ex → St → Option R := fun e st => match e with
  | .normal => loopN (exec E c) (canon g lv) K n (canon g lv st)
  | .ret => K .ret st
  | .exit j => K (.exit j) st
theorem loop_eq {α : Type} {V l : Nat → α} {b : α → α} (h0 : V 0 = l 0) (hs : ∀ n, V (n + 1) = b (V n)) (hl : ∀ n, l (n + 1) = b (l n)) : ∀ n, V n = l n
  | 0 => h0
  | n + 1 => by rw [hs, hl, loop_eq h0 hs hl n]
def Cts (P : Program) (ct : List (Nat × Cn)) : Prop := ∀ g c, V.look ct g = some c → Ctr J P g c
theorem Cts.nil {P : Program} : Cts P [] := fun g c h => by cases h
theorem Cts.cons {P : Program} {f : Nat} {c : Cn} {ct : List (Nat × Cn)} (h : Ctr J P f c) (t : Cts P ct) : Cts P ((f, c) :: ct) := fun g d q => by
  simp only [V.look] at q
  cases hb : Nat.beq f g with
  | true => rw [hb] at q; cases q; rw [← Nat.eq_of_beq_eq_true hb]; exact h
  | false => rw [hb] at q; exact t g d q
end Go.Proofs.YtccccehgfmphjaaDoor.G

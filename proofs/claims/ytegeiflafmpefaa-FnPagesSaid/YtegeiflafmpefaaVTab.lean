/- V's table of the types of this seat, and its checks. -/
import Derived.Test.YtegeiflafmpefaaProg
import Derived.Test.YtegeiflafmpefaaVS9
import Derived.Test.YtegeiflafmpefaaVS10

set_option maxRecDepth 100000
namespace Go.Proofs.Ytegeiflafmpefaa.G
open Go.V
def tb : Tab := ⟨[(2, (.int .i64)),
   (3, (.int .i64)),
   (4, .bool),
   (5, (.int .u8)),
   (9, .str),
   (12, (.int .u64)),
   (21, (.int .i32)),
   (22, (.slice (.int .u8))),
   (34, (.pair .str (.pair (.int .i64) (.pair (.int .i64) (.pair (.int .i64) (.pair (.int .i64) .unit)))))),
   (24, (.slice (.pair .str (.pair (.int .i64) (.pair (.int .i64) (.pair (.int .i64) (.pair (.int .i64) .unit))))))),
   (29, (.slice .str)),
   (33, (.pair .str (.pair (.int .i64) (.pair (.int .i64) (.pair (.int .i64) (.pair (.int .i64) .unit)))))),
   (40, .opq),
   (46, (.pair (.slice (.int .u8)) (.pair (.int .i64) (.pair (.int .i64) .unit)))),
   (47, (.pair (.slice (.int .u8)) (.pair (.int .i64) (.pair (.int .i64) .unit)))),
   (53, (.slice (.int .i64))),
   (56, (.int .u64)),
   (64, (.int .u32)),
   (68, .opq)],
  [(34, [(0, 1), (1, 1), (2, 1), (3, 1), (4, 1)]), (33, [(0, 1), (1, 1), (2, 1), (3, 1), (4, 1)]), (46, [(0, 1), (1, 1), (2, 1)]), (47, [(0, 1), (1, 1), (2, 1)])],
  [(34, [.str, (.int .i64), (.int .i64), (.int .i64), (.int .i64)]), (33, [.str, (.int .i64), (.int .i64), (.int .i64), (.int .i64)])],
  [(34, [9, 3, 3, 3, 3]), (33, [9, 3, 3, 3, 3]), (46, [22, 3, 3]), (47, [22, 3, 3])]⟩
theorem tb_ok : tabCheck Try.prog tb = true := by kernel_rfl
theorem tb_rows : rowsCheck tb = true := by kernel_rfl
theorem tb_eqs : eqsCheck Try.prog tb = true := by kernel_rfl
theorem mixed : Try.prog.follows .mixedOrders = true := by kernel_rfl
def J : Gl := Gl.top
/-- A path, out of a number's bits. -/
def bt : Nat → Nat → List Bool
  | 0, _ => []
  | d + 1, n => (n % 2 == 1) :: bt d (n / 2)
/-- What is behind a loop's round, where a loop within it ends. -/
noncomputable def lpK {R : Type} (E : Env) (c : Code) (g : Nat) (lv : List Nat) (K : Ex → St → Option R) (n : Nat) : Ex → St → Option R := fun e st => match e with
  | .normal => loopN (exec E c) (canon g lv) K n (canon g lv st)
  | .ret => K .ret st
  | .exit j => K (.exit j) st
theorem loop_eq {α : Type} {V l : Nat → α} {b : α → α} (h0 : V 0 = l 0) (hs : ∀ n, V (n + 1) = b (V n)) (hl : ∀ n, l (n + 1) = b (l n)) : ∀ n, V n = l n
  | 0 => h0
  | n + 1 => by rw [hs, hl, loop_eq h0 hs hl n]
def Cts (P : Program) (ct : List (Nat × Cn)) : Prop := ∀ g c, V.look ct g = some c → Ctr J P g c
theorem Cts.nil {P : Program} : Cts P [] := fun g c h => by cases h
theorem Cts.cons {P : Program} {f : Nat} {c : Cn} {ct : List (Nat × Cn)} (h : Ctr J P f c) (t : Cts P ct) : Cts P ((f, c) :: ct) := fun g d q => by
  simp only [V.look] at q
  cases hb : Nat.beq f g with
  | true => rw [hb] at q; cases q; rw [← Nat.eq_of_beq_eq_true hb]; exact h
  | false => rw [hb] at q; exact t g d q
end Go.Proofs.Ytegeiflafmpefaa.G

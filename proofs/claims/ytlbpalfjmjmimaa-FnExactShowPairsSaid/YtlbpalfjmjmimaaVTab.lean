/- V's table of the types of this seat, and its checks. -/
import Derived.Test.YtlbpalfjmjmimaaProg
import Derived.Test.YtlbpalfjmjmimaaVSound30
import Derived.Test.YtlbpalfjmjmimaaVSound31
import Derived.Test.YtlbpalfjmjmimaaVSound34
set_option maxRecDepth 100000
namespace Go.Proofs.Ytlbpalfjmjmimaa.G
open Go.V
def tb : Tab := ⟨[(2, (.int .i64)),
   (3, (.int .i64)),
   (4, .bool),
   (5, (.int .u8)),
   (9, .str),
   (12, (.int .u64)),
   (21, (.int .i32)),
   (105, (.pair .str (.pair .str (.pair (.int .i64) .unit)))),
   (22, (.slice (.pair .str (.pair .str (.pair (.int .i64) .unit))))),
   (107, (.pair .str (.pair .str (.pair (.int .i64) .unit)))),
   (25, (.slice (.pair .str (.pair .str (.pair (.int .i64) .unit))))),
   (160, (.pair (.int .i64) (.pair (.int .i64) (.pair .str .unit)))),
   (29, (.slice (.pair (.int .i64) (.pair (.int .i64) (.pair .str .unit))))),
   (30, (.pair (.int .i64) (.pair (.slice (.pair (.int .i64) (.pair (.int .i64) (.pair .str .unit)))) .unit))),
   (31, (.pair (.int .i64) (.pair (.slice (.pair (.int .i64) (.pair (.int .i64) (.pair .str .unit)))) .unit))),
   (113, (.pair (.int .i64) (.pair (.int .i64) (.pair .str .unit)))),
   (34, (.slice (.pair (.int .i64) (.pair (.int .i64) (.pair .str .unit))))),
   (35, (.pair (.int .i64) (.pair (.slice (.pair (.int .i64) (.pair (.int .i64) (.pair .str .unit)))) .unit))),
   (36, (.pair (.int .i64) (.pair (.slice (.pair (.int .i64) (.pair (.int .i64) (.pair .str .unit)))) .unit))),
   (164, (.pair (.int .i64) (.pair .str .unit))),
   (40, (.slice (.pair (.int .i64) (.pair .str .unit)))),
   (41, (.pair (.int .i64) (.pair (.slice (.pair (.int .i64) (.pair .str .unit))) .unit))),
   (42, (.pair (.int .i64) (.pair (.slice (.pair (.int .i64) (.pair .str .unit))) .unit))),
   (118, (.pair (.int .i64) (.pair .str .unit))),
   (45, (.slice (.pair (.int .i64) (.pair .str .unit)))),
   (46, (.pair (.int .i64) (.pair (.slice (.pair (.int .i64) (.pair .str .unit))) .unit))),
   (47, (.pair (.int .i64) (.pair (.slice (.pair (.int .i64) (.pair .str .unit))) .unit))),
   (125, (.pair .str (.pair (.int .i64) (.pair .str .unit)))),
   (50, (.slice (.pair .str (.pair (.int .i64) (.pair .str .unit))))),
   (51, (.pair (.int .i64) (.pair (.slice (.pair .str (.pair (.int .i64) (.pair .str .unit)))) (.pair (.int .i64) .unit)))),
   (52, (.pair (.int .i64) (.pair (.slice (.pair .str (.pair (.int .i64) (.pair .str .unit)))) (.pair (.int .i64) .unit)))),
   (169, (.pair .str (.pair (.int .i64) (.pair .str .unit)))),
   (57, (.slice (.pair .str (.pair (.int .i64) (.pair .str .unit))))),
   (58, (.pair (.int .i64) (.pair (.slice (.pair .str (.pair (.int .i64) (.pair .str .unit)))) (.pair (.int .i64) .unit)))),
   (59, (.pair (.int .i64) (.pair (.slice (.pair .str (.pair (.int .i64) (.pair .str .unit)))) (.pair (.int .i64) .unit)))),
   (129, (.pair .str (.pair (.int .i64) (.pair (.int .i64) (.pair (.int .i64) (.pair (.int .i64) .unit)))))),
   (64, (.slice (.pair .str (.pair (.int .i64) (.pair (.int .i64) (.pair (.int .i64) (.pair (.int .i64) .unit))))))),
   (66, (.slice .str)),
   (85, (.pair .str (.pair (.int .i64) (.pair (.int .i64) (.pair (.int .i64) (.pair (.int .i64) .unit)))))),
   (68, (.slice (.pair .str (.pair (.int .i64) (.pair (.int .i64) (.pair (.int .i64) (.pair (.int .i64) .unit))))))),
   (78, (.slice (.int .u8))),
   (84, (.pair .str (.pair (.int .i64) (.pair (.int .i64) (.pair (.int .i64) (.pair (.int .i64) .unit)))))),
   (140, (.pair .str (.pair .bool (.pair .str .unit)))),
   (91, (.slice (.pair .str (.pair .bool (.pair .str .unit))))),
   (104, (.pair .str (.pair .str (.pair (.int .i64) .unit)))),
   (112, (.pair (.int .i64) (.pair (.int .i64) (.pair .str .unit)))),
   (117, (.pair (.int .i64) (.pair .str .unit))),
   (124, (.pair .str (.pair (.int .i64) (.pair .str .unit)))),
   (133, .opq),
   (139, (.pair .str (.pair .bool (.pair .str .unit)))),
   (144, (.slice (.int .i64))),
   (147, (.pair (.int .i64) (.pair (.slice (.int .i64)) .unit))),
   (148, (.pair (.int .i64) (.pair (.slice (.int .i64)) .unit))),
   (153, (.pair (.int .i64) (.pair (.int .i64) (.pair .str (.pair .str (.pair (.int .i64) (.pair (.int .i64) .unit))))))),
   (151, (.slice (.pair (.int .i64) (.pair (.int .i64) (.pair .str (.pair .str (.pair (.int .i64) (.pair (.int .i64) .unit)))))))),
   (152, (.pair (.int .i64) (.pair (.int .i64) (.pair .str (.pair .str (.pair (.int .i64) (.pair (.int .i64) .unit))))))),
   (171, (.pair (.slice (.int .u8)) (.pair (.int .i64) (.pair (.int .i64) .unit)))),
   (172, (.pair (.slice (.int .u8)) (.pair (.int .i64) (.pair (.int .i64) .unit)))),
   (185, (.int .u32)),
   (186, (.int .u64)),
   (197, .opq)],
  [(105, [(0, 1), (1, 1), (2, 1)]), (107, [(0, 1), (1, 1), (2, 1)]), (160, [(0, 1), (1, 1), (2, 1)]), (30, [(0, 1), (1, 1)]), (31, [(0, 1), (1, 1)]), (113, [(0, 1), (1, 1), (2, 1)]), (35, [(0, 1), (1, 1)]), (36, [(0, 1), (1, 1)]), (164, [(0, 1), (1, 1)]), (41, [(0, 1), (1, 1)]), (42, [(0, 1), (1, 1)]), (118, [(0, 1), (1, 1)]), (46, [(0, 1), (1, 1)]), (47, [(0, 1), (1, 1)]), (125, [(0, 1), (1, 1), (2, 1)]), (51, [(0, 1), (1, 1), (2, 1)]), (52, [(0, 1), (1, 1), (2, 1)]), (169, [(0, 1), (1, 1), (2, 1)]), (58, [(0, 1), (1, 1), (2, 1)]), (59, [(0, 1), (1, 1), (2, 1)]), (129, [(0, 1), (1, 1), (2, 1), (3, 1), (4, 1)]), (85, [(0, 1), (1, 1), (2, 1), (3, 1), (4, 1)]), (84, [(0, 1), (1, 1), (2, 1), (3, 1), (4, 1)]), (140, [(0, 1), (1, 1), (2, 1)]), (104, [(0, 1), (1, 1), (2, 1)]), (112, [(0, 1), (1, 1), (2, 1)]), (117, [(0, 1), (1, 1)]), (124, [(0, 1), (1, 1), (2, 1)]), (139, [(0, 1), (1, 1), (2, 1)]), (147, [(0, 1), (1, 1)]), (148, [(0, 1), (1, 1)]), (153, [(0, 1), (1, 1), (2, 1), (3, 1), (4, 1), (5, 1)]), (152, [(0, 1), (1, 1), (2, 1), (3, 1), (4, 1), (5, 1)]), (171, [(0, 1), (1, 1), (2, 1)]), (172, [(0, 1), (1, 1), (2, 1)])],
  [(105, [.str, .str, (.int .i64)]), (107, [.str, .str, (.int .i64)]), (160, [(.int .i64), (.int .i64), .str]), (113, [(.int .i64), (.int .i64), .str]), (164, [(.int .i64), .str]), (118, [(.int .i64), .str]), (125, [.str, (.int .i64), .str]), (169, [.str, (.int .i64), .str]), (129, [.str, (.int .i64), (.int .i64), (.int .i64), (.int .i64)]), (85, [.str, (.int .i64), (.int .i64), (.int .i64), (.int .i64)]), (84, [.str, (.int .i64), (.int .i64), (.int .i64), (.int .i64)]), (140, [.str, .bool, .str]), (104, [.str, .str, (.int .i64)]), (112, [(.int .i64), (.int .i64), .str]), (117, [(.int .i64), .str]), (124, [.str, (.int .i64), .str]), (139, [.str, .bool, .str]), (153, [(.int .i64), (.int .i64), .str, .str, (.int .i64), (.int .i64)]), (152, [(.int .i64), (.int .i64), .str, .str, (.int .i64), (.int .i64)])],
  [(105, [9, 9, 3]), (107, [9, 9, 3]), (160, [3, 3, 9]), (30, [3, 29]), (31, [3, 29]), (113, [3, 3, 9]), (35, [3, 34]), (36, [3, 34]), (164, [3, 9]), (41, [3, 40]), (42, [3, 40]), (118, [3, 9]), (46, [3, 45]), (47, [3, 45]), (125, [9, 3, 9]), (51, [3, 50, 3]), (52, [3, 50, 3]), (169, [9, 3, 9]), (58, [3, 57, 3]), (59, [3, 57, 3]), (129, [9, 3, 3, 3, 3]), (85, [9, 3, 3, 3, 3]), (84, [9, 3, 3, 3, 3]), (140, [9, 4, 9]), (104, [9, 9, 3]), (112, [3, 3, 9]), (117, [3, 9]), (124, [9, 3, 9]), (139, [9, 4, 9]), (147, [3, 144]), (148, [3, 144]), (153, [3, 3, 9, 9, 3, 3]), (152, [3, 3, 9, 9, 3, 3]), (171, [78, 3, 3]), (172, [78, 3, 3])]⟩
theorem tb_ok : tabCheck Try.prog tb = true := by kernel_rfl
theorem tb_rows : rowsCheck tb = true := by kernel_rfl
theorem tb_eqs : eqsCheck Try.prog tb = true := by kernel_rfl
theorem mixed : Try.prog.follows .mixedOrders = true := by kernel_rfl
def Cts (P : Program) (ct : List (Nat × Cn)) : Prop := ∀ g c, V.look ct g = some c → Ctr P g c
theorem Cts.nil {P : Program} : Cts P [] := fun g c h => by cases h
theorem Cts.cons {P : Program} {f : Nat} {c : Cn} {ct : List (Nat × Cn)} (h : Ctr P f c) (t : Cts P ct) : Cts P ((f, c) :: ct) := fun g d q => by
  simp only [V.look] at q
  cases hb : Nat.beq f g with
  | true => rw [hb] at q; cases q; rw [← Nat.eq_of_beq_eq_true hb]; exact h
  | false => rw [hb] at q; exact t g d q
end Go.Proofs.Ytlbpalfjmjmimaa.G

/- V's table of the types of this seat, and its checks. -/
import Derived.Test.YtiigjojchlplpaaProg
import Derived.Test.YtiigjojchlplpaaVS9
import Derived.Test.YtiigjojchlplpaaVS10

set_option maxRecDepth 100000
namespace Go.Proofs.Ytiigjojchlplpaa.G
open Go.V
def tb : Tab := ⟨[(2, (.int .i64)),
   (3, (.int .i64)),
   (4, .bool),
   (5, (.int .u8)),
   (9, .str),
   (12, (.int .u64)),
   (21, (.int .i32)),
   (215, (.pair .str (.pair .str (.pair (.int .i64) .unit)))),
   (29, (.slice (.pair .str (.pair .str (.pair (.int .i64) .unit))))),
   (114, (.slice .str)),
   (141, (.pair .str (.pair .bool (.pair .str .unit)))),
   (31, (.slice (.pair .str (.pair .bool (.pair .str .unit))))),
   (116, (.pair (.int .i64) (.pair (.slice (.pair .str (.pair .str (.pair (.int .i64) .unit)))) (.pair (.slice .str) (.pair (.slice (.pair .str (.pair .bool (.pair .str .unit)))) .unit))))),
   (22, (.slice (.pair (.int .i64) (.pair (.slice (.pair .str (.pair .str (.pair (.int .i64) .unit)))) (.pair (.slice .str) (.pair (.slice (.pair .str (.pair .bool (.pair .str .unit)))) .unit)))))),
   (120, (.pair .str (.pair .str (.pair (.int .i64) .unit)))),
   (36, (.slice (.pair .str (.pair .str (.pair (.int .i64) .unit))))),
   (146, (.pair .str (.pair .bool (.pair .str .unit)))),
   (38, (.slice (.pair .str (.pair .bool (.pair .str .unit))))),
   (118, (.pair (.int .i64) (.pair (.slice (.pair .str (.pair .str (.pair (.int .i64) .unit)))) (.pair (.slice .str) (.pair (.slice (.pair .str (.pair .bool (.pair .str .unit)))) .unit))))),
   (25, (.slice (.pair (.int .i64) (.pair (.slice (.pair .str (.pair .str (.pair (.int .i64) .unit)))) (.pair (.slice .str) (.pair (.slice (.pair .str (.pair .bool (.pair .str .unit)))) .unit)))))),
   (218, (.pair (.int .i64) (.pair (.slice (.pair .str (.pair .bool (.pair .str .unit)))) .unit))),
   (30, (.slice (.pair (.int .i64) (.pair (.slice (.pair .str (.pair .bool (.pair .str .unit)))) .unit)))),
   (32, (.pair (.slice (.pair .str (.pair .str (.pair (.int .i64) .unit)))) (.pair (.slice (.pair (.int .i64) (.pair (.slice (.pair .str (.pair .bool (.pair .str .unit)))) .unit))) (.pair (.slice (.pair .str (.pair .bool (.pair .str .unit)))) (.pair (.slice (.pair .str (.pair .str (.pair (.int .i64) .unit)))) (.pair (.int .i64) .unit)))))),
   (33, (.pair (.slice (.pair .str (.pair .str (.pair (.int .i64) .unit)))) (.pair (.slice (.pair (.int .i64) (.pair (.slice (.pair .str (.pair .bool (.pair .str .unit)))) .unit))) (.pair (.slice (.pair .str (.pair .bool (.pair .str .unit)))) (.pair (.slice (.pair .str (.pair .str (.pair (.int .i64) .unit)))) (.pair (.int .i64) .unit)))))),
   (220, (.pair (.int .i64) (.pair (.slice (.pair .str (.pair .bool (.pair .str .unit)))) .unit))),
   (37, (.slice (.pair (.int .i64) (.pair (.slice (.pair .str (.pair .bool (.pair .str .unit)))) .unit)))),
   (39, (.pair (.slice (.pair .str (.pair .str (.pair (.int .i64) .unit)))) (.pair (.slice (.pair (.int .i64) (.pair (.slice (.pair .str (.pair .bool (.pair .str .unit)))) .unit))) (.pair (.slice (.pair .str (.pair .bool (.pair .str .unit)))) (.pair (.slice (.pair .str (.pair .str (.pair (.int .i64) .unit)))) (.pair (.int .i64) .unit)))))),
   (40, (.pair (.slice (.pair .str (.pair .str (.pair (.int .i64) .unit)))) (.pair (.slice (.pair (.int .i64) (.pair (.slice (.pair .str (.pair .bool (.pair .str .unit)))) .unit))) (.pair (.slice (.pair .str (.pair .bool (.pair .str .unit)))) (.pair (.slice (.pair .str (.pair .str (.pair (.int .i64) .unit)))) (.pair (.int .i64) .unit)))))),
   (48, (.slice (.int .i64))),
   (49, (.pair (.int .i64) (.pair (.slice (.int .i64)) .unit))),
   (50, (.pair (.int .i64) (.pair (.slice (.int .i64)) .unit))),
   (229, (.pair .str (.pair (.int .i64) (.pair (.int .i64) (.pair (.int .i64) (.pair (.int .i64) .unit)))))),
   (51, (.slice (.pair .str (.pair (.int .i64) (.pair (.int .i64) (.pair (.int .i64) (.pair (.int .i64) .unit))))))),
   (52, (.pair (.pair (.int .i64) (.pair (.slice (.int .i64)) .unit)) (.pair (.slice (.pair .str (.pair (.int .i64) (.pair (.int .i64) (.pair (.int .i64) (.pair (.int .i64) .unit)))))) (.pair (.int .i64) (.pair (.int .i64) (.pair (.int .i64) .unit)))))),
   (53, (.pair (.pair (.int .i64) (.pair (.slice (.int .i64)) .unit)) (.pair (.slice (.pair .str (.pair (.int .i64) (.pair (.int .i64) (.pair (.int .i64) (.pair (.int .i64) .unit)))))) (.pair (.int .i64) (.pair (.int .i64) (.pair (.int .i64) .unit)))))),
   (56, (.pair (.int .i64) (.pair (.int .i64) .unit))),
   (57, (.pair (.int .i64) (.pair (.int .i64) .unit))),
   (59, (.pair (.int .i64) (.pair (.slice (.int .i64)) .unit))),
   (193, (.pair .str (.pair (.int .i64) (.pair (.int .i64) (.pair (.int .i64) (.pair (.int .i64) .unit)))))),
   (60, (.slice (.pair .str (.pair (.int .i64) (.pair (.int .i64) (.pair (.int .i64) (.pair (.int .i64) .unit))))))),
   (61, (.pair (.pair (.int .i64) (.pair (.slice (.int .i64)) .unit)) (.pair (.slice (.pair .str (.pair (.int .i64) (.pair (.int .i64) (.pair (.int .i64) (.pair (.int .i64) .unit)))))) (.pair (.int .i64) (.pair (.int .i64) (.pair (.int .i64) .unit)))))),
   (62, (.pair (.pair (.int .i64) (.pair (.slice (.int .i64)) .unit)) (.pair (.slice (.pair .str (.pair (.int .i64) (.pair (.int .i64) (.pair (.int .i64) (.pair (.int .i64) .unit)))))) (.pair (.int .i64) (.pair (.int .i64) (.pair (.int .i64) .unit)))))),
   (163, (.pair (.int .i64) (.pair (.int .i64) (.pair .str (.pair .str (.pair (.int .i64) .unit)))))),
   (72, (.slice (.pair (.int .i64) (.pair (.int .i64) (.pair .str (.pair .str (.pair (.int .i64) .unit))))))),
   (166, (.pair (.int .i64) (.pair .str (.pair (.slice .str) .unit)))),
   (73, (.slice (.pair (.int .i64) (.pair .str (.pair (.slice .str) .unit))))),
   (168, (.pair (.int .i64) (.pair (.int .i64) (.pair .str (.pair .str (.pair (.int .i64) .unit)))))),
   (77, (.slice (.pair (.int .i64) (.pair (.int .i64) (.pair .str (.pair .str (.pair (.int .i64) .unit))))))),
   (169, (.pair (.int .i64) (.pair .str (.pair (.slice .str) .unit)))),
   (79, (.slice (.pair (.int .i64) (.pair .str (.pair (.slice .str) .unit))))),
   (249, (.pair (.int .i64) (.pair .str .unit))),
   (86, (.slice (.pair (.int .i64) (.pair .str .unit)))),
   (87, (.pair (.int .i64) (.pair (.slice (.pair (.int .i64) (.pair .str .unit))) .unit))),
   (88, (.pair (.int .i64) (.pair (.slice (.pair (.int .i64) (.pair .str .unit))) .unit))),
   (187, (.pair (.int .i64) (.pair .str .unit))),
   (91, (.slice (.pair (.int .i64) (.pair .str .unit)))),
   (92, (.pair (.int .i64) (.pair (.slice (.pair (.int .i64) (.pair .str .unit))) .unit))),
   (93, (.pair (.int .i64) (.pair (.slice (.pair (.int .i64) (.pair .str .unit))) .unit))),
   (98, (.slice (.int .u8))),
   (100, (.pair (.slice (.pair .str (.pair (.int .i64) (.pair (.int .i64) (.pair (.int .i64) (.pair (.int .i64) .unit)))))) (.pair (.int .i64) (.pair (.int .i64) .unit)))),
   (101, (.pair (.slice (.pair .str (.pair (.int .i64) (.pair (.int .i64) (.pair (.int .i64) (.pair (.int .i64) .unit)))))) (.pair (.int .i64) (.pair (.int .i64) .unit)))),
   (109, (.pair (.int .i64) (.pair (.int .i64) (.pair .str (.pair .str (.pair (.int .i64) (.pair (.int .i64) .unit))))))),
   (111, (.pair (.int .i64) (.pair (.int .i64) (.pair (.int .i64) (.pair (.pair (.int .i64) (.pair (.int .i64) (.pair .str (.pair .str (.pair (.int .i64) (.pair (.int .i64) .unit)))))) .unit))))),
   (102, (.slice (.pair (.int .i64) (.pair (.int .i64) (.pair (.int .i64) (.pair (.pair (.int .i64) (.pair (.int .i64) (.pair .str (.pair .str (.pair (.int .i64) (.pair (.int .i64) .unit)))))) .unit)))))),
   (108, (.pair (.int .i64) (.pair (.int .i64) (.pair .str (.pair .str (.pair (.int .i64) (.pair (.int .i64) .unit))))))),
   (110, (.pair (.int .i64) (.pair (.int .i64) (.pair (.int .i64) (.pair (.pair (.int .i64) (.pair (.int .i64) (.pair .str (.pair .str (.pair (.int .i64) (.pair (.int .i64) .unit)))))) .unit))))),
   (115, (.pair (.int .i64) (.pair (.slice (.pair .str (.pair .str (.pair (.int .i64) .unit)))) (.pair (.slice .str) (.pair (.slice (.pair .str (.pair .bool (.pair .str .unit)))) .unit))))),
   (117, (.pair (.int .i64) (.pair (.slice (.pair .str (.pair .str (.pair (.int .i64) .unit)))) (.pair (.slice .str) (.pair (.slice (.pair .str (.pair .bool (.pair .str .unit)))) .unit))))),
   (119, (.pair .str (.pair .str (.pair (.int .i64) .unit)))),
   (140, (.pair .str (.pair .bool (.pair .str .unit)))),
   (144, (.slice (.pair (.int .i64) (.pair (.int .i64) (.pair .str (.pair .str (.pair (.int .i64) (.pair (.int .i64) .unit)))))))),
   (159, (.pair (.int .i64) (.pair (.int .i64) (.pair (.pair (.int .i64) (.pair (.int .i64) (.pair .str (.pair .str (.pair (.int .i64) (.pair (.int .i64) .unit)))))) .unit)))),
   (155, (.slice (.pair (.int .i64) (.pair (.int .i64) (.pair (.pair (.int .i64) (.pair (.int .i64) (.pair .str (.pair .str (.pair (.int .i64) (.pair (.int .i64) .unit)))))) .unit))))),
   (158, (.pair (.int .i64) (.pair (.int .i64) (.pair (.pair (.int .i64) (.pair (.int .i64) (.pair .str (.pair .str (.pair (.int .i64) (.pair (.int .i64) .unit)))))) .unit)))),
   (162, (.pair (.int .i64) (.pair (.int .i64) (.pair .str (.pair .str (.pair (.int .i64) .unit)))))),
   (165, (.pair (.int .i64) (.pair .str (.pair (.slice .str) .unit)))),
   (290, (.pair .str (.pair (.int .i64) .unit))),
   (170, (.slice (.pair .str (.pair (.int .i64) .unit)))),
   (172, (.pair .bool (.pair (.slice (.pair .str (.pair (.int .i64) .unit))) (.pair (.slice (.pair .str (.pair .bool (.pair .str .unit)))) .unit)))),
   (167, (.slice (.pair .bool (.pair (.slice (.pair .str (.pair (.int .i64) .unit))) (.pair (.slice (.pair .str (.pair .bool (.pair .str .unit)))) .unit))))),
   (171, (.pair .bool (.pair (.slice (.pair .str (.pair (.int .i64) .unit))) (.pair (.slice (.pair .str (.pair .bool (.pair .str .unit)))) .unit)))),
   (177, (.pair .bool (.pair (.slice (.pair .str (.pair .str (.pair (.int .i64) .unit)))) (.pair (.slice .str) (.pair (.slice (.pair .str (.pair .bool (.pair .str .unit)))) .unit))))),
   (178, (.pair .bool (.pair (.slice (.pair .str (.pair .str (.pair (.int .i64) .unit)))) (.pair (.slice .str) (.pair (.slice (.pair .str (.pair .bool (.pair .str .unit)))) .unit))))),
   (180, .opq),
   (186, (.pair (.int .i64) (.pair .str .unit))),
   (192, (.pair .str (.pair (.int .i64) (.pair (.int .i64) (.pair (.int .i64) (.pair (.int .i64) .unit)))))),
   (198, .opq),
   (217, (.pair (.int .i64) (.pair (.slice (.pair .str (.pair .bool (.pair .str .unit)))) .unit))),
   (219, (.pair (.int .i64) (.pair (.slice (.pair .str (.pair .bool (.pair .str .unit)))) .unit))),
   (252, (.pair (.slice (.int .u8)) (.pair (.int .i64) (.pair (.int .i64) .unit)))),
   (253, (.pair (.slice (.int .u8)) (.pair (.int .i64) (.pair (.int .i64) .unit)))),
   (257, .opq),
   (261, (.int .u32)),
   (262, (.int .u64)),
   (269, .opq),
   (270, (.pair .str (.pair .bool .unit))),
   (271, (.pair .str (.pair .bool .unit))),
   (284, .opq),
   (289, (.pair .str (.pair (.int .i64) .unit)))],
  [(215, [(0, 1), (1, 1), (2, 1)]), (141, [(0, 1), (1, 1), (2, 1)]), (116, [(0, 1), (1, 1), (2, 1), (3, 1)]), (120, [(0, 1), (1, 1), (2, 1)]), (146, [(0, 1), (1, 1), (2, 1)]), (118, [(0, 1), (1, 1), (2, 1), (3, 1)]), (218, [(0, 1), (1, 1)]), (32, [(0, 1), (1, 1), (2, 1), (3, 1), (4, 1)]), (33, [(0, 1), (1, 1), (2, 1), (3, 1), (4, 1)]), (220, [(0, 1), (1, 1)]), (39, [(0, 1), (1, 1), (2, 1), (3, 1), (4, 1)]), (40, [(0, 1), (1, 1), (2, 1), (3, 1), (4, 1)]), (49, [(0, 1), (1, 1)]), (50, [(0, 1), (1, 1)]), (229, [(0, 1), (1, 1), (2, 1), (3, 1), (4, 1)]), (52, [(0, 2), (2, 1), (3, 1), (4, 1), (5, 1)]), (53, [(0, 2), (2, 1), (3, 1), (4, 1), (5, 1)]), (56, [(0, 1), (1, 1)]), (57, [(0, 1), (1, 1)]), (59, [(0, 1), (1, 1)]), (193, [(0, 1), (1, 1), (2, 1), (3, 1), (4, 1)]), (61, [(0, 2), (2, 1), (3, 1), (4, 1), (5, 1)]), (62, [(0, 2), (2, 1), (3, 1), (4, 1), (5, 1)]), (163, [(0, 1), (1, 1), (2, 1), (3, 1), (4, 1)]), (166, [(0, 1), (1, 1), (2, 1)]), (168, [(0, 1), (1, 1), (2, 1), (3, 1), (4, 1)]), (169, [(0, 1), (1, 1), (2, 1)]), (249, [(0, 1), (1, 1)]), (87, [(0, 1), (1, 1)]), (88, [(0, 1), (1, 1)]), (187, [(0, 1), (1, 1)]), (92, [(0, 1), (1, 1)]), (93, [(0, 1), (1, 1)]), (100, [(0, 1), (1, 1), (2, 1)]), (101, [(0, 1), (1, 1), (2, 1)]), (109, [(0, 1), (1, 1), (2, 1), (3, 1), (4, 1), (5, 1)]), (111, [(0, 1), (1, 1), (2, 1), (3, 6)]), (108, [(0, 1), (1, 1), (2, 1), (3, 1), (4, 1), (5, 1)]), (110, [(0, 1), (1, 1), (2, 1), (3, 6)]), (115, [(0, 1), (1, 1), (2, 1), (3, 1)]), (117, [(0, 1), (1, 1), (2, 1), (3, 1)]), (119, [(0, 1), (1, 1), (2, 1)]), (140, [(0, 1), (1, 1), (2, 1)]), (159, [(0, 1), (1, 1), (2, 6)]), (158, [(0, 1), (1, 1), (2, 6)]), (162, [(0, 1), (1, 1), (2, 1), (3, 1), (4, 1)]), (165, [(0, 1), (1, 1), (2, 1)]), (290, [(0, 1), (1, 1)]), (172, [(0, 1), (1, 1), (2, 1)]), (171, [(0, 1), (1, 1), (2, 1)]), (177, [(0, 1), (1, 1), (2, 1), (3, 1)]), (178, [(0, 1), (1, 1), (2, 1), (3, 1)]), (186, [(0, 1), (1, 1)]), (192, [(0, 1), (1, 1), (2, 1), (3, 1), (4, 1)]), (217, [(0, 1), (1, 1)]), (219, [(0, 1), (1, 1)]), (252, [(0, 1), (1, 1), (2, 1)]), (253, [(0, 1), (1, 1), (2, 1)]), (270, [(0, 1), (1, 1)]), (271, [(0, 1), (1, 1)]), (289, [(0, 1), (1, 1)])],
  [(215, [.str, .str, (.int .i64)]), (141, [.str, .bool, .str]), (120, [.str, .str, (.int .i64)]), (146, [.str, .bool, .str]), (229, [.str, (.int .i64), (.int .i64), (.int .i64), (.int .i64)]), (56, [(.int .i64), (.int .i64)]), (57, [(.int .i64), (.int .i64)]), (193, [.str, (.int .i64), (.int .i64), (.int .i64), (.int .i64)]), (163, [(.int .i64), (.int .i64), .str, .str, (.int .i64)]), (168, [(.int .i64), (.int .i64), .str, .str, (.int .i64)]), (249, [(.int .i64), .str]), (187, [(.int .i64), .str]), (109, [(.int .i64), (.int .i64), .str, .str, (.int .i64), (.int .i64)]), (108, [(.int .i64), (.int .i64), .str, .str, (.int .i64), (.int .i64)]), (119, [.str, .str, (.int .i64)]), (140, [.str, .bool, .str]), (162, [(.int .i64), (.int .i64), .str, .str, (.int .i64)]), (290, [.str, (.int .i64)]), (186, [(.int .i64), .str]), (192, [.str, (.int .i64), (.int .i64), (.int .i64), (.int .i64)]), (270, [.str, .bool]), (271, [.str, .bool]), (289, [.str, (.int .i64)])],
  [(215, [9, 9, 3]), (141, [9, 4, 9]), (116, [3, 29, 114, 31]), (120, [9, 9, 3]), (146, [9, 4, 9]), (118, [3, 36, 114, 38]), (218, [3, 31]), (32, [29, 30, 31, 29, 3]), (33, [29, 30, 31, 29, 3]), (220, [3, 38]), (39, [36, 37, 38, 36, 3]), (40, [36, 37, 38, 36, 3]), (49, [3, 48]), (50, [3, 48]), (229, [9, 3, 3, 3, 3]), (52, [50, 51, 3, 3, 3]), (53, [50, 51, 3, 3, 3]), (56, [3, 3]), (57, [3, 3]), (59, [3, 48]), (193, [9, 3, 3, 3, 3]), (61, [59, 60, 3, 3, 3]), (62, [59, 60, 3, 3, 3]), (163, [3, 3, 9, 9, 3]), (166, [3, 9, 114]), (168, [3, 3, 9, 9, 3]), (169, [3, 9, 114]), (249, [3, 9]), (87, [3, 86]), (88, [3, 86]), (187, [3, 9]), (92, [3, 91]), (93, [3, 91]), (100, [60, 3, 3]), (101, [60, 3, 3]), (109, [3, 3, 9, 9, 3, 3]), (111, [3, 3, 3, 109]), (108, [3, 3, 9, 9, 3, 3]), (110, [3, 3, 3, 109]), (115, [3, 29, 114, 31]), (117, [3, 36, 114, 38]), (119, [9, 9, 3]), (140, [9, 4, 9]), (159, [3, 3, 109]), (158, [3, 3, 109]), (162, [3, 3, 9, 9, 3]), (165, [3, 9, 114]), (290, [9, 3]), (172, [4, 170, 38]), (171, [4, 170, 38]), (177, [4, 36, 114, 38]), (178, [4, 36, 114, 38]), (186, [3, 9]), (192, [9, 3, 3, 3, 3]), (217, [3, 31]), (219, [3, 38]), (252, [98, 3, 3]), (253, [98, 3, 3]), (270, [9, 4]), (271, [9, 4]), (289, [9, 3])]⟩
theorem tb_ok : tabCheck Try.prog tb = true := by kernel_rfl
theorem tb_rows : rowsCheck tb = true := by kernel_rfl
theorem tb_eqs : eqsCheck Try.prog tb = true := by kernel_rfl
theorem mixed : Try.prog.follows .mixedOrders = true := by kernel_rfl
def J : Gl := Gl.top
/-- A path, out of a number's bits. -/
def bt : Nat → Nat → List Bool
  | 0, _ => []
  | d + 1, n => (n % 2 == 1) :: bt d (n / 2)
/-- What is behind a loop's round, where a loop within it ends. -/
noncomputable def lpK {R : Type} (E : Env) (c : Code) (g : Nat) (lv : List Nat) (K : Ex → St → Option R) (n : Nat) : Ex → St → Option R := fun e st => match e with
  | .normal => loopN (exec E c) (canon g lv) K n (canon g lv st)
  | .ret => K .ret st
  | .exit j => K (.exit j) st
theorem loop_eq {α : Type} {V l : Nat → α} {b : α → α} (h0 : V 0 = l 0) (hs : ∀ n, V (n + 1) = b (V n)) (hl : ∀ n, l (n + 1) = b (l n)) : ∀ n, V n = l n
  | 0 => h0
  | n + 1 => by rw [hs, hl, loop_eq h0 hs hl n]
def Cts (P : Program) (ct : List (Nat × Cn)) : Prop := ∀ g c, V.look ct g = some c → Ctr J P g c
theorem Cts.nil {P : Program} : Cts P [] := fun g c h => by cases h
theorem Cts.cons {P : Program} {f : Nat} {c : Cn} {ct : List (Nat × Cn)} (h : Ctr J P f c) (t : Cts P ct) : Cts P ((f, c) :: ct) := fun g d q => by
  simp only [V.look] at q
  cases hb : Nat.beq f g with
  | true => rw [hb] at q; cases q; rw [← Nat.eq_of_beq_eq_true hb]; exact h
  | false => rw [hb] at q; exact t g d q
end Go.Proofs.Ytiigjojchlplpaa.G

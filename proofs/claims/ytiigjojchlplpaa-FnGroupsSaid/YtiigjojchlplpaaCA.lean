/- Functions keep their contracts. -/
import Derived.Test.YtiigjojchlplpaaVTab
import Derived.Test.YtiigjojchlplpaaFA
set_option linter.unusedVariables false
set_option maxRecDepth 100000
namespace Go.Proofs.Ytiigjojchlplpaa.G
open Go.V
namespace laws_big
def C (k : Nat) : Cn := ⟨[.val (.slice (.int .u8))], [.bool], true, false, fun x => f k x.1⟩
def E (k : Nat) : Env := ⟨tb, [], [], k, 0, []⟩
theorem eq (k : Nat) (a0 : List Int) : run (E k) Try.f55 [.val (.slice (.int .u8))] [.bool] true false (a0, ()) = f k a0 := by kernel_rfl
theorem ctr (k : Nat) : Ctr J Try.prog 55 (C k) :=
  run_ctr (E := E k) rfl mixed tb_ok (eqOk_of tb_eqs) Cts.nil (by kernel_rfl) Try.func55 (by kernel_rfl) rfl (fun ⟨a0, _⟩ r h => (eq k a0).trans h)
end laws_big
namespace spec_l1New
def C (k : Nat) : Cn := ⟨[.val (.slice (.int .u8))], [.opq, Tl1Cur], false, true, fun x => f k x.1⟩
def E (k : Nat) : Env := ⟨tb, [], [(3, [0, 3, 4])], k, 0, []⟩
section
variable (k : Nat) (a0 : List Int)
noncomputable def K0 : Ex → St → Option (Unit × (Ty.den Tl1Cur) × Unit) := runK (E k) (endB (E k) Try.f127.results.toList [.val (.slice (.int .u8))] (a0, ()) [.opq, Tl1Cur]) [.blk 0, .code (at_ (bt 3 7) (body Try.f127))]
noncomputable def V0 (n0 : Nat) (x0_0 : List Int) (x0_1 : Int) (x0_2 : Int) : Option (Unit × (Ty.den Tl1Cur) × Unit) := loopN (exec (E k) (at_ (bt 6 11) (body Try.f127))) (canon 0 [0, 3, 4]) (K0 k a0) n0 (mk 32 0 [(0, .sl true (.int .u8) x0_0), (3, .int .i64 x0_1), (4, .int .i64 x0_2)] [])
theorem s0 (n0 : Nat) (x0_0 : List Int) (x0_1 : Int) (x0_2 : Int) : V0 k a0 (n0 + 1) x0_0 x0_1 x0_2 = b0 k (V0 k a0 n0) x0_0 x0_1 x0_2 := by kernel_rfl
theorem e0 (n0 : Nat) : V0 k a0 n0 = l0 k n0 := loop_eq (V := V0 k a0) (l := l0 k) rfl (fun n0 => funext fun x0_0 => funext fun x0_1 => funext fun x0_2 => s0 k a0 n0 x0_0 x0_1 x0_2) (fun _ => rfl) n0
end
theorem eq (k : Nat) (a0 : List Int) : runB (E k) Try.f127 [.val (.slice (.int .u8))] [.opq, Tl1Cur] (a0, ()) = f k a0 := (show _ = t k (V0 k a0 k) a0 by kernel_rfl).trans (by rw [e0]; rfl)
theorem ctr (k : Nat) : Ctr J Try.prog 127 (C k) :=
  run_box (E := E k) rfl mixed tb_ok (eqOk_of tb_eqs) Cts.nil (by kernel_rfl) Try.func127 (by kernel_rfl) rfl (fun ⟨a0, _⟩ r h => (eq k a0).trans h)
end spec_l1New
namespace spec_l1Byte
def C (k : Nat) : Cn := ⟨[.io false Tl1Cur], [(.int .i64)], true, true, fun x => f k x.1⟩
def E (k : Nat) : Env := ⟨tb, [], [], k, 1, []⟩
theorem eq (k : Nat) (a0 : Ty.den Tl1Cur) : run (E k) Try.f201 [.io false Tl1Cur] [(.int .i64)] true true (a0, ()) = f k a0 := by kernel_rfl
theorem ctr (k : Nat) : Ctr J Try.prog 201 (C k) :=
  run_ctr (E := E k) rfl mixed tb_ok (eqOk_of tb_eqs) Cts.nil (by kernel_rfl) Try.func201 (by kernel_rfl) rfl (fun ⟨a0, _⟩ r h => (eq k a0).trans h)
end spec_l1Byte
namespace spec_l1Below
def C (k : Nat) : Cn := ⟨[.io false Tl1Cur, .val (.int .i64)], [(.int .i64)], true, true, fun x => f k x.1 x.2.1⟩
def E (k : Nat) : Env := ⟨tb, [(201, spec_l1Byte.C k)], [], k, 1, []⟩
theorem eq (k : Nat) (a0 : Ty.den Tl1Cur) (a1 : Int) : run (E k) Try.f184 [.io false Tl1Cur, .val (.int .i64)] [(.int .i64)] true true (a0, a1, ()) = f k a0 a1 := by kernel_rfl
theorem ctr (k : Nat) : Ctr J Try.prog 184 (C k) :=
  run_ctr (E := E k) rfl mixed tb_ok (eqOk_of tb_eqs) (Cts.cons (spec_l1Byte.ctr k) Cts.nil) (by kernel_rfl) Try.func184 (by kernel_rfl) rfl (fun ⟨a0, a1, _⟩ r h => (eq k a0 a1).trans h)
end spec_l1Below
namespace spec_l1Once
def C (k : Nat) : Cn := ⟨[.io false Tl1Cur, .val (.int .i64)], [.bool], true, true, fun x => f k x.1 x.2.1⟩
def E (k : Nat) : Env := ⟨tb, [(184, spec_l1Below.C k)], [], k, 1, []⟩
theorem eq (k : Nat) (a0 : Ty.den Tl1Cur) (a1 : Int) : run (E k) Try.f128 [.io false Tl1Cur, .val (.int .i64)] [.bool] true true (a0, a1, ()) = f k a0 a1 := by kernel_rfl
theorem ctr (k : Nat) : Ctr J Try.prog 128 (C k) :=
  run_ctr (E := E k) rfl mixed tb_ok (eqOk_of tb_eqs) (Cts.cons (spec_l1Below.ctr k) Cts.nil) (by kernel_rfl) Try.func128 (by kernel_rfl) rfl (fun ⟨a0, a1, _⟩ r h => (eq k a0 a1).trans h)
end spec_l1Once
namespace spec_l1Pick
def C (k : Nat) : Cn := ⟨[.io false Tl1Cur, .val (.slice .str)], [.str], true, true, fun x => f k x.1 x.2.1⟩
def E (k : Nat) : Env := ⟨tb, [(184, spec_l1Below.C k)], [], k, 1, []⟩
theorem eq (k : Nat) (a0 : Ty.den Tl1Cur) (a1 : List ByteArray) : run (E k) Try.f202 [.io false Tl1Cur, .val (.slice .str)] [.str] true true (a0, a1, ()) = f k a0 a1 := by kernel_rfl
theorem ctr (k : Nat) : Ctr J Try.prog 202 (C k) :=
  run_ctr (E := E k) rfl mixed tb_ok (eqOk_of tb_eqs) (Cts.cons (spec_l1Below.ctr k) Cts.nil) (by kernel_rfl) Try.func202 (by kernel_rfl) rfl (fun ⟨a0, a1, _⟩ r h => (eq k a0 a1).trans h)
end spec_l1Pick
namespace spec_l5Key
def C (k : Nat) : Cn := ⟨[.io false Tl1Cur], [.str], true, true, fun x => f k x.1⟩
def E (k : Nat) : Env := ⟨tb, [(202, spec_l1Pick.C k)], [], k, 1, []⟩
theorem eq (k : Nat) (a0 : Ty.den Tl1Cur) : run (E k) Try.f185 [.io false Tl1Cur] [.str] true true (a0, ()) = f k a0 := by kernel_rfl
theorem ctr (k : Nat) : Ctr J Try.prog 185 (C k) :=
  run_ctr (E := E k) rfl mixed tb_ok (eqOk_of tb_eqs) (Cts.cons (spec_l1Pick.ctr k) Cts.nil) (by kernel_rfl) Try.func185 (by kernel_rfl) rfl (fun ⟨a0, _⟩ r h => (eq k a0).trans h)
end spec_l5Key
namespace spec_l1Text
def C (k : Nat) : Cn := ⟨[.io false Tl1Cur, .val (.int .i64)], [.str], true, true, fun x => f k x.1 x.2.1⟩
def E (k : Nat) : Env := ⟨tb, [(184, spec_l1Below.C k), (201, spec_l1Byte.C k)], [(4, [0, 5, 6, 7])], k, 1, []⟩
section
variable (k : Nat) (a0 : Ty.den Tl1Cur) (a1 : Int)
noncomputable def K0 : Ex → St → Option ((Ty.den Tl1Cur) × ByteArray × Unit) := runK (E k) (endK (E k) Try.f186.results.toList [.io false Tl1Cur, .val (.int .i64)] (a0, a1, ()) [.str] true true) [.blk 0, .code (at_ (bt 4 15) (body Try.f186))]
noncomputable def V0 (n0 : Nat) (x0_0 : Int) (x0_1 : Int) (x0_2 : List Int) (x0_3 : Int) (x0_4 : Int) (x0_5 : List Int) : Option ((Ty.den Tl1Cur) × ByteArray × Unit) := loopN (exec (E k) (at_ (bt 7 23) (body Try.f186))) (canon 1 [0, 5, 6, 7]) (K0 k a0 a1) n0 (mk 38 2 [(0, .ptr 0 0 0), (5, .ref 1), (6, .int .i64 x0_0), (7, .int .i64 x0_1)] [(0, .box [.sl true (.int .u8) x0_2, .int .i64 x0_3, .int .i64 x0_4]), (1, .own false (.int .u8) x0_5)])
theorem s0 (n0 : Nat) (x0_0 : Int) (x0_1 : Int) (x0_2 : List Int) (x0_3 : Int) (x0_4 : Int) (x0_5 : List Int) : V0 k a0 a1 (n0 + 1) x0_0 x0_1 x0_2 x0_3 x0_4 x0_5 = b0 k (V0 k a0 a1 n0) x0_0 x0_1 x0_2 x0_3 x0_4 x0_5 := by kernel_rfl
theorem e0 (n0 : Nat) : V0 k a0 a1 n0 = l0 k n0 := loop_eq (V := V0 k a0 a1) (l := l0 k) rfl (fun n0 => funext fun x0_0 => funext fun x0_1 => funext fun x0_2 => funext fun x0_3 => funext fun x0_4 => funext fun x0_5 => s0 k a0 a1 n0 x0_0 x0_1 x0_2 x0_3 x0_4 x0_5) (fun _ => rfl) n0
end
theorem eq (k : Nat) (a0 : Ty.den Tl1Cur) (a1 : Int) : run (E k) Try.f186 [.io false Tl1Cur, .val (.int .i64)] [.str] true true (a0, a1, ()) = f k a0 a1 := (show _ = t k (V0 k a0 a1 k) a0 a1 by kernel_rfl).trans (by rw [e0]; rfl)
theorem ctr (k : Nat) : Ctr J Try.prog 186 (C k) :=
  run_ctr (E := E k) rfl mixed tb_ok (eqOk_of tb_eqs) (Cts.cons (spec_l1Below.ctr k) (Cts.cons (spec_l1Byte.ctr k) Cts.nil)) (by kernel_rfl) Try.func186 (by kernel_rfl) rfl (fun ⟨a0, a1, _⟩ r h => (eq k a0 a1).trans h)
end spec_l1Text
namespace spec_l1In
def C (k : Nat) : Cn := ⟨[.val (.int .i64), .val (.int .i64), .val (.int .i64)], [.bool], true, false, fun x => f k x.1 x.2.1 x.2.2.1⟩
def E (k : Nat) : Env := ⟨tb, [], [], k, 0, []⟩
theorem eq (k : Nat) (a0 : Int) (a1 : Int) (a2 : Int) : run (E k) Try.f86 [.val (.int .i64), .val (.int .i64), .val (.int .i64)] [.bool] true false (a0, a1, a2, ()) = f k a0 a1 a2 := by kernel_rfl
theorem ctr (k : Nat) : Ctr J Try.prog 86 (C k) :=
  run_ctr (E := E k) rfl mixed tb_ok (eqOk_of tb_eqs) Cts.nil (by kernel_rfl) Try.func86 (by kernel_rfl) rfl (fun ⟨a0, a1, a2, _⟩ r h => (eq k a0 a1 a2).trans h)
end spec_l1In
namespace spec_KeyOk
def C (k : Nat) : Cn := ⟨[.val .str], [.bool], true, false, fun x => f k x.1⟩
def E (k : Nat) : Env := ⟨tb, [(86, spec_l1In.C k)], [], k, 0, []⟩
theorem eq (k : Nat) (a0 : ByteArray) : run (E k) Try.f153 [.val .str] [.bool] true false (a0, ()) = f k a0 := by kernel_rfl
theorem ctr (k : Nat) : Ctr J Try.prog 153 (C k) :=
  run_ctr (E := E k) rfl mixed tb_ok (eqOk_of tb_eqs) (Cts.cons (spec_l1In.ctr k) Cts.nil) (by kernel_rfl) Try.func153 (by kernel_rfl) rfl (fun ⟨a0, _⟩ r h => (eq k a0).trans h)
end spec_KeyOk
namespace spec_RecOk
def C (k : Nat) : Cn := ⟨[.val TRec], [.bool], true, false, fun x => f k x.1⟩
def E (k : Nat) : Env := ⟨tb, [(86, spec_l1In.C k), (153, spec_KeyOk.C k)], [], k, 0, []⟩
theorem eq (k : Nat) (a0 : Ty.den TRec) : run (E k) Try.f158 [.val TRec] [.bool] true false (a0, ()) = f k a0 := by kernel_rfl
theorem ctr (k : Nat) : Ctr J Try.prog 158 (C k) :=
  run_ctr (E := E k) rfl mixed tb_ok (eqOk_of tb_eqs) (Cts.cons (spec_l1In.ctr k) (Cts.cons (spec_KeyOk.ctr k) Cts.nil)) (by kernel_rfl) Try.func158 (by kernel_rfl) rfl (fun ⟨a0, _⟩ r h => (eq k a0).trans h)
end spec_RecOk
namespace spec_Var
def C (k : Nat) : Cn := ⟨[.val (.int .i64)], [.str], true, false, fun x => f k x.1⟩
def E (k : Nat) : Env := ⟨tb, [(86, spec_l1In.C k)], [(4, [0, 3])], k, 0, []⟩
section
variable (k : Nat) (a0 : Int)
noncomputable def K0 : Ex → St → Option (ByteArray × Unit) := runK (E k) (endK (E k) Try.f155.results.toList [.val (.int .i64)] (a0, ()) [.str] true false) [.blk 0, .code (at_ (bt 4 15) (body Try.f155))]
noncomputable def V0 (n0 : Nat) (x0_0 : Int) (x0_1 : List Int) : Option (ByteArray × Unit) := loopN (exec (E k) (at_ (bt 6 7) (body Try.f155))) (canon 0 [0, 3]) (K0 k a0) n0 (mk 25 1 [(0, .int .i64 x0_0), (3, .ref 0)] [(0, .own false (.int .u8) x0_1)])
theorem s0 (n0 : Nat) (x0_0 : Int) (x0_1 : List Int) : V0 k a0 (n0 + 1) x0_0 x0_1 = b0 k (V0 k a0 n0) x0_0 x0_1 := by kernel_rfl
theorem e0 (n0 : Nat) : V0 k a0 n0 = l0 k n0 := loop_eq (V := V0 k a0) (l := l0 k) rfl (fun n0 => funext fun x0_0 => funext fun x0_1 => s0 k a0 n0 x0_0 x0_1) (fun _ => rfl) n0
end
theorem eq (k : Nat) (a0 : Int) : run (E k) Try.f155 [.val (.int .i64)] [.str] true false (a0, ()) = f k a0 := (show _ = t k (V0 k a0 k) a0 by kernel_rfl).trans (by rw [e0]; rfl)
theorem ctr (k : Nat) : Ctr J Try.prog 155 (C k) :=
  run_ctr (E := E k) rfl mixed tb_ok (eqOk_of tb_eqs) (Cts.cons (spec_l1In.ctr k) Cts.nil) (by kernel_rfl) Try.func155 (by kernel_rfl) rfl (fun ⟨a0, _⟩ r h => (eq k a0).trans h)
end spec_Var
namespace spec_Fixed
def C (k : Nat) : Cn := ⟨[.val (.int .i64), .val (.int .i64)], [.str], true, false, fun x => f k x.1 x.2.1⟩
def E (k : Nat) : Env := ⟨tb, [(86, spec_l1In.C k)], [(5, [0, 1, 5, 6])], k, 0, []⟩
section
variable (k : Nat) (a0 : Int) (a1 : Int)
noncomputable def K0 : Ex → St → Option (ByteArray × Unit) := runK (E k) (endK (E k) Try.f156.results.toList [.val (.int .i64), .val (.int .i64)] (a0, a1, ()) [.str] true false) [.blk 0, .code (at_ (bt 4 15) (body Try.f156))]
noncomputable def V0 (n0 : Nat) (x0_0 : Int) (x0_1 : Int) (x0_2 : ByteArray) (x0_3 : Int) : Option (ByteArray × Unit) := loopN (exec (E k) (at_ (bt 7 23) (body Try.f156))) (canon 0 [0, 1, 5, 6]) (K0 k a0 a1) n0 (mk 31 0 [(0, .int .i64 x0_0), (1, .int .i64 x0_1), (5, .str x0_2), (6, .int .i64 x0_3)] [])
theorem s0 (n0 : Nat) (x0_0 : Int) (x0_1 : Int) (x0_2 : ByteArray) (x0_3 : Int) : V0 k a0 a1 (n0 + 1) x0_0 x0_1 x0_2 x0_3 = b0 k (V0 k a0 a1 n0) x0_0 x0_1 x0_2 x0_3 := by kernel_rfl
theorem e0 (n0 : Nat) : V0 k a0 a1 n0 = l0 k n0 := loop_eq (V := V0 k a0 a1) (l := l0 k) rfl (fun n0 => funext fun x0_0 => funext fun x0_1 => funext fun x0_2 => funext fun x0_3 => s0 k a0 a1 n0 x0_0 x0_1 x0_2 x0_3) (fun _ => rfl) n0
end
theorem eq (k : Nat) (a0 : Int) (a1 : Int) : run (E k) Try.f156 [.val (.int .i64), .val (.int .i64)] [.str] true false (a0, a1, ()) = f k a0 a1 := (show _ = t k (V0 k a0 a1 k) a0 a1 by kernel_rfl).trans (by rw [e0]; rfl)
theorem ctr (k : Nat) : Ctr J Try.prog 156 (C k) :=
  run_ctr (E := E k) rfl mixed tb_ok (eqOk_of tb_eqs) (Cts.cons (spec_l1In.ctr k) Cts.nil) (by kernel_rfl) Try.func156 (by kernel_rfl) rfl (fun ⟨a0, a1, _⟩ r h => (eq k a0 a1).trans h)
end spec_Fixed
namespace spec_ShowRec
def C (k : Nat) : Cn := ⟨[.val TRec], [.str], true, false, fun x => f k x.1⟩
def E (k : Nat) : Env := ⟨tb, [(158, spec_RecOk.C k), (155, spec_Var.C k), (156, spec_Fixed.C k)], [], k, 0, []⟩
theorem eq (k : Nat) (a0 : Ty.den TRec) : run (E k) Try.f89 [.val TRec] [.str] true false (a0, ()) = f k a0 := by kernel_rfl
theorem ctr (k : Nat) : Ctr J Try.prog 89 (C k) :=
  run_ctr (E := E k) rfl mixed tb_ok (eqOk_of tb_eqs) (Cts.cons (spec_RecOk.ctr k) (Cts.cons (spec_Var.ctr k) (Cts.cons (spec_Fixed.ctr k) Cts.nil))) (by kernel_rfl) Try.func89 (by kernel_rfl) rfl (fun ⟨a0, _⟩ r h => (eq k a0).trans h)
end spec_ShowRec
namespace spec_Crc
def C (k : Nat) : Cn := ⟨[.val .str], [(.int .i64)], true, false, fun x => f k x.1⟩
def E (k : Nat) : Env := ⟨tb, [], [(3, [0, 3, 4]), (7, [0, 3, 4, 5])], k, 0, []⟩
section
variable (k : Nat) (a0 : ByteArray)
noncomputable def K0 : Ex → St → Option (Int × Unit) := runK (E k) (endK (E k) Try.f157.results.toList [.val .str] (a0, ()) [(.int .i64)] true false) [.blk 0, .code (at_ (bt 3 7) (body Try.f157))]
noncomputable def B0 (n0 : Nat) : Ex → St → Option (Int × Unit) := lpK (E k) (at_ (bt 6 11) (body Try.f157)) 0 [0, 3, 4] (K0 k a0) n0
noncomputable def K1 (n0 : Nat) : Ex → St → Option (Int × Unit) := runK (E k) (B0 k a0 n0) [.blk 2, .blk 1, .code (at_ (bt 8 203) (body Try.f157))]
noncomputable def V0 (n0 : Nat) (x0_0 : ByteArray) (x0_1 : Int) (x0_2 : Int) : Option (Int × Unit) := loopN (exec (E k) (at_ (bt 6 11) (body Try.f157))) (canon 0 [0, 3, 4]) (K0 k a0) n0 (mk 33 0 [(0, .str x0_0), (3, .int .i64 x0_1), (4, .int .i64 x0_2)] [])
noncomputable def V1 (n0 n1 : Nat) (x1_0 : ByteArray) (x1_1 : Int) (x1_2 : Int) (x1_3 : Int) : Option (Int × Unit) := loopN (exec (E k) (at_ (bt 13 1611) (body Try.f157))) (canon 0 [0, 3, 4, 5]) (K1 k a0 n0) n1 (mk 33 0 [(0, .str x1_0), (3, .int .i64 x1_1), (4, .int .i64 x1_2), (5, .int .i64 x1_3)] [])
theorem s0 (n0 : Nat) (x0_0 : ByteArray) (x0_1 : Int) (x0_2 : Int) : V0 k a0 (n0 + 1) x0_0 x0_1 x0_2 = b0 k (V1 k a0 n0 k) (V0 k a0 n0) x0_0 x0_1 x0_2 := by kernel_rfl
theorem s1 (n0 n1 : Nat) (x1_0 : ByteArray) (x1_1 : Int) (x1_2 : Int) (x1_3 : Int) : V1 k a0 n0 (n1 + 1) x1_0 x1_1 x1_2 x1_3 = b1 k (V0 k a0 n0) (V1 k a0 n0 n1) x1_0 x1_1 x1_2 x1_3 := by kernel_rfl
theorem e1 (n0 n1 : Nat) : V1 k a0 n0 n1 = l1 k (V0 k a0 n0) n1 := loop_eq (V := V1 k a0 n0) (l := l1 k (V0 k a0 n0)) rfl (fun n1 => funext fun x1_0 => funext fun x1_1 => funext fun x1_2 => funext fun x1_3 => s1 k a0 n0 n1 x1_0 x1_1 x1_2 x1_3) (fun _ => rfl) n1
theorem e0 (n0 : Nat) : V0 k a0 n0 = l0 k n0 := by
  induction n0 with
  | zero => rfl
  | succ n0 ih =>
    have h : V0 k a0 (n0 + 1) = b0 k (V1 k a0 n0 k) (V0 k a0 n0) := funext fun x0_0 => funext fun x0_1 => funext fun x0_2 => s0 k a0 n0 x0_0 x0_1 x0_2
    rw [h, e1, ih]
    rfl
end
theorem eq (k : Nat) (a0 : ByteArray) : run (E k) Try.f157 [.val .str] [(.int .i64)] true false (a0, ()) = f k a0 := (show _ = t k (V0 k a0 k) a0 by kernel_rfl).trans (by rw [e0]; rfl)
theorem ctr (k : Nat) : Ctr J Try.prog 157 (C k) :=
  run_ctr (E := E k) rfl mixed tb_ok (eqOk_of tb_eqs) Cts.nil (by kernel_rfl) Try.func157 (by kernel_rfl) rfl (fun ⟨a0, _⟩ r h => (eq k a0).trans h)
end spec_Crc
namespace spec_SumOf
def C (k : Nat) : Cn := ⟨[.val (.slice TRec)], [(.int .i64)], true, false, fun x => f k x.1⟩
def E (k : Nat) : Env := ⟨tb, [(89, spec_ShowRec.C k), (157, spec_Crc.C k)], [(3, [0, 3, 4])], k, 0, []⟩
section
variable (k : Nat) (a0 : List (Ty.den TRec))
noncomputable def K0 : Ex → St → Option (Int × Unit) := runK (E k) (endK (E k) Try.f154.results.toList [.val (.slice TRec)] (a0, ()) [(.int .i64)] true false) [.blk 0, .code (at_ (bt 3 7) (body Try.f154))]
noncomputable def V0 (n0 : Nat) (x0_0 : List (Ty.den TRec)) (x0_1 : ByteArray) (x0_2 : Int) : Option (Int × Unit) := loopN (exec (E k) (at_ (bt 6 11) (body Try.f154))) (canon 0 [0, 3, 4]) (K0 k a0) n0 (mk 20 0 [(0, .sl true TRec x0_0), (3, .str x0_1), (4, .int .i64 x0_2)] [])
theorem s0 (n0 : Nat) (x0_0 : List (Ty.den TRec)) (x0_1 : ByteArray) (x0_2 : Int) : V0 k a0 (n0 + 1) x0_0 x0_1 x0_2 = b0 k (V0 k a0 n0) x0_0 x0_1 x0_2 := by kernel_rfl
theorem e0 (n0 : Nat) : V0 k a0 n0 = l0 k n0 := loop_eq (V := V0 k a0) (l := l0 k) rfl (fun n0 => funext fun x0_0 => funext fun x0_1 => funext fun x0_2 => s0 k a0 n0 x0_0 x0_1 x0_2) (fun _ => rfl) n0
end
theorem eq (k : Nat) (a0 : List (Ty.den TRec)) : run (E k) Try.f154 [.val (.slice TRec)] [(.int .i64)] true false (a0, ()) = f k a0 := (show _ = t k (V0 k a0 k) a0 by kernel_rfl).trans (by rw [e0]; rfl)
theorem ctr (k : Nat) : Ctr J Try.prog 154 (C k) :=
  run_ctr (E := E k) rfl mixed tb_ok (eqOk_of tb_eqs) (Cts.cons (spec_ShowRec.ctr k) (Cts.cons (spec_Crc.ctr k) Cts.nil)) (by kernel_rfl) Try.func154 (by kernel_rfl) rfl (fun ⟨a0, _⟩ r h => (eq k a0).trans h)
end spec_SumOf
namespace spec_l9Seal
def C (k : Nat) : Cn := ⟨[.val (.slice TRec), .val (.int .i64), .val (.int .i64)], [TRec], true, false, fun x => f k x.1 x.2.1 x.2.2.1⟩
def E (k : Nat) : Env := ⟨tb, [(154, spec_SumOf.C k)], [], k, 0, []⟩
theorem eq (k : Nat) (a0 : List (Ty.den TRec)) (a1 : Int) (a2 : Int) : run (E k) Try.f87 [.val (.slice TRec), .val (.int .i64), .val (.int .i64)] [TRec] true false (a0, a1, a2, ()) = f k a0 a1 a2 := by kernel_rfl
theorem ctr (k : Nat) : Ctr J Try.prog 87 (C k) :=
  run_ctr (E := E k) rfl mixed tb_ok (eqOk_of tb_eqs) (Cts.cons (spec_SumOf.ctr k) Cts.nil) (by kernel_rfl) Try.func87 (by kernel_rfl) rfl (fun ⟨a0, a1, a2, _⟩ r h => (eq k a0 a1 a2).trans h)
end spec_l9Seal
namespace spec_l9Places
def C (k : Nat) : Cn := ⟨[.io false Tl1Cur], [(.slice TPlace)], true, true, fun x => f k x.1⟩
def E (k : Nat) : Env := ⟨tb, [(128, spec_l1Once.C k), (184, spec_l1Below.C k), (185, spec_l5Key.C k), (186, spec_l1Text.C k), (87, spec_l9Seal.C k)], [(7, [0, 3, 4, 5, 6, 7]), (12, [0, 3, 4, 5, 6, 8]), (19, [0, 3, 4, 5, 9]), (24, [0, 3, 4, 5, 9, 10, 11]), (31, [0, 3, 4, 5, 9, 10, 13])], k, 1, []⟩
section
variable (k : Nat) (a0 : Ty.den Tl1Cur)
noncomputable def K0 : Ex → St → Option ((Ty.den Tl1Cur) × (List (Ty.den TPlace)) × Unit) := runK (E k) (endK (E k) Try.f130.results.toList [.io false Tl1Cur] (a0, ()) [(.slice TPlace)] true true) [.blk 0, .code (at_ (bt 9 431) (body Try.f130)), .code (at_ (bt 5 31) (body Try.f130))]
noncomputable def K1 : Ex → St → Option ((Ty.den Tl1Cur) × (List (Ty.den TPlace)) × Unit) := runK (E k) (endK (E k) Try.f130.results.toList [.io false Tl1Cur] (a0, ()) [(.slice TPlace)] true true) [.blk 2, .code (at_ (bt 10 943) (body Try.f130)), .code (at_ (bt 5 31) (body Try.f130))]
noncomputable def K2 : Ex → St → Option ((Ty.den Tl1Cur) × (List (Ty.den TPlace)) × Unit) := runK (E k) (endK (E k) Try.f130.results.toList [.io false Tl1Cur] (a0, ()) [(.slice TPlace)] true true) [.blk 4, .code (at_ (bt 6 63) (body Try.f130))]
noncomputable def B2 (n2 : Nat) : Ex → St → Option ((Ty.den Tl1Cur) × (List (Ty.den TPlace)) × Unit) := lpK (E k) (at_ (bt 9 95) (body Try.f130)) 1 [0, 3, 4, 5, 9] (K2 k a0) n2
noncomputable def K3 (n2 : Nat) : Ex → St → Option ((Ty.den Tl1Cur) × (List (Ty.den TPlace)) × Unit) := runK (E k) (B2 k a0 n2) [.blk 6, .code (at_ (bt 15 29279) (body Try.f130)), .blk 5, .code (at_ (bt 11 1631) (body Try.f130))]
noncomputable def K4 (n2 : Nat) : Ex → St → Option ((Ty.den Tl1Cur) × (List (Ty.den TPlace)) × Unit) := runK (E k) (B2 k a0 n2) [.blk 8, .code (at_ (bt 16 62047) (body Try.f130)), .blk 5, .code (at_ (bt 11 1631) (body Try.f130))]
noncomputable def V0 (n0 : Nat) (x0_0 : Int) (x0_1 : Int) (x0_2 : Int) (x0_3 : List Int) (x0_4 : Int) (x0_5 : Int) (x0_6 : List (Ty.den TPlace)) (x0_7 : List (Ty.den TRec)) : Option ((Ty.den Tl1Cur) × (List (Ty.den TPlace)) × Unit) := loopN (exec (E k) (at_ (bt 12 687) (body Try.f130))) (canon 1 [0, 3, 4, 5, 6, 7]) (K0 k a0) n0 (mk 144 3 [(0, .ptr 0 0 0), (3, .ref 1), (4, .int .i64 x0_0), (5, .int .i64 x0_1), (6, .ref 2), (7, .int .i64 x0_2)] [(0, .box [.sl true (.int .u8) x0_3, .int .i64 x0_4, .int .i64 x0_5]), (1, .own false TPlace x0_6), (2, .own false TRec x0_7)])
noncomputable def V1 (n1 : Nat) (x1_0 : Int) (x1_1 : Int) (x1_2 : Int) (x1_3 : List Int) (x1_4 : Int) (x1_5 : Int) (x1_6 : List (Ty.den TPlace)) (x1_7 : List (Ty.den TRec)) : Option ((Ty.den Tl1Cur) × (List (Ty.den TPlace)) × Unit) := loopN (exec (E k) (at_ (bt 13 1455) (body Try.f130))) (canon 1 [0, 3, 4, 5, 6, 8]) (K1 k a0) n1 (mk 144 3 [(0, .ptr 0 0 0), (3, .ref 1), (4, .int .i64 x1_0), (5, .int .i64 x1_1), (6, .ref 2), (8, .int .i64 x1_2)] [(0, .box [.sl true (.int .u8) x1_3, .int .i64 x1_4, .int .i64 x1_5]), (1, .own false TPlace x1_6), (2, .own false TRec x1_7)])
noncomputable def V2 (n2 : Nat) (x2_0 : Int) (x2_1 : Int) (x2_2 : Int) (x2_3 : List Int) (x2_4 : Int) (x2_5 : Int) (x2_6 : List (Ty.den TPlace)) : Option ((Ty.den Tl1Cur) × (List (Ty.den TPlace)) × Unit) := loopN (exec (E k) (at_ (bt 9 95) (body Try.f130))) (canon 1 [0, 3, 4, 5, 9]) (K2 k a0) n2 (mk 144 2 [(0, .ptr 0 0 0), (3, .ref 1), (4, .int .i64 x2_0), (5, .int .i64 x2_1), (9, .int .i64 x2_2)] [(0, .box [.sl true (.int .u8) x2_3, .int .i64 x2_4, .int .i64 x2_5]), (1, .own false TPlace x2_6)])
noncomputable def V3 (n2 n3 : Nat) (x3_0 : Int) (x3_1 : Int) (x3_2 : Int) (x3_3 : Int) (x3_4 : List Int) (x3_5 : Int) (x3_6 : Int) (x3_7 : List (Ty.den TPlace)) (x3_8 : List (Ty.den TRec)) : Option ((Ty.den Tl1Cur) × (List (Ty.den TPlace)) × Unit) := loopN (exec (E k) (at_ (bt 18 45663) (body Try.f130))) (canon 1 [0, 3, 4, 5, 9, 10, 11]) (K3 k a0 n2) n3 (mk 144 3 [(0, .ptr 0 0 0), (3, .ref 1), (4, .int .i64 x3_0), (5, .int .i64 x3_1), (9, .int .i64 x3_2), (10, .ref 2), (11, .int .i64 x3_3)] [(0, .box [.sl true (.int .u8) x3_4, .int .i64 x3_5, .int .i64 x3_6]), (1, .own false TPlace x3_7), (2, .own false TRec x3_8)])
noncomputable def V4 (n2 n4 : Nat) (x4_0 : Int) (x4_1 : Int) (x4_2 : Int) (x4_3 : Int) (x4_4 : List Int) (x4_5 : Int) (x4_6 : Int) (x4_7 : List (Ty.den TPlace)) (x4_8 : List (Ty.den TRec)) : Option ((Ty.den Tl1Cur) × (List (Ty.den TPlace)) × Unit) := loopN (exec (E k) (at_ (bt 19 94815) (body Try.f130))) (canon 1 [0, 3, 4, 5, 9, 10, 13]) (K4 k a0 n2) n4 (mk 144 3 [(0, .ptr 0 0 0), (3, .ref 1), (4, .int .i64 x4_0), (5, .int .i64 x4_1), (9, .int .i64 x4_2), (10, .ref 2), (13, .int .i64 x4_3)] [(0, .box [.sl true (.int .u8) x4_4, .int .i64 x4_5, .int .i64 x4_6]), (1, .own false TPlace x4_7), (2, .own false TRec x4_8)])
theorem s0 (n0 : Nat) (x0_0 : Int) (x0_1 : Int) (x0_2 : Int) (x0_3 : List Int) (x0_4 : Int) (x0_5 : Int) (x0_6 : List (Ty.den TPlace)) (x0_7 : List (Ty.den TRec)) : V0 k a0 (n0 + 1) x0_0 x0_1 x0_2 x0_3 x0_4 x0_5 x0_6 x0_7 = b0 k (V1 k a0 k) (V0 k a0 n0) x0_0 x0_1 x0_2 x0_3 x0_4 x0_5 x0_6 x0_7 := by kernel_rfl
theorem s1 (n1 : Nat) (x1_0 : Int) (x1_1 : Int) (x1_2 : Int) (x1_3 : List Int) (x1_4 : Int) (x1_5 : Int) (x1_6 : List (Ty.den TPlace)) (x1_7 : List (Ty.den TRec)) : V1 k a0 (n1 + 1) x1_0 x1_1 x1_2 x1_3 x1_4 x1_5 x1_6 x1_7 = b1 k (V2 k a0 k) (V1 k a0 n1) x1_0 x1_1 x1_2 x1_3 x1_4 x1_5 x1_6 x1_7 := by kernel_rfl
theorem s2 (n2 : Nat) (x2_0 : Int) (x2_1 : Int) (x2_2 : Int) (x2_3 : List Int) (x2_4 : Int) (x2_5 : Int) (x2_6 : List (Ty.den TPlace)) : V2 k a0 (n2 + 1) x2_0 x2_1 x2_2 x2_3 x2_4 x2_5 x2_6 = b2 k (V3 k a0 n2 k) (V2 k a0 n2) x2_0 x2_1 x2_2 x2_3 x2_4 x2_5 x2_6 := by kernel_rfl
theorem s3 (n2 n3 : Nat) (x3_0 : Int) (x3_1 : Int) (x3_2 : Int) (x3_3 : Int) (x3_4 : List Int) (x3_5 : Int) (x3_6 : Int) (x3_7 : List (Ty.den TPlace)) (x3_8 : List (Ty.den TRec)) : V3 k a0 n2 (n3 + 1) x3_0 x3_1 x3_2 x3_3 x3_4 x3_5 x3_6 x3_7 x3_8 = b3 k (V4 k a0 n2 k) (V2 k a0 n2) (V3 k a0 n2 n3) x3_0 x3_1 x3_2 x3_3 x3_4 x3_5 x3_6 x3_7 x3_8 := by kernel_rfl
theorem s4 (n2 n4 : Nat) (x4_0 : Int) (x4_1 : Int) (x4_2 : Int) (x4_3 : Int) (x4_4 : List Int) (x4_5 : Int) (x4_6 : Int) (x4_7 : List (Ty.den TPlace)) (x4_8 : List (Ty.den TRec)) : V4 k a0 n2 (n4 + 1) x4_0 x4_1 x4_2 x4_3 x4_4 x4_5 x4_6 x4_7 x4_8 = b4 k (V2 k a0 n2) (V4 k a0 n2 n4) x4_0 x4_1 x4_2 x4_3 x4_4 x4_5 x4_6 x4_7 x4_8 := by kernel_rfl
theorem e4 (n2 n4 : Nat) : V4 k a0 n2 n4 = l4 k (V2 k a0 n2) n4 := loop_eq (V := V4 k a0 n2) (l := l4 k (V2 k a0 n2)) rfl (fun n4 => funext fun x4_0 => funext fun x4_1 => funext fun x4_2 => funext fun x4_3 => funext fun x4_4 => funext fun x4_5 => funext fun x4_6 => funext fun x4_7 => funext fun x4_8 => s4 k a0 n2 n4 x4_0 x4_1 x4_2 x4_3 x4_4 x4_5 x4_6 x4_7 x4_8) (fun _ => rfl) n4
theorem e3 (n2 n3 : Nat) : V3 k a0 n2 n3 = l3 k (V2 k a0 n2) n3 := by
  induction n3 with
  | zero => rfl
  | succ n3 ih =>
    have h : V3 k a0 n2 (n3 + 1) = b3 k (V4 k a0 n2 k) (V2 k a0 n2) (V3 k a0 n2 n3) := funext fun x3_0 => funext fun x3_1 => funext fun x3_2 => funext fun x3_3 => funext fun x3_4 => funext fun x3_5 => funext fun x3_6 => funext fun x3_7 => funext fun x3_8 => s3 k a0 n2 n3 x3_0 x3_1 x3_2 x3_3 x3_4 x3_5 x3_6 x3_7 x3_8
    rw [h, e4, ih]
    rfl
theorem e2 (n2 : Nat) : V2 k a0 n2 = l2 k n2 := by
  induction n2 with
  | zero => rfl
  | succ n2 ih =>
    have h : V2 k a0 (n2 + 1) = b2 k (V3 k a0 n2 k) (V2 k a0 n2) := funext fun x2_0 => funext fun x2_1 => funext fun x2_2 => funext fun x2_3 => funext fun x2_4 => funext fun x2_5 => funext fun x2_6 => s2 k a0 n2 x2_0 x2_1 x2_2 x2_3 x2_4 x2_5 x2_6
    rw [h, e3, ih]
    rfl
theorem e1 (n1 : Nat) : V1 k a0 n1 = l1 k n1 := by
  induction n1 with
  | zero => rfl
  | succ n1 ih =>
    have h : V1 k a0 (n1 + 1) = b1 k (V2 k a0 k) (V1 k a0 n1) := funext fun x1_0 => funext fun x1_1 => funext fun x1_2 => funext fun x1_3 => funext fun x1_4 => funext fun x1_5 => funext fun x1_6 => funext fun x1_7 => s1 k a0 n1 x1_0 x1_1 x1_2 x1_3 x1_4 x1_5 x1_6 x1_7
    rw [h, e2, ih]
    rfl
theorem e0 (n0 : Nat) : V0 k a0 n0 = l0 k n0 := by
  induction n0 with
  | zero => rfl
  | succ n0 ih =>
    have h : V0 k a0 (n0 + 1) = b0 k (V1 k a0 k) (V0 k a0 n0) := funext fun x0_0 => funext fun x0_1 => funext fun x0_2 => funext fun x0_3 => funext fun x0_4 => funext fun x0_5 => funext fun x0_6 => funext fun x0_7 => s0 k a0 n0 x0_0 x0_1 x0_2 x0_3 x0_4 x0_5 x0_6 x0_7
    rw [h, e1, ih]
    rfl
end
theorem eq (k : Nat) (a0 : Ty.den Tl1Cur) : run (E k) Try.f130 [.io false Tl1Cur] [(.slice TPlace)] true true (a0, ()) = f k a0 := (show _ = t k (V0 k a0 k) (V2 k a0 k) a0 by kernel_rfl).trans (by rw [e0, e2]; rfl)
theorem ctr (k : Nat) : Ctr J Try.prog 130 (C k) :=
  run_ctr (E := E k) rfl mixed tb_ok (eqOk_of tb_eqs) (Cts.cons (spec_l1Once.ctr k) (Cts.cons (spec_l1Below.ctr k) (Cts.cons (spec_l5Key.ctr k) (Cts.cons (spec_l1Text.ctr k) (Cts.cons (spec_l9Seal.ctr k) Cts.nil))))) (by kernel_rfl) Try.func130 (by kernel_rfl) rfl (fun ⟨a0, _⟩ r h => (eq k a0).trans h)
end spec_l9Places
namespace spec_l9Of
def C (k : Nat) : Cn := ⟨[.val (.slice TPlace), .val (.int .i64), .val (.int .i64)], [(.slice TPlace)], true, false, fun x => f k x.1 x.2.1 x.2.2.1⟩
def E (k : Nat) : Env := ⟨tb, [], [(3, [0, 1, 2, 7, 8])], k, 0, []⟩
section
variable (k : Nat) (a0 : List (Ty.den TPlace)) (a1 : Int) (a2 : Int)
noncomputable def K0 : Ex → St → Option ((List (Ty.den TPlace)) × Unit) := runK (E k) (endK (E k) Try.f135.results.toList [.val (.slice TPlace), .val (.int .i64), .val (.int .i64)] (a0, a1, a2, ()) [(.slice TPlace)] true false) [.blk 0, .code (at_ (bt 3 7) (body Try.f135))]
noncomputable def V0 (n0 : Nat) (x0_0 : List (Ty.den TPlace)) (x0_1 : Int) (x0_2 : Int) (x0_3 : Int) (x0_4 : List (Ty.den TPlace)) : Option ((List (Ty.den TPlace)) × Unit) := loopN (exec (E k) (at_ (bt 6 11) (body Try.f135))) (canon 0 [0, 1, 2, 7, 8]) (K0 k a0 a1 a2) n0 (mk 53 1 [(0, .sl true TPlace x0_0), (1, .int .i64 x0_1), (2, .int .i64 x0_2), (7, .ref 0), (8, .int .i64 x0_3)] [(0, .own false TPlace x0_4)])
theorem s0 (n0 : Nat) (x0_0 : List (Ty.den TPlace)) (x0_1 : Int) (x0_2 : Int) (x0_3 : Int) (x0_4 : List (Ty.den TPlace)) : V0 k a0 a1 a2 (n0 + 1) x0_0 x0_1 x0_2 x0_3 x0_4 = b0 k (V0 k a0 a1 a2 n0) x0_0 x0_1 x0_2 x0_3 x0_4 := by kernel_rfl
theorem e0 (n0 : Nat) : V0 k a0 a1 a2 n0 = l0 k n0 := loop_eq (V := V0 k a0 a1 a2) (l := l0 k) rfl (fun n0 => funext fun x0_0 => funext fun x0_1 => funext fun x0_2 => funext fun x0_3 => funext fun x0_4 => s0 k a0 a1 a2 n0 x0_0 x0_1 x0_2 x0_3 x0_4) (fun _ => rfl) n0
end
theorem eq (k : Nat) (a0 : List (Ty.den TPlace)) (a1 : Int) (a2 : Int) : run (E k) Try.f135 [.val (.slice TPlace), .val (.int .i64), .val (.int .i64)] [(.slice TPlace)] true false (a0, a1, a2, ()) = f k a0 a1 a2 := (show _ = t k (V0 k a0 a1 a2 k) a0 a1 a2 by kernel_rfl).trans (by rw [e0]; rfl)
theorem ctr (k : Nat) : Ctr J Try.prog 135 (C k) :=
  run_ctr (E := E k) rfl mixed tb_ok (eqOk_of tb_eqs) Cts.nil (by kernel_rfl) Try.func135 (by kernel_rfl) rfl (fun ⟨a0, a1, a2, _⟩ r h => (eq k a0 a1 a2).trans h)
end spec_l9Of
namespace spec_l9Recs
def C (k : Nat) : Cn := ⟨[.val (.slice TPlace)], [(.slice TRec)], true, false, fun x => f k x.1⟩
def E (k : Nat) : Env := ⟨tb, [], [(3, [0, 3, 4])], k, 0, []⟩
section
variable (k : Nat) (a0 : List (Ty.den TPlace))
noncomputable def K0 : Ex → St → Option ((List (Ty.den TRec)) × Unit) := runK (E k) (endK (E k) Try.f189.results.toList [.val (.slice TPlace)] (a0, ()) [(.slice TRec)] true false) [.blk 0, .code (at_ (bt 3 7) (body Try.f189))]
noncomputable def V0 (n0 : Nat) (x0_0 : List (Ty.den TPlace)) (x0_1 : Int) (x0_2 : List (Ty.den TRec)) : Option ((List (Ty.den TRec)) × Unit) := loopN (exec (E k) (at_ (bt 6 11) (body Try.f189))) (canon 0 [0, 3, 4]) (K0 k a0) n0 (mk 21 1 [(0, .sl true TPlace x0_0), (3, .ref 0), (4, .int .i64 x0_1)] [(0, .own false TRec x0_2)])
theorem s0 (n0 : Nat) (x0_0 : List (Ty.den TPlace)) (x0_1 : Int) (x0_2 : List (Ty.den TRec)) : V0 k a0 (n0 + 1) x0_0 x0_1 x0_2 = b0 k (V0 k a0 n0) x0_0 x0_1 x0_2 := by kernel_rfl
theorem e0 (n0 : Nat) : V0 k a0 n0 = l0 k n0 := loop_eq (V := V0 k a0) (l := l0 k) rfl (fun n0 => funext fun x0_0 => funext fun x0_1 => funext fun x0_2 => s0 k a0 n0 x0_0 x0_1 x0_2) (fun _ => rfl) n0
end
theorem eq (k : Nat) (a0 : List (Ty.den TPlace)) : run (E k) Try.f189 [.val (.slice TPlace)] [(.slice TRec)] true false (a0, ()) = f k a0 := (show _ = t k (V0 k a0 k) a0 by kernel_rfl).trans (by rw [e0]; rfl)
theorem ctr (k : Nat) : Ctr J Try.prog 189 (C k) :=
  run_ctr (E := E k) rfl mixed tb_ok (eqOk_of tb_eqs) Cts.nil (by kernel_rfl) Try.func189 (by kernel_rfl) rfl (fun ⟨a0, _⟩ r h => (eq k a0).trans h)
end spec_l9Recs
namespace spec_l9Fits
def C (k : Nat) : Cn := ⟨[.val TRec, .val (.slice TPlace)], [.bool], true, false, fun x => f k x.1 x.2.1⟩
def E (k : Nat) : Env := ⟨tb, [(189, spec_l9Recs.C k), (154, spec_SumOf.C k)], [], k, 0, []⟩
theorem eq (k : Nat) (a0 : Ty.den TRec) (a1 : List (Ty.den TPlace)) : run (E k) Try.f136 [.val TRec, .val (.slice TPlace)] [.bool] true false (a0, a1, ()) = f k a0 a1 := by kernel_rfl
theorem ctr (k : Nat) : Ctr J Try.prog 136 (C k) :=
  run_ctr (E := E k) rfl mixed tb_ok (eqOk_of tb_eqs) (Cts.cons (spec_l9Recs.ctr k) (Cts.cons (spec_SumOf.ctr k) Cts.nil)) (by kernel_rfl) Try.func136 (by kernel_rfl) rfl (fun ⟨a0, a1, _⟩ r h => (eq k a0 a1).trans h)
end spec_l9Fits
namespace spec_DirDrop
def C (k : Nat) : Cn := ⟨[.val (.slice TEntry), .val .str], [(.slice TEntry)], true, false, fun x => f k x.1 x.2.1⟩
def E (k : Nat) : Env := ⟨tb, [], [(3, [0, 1, 5, 6])], k, 0, []⟩
section
variable (k : Nat) (a0 : List (Ty.den TEntry)) (a1 : ByteArray)
noncomputable def K0 : Ex → St → Option ((List (Ty.den TEntry)) × Unit) := runK (E k) (endK (E k) Try.f190.results.toList [.val (.slice TEntry), .val .str] (a0, a1, ()) [(.slice TEntry)] true false) [.blk 0, .code (at_ (bt 3 7) (body Try.f190))]
noncomputable def V0 (n0 : Nat) (x0_0 : List (Ty.den TEntry)) (x0_1 : ByteArray) (x0_2 : Int) (x0_3 : List (Ty.den TEntry)) : Option ((List (Ty.den TEntry)) × Unit) := loopN (exec (E k) (at_ (bt 6 11) (body Try.f190))) (canon 0 [0, 1, 5, 6]) (K0 k a0 a1) n0 (mk 29 1 [(0, .sl true TEntry x0_0), (1, .str x0_1), (5, .ref 0), (6, .int .i64 x0_2)] [(0, .own false TEntry x0_3)])
theorem s0 (n0 : Nat) (x0_0 : List (Ty.den TEntry)) (x0_1 : ByteArray) (x0_2 : Int) (x0_3 : List (Ty.den TEntry)) : V0 k a0 a1 (n0 + 1) x0_0 x0_1 x0_2 x0_3 = b0 k (V0 k a0 a1 n0) x0_0 x0_1 x0_2 x0_3 := by kernel_rfl
theorem e0 (n0 : Nat) : V0 k a0 a1 n0 = l0 k n0 := loop_eq (V := V0 k a0 a1) (l := l0 k) rfl (fun n0 => funext fun x0_0 => funext fun x0_1 => funext fun x0_2 => funext fun x0_3 => s0 k a0 a1 n0 x0_0 x0_1 x0_2 x0_3) (fun _ => rfl) n0
end
theorem eq (k : Nat) (a0 : List (Ty.den TEntry)) (a1 : ByteArray) : run (E k) Try.f190 [.val (.slice TEntry), .val .str] [(.slice TEntry)] true false (a0, a1, ()) = f k a0 a1 := (show _ = t k (V0 k a0 a1 k) a0 a1 by kernel_rfl).trans (by rw [e0]; rfl)
theorem ctr (k : Nat) : Ctr J Try.prog 190 (C k) :=
  run_ctr (E := E k) rfl mixed tb_ok (eqOk_of tb_eqs) Cts.nil (by kernel_rfl) Try.func190 (by kernel_rfl) rfl (fun ⟨a0, a1, _⟩ r h => (eq k a0 a1).trans h)
end spec_DirDrop
namespace spec_DirPut
def C (k : Nat) : Cn := ⟨[.val (.slice TEntry), .val TEntry], [(.slice TEntry)], true, false, fun x => f k x.1 x.2.1⟩
def E (k : Nat) : Env := ⟨tb, [], [(4, [0, 3, 5, 6, 7])], k, 0, []⟩
section
variable (k : Nat) (a0 : List (Ty.den TEntry)) (a1 : Ty.den TEntry)
noncomputable def K0 : Ex → St → Option ((List (Ty.den TEntry)) × Unit) := runK (E k) (endK (E k) Try.f191.results.toList [.val (.slice TEntry), .val TEntry] (a0, a1, ()) [(.slice TEntry)] true false) [.blk 0, .code (at_ (bt 4 15) (body Try.f191))]
noncomputable def V0 (n0 : Nat) (x0_0 : List (Ty.den TEntry)) (x0_1 : Bool) (x0_2 : Int) (x0_3 : ByteArray) (x0_4 : Int) (x0_5 : Int) (x0_6 : Int) (x0_7 : Int) (x0_8 : List (Ty.den TEntry)) : Option ((List (Ty.den TEntry)) × Unit) := loopN (exec (E k) (at_ (bt 7 23) (body Try.f191))) (canon 0 [0, 3, 5, 6, 7]) (K0 k a0 a1) n0 (mk 53 2 [(0, .sl true TEntry x0_0), (3, .ptr 0 0 0), (5, .ref 1), (6, .bool x0_1), (7, .int .i64 x0_2)] [(0, .box [.str x0_3, .int .i64 x0_4, .int .i64 x0_5, .int .i64 x0_6, .int .i64 x0_7]), (1, .own false TEntry x0_8)])
theorem s0 (n0 : Nat) (x0_0 : List (Ty.den TEntry)) (x0_1 : Bool) (x0_2 : Int) (x0_3 : ByteArray) (x0_4 : Int) (x0_5 : Int) (x0_6 : Int) (x0_7 : Int) (x0_8 : List (Ty.den TEntry)) : V0 k a0 a1 (n0 + 1) x0_0 x0_1 x0_2 x0_3 x0_4 x0_5 x0_6 x0_7 x0_8 = b0 k (V0 k a0 a1 n0) x0_0 x0_1 x0_2 x0_3 x0_4 x0_5 x0_6 x0_7 x0_8 := by kernel_rfl
theorem e0 (n0 : Nat) : V0 k a0 a1 n0 = l0 k n0 := loop_eq (V := V0 k a0 a1) (l := l0 k) rfl (fun n0 => funext fun x0_0 => funext fun x0_1 => funext fun x0_2 => funext fun x0_3 => funext fun x0_4 => funext fun x0_5 => funext fun x0_6 => funext fun x0_7 => funext fun x0_8 => s0 k a0 a1 n0 x0_0 x0_1 x0_2 x0_3 x0_4 x0_5 x0_6 x0_7 x0_8) (fun _ => rfl) n0
end
theorem eq (k : Nat) (a0 : List (Ty.den TEntry)) (a1 : Ty.den TEntry) : run (E k) Try.f191 [.val (.slice TEntry), .val TEntry] [(.slice TEntry)] true false (a0, a1, ()) = f k a0 a1 := (show _ = t k (V0 k a0 a1 k) a0 a1 by kernel_rfl).trans (by rw [e0]; rfl)
theorem ctr (k : Nat) : Ctr J Try.prog 191 (C k) :=
  run_ctr (E := E k) rfl mixed tb_ok (eqOk_of tb_eqs) Cts.nil (by kernel_rfl) Try.func191 (by kernel_rfl) rfl (fun ⟨a0, a1, _⟩ r h => (eq k a0 a1).trans h)
end spec_DirPut
namespace spec_l9Put
def C (k : Nat) : Cn := ⟨[.val (.slice TEntry), .val TPlace], [(.slice TEntry)], true, false, fun x => f k x.1 x.2.1⟩
def E (k : Nat) : Env := ⟨tb, [(190, spec_DirDrop.C k), (191, spec_DirPut.C k)], [], k, 0, []⟩
theorem eq (k : Nat) (a0 : List (Ty.den TEntry)) (a1 : Ty.den TPlace) : run (E k) Try.f138 [.val (.slice TEntry), .val TPlace] [(.slice TEntry)] true false (a0, a1, ()) = f k a0 a1 := by kernel_rfl
theorem ctr (k : Nat) : Ctr J Try.prog 138 (C k) :=
  run_ctr (E := E k) rfl mixed tb_ok (eqOk_of tb_eqs) (Cts.cons (spec_DirDrop.ctr k) (Cts.cons (spec_DirPut.ctr k) Cts.nil)) (by kernel_rfl) Try.func138 (by kernel_rfl) rfl (fun ⟨a0, a1, _⟩ r h => (eq k a0 a1).trans h)
end spec_l9Put
namespace spec_l9Kept
def C (k : Nat) : Cn := ⟨[.val (.slice TPlace), .val (.int .i64)], [(.slice TPlace)], true, false, fun x => f k x.1 x.2.1⟩
def E (k : Nat) : Env := ⟨tb, [], [(3, [0, 1, 5, 6])], k, 0, []⟩
section
variable (k : Nat) (a0 : List (Ty.den TPlace)) (a1 : Int)
noncomputable def K0 : Ex → St → Option ((List (Ty.den TPlace)) × Unit) := runK (E k) (endK (E k) Try.f137.results.toList [.val (.slice TPlace), .val (.int .i64)] (a0, a1, ()) [(.slice TPlace)] true false) [.blk 0, .code (at_ (bt 3 7) (body Try.f137))]
noncomputable def V0 (n0 : Nat) (x0_0 : List (Ty.den TPlace)) (x0_1 : Int) (x0_2 : Int) (x0_3 : List (Ty.den TPlace)) : Option ((List (Ty.den TPlace)) × Unit) := loopN (exec (E k) (at_ (bt 6 11) (body Try.f137))) (canon 0 [0, 1, 5, 6]) (K0 k a0 a1) n0 (mk 36 1 [(0, .sl true TPlace x0_0), (1, .int .i64 x0_1), (5, .ref 0), (6, .int .i64 x0_2)] [(0, .own false TPlace x0_3)])
theorem s0 (n0 : Nat) (x0_0 : List (Ty.den TPlace)) (x0_1 : Int) (x0_2 : Int) (x0_3 : List (Ty.den TPlace)) : V0 k a0 a1 (n0 + 1) x0_0 x0_1 x0_2 x0_3 = b0 k (V0 k a0 a1 n0) x0_0 x0_1 x0_2 x0_3 := by kernel_rfl
theorem e0 (n0 : Nat) : V0 k a0 a1 n0 = l0 k n0 := loop_eq (V := V0 k a0 a1) (l := l0 k) rfl (fun n0 => funext fun x0_0 => funext fun x0_1 => funext fun x0_2 => funext fun x0_3 => s0 k a0 a1 n0 x0_0 x0_1 x0_2 x0_3) (fun _ => rfl) n0
end
theorem eq (k : Nat) (a0 : List (Ty.den TPlace)) (a1 : Int) : run (E k) Try.f137 [.val (.slice TPlace), .val (.int .i64)] [(.slice TPlace)] true false (a0, a1, ()) = f k a0 a1 := (show _ = t k (V0 k a0 a1 k) a0 a1 by kernel_rfl).trans (by rw [e0]; rfl)
theorem ctr (k : Nat) : Ctr J Try.prog 137 (C k) :=
  run_ctr (E := E k) rfl mixed tb_ok (eqOk_of tb_eqs) Cts.nil (by kernel_rfl) Try.func137 (by kernel_rfl) rfl (fun ⟨a0, a1, _⟩ r h => (eq k a0 a1).trans h)
end spec_l9Kept
namespace spec_Regroup
def C (k : Nat) : Cn := ⟨[.val TGroup, .val (.slice TPlace)], [TGroup], true, false, fun x => f k x.1 x.2.1⟩
def E (k : Nat) : Env := ⟨tb, [(135, spec_l9Of.C k), (136, spec_l9Fits.C k), (138, spec_l9Put.C k), (137, spec_l9Kept.C k)], [(3, [1, 4, 5, 6]), (17, [1, 4, 5, 6, 8, 9])], k, 0, []⟩
section
variable (k : Nat) (a0 : Ty.den TGroup) (a1 : List (Ty.den TPlace))
noncomputable def K0 : Ex → St → Option ((Ty.den TGroup) × Unit) := runK (E k) (endK (E k) Try.f58.results.toList [.val TGroup, .val (.slice TPlace)] (a0, a1, ()) [TGroup] true false) [.blk 0, .code (at_ (bt 3 7) (body Try.f58))]
noncomputable def B0 (n0 : Nat) : Ex → St → Option ((Ty.den TGroup) × Unit) := lpK (E k) (at_ (bt 6 11) (body Try.f58)) 0 [1, 4, 5, 6] (K0 k a0 a1) n0
noncomputable def K1 (n0 : Nat) : Ex → St → Option ((Ty.den TGroup) × Unit) := runK (E k) (B0 k a0 a1 n0) [.blk 3, .code (at_ (bt 14 15947) (body Try.f58)), .blk 1, .code (at_ (bt 8 203) (body Try.f58))]
noncomputable def V0 (n0 : Nat) (x0_0 : List (Ty.den TPlace)) (x0_1 : Int) (x0_2 : List (Ty.den TEntry)) (x0_3 : Int) (x0_4 : Int) (x0_5 : List (Ty.den TEntry)) (x0_6 : Int) (x0_7 : Int) : Option ((Ty.den TGroup) × Unit) := loopN (exec (E k) (at_ (bt 6 11) (body Try.f58))) (canon 0 [1, 4, 5, 6]) (K0 k a0 a1) n0 (mk 97 4 [(1, .sl true TPlace x0_0), (4, .ptr 0 0 0), (5, .ptr 2 0 0), (6, .int .i64 x0_1)] [(1, .own false TEntry x0_2), (0, .box [.ref 1, .int .i64 x0_3, .int .i64 x0_4]), (3, .own false TEntry x0_5), (2, .box [.ref 3, .int .i64 x0_6, .int .i64 x0_7])])
noncomputable def V1 (n0 n1 : Nat) (x1_0 : List (Ty.den TPlace)) (x1_1 : Int) (x1_2 : Int) (x1_3 : List (Ty.den TEntry)) (x1_4 : Int) (x1_5 : Int) (x1_6 : List (Ty.den TEntry)) (x1_7 : Int) (x1_8 : Int) (x1_9 : List (Ty.den TPlace)) : Option ((Ty.den TGroup) × Unit) := loopN (exec (E k) (at_ (bt 17 24139) (body Try.f58))) (canon 0 [1, 4, 5, 6, 8, 9]) (K1 k a0 a1 n0) n1 (mk 97 5 [(1, .sl true TPlace x1_0), (4, .ptr 0 0 0), (5, .ptr 2 0 0), (6, .int .i64 x1_1), (8, .ref 4), (9, .int .i64 x1_2)] [(1, .own false TEntry x1_3), (0, .box [.ref 1, .int .i64 x1_4, .int .i64 x1_5]), (3, .own false TEntry x1_6), (2, .box [.ref 3, .int .i64 x1_7, .int .i64 x1_8]), (4, .own false TPlace x1_9)])
theorem s0 (n0 : Nat) (x0_0 : List (Ty.den TPlace)) (x0_1 : Int) (x0_2 : List (Ty.den TEntry)) (x0_3 : Int) (x0_4 : Int) (x0_5 : List (Ty.den TEntry)) (x0_6 : Int) (x0_7 : Int) : V0 k a0 a1 (n0 + 1) x0_0 x0_1 x0_2 x0_3 x0_4 x0_5 x0_6 x0_7 = b0 k (V1 k a0 a1 n0 k) (V0 k a0 a1 n0) x0_0 x0_1 x0_2 x0_3 x0_4 x0_5 x0_6 x0_7 := by kernel_rfl
theorem s1 (n0 n1 : Nat) (x1_0 : List (Ty.den TPlace)) (x1_1 : Int) (x1_2 : Int) (x1_3 : List (Ty.den TEntry)) (x1_4 : Int) (x1_5 : Int) (x1_6 : List (Ty.den TEntry)) (x1_7 : Int) (x1_8 : Int) (x1_9 : List (Ty.den TPlace)) : V1 k a0 a1 n0 (n1 + 1) x1_0 x1_1 x1_2 x1_3 x1_4 x1_5 x1_6 x1_7 x1_8 x1_9 = b1 k (V0 k a0 a1 n0) (V1 k a0 a1 n0 n1) x1_0 x1_1 x1_2 x1_3 x1_4 x1_5 x1_6 x1_7 x1_8 x1_9 := by kernel_rfl
theorem e1 (n0 n1 : Nat) : V1 k a0 a1 n0 n1 = l1 k (V0 k a0 a1 n0) n1 := loop_eq (V := V1 k a0 a1 n0) (l := l1 k (V0 k a0 a1 n0)) rfl (fun n1 => funext fun x1_0 => funext fun x1_1 => funext fun x1_2 => funext fun x1_3 => funext fun x1_4 => funext fun x1_5 => funext fun x1_6 => funext fun x1_7 => funext fun x1_8 => funext fun x1_9 => s1 k a0 a1 n0 n1 x1_0 x1_1 x1_2 x1_3 x1_4 x1_5 x1_6 x1_7 x1_8 x1_9) (fun _ => rfl) n1
theorem e0 (n0 : Nat) : V0 k a0 a1 n0 = l0 k n0 := by
  induction n0 with
  | zero => rfl
  | succ n0 ih =>
    have h : V0 k a0 a1 (n0 + 1) = b0 k (V1 k a0 a1 n0 k) (V0 k a0 a1 n0) := funext fun x0_0 => funext fun x0_1 => funext fun x0_2 => funext fun x0_3 => funext fun x0_4 => funext fun x0_5 => funext fun x0_6 => funext fun x0_7 => s0 k a0 a1 n0 x0_0 x0_1 x0_2 x0_3 x0_4 x0_5 x0_6 x0_7
    rw [h, e1, ih]
    rfl
end
theorem eq (k : Nat) (a0 : Ty.den TGroup) (a1 : List (Ty.den TPlace)) : run (E k) Try.f58 [.val TGroup, .val (.slice TPlace)] [TGroup] true false (a0, a1, ()) = f k a0 a1 := (show _ = t k (V0 k a0 a1 k) a0 a1 by kernel_rfl).trans (by rw [e0]; rfl)
theorem ctr (k : Nat) : Ctr J Try.prog 58 (C k) :=
  run_ctr (E := E k) rfl mixed tb_ok (eqOk_of tb_eqs) (Cts.cons (spec_l9Of.ctr k) (Cts.cons (spec_l9Fits.ctr k) (Cts.cons (spec_l9Put.ctr k) (Cts.cons (spec_l9Kept.ctr k) Cts.nil)))) (by kernel_rfl) Try.func58 (by kernel_rfl) rfl (fun ⟨a0, a1, _⟩ r h => (eq k a0 a1).trans h)
end spec_Regroup
namespace spec_l9Group
def C (k : Nat) : Cn := ⟨[.io false Tl1Cur], [TGroup], true, true, fun x => f k x.1⟩
def E (k : Nat) : Env := ⟨tb, [(130, spec_l9Places.C k), (58, spec_Regroup.C k), (128, spec_l1Once.C k), (184, spec_l1Below.C k)], [], k, 1, []⟩
theorem eq (k : Nat) (a0 : Ty.den Tl1Cur) : run (E k) Try.f129 [.io false Tl1Cur] [TGroup] true true (a0, ()) = f k a0 := by kernel_rfl
theorem ctr (k : Nat) : Ctr J Try.prog 129 (C k) :=
  run_ctr (E := E k) rfl mixed tb_ok (eqOk_of tb_eqs) (Cts.cons (spec_l9Places.ctr k) (Cts.cons (spec_Regroup.ctr k) (Cts.cons (spec_l1Once.ctr k) (Cts.cons (spec_l1Below.ctr k) Cts.nil)))) (by kernel_rfl) Try.func129 (by kernel_rfl) rfl (fun ⟨a0, _⟩ r h => (eq k a0).trans h)
end spec_l9Group
namespace spec_DrawRegroup
def C (k : Nat) : Cn := ⟨[.val (.slice (.int .u8))], [TGroup, (.slice TPlace)], true, false, fun x => f k x.1⟩
def E (k : Nat) : Env := ⟨tb, [(127, spec_l1New.C k), (128, spec_l1Once.C k), (129, spec_l9Group.C k), (130, spec_l9Places.C k)], [], k, 0, []⟩
theorem eq (k : Nat) (a0 : List Int) : run (E k) Try.f56 [.val (.slice (.int .u8))] [TGroup, (.slice TPlace)] true false (a0, ()) = f k a0 := by kernel_rfl
theorem ctr (k : Nat) : Ctr J Try.prog 56 (C k) :=
  run_ctr (E := E k) rfl mixed tb_ok (eqOk_of tb_eqs) (Cts.cons (spec_l1New.ctr k) (Cts.cons (spec_l1Once.ctr k) (Cts.cons (spec_l9Group.ctr k) (Cts.cons (spec_l9Places.ctr k) Cts.nil)))) (by kernel_rfl) Try.func56 (by kernel_rfl) rfl (fun ⟨a0, _⟩ r h => (eq k a0).trans h)
end spec_DrawRegroup
namespace impl_copyDir
def C (k : Nat) : Cn := ⟨[.val (.slice TEntry)], [(.slice TEntry)], true, false, fun x => f k x.1⟩
def E (k : Nat) : Env := ⟨tb, [], [], k, 0, []⟩
theorem eq (k : Nat) (a0 : List (Ty.den TEntry)) : run (E k) Try.f131 [.val (.slice TEntry)] [(.slice TEntry)] true false (a0, ()) = f k a0 := by kernel_rfl
theorem ctr (k : Nat) : Ctr J Try.prog 131 (C k) :=
  run_ctr (E := E k) rfl mixed tb_ok (eqOk_of tb_eqs) Cts.nil (by kernel_rfl) Try.func131 (by kernel_rfl) rfl (fun ⟨a0, _⟩ r h => (eq k a0).trans h)
end impl_copyDir
namespace impl_ownOf
def C (k : Nat) : Cn := ⟨[.val (.slice TPlace), .val TRec], [(.slice TPlace)], true, false, fun x => f k x.1 x.2.1⟩
def E (k : Nat) : Env := ⟨tb, [], [(3, [3, 5, 9, 10, 11])], k, 0, []⟩
section
variable (k : Nat) (a0 : List (Ty.den TPlace)) (a1 : Ty.den TRec)
noncomputable def K0 : Ex → St → Option ((List (Ty.den TPlace)) × Unit) := runK (E k) (endK (E k) Try.f132.results.toList [.val (.slice TPlace), .val TRec] (a0, a1, ()) [(.slice TPlace)] true false) [.blk 0, .code (at_ (bt 3 7) (body Try.f132))]
noncomputable def V0 (n0 : Nat) (x0_0 : List (Ty.den TPlace)) (x0_1 : Int) (x0_2 : Int) (x0_3 : Int) (x0_4 : Int) (x0_5 : ByteArray) (x0_6 : ByteArray) (x0_7 : Int) (x0_8 : Int) (x0_9 : List (Ty.den TPlace)) : Option ((List (Ty.den TPlace)) × Unit) := loopN (exec (E k) (at_ (bt 6 11) (body Try.f132))) (canon 0 [3, 5, 9, 10, 11]) (K0 k a0 a1) n0 (mk 62 2 [(3, .ptr 0 0 0), (5, .ref 1), (9, .sl true TPlace x0_0), (10, .int .i64 x0_1), (11, .int .i64 x0_2)] [(0, .box [.int .i64 x0_3, .int .i64 x0_4, .str x0_5, .str x0_6, .int .i64 x0_7, .int .i64 x0_8]), (1, .own false TPlace x0_9)])
theorem s0 (n0 : Nat) (x0_0 : List (Ty.den TPlace)) (x0_1 : Int) (x0_2 : Int) (x0_3 : Int) (x0_4 : Int) (x0_5 : ByteArray) (x0_6 : ByteArray) (x0_7 : Int) (x0_8 : Int) (x0_9 : List (Ty.den TPlace)) : V0 k a0 a1 (n0 + 1) x0_0 x0_1 x0_2 x0_3 x0_4 x0_5 x0_6 x0_7 x0_8 x0_9 = b0 k (V0 k a0 a1 n0) x0_0 x0_1 x0_2 x0_3 x0_4 x0_5 x0_6 x0_7 x0_8 x0_9 := by kernel_rfl
theorem e0 (n0 : Nat) : V0 k a0 a1 n0 = l0 k n0 := loop_eq (V := V0 k a0 a1) (l := l0 k) rfl (fun n0 => funext fun x0_0 => funext fun x0_1 => funext fun x0_2 => funext fun x0_3 => funext fun x0_4 => funext fun x0_5 => funext fun x0_6 => funext fun x0_7 => funext fun x0_8 => funext fun x0_9 => s0 k a0 a1 n0 x0_0 x0_1 x0_2 x0_3 x0_4 x0_5 x0_6 x0_7 x0_8 x0_9) (fun _ => rfl) n0
end
theorem eq (k : Nat) (a0 : List (Ty.den TPlace)) (a1 : Ty.den TRec) : run (E k) Try.f132 [.val (.slice TPlace), .val TRec] [(.slice TPlace)] true false (a0, a1, ()) = f k a0 a1 := (show _ = t k (V0 k a0 a1 k) a0 a1 by kernel_rfl).trans (by rw [e0]; rfl)
theorem ctr (k : Nat) : Ctr J Try.prog 132 (C k) :=
  run_ctr (E := E k) rfl mixed tb_ok (eqOk_of tb_eqs) Cts.nil (by kernel_rfl) Try.func132 (by kernel_rfl) rfl (fun ⟨a0, a1, _⟩ r h => (eq k a0 a1).trans h)
end impl_ownOf
namespace impl_in
def C (k : Nat) : Cn := ⟨[.val (.int .i64), .val (.int .i64), .val (.int .i64)], [.bool], true, false, fun x => f k x.1 x.2.1 x.2.2.1⟩
def E (k : Nat) : Env := ⟨tb, [], [], k, 0, []⟩
theorem eq (k : Nat) (a0 : Int) (a1 : Int) (a2 : Int) : run (E k) Try.f94 [.val (.int .i64), .val (.int .i64), .val (.int .i64)] [.bool] true false (a0, a1, a2, ()) = f k a0 a1 a2 := by kernel_rfl
theorem ctr (k : Nat) : Ctr J Try.prog 94 (C k) :=
  run_ctr (E := E k) rfl mixed tb_ok (eqOk_of tb_eqs) Cts.nil (by kernel_rfl) Try.func94 (by kernel_rfl) rfl (fun ⟨a0, a1, a2, _⟩ r h => (eq k a0 a1 a2).trans h)
end impl_in
namespace impl_KeyOk
def C (k : Nat) : Cn := ⟨[.val .str], [.bool], true, false, fun x => f k x.1⟩
def E (k : Nat) : Env := ⟨tb, [(94, impl_in.C k)], [], k, 0, []⟩
theorem eq (k : Nat) (a0 : ByteArray) : run (E k) Try.f192 [.val .str] [.bool] true false (a0, ()) = f k a0 := by kernel_rfl
theorem ctr (k : Nat) : Ctr J Try.prog 192 (C k) :=
  run_ctr (E := E k) rfl mixed tb_ok (eqOk_of tb_eqs) (Cts.cons (impl_in.ctr k) Cts.nil) (by kernel_rfl) Try.func192 (by kernel_rfl) rfl (fun ⟨a0, _⟩ r h => (eq k a0).trans h)
end impl_KeyOk
namespace impl_RecOk
def C (k : Nat) : Cn := ⟨[.val TRec], [.bool], true, false, fun x => f k x.1⟩
def E (k : Nat) : Env := ⟨tb, [(192, impl_KeyOk.C k), (94, impl_in.C k)], [], k, 0, []⟩
theorem eq (k : Nat) (a0 : Ty.den TRec) : run (E k) Try.f166 [.val TRec] [.bool] true false (a0, ()) = f k a0 := by kernel_rfl
theorem ctr (k : Nat) : Ctr J Try.prog 166 (C k) :=
  run_ctr (E := E k) rfl mixed tb_ok (eqOk_of tb_eqs) (Cts.cons (impl_KeyOk.ctr k) (Cts.cons (impl_in.ctr k) Cts.nil)) (by kernel_rfl) Try.func166 (by kernel_rfl) rfl (fun ⟨a0, _⟩ r h => (eq k a0).trans h)
end impl_RecOk
namespace impl_Var
def C (k : Nat) : Cn := ⟨[.val (.int .i64)], [.str], true, false, fun x => f k x.1⟩
def E (k : Nat) : Env := ⟨tb, [(94, impl_in.C k)], [(4, [0, 3])], k, 0, []⟩
section
variable (k : Nat) (a0 : Int)
noncomputable def K0 : Ex → St → Option (ByteArray × Unit) := runK (E k) (endK (E k) Try.f168.results.toList [.val (.int .i64)] (a0, ()) [.str] true false) [.blk 0, .code (at_ (bt 4 15) (body Try.f168))]
noncomputable def V0 (n0 : Nat) (x0_0 : Int) (x0_1 : List Int) : Option (ByteArray × Unit) := loopN (exec (E k) (at_ (bt 6 7) (body Try.f168))) (canon 0 [0, 3]) (K0 k a0) n0 (mk 24 1 [(0, .int .i64 x0_0), (3, .ref 0)] [(0, .own false (.int .u8) x0_1)])
theorem s0 (n0 : Nat) (x0_0 : Int) (x0_1 : List Int) : V0 k a0 (n0 + 1) x0_0 x0_1 = b0 k (V0 k a0 n0) x0_0 x0_1 := by kernel_rfl
theorem e0 (n0 : Nat) : V0 k a0 n0 = l0 k n0 := loop_eq (V := V0 k a0) (l := l0 k) rfl (fun n0 => funext fun x0_0 => funext fun x0_1 => s0 k a0 n0 x0_0 x0_1) (fun _ => rfl) n0
end
theorem eq (k : Nat) (a0 : Int) : run (E k) Try.f168 [.val (.int .i64)] [.str] true false (a0, ()) = f k a0 := (show _ = t k (V0 k a0 k) a0 by kernel_rfl).trans (by rw [e0]; rfl)
theorem ctr (k : Nat) : Ctr J Try.prog 168 (C k) :=
  run_ctr (E := E k) rfl mixed tb_ok (eqOk_of tb_eqs) (Cts.cons (impl_in.ctr k) Cts.nil) (by kernel_rfl) Try.func168 (by kernel_rfl) rfl (fun ⟨a0, _⟩ r h => (eq k a0).trans h)
end impl_Var
namespace impl_vars
def C (k : Nat) : Cn := ⟨[.val (.slice (.int .i64))], [.str], true, false, fun x => f k x.1⟩
def E (k : Nat) : Env := ⟨tb, [(168, impl_Var.C k)], [(3, [3, 6, 7, 8])], k, 0, []⟩
section
variable (k : Nat) (a0 : List Int)
noncomputable def K0 : Ex → St → Option (ByteArray × Unit) := runK (E k) (endK (E k) Try.f167.results.toList [.val (.slice (.int .i64))] (a0, ()) [.str] true false) [.blk 0, .code (at_ (bt 3 7) (body Try.f167))]
noncomputable def V0 (n0 : Nat) (x0_0 : ByteArray) (x0_1 : List Int) (x0_2 : Int) (x0_3 : Int) : Option (ByteArray × Unit) := loopN (exec (E k) (at_ (bt 6 11) (body Try.f167))) (canon 0 [3, 6, 7, 8]) (K0 k a0) n0 (mk 18 0 [(3, .str x0_0), (6, .sl true (.int .i64) x0_1), (7, .int .i64 x0_2), (8, .int .i64 x0_3)] [])
theorem s0 (n0 : Nat) (x0_0 : ByteArray) (x0_1 : List Int) (x0_2 : Int) (x0_3 : Int) : V0 k a0 (n0 + 1) x0_0 x0_1 x0_2 x0_3 = b0 k (V0 k a0 n0) x0_0 x0_1 x0_2 x0_3 := by kernel_rfl
theorem e0 (n0 : Nat) : V0 k a0 n0 = l0 k n0 := loop_eq (V := V0 k a0) (l := l0 k) rfl (fun n0 => funext fun x0_0 => funext fun x0_1 => funext fun x0_2 => funext fun x0_3 => s0 k a0 n0 x0_0 x0_1 x0_2 x0_3) (fun _ => rfl) n0
end
theorem eq (k : Nat) (a0 : List Int) : run (E k) Try.f167 [.val (.slice (.int .i64))] [.str] true false (a0, ()) = f k a0 := (show _ = t k (V0 k a0 k) a0 by kernel_rfl).trans (by rw [e0]; rfl)
theorem ctr (k : Nat) : Ctr J Try.prog 167 (C k) :=
  run_ctr (E := E k) rfl mixed tb_ok (eqOk_of tb_eqs) (Cts.cons (impl_Var.ctr k) Cts.nil) (by kernel_rfl) Try.func167 (by kernel_rfl) rfl (fun ⟨a0, _⟩ r h => (eq k a0).trans h)
end impl_vars
namespace impl_textOf
def C (k : Nat) : Cn := ⟨[.val .str], [.str], true, false, fun x => f k x.1⟩
def E (k : Nat) : Env := ⟨tb, [(168, impl_Var.C k)], [], k, 0, []⟩
theorem eq (k : Nat) (a0 : ByteArray) : run (E k) Try.f163 [.val .str] [.str] true false (a0, ()) = f k a0 := by kernel_rfl
theorem ctr (k : Nat) : Ctr J Try.prog 163 (C k) :=
  run_ctr (E := E k) rfl mixed tb_ok (eqOk_of tb_eqs) (Cts.cons (impl_Var.ctr k) Cts.nil) (by kernel_rfl) Try.func163 (by kernel_rfl) rfl (fun ⟨a0, _⟩ r h => (eq k a0).trans h)
end impl_textOf
namespace impl_Fixed
def C (k : Nat) : Cn := ⟨[.val (.int .i64), .val (.int .i64)], [.str], true, false, fun x => f k x.1 x.2.1⟩
def E (k : Nat) : Env := ⟨tb, [(94, impl_in.C k)], [(5, [0, 5, 6])], k, 0, []⟩
section
variable (k : Nat) (a0 : Int) (a1 : Int)
noncomputable def K0 : Ex → St → Option (ByteArray × Unit) := runK (E k) (endK (E k) Try.f164.results.toList [.val (.int .i64), .val (.int .i64)] (a0, a1, ()) [.str] true false) [.blk 0, .code (at_ (bt 4 15) (body Try.f164))]
noncomputable def V0 (n0 : Nat) (x0_0 : Int) (x0_1 : Int) (x0_2 : List Int) : Option (ByteArray × Unit) := loopN (exec (E k) (at_ (bt 7 23) (body Try.f164))) (canon 0 [0, 5, 6]) (K0 k a0 a1) n0 (mk 35 1 [(0, .int .i64 x0_0), (5, .ref 0), (6, .int .i64 x0_1)] [(0, .own false (.int .u8) x0_2)])
theorem s0 (n0 : Nat) (x0_0 : Int) (x0_1 : Int) (x0_2 : List Int) : V0 k a0 a1 (n0 + 1) x0_0 x0_1 x0_2 = b0 k (V0 k a0 a1 n0) x0_0 x0_1 x0_2 := by kernel_rfl
theorem e0 (n0 : Nat) : V0 k a0 a1 n0 = l0 k n0 := loop_eq (V := V0 k a0 a1) (l := l0 k) rfl (fun n0 => funext fun x0_0 => funext fun x0_1 => funext fun x0_2 => s0 k a0 a1 n0 x0_0 x0_1 x0_2) (fun _ => rfl) n0
end
theorem eq (k : Nat) (a0 : Int) (a1 : Int) : run (E k) Try.f164 [.val (.int .i64), .val (.int .i64)] [.str] true false (a0, a1, ()) = f k a0 a1 := (show _ = t k (V0 k a0 a1 k) a0 a1 by kernel_rfl).trans (by rw [e0]; rfl)
theorem ctr (k : Nat) : Ctr J Try.prog 164 (C k) :=
  run_ctr (E := E k) rfl mixed tb_ok (eqOk_of tb_eqs) (Cts.cons (impl_in.ctr k) Cts.nil) (by kernel_rfl) Try.func164 (by kernel_rfl) rfl (fun ⟨a0, a1, _⟩ r h => (eq k a0 a1).trans h)
end impl_Fixed
namespace impl_ShowRec
def C (k : Nat) : Cn := ⟨[.val TRec], [.str], true, false, fun x => f k x.1⟩
def E (k : Nat) : Env := ⟨tb, [(166, impl_RecOk.C k), (167, impl_vars.C k), (163, impl_textOf.C k), (168, impl_Var.C k), (164, impl_Fixed.C k)], [], k, 0, []⟩
theorem eq (k : Nat) (a0 : Ty.den TRec) : run (E k) Try.f97 [.val TRec] [.str] true false (a0, ()) = f k a0 := by kernel_rfl
theorem ctr (k : Nat) : Ctr J Try.prog 97 (C k) :=
  run_ctr (E := E k) rfl mixed tb_ok (eqOk_of tb_eqs) (Cts.cons (impl_RecOk.ctr k) (Cts.cons (impl_vars.ctr k) (Cts.cons (impl_textOf.ctr k) (Cts.cons (impl_Var.ctr k) (Cts.cons (impl_Fixed.ctr k) Cts.nil))))) (by kernel_rfl) Try.func97 (by kernel_rfl) rfl (fun ⟨a0, _⟩ r h => (eq k a0).trans h)
end impl_ShowRec
namespace impl_Crc
def C (k : Nat) : Cn := ⟨[.val .str], [(.int .i64)], true, false, fun x => f k x.1⟩
def E (k : Nat) : Env := ⟨tb, [], [(3, [0, 3, 4]), (7, [0, 3, 4, 18])], k, 0, []⟩
section
variable (k : Nat) (a0 : ByteArray)
noncomputable def K0 : Ex → St → Option (Int × Unit) := runK (E k) (endK (E k) Try.f165.results.toList [.val .str] (a0, ()) [(.int .i64)] true false) [.blk 0, .code (at_ (bt 3 7) (body Try.f165))]
noncomputable def B0 (n0 : Nat) : Ex → St → Option (Int × Unit) := lpK (E k) (at_ (bt 6 11) (body Try.f165)) 0 [0, 3, 4] (K0 k a0) n0
noncomputable def K1 (n0 : Nat) : Ex → St → Option (Int × Unit) := runK (E k) (B0 k a0 n0) [.blk 2, .blk 1, .code (at_ (bt 8 203) (body Try.f165))]
noncomputable def V0 (n0 : Nat) (x0_0 : ByteArray) (x0_1 : Int) (x0_2 : Int) : Option (Int × Unit) := loopN (exec (E k) (at_ (bt 6 11) (body Try.f165))) (canon 0 [0, 3, 4]) (K0 k a0) n0 (mk 32 0 [(0, .str x0_0), (3, .int .u32 x0_1), (4, .int .i64 x0_2)] [])
noncomputable def V1 (n0 n1 : Nat) (x1_0 : ByteArray) (x1_1 : Int) (x1_2 : Int) (x1_3 : Int) : Option (Int × Unit) := loopN (exec (E k) (at_ (bt 13 1611) (body Try.f165))) (canon 0 [0, 3, 4, 18]) (K1 k a0 n0) n1 (mk 32 0 [(0, .str x1_0), (3, .int .u32 x1_1), (4, .int .i64 x1_2), (18, .int .i64 x1_3)] [])
theorem s0 (n0 : Nat) (x0_0 : ByteArray) (x0_1 : Int) (x0_2 : Int) : V0 k a0 (n0 + 1) x0_0 x0_1 x0_2 = b0 k (V1 k a0 n0 k) (V0 k a0 n0) x0_0 x0_1 x0_2 := by kernel_rfl
theorem s1 (n0 n1 : Nat) (x1_0 : ByteArray) (x1_1 : Int) (x1_2 : Int) (x1_3 : Int) : V1 k a0 n0 (n1 + 1) x1_0 x1_1 x1_2 x1_3 = b1 k (V0 k a0 n0) (V1 k a0 n0 n1) x1_0 x1_1 x1_2 x1_3 := by kernel_rfl
theorem e1 (n0 n1 : Nat) : V1 k a0 n0 n1 = l1 k (V0 k a0 n0) n1 := loop_eq (V := V1 k a0 n0) (l := l1 k (V0 k a0 n0)) rfl (fun n1 => funext fun x1_0 => funext fun x1_1 => funext fun x1_2 => funext fun x1_3 => s1 k a0 n0 n1 x1_0 x1_1 x1_2 x1_3) (fun _ => rfl) n1
theorem e0 (n0 : Nat) : V0 k a0 n0 = l0 k n0 := by
  induction n0 with
  | zero => rfl
  | succ n0 ih =>
    have h : V0 k a0 (n0 + 1) = b0 k (V1 k a0 n0 k) (V0 k a0 n0) := funext fun x0_0 => funext fun x0_1 => funext fun x0_2 => s0 k a0 n0 x0_0 x0_1 x0_2
    rw [h, e1, ih]
    rfl
end
theorem eq (k : Nat) (a0 : ByteArray) : run (E k) Try.f165 [.val .str] [(.int .i64)] true false (a0, ()) = f k a0 := (show _ = t k (V0 k a0 k) a0 by kernel_rfl).trans (by rw [e0]; rfl)
theorem ctr (k : Nat) : Ctr J Try.prog 165 (C k) :=
  run_ctr (E := E k) rfl mixed tb_ok (eqOk_of tb_eqs) Cts.nil (by kernel_rfl) Try.func165 (by kernel_rfl) rfl (fun ⟨a0, _⟩ r h => (eq k a0).trans h)
end impl_Crc
namespace impl_SumOf
def C (k : Nat) : Cn := ⟨[.val (.slice TRec)], [(.int .i64)], true, false, fun x => f k x.1⟩
def E (k : Nat) : Env := ⟨tb, [(97, impl_ShowRec.C k), (165, impl_Crc.C k)], [(3, [3, 6, 7, 8])], k, 0, []⟩
section
variable (k : Nat) (a0 : List (Ty.den TRec))
noncomputable def K0 : Ex → St → Option (Int × Unit) := runK (E k) (endK (E k) Try.f162.results.toList [.val (.slice TRec)] (a0, ()) [(.int .i64)] true false) [.blk 0, .code (at_ (bt 3 7) (body Try.f162))]
noncomputable def V0 (n0 : Nat) (x0_0 : ByteArray) (x0_1 : List (Ty.den TRec)) (x0_2 : Int) (x0_3 : Int) : Option (Int × Unit) := loopN (exec (E k) (at_ (bt 6 11) (body Try.f162))) (canon 0 [3, 6, 7, 8]) (K0 k a0) n0 (mk 19 0 [(3, .str x0_0), (6, .sl true TRec x0_1), (7, .int .i64 x0_2), (8, .int .i64 x0_3)] [])
theorem s0 (n0 : Nat) (x0_0 : ByteArray) (x0_1 : List (Ty.den TRec)) (x0_2 : Int) (x0_3 : Int) : V0 k a0 (n0 + 1) x0_0 x0_1 x0_2 x0_3 = b0 k (V0 k a0 n0) x0_0 x0_1 x0_2 x0_3 := by kernel_rfl
theorem e0 (n0 : Nat) : V0 k a0 n0 = l0 k n0 := loop_eq (V := V0 k a0) (l := l0 k) rfl (fun n0 => funext fun x0_0 => funext fun x0_1 => funext fun x0_2 => funext fun x0_3 => s0 k a0 n0 x0_0 x0_1 x0_2 x0_3) (fun _ => rfl) n0
end
theorem eq (k : Nat) (a0 : List (Ty.den TRec)) : run (E k) Try.f162 [.val (.slice TRec)] [(.int .i64)] true false (a0, ()) = f k a0 := (show _ = t k (V0 k a0 k) a0 by kernel_rfl).trans (by rw [e0]; rfl)
theorem ctr (k : Nat) : Ctr J Try.prog 162 (C k) :=
  run_ctr (E := E k) rfl mixed tb_ok (eqOk_of tb_eqs) (Cts.cons (impl_ShowRec.ctr k) (Cts.cons (impl_Crc.ctr k) Cts.nil)) (by kernel_rfl) Try.func162 (by kernel_rfl) rfl (fun ⟨a0, _⟩ r h => (eq k a0).trans h)
end impl_SumOf
namespace impl_fits
def C (k : Nat) : Cn := ⟨[.val TRec, .val (.slice TPlace)], [.bool], true, false, fun x => f k x.1 x.2.1⟩
def E (k : Nat) : Env := ⟨tb, [(162, impl_SumOf.C k)], [(3, [2, 5, 8, 9, 10])], k, 0, []⟩
section
variable (k : Nat) (a0 : Ty.den TRec) (a1 : List (Ty.den TPlace))
noncomputable def K0 : Ex → St → Option (Bool × Unit) := runK (E k) (endK (E k) Try.f133.results.toList [.val TRec, .val (.slice TPlace)] (a0, a1, ()) [.bool] true false) [.blk 0, .code (at_ (bt 3 7) (body Try.f133))]
noncomputable def V0 (n0 : Nat) (x0_0 : List (Ty.den TPlace)) (x0_1 : Int) (x0_2 : Int) (x0_3 : Int) (x0_4 : Int) (x0_5 : ByteArray) (x0_6 : ByteArray) (x0_7 : Int) (x0_8 : Int) (x0_9 : List (Ty.den TRec)) : Option (Bool × Unit) := loopN (exec (E k) (at_ (bt 6 11) (body Try.f133))) (canon 0 [2, 5, 8, 9, 10]) (K0 k a0 a1) n0 (mk 32 2 [(2, .ptr 0 0 0), (5, .ref 1), (8, .sl true TPlace x0_0), (9, .int .i64 x0_1), (10, .int .i64 x0_2)] [(0, .box [.int .i64 x0_3, .int .i64 x0_4, .str x0_5, .str x0_6, .int .i64 x0_7, .int .i64 x0_8]), (1, .own false TRec x0_9)])
theorem s0 (n0 : Nat) (x0_0 : List (Ty.den TPlace)) (x0_1 : Int) (x0_2 : Int) (x0_3 : Int) (x0_4 : Int) (x0_5 : ByteArray) (x0_6 : ByteArray) (x0_7 : Int) (x0_8 : Int) (x0_9 : List (Ty.den TRec)) : V0 k a0 a1 (n0 + 1) x0_0 x0_1 x0_2 x0_3 x0_4 x0_5 x0_6 x0_7 x0_8 x0_9 = b0 k (V0 k a0 a1 n0) x0_0 x0_1 x0_2 x0_3 x0_4 x0_5 x0_6 x0_7 x0_8 x0_9 := by kernel_rfl
theorem e0 (n0 : Nat) : V0 k a0 a1 n0 = l0 k n0 := loop_eq (V := V0 k a0 a1) (l := l0 k) rfl (fun n0 => funext fun x0_0 => funext fun x0_1 => funext fun x0_2 => funext fun x0_3 => funext fun x0_4 => funext fun x0_5 => funext fun x0_6 => funext fun x0_7 => funext fun x0_8 => funext fun x0_9 => s0 k a0 a1 n0 x0_0 x0_1 x0_2 x0_3 x0_4 x0_5 x0_6 x0_7 x0_8 x0_9) (fun _ => rfl) n0
end
theorem eq (k : Nat) (a0 : Ty.den TRec) (a1 : List (Ty.den TPlace)) : run (E k) Try.f133 [.val TRec, .val (.slice TPlace)] [.bool] true false (a0, a1, ()) = f k a0 a1 := (show _ = t k (V0 k a0 a1 k) a0 a1 by kernel_rfl).trans (by rw [e0]; rfl)
theorem ctr (k : Nat) : Ctr J Try.prog 133 (C k) :=
  run_ctr (E := E k) rfl mixed tb_ok (eqOk_of tb_eqs) (Cts.cons (impl_SumOf.ctr k) Cts.nil) (by kernel_rfl) Try.func133 (by kernel_rfl) rfl (fun ⟨a0, a1, _⟩ r h => (eq k a0 a1).trans h)
end impl_fits
namespace impl_DirDrop
def C (k : Nat) : Cn := ⟨[.val (.slice TEntry), .val .str], [(.slice TEntry)], true, false, fun x => f k x.1 x.2.1⟩
def E (k : Nat) : Env := ⟨tb, [], [(3, [1, 5, 8, 9, 10])], k, 0, []⟩
section
variable (k : Nat) (a0 : List (Ty.den TEntry)) (a1 : ByteArray)
noncomputable def K0 : Ex → St → Option ((List (Ty.den TEntry)) × Unit) := runK (E k) (endK (E k) Try.f187.results.toList [.val (.slice TEntry), .val .str] (a0, a1, ()) [(.slice TEntry)] true false) [.blk 0, .code (at_ (bt 3 7) (body Try.f187))]
noncomputable def V0 (n0 : Nat) (x0_0 : ByteArray) (x0_1 : List (Ty.den TEntry)) (x0_2 : Int) (x0_3 : Int) (x0_4 : List (Ty.den TEntry)) : Option ((List (Ty.den TEntry)) × Unit) := loopN (exec (E k) (at_ (bt 6 11) (body Try.f187))) (canon 0 [1, 5, 8, 9, 10]) (K0 k a0 a1) n0 (mk 24 1 [(1, .str x0_0), (5, .ref 0), (8, .sl true TEntry x0_1), (9, .int .i64 x0_2), (10, .int .i64 x0_3)] [(0, .own false TEntry x0_4)])
theorem s0 (n0 : Nat) (x0_0 : ByteArray) (x0_1 : List (Ty.den TEntry)) (x0_2 : Int) (x0_3 : Int) (x0_4 : List (Ty.den TEntry)) : V0 k a0 a1 (n0 + 1) x0_0 x0_1 x0_2 x0_3 x0_4 = b0 k (V0 k a0 a1 n0) x0_0 x0_1 x0_2 x0_3 x0_4 := by kernel_rfl
theorem e0 (n0 : Nat) : V0 k a0 a1 n0 = l0 k n0 := loop_eq (V := V0 k a0 a1) (l := l0 k) rfl (fun n0 => funext fun x0_0 => funext fun x0_1 => funext fun x0_2 => funext fun x0_3 => funext fun x0_4 => s0 k a0 a1 n0 x0_0 x0_1 x0_2 x0_3 x0_4) (fun _ => rfl) n0
end
theorem eq (k : Nat) (a0 : List (Ty.den TEntry)) (a1 : ByteArray) : run (E k) Try.f187 [.val (.slice TEntry), .val .str] [(.slice TEntry)] true false (a0, a1, ()) = f k a0 a1 := (show _ = t k (V0 k a0 a1 k) a0 a1 by kernel_rfl).trans (by rw [e0]; rfl)
theorem ctr (k : Nat) : Ctr J Try.prog 187 (C k) :=
  run_ctr (E := E k) rfl mixed tb_ok (eqOk_of tb_eqs) Cts.nil (by kernel_rfl) Try.func187 (by kernel_rfl) rfl (fun ⟨a0, a1, _⟩ r h => (eq k a0 a1).trans h)
end impl_DirDrop
namespace impl_DirPut
def C (k : Nat) : Cn := ⟨[.val (.slice TEntry), .val TEntry], [(.slice TEntry)], true, false, fun x => f k x.1 x.2.1⟩
def E (k : Nat) : Env := ⟨tb, [(187, impl_DirDrop.C k), (131, impl_copyDir.C k)], [(3, [3, 5, 6])], k, 0, []⟩
section
variable (k : Nat) (a0 : List (Ty.den TEntry)) (a1 : Ty.den TEntry)
noncomputable def K0 : Ex → St → Option ((List (Ty.den TEntry)) × Unit) := runK (E k) (endK (E k) Try.f188.results.toList [.val (.slice TEntry), .val TEntry] (a0, a1, ()) [(.slice TEntry)] true false) [.blk 0, .code (at_ (bt 4 15) (body Try.f188))]
noncomputable def V0 (n0 : Nat) (x0_0 : Int) (x0_1 : ByteArray) (x0_2 : Int) (x0_3 : Int) (x0_4 : Int) (x0_5 : Int) (x0_6 : List (Ty.den TEntry)) : Option ((List (Ty.den TEntry)) × Unit) := loopN (exec (E k) (at_ (bt 6 7) (body Try.f188))) (canon 0 [3, 5, 6]) (K0 k a0 a1) n0 (mk 38 2 [(3, .ptr 0 0 0), (5, .ref 1), (6, .int .i64 x0_0)] [(0, .box [.str x0_1, .int .i64 x0_2, .int .i64 x0_3, .int .i64 x0_4, .int .i64 x0_5]), (1, .own false TEntry x0_6)])
theorem s0 (n0 : Nat) (x0_0 : Int) (x0_1 : ByteArray) (x0_2 : Int) (x0_3 : Int) (x0_4 : Int) (x0_5 : Int) (x0_6 : List (Ty.den TEntry)) : V0 k a0 a1 (n0 + 1) x0_0 x0_1 x0_2 x0_3 x0_4 x0_5 x0_6 = b0 k (V0 k a0 a1 n0) x0_0 x0_1 x0_2 x0_3 x0_4 x0_5 x0_6 := by kernel_rfl
theorem e0 (n0 : Nat) : V0 k a0 a1 n0 = l0 k n0 := loop_eq (V := V0 k a0 a1) (l := l0 k) rfl (fun n0 => funext fun x0_0 => funext fun x0_1 => funext fun x0_2 => funext fun x0_3 => funext fun x0_4 => funext fun x0_5 => funext fun x0_6 => s0 k a0 a1 n0 x0_0 x0_1 x0_2 x0_3 x0_4 x0_5 x0_6) (fun _ => rfl) n0
end
theorem eq (k : Nat) (a0 : List (Ty.den TEntry)) (a1 : Ty.den TEntry) : run (E k) Try.f188 [.val (.slice TEntry), .val TEntry] [(.slice TEntry)] true false (a0, a1, ()) = f k a0 a1 := (show _ = t k (V0 k a0 a1 k) a0 a1 by kernel_rfl).trans (by rw [e0]; rfl)
theorem ctr (k : Nat) : Ctr J Try.prog 188 (C k) :=
  run_ctr (E := E k) rfl mixed tb_ok (eqOk_of tb_eqs) (Cts.cons (impl_DirDrop.ctr k) (Cts.cons (impl_copyDir.ctr k) Cts.nil)) (by kernel_rfl) Try.func188 (by kernel_rfl) rfl (fun ⟨a0, a1, _⟩ r h => (eq k a0 a1).trans h)
end impl_DirPut
namespace impl_Group__apply
def C (k : Nat) : Cn := ⟨[.io true TGroup, .val (.slice TPlace)], [], true, false, fun x => f k x.1 x.2.1⟩
def E (k : Nat) : Env := ⟨tb, [(187, impl_DirDrop.C k), (188, impl_DirPut.C k)], [(1, [0, 6, 7, 8])], k, 1, []⟩
section
variable (k : Nat) (a0 : Ty.den TGroup) (a1 : List (Ty.den TPlace))
noncomputable def K0 : Ex → St → Option ((Ty.den TGroup) × Unit) := runK (E k) (endK (E k) Try.f134.results.toList [.io true TGroup, .val (.slice TPlace)] (a0, a1, ()) [] true false) [.blk 0, .code (at_ (bt 1 1) (body Try.f134))]
noncomputable def V0 (n0 : Nat) (x0_0 : List (Ty.den TPlace)) (x0_1 : Int) (x0_2 : Int) (x0_3 : List (Ty.den TEntry)) (x0_4 : Int) (x0_5 : Int) : Option ((Ty.den TGroup) × Unit) := loopN (exec (E k) (at_ (bt 4 2) (body Try.f134))) (canon 1 [0, 6, 7, 8]) (K0 k a0 a1) n0 (mk 58 2 [(0, .ptr 0 0 0), (6, .sl true TPlace x0_0), (7, .int .i64 x0_1), (8, .int .i64 x0_2)] [(1, .own false TEntry x0_3), (0, .box [.ref 1, .int .i64 x0_4, .int .i64 x0_5])])
theorem s0 (n0 : Nat) (x0_0 : List (Ty.den TPlace)) (x0_1 : Int) (x0_2 : Int) (x0_3 : List (Ty.den TEntry)) (x0_4 : Int) (x0_5 : Int) : V0 k a0 a1 (n0 + 1) x0_0 x0_1 x0_2 x0_3 x0_4 x0_5 = b0 k (V0 k a0 a1 n0) x0_0 x0_1 x0_2 x0_3 x0_4 x0_5 := by kernel_rfl
theorem e0 (n0 : Nat) : V0 k a0 a1 n0 = l0 k n0 := loop_eq (V := V0 k a0 a1) (l := l0 k) rfl (fun n0 => funext fun x0_0 => funext fun x0_1 => funext fun x0_2 => funext fun x0_3 => funext fun x0_4 => funext fun x0_5 => s0 k a0 a1 n0 x0_0 x0_1 x0_2 x0_3 x0_4 x0_5) (fun _ => rfl) n0
end
theorem eq (k : Nat) (a0 : Ty.den TGroup) (a1 : List (Ty.den TPlace)) : run (E k) Try.f134 [.io true TGroup, .val (.slice TPlace)] [] true false (a0, a1, ()) = f k a0 a1 := (show _ = t k (V0 k a0 a1 k) a0 a1 by kernel_rfl).trans (by rw [e0]; rfl)
theorem ctr (k : Nat) : Ctr J Try.prog 134 (C k) :=
  run_ctr (E := E k) rfl mixed tb_ok (eqOk_of tb_eqs) (Cts.cons (impl_DirDrop.ctr k) (Cts.cons (impl_DirPut.ctr k) Cts.nil)) (by kernel_rfl) Try.func134 (by kernel_rfl) rfl (fun ⟨a0, a1, _⟩ r h => (eq k a0 a1).trans h)
end impl_Group__apply
namespace impl_Regroup
def C (k : Nat) : Cn := ⟨[.val TGroup, .val (.slice TPlace)], [TGroup], true, false, fun x => f k x.1 x.2.1⟩
def E (k : Nat) : Env := ⟨tb, [(131, impl_copyDir.C k), (132, impl_ownOf.C k), (133, impl_fits.C k), (134, impl_Group__apply.C k)], [(3, [1, 4, 5, 17, 18, 19])], k, 0, []⟩
section
variable (k : Nat) (a0 : Ty.den TGroup) (a1 : List (Ty.den TPlace))
noncomputable def K0 : Ex → St → Option ((Ty.den TGroup) × Unit) := runK (E k) (endK (E k) Try.f57.results.toList [.val TGroup, .val (.slice TPlace)] (a0, a1, ()) [TGroup] true false) [.blk 0, .code (at_ (bt 3 7) (body Try.f57))]
noncomputable def V0 (n0 : Nat) (x0_0 : List (Ty.den TPlace)) (x0_1 : List (Ty.den TPlace)) (x0_2 : Int) (x0_3 : Int) (x0_4 : List (Ty.den TEntry)) (x0_5 : Int) (x0_6 : Int) (x0_7 : List (Ty.den TEntry)) (x0_8 : Int) (x0_9 : Int) : Option ((Ty.den TGroup) × Unit) := loopN (exec (E k) (at_ (bt 6 11) (body Try.f57))) (canon 0 [1, 4, 5, 17, 18, 19]) (K0 k a0 a1) n0 (mk 77 4 [(1, .sl true TPlace x0_0), (4, .ptr 0 0 0), (5, .ptr 2 0 0), (17, .sl true TPlace x0_1), (18, .int .i64 x0_2), (19, .int .i64 x0_3)] [(1, .own false TEntry x0_4), (0, .box [.ref 1, .int .i64 x0_5, .int .i64 x0_6]), (3, .own false TEntry x0_7), (2, .box [.ref 3, .int .i64 x0_8, .int .i64 x0_9])])
theorem s0 (n0 : Nat) (x0_0 : List (Ty.den TPlace)) (x0_1 : List (Ty.den TPlace)) (x0_2 : Int) (x0_3 : Int) (x0_4 : List (Ty.den TEntry)) (x0_5 : Int) (x0_6 : Int) (x0_7 : List (Ty.den TEntry)) (x0_8 : Int) (x0_9 : Int) : V0 k a0 a1 (n0 + 1) x0_0 x0_1 x0_2 x0_3 x0_4 x0_5 x0_6 x0_7 x0_8 x0_9 = b0 k (V0 k a0 a1 n0) x0_0 x0_1 x0_2 x0_3 x0_4 x0_5 x0_6 x0_7 x0_8 x0_9 := by kernel_rfl
theorem e0 (n0 : Nat) : V0 k a0 a1 n0 = l0 k n0 := loop_eq (V := V0 k a0 a1) (l := l0 k) rfl (fun n0 => funext fun x0_0 => funext fun x0_1 => funext fun x0_2 => funext fun x0_3 => funext fun x0_4 => funext fun x0_5 => funext fun x0_6 => funext fun x0_7 => funext fun x0_8 => funext fun x0_9 => s0 k a0 a1 n0 x0_0 x0_1 x0_2 x0_3 x0_4 x0_5 x0_6 x0_7 x0_8 x0_9) (fun _ => rfl) n0
end
theorem eq (k : Nat) (a0 : Ty.den TGroup) (a1 : List (Ty.den TPlace)) : run (E k) Try.f57 [.val TGroup, .val (.slice TPlace)] [TGroup] true false (a0, a1, ()) = f k a0 a1 := (show _ = t k (V0 k a0 a1 k) a0 a1 by kernel_rfl).trans (by rw [e0]; rfl)
theorem ctr (k : Nat) : Ctr J Try.prog 57 (C k) :=
  run_ctr (E := E k) rfl mixed tb_ok (eqOk_of tb_eqs) (Cts.cons (impl_copyDir.ctr k) (Cts.cons (impl_ownOf.ctr k) (Cts.cons (impl_fits.ctr k) (Cts.cons (impl_Group__apply.ctr k) Cts.nil)))) (by kernel_rfl) Try.func57 (by kernel_rfl) rfl (fun ⟨a0, a1, _⟩ r h => (eq k a0 a1).trans h)
end impl_Regroup
namespace spec_SameDir
def C (k : Nat) : Cn := ⟨[.val (.slice TEntry), .val (.slice TEntry)], [.bool], true, false, fun x => f k x.1 x.2.1⟩
def E (k : Nat) : Env := ⟨tb, [], [(4, [0, 1, 5])], k, 0, []⟩
section
variable (k : Nat) (a0 : List (Ty.den TEntry)) (a1 : List (Ty.den TEntry))
noncomputable def K0 : Ex → St → Option (Bool × Unit) := runK (E k) (endK (E k) Try.f59.results.toList [.val (.slice TEntry), .val (.slice TEntry)] (a0, a1, ()) [.bool] true false) [.blk 0, .code (at_ (bt 3 7) (body Try.f59))]
noncomputable def V0 (n0 : Nat) (x0_0 : List (Ty.den TEntry)) (x0_1 : List (Ty.den TEntry)) (x0_2 : Int) : Option (Bool × Unit) := loopN (exec (E k) (at_ (bt 6 11) (body Try.f59))) (canon 0 [0, 1, 5]) (K0 k a0 a1) n0 (mk 26 0 [(0, .sl true TEntry x0_0), (1, .sl true TEntry x0_1), (5, .int .i64 x0_2)] [])
theorem s0 (n0 : Nat) (x0_0 : List (Ty.den TEntry)) (x0_1 : List (Ty.den TEntry)) (x0_2 : Int) : V0 k a0 a1 (n0 + 1) x0_0 x0_1 x0_2 = b0 k (V0 k a0 a1 n0) x0_0 x0_1 x0_2 := by kernel_rfl
theorem e0 (n0 : Nat) : V0 k a0 a1 n0 = l0 k n0 := loop_eq (V := V0 k a0 a1) (l := l0 k) rfl (fun n0 => funext fun x0_0 => funext fun x0_1 => funext fun x0_2 => s0 k a0 a1 n0 x0_0 x0_1 x0_2) (fun _ => rfl) n0
end
theorem eq (k : Nat) (a0 : List (Ty.den TEntry)) (a1 : List (Ty.den TEntry)) : run (E k) Try.f59 [.val (.slice TEntry), .val (.slice TEntry)] [.bool] true false (a0, a1, ()) = f k a0 a1 := (show _ = t k (V0 k a0 a1 k) a0 a1 by kernel_rfl).trans (by rw [e0]; rfl)
theorem ctr (k : Nat) : Ctr J Try.prog 59 (C k) :=
  run_ctr (E := E k) rfl mixed tb_ok (eqOk_of tb_eqs) Cts.nil (by kernel_rfl) Try.func59 (by kernel_rfl) rfl (fun ⟨a0, a1, _⟩ r h => (eq k a0 a1).trans h)
end spec_SameDir
namespace impl_Sealed
def C (k : Nat) : Cn := ⟨[.val (.slice TPlace)], [(.slice (.int .i64))], true, false, fun x => f k x.1⟩
def E (k : Nat) : Env := ⟨tb, [(132, impl_ownOf.C k), (133, impl_fits.C k)], [(3, [0, 3, 6, 7, 8])], k, 0, []⟩
section
variable (k : Nat) (a0 : List (Ty.den TPlace))
noncomputable def K0 : Ex → St → Option ((List Int) × Unit) := runK (E k) (endK (E k) Try.f60.results.toList [.val (.slice TPlace)] (a0, ()) [(.slice (.int .i64))] true false) [.blk 0, .code (at_ (bt 3 7) (body Try.f60))]
noncomputable def V0 (n0 : Nat) (x0_0 : List (Ty.den TPlace)) (x0_1 : List (Ty.den TPlace)) (x0_2 : Int) (x0_3 : Int) (x0_4 : List Int) : Option ((List Int) × Unit) := loopN (exec (E k) (at_ (bt 6 11) (body Try.f60))) (canon 0 [0, 3, 6, 7, 8]) (K0 k a0) n0 (mk 36 1 [(0, .sl true TPlace x0_0), (3, .ref 0), (6, .sl true TPlace x0_1), (7, .int .i64 x0_2), (8, .int .i64 x0_3)] [(0, .own false (.int .i64) x0_4)])
theorem s0 (n0 : Nat) (x0_0 : List (Ty.den TPlace)) (x0_1 : List (Ty.den TPlace)) (x0_2 : Int) (x0_3 : Int) (x0_4 : List Int) : V0 k a0 (n0 + 1) x0_0 x0_1 x0_2 x0_3 x0_4 = b0 k (V0 k a0 n0) x0_0 x0_1 x0_2 x0_3 x0_4 := by kernel_rfl
theorem e0 (n0 : Nat) : V0 k a0 n0 = l0 k n0 := loop_eq (V := V0 k a0) (l := l0 k) rfl (fun n0 => funext fun x0_0 => funext fun x0_1 => funext fun x0_2 => funext fun x0_3 => funext fun x0_4 => s0 k a0 n0 x0_0 x0_1 x0_2 x0_3 x0_4) (fun _ => rfl) n0
end
theorem eq (k : Nat) (a0 : List (Ty.den TPlace)) : run (E k) Try.f60 [.val (.slice TPlace)] [(.slice (.int .i64))] true false (a0, ()) = f k a0 := (show _ = t k (V0 k a0 k) a0 by kernel_rfl).trans (by rw [e0]; rfl)
theorem ctr (k : Nat) : Ctr J Try.prog 60 (C k) :=
  run_ctr (E := E k) rfl mixed tb_ok (eqOk_of tb_eqs) (Cts.cons (impl_ownOf.ctr k) (Cts.cons (impl_fits.ctr k) Cts.nil)) (by kernel_rfl) Try.func60 (by kernel_rfl) rfl (fun ⟨a0, _⟩ r h => (eq k a0).trans h)
end impl_Sealed
namespace laws_has
def C (k : Nat) : Cn := ⟨[.val (.slice (.int .i64)), .val (.int .i64)], [.bool], true, false, fun x => f k x.1 x.2.1⟩
def E (k : Nat) : Env := ⟨tb, [], [(2, [0, 1, 5])], k, 0, []⟩
section
variable (k : Nat) (a0 : List Int) (a1 : Int)
noncomputable def K0 : Ex → St → Option (Bool × Unit) := runK (E k) (endK (E k) Try.f61.results.toList [.val (.slice (.int .i64)), .val (.int .i64)] (a0, a1, ()) [.bool] true false) [.blk 0, .code (at_ (bt 2 3) (body Try.f61))]
noncomputable def V0 (n0 : Nat) (x0_0 : List Int) (x0_1 : Int) (x0_2 : Int) : Option (Bool × Unit) := loopN (exec (E k) (at_ (bt 5 5) (body Try.f61))) (canon 0 [0, 1, 5]) (K0 k a0 a1) n0 (mk 18 0 [(0, .sl true (.int .i64) x0_0), (1, .int .i64 x0_1), (5, .int .i64 x0_2)] [])
theorem s0 (n0 : Nat) (x0_0 : List Int) (x0_1 : Int) (x0_2 : Int) : V0 k a0 a1 (n0 + 1) x0_0 x0_1 x0_2 = b0 k (V0 k a0 a1 n0) x0_0 x0_1 x0_2 := by kernel_rfl
theorem e0 (n0 : Nat) : V0 k a0 a1 n0 = l0 k n0 := loop_eq (V := V0 k a0 a1) (l := l0 k) rfl (fun n0 => funext fun x0_0 => funext fun x0_1 => funext fun x0_2 => s0 k a0 a1 n0 x0_0 x0_1 x0_2) (fun _ => rfl) n0
end
theorem eq (k : Nat) (a0 : List Int) (a1 : Int) : run (E k) Try.f61 [.val (.slice (.int .i64)), .val (.int .i64)] [.bool] true false (a0, a1, ()) = f k a0 a1 := (show _ = t k (V0 k a0 a1 k) a0 a1 by kernel_rfl).trans (by rw [e0]; rfl)
theorem ctr (k : Nat) : Ctr J Try.prog 61 (C k) :=
  run_ctr (E := E k) rfl mixed tb_ok (eqOk_of tb_eqs) Cts.nil (by kernel_rfl) Try.func61 (by kernel_rfl) rfl (fun ⟨a0, a1, _⟩ r h => (eq k a0 a1).trans h)
end laws_has
namespace laws_FnGroups
def C (k : Nat) : Cn := ⟨[.val (.slice (.int .u8))], [.bool], true, false, fun x => f k x.1⟩
def E (k : Nat) : Env := ⟨tb, [(55, laws_big.C k), (56, spec_DrawRegroup.C k), (57, impl_Regroup.C k), (58, spec_Regroup.C k), (59, spec_SameDir.C k), (60, impl_Sealed.C k), (61, laws_has.C k)], [(11, [4, 5, 7, 8, 9]), (17, [5, 7, 8, 11])], k, 0, []⟩
section
variable (k : Nat) (a0 : List Int)
noncomputable def K0 : Ex → St → Option (Bool × Unit) := runK (E k) (endK (E k) Try.f10.results.toList [.val (.slice (.int .u8))] (a0, ()) [.bool] true false) [.blk 0, .code (at_ (bt 9 511) (body Try.f10))]
noncomputable def K1 : Ex → St → Option (Bool × Unit) := runK (E k) (endK (E k) Try.f10.results.toList [.val (.slice (.int .u8))] (a0, ()) [.bool] true false) [.blk 2, .code (at_ (bt 10 1023) (body Try.f10))]
noncomputable def V0 (n0 : Nat) (x0_0 : Int) (x0_1 : List (Ty.den TPlace)) (x0_2 : List (Ty.den TEntry)) (x0_3 : Int) (x0_4 : Int) (x0_5 : List Int) (x0_6 : List (Ty.den TPlace)) : Option (Bool × Unit) := loopN (exec (E k) (at_ (bt 12 767) (body Try.f10))) (canon 0 [4, 5, 7, 8, 9]) (K0 k a0) n0 (mk 144 5 [(4, .ref 0), (5, .ptr 1 0 0), (7, .ref 3), (8, .ref 4), (9, .int .i64 x0_0)] [(0, .own false TPlace x0_1), (2, .own false TEntry x0_2), (1, .box [.ref 2, .int .i64 x0_3, .int .i64 x0_4]), (3, .own false (.int .i64) x0_5), (4, .own false TPlace x0_6)])
noncomputable def V1 (n1 : Nat) (x1_0 : Int) (x1_1 : List (Ty.den TEntry)) (x1_2 : Int) (x1_3 : Int) (x1_4 : List Int) (x1_5 : List (Ty.den TPlace)) : Option (Bool × Unit) := loopN (exec (E k) (at_ (bt 13 1535) (body Try.f10))) (canon 0 [5, 7, 8, 11]) (K1 k a0) n1 (mk 144 4 [(5, .ptr 0 0 0), (7, .ref 2), (8, .ref 3), (11, .int .i64 x1_0)] [(1, .own false TEntry x1_1), (0, .box [.ref 1, .int .i64 x1_2, .int .i64 x1_3]), (2, .own false (.int .i64) x1_4), (3, .own false TPlace x1_5)])
theorem s0 (n0 : Nat) (x0_0 : Int) (x0_1 : List (Ty.den TPlace)) (x0_2 : List (Ty.den TEntry)) (x0_3 : Int) (x0_4 : Int) (x0_5 : List Int) (x0_6 : List (Ty.den TPlace)) : V0 k a0 (n0 + 1) x0_0 x0_1 x0_2 x0_3 x0_4 x0_5 x0_6 = b0 k (V1 k a0 k) (V0 k a0 n0) x0_0 x0_1 x0_2 x0_3 x0_4 x0_5 x0_6 := by kernel_rfl
theorem s1 (n1 : Nat) (x1_0 : Int) (x1_1 : List (Ty.den TEntry)) (x1_2 : Int) (x1_3 : Int) (x1_4 : List Int) (x1_5 : List (Ty.den TPlace)) : V1 k a0 (n1 + 1) x1_0 x1_1 x1_2 x1_3 x1_4 x1_5 = b1 k (V1 k a0 n1) x1_0 x1_1 x1_2 x1_3 x1_4 x1_5 := by kernel_rfl
theorem e1 (n1 : Nat) : V1 k a0 n1 = l1 k n1 := loop_eq (V := V1 k a0) (l := l1 k) rfl (fun n1 => funext fun x1_0 => funext fun x1_1 => funext fun x1_2 => funext fun x1_3 => funext fun x1_4 => funext fun x1_5 => s1 k a0 n1 x1_0 x1_1 x1_2 x1_3 x1_4 x1_5) (fun _ => rfl) n1
theorem e0 (n0 : Nat) : V0 k a0 n0 = l0 k n0 := by
  induction n0 with
  | zero => rfl
  | succ n0 ih =>
    have h : V0 k a0 (n0 + 1) = b0 k (V1 k a0 k) (V0 k a0 n0) := funext fun x0_0 => funext fun x0_1 => funext fun x0_2 => funext fun x0_3 => funext fun x0_4 => funext fun x0_5 => funext fun x0_6 => s0 k a0 n0 x0_0 x0_1 x0_2 x0_3 x0_4 x0_5 x0_6
    rw [h, e1, ih]
    rfl
end
theorem eq (k : Nat) (a0 : List Int) : run (E k) Try.f10 [.val (.slice (.int .u8))] [.bool] true false (a0, ()) = f k a0 := (show _ = t k (V0 k a0 k) a0 by kernel_rfl).trans (by rw [e0]; rfl)
theorem ctr (k : Nat) : Ctr J Try.prog 10 (C k) :=
  run_ctr (E := E k) rfl mixed tb_ok (eqOk_of tb_eqs) (Cts.cons (laws_big.ctr k) (Cts.cons (spec_DrawRegroup.ctr k) (Cts.cons (impl_Regroup.ctr k) (Cts.cons (spec_Regroup.ctr k) (Cts.cons (spec_SameDir.ctr k) (Cts.cons (impl_Sealed.ctr k) (Cts.cons (laws_has.ctr k) Cts.nil))))))) (by kernel_rfl) Try.func10 (by kernel_rfl) rfl (fun ⟨a0, _⟩ r h => (eq k a0).trans h)
end laws_FnGroups
end Go.Proofs.Ytiigjojchlplpaa.G

/- Functions keep their contracts. -/
import Derived.Test.YtegeiflafmpefaaVTab
import Derived.Test.YtegeiflafmpefaaFA
set_option linter.unusedVariables false
set_option maxRecDepth 100000
namespace Go.Proofs.Ytegeiflafmpefaa.G
open Go.V
namespace laws_big
def C (k : Nat) : Cn := ⟨[.val (.slice (.int .u8))], [.bool], true, false, fun x => f k x.1⟩
def E (k : Nat) : Env := ⟨tb, [], [], k, 0, []⟩
theorem eq (k : Nat) (a0 : List Int) : run (E k) Try.f4 [.val (.slice (.int .u8))] [.bool] true false (a0, ()) = f k a0 := by kernel_rfl
theorem ctr (k : Nat) : Ctr J Try.prog 4 (C k) :=
  run_ctr (E := E k) rfl mixed tb_ok (eqOk_of tb_eqs) Cts.nil (by kernel_rfl) Try.func4 (by kernel_rfl) rfl (fun ⟨a0, _⟩ r h => (eq k a0).trans h)
end laws_big
namespace spec_l1New
def C (k : Nat) : Cn := ⟨[.val (.slice (.int .u8))], [.opq, Tl1Cur], false, true, fun x => f k x.1⟩
def E (k : Nat) : Env := ⟨tb, [], [(3, [0, 3, 4])], k, 0, []⟩
section
variable (k : Nat) (a0 : List Int)
noncomputable def K0 : Ex → St → Option (Unit × (Ty.den Tl1Cur) × Unit) := runK (E k) (endB (E k) Try.f14.results.toList [.val (.slice (.int .u8))] (a0, ()) [.opq, Tl1Cur]) [.blk 0, .code (at_ (bt 3 7) (body Try.f14))]
noncomputable def V0 (n0 : Nat) (x0_0 : List Int) (x0_1 : Int) (x0_2 : Int) : Option (Unit × (Ty.den Tl1Cur) × Unit) := loopN (exec (E k) (at_ (bt 6 11) (body Try.f14))) (canon 0 [0, 3, 4]) (K0 k a0) n0 (mk 32 0 [(0, .sl true (.int .u8) x0_0), (3, .int .i64 x0_1), (4, .int .i64 x0_2)] [])
theorem s0 (n0 : Nat) (x0_0 : List Int) (x0_1 : Int) (x0_2 : Int) : V0 k a0 (n0 + 1) x0_0 x0_1 x0_2 = b0 k (V0 k a0 n0) x0_0 x0_1 x0_2 := by kernel_rfl
theorem e0 (n0 : Nat) : V0 k a0 n0 = l0 k n0 := loop_eq (V := V0 k a0) (l := l0 k) rfl (fun n0 => funext fun x0_0 => funext fun x0_1 => funext fun x0_2 => s0 k a0 n0 x0_0 x0_1 x0_2) (fun _ => rfl) n0
end
theorem eq (k : Nat) (a0 : List Int) : runB (E k) Try.f14 [.val (.slice (.int .u8))] [.opq, Tl1Cur] (a0, ()) = f k a0 := (show _ = t k (V0 k a0 k) a0 by kernel_rfl).trans (by rw [e0]; rfl)
theorem ctr (k : Nat) : Ctr J Try.prog 14 (C k) :=
  run_box (E := E k) rfl mixed tb_ok (eqOk_of tb_eqs) Cts.nil (by kernel_rfl) Try.func14 (by kernel_rfl) rfl (fun ⟨a0, _⟩ r h => (eq k a0).trans h)
end spec_l1New
namespace spec_l1Byte
def C (k : Nat) : Cn := ⟨[.io false Tl1Cur], [(.int .i64)], true, true, fun x => f k x.1⟩
def E (k : Nat) : Env := ⟨tb, [], [], k, 1, []⟩
theorem eq (k : Nat) (a0 : Ty.den Tl1Cur) : run (E k) Try.f24 [.io false Tl1Cur] [(.int .i64)] true true (a0, ()) = f k a0 := by kernel_rfl
theorem ctr (k : Nat) : Ctr J Try.prog 24 (C k) :=
  run_ctr (E := E k) rfl mixed tb_ok (eqOk_of tb_eqs) Cts.nil (by kernel_rfl) Try.func24 (by kernel_rfl) rfl (fun ⟨a0, _⟩ r h => (eq k a0).trans h)
end spec_l1Byte
namespace spec_l1Below
def C (k : Nat) : Cn := ⟨[.io false Tl1Cur, .val (.int .i64)], [(.int .i64)], true, true, fun x => f k x.1 x.2.1⟩
def E (k : Nat) : Env := ⟨tb, [(24, spec_l1Byte.C k)], [], k, 1, []⟩
theorem eq (k : Nat) (a0 : Ty.den Tl1Cur) (a1 : Int) : run (E k) Try.f19 [.io false Tl1Cur, .val (.int .i64)] [(.int .i64)] true true (a0, a1, ()) = f k a0 a1 := by kernel_rfl
theorem ctr (k : Nat) : Ctr J Try.prog 19 (C k) :=
  run_ctr (E := E k) rfl mixed tb_ok (eqOk_of tb_eqs) (Cts.cons (spec_l1Byte.ctr k) Cts.nil) (by kernel_rfl) Try.func19 (by kernel_rfl) rfl (fun ⟨a0, a1, _⟩ r h => (eq k a0 a1).trans h)
end spec_l1Below
namespace spec_l1Pick
def C (k : Nat) : Cn := ⟨[.io false Tl1Cur, .val (.slice .str)], [.str], true, true, fun x => f k x.1 x.2.1⟩
def E (k : Nat) : Env := ⟨tb, [(19, spec_l1Below.C k)], [], k, 1, []⟩
theorem eq (k : Nat) (a0 : Ty.den Tl1Cur) (a1 : List ByteArray) : run (E k) Try.f16 [.io false Tl1Cur, .val (.slice .str)] [.str] true true (a0, a1, ()) = f k a0 a1 := by kernel_rfl
theorem ctr (k : Nat) : Ctr J Try.prog 16 (C k) :=
  run_ctr (E := E k) rfl mixed tb_ok (eqOk_of tb_eqs) (Cts.cons (spec_l1Below.ctr k) Cts.nil) (by kernel_rfl) Try.func16 (by kernel_rfl) rfl (fun ⟨a0, a1, _⟩ r h => (eq k a0 a1).trans h)
end spec_l1Pick
namespace spec_l5Key
def C (k : Nat) : Cn := ⟨[.io false Tl1Cur], [.str], true, true, fun x => f k x.1⟩
def E (k : Nat) : Env := ⟨tb, [(16, spec_l1Pick.C k)], [], k, 1, []⟩
theorem eq (k : Nat) (a0 : Ty.den Tl1Cur) : run (E k) Try.f25 [.io false Tl1Cur] [.str] true true (a0, ()) = f k a0 := by kernel_rfl
theorem ctr (k : Nat) : Ctr J Try.prog 25 (C k) :=
  run_ctr (E := E k) rfl mixed tb_ok (eqOk_of tb_eqs) (Cts.cons (spec_l1Pick.ctr k) Cts.nil) (by kernel_rfl) Try.func25 (by kernel_rfl) rfl (fun ⟨a0, _⟩ r h => (eq k a0).trans h)
end spec_l5Key
namespace spec_l8Entry
def C (k : Nat) : Cn := ⟨[.io false Tl1Cur], [TEntry], true, true, fun x => f k x.1⟩
def E (k : Nat) : Env := ⟨tb, [(25, spec_l5Key.C k), (19, spec_l1Below.C k)], [], k, 1, []⟩
theorem eq (k : Nat) (a0 : Ty.den Tl1Cur) : run (E k) Try.f21 [.io false Tl1Cur] [TEntry] true true (a0, ()) = f k a0 := by kernel_rfl
theorem ctr (k : Nat) : Ctr J Try.prog 21 (C k) :=
  run_ctr (E := E k) rfl mixed tb_ok (eqOk_of tb_eqs) (Cts.cons (spec_l5Key.ctr k) (Cts.cons (spec_l1Below.ctr k) Cts.nil)) (by kernel_rfl) Try.func21 (by kernel_rfl) rfl (fun ⟨a0, _⟩ r h => (eq k a0).trans h)
end spec_l8Entry
namespace spec_DirPut
def C (k : Nat) : Cn := ⟨[.val (.slice TEntry), .val TEntry], [(.slice TEntry)], true, false, fun x => f k x.1 x.2.1⟩
def E (k : Nat) : Env := ⟨tb, [], [(4, [0, 3, 5, 6, 7])], k, 0, []⟩
section
variable (k : Nat) (a0 : List (Ty.den TEntry)) (a1 : Ty.den TEntry)
noncomputable def K0 : Ex → St → Option ((List (Ty.den TEntry)) × Unit) := runK (E k) (endK (E k) Try.f20.results.toList [.val (.slice TEntry), .val TEntry] (a0, a1, ()) [(.slice TEntry)] true false) [.blk 0, .code (at_ (bt 4 15) (body Try.f20))]
noncomputable def V0 (n0 : Nat) (x0_0 : List (Ty.den TEntry)) (x0_1 : Bool) (x0_2 : Int) (x0_3 : ByteArray) (x0_4 : Int) (x0_5 : Int) (x0_6 : Int) (x0_7 : Int) (x0_8 : List (Ty.den TEntry)) : Option ((List (Ty.den TEntry)) × Unit) := loopN (exec (E k) (at_ (bt 7 23) (body Try.f20))) (canon 0 [0, 3, 5, 6, 7]) (K0 k a0 a1) n0 (mk 53 2 [(0, .sl true TEntry x0_0), (3, .ptr 0 0 0), (5, .ref 1), (6, .bool x0_1), (7, .int .i64 x0_2)] [(0, .box [.str x0_3, .int .i64 x0_4, .int .i64 x0_5, .int .i64 x0_6, .int .i64 x0_7]), (1, .own false TEntry x0_8)])
theorem s0 (n0 : Nat) (x0_0 : List (Ty.den TEntry)) (x0_1 : Bool) (x0_2 : Int) (x0_3 : ByteArray) (x0_4 : Int) (x0_5 : Int) (x0_6 : Int) (x0_7 : Int) (x0_8 : List (Ty.den TEntry)) : V0 k a0 a1 (n0 + 1) x0_0 x0_1 x0_2 x0_3 x0_4 x0_5 x0_6 x0_7 x0_8 = b0 k (V0 k a0 a1 n0) x0_0 x0_1 x0_2 x0_3 x0_4 x0_5 x0_6 x0_7 x0_8 := by kernel_rfl
theorem e0 (n0 : Nat) : V0 k a0 a1 n0 = l0 k n0 := loop_eq (V := V0 k a0 a1) (l := l0 k) rfl (fun n0 => funext fun x0_0 => funext fun x0_1 => funext fun x0_2 => funext fun x0_3 => funext fun x0_4 => funext fun x0_5 => funext fun x0_6 => funext fun x0_7 => funext fun x0_8 => s0 k a0 a1 n0 x0_0 x0_1 x0_2 x0_3 x0_4 x0_5 x0_6 x0_7 x0_8) (fun _ => rfl) n0
end
theorem eq (k : Nat) (a0 : List (Ty.den TEntry)) (a1 : Ty.den TEntry) : run (E k) Try.f20 [.val (.slice TEntry), .val TEntry] [(.slice TEntry)] true false (a0, a1, ()) = f k a0 a1 := (show _ = t k (V0 k a0 a1 k) a0 a1 by kernel_rfl).trans (by rw [e0]; rfl)
theorem ctr (k : Nat) : Ctr J Try.prog 20 (C k) :=
  run_ctr (E := E k) rfl mixed tb_ok (eqOk_of tb_eqs) Cts.nil (by kernel_rfl) Try.func20 (by kernel_rfl) rfl (fun ⟨a0, a1, _⟩ r h => (eq k a0 a1).trans h)
end spec_DirPut
namespace spec_l1Once
def C (k : Nat) : Cn := ⟨[.io false Tl1Cur, .val (.int .i64)], [.bool], true, true, fun x => f k x.1 x.2.1⟩
def E (k : Nat) : Env := ⟨tb, [(19, spec_l1Below.C k)], [], k, 1, []⟩
theorem eq (k : Nat) (a0 : Ty.den Tl1Cur) (a1 : Int) : run (E k) Try.f22 [.io false Tl1Cur, .val (.int .i64)] [.bool] true true (a0, a1, ()) = f k a0 a1 := by kernel_rfl
theorem ctr (k : Nat) : Ctr J Try.prog 22 (C k) :=
  run_ctr (E := E k) rfl mixed tb_ok (eqOk_of tb_eqs) (Cts.cons (spec_l1Below.ctr k) Cts.nil) (by kernel_rfl) Try.func22 (by kernel_rfl) rfl (fun ⟨a0, a1, _⟩ r h => (eq k a0 a1).trans h)
end spec_l1Once
namespace spec_l1PickInt
def C (k : Nat) : Cn := ⟨[.io false Tl1Cur, .val (.slice (.int .i64))], [(.int .i64)], true, true, fun x => f k x.1 x.2.1⟩
def E (k : Nat) : Env := ⟨tb, [(19, spec_l1Below.C k)], [], k, 1, []⟩
theorem eq (k : Nat) (a0 : Ty.den Tl1Cur) (a1 : List Int) : run (E k) Try.f23 [.io false Tl1Cur, .val (.slice (.int .i64))] [(.int .i64)] true true (a0, a1, ()) = f k a0 a1 := by kernel_rfl
theorem ctr (k : Nat) : Ctr J Try.prog 23 (C k) :=
  run_ctr (E := E k) rfl mixed tb_ok (eqOk_of tb_eqs) (Cts.cons (spec_l1Below.ctr k) Cts.nil) (by kernel_rfl) Try.func23 (by kernel_rfl) rfl (fun ⟨a0, a1, _⟩ r h => (eq k a0 a1).trans h)
end spec_l1PickInt
namespace spec_l8Dir
def C (k : Nat) : Cn := ⟨[.io false Tl1Cur], [(.slice TEntry)], true, true, fun x => f k x.1⟩
def E (k : Nat) : Env := ⟨tb, [(19, spec_l1Below.C k), (21, spec_l8Entry.C k), (20, spec_DirPut.C k), (22, spec_l1Once.C k), (16, spec_l1Pick.C k), (23, spec_l1PickInt.C k)], [(3, [0, 3, 4])], k, 1, []⟩
section
variable (k : Nat) (a0 : Ty.den Tl1Cur)
noncomputable def K0 : Ex → St → Option ((Ty.den Tl1Cur) × (List (Ty.den TEntry)) × Unit) := runK (E k) (endK (E k) Try.f15.results.toList [.io false Tl1Cur] (a0, ()) [(.slice TEntry)] true true) [.blk 0, .code (at_ (bt 3 7) (body Try.f15))]
noncomputable def V0 (n0 : Nat) (x0_0 : Int) (x0_1 : List Int) (x0_2 : Int) (x0_3 : Int) (x0_4 : List (Ty.den TEntry)) : Option ((Ty.den Tl1Cur) × (List (Ty.den TEntry)) × Unit) := loopN (exec (E k) (at_ (bt 6 11) (body Try.f15))) (canon 1 [0, 3, 4]) (K0 k a0) n0 (mk 62 2 [(0, .ptr 0 0 0), (3, .ref 1), (4, .int .i64 x0_0)] [(0, .box [.sl true (.int .u8) x0_1, .int .i64 x0_2, .int .i64 x0_3]), (1, .own false TEntry x0_4)])
theorem s0 (n0 : Nat) (x0_0 : Int) (x0_1 : List Int) (x0_2 : Int) (x0_3 : Int) (x0_4 : List (Ty.den TEntry)) : V0 k a0 (n0 + 1) x0_0 x0_1 x0_2 x0_3 x0_4 = b0 k (V0 k a0 n0) x0_0 x0_1 x0_2 x0_3 x0_4 := by kernel_rfl
theorem e0 (n0 : Nat) : V0 k a0 n0 = l0 k n0 := loop_eq (V := V0 k a0) (l := l0 k) rfl (fun n0 => funext fun x0_0 => funext fun x0_1 => funext fun x0_2 => funext fun x0_3 => funext fun x0_4 => s0 k a0 n0 x0_0 x0_1 x0_2 x0_3 x0_4) (fun _ => rfl) n0
end
theorem eq (k : Nat) (a0 : Ty.den Tl1Cur) : run (E k) Try.f15 [.io false Tl1Cur] [(.slice TEntry)] true true (a0, ()) = f k a0 := (show _ = t k (V0 k a0 k) a0 by kernel_rfl).trans (by rw [e0]; rfl)
theorem ctr (k : Nat) : Ctr J Try.prog 15 (C k) :=
  run_ctr (E := E k) rfl mixed tb_ok (eqOk_of tb_eqs) (Cts.cons (spec_l1Below.ctr k) (Cts.cons (spec_l8Entry.ctr k) (Cts.cons (spec_DirPut.ctr k) (Cts.cons (spec_l1Once.ctr k) (Cts.cons (spec_l1Pick.ctr k) (Cts.cons (spec_l1PickInt.ctr k) Cts.nil)))))) (by kernel_rfl) Try.func15 (by kernel_rfl) rfl (fun ⟨a0, _⟩ r h => (eq k a0).trans h)
end spec_l8Dir
namespace spec_DrawRangeOf
def C (k : Nat) : Cn := ⟨[.val (.slice (.int .u8))], [(.slice TEntry), .str, .str], true, false, fun x => f k x.1⟩
def E (k : Nat) : Env := ⟨tb, [(14, spec_l1New.C k), (15, spec_l8Dir.C k), (16, spec_l1Pick.C k)], [], k, 0, []⟩
theorem eq (k : Nat) (a0 : List Int) : run (E k) Try.f5 [.val (.slice (.int .u8))] [(.slice TEntry), .str, .str] true false (a0, ()) = f k a0 := by kernel_rfl
theorem ctr (k : Nat) : Ctr J Try.prog 5 (C k) :=
  run_ctr (E := E k) rfl mixed tb_ok (eqOk_of tb_eqs) (Cts.cons (spec_l1New.ctr k) (Cts.cons (spec_l8Dir.ctr k) (Cts.cons (spec_l1Pick.ctr k) Cts.nil))) (by kernel_rfl) Try.func5 (by kernel_rfl) rfl (fun ⟨a0, _⟩ r h => (eq k a0).trans h)
end spec_DrawRangeOf
namespace spec_l1In
def C (k : Nat) : Cn := ⟨[.val (.int .i64), .val (.int .i64), .val (.int .i64)], [.bool], true, false, fun x => f k x.1 x.2.1 x.2.2.1⟩
def E (k : Nat) : Env := ⟨tb, [], [], k, 0, []⟩
theorem eq (k : Nat) (a0 : Int) (a1 : Int) (a2 : Int) : run (E k) Try.f18 [.val (.int .i64), .val (.int .i64), .val (.int .i64)] [.bool] true false (a0, a1, a2, ()) = f k a0 a1 a2 := by kernel_rfl
theorem ctr (k : Nat) : Ctr J Try.prog 18 (C k) :=
  run_ctr (E := E k) rfl mixed tb_ok (eqOk_of tb_eqs) Cts.nil (by kernel_rfl) Try.func18 (by kernel_rfl) rfl (fun ⟨a0, a1, a2, _⟩ r h => (eq k a0 a1 a2).trans h)
end spec_l1In
namespace spec_KeyOk
def C (k : Nat) : Cn := ⟨[.val .str], [.bool], true, false, fun x => f k x.1⟩
def E (k : Nat) : Env := ⟨tb, [(18, spec_l1In.C k)], [], k, 0, []⟩
theorem eq (k : Nat) (a0 : ByteArray) : run (E k) Try.f17 [.val .str] [.bool] true false (a0, ()) = f k a0 := by kernel_rfl
theorem ctr (k : Nat) : Ctr J Try.prog 17 (C k) :=
  run_ctr (E := E k) rfl mixed tb_ok (eqOk_of tb_eqs) (Cts.cons (spec_l1In.ctr k) Cts.nil) (by kernel_rfl) Try.func17 (by kernel_rfl) rfl (fun ⟨a0, _⟩ r h => (eq k a0).trans h)
end spec_KeyOk
namespace spec_DirOk
def C (k : Nat) : Cn := ⟨[.val (.slice TEntry)], [.bool], true, false, fun x => f k x.1⟩
def E (k : Nat) : Env := ⟨tb, [(17, spec_KeyOk.C k), (18, spec_l1In.C k)], [(4, [0, 3])], k, 0, []⟩
section
variable (k : Nat) (a0 : List (Ty.den TEntry))
noncomputable def K0 : Ex → St → Option (Bool × Unit) := runK (E k) (endK (E k) Try.f6.results.toList [.val (.slice TEntry)] (a0, ()) [.bool] true false) [.blk 0, .code (at_ (bt 3 7) (body Try.f6))]
noncomputable def V0 (n0 : Nat) (x0_0 : List (Ty.den TEntry)) (x0_1 : Int) : Option (Bool × Unit) := loopN (exec (E k) (at_ (bt 6 11) (body Try.f6))) (canon 0 [0, 3]) (K0 k a0) n0 (mk 60 0 [(0, .sl true TEntry x0_0), (3, .int .i64 x0_1)] [])
theorem s0 (n0 : Nat) (x0_0 : List (Ty.den TEntry)) (x0_1 : Int) : V0 k a0 (n0 + 1) x0_0 x0_1 = b0 k (V0 k a0 n0) x0_0 x0_1 := by kernel_rfl
theorem e0 (n0 : Nat) : V0 k a0 n0 = l0 k n0 := loop_eq (V := V0 k a0) (l := l0 k) rfl (fun n0 => funext fun x0_0 => funext fun x0_1 => s0 k a0 n0 x0_0 x0_1) (fun _ => rfl) n0
end
theorem eq (k : Nat) (a0 : List (Ty.den TEntry)) : run (E k) Try.f6 [.val (.slice TEntry)] [.bool] true false (a0, ()) = f k a0 := (show _ = t k (V0 k a0 k) a0 by kernel_rfl).trans (by rw [e0]; rfl)
theorem ctr (k : Nat) : Ctr J Try.prog 6 (C k) :=
  run_ctr (E := E k) rfl mixed tb_ok (eqOk_of tb_eqs) (Cts.cons (spec_KeyOk.ctr k) (Cts.cons (spec_l1In.ctr k) Cts.nil)) (by kernel_rfl) Try.func6 (by kernel_rfl) rfl (fun ⟨a0, _⟩ r h => (eq k a0).trans h)
end spec_DirOk
namespace laws_at
def C (k : Nat) : Cn := ⟨[.val (.slice (.int .u8)), .val (.int .i64)], [(.int .i64)], true, false, fun x => f k x.1 x.2.1⟩
def E (k : Nat) : Env := ⟨tb, [], [], k, 0, []⟩
theorem eq (k : Nat) (a0 : List Int) (a1 : Int) : run (E k) Try.f7 [.val (.slice (.int .u8)), .val (.int .i64)] [(.int .i64)] true false (a0, a1, ()) = f k a0 a1 := by kernel_rfl
theorem ctr (k : Nat) : Ctr J Try.prog 7 (C k) :=
  run_ctr (E := E k) rfl mixed tb_ok (eqOk_of tb_eqs) Cts.nil (by kernel_rfl) Try.func7 (by kernel_rfl) rfl (fun ⟨a0, a1, _⟩ r h => (eq k a0 a1).trans h)
end laws_at
namespace impl_Page
def C (k : Nat) : Cn := ⟨[.val (.slice TEntry), .val .str, .val (.int .i64)], [(.slice .str), .str], true, false, fun x => f k x.1 x.2.1 x.2.2.1⟩
def E (k : Nat) : Env := ⟨tb, [], [(4, [1, 2, 8, 9, 12, 13, 14])], k, 0, []⟩
section
variable (k : Nat) (a0 : List (Ty.den TEntry)) (a1 : ByteArray) (a2 : Int)
noncomputable def K0 : Ex → St → Option ((List ByteArray) × ByteArray × Unit) := runK (E k) (endK (E k) Try.f8.results.toList [.val (.slice TEntry), .val .str, .val (.int .i64)] (a0, a1, a2, ()) [(.slice .str), .str] true false) [.blk 0, .code (at_ (bt 4 15) (body Try.f8))]
noncomputable def V0 (n0 : Nat) (x0_0 : ByteArray) (x0_1 : Int) (x0_2 : ByteArray) (x0_3 : List (Ty.den TEntry)) (x0_4 : Int) (x0_5 : Int) (x0_6 : List ByteArray) : Option ((List ByteArray) × ByteArray × Unit) := loopN (exec (E k) (at_ (bt 7 23) (body Try.f8))) (canon 0 [1, 2, 8, 9, 12, 13, 14]) (K0 k a0 a1 a2) n0 (mk 38 1 [(1, .str x0_0), (2, .int .i64 x0_1), (8, .ref 0), (9, .str x0_2), (12, .sl true TEntry x0_3), (13, .int .i64 x0_4), (14, .int .i64 x0_5)] [(0, .own false .str x0_6)])
theorem s0 (n0 : Nat) (x0_0 : ByteArray) (x0_1 : Int) (x0_2 : ByteArray) (x0_3 : List (Ty.den TEntry)) (x0_4 : Int) (x0_5 : Int) (x0_6 : List ByteArray) : V0 k a0 a1 a2 (n0 + 1) x0_0 x0_1 x0_2 x0_3 x0_4 x0_5 x0_6 = b0 k (V0 k a0 a1 a2 n0) x0_0 x0_1 x0_2 x0_3 x0_4 x0_5 x0_6 := by kernel_rfl
theorem e0 (n0 : Nat) : V0 k a0 a1 a2 n0 = l0 k n0 := loop_eq (V := V0 k a0 a1 a2) (l := l0 k) rfl (fun n0 => funext fun x0_0 => funext fun x0_1 => funext fun x0_2 => funext fun x0_3 => funext fun x0_4 => funext fun x0_5 => funext fun x0_6 => s0 k a0 a1 a2 n0 x0_0 x0_1 x0_2 x0_3 x0_4 x0_5 x0_6) (fun _ => rfl) n0
end
theorem eq (k : Nat) (a0 : List (Ty.den TEntry)) (a1 : ByteArray) (a2 : Int) : run (E k) Try.f8 [.val (.slice TEntry), .val .str, .val (.int .i64)] [(.slice .str), .str] true false (a0, a1, a2, ()) = f k a0 a1 a2 := (show _ = t k (V0 k a0 a1 a2 k) a0 a1 a2 by kernel_rfl).trans (by rw [e0]; rfl)
theorem ctr (k : Nat) : Ctr J Try.prog 8 (C k) :=
  run_ctr (E := E k) rfl mixed tb_ok (eqOk_of tb_eqs) Cts.nil (by kernel_rfl) Try.func8 (by kernel_rfl) rfl (fun ⟨a0, a1, a2, _⟩ r h => (eq k a0 a1 a2).trans h)
end impl_Page
namespace impl_RangeOf
def C (k : Nat) : Cn := ⟨[.val (.slice TEntry), .val .str, .val .str], [(.slice .str)], true, false, fun x => f k x.1 x.2.1 x.2.2.1⟩
def E (k : Nat) : Env := ⟨tb, [], [(3, [1, 2, 7, 10, 11, 12])], k, 0, []⟩
section
variable (k : Nat) (a0 : List (Ty.den TEntry)) (a1 : ByteArray) (a2 : ByteArray)
noncomputable def K0 : Ex → St → Option ((List ByteArray) × Unit) := runK (E k) (endK (E k) Try.f9.results.toList [.val (.slice TEntry), .val .str, .val .str] (a0, a1, a2, ()) [(.slice .str)] true false) [.blk 0, .code (at_ (bt 3 7) (body Try.f9))]
noncomputable def V0 (n0 : Nat) (x0_0 : ByteArray) (x0_1 : ByteArray) (x0_2 : List (Ty.den TEntry)) (x0_3 : Int) (x0_4 : Int) (x0_5 : List ByteArray) : Option ((List ByteArray) × Unit) := loopN (exec (E k) (at_ (bt 6 11) (body Try.f9))) (canon 0 [1, 2, 7, 10, 11, 12]) (K0 k a0 a1 a2) n0 (mk 37 1 [(1, .str x0_0), (2, .str x0_1), (7, .ref 0), (10, .sl true TEntry x0_2), (11, .int .i64 x0_3), (12, .int .i64 x0_4)] [(0, .own false .str x0_5)])
theorem s0 (n0 : Nat) (x0_0 : ByteArray) (x0_1 : ByteArray) (x0_2 : List (Ty.den TEntry)) (x0_3 : Int) (x0_4 : Int) (x0_5 : List ByteArray) : V0 k a0 a1 a2 (n0 + 1) x0_0 x0_1 x0_2 x0_3 x0_4 x0_5 = b0 k (V0 k a0 a1 a2 n0) x0_0 x0_1 x0_2 x0_3 x0_4 x0_5 := by kernel_rfl
theorem e0 (n0 : Nat) : V0 k a0 a1 a2 n0 = l0 k n0 := loop_eq (V := V0 k a0 a1 a2) (l := l0 k) rfl (fun n0 => funext fun x0_0 => funext fun x0_1 => funext fun x0_2 => funext fun x0_3 => funext fun x0_4 => funext fun x0_5 => s0 k a0 a1 a2 n0 x0_0 x0_1 x0_2 x0_3 x0_4 x0_5) (fun _ => rfl) n0
end
theorem eq (k : Nat) (a0 : List (Ty.den TEntry)) (a1 : ByteArray) (a2 : ByteArray) : run (E k) Try.f9 [.val (.slice TEntry), .val .str, .val .str] [(.slice .str)] true false (a0, a1, a2, ()) = f k a0 a1 a2 := (show _ = t k (V0 k a0 a1 a2 k) a0 a1 a2 by kernel_rfl).trans (by rw [e0]; rfl)
theorem ctr (k : Nat) : Ctr J Try.prog 9 (C k) :=
  run_ctr (E := E k) rfl mixed tb_ok (eqOk_of tb_eqs) Cts.nil (by kernel_rfl) Try.func9 (by kernel_rfl) rfl (fun ⟨a0, a1, a2, _⟩ r h => (eq k a0 a1 a2).trans h)
end impl_RangeOf
namespace spec_DirGet
def C (k : Nat) : Cn := ⟨[.val (.slice TEntry), .val .str], [TEntry, .bool], true, false, fun x => f k x.1 x.2.1⟩
def E (k : Nat) : Env := ⟨tb, [], [(2, [0, 1, 4, 6])], k, 0, []⟩
section
variable (k : Nat) (a0 : List (Ty.den TEntry)) (a1 : ByteArray)
noncomputable def K0 : Ex → St → Option ((Ty.den TEntry) × Bool × Unit) := runK (E k) (endK (E k) Try.f10.results.toList [.val (.slice TEntry), .val .str] (a0, a1, ()) [TEntry, .bool] true false) [.blk 0, .code (at_ (bt 2 3) (body Try.f10))]
noncomputable def V0 (n0 : Nat) (x0_0 : List (Ty.den TEntry)) (x0_1 : ByteArray) (x0_2 : Int) (x0_3 : ByteArray) (x0_4 : Int) (x0_5 : Int) (x0_6 : Int) (x0_7 : Int) : Option ((Ty.den TEntry) × Bool × Unit) := loopN (exec (E k) (at_ (bt 5 5) (body Try.f10))) (canon 0 [0, 1, 4, 6]) (K0 k a0 a1) n0 (mk 25 1 [(0, .sl true TEntry x0_0), (1, .str x0_1), (4, .ptr 0 0 0), (6, .int .i64 x0_2)] [(0, .box [.str x0_3, .int .i64 x0_4, .int .i64 x0_5, .int .i64 x0_6, .int .i64 x0_7])])
theorem s0 (n0 : Nat) (x0_0 : List (Ty.den TEntry)) (x0_1 : ByteArray) (x0_2 : Int) (x0_3 : ByteArray) (x0_4 : Int) (x0_5 : Int) (x0_6 : Int) (x0_7 : Int) : V0 k a0 a1 (n0 + 1) x0_0 x0_1 x0_2 x0_3 x0_4 x0_5 x0_6 x0_7 = b0 k (V0 k a0 a1 n0) x0_0 x0_1 x0_2 x0_3 x0_4 x0_5 x0_6 x0_7 := by kernel_rfl
theorem e0 (n0 : Nat) : V0 k a0 a1 n0 = l0 k n0 := loop_eq (V := V0 k a0 a1) (l := l0 k) rfl (fun n0 => funext fun x0_0 => funext fun x0_1 => funext fun x0_2 => funext fun x0_3 => funext fun x0_4 => funext fun x0_5 => funext fun x0_6 => funext fun x0_7 => s0 k a0 a1 n0 x0_0 x0_1 x0_2 x0_3 x0_4 x0_5 x0_6 x0_7) (fun _ => rfl) n0
end
theorem eq (k : Nat) (a0 : List (Ty.den TEntry)) (a1 : ByteArray) : run (E k) Try.f10 [.val (.slice TEntry), .val .str] [TEntry, .bool] true false (a0, a1, ()) = f k a0 a1 := (show _ = t k (V0 k a0 a1 k) a0 a1 by kernel_rfl).trans (by rw [e0]; rfl)
theorem ctr (k : Nat) : Ctr J Try.prog 10 (C k) :=
  run_ctr (E := E k) rfl mixed tb_ok (eqOk_of tb_eqs) Cts.nil (by kernel_rfl) Try.func10 (by kernel_rfl) rfl (fun ⟨a0, a1, _⟩ r h => (eq k a0 a1).trans h)
end spec_DirGet
namespace impl_Pages
def C (k : Nat) : Cn := ⟨[.val (.slice TEntry), .val (.int .i64)], [(.slice .str)], true, false, fun x => f k x.1 x.2.1⟩
def E (k : Nat) : Env := ⟨tb, [(8, impl_Page.C k)], [(3, [0, 1, 5, 6])], k, 0, []⟩
section
variable (k : Nat) (a0 : List (Ty.den TEntry)) (a1 : Int)
noncomputable def K0 : Ex → St → Option ((List ByteArray) × Unit) := runK (E k) (endK (E k) Try.f12.results.toList [.val (.slice TEntry), .val (.int .i64)] (a0, a1, ()) [(.slice .str)] true false) [.blk 0, .code (at_ (bt 4 15) (body Try.f12))]
noncomputable def V0 (n0 : Nat) (x0_0 : List (Ty.den TEntry)) (x0_1 : Int) (x0_2 : ByteArray) (x0_3 : List ByteArray) : Option ((List ByteArray) × Unit) := loopN (exec (E k) (at_ (bt 6 7) (body Try.f12))) (canon 0 [0, 1, 5, 6]) (K0 k a0 a1) n0 (mk 26 1 [(0, .sl true TEntry x0_0), (1, .int .i64 x0_1), (5, .ref 0), (6, .str x0_2)] [(0, .own false .str x0_3)])
theorem s0 (n0 : Nat) (x0_0 : List (Ty.den TEntry)) (x0_1 : Int) (x0_2 : ByteArray) (x0_3 : List ByteArray) : V0 k a0 a1 (n0 + 1) x0_0 x0_1 x0_2 x0_3 = b0 k (V0 k a0 a1 n0) x0_0 x0_1 x0_2 x0_3 := by kernel_rfl
theorem e0 (n0 : Nat) : V0 k a0 a1 n0 = l0 k n0 := loop_eq (V := V0 k a0 a1) (l := l0 k) rfl (fun n0 => funext fun x0_0 => funext fun x0_1 => funext fun x0_2 => funext fun x0_3 => s0 k a0 a1 n0 x0_0 x0_1 x0_2 x0_3) (fun _ => rfl) n0
end
theorem eq (k : Nat) (a0 : List (Ty.den TEntry)) (a1 : Int) : run (E k) Try.f12 [.val (.slice TEntry), .val (.int .i64)] [(.slice .str)] true false (a0, a1, ()) = f k a0 a1 := (show _ = t k (V0 k a0 a1 k) a0 a1 by kernel_rfl).trans (by rw [e0]; rfl)
theorem ctr (k : Nat) : Ctr J Try.prog 12 (C k) :=
  run_ctr (E := E k) rfl mixed tb_ok (eqOk_of tb_eqs) (Cts.cons (impl_Page.ctr k) Cts.nil) (by kernel_rfl) Try.func12 (by kernel_rfl) rfl (fun ⟨a0, a1, _⟩ r h => (eq k a0 a1).trans h)
end impl_Pages
namespace spec_DirKeys
def C (k : Nat) : Cn := ⟨[.val (.slice TEntry)], [(.slice .str)], true, false, fun x => f k x.1⟩
def E (k : Nat) : Env := ⟨tb, [], [(3, [0, 3, 4])], k, 0, []⟩
section
variable (k : Nat) (a0 : List (Ty.den TEntry))
noncomputable def K0 : Ex → St → Option ((List ByteArray) × Unit) := runK (E k) (endK (E k) Try.f13.results.toList [.val (.slice TEntry)] (a0, ()) [(.slice .str)] true false) [.blk 0, .code (at_ (bt 3 7) (body Try.f13))]
noncomputable def V0 (n0 : Nat) (x0_0 : List (Ty.den TEntry)) (x0_1 : Int) (x0_2 : List ByteArray) : Option ((List ByteArray) × Unit) := loopN (exec (E k) (at_ (bt 6 11) (body Try.f13))) (canon 0 [0, 3, 4]) (K0 k a0) n0 (mk 21 1 [(0, .sl true TEntry x0_0), (3, .ref 0), (4, .int .i64 x0_1)] [(0, .own false .str x0_2)])
theorem s0 (n0 : Nat) (x0_0 : List (Ty.den TEntry)) (x0_1 : Int) (x0_2 : List ByteArray) : V0 k a0 (n0 + 1) x0_0 x0_1 x0_2 = b0 k (V0 k a0 n0) x0_0 x0_1 x0_2 := by kernel_rfl
theorem e0 (n0 : Nat) : V0 k a0 n0 = l0 k n0 := loop_eq (V := V0 k a0) (l := l0 k) rfl (fun n0 => funext fun x0_0 => funext fun x0_1 => funext fun x0_2 => s0 k a0 n0 x0_0 x0_1 x0_2) (fun _ => rfl) n0
end
theorem eq (k : Nat) (a0 : List (Ty.den TEntry)) : run (E k) Try.f13 [.val (.slice TEntry)] [(.slice .str)] true false (a0, ()) = f k a0 := (show _ = t k (V0 k a0 k) a0 by kernel_rfl).trans (by rw [e0]; rfl)
theorem ctr (k : Nat) : Ctr J Try.prog 13 (C k) :=
  run_ctr (E := E k) rfl mixed tb_ok (eqOk_of tb_eqs) Cts.nil (by kernel_rfl) Try.func13 (by kernel_rfl) rfl (fun ⟨a0, _⟩ r h => (eq k a0).trans h)
end spec_DirKeys
namespace laws_sameTexts
def C (k : Nat) : Cn := ⟨[.val (.slice .str), .val (.slice .str)], [.bool], true, false, fun x => f k x.1 x.2.1⟩
def E (k : Nat) : Env := ⟨tb, [], [(4, [0, 1, 5])], k, 0, []⟩
section
variable (k : Nat) (a0 : List ByteArray) (a1 : List ByteArray)
noncomputable def K0 : Ex → St → Option (Bool × Unit) := runK (E k) (endK (E k) Try.f11.results.toList [.val (.slice .str), .val (.slice .str)] (a0, a1, ()) [.bool] true false) [.blk 0, .code (at_ (bt 3 7) (body Try.f11))]
noncomputable def V0 (n0 : Nat) (x0_0 : List ByteArray) (x0_1 : List ByteArray) (x0_2 : Int) : Option (Bool × Unit) := loopN (exec (E k) (at_ (bt 6 11) (body Try.f11))) (canon 0 [0, 1, 5]) (K0 k a0 a1) n0 (mk 26 0 [(0, .sl true .str x0_0), (1, .sl true .str x0_1), (5, .int .i64 x0_2)] [])
theorem s0 (n0 : Nat) (x0_0 : List ByteArray) (x0_1 : List ByteArray) (x0_2 : Int) : V0 k a0 a1 (n0 + 1) x0_0 x0_1 x0_2 = b0 k (V0 k a0 a1 n0) x0_0 x0_1 x0_2 := by kernel_rfl
theorem e0 (n0 : Nat) : V0 k a0 a1 n0 = l0 k n0 := loop_eq (V := V0 k a0 a1) (l := l0 k) rfl (fun n0 => funext fun x0_0 => funext fun x0_1 => funext fun x0_2 => s0 k a0 a1 n0 x0_0 x0_1 x0_2) (fun _ => rfl) n0
end
theorem eq (k : Nat) (a0 : List ByteArray) (a1 : List ByteArray) : run (E k) Try.f11 [.val (.slice .str), .val (.slice .str)] [.bool] true false (a0, a1, ()) = f k a0 a1 := (show _ = t k (V0 k a0 a1 k) a0 a1 by kernel_rfl).trans (by rw [e0]; rfl)
theorem ctr (k : Nat) : Ctr J Try.prog 11 (C k) :=
  run_ctr (E := E k) rfl mixed tb_ok (eqOk_of tb_eqs) Cts.nil (by kernel_rfl) Try.func11 (by kernel_rfl) rfl (fun ⟨a0, a1, _⟩ r h => (eq k a0 a1).trans h)
end laws_sameTexts
namespace laws_FnPages
def C (k : Nat) : Cn := ⟨[.val (.slice (.int .u8))], [.bool], true, false, fun x => f k x.1⟩
def E (k : Nat) : Env := ⟨tb, [(4, laws_big.C k), (5, spec_DrawRangeOf.C k), (6, spec_DirOk.C k), (7, laws_at.C k), (8, impl_Page.C k), (9, impl_RangeOf.C k), (10, spec_DirGet.C k), (12, impl_Pages.C k), (13, spec_DirKeys.C k), (11, laws_sameTexts.C k)], [(10, [3, 4, 5, 6, 7, 8, 9, 10])], k, 0, []⟩
section
variable (k : Nat) (a0 : List Int)
noncomputable def K0 : Ex → St → Option (Bool × Unit) := runK (E k) (endK (E k) Try.f3.results.toList [.val (.slice (.int .u8))] (a0, ()) [.bool] true false) [.blk 0, .code (at_ (bt 8 255) (body Try.f3))]
noncomputable def V0 (n0 : Nat) (x0_0 : ByteArray) (x0_1 : ByteArray) (x0_2 : Int) (x0_3 : ByteArray) (x0_4 : Int) (x0_5 : List (Ty.den TEntry)) (x0_6 : List ByteArray) (x0_7 : List ByteArray) : Option (Bool × Unit) := loopN (exec (E k) (at_ (bt 11 383) (body Try.f3))) (canon 0 [3, 4, 5, 6, 7, 8, 9, 10]) (K0 k a0) n0 (mk 158 3 [(3, .ref 0), (4, .str x0_0), (5, .str x0_1), (6, .int .i64 x0_2), (7, .ref 1), (8, .str x0_3), (9, .ref 2), (10, .int .i64 x0_4)] [(0, .own false TEntry x0_5), (1, .own false .str x0_6), (2, .own false .str x0_7)])
theorem s0 (n0 : Nat) (x0_0 : ByteArray) (x0_1 : ByteArray) (x0_2 : Int) (x0_3 : ByteArray) (x0_4 : Int) (x0_5 : List (Ty.den TEntry)) (x0_6 : List ByteArray) (x0_7 : List ByteArray) : V0 k a0 (n0 + 1) x0_0 x0_1 x0_2 x0_3 x0_4 x0_5 x0_6 x0_7 = b0 k (V0 k a0 n0) x0_0 x0_1 x0_2 x0_3 x0_4 x0_5 x0_6 x0_7 := by kernel_rfl
theorem e0 (n0 : Nat) : V0 k a0 n0 = l0 k n0 := loop_eq (V := V0 k a0) (l := l0 k) rfl (fun n0 => funext fun x0_0 => funext fun x0_1 => funext fun x0_2 => funext fun x0_3 => funext fun x0_4 => funext fun x0_5 => funext fun x0_6 => funext fun x0_7 => s0 k a0 n0 x0_0 x0_1 x0_2 x0_3 x0_4 x0_5 x0_6 x0_7) (fun _ => rfl) n0
end
theorem eq (k : Nat) (a0 : List Int) : run (E k) Try.f3 [.val (.slice (.int .u8))] [.bool] true false (a0, ()) = f k a0 := (show _ = t k (V0 k a0 k) a0 by kernel_rfl).trans (by rw [e0]; rfl)
theorem ctr (k : Nat) : Ctr J Try.prog 3 (C k) :=
  run_ctr (E := E k) rfl mixed tb_ok (eqOk_of tb_eqs) (Cts.cons (laws_big.ctr k) (Cts.cons (spec_DrawRangeOf.ctr k) (Cts.cons (spec_DirOk.ctr k) (Cts.cons (laws_at.ctr k) (Cts.cons (impl_Page.ctr k) (Cts.cons (impl_RangeOf.ctr k) (Cts.cons (spec_DirGet.ctr k) (Cts.cons (impl_Pages.ctr k) (Cts.cons (spec_DirKeys.ctr k) (Cts.cons (laws_sameTexts.ctr k) Cts.nil)))))))))) (by kernel_rfl) Try.func3 (by kernel_rfl) rfl (fun ⟨a0, _⟩ r h => (eq k a0).trans h)
end laws_FnPages
end Go.Proofs.Ytegeiflafmpefaa.G

/- Functions keep their contracts. -/
import Derived.Test.YtccccehgfmphjaaDoorVTab
import Derived.Test.YtccccehgfmphjaaDoorFA
import Derived.Test.YtccccehgfmphjaaDoorCLib
set_option linter.unusedVariables false
set_option maxRecDepth 100000
namespace Go.Proofs.YtccccehgfmphjaaDoor.G
open Go.V
namespace laws_big
def C (k : Nat) : Cn := ⟨[.val (.slice (.int .u8))], [.bool], true, false, fun x => f k x.1⟩
def E (k : Nat) : Env := ⟨tb, [], [], k, 0, []⟩
theorem eq (k : Nat) (a0 : List Int) : run (E k) Tryd.f4 [.val (.slice (.int .u8))] [.bool] true false (a0, ()) = f k a0 := by kernel_rfl
theorem ctr (k : Nat) : Ctr J Tryd.prog 4 (C k) :=
  run_ctr (E := E k) rfl mixed tb_ok (eqOk_of tb_eqs) Cts.nil (by kernel_rfl) Tryd.func4 (by kernel_rfl) rfl (fun ⟨a0, _⟩ r h => (eq k a0).trans h)
end laws_big
namespace spec_l1New
def C (k : Nat) : Cn := ⟨[.val (.slice (.int .u8))], [.opq, Tl1Cur], false, true, fun x => f k x.1⟩
def E (k : Nat) : Env := ⟨tb, [], [(3, [0, 3, 4])], k, 0, []⟩
section
variable (k : Nat) (a0 : List Int)
noncomputable def K0 : Ex → St → Option (Unit × (Ty.den Tl1Cur) × Unit) := runK (E k) (endB (E k) Tryd.f20.results.toList [.val (.slice (.int .u8))] (a0, ()) [.opq, Tl1Cur]) [.blk 0, .code (at_ (bt 3 7) (body Tryd.f20))]
noncomputable def V0 (n0 : Nat) (x0_0 : List Int) (x0_1 : Int) (x0_2 : Int) : Option (Unit × (Ty.den Tl1Cur) × Unit) := loopN (exec (E k) (at_ (bt 6 11) (body Tryd.f20))) (canon 0 [0, 3, 4]) (K0 k a0) n0 (mk 32 0 [(0, .sl true (.int .u8) x0_0), (3, .int .i64 x0_1), (4, .int .i64 x0_2)] [])
theorem s0 (n0 : Nat) (x0_0 : List Int) (x0_1 : Int) (x0_2 : Int) : V0 k a0 (n0 + 1) x0_0 x0_1 x0_2 = b0 k (V0 k a0 n0) x0_0 x0_1 x0_2 := by kernel_rfl
theorem e0 (n0 : Nat) : V0 k a0 n0 = l0 k n0 := loop_eq (V := V0 k a0) (l := l0 k) rfl (fun n0 => funext fun x0_0 => funext fun x0_1 => funext fun x0_2 => s0 k a0 n0 x0_0 x0_1 x0_2) (fun _ => rfl) n0
end
theorem eq (k : Nat) (a0 : List Int) : runB (E k) Tryd.f20 [.val (.slice (.int .u8))] [.opq, Tl1Cur] (a0, ()) = f k a0 := (show _ = t k (V0 k a0 k) a0 by kernel_rfl).trans (by rw [e0]; rfl)
theorem ctr (k : Nat) : Ctr J Tryd.prog 20 (C k) :=
  run_box (E := E k) rfl mixed tb_ok (eqOk_of tb_eqs) Cts.nil (by kernel_rfl) Tryd.func20 (by kernel_rfl) rfl (fun ⟨a0, _⟩ r h => (eq k a0).trans h)
end spec_l1New
namespace spec_l1Byte
def C (k : Nat) : Cn := ⟨[.io false Tl1Cur], [(.int .i64)], true, true, fun x => f k x.1⟩
def E (k : Nat) : Env := ⟨tb, [], [], k, 1, []⟩
theorem eq (k : Nat) (a0 : Ty.den Tl1Cur) : run (E k) Tryd.f56 [.io false Tl1Cur] [(.int .i64)] true true (a0, ()) = f k a0 := by kernel_rfl
theorem ctr (k : Nat) : Ctr J Tryd.prog 56 (C k) :=
  run_ctr (E := E k) rfl mixed tb_ok (eqOk_of tb_eqs) Cts.nil (by kernel_rfl) Tryd.func56 (by kernel_rfl) rfl (fun ⟨a0, _⟩ r h => (eq k a0).trans h)
end spec_l1Byte
namespace spec_l1Below
def C (k : Nat) : Cn := ⟨[.io false Tl1Cur, .val (.int .i64)], [(.int .i64)], true, true, fun x => f k x.1 x.2.1⟩
def E (k : Nat) : Env := ⟨tb, [(56, spec_l1Byte.C k)], [], k, 1, []⟩
theorem eq (k : Nat) (a0 : Ty.den Tl1Cur) (a1 : Int) : run (E k) Tryd.f41 [.io false Tl1Cur, .val (.int .i64)] [(.int .i64)] true true (a0, a1, ()) = f k a0 a1 := by kernel_rfl
theorem ctr (k : Nat) : Ctr J Tryd.prog 41 (C k) :=
  run_ctr (E := E k) rfl mixed tb_ok (eqOk_of tb_eqs) (Cts.cons (spec_l1Byte.ctr k) Cts.nil) (by kernel_rfl) Tryd.func41 (by kernel_rfl) rfl (fun ⟨a0, a1, _⟩ r h => (eq k a0 a1).trans h)
end spec_l1Below
namespace spec_l7Live
def C (k : Nat) : Cn := ⟨[.io false Tl1Cur], [TLive], true, true, fun x => f k x.1⟩
def E (k : Nat) : Env := ⟨tb, [(41, spec_l1Below.C k)], [(4, [0, 2, 3, 4, 5])], k, 1, []⟩
section
variable (k : Nat) (a0 : Ty.den Tl1Cur)
noncomputable def K0 : Ex → St → Option ((Ty.den Tl1Cur) × (Ty.den TLive) × Unit) := runK (E k) (endK (E k) Tryd.f40.results.toList [.io false Tl1Cur] (a0, ()) [TLive] true true) [.blk 0, .code (at_ (bt 4 15) (body Tryd.f40))]
noncomputable def V0 (n0 : Nat) (x0_0 : Int) (x0_1 : Int) (x0_2 : List Int) (x0_3 : Int) (x0_4 : Int) (x0_5 : List Int) (x0_6 : Int) (x0_7 : List Int) (x0_8 : Int) : Option ((Ty.den Tl1Cur) × (Ty.den TLive) × Unit) := loopN (exec (E k) (at_ (bt 7 23) (body Tryd.f40))) (canon 1 [0, 2, 3, 4, 5]) (K0 k a0) n0 (mk 32 5 [(0, .ptr 0 0 0), (2, .ptr 1 0 0), (3, .ptr 3 0 0), (4, .int .i64 x0_0), (5, .int .i64 x0_1)] [(0, .box [.sl true (.int .u8) x0_2, .int .i64 x0_3, .int .i64 x0_4]), (2, .own false (.int .i64) x0_5), (1, .box [.int .i64 x0_6, .ref 2]), (4, .own false (.int .i64) x0_7), (3, .box [.int .i64 x0_8, .ref 4])])
theorem s0 (n0 : Nat) (x0_0 : Int) (x0_1 : Int) (x0_2 : List Int) (x0_3 : Int) (x0_4 : Int) (x0_5 : List Int) (x0_6 : Int) (x0_7 : List Int) (x0_8 : Int) : V0 k a0 (n0 + 1) x0_0 x0_1 x0_2 x0_3 x0_4 x0_5 x0_6 x0_7 x0_8 = b0 k (V0 k a0 n0) x0_0 x0_1 x0_2 x0_3 x0_4 x0_5 x0_6 x0_7 x0_8 := by kernel_rfl
theorem e0 (n0 : Nat) : V0 k a0 n0 = l0 k n0 := loop_eq (V := V0 k a0) (l := l0 k) rfl (fun n0 => funext fun x0_0 => funext fun x0_1 => funext fun x0_2 => funext fun x0_3 => funext fun x0_4 => funext fun x0_5 => funext fun x0_6 => funext fun x0_7 => funext fun x0_8 => s0 k a0 n0 x0_0 x0_1 x0_2 x0_3 x0_4 x0_5 x0_6 x0_7 x0_8) (fun _ => rfl) n0
end
theorem eq (k : Nat) (a0 : Ty.den Tl1Cur) : run (E k) Tryd.f40 [.io false Tl1Cur] [TLive] true true (a0, ()) = f k a0 := (show _ = t k (V0 k a0 k) a0 by kernel_rfl).trans (by rw [e0]; rfl)
theorem ctr (k : Nat) : Ctr J Tryd.prog 40 (C k) :=
  run_ctr (E := E k) rfl mixed tb_ok (eqOk_of tb_eqs) (Cts.cons (spec_l1Below.ctr k) Cts.nil) (by kernel_rfl) Tryd.func40 (by kernel_rfl) rfl (fun ⟨a0, _⟩ r h => (eq k a0).trans h)
end spec_l7Live
namespace spec_l1PickInt
def C (k : Nat) : Cn := ⟨[.io false Tl1Cur, .val (.slice (.int .i64))], [(.int .i64)], true, true, fun x => f k x.1 x.2.1⟩
def E (k : Nat) : Env := ⟨tb, [(41, spec_l1Below.C k)], [], k, 1, []⟩
theorem eq (k : Nat) (a0 : Ty.den Tl1Cur) (a1 : List Int) : run (E k) Tryd.f28 [.io false Tl1Cur, .val (.slice (.int .i64))] [(.int .i64)] true true (a0, a1, ()) = f k a0 a1 := by kernel_rfl
theorem ctr (k : Nat) : Ctr J Tryd.prog 28 (C k) :=
  run_ctr (E := E k) rfl mixed tb_ok (eqOk_of tb_eqs) (Cts.cons (spec_l1Below.ctr k) Cts.nil) (by kernel_rfl) Tryd.func28 (by kernel_rfl) rfl (fun ⟨a0, a1, _⟩ r h => (eq k a0 a1).trans h)
end spec_l1PickInt
namespace spec_l7Any
def C (k : Nat) : Cn := ⟨[.io false Tl1Cur], [TLive], true, true, fun x => f k x.1⟩
def E (k : Nat) : Env := ⟨tb, [(40, spec_l7Live.C k), (41, spec_l1Below.C k), (28, spec_l1PickInt.C k)], [(10, [0, 2, 3])], k, 1, []⟩
section
variable (k : Nat) (a0 : Ty.den Tl1Cur)
noncomputable def K0 : Ex → St → Option ((Ty.den Tl1Cur) × (Ty.den TLive) × Unit) := runK (E k) (endK (E k) Tryd.f21.results.toList [.io false Tl1Cur] (a0, ()) [TLive] true true) [.blk 1, .code (at_ (bt 14 12267) (body Tryd.f21)), .blk 0, .code (at_ (bt 3 7) (body Tryd.f21))]
noncomputable def V0 (n0 : Nat) (x0_0 : List Int) (x0_1 : Int) (x0_2 : Int) (x0_3 : List Int) (x0_4 : Int) (x0_5 : List Int) (x0_6 : Int) : Option ((Ty.den Tl1Cur) × (Ty.den TLive) × Unit) := loopN (exec (E k) (at_ (bt 16 4075) (body Tryd.f21))) (canon 1 [0, 2, 3]) (K0 k a0) n0 (mk 51 5 [(0, .ptr 0 0 0), (2, .ptr 1 0 0), (3, .ptr 3 0 0)] [(0, .box [.sl true (.int .u8) x0_0, .int .i64 x0_1, .int .i64 x0_2]), (2, .own false (.int .i64) x0_3), (1, .box [.int .i64 x0_4, .ref 2]), (4, .own false (.int .i64) x0_5), (3, .box [.int .i64 x0_6, .ref 4])])
theorem s0 (n0 : Nat) (x0_0 : List Int) (x0_1 : Int) (x0_2 : Int) (x0_3 : List Int) (x0_4 : Int) (x0_5 : List Int) (x0_6 : Int) : V0 k a0 (n0 + 1) x0_0 x0_1 x0_2 x0_3 x0_4 x0_5 x0_6 = b0 k (V0 k a0 n0) x0_0 x0_1 x0_2 x0_3 x0_4 x0_5 x0_6 := by kernel_rfl
theorem e0 (n0 : Nat) : V0 k a0 n0 = l0 k n0 := loop_eq (V := V0 k a0) (l := l0 k) rfl (fun n0 => funext fun x0_0 => funext fun x0_1 => funext fun x0_2 => funext fun x0_3 => funext fun x0_4 => funext fun x0_5 => funext fun x0_6 => s0 k a0 n0 x0_0 x0_1 x0_2 x0_3 x0_4 x0_5 x0_6) (fun _ => rfl) n0
end
theorem eq (k : Nat) (a0 : Ty.den Tl1Cur) : run (E k) Tryd.f21 [.io false Tl1Cur] [TLive] true true (a0, ()) = f k a0 := (show _ = t k (V0 k a0 k) a0 by kernel_rfl).trans (by rw [e0]; rfl)
theorem ctr (k : Nat) : Ctr J Tryd.prog 21 (C k) :=
  run_ctr (E := E k) rfl mixed tb_ok (eqOk_of tb_eqs) (Cts.cons (spec_l7Live.ctr k) (Cts.cons (spec_l1Below.ctr k) (Cts.cons (spec_l1PickInt.ctr k) Cts.nil))) (by kernel_rfl) Tryd.func21 (by kernel_rfl) rfl (fun ⟨a0, _⟩ r h => (eq k a0).trans h)
end spec_l7Any
namespace spec_DrawShowLive
def C (k : Nat) : Cn := ⟨[.val (.slice (.int .u8))], [TLive], true, false, fun x => f k x.1⟩
def E (k : Nat) : Env := ⟨tb, [(20, spec_l1New.C k), (21, spec_l7Any.C k)], [], k, 0, []⟩
theorem eq (k : Nat) (a0 : List Int) : run (E k) Tryd.f5 [.val (.slice (.int .u8))] [TLive] true false (a0, ()) = f k a0 := by kernel_rfl
theorem ctr (k : Nat) : Ctr J Tryd.prog 5 (C k) :=
  run_ctr (E := E k) rfl mixed tb_ok (eqOk_of tb_eqs) (Cts.cons (spec_l1New.ctr k) (Cts.cons (spec_l7Any.ctr k) Cts.nil)) (by kernel_rfl) Tryd.func5 (by kernel_rfl) rfl (fun ⟨a0, _⟩ r h => (eq k a0).trans h)
end spec_DrawShowLive
namespace impl_in
def C (k : Nat) : Cn := ⟨[.val (.int .i64), .val (.int .i64), .val (.int .i64)], [.bool], true, false, fun x => f k x.1 x.2.1 x.2.2.1⟩
def E (k : Nat) : Env := ⟨tb, [], [], k, 0, []⟩
theorem eq (k : Nat) (a0 : Int) (a1 : Int) (a2 : Int) : run (E k) Tryd.f31 [.val (.int .i64), .val (.int .i64), .val (.int .i64)] [.bool] true false (a0, a1, a2, ()) = f k a0 a1 a2 := by kernel_rfl
theorem ctr (k : Nat) : Ctr J Tryd.prog 31 (C k) :=
  run_ctr (E := E k) rfl mixed tb_ok (eqOk_of tb_eqs) Cts.nil (by kernel_rfl) Tryd.func31 (by kernel_rfl) rfl (fun ⟨a0, a1, a2, _⟩ r h => (eq k a0 a1 a2).trans h)
end impl_in
namespace impl_LiveOk
def C (k : Nat) : Cn := ⟨[.val TLive], [.bool], true, false, fun x => f k x.1⟩
def E (k : Nat) : Env := ⟨tb, [(31, impl_in.C k)], [(2, [1, 6, 7, 8])], k, 0, []⟩
section
variable (k : Nat) (a0 : Ty.den TLive)
noncomputable def K0 : Ex → St → Option (Bool × Unit) := runK (E k) (endK (E k) Tryd.f22.results.toList [.val TLive] (a0, ()) [.bool] true false) [.blk 0, .code (at_ (bt 2 3) (body Tryd.f22))]
noncomputable def V0 (n0 : Nat) (x0_0 : List Int) (x0_1 : Int) (x0_2 : Int) (x0_3 : Int) (x0_4 : List Int) : Option (Bool × Unit) := loopN (exec (E k) (at_ (bt 5 5) (body Tryd.f22))) (canon 0 [1, 6, 7, 8]) (K0 k a0) n0 (mk 43 1 [(1, .ptr 0 0 0), (6, .sl true (.int .i64) x0_0), (7, .int .i64 x0_1), (8, .int .i64 x0_2)] [(0, .box [.int .i64 x0_3, .sl true (.int .i64) x0_4])])
theorem s0 (n0 : Nat) (x0_0 : List Int) (x0_1 : Int) (x0_2 : Int) (x0_3 : Int) (x0_4 : List Int) : V0 k a0 (n0 + 1) x0_0 x0_1 x0_2 x0_3 x0_4 = b0 k (V0 k a0 n0) x0_0 x0_1 x0_2 x0_3 x0_4 := by kernel_rfl
theorem e0 (n0 : Nat) : V0 k a0 n0 = l0 k n0 := loop_eq (V := V0 k a0) (l := l0 k) rfl (fun n0 => funext fun x0_0 => funext fun x0_1 => funext fun x0_2 => funext fun x0_3 => funext fun x0_4 => s0 k a0 n0 x0_0 x0_1 x0_2 x0_3 x0_4) (fun _ => rfl) n0
end
theorem eq (k : Nat) (a0 : Ty.den TLive) : run (E k) Tryd.f22 [.val TLive] [.bool] true false (a0, ()) = f k a0 := (show _ = t k (V0 k a0 k) a0 by kernel_rfl).trans (by rw [e0]; rfl)
theorem ctr (k : Nat) : Ctr J Tryd.prog 22 (C k) :=
  run_ctr (E := E k) rfl mixed tb_ok (eqOk_of tb_eqs) (Cts.cons (impl_in.ctr k) Cts.nil) (by kernel_rfl) Tryd.func22 (by kernel_rfl) rfl (fun ⟨a0, _⟩ r h => (eq k a0).trans h)
end impl_LiveOk
namespace impl_Var
def C (k : Nat) : Cn := ⟨[.val (.int .i64)], [.str], true, false, fun x => f k x.1⟩
def E (k : Nat) : Env := ⟨tb, [(31, impl_in.C k)], [(4, [0, 3])], k, 0, []⟩
section
variable (k : Nat) (a0 : Int)
noncomputable def K0 : Ex → St → Option (ByteArray × Unit) := runK (E k) (endK (E k) Tryd.f45.results.toList [.val (.int .i64)] (a0, ()) [.str] true false) [.blk 0, .code (at_ (bt 4 15) (body Tryd.f45))]
noncomputable def V0 (n0 : Nat) (x0_0 : Int) (x0_1 : List Int) : Option (ByteArray × Unit) := loopN (exec (E k) (at_ (bt 6 7) (body Tryd.f45))) (canon 0 [0, 3]) (K0 k a0) n0 (mk 24 1 [(0, .int .i64 x0_0), (3, .ref 0)] [(0, .own false (.int .u8) x0_1)])
theorem s0 (n0 : Nat) (x0_0 : Int) (x0_1 : List Int) : V0 k a0 (n0 + 1) x0_0 x0_1 = b0 k (V0 k a0 n0) x0_0 x0_1 := by kernel_rfl
theorem e0 (n0 : Nat) : V0 k a0 n0 = l0 k n0 := loop_eq (V := V0 k a0) (l := l0 k) rfl (fun n0 => funext fun x0_0 => funext fun x0_1 => s0 k a0 n0 x0_0 x0_1) (fun _ => rfl) n0
end
theorem eq (k : Nat) (a0 : Int) : run (E k) Tryd.f45 [.val (.int .i64)] [.str] true false (a0, ()) = f k a0 := (show _ = t k (V0 k a0 k) a0 by kernel_rfl).trans (by rw [e0]; rfl)
theorem ctr (k : Nat) : Ctr J Tryd.prog 45 (C k) :=
  run_ctr (E := E k) rfl mixed tb_ok (eqOk_of tb_eqs) (Cts.cons (impl_in.ctr k) Cts.nil) (by kernel_rfl) Tryd.func45 (by kernel_rfl) rfl (fun ⟨a0, _⟩ r h => (eq k a0).trans h)
end impl_Var
namespace impl_vars
def C (k : Nat) : Cn := ⟨[.val (.slice (.int .i64))], [.str], true, false, fun x => f k x.1⟩
def E (k : Nat) : Env := ⟨tb, [(45, impl_Var.C k)], [(3, [3, 6, 7, 8])], k, 0, []⟩
section
variable (k : Nat) (a0 : List Int)
noncomputable def K0 : Ex → St → Option (ByteArray × Unit) := runK (E k) (endK (E k) Tryd.f24.results.toList [.val (.slice (.int .i64))] (a0, ()) [.str] true false) [.blk 0, .code (at_ (bt 3 7) (body Tryd.f24))]
noncomputable def V0 (n0 : Nat) (x0_0 : ByteArray) (x0_1 : List Int) (x0_2 : Int) (x0_3 : Int) : Option (ByteArray × Unit) := loopN (exec (E k) (at_ (bt 6 11) (body Tryd.f24))) (canon 0 [3, 6, 7, 8]) (K0 k a0) n0 (mk 18 0 [(3, .str x0_0), (6, .sl true (.int .i64) x0_1), (7, .int .i64 x0_2), (8, .int .i64 x0_3)] [])
theorem s0 (n0 : Nat) (x0_0 : ByteArray) (x0_1 : List Int) (x0_2 : Int) (x0_3 : Int) : V0 k a0 (n0 + 1) x0_0 x0_1 x0_2 x0_3 = b0 k (V0 k a0 n0) x0_0 x0_1 x0_2 x0_3 := by kernel_rfl
theorem e0 (n0 : Nat) : V0 k a0 n0 = l0 k n0 := loop_eq (V := V0 k a0) (l := l0 k) rfl (fun n0 => funext fun x0_0 => funext fun x0_1 => funext fun x0_2 => funext fun x0_3 => s0 k a0 n0 x0_0 x0_1 x0_2 x0_3) (fun _ => rfl) n0
end
theorem eq (k : Nat) (a0 : List Int) : run (E k) Tryd.f24 [.val (.slice (.int .i64))] [.str] true false (a0, ()) = f k a0 := (show _ = t k (V0 k a0 k) a0 by kernel_rfl).trans (by rw [e0]; rfl)
theorem ctr (k : Nat) : Ctr J Tryd.prog 24 (C k) :=
  run_ctr (E := E k) rfl mixed tb_ok (eqOk_of tb_eqs) (Cts.cons (impl_Var.ctr k) Cts.nil) (by kernel_rfl) Tryd.func24 (by kernel_rfl) rfl (fun ⟨a0, _⟩ r h => (eq k a0).trans h)
end impl_vars
namespace impl_textOf
def C (k : Nat) : Cn := ⟨[.val .str], [.str], true, false, fun x => f k x.1⟩
def E (k : Nat) : Env := ⟨tb, [(45, impl_Var.C k)], [], k, 0, []⟩
theorem eq (k : Nat) (a0 : ByteArray) : run (E k) Tryd.f42 [.val .str] [.str] true false (a0, ()) = f k a0 := by kernel_rfl
theorem ctr (k : Nat) : Ctr J Tryd.prog 42 (C k) :=
  run_ctr (E := E k) rfl mixed tb_ok (eqOk_of tb_eqs) (Cts.cons (impl_Var.ctr k) Cts.nil) (by kernel_rfl) Tryd.func42 (by kernel_rfl) rfl (fun ⟨a0, _⟩ r h => (eq k a0).trans h)
end impl_textOf
namespace impl_Crc
def C (k : Nat) : Cn := ⟨[.val .str], [(.int .i64)], true, false, fun x => f k x.1⟩
def E (k : Nat) : Env := ⟨tb, [], [(3, [0, 3, 4]), (7, [0, 3, 4, 18])], k, 0, []⟩
section
variable (k : Nat) (a0 : ByteArray)
noncomputable def K0 : Ex → St → Option (Int × Unit) := runK (E k) (endK (E k) Tryd.f44.results.toList [.val .str] (a0, ()) [(.int .i64)] true false) [.blk 0, .code (at_ (bt 3 7) (body Tryd.f44))]
noncomputable def B0 (n0 : Nat) : Ex → St → Option (Int × Unit) := lpK (E k) (at_ (bt 6 11) (body Tryd.f44)) 0 [0, 3, 4] (K0 k a0) n0
noncomputable def K1 (n0 : Nat) : Ex → St → Option (Int × Unit) := runK (E k) (B0 k a0 n0) [.blk 2, .blk 1, .code (at_ (bt 8 203) (body Tryd.f44))]
noncomputable def V0 (n0 : Nat) (x0_0 : ByteArray) (x0_1 : Int) (x0_2 : Int) : Option (Int × Unit) := loopN (exec (E k) (at_ (bt 6 11) (body Tryd.f44))) (canon 0 [0, 3, 4]) (K0 k a0) n0 (mk 32 0 [(0, .str x0_0), (3, .int .u32 x0_1), (4, .int .i64 x0_2)] [])
noncomputable def V1 (n0 n1 : Nat) (x1_0 : ByteArray) (x1_1 : Int) (x1_2 : Int) (x1_3 : Int) : Option (Int × Unit) := loopN (exec (E k) (at_ (bt 13 1611) (body Tryd.f44))) (canon 0 [0, 3, 4, 18]) (K1 k a0 n0) n1 (mk 32 0 [(0, .str x1_0), (3, .int .u32 x1_1), (4, .int .i64 x1_2), (18, .int .i64 x1_3)] [])
theorem s0 (n0 : Nat) (x0_0 : ByteArray) (x0_1 : Int) (x0_2 : Int) : V0 k a0 (n0 + 1) x0_0 x0_1 x0_2 = b0 k (V1 k a0 n0 k) (V0 k a0 n0) x0_0 x0_1 x0_2 := by kernel_rfl
theorem s1 (n0 n1 : Nat) (x1_0 : ByteArray) (x1_1 : Int) (x1_2 : Int) (x1_3 : Int) : V1 k a0 n0 (n1 + 1) x1_0 x1_1 x1_2 x1_3 = b1 k (V0 k a0 n0) (V1 k a0 n0 n1) x1_0 x1_1 x1_2 x1_3 := by kernel_rfl
theorem e1 (n0 n1 : Nat) : V1 k a0 n0 n1 = l1 k (V0 k a0 n0) n1 := loop_eq (V := V1 k a0 n0) (l := l1 k (V0 k a0 n0)) rfl (fun n1 => funext fun x1_0 => funext fun x1_1 => funext fun x1_2 => funext fun x1_3 => s1 k a0 n0 n1 x1_0 x1_1 x1_2 x1_3) (fun _ => rfl) n1
theorem e0 (n0 : Nat) : V0 k a0 n0 = l0 k n0 := by
  induction n0 with
  | zero => rfl
  | succ n0 ih =>
    have h : V0 k a0 (n0 + 1) = b0 k (V1 k a0 n0 k) (V0 k a0 n0) := funext fun x0_0 => funext fun x0_1 => funext fun x0_2 => s0 k a0 n0 x0_0 x0_1 x0_2
    rw [h, e1, ih]
    rfl
end
theorem eq (k : Nat) (a0 : ByteArray) : run (E k) Tryd.f44 [.val .str] [(.int .i64)] true false (a0, ()) = f k a0 := (show _ = t k (V0 k a0 k) a0 by kernel_rfl).trans (by rw [e0]; rfl)
theorem ctr (k : Nat) : Ctr J Tryd.prog 44 (C k) :=
  run_ctr (E := E k) rfl mixed tb_ok (eqOk_of tb_eqs) Cts.nil (by kernel_rfl) Tryd.func44 (by kernel_rfl) rfl (fun ⟨a0, _⟩ r h => (eq k a0).trans h)
end impl_Crc
namespace impl_Fixed
def C (k : Nat) : Cn := ⟨[.val (.int .i64), .val (.int .i64)], [.str], true, false, fun x => f k x.1 x.2.1⟩
def E (k : Nat) : Env := ⟨tb, [(31, impl_in.C k)], [(5, [0, 5, 6])], k, 0, []⟩
section
variable (k : Nat) (a0 : Int) (a1 : Int)
noncomputable def K0 : Ex → St → Option (ByteArray × Unit) := runK (E k) (endK (E k) Tryd.f43.results.toList [.val (.int .i64), .val (.int .i64)] (a0, a1, ()) [.str] true false) [.blk 0, .code (at_ (bt 4 15) (body Tryd.f43))]
noncomputable def V0 (n0 : Nat) (x0_0 : Int) (x0_1 : Int) (x0_2 : List Int) : Option (ByteArray × Unit) := loopN (exec (E k) (at_ (bt 7 23) (body Tryd.f43))) (canon 0 [0, 5, 6]) (K0 k a0 a1) n0 (mk 35 1 [(0, .int .i64 x0_0), (5, .ref 0), (6, .int .i64 x0_1)] [(0, .own false (.int .u8) x0_2)])
theorem s0 (n0 : Nat) (x0_0 : Int) (x0_1 : Int) (x0_2 : List Int) : V0 k a0 a1 (n0 + 1) x0_0 x0_1 x0_2 = b0 k (V0 k a0 a1 n0) x0_0 x0_1 x0_2 := by kernel_rfl
theorem e0 (n0 : Nat) : V0 k a0 a1 n0 = l0 k n0 := loop_eq (V := V0 k a0 a1) (l := l0 k) rfl (fun n0 => funext fun x0_0 => funext fun x0_1 => funext fun x0_2 => s0 k a0 a1 n0 x0_0 x0_1 x0_2) (fun _ => rfl) n0
end
theorem eq (k : Nat) (a0 : Int) (a1 : Int) : run (E k) Tryd.f43 [.val (.int .i64), .val (.int .i64)] [.str] true false (a0, a1, ()) = f k a0 a1 := (show _ = t k (V0 k a0 a1 k) a0 a1 by kernel_rfl).trans (by rw [e0]; rfl)
theorem ctr (k : Nat) : Ctr J Tryd.prog 43 (C k) :=
  run_ctr (E := E k) rfl mixed tb_ok (eqOk_of tb_eqs) (Cts.cons (impl_in.ctr k) Cts.nil) (by kernel_rfl) Tryd.func43 (by kernel_rfl) rfl (fun ⟨a0, a1, _⟩ r h => (eq k a0 a1).trans h)
end impl_Fixed
namespace impl_Frame
def C (k : Nat) : Cn := ⟨[.val .str], [.str], true, false, fun x => f k x.1⟩
def E (k : Nat) : Env := ⟨tb, [(42, impl_textOf.C k), (44, impl_Crc.C k), (43, impl_Fixed.C k)], [], k, 0, []⟩
theorem eq (k : Nat) (a0 : ByteArray) : run (E k) Tryd.f23 [.val .str] [.str] true false (a0, ()) = f k a0 := by kernel_rfl
theorem ctr (k : Nat) : Ctr J Tryd.prog 23 (C k) :=
  run_ctr (E := E k) rfl mixed tb_ok (eqOk_of tb_eqs) (Cts.cons (impl_textOf.ctr k) (Cts.cons (impl_Crc.ctr k) (Cts.cons (impl_Fixed.ctr k) Cts.nil))) (by kernel_rfl) Tryd.func23 (by kernel_rfl) rfl (fun ⟨a0, _⟩ r h => (eq k a0).trans h)
end impl_Frame
namespace impl_ShowLive
def C (k : Nat) : Cn := ⟨[.val TLive], [.str], true, false, fun x => f k x.1⟩
def E (k : Nat) : Env := ⟨tb, [(22, impl_LiveOk.C k), (24, impl_vars.C k), (23, impl_Frame.C k)], [], k, 0, []⟩
theorem eq (k : Nat) (a0 : Ty.den TLive) : run (E k) Tryd.f6 [.val TLive] [.str] true false (a0, ()) = f k a0 := by kernel_rfl
theorem ctr (k : Nat) : Ctr J Tryd.prog 6 (C k) :=
  run_ctr (E := E k) rfl mixed tb_ok (eqOk_of tb_eqs) (Cts.cons (impl_LiveOk.ctr k) (Cts.cons (impl_vars.ctr k) (Cts.cons (impl_Frame.ctr k) Cts.nil))) (by kernel_rfl) Tryd.func6 (by kernel_rfl) rfl (fun ⟨a0, _⟩ r h => (eq k a0).trans h)
end impl_ShowLive
namespace impl_ReadVar
def C (k : Nat) : Cn := ⟨[.val .str], [(.int .i64), (.int .i64)], true, false, fun x => f k x.1⟩
def E (k : Nat) : Env := ⟨tb, [], [(3, [0, 4, 5])], k, 0, []⟩
section
variable (k : Nat) (a0 : ByteArray)
noncomputable def K0 : Ex → St → Option (Int × Int × Unit) := runK (E k) (endK (E k) Tryd.f46.results.toList [.val .str] (a0, ()) [(.int .i64), (.int .i64)] true false) [.blk 0, .code (at_ (bt 3 7) (body Tryd.f46))]
noncomputable def V0 (n0 : Nat) (x0_0 : ByteArray) (x0_1 : Int) (x0_2 : Int) : Option (Int × Int × Unit) := loopN (exec (E k) (at_ (bt 6 11) (body Tryd.f46))) (canon 0 [0, 4, 5]) (K0 k a0) n0 (mk 39 0 [(0, .str x0_0), (4, .int .i64 x0_1), (5, .int .i64 x0_2)] [])
theorem s0 (n0 : Nat) (x0_0 : ByteArray) (x0_1 : Int) (x0_2 : Int) : V0 k a0 (n0 + 1) x0_0 x0_1 x0_2 = b0 k (V0 k a0 n0) x0_0 x0_1 x0_2 := by kernel_rfl
theorem e0 (n0 : Nat) : V0 k a0 n0 = l0 k n0 := loop_eq (V := V0 k a0) (l := l0 k) rfl (fun n0 => funext fun x0_0 => funext fun x0_1 => funext fun x0_2 => s0 k a0 n0 x0_0 x0_1 x0_2) (fun _ => rfl) n0
end
theorem eq (k : Nat) (a0 : ByteArray) : run (E k) Tryd.f46 [.val .str] [(.int .i64), (.int .i64)] true false (a0, ()) = f k a0 := (show _ = t k (V0 k a0 k) a0 by kernel_rfl).trans (by rw [e0]; rfl)
theorem ctr (k : Nat) : Ctr J Tryd.prog 46 (C k) :=
  run_ctr (E := E k) rfl mixed tb_ok (eqOk_of tb_eqs) Cts.nil (by kernel_rfl) Tryd.func46 (by kernel_rfl) rfl (fun ⟨a0, _⟩ r h => (eq k a0).trans h)
end impl_ReadVar
namespace impl_Unframe
def C (k : Nat) : Cn := ⟨[.val .str], [.str, (.int .i64)], true, false, fun x => f k x.1⟩
def E (k : Nat) : Env := ⟨tb, [(46, impl_ReadVar.C k), (23, impl_Frame.C k)], [], k, 0, []⟩
theorem eq (k : Nat) (a0 : ByteArray) : run (E k) Tryd.f25 [.val .str] [.str, (.int .i64)] true false (a0, ()) = f k a0 := by kernel_rfl
theorem ctr (k : Nat) : Ctr J Tryd.prog 25 (C k) :=
  run_ctr (E := E k) rfl mixed tb_ok (eqOk_of tb_eqs) (Cts.cons (impl_ReadVar.ctr k) (Cts.cons (impl_Frame.ctr k) Cts.nil)) (by kernel_rfl) Tryd.func25 (by kernel_rfl) rfl (fun ⟨a0, _⟩ r h => (eq k a0).trans h)
end impl_Unframe
namespace impl_scanner__num
def C (k : Nat) : Cn := ⟨[.io true Tscanner], [(.int .i64)], true, false, fun x => f k x.1⟩
def E (k : Nat) : Env := ⟨tb, [(46, impl_ReadVar.C k)], [], k, 1, []⟩
theorem eq (k : Nat) (a0 : Ty.den Tscanner) : run (E k) Tryd.f26 [.io true Tscanner] [(.int .i64)] true false (a0, ()) = f k a0 := by kernel_rfl
theorem ctr (k : Nat) : Ctr J Tryd.prog 26 (C k) :=
  run_ctr (E := E k) rfl mixed tb_ok (eqOk_of tb_eqs) (Cts.cons (impl_ReadVar.ctr k) Cts.nil) (by kernel_rfl) Tryd.func26 (by kernel_rfl) rfl (fun ⟨a0, _⟩ r h => (eq k a0).trans h)
end impl_scanner__num
namespace impl_ReadLive
def C (k : Nat) : Cn := ⟨[.val .str], [TLive, .bool], true, false, fun x => f k x.1⟩
def E (k : Nat) : Env := ⟨tb, [(25, impl_Unframe.C k), (26, impl_scanner__num.C k), (22, impl_LiveOk.C k)], [(6, [0, 2, 5, 6, 7, 8, 9])], k, 0, []⟩
section
variable (k : Nat) (a0 : ByteArray)
noncomputable def K0 : Ex → St → Option ((Ty.den TLive) × Bool × Unit) := runK (E k) (endK (E k) Tryd.f7.results.toList [.val .str] (a0, ()) [TLive, .bool] true false) [.blk 0, .code (at_ (bt 6 63) (body Tryd.f7))]
noncomputable def V0 (n0 : Nat) (x0_0 : ByteArray) (x0_1 : Int) (x0_2 : Int) (x0_3 : Int) (x0_4 : List Int) (x0_5 : Int) (x0_6 : ByteArray) (x0_7 : Bool) (x0_8 : List Int) (x0_9 : Int) : Option ((Ty.den TLive) × Bool × Unit) := loopN (exec (E k) (at_ (bt 9 95) (body Tryd.f7))) (canon 0 [0, 2, 5, 6, 7, 8, 9]) (K0 k a0) n0 (mk 72 5 [(0, .str x0_0), (2, .ptr 0 0 0), (5, .int .i64 x0_1), (6, .ptr 2 0 0), (7, .ptr 3 0 0), (8, .int .i64 x0_2), (9, .int .i64 x0_3)] [(1, .own false (.int .i64) x0_4), (0, .box [.int .i64 x0_5, .ref 1]), (2, .box [.str x0_6, .bool x0_7]), (4, .own false (.int .i64) x0_8), (3, .box [.int .i64 x0_9, .ref 4])])
theorem s0 (n0 : Nat) (x0_0 : ByteArray) (x0_1 : Int) (x0_2 : Int) (x0_3 : Int) (x0_4 : List Int) (x0_5 : Int) (x0_6 : ByteArray) (x0_7 : Bool) (x0_8 : List Int) (x0_9 : Int) : V0 k a0 (n0 + 1) x0_0 x0_1 x0_2 x0_3 x0_4 x0_5 x0_6 x0_7 x0_8 x0_9 = b0 k (V0 k a0 n0) x0_0 x0_1 x0_2 x0_3 x0_4 x0_5 x0_6 x0_7 x0_8 x0_9 := by kernel_rfl
theorem e0 (n0 : Nat) : V0 k a0 n0 = l0 k n0 := loop_eq (V := V0 k a0) (l := l0 k) rfl (fun n0 => funext fun x0_0 => funext fun x0_1 => funext fun x0_2 => funext fun x0_3 => funext fun x0_4 => funext fun x0_5 => funext fun x0_6 => funext fun x0_7 => funext fun x0_8 => funext fun x0_9 => s0 k a0 n0 x0_0 x0_1 x0_2 x0_3 x0_4 x0_5 x0_6 x0_7 x0_8 x0_9) (fun _ => rfl) n0
end
theorem eq (k : Nat) (a0 : ByteArray) : run (E k) Tryd.f7 [.val .str] [TLive, .bool] true false (a0, ()) = f k a0 := (show _ = t k (V0 k a0 k) a0 by kernel_rfl).trans (by rw [e0]; rfl)
theorem ctr (k : Nat) : Ctr J Tryd.prog 7 (C k) :=
  run_ctr (E := E k) rfl mixed tb_ok (eqOk_of tb_eqs) (Cts.cons (impl_Unframe.ctr k) (Cts.cons (impl_scanner__num.ctr k) (Cts.cons (impl_LiveOk.ctr k) Cts.nil))) (by kernel_rfl) Tryd.func7 (by kernel_rfl) rfl (fun ⟨a0, _⟩ r h => (eq k a0).trans h)
end impl_ReadLive
namespace spec_l1In
def C (k : Nat) : Cn := ⟨[.val (.int .i64), .val (.int .i64), .val (.int .i64)], [.bool], true, false, fun x => f k x.1 x.2.1 x.2.2.1⟩
def E (k : Nat) : Env := ⟨tb, [], [], k, 0, []⟩
theorem eq (k : Nat) (a0 : Int) (a1 : Int) (a2 : Int) : run (E k) Tryd.f27 [.val (.int .i64), .val (.int .i64), .val (.int .i64)] [.bool] true false (a0, a1, a2, ()) = f k a0 a1 a2 := by kernel_rfl
theorem ctr (k : Nat) : Ctr J Tryd.prog 27 (C k) :=
  run_ctr (E := E k) rfl mixed tb_ok (eqOk_of tb_eqs) Cts.nil (by kernel_rfl) Tryd.func27 (by kernel_rfl) rfl (fun ⟨a0, a1, a2, _⟩ r h => (eq k a0 a1 a2).trans h)
end spec_l1In
namespace spec_LiveOk
def C (k : Nat) : Cn := ⟨[.val TLive], [.bool], true, false, fun x => f k x.1⟩
def E (k : Nat) : Env := ⟨tb, [(27, spec_l1In.C k)], [(4, [1, 3])], k, 0, []⟩
section
variable (k : Nat) (a0 : Ty.den TLive)
noncomputable def K0 : Ex → St → Option (Bool × Unit) := runK (E k) (endK (E k) Tryd.f8.results.toList [.val TLive] (a0, ()) [.bool] true false) [.blk 0, .code (at_ (bt 3 7) (body Tryd.f8))]
noncomputable def V0 (n0 : Nat) (x0_0 : Int) (x0_1 : Int) (x0_2 : List Int) : Option (Bool × Unit) := loopN (exec (E k) (at_ (bt 6 11) (body Tryd.f8))) (canon 0 [1, 3]) (K0 k a0) n0 (mk 50 1 [(1, .ptr 0 0 0), (3, .int .i64 x0_0)] [(0, .box [.int .i64 x0_1, .sl true (.int .i64) x0_2])])
theorem s0 (n0 : Nat) (x0_0 : Int) (x0_1 : Int) (x0_2 : List Int) : V0 k a0 (n0 + 1) x0_0 x0_1 x0_2 = b0 k (V0 k a0 n0) x0_0 x0_1 x0_2 := by kernel_rfl
theorem e0 (n0 : Nat) : V0 k a0 n0 = l0 k n0 := loop_eq (V := V0 k a0) (l := l0 k) rfl (fun n0 => funext fun x0_0 => funext fun x0_1 => funext fun x0_2 => s0 k a0 n0 x0_0 x0_1 x0_2) (fun _ => rfl) n0
end
theorem eq (k : Nat) (a0 : Ty.den TLive) : run (E k) Tryd.f8 [.val TLive] [.bool] true false (a0, ()) = f k a0 := (show _ = t k (V0 k a0 k) a0 by kernel_rfl).trans (by rw [e0]; rfl)
theorem ctr (k : Nat) : Ctr J Tryd.prog 8 (C k) :=
  run_ctr (E := E k) rfl mixed tb_ok (eqOk_of tb_eqs) (Cts.cons (spec_l1In.ctr k) Cts.nil) (by kernel_rfl) Tryd.func8 (by kernel_rfl) rfl (fun ⟨a0, _⟩ r h => (eq k a0).trans h)
end spec_LiveOk
namespace laws_sameInts
def C (k : Nat) : Cn := ⟨[.val (.slice (.int .i64)), .val (.slice (.int .i64))], [.bool], true, false, fun x => f k x.1 x.2.1⟩
def E (k : Nat) : Env := ⟨tb, [], [(4, [0, 1, 5])], k, 0, []⟩
section
variable (k : Nat) (a0 : List Int) (a1 : List Int)
noncomputable def K0 : Ex → St → Option (Bool × Unit) := runK (E k) (endK (E k) Tryd.f9.results.toList [.val (.slice (.int .i64)), .val (.slice (.int .i64))] (a0, a1, ()) [.bool] true false) [.blk 0, .code (at_ (bt 3 7) (body Tryd.f9))]
noncomputable def V0 (n0 : Nat) (x0_0 : List Int) (x0_1 : List Int) (x0_2 : Int) : Option (Bool × Unit) := loopN (exec (E k) (at_ (bt 6 11) (body Tryd.f9))) (canon 0 [0, 1, 5]) (K0 k a0 a1) n0 (mk 26 0 [(0, .sl true (.int .i64) x0_0), (1, .sl true (.int .i64) x0_1), (5, .int .i64 x0_2)] [])
theorem s0 (n0 : Nat) (x0_0 : List Int) (x0_1 : List Int) (x0_2 : Int) : V0 k a0 a1 (n0 + 1) x0_0 x0_1 x0_2 = b0 k (V0 k a0 a1 n0) x0_0 x0_1 x0_2 := by kernel_rfl
theorem e0 (n0 : Nat) : V0 k a0 a1 n0 = l0 k n0 := loop_eq (V := V0 k a0 a1) (l := l0 k) rfl (fun n0 => funext fun x0_0 => funext fun x0_1 => funext fun x0_2 => s0 k a0 a1 n0 x0_0 x0_1 x0_2) (fun _ => rfl) n0
end
theorem eq (k : Nat) (a0 : List Int) (a1 : List Int) : run (E k) Tryd.f9 [.val (.slice (.int .i64)), .val (.slice (.int .i64))] [.bool] true false (a0, a1, ()) = f k a0 a1 := (show _ = t k (V0 k a0 a1 k) a0 a1 by kernel_rfl).trans (by rw [e0]; rfl)
theorem ctr (k : Nat) : Ctr J Tryd.prog 9 (C k) :=
  run_ctr (E := E k) rfl mixed tb_ok (eqOk_of tb_eqs) Cts.nil (by kernel_rfl) Tryd.func9 (by kernel_rfl) rfl (fun ⟨a0, a1, _⟩ r h => (eq k a0 a1).trans h)
end laws_sameInts
namespace spec_DrawSegName
def C (k : Nat) : Cn := ⟨[.val (.slice (.int .u8))], [(.int .i64)], true, false, fun x => f k x.1⟩
def E (k : Nat) : Env := ⟨tb, [(20, spec_l1New.C k), (28, spec_l1PickInt.C k)], [], k, 0, []⟩
theorem eq (k : Nat) (a0 : List Int) : run (E k) Tryd.f10 [.val (.slice (.int .u8))] [(.int .i64)] true false (a0, ()) = f k a0 := by kernel_rfl
theorem ctr (k : Nat) : Ctr J Tryd.prog 10 (C k) :=
  run_ctr (E := E k) rfl mixed tb_ok (eqOk_of tb_eqs) (Cts.cons (spec_l1New.ctr k) (Cts.cons (spec_l1PickInt.ctr k) Cts.nil)) (by kernel_rfl) Tryd.func10 (by kernel_rfl) rfl (fun ⟨a0, _⟩ r h => (eq k a0).trans h)
end spec_DrawSegName
namespace impl_Dec
def C (k : Nat) : Cn := ⟨[.val (.int .i64)], [.str], true, false, fun x => f k x.1⟩
def E (k : Nat) : Env := ⟨tb, [(60, lib_Itoa.C k)], [], k, 0, []⟩
theorem eq (k : Nat) (a0 : Int) : run (E k) Tryd.f49 [.val (.int .i64)] [.str] true false (a0, ()) = f k a0 := by kernel_rfl
theorem ctr (k : Nat) : Ctr J Tryd.prog 49 (C k) :=
  run_ctr (E := E k) rfl mixed tb_ok (eqOk_of tb_eqs) (Cts.cons (lib_Itoa.ctr k) Cts.nil) (by kernel_rfl) Tryd.func49 (by kernel_rfl) rfl (fun ⟨a0, _⟩ r h => (eq k a0).trans h)
end impl_Dec
namespace impl_named
def C (k : Nat) : Cn := ⟨[.val .str, .val (.int .i64)], [.str], true, false, fun x => f k x.1 x.2.1⟩
def E (k : Nat) : Env := ⟨tb, [(31, impl_in.C k), (49, impl_Dec.C k)], [], k, 0, []⟩
theorem eq (k : Nat) (a0 : ByteArray) (a1 : Int) : run (E k) Tryd.f32 [.val .str, .val (.int .i64)] [.str] true false (a0, a1, ()) = f k a0 a1 := by kernel_rfl
theorem ctr (k : Nat) : Ctr J Tryd.prog 32 (C k) :=
  run_ctr (E := E k) rfl mixed tb_ok (eqOk_of tb_eqs) (Cts.cons (impl_in.ctr k) (Cts.cons (impl_Dec.ctr k) Cts.nil)) (by kernel_rfl) Tryd.func32 (by kernel_rfl) rfl (fun ⟨a0, a1, _⟩ r h => (eq k a0 a1).trans h)
end impl_named
namespace impl_SegName
def C (k : Nat) : Cn := ⟨[.val (.int .i64)], [.str], true, false, fun x => f k x.1⟩
def E (k : Nat) : Env := ⟨tb, [(32, impl_named.C k)], [], k, 0, []⟩
theorem eq (k : Nat) (a0 : Int) : run (E k) Tryd.f12 [.val (.int .i64)] [.str] true false (a0, ()) = f k a0 := by kernel_rfl
theorem ctr (k : Nat) : Ctr J Tryd.prog 12 (C k) :=
  run_ctr (E := E k) rfl mixed tb_ok (eqOk_of tb_eqs) (Cts.cons (impl_named.ctr k) Cts.nil) (by kernel_rfl) Tryd.func12 (by kernel_rfl) rfl (fun ⟨a0, _⟩ r h => (eq k a0).trans h)
end impl_SegName
namespace impl_IdOf
def C (k : Nat) : Cn := ⟨[.val .str], [(.int .i64), .bool], true, false, fun x => f k x.1⟩
def E (k : Nat) : Env := ⟨tb, [(29, lib_CutPrefix.C k), (30, impl_ReadDec.C k), (31, impl_in.C k)], [], k, 0, []⟩
theorem eq (k : Nat) (a0 : ByteArray) : run (E k) Tryd.f11 [.val .str] [(.int .i64), .bool] true false (a0, ()) = f k a0 := by kernel_rfl
theorem ctr (k : Nat) : Ctr J Tryd.prog 11 (C k) :=
  run_ctr (E := E k) rfl mixed tb_ok (eqOk_of tb_eqs) (Cts.cons (lib_CutPrefix.ctr k) (Cts.cons (impl_ReadDec.ctr k) (Cts.cons (impl_in.ctr k) Cts.nil))) (by kernel_rfl) Tryd.func11 (by kernel_rfl) rfl (fun ⟨a0, _⟩ r h => (eq k a0).trans h)
end impl_IdOf
namespace impl_HintName
def C (k : Nat) : Cn := ⟨[.val (.int .i64)], [.str], true, false, fun x => f k x.1⟩
def E (k : Nat) : Env := ⟨tb, [(32, impl_named.C k)], [], k, 0, []⟩
theorem eq (k : Nat) (a0 : Int) : run (E k) Tryd.f13 [.val (.int .i64)] [.str] true false (a0, ()) = f k a0 := by kernel_rfl
theorem ctr (k : Nat) : Ctr J Tryd.prog 13 (C k) :=
  run_ctr (E := E k) rfl mixed tb_ok (eqOk_of tb_eqs) (Cts.cons (impl_named.ctr k) Cts.nil) (by kernel_rfl) Tryd.func13 (by kernel_rfl) rfl (fun ⟨a0, _⟩ r h => (eq k a0).trans h)
end impl_HintName
namespace spec_DiskNew
def C (k : Nat) : Cn := ⟨[.val (.int .i64)], [TDisk], true, false, fun x => f k x.1⟩
def E (k : Nat) : Env := ⟨tb, [(27, spec_l1In.C k)], [], k, 0, []⟩
theorem eq (k : Nat) (a0 : Int) : run (E k) Tryd.f61 [.val (.int .i64)] [TDisk] true false (a0, ()) = f k a0 := by kernel_rfl
theorem ctr (k : Nat) : Ctr J Tryd.prog 61 (C k) :=
  run_ctr (E := E k) rfl mixed tb_ok (eqOk_of tb_eqs) (Cts.cons (spec_l1In.ctr k) Cts.nil) (by kernel_rfl) Tryd.func61 (by kernel_rfl) rfl (fun ⟨a0, _⟩ r h => (eq k a0).trans h)
end spec_DiskNew
namespace spec_l1Pick
def C (k : Nat) : Cn := ⟨[.io false Tl1Cur, .val (.slice .str)], [.str], true, true, fun x => f k x.1 x.2.1⟩
def E (k : Nat) : Env := ⟨tb, [(41, spec_l1Below.C k)], [], k, 1, []⟩
theorem eq (k : Nat) (a0 : Ty.den Tl1Cur) (a1 : List ByteArray) : run (E k) Tryd.f52 [.io false Tl1Cur, .val (.slice .str)] [.str] true true (a0, a1, ()) = f k a0 a1 := by kernel_rfl
theorem ctr (k : Nat) : Ctr J Tryd.prog 52 (C k) :=
  run_ctr (E := E k) rfl mixed tb_ok (eqOk_of tb_eqs) (Cts.cons (spec_l1Below.ctr k) Cts.nil) (by kernel_rfl) Tryd.func52 (by kernel_rfl) rfl (fun ⟨a0, a1, _⟩ r h => (eq k a0 a1).trans h)
end spec_l1Pick
namespace spec_l3Name
def C (k : Nat) : Cn := ⟨[.io false Tl1Cur], [.str], true, true, fun x => f k x.1⟩
def E (k : Nat) : Env := ⟨tb, [(52, spec_l1Pick.C k)], [], k, 1, []⟩
theorem eq (k : Nat) (a0 : Ty.den Tl1Cur) : run (E k) Tryd.f62 [.io false Tl1Cur] [.str] true true (a0, ()) = f k a0 := by kernel_rfl
theorem ctr (k : Nat) : Ctr J Tryd.prog 62 (C k) :=
  run_ctr (E := E k) rfl mixed tb_ok (eqOk_of tb_eqs) (Cts.cons (spec_l1Pick.ctr k) Cts.nil) (by kernel_rfl) Tryd.func62 (by kernel_rfl) rfl (fun ⟨a0, _⟩ r h => (eq k a0).trans h)
end spec_l3Name
namespace spec_l3Copy
def C (k : Nat) : Cn := ⟨[.val TDisk], [TDisk], true, false, fun x => f k x.1⟩
def E (k : Nat) : Env := ⟨tb, [], [], k, 0, []⟩
theorem eq (k : Nat) (a0 : Ty.den TDisk) : run (E k) Tryd.f82 [.val TDisk] [TDisk] true false (a0, ()) = f k a0 := by kernel_rfl
theorem ctr (k : Nat) : Ctr J Tryd.prog 82 (C k) :=
  run_ctr (E := E k) rfl mixed tb_ok (eqOk_of tb_eqs) Cts.nil (by kernel_rfl) Tryd.func82 (by kernel_rfl) rfl (fun ⟨a0, _⟩ r h => (eq k a0).trans h)
end spec_l3Copy
namespace spec_l3Used
def C (k : Nat) : Cn := ⟨[.val TDisk], [(.int .i64)], true, false, fun x => f k x.1⟩
def E (k : Nat) : Env := ⟨tb, [], [(3, [1, 3, 4])], k, 0, []⟩
section
variable (k : Nat) (a0 : Ty.den TDisk)
noncomputable def K0 : Ex → St → Option (Int × Unit) := runK (E k) (endK (E k) Tryd.f51.results.toList [.val TDisk] (a0, ()) [(.int .i64)] true false) [.blk 0, .code (at_ (bt 3 7) (body Tryd.f51))]
noncomputable def V0 (n0 : Nat) (x0_0 : Int) (x0_1 : Int) (x0_2 : List (Ty.den TFile)) (x0_3 : Int) (x0_4 : Int) (x0_5 : Bool) : Option (Int × Unit) := loopN (exec (E k) (at_ (bt 6 11) (body Tryd.f51))) (canon 0 [1, 3, 4]) (K0 k a0) n0 (mk 22 1 [(1, .ptr 0 0 0), (3, .int .i64 x0_0), (4, .int .i64 x0_1)] [(0, .box [.sl true TFile x0_2, .int .i64 x0_3, .int .i64 x0_4, .bool x0_5])])
theorem s0 (n0 : Nat) (x0_0 : Int) (x0_1 : Int) (x0_2 : List (Ty.den TFile)) (x0_3 : Int) (x0_4 : Int) (x0_5 : Bool) : V0 k a0 (n0 + 1) x0_0 x0_1 x0_2 x0_3 x0_4 x0_5 = b0 k (V0 k a0 n0) x0_0 x0_1 x0_2 x0_3 x0_4 x0_5 := by kernel_rfl
theorem e0 (n0 : Nat) : V0 k a0 n0 = l0 k n0 := loop_eq (V := V0 k a0) (l := l0 k) rfl (fun n0 => funext fun x0_0 => funext fun x0_1 => funext fun x0_2 => funext fun x0_3 => funext fun x0_4 => funext fun x0_5 => s0 k a0 n0 x0_0 x0_1 x0_2 x0_3 x0_4 x0_5) (fun _ => rfl) n0
end
theorem eq (k : Nat) (a0 : Ty.den TDisk) : run (E k) Tryd.f51 [.val TDisk] [(.int .i64)] true false (a0, ()) = f k a0 := (show _ = t k (V0 k a0 k) a0 by kernel_rfl).trans (by rw [e0]; rfl)
theorem ctr (k : Nat) : Ctr J Tryd.prog 51 (C k) :=
  run_ctr (E := E k) rfl mixed tb_ok (eqOk_of tb_eqs) Cts.nil (by kernel_rfl) Tryd.func51 (by kernel_rfl) rfl (fun ⟨a0, _⟩ r h => (eq k a0).trans h)
end spec_l3Used
namespace spec_NameOk
def C (k : Nat) : Cn := ⟨[.val .str], [.bool], true, false, fun x => f k x.1⟩
def E (k : Nat) : Env := ⟨tb, [(27, spec_l1In.C k)], [(2, [0, 3])], k, 0, []⟩
section
variable (k : Nat) (a0 : ByteArray)
noncomputable def K0 : Ex → St → Option (Bool × Unit) := runK (E k) (endK (E k) Tryd.f55.results.toList [.val .str] (a0, ()) [.bool] true false) [.blk 0, .code (at_ (bt 2 3) (body Tryd.f55))]
noncomputable def V0 (n0 : Nat) (x0_0 : ByteArray) (x0_1 : Int) : Option (Bool × Unit) := loopN (exec (E k) (at_ (bt 5 5) (body Tryd.f55))) (canon 0 [0, 3]) (K0 k a0) n0 (mk 36 0 [(0, .str x0_0), (3, .int .i64 x0_1)] [])
theorem s0 (n0 : Nat) (x0_0 : ByteArray) (x0_1 : Int) : V0 k a0 (n0 + 1) x0_0 x0_1 = b0 k (V0 k a0 n0) x0_0 x0_1 := by kernel_rfl
theorem e0 (n0 : Nat) : V0 k a0 n0 = l0 k n0 := loop_eq (V := V0 k a0) (l := l0 k) rfl (fun n0 => funext fun x0_0 => funext fun x0_1 => s0 k a0 n0 x0_0 x0_1) (fun _ => rfl) n0
end
theorem eq (k : Nat) (a0 : ByteArray) : run (E k) Tryd.f55 [.val .str] [.bool] true false (a0, ()) = f k a0 := (show _ = t k (V0 k a0 k) a0 by kernel_rfl).trans (by rw [e0]; rfl)
theorem ctr (k : Nat) : Ctr J Tryd.prog 55 (C k) :=
  run_ctr (E := E k) rfl mixed tb_ok (eqOk_of tb_eqs) (Cts.cons (spec_l1In.ctr k) Cts.nil) (by kernel_rfl) Tryd.func55 (by kernel_rfl) rfl (fun ⟨a0, _⟩ r h => (eq k a0).trans h)
end spec_NameOk
namespace spec_DiskOk
def C (k : Nat) : Cn := ⟨[.val TDisk], [.bool], true, false, fun x => f k x.1⟩
def E (k : Nat) : Env := ⟨tb, [(27, spec_l1In.C k), (51, spec_l3Used.C k), (55, spec_NameOk.C k)], [(4, [1, 3])], k, 0, []⟩
section
variable (k : Nat) (a0 : Ty.den TDisk)
noncomputable def K0 : Ex → St → Option (Bool × Unit) := runK (E k) (endK (E k) Tryd.f39.results.toList [.val TDisk] (a0, ()) [.bool] true false) [.blk 0, .code (at_ (bt 3 7) (body Tryd.f39))]
noncomputable def V0 (n0 : Nat) (x0_0 : Int) (x0_1 : List (Ty.den TFile)) (x0_2 : Int) (x0_3 : Int) (x0_4 : Bool) : Option (Bool × Unit) := loopN (exec (E k) (at_ (bt 6 11) (body Tryd.f39))) (canon 0 [1, 3]) (K0 k a0) n0 (mk 79 1 [(1, .ptr 0 0 0), (3, .int .i64 x0_0)] [(0, .box [.sl true TFile x0_1, .int .i64 x0_2, .int .i64 x0_3, .bool x0_4])])
theorem s0 (n0 : Nat) (x0_0 : Int) (x0_1 : List (Ty.den TFile)) (x0_2 : Int) (x0_3 : Int) (x0_4 : Bool) : V0 k a0 (n0 + 1) x0_0 x0_1 x0_2 x0_3 x0_4 = b0 k (V0 k a0 n0) x0_0 x0_1 x0_2 x0_3 x0_4 := by kernel_rfl
theorem e0 (n0 : Nat) : V0 k a0 n0 = l0 k n0 := loop_eq (V := V0 k a0) (l := l0 k) rfl (fun n0 => funext fun x0_0 => funext fun x0_1 => funext fun x0_2 => funext fun x0_3 => funext fun x0_4 => s0 k a0 n0 x0_0 x0_1 x0_2 x0_3 x0_4) (fun _ => rfl) n0
end
theorem eq (k : Nat) (a0 : Ty.den TDisk) : run (E k) Tryd.f39 [.val TDisk] [.bool] true false (a0, ()) = f k a0 := (show _ = t k (V0 k a0 k) a0 by kernel_rfl).trans (by rw [e0]; rfl)
theorem ctr (k : Nat) : Ctr J Tryd.prog 39 (C k) :=
  run_ctr (E := E k) rfl mixed tb_ok (eqOk_of tb_eqs) (Cts.cons (spec_l1In.ctr k) (Cts.cons (spec_l3Used.ctr k) (Cts.cons (spec_NameOk.ctr k) Cts.nil))) (by kernel_rfl) Tryd.func39 (by kernel_rfl) rfl (fun ⟨a0, _⟩ r h => (eq k a0).trans h)
end spec_DiskOk
namespace spec_l3Begin
def C (k : Nat) : Cn := ⟨[.val TDisk], [TDisk, (.int .i64)], true, false, fun x => f k x.1⟩
def E (k : Nat) : Env := ⟨tb, [(82, spec_l3Copy.C k), (39, spec_DiskOk.C k)], [], k, 0, []⟩
theorem eq (k : Nat) (a0 : Ty.den TDisk) : run (E k) Tryd.f74 [.val TDisk] [TDisk, (.int .i64)] true false (a0, ()) = f k a0 := by kernel_rfl
theorem ctr (k : Nat) : Ctr J Tryd.prog 74 (C k) :=
  run_ctr (E := E k) rfl mixed tb_ok (eqOk_of tb_eqs) (Cts.cons (spec_l3Copy.ctr k) (Cts.cons (spec_DiskOk.ctr k) Cts.nil)) (by kernel_rfl) Tryd.func74 (by kernel_rfl) rfl (fun ⟨a0, _⟩ r h => (eq k a0).trans h)
end spec_l3Begin
namespace spec_l3Find
def C (k : Nat) : Cn := ⟨[.val TDisk, .val .str], [(.int .i64)], true, false, fun x => f k x.1 x.2.1⟩
def E (k : Nat) : Env := ⟨tb, [], [(2, [1, 2, 5])], k, 0, []⟩
section
variable (k : Nat) (a0 : Ty.den TDisk) (a1 : ByteArray)
noncomputable def K0 : Ex → St → Option (Int × Unit) := runK (E k) (endK (E k) Tryd.f75.results.toList [.val TDisk, .val .str] (a0, a1, ()) [(.int .i64)] true false) [.blk 0, .code (at_ (bt 2 3) (body Tryd.f75))]
noncomputable def V0 (n0 : Nat) (x0_0 : ByteArray) (x0_1 : Int) (x0_2 : List (Ty.den TFile)) (x0_3 : Int) (x0_4 : Int) (x0_5 : Bool) : Option (Int × Unit) := loopN (exec (E k) (at_ (bt 5 5) (body Tryd.f75))) (canon 0 [1, 2, 5]) (K0 k a0 a1) n0 (mk 22 1 [(1, .str x0_0), (2, .ptr 0 0 0), (5, .int .i64 x0_1)] [(0, .box [.sl true TFile x0_2, .int .i64 x0_3, .int .i64 x0_4, .bool x0_5])])
theorem s0 (n0 : Nat) (x0_0 : ByteArray) (x0_1 : Int) (x0_2 : List (Ty.den TFile)) (x0_3 : Int) (x0_4 : Int) (x0_5 : Bool) : V0 k a0 a1 (n0 + 1) x0_0 x0_1 x0_2 x0_3 x0_4 x0_5 = b0 k (V0 k a0 a1 n0) x0_0 x0_1 x0_2 x0_3 x0_4 x0_5 := by kernel_rfl
theorem e0 (n0 : Nat) : V0 k a0 a1 n0 = l0 k n0 := loop_eq (V := V0 k a0 a1) (l := l0 k) rfl (fun n0 => funext fun x0_0 => funext fun x0_1 => funext fun x0_2 => funext fun x0_3 => funext fun x0_4 => funext fun x0_5 => s0 k a0 a1 n0 x0_0 x0_1 x0_2 x0_3 x0_4 x0_5) (fun _ => rfl) n0
end
theorem eq (k : Nat) (a0 : Ty.den TDisk) (a1 : ByteArray) : run (E k) Tryd.f75 [.val TDisk, .val .str] [(.int .i64)] true false (a0, a1, ()) = f k a0 a1 := (show _ = t k (V0 k a0 a1 k) a0 a1 by kernel_rfl).trans (by rw [e0]; rfl)
theorem ctr (k : Nat) : Ctr J Tryd.prog 75 (C k) :=
  run_ctr (E := E k) rfl mixed tb_ok (eqOk_of tb_eqs) Cts.nil (by kernel_rfl) Tryd.func75 (by kernel_rfl) rfl (fun ⟨a0, a1, _⟩ r h => (eq k a0 a1).trans h)
end spec_l3Find
namespace spec_l3Insert
def C (k : Nat) : Cn := ⟨[.val (.slice TFile), .val TFile], [(.slice TFile)], true, false, fun x => f k x.1 x.2.1⟩
def E (k : Nat) : Env := ⟨tb, [], [(4, [0, 3, 5, 6, 7])], k, 0, []⟩
section
variable (k : Nat) (a0 : List (Ty.den TFile)) (a1 : Ty.den TFile)
noncomputable def K0 : Ex → St → Option ((List (Ty.den TFile)) × Unit) := runK (E k) (endK (E k) Tryd.f76.results.toList [.val (.slice TFile), .val TFile] (a0, a1, ()) [(.slice TFile)] true false) [.blk 0, .code (at_ (bt 4 15) (body Tryd.f76))]
noncomputable def V0 (n0 : Nat) (x0_0 : List (Ty.den TFile)) (x0_1 : Bool) (x0_2 : Int) (x0_3 : ByteArray) (x0_4 : ByteArray) (x0_5 : Int) (x0_6 : List (Ty.den TFile)) : Option ((List (Ty.den TFile)) × Unit) := loopN (exec (E k) (at_ (bt 7 23) (body Tryd.f76))) (canon 0 [0, 3, 5, 6, 7]) (K0 k a0 a1) n0 (mk 45 2 [(0, .sl true TFile x0_0), (3, .ptr 0 0 0), (5, .ref 1), (6, .bool x0_1), (7, .int .i64 x0_2)] [(0, .box [.str x0_3, .str x0_4, .int .i64 x0_5]), (1, .own false TFile x0_6)])
theorem s0 (n0 : Nat) (x0_0 : List (Ty.den TFile)) (x0_1 : Bool) (x0_2 : Int) (x0_3 : ByteArray) (x0_4 : ByteArray) (x0_5 : Int) (x0_6 : List (Ty.den TFile)) : V0 k a0 a1 (n0 + 1) x0_0 x0_1 x0_2 x0_3 x0_4 x0_5 x0_6 = b0 k (V0 k a0 a1 n0) x0_0 x0_1 x0_2 x0_3 x0_4 x0_5 x0_6 := by kernel_rfl
theorem e0 (n0 : Nat) : V0 k a0 a1 n0 = l0 k n0 := loop_eq (V := V0 k a0 a1) (l := l0 k) rfl (fun n0 => funext fun x0_0 => funext fun x0_1 => funext fun x0_2 => funext fun x0_3 => funext fun x0_4 => funext fun x0_5 => funext fun x0_6 => s0 k a0 a1 n0 x0_0 x0_1 x0_2 x0_3 x0_4 x0_5 x0_6) (fun _ => rfl) n0
end
theorem eq (k : Nat) (a0 : List (Ty.den TFile)) (a1 : Ty.den TFile) : run (E k) Tryd.f76 [.val (.slice TFile), .val TFile] [(.slice TFile)] true false (a0, a1, ()) = f k a0 a1 := (show _ = t k (V0 k a0 a1 k) a0 a1 by kernel_rfl).trans (by rw [e0]; rfl)
theorem ctr (k : Nat) : Ctr J Tryd.prog 76 (C k) :=
  run_ctr (E := E k) rfl mixed tb_ok (eqOk_of tb_eqs) Cts.nil (by kernel_rfl) Tryd.func76 (by kernel_rfl) rfl (fun ⟨a0, a1, _⟩ r h => (eq k a0 a1).trans h)
end spec_l3Insert
namespace spec_Create
def C (k : Nat) : Cn := ⟨[.val TDisk, .val .str], [TDisk, (.int .i64)], true, false, fun x => f k x.1 x.2.1⟩
def E (k : Nat) : Env := ⟨tb, [(74, spec_l3Begin.C k), (55, spec_NameOk.C k), (75, spec_l3Find.C k), (76, spec_l3Insert.C k)], [], k, 0, []⟩
theorem eq (k : Nat) (a0 : Ty.den TDisk) (a1 : ByteArray) : run (E k) Tryd.f63 [.val TDisk, .val .str] [TDisk, (.int .i64)] true false (a0, a1, ()) = f k a0 a1 := by kernel_rfl
theorem ctr (k : Nat) : Ctr J Tryd.prog 63 (C k) :=
  run_ctr (E := E k) rfl mixed tb_ok (eqOk_of tb_eqs) (Cts.cons (spec_l3Begin.ctr k) (Cts.cons (spec_NameOk.ctr k) (Cts.cons (spec_l3Find.ctr k) (Cts.cons (spec_l3Insert.ctr k) Cts.nil)))) (by kernel_rfl) Tryd.func63 (by kernel_rfl) rfl (fun ⟨a0, a1, _⟩ r h => (eq k a0 a1).trans h)
end spec_Create
namespace spec_l1Text
def C (k : Nat) : Cn := ⟨[.io false Tl1Cur, .val (.int .i64)], [.str], true, true, fun x => f k x.1 x.2.1⟩
def E (k : Nat) : Env := ⟨tb, [(41, spec_l1Below.C k), (56, spec_l1Byte.C k)], [(4, [0, 5, 6, 7])], k, 1, []⟩
section
variable (k : Nat) (a0 : Ty.den Tl1Cur) (a1 : Int)
noncomputable def K0 : Ex → St → Option ((Ty.den Tl1Cur) × ByteArray × Unit) := runK (E k) (endK (E k) Tryd.f65.results.toList [.io false Tl1Cur, .val (.int .i64)] (a0, a1, ()) [.str] true true) [.blk 0, .code (at_ (bt 4 15) (body Tryd.f65))]
noncomputable def V0 (n0 : Nat) (x0_0 : Int) (x0_1 : Int) (x0_2 : List Int) (x0_3 : Int) (x0_4 : Int) (x0_5 : List Int) : Option ((Ty.den Tl1Cur) × ByteArray × Unit) := loopN (exec (E k) (at_ (bt 7 23) (body Tryd.f65))) (canon 1 [0, 5, 6, 7]) (K0 k a0 a1) n0 (mk 38 2 [(0, .ptr 0 0 0), (5, .ref 1), (6, .int .i64 x0_0), (7, .int .i64 x0_1)] [(0, .box [.sl true (.int .u8) x0_2, .int .i64 x0_3, .int .i64 x0_4]), (1, .own false (.int .u8) x0_5)])
theorem s0 (n0 : Nat) (x0_0 : Int) (x0_1 : Int) (x0_2 : List Int) (x0_3 : Int) (x0_4 : Int) (x0_5 : List Int) : V0 k a0 a1 (n0 + 1) x0_0 x0_1 x0_2 x0_3 x0_4 x0_5 = b0 k (V0 k a0 a1 n0) x0_0 x0_1 x0_2 x0_3 x0_4 x0_5 := by kernel_rfl
theorem e0 (n0 : Nat) : V0 k a0 a1 n0 = l0 k n0 := loop_eq (V := V0 k a0 a1) (l := l0 k) rfl (fun n0 => funext fun x0_0 => funext fun x0_1 => funext fun x0_2 => funext fun x0_3 => funext fun x0_4 => funext fun x0_5 => s0 k a0 a1 n0 x0_0 x0_1 x0_2 x0_3 x0_4 x0_5) (fun _ => rfl) n0
end
theorem eq (k : Nat) (a0 : Ty.den Tl1Cur) (a1 : Int) : run (E k) Tryd.f65 [.io false Tl1Cur, .val (.int .i64)] [.str] true true (a0, a1, ()) = f k a0 a1 := (show _ = t k (V0 k a0 a1 k) a0 a1 by kernel_rfl).trans (by rw [e0]; rfl)
theorem ctr (k : Nat) : Ctr J Tryd.prog 65 (C k) :=
  run_ctr (E := E k) rfl mixed tb_ok (eqOk_of tb_eqs) (Cts.cons (spec_l1Below.ctr k) (Cts.cons (spec_l1Byte.ctr k) Cts.nil)) (by kernel_rfl) Tryd.func65 (by kernel_rfl) rfl (fun ⟨a0, a1, _⟩ r h => (eq k a0 a1).trans h)
end spec_l1Text
namespace spec_Append
def C (k : Nat) : Cn := ⟨[.val TDisk, .val .str, .val .str], [TDisk, (.int .i64)], true, false, fun x => f k x.1 x.2.1 x.2.2.1⟩
def E (k : Nat) : Env := ⟨tb, [(74, spec_l3Begin.C k), (75, spec_l3Find.C k), (51, spec_l3Used.C k)], [], k, 0, []⟩
theorem eq (k : Nat) (a0 : Ty.den TDisk) (a1 : ByteArray) (a2 : ByteArray) : run (E k) Tryd.f64 [.val TDisk, .val .str, .val .str] [TDisk, (.int .i64)] true false (a0, a1, a2, ()) = f k a0 a1 a2 := by kernel_rfl
theorem ctr (k : Nat) : Ctr J Tryd.prog 64 (C k) :=
  run_ctr (E := E k) rfl mixed tb_ok (eqOk_of tb_eqs) (Cts.cons (spec_l3Begin.ctr k) (Cts.cons (spec_l3Find.ctr k) (Cts.cons (spec_l3Used.ctr k) Cts.nil))) (by kernel_rfl) Tryd.func64 (by kernel_rfl) rfl (fun ⟨a0, a1, a2, _⟩ r h => (eq k a0 a1 a2).trans h)
end spec_Append
namespace spec_Sync
def C (k : Nat) : Cn := ⟨[.val TDisk, .val .str], [TDisk, (.int .i64)], true, false, fun x => f k x.1 x.2.1⟩
def E (k : Nat) : Env := ⟨tb, [(74, spec_l3Begin.C k), (75, spec_l3Find.C k)], [], k, 0, []⟩
theorem eq (k : Nat) (a0 : Ty.den TDisk) (a1 : ByteArray) : run (E k) Tryd.f66 [.val TDisk, .val .str] [TDisk, (.int .i64)] true false (a0, a1, ()) = f k a0 a1 := by kernel_rfl
theorem ctr (k : Nat) : Ctr J Tryd.prog 66 (C k) :=
  run_ctr (E := E k) rfl mixed tb_ok (eqOk_of tb_eqs) (Cts.cons (spec_l3Begin.ctr k) (Cts.cons (spec_l3Find.ctr k) Cts.nil)) (by kernel_rfl) Tryd.func66 (by kernel_rfl) rfl (fun ⟨a0, a1, _⟩ r h => (eq k a0 a1).trans h)
end spec_Sync
namespace spec_l3Without
def C (k : Nat) : Cn := ⟨[.val (.slice TFile), .val (.int .i64)], [(.slice TFile)], true, false, fun x => f k x.1 x.2.1⟩
def E (k : Nat) : Env := ⟨tb, [], [], k, 0, []⟩
theorem eq (k : Nat) (a0 : List (Ty.den TFile)) (a1 : Int) : run (E k) Tryd.f77 [.val (.slice TFile), .val (.int .i64)] [(.slice TFile)] true false (a0, a1, ()) = f k a0 a1 := by kernel_rfl
theorem ctr (k : Nat) : Ctr J Tryd.prog 77 (C k) :=
  run_ctr (E := E k) rfl mixed tb_ok (eqOk_of tb_eqs) Cts.nil (by kernel_rfl) Tryd.func77 (by kernel_rfl) rfl (fun ⟨a0, a1, _⟩ r h => (eq k a0 a1).trans h)
end spec_l3Without
namespace spec_Rename
def C (k : Nat) : Cn := ⟨[.val TDisk, .val .str, .val .str], [TDisk, (.int .i64)], true, false, fun x => f k x.1 x.2.1 x.2.2.1⟩
def E (k : Nat) : Env := ⟨tb, [(74, spec_l3Begin.C k), (55, spec_NameOk.C k), (75, spec_l3Find.C k), (77, spec_l3Without.C k), (76, spec_l3Insert.C k)], [], k, 0, []⟩
theorem eq (k : Nat) (a0 : Ty.den TDisk) (a1 : ByteArray) (a2 : ByteArray) : run (E k) Tryd.f67 [.val TDisk, .val .str, .val .str] [TDisk, (.int .i64)] true false (a0, a1, a2, ()) = f k a0 a1 a2 := by kernel_rfl
theorem ctr (k : Nat) : Ctr J Tryd.prog 67 (C k) :=
  run_ctr (E := E k) rfl mixed tb_ok (eqOk_of tb_eqs) (Cts.cons (spec_l3Begin.ctr k) (Cts.cons (spec_NameOk.ctr k) (Cts.cons (spec_l3Find.ctr k) (Cts.cons (spec_l3Without.ctr k) (Cts.cons (spec_l3Insert.ctr k) Cts.nil))))) (by kernel_rfl) Tryd.func67 (by kernel_rfl) rfl (fun ⟨a0, a1, a2, _⟩ r h => (eq k a0 a1 a2).trans h)
end spec_Rename
namespace spec_l3Disk
def C (k : Nat) : Cn := ⟨[.io false Tl1Cur], [TDisk], true, true, fun x => f k x.1⟩
def E (k : Nat) : Env := ⟨tb, [(61, spec_DiskNew.C k), (41, spec_l1Below.C k), (62, spec_l3Name.C k), (63, spec_Create.C k), (65, spec_l1Text.C k), (64, spec_Append.C k), (66, spec_Sync.C k), (67, spec_Rename.C k)], [(3, [0, 2, 3, 4])], k, 1, []⟩
section
variable (k : Nat) (a0 : Ty.den Tl1Cur)
noncomputable def K0 : Ex → St → Option ((Ty.den Tl1Cur) × (Ty.den TDisk) × Unit) := runK (E k) (endK (E k) Tryd.f50.results.toList [.io false Tl1Cur] (a0, ()) [TDisk] true true) [.blk 0, .code (at_ (bt 3 7) (body Tryd.f50))]
noncomputable def V0 (n0 : Nat) (x0_0 : Int) (x0_1 : List Int) (x0_2 : Int) (x0_3 : Int) (x0_4 : List (Ty.den TFile)) (x0_5 : Int) (x0_6 : Int) (x0_7 : Bool) (x0_8 : List (Ty.den TFile)) (x0_9 : Int) (x0_10 : Int) (x0_11 : Bool) : Option ((Ty.den Tl1Cur) × (Ty.den TDisk) × Unit) := loopN (exec (E k) (at_ (bt 6 11) (body Tryd.f50))) (canon 1 [0, 2, 3, 4]) (K0 k a0) n0 (mk 57 5 [(0, .ptr 0 0 0), (2, .ptr 1 0 0), (3, .ptr 3 0 0), (4, .int .i64 x0_0)] [(0, .box [.sl true (.int .u8) x0_1, .int .i64 x0_2, .int .i64 x0_3]), (2, .own false TFile x0_4), (1, .box [.ref 2, .int .i64 x0_5, .int .i64 x0_6, .bool x0_7]), (4, .own false TFile x0_8), (3, .box [.ref 4, .int .i64 x0_9, .int .i64 x0_10, .bool x0_11])])
theorem s0 (n0 : Nat) (x0_0 : Int) (x0_1 : List Int) (x0_2 : Int) (x0_3 : Int) (x0_4 : List (Ty.den TFile)) (x0_5 : Int) (x0_6 : Int) (x0_7 : Bool) (x0_8 : List (Ty.den TFile)) (x0_9 : Int) (x0_10 : Int) (x0_11 : Bool) : V0 k a0 (n0 + 1) x0_0 x0_1 x0_2 x0_3 x0_4 x0_5 x0_6 x0_7 x0_8 x0_9 x0_10 x0_11 = b0 k (V0 k a0 n0) x0_0 x0_1 x0_2 x0_3 x0_4 x0_5 x0_6 x0_7 x0_8 x0_9 x0_10 x0_11 := by kernel_rfl
theorem e0 (n0 : Nat) : V0 k a0 n0 = l0 k n0 := loop_eq (V := V0 k a0) (l := l0 k) rfl (fun n0 => funext fun x0_0 => funext fun x0_1 => funext fun x0_2 => funext fun x0_3 => funext fun x0_4 => funext fun x0_5 => funext fun x0_6 => funext fun x0_7 => funext fun x0_8 => funext fun x0_9 => funext fun x0_10 => funext fun x0_11 => s0 k a0 n0 x0_0 x0_1 x0_2 x0_3 x0_4 x0_5 x0_6 x0_7 x0_8 x0_9 x0_10 x0_11) (fun _ => rfl) n0
end
theorem eq (k : Nat) (a0 : Ty.den Tl1Cur) : run (E k) Tryd.f50 [.io false Tl1Cur] [TDisk] true true (a0, ()) = f k a0 := (show _ = t k (V0 k a0 k) a0 by kernel_rfl).trans (by rw [e0]; rfl)
theorem ctr (k : Nat) : Ctr J Tryd.prog 50 (C k) :=
  run_ctr (E := E k) rfl mixed tb_ok (eqOk_of tb_eqs) (Cts.cons (spec_DiskNew.ctr k) (Cts.cons (spec_l1Below.ctr k) (Cts.cons (spec_l3Name.ctr k) (Cts.cons (spec_Create.ctr k) (Cts.cons (spec_l1Text.ctr k) (Cts.cons (spec_Append.ctr k) (Cts.cons (spec_Sync.ctr k) (Cts.cons (spec_Rename.ctr k) Cts.nil)))))))) (by kernel_rfl) Tryd.func50 (by kernel_rfl) rfl (fun ⟨a0, _⟩ r h => (eq k a0).trans h)
end spec_l3Disk
namespace spec_Dec
def C (k : Nat) : Cn := ⟨[.val (.int .i64)], [.str], true, false, fun x => f k x.1⟩
def E (k : Nat) : Env := ⟨tb, [], [(5, [0, 3, 4])], k, 0, []⟩
section
variable (k : Nat) (a0 : Int)
noncomputable def K0 : Ex → St → Option (ByteArray × Unit) := runK (E k) (endK (E k) Tryd.f53.results.toList [.val (.int .i64)] (a0, ()) [.str] true false) [.blk 0, .code (at_ (bt 5 31) (body Tryd.f53))]
noncomputable def V0 (n0 : Nat) (x0_0 : Int) (x0_1 : ByteArray) (x0_2 : Bool) : Option (ByteArray × Unit) := loopN (exec (E k) (at_ (bt 7 15) (body Tryd.f53))) (canon 0 [0, 3, 4]) (K0 k a0) n0 (mk 31 0 [(0, .int .i64 x0_0), (3, .str x0_1), (4, .bool x0_2)] [])
theorem s0 (n0 : Nat) (x0_0 : Int) (x0_1 : ByteArray) (x0_2 : Bool) : V0 k a0 (n0 + 1) x0_0 x0_1 x0_2 = b0 k (V0 k a0 n0) x0_0 x0_1 x0_2 := by kernel_rfl
theorem e0 (n0 : Nat) : V0 k a0 n0 = l0 k n0 := loop_eq (V := V0 k a0) (l := l0 k) rfl (fun n0 => funext fun x0_0 => funext fun x0_1 => funext fun x0_2 => s0 k a0 n0 x0_0 x0_1 x0_2) (fun _ => rfl) n0
end
theorem eq (k : Nat) (a0 : Int) : run (E k) Tryd.f53 [.val (.int .i64)] [.str] true false (a0, ()) = f k a0 := (show _ = t k (V0 k a0 k) a0 by kernel_rfl).trans (by rw [e0]; rfl)
theorem ctr (k : Nat) : Ctr J Tryd.prog 53 (C k) :=
  run_ctr (E := E k) rfl mixed tb_ok (eqOk_of tb_eqs) Cts.nil (by kernel_rfl) Tryd.func53 (by kernel_rfl) rfl (fun ⟨a0, _⟩ r h => (eq k a0).trans h)
end spec_Dec
namespace spec_l3Any
def C (k : Nat) : Cn := ⟨[.io false Tl1Cur], [TDisk], true, true, fun x => f k x.1⟩
def E (k : Nat) : Env := ⟨tb, [(50, spec_l3Disk.C k), (41, spec_l1Below.C k), (28, spec_l1PickInt.C k), (51, spec_l3Used.C k), (52, spec_l1Pick.C k), (53, spec_Dec.C k)], [(17, [0, 2, 3, 4])], k, 1, []⟩
section
variable (k : Nat) (a0 : Ty.den Tl1Cur)
noncomputable def K0 : Ex → St → Option ((Ty.den Tl1Cur) × (Ty.den TDisk) × Unit) := runK (E k) (endK (E k) Tryd.f33.results.toList [.io false Tl1Cur] (a0, ()) [TDisk] true true) [.blk 1, .blk 0, .code (at_ (bt 3 7) (body Tryd.f33))]
noncomputable def V0 (n0 : Nat) (x0_0 : Int) (x0_1 : List Int) (x0_2 : Int) (x0_3 : Int) (x0_4 : List (Ty.den TFile)) (x0_5 : Int) (x0_6 : Int) (x0_7 : Bool) (x0_8 : List (Ty.den TFile)) (x0_9 : Int) (x0_10 : Int) (x0_11 : Bool) : Option ((Ty.den Tl1Cur) × (Ty.den TDisk) × Unit) := loopN (exec (E k) (at_ (bt 20 196587) (body Tryd.f33))) (canon 1 [0, 2, 3, 4]) (K0 k a0) n0 (mk 81 5 [(0, .ptr 0 0 0), (2, .ptr 1 0 0), (3, .ptr 3 0 0), (4, .int .i64 x0_0)] [(0, .box [.sl true (.int .u8) x0_1, .int .i64 x0_2, .int .i64 x0_3]), (2, .own false TFile x0_4), (1, .box [.ref 2, .int .i64 x0_5, .int .i64 x0_6, .bool x0_7]), (4, .own false TFile x0_8), (3, .box [.ref 4, .int .i64 x0_9, .int .i64 x0_10, .bool x0_11])])
theorem s0 (n0 : Nat) (x0_0 : Int) (x0_1 : List Int) (x0_2 : Int) (x0_3 : Int) (x0_4 : List (Ty.den TFile)) (x0_5 : Int) (x0_6 : Int) (x0_7 : Bool) (x0_8 : List (Ty.den TFile)) (x0_9 : Int) (x0_10 : Int) (x0_11 : Bool) : V0 k a0 (n0 + 1) x0_0 x0_1 x0_2 x0_3 x0_4 x0_5 x0_6 x0_7 x0_8 x0_9 x0_10 x0_11 = b0 k (V0 k a0 n0) x0_0 x0_1 x0_2 x0_3 x0_4 x0_5 x0_6 x0_7 x0_8 x0_9 x0_10 x0_11 := by kernel_rfl
theorem e0 (n0 : Nat) : V0 k a0 n0 = l0 k n0 := loop_eq (V := V0 k a0) (l := l0 k) rfl (fun n0 => funext fun x0_0 => funext fun x0_1 => funext fun x0_2 => funext fun x0_3 => funext fun x0_4 => funext fun x0_5 => funext fun x0_6 => funext fun x0_7 => funext fun x0_8 => funext fun x0_9 => funext fun x0_10 => funext fun x0_11 => s0 k a0 n0 x0_0 x0_1 x0_2 x0_3 x0_4 x0_5 x0_6 x0_7 x0_8 x0_9 x0_10 x0_11) (fun _ => rfl) n0
end
theorem eq (k : Nat) (a0 : Ty.den Tl1Cur) : run (E k) Tryd.f33 [.io false Tl1Cur] [TDisk] true true (a0, ()) = f k a0 := (show _ = t k (V0 k a0 k) a0 by kernel_rfl).trans (by rw [e0]; rfl)
theorem ctr (k : Nat) : Ctr J Tryd.prog 33 (C k) :=
  run_ctr (E := E k) rfl mixed tb_ok (eqOk_of tb_eqs) (Cts.cons (spec_l3Disk.ctr k) (Cts.cons (spec_l1Below.ctr k) (Cts.cons (spec_l1PickInt.ctr k) (Cts.cons (spec_l3Used.ctr k) (Cts.cons (spec_l1Pick.ctr k) (Cts.cons (spec_Dec.ctr k) Cts.nil)))))) (by kernel_rfl) Tryd.func33 (by kernel_rfl) rfl (fun ⟨a0, _⟩ r h => (eq k a0).trans h)
end spec_l3Any
namespace spec_DrawOrphans
def C (k : Nat) : Cn := ⟨[.val (.slice (.int .u8))], [TDisk, TLive], true, false, fun x => f k x.1⟩
def E (k : Nat) : Env := ⟨tb, [(20, spec_l1New.C k), (33, spec_l3Any.C k), (21, spec_l7Any.C k)], [], k, 0, []⟩
theorem eq (k : Nat) (a0 : List Int) : run (E k) Tryd.f14 [.val (.slice (.int .u8))] [TDisk, TLive] true false (a0, ()) = f k a0 := by kernel_rfl
theorem ctr (k : Nat) : Ctr J Tryd.prog 14 (C k) :=
  run_ctr (E := E k) rfl mixed tb_ok (eqOk_of tb_eqs) (Cts.cons (spec_l1New.ctr k) (Cts.cons (spec_l3Any.ctr k) (Cts.cons (spec_l7Any.ctr k) Cts.nil))) (by kernel_rfl) Tryd.func14 (by kernel_rfl) rfl (fun ⟨a0, _⟩ r h => (eq k a0).trans h)
end spec_DrawOrphans
namespace impl_NameOk
def C (k : Nat) : Cn := ⟨[.val .str], [.bool], true, false, fun x => f k x.1⟩
def E (k : Nat) : Env := ⟨tb, [(31, impl_in.C k)], [(2, [0, 3])], k, 0, []⟩
section
variable (k : Nat) (a0 : ByteArray)
noncomputable def K0 : Ex → St → Option (Bool × Unit) := runK (E k) (endK (E k) Tryd.f54.results.toList [.val .str] (a0, ()) [.bool] true false) [.blk 0, .code (at_ (bt 2 3) (body Tryd.f54))]
noncomputable def V0 (n0 : Nat) (x0_0 : ByteArray) (x0_1 : Int) : Option (Bool × Unit) := loopN (exec (E k) (at_ (bt 5 5) (body Tryd.f54))) (canon 0 [0, 3]) (K0 k a0) n0 (mk 37 0 [(0, .str x0_0), (3, .int .i64 x0_1)] [])
theorem s0 (n0 : Nat) (x0_0 : ByteArray) (x0_1 : Int) : V0 k a0 (n0 + 1) x0_0 x0_1 = b0 k (V0 k a0 n0) x0_0 x0_1 := by kernel_rfl
theorem e0 (n0 : Nat) : V0 k a0 n0 = l0 k n0 := loop_eq (V := V0 k a0) (l := l0 k) rfl (fun n0 => funext fun x0_0 => funext fun x0_1 => s0 k a0 n0 x0_0 x0_1) (fun _ => rfl) n0
end
theorem eq (k : Nat) (a0 : ByteArray) : run (E k) Tryd.f54 [.val .str] [.bool] true false (a0, ()) = f k a0 := (show _ = t k (V0 k a0 k) a0 by kernel_rfl).trans (by rw [e0]; rfl)
theorem ctr (k : Nat) : Ctr J Tryd.prog 54 (C k) :=
  run_ctr (E := E k) rfl mixed tb_ok (eqOk_of tb_eqs) (Cts.cons (impl_in.ctr k) Cts.nil) (by kernel_rfl) Tryd.func54 (by kernel_rfl) rfl (fun ⟨a0, _⟩ r h => (eq k a0).trans h)
end impl_NameOk
namespace impl_DiskOk
def C (k : Nat) : Cn := ⟨[.val TDisk], [.bool], true, false, fun x => f k x.1⟩
def E (k : Nat) : Env := ⟨tb, [(31, impl_in.C k), (54, impl_NameOk.C k)], [(5, [1, 3, 23, 24, 25])], k, 0, []⟩
section
variable (k : Nat) (a0 : Ty.den TDisk)
noncomputable def K0 : Ex → St → Option (Bool × Unit) := runK (E k) (endK (E k) Tryd.f34.results.toList [.val TDisk] (a0, ()) [.bool] true false) [.blk 0, .code (at_ (bt 4 15) (body Tryd.f34))]
noncomputable def V0 (n0 : Nat) (x0_0 : Int) (x0_1 : List (Ty.den TFile)) (x0_2 : Int) (x0_3 : Int) (x0_4 : List (Ty.den TFile)) (x0_5 : Int) (x0_6 : Int) (x0_7 : Bool) : Option (Bool × Unit) := loopN (exec (E k) (at_ (bt 7 23) (body Tryd.f34))) (canon 0 [1, 3, 23, 24, 25]) (K0 k a0) n0 (mk 69 1 [(1, .ptr 0 0 0), (3, .int .i64 x0_0), (23, .sl true TFile x0_1), (24, .int .i64 x0_2), (25, .int .i64 x0_3)] [(0, .box [.sl true TFile x0_4, .int .i64 x0_5, .int .i64 x0_6, .bool x0_7])])
theorem s0 (n0 : Nat) (x0_0 : Int) (x0_1 : List (Ty.den TFile)) (x0_2 : Int) (x0_3 : Int) (x0_4 : List (Ty.den TFile)) (x0_5 : Int) (x0_6 : Int) (x0_7 : Bool) : V0 k a0 (n0 + 1) x0_0 x0_1 x0_2 x0_3 x0_4 x0_5 x0_6 x0_7 = b0 k (V0 k a0 n0) x0_0 x0_1 x0_2 x0_3 x0_4 x0_5 x0_6 x0_7 := by kernel_rfl
theorem e0 (n0 : Nat) : V0 k a0 n0 = l0 k n0 := loop_eq (V := V0 k a0) (l := l0 k) rfl (fun n0 => funext fun x0_0 => funext fun x0_1 => funext fun x0_2 => funext fun x0_3 => funext fun x0_4 => funext fun x0_5 => funext fun x0_6 => funext fun x0_7 => s0 k a0 n0 x0_0 x0_1 x0_2 x0_3 x0_4 x0_5 x0_6 x0_7) (fun _ => rfl) n0
end
theorem eq (k : Nat) (a0 : Ty.den TDisk) : run (E k) Tryd.f34 [.val TDisk] [.bool] true false (a0, ()) = f k a0 := (show _ = t k (V0 k a0 k) a0 by kernel_rfl).trans (by rw [e0]; rfl)
theorem ctr (k : Nat) : Ctr J Tryd.prog 34 (C k) :=
  run_ctr (E := E k) rfl mixed tb_ok (eqOk_of tb_eqs) (Cts.cons (impl_in.ctr k) (Cts.cons (impl_NameOk.ctr k) Cts.nil)) (by kernel_rfl) Tryd.func34 (by kernel_rfl) rfl (fun ⟨a0, _⟩ r h => (eq k a0).trans h)
end impl_DiskOk
namespace impl_hasInt
def C (k : Nat) : Cn := ⟨[.val (.slice (.int .i64)), .val (.int .i64)], [.bool], true, false, fun x => f k x.1 x.2.1⟩
def E (k : Nat) : Env := ⟨tb, [], [(2, [1, 7, 8, 9])], k, 0, []⟩
section
variable (k : Nat) (a0 : List Int) (a1 : Int)
noncomputable def K0 : Ex → St → Option (Bool × Unit) := runK (E k) (endK (E k) Tryd.f35.results.toList [.val (.slice (.int .i64)), .val (.int .i64)] (a0, a1, ()) [.bool] true false) [.blk 0, .code (at_ (bt 2 3) (body Tryd.f35))]
noncomputable def V0 (n0 : Nat) (x0_0 : Int) (x0_1 : List Int) (x0_2 : Int) (x0_3 : Int) : Option (Bool × Unit) := loopN (exec (E k) (at_ (bt 5 5) (body Tryd.f35))) (canon 0 [1, 7, 8, 9]) (K0 k a0 a1) n0 (mk 17 0 [(1, .int .i64 x0_0), (7, .sl true (.int .i64) x0_1), (8, .int .i64 x0_2), (9, .int .i64 x0_3)] [])
theorem s0 (n0 : Nat) (x0_0 : Int) (x0_1 : List Int) (x0_2 : Int) (x0_3 : Int) : V0 k a0 a1 (n0 + 1) x0_0 x0_1 x0_2 x0_3 = b0 k (V0 k a0 a1 n0) x0_0 x0_1 x0_2 x0_3 := by kernel_rfl
theorem e0 (n0 : Nat) : V0 k a0 a1 n0 = l0 k n0 := loop_eq (V := V0 k a0 a1) (l := l0 k) rfl (fun n0 => funext fun x0_0 => funext fun x0_1 => funext fun x0_2 => funext fun x0_3 => s0 k a0 a1 n0 x0_0 x0_1 x0_2 x0_3) (fun _ => rfl) n0
end
theorem eq (k : Nat) (a0 : List Int) (a1 : Int) : run (E k) Tryd.f35 [.val (.slice (.int .i64)), .val (.int .i64)] [.bool] true false (a0, a1, ()) = f k a0 a1 := (show _ = t k (V0 k a0 a1 k) a0 a1 by kernel_rfl).trans (by rw [e0]; rfl)
theorem ctr (k : Nat) : Ctr J Tryd.prog 35 (C k) :=
  run_ctr (E := E k) rfl mixed tb_ok (eqOk_of tb_eqs) Cts.nil (by kernel_rfl) Tryd.func35 (by kernel_rfl) rfl (fun ⟨a0, a1, _⟩ r h => (eq k a0 a1).trans h)
end impl_hasInt
namespace impl_Orphans
def C (k : Nat) : Cn := ⟨[.val TDisk, .val TLive], [(.slice .str)], true, false, fun x => f k x.1 x.2.1⟩
def E (k : Nat) : Env := ⟨tb, [(34, impl_DiskOk.C k), (11, impl_IdOf.C k), (35, impl_hasInt.C k)], [(5, [3, 5, 14, 15, 16])], k, 0, []⟩
section
variable (k : Nat) (a0 : Ty.den TDisk) (a1 : Ty.den TLive)
noncomputable def K0 : Ex → St → Option ((List ByteArray) × Unit) := runK (E k) (endK (E k) Tryd.f15.results.toList [.val TDisk, .val TLive] (a0, a1, ()) [(.slice .str)] true false) [.blk 0, .code (at_ (bt 4 15) (body Tryd.f15))]
noncomputable def V0 (n0 : Nat) (x0_0 : List (Ty.den TFile)) (x0_1 : Int) (x0_2 : Int) (x0_3 : Int) (x0_4 : List Int) (x0_5 : List ByteArray) : Option ((List ByteArray) × Unit) := loopN (exec (E k) (at_ (bt 7 23) (body Tryd.f15))) (canon 0 [3, 5, 14, 15, 16]) (K0 k a0 a1) n0 (mk 46 2 [(3, .ptr 0 0 0), (5, .ref 1), (14, .sl true TFile x0_0), (15, .int .i64 x0_1), (16, .int .i64 x0_2)] [(0, .box [.int .i64 x0_3, .sl true (.int .i64) x0_4]), (1, .own false .str x0_5)])
theorem s0 (n0 : Nat) (x0_0 : List (Ty.den TFile)) (x0_1 : Int) (x0_2 : Int) (x0_3 : Int) (x0_4 : List Int) (x0_5 : List ByteArray) : V0 k a0 a1 (n0 + 1) x0_0 x0_1 x0_2 x0_3 x0_4 x0_5 = b0 k (V0 k a0 a1 n0) x0_0 x0_1 x0_2 x0_3 x0_4 x0_5 := by kernel_rfl
theorem e0 (n0 : Nat) : V0 k a0 a1 n0 = l0 k n0 := loop_eq (V := V0 k a0 a1) (l := l0 k) rfl (fun n0 => funext fun x0_0 => funext fun x0_1 => funext fun x0_2 => funext fun x0_3 => funext fun x0_4 => funext fun x0_5 => s0 k a0 a1 n0 x0_0 x0_1 x0_2 x0_3 x0_4 x0_5) (fun _ => rfl) n0
end
theorem eq (k : Nat) (a0 : Ty.den TDisk) (a1 : Ty.den TLive) : run (E k) Tryd.f15 [.val TDisk, .val TLive] [(.slice .str)] true false (a0, a1, ()) = f k a0 a1 := (show _ = t k (V0 k a0 a1 k) a0 a1 by kernel_rfl).trans (by rw [e0]; rfl)
theorem ctr (k : Nat) : Ctr J Tryd.prog 15 (C k) :=
  run_ctr (E := E k) rfl mixed tb_ok (eqOk_of tb_eqs) (Cts.cons (impl_DiskOk.ctr k) (Cts.cons (impl_IdOf.ctr k) (Cts.cons (impl_hasInt.ctr k) Cts.nil))) (by kernel_rfl) Tryd.func15 (by kernel_rfl) rfl (fun ⟨a0, a1, _⟩ r h => (eq k a0 a1).trans h)
end impl_Orphans
namespace spec_ReadDec
def C (k : Nat) : Cn := ⟨[.val .str], [(.int .i64), .bool], true, false, fun x => f k x.1⟩
def E (k : Nat) : Env := ⟨tb, [(53, spec_Dec.C k)], [(4, [0, 4, 5, 6])], k, 0, []⟩
section
variable (k : Nat) (a0 : ByteArray)
noncomputable def K0 : Ex → St → Option (Int × Bool × Unit) := runK (E k) (endK (E k) Tryd.f36.results.toList [.val .str] (a0, ()) [(.int .i64), .bool] true false) [.blk 0, .code (at_ (bt 4 15) (body Tryd.f36))]
noncomputable def V0 (n0 : Nat) (x0_0 : ByteArray) (x0_1 : Int) (x0_2 : Int) (x0_3 : Int) : Option (Int × Bool × Unit) := loopN (exec (E k) (at_ (bt 7 23) (body Tryd.f36))) (canon 0 [0, 4, 5, 6]) (K0 k a0) n0 (mk 61 0 [(0, .str x0_0), (4, .int .i64 x0_1), (5, .int .i64 x0_2), (6, .int .i64 x0_3)] [])
theorem s0 (n0 : Nat) (x0_0 : ByteArray) (x0_1 : Int) (x0_2 : Int) (x0_3 : Int) : V0 k a0 (n0 + 1) x0_0 x0_1 x0_2 x0_3 = b0 k (V0 k a0 n0) x0_0 x0_1 x0_2 x0_3 := by kernel_rfl
theorem e0 (n0 : Nat) : V0 k a0 n0 = l0 k n0 := loop_eq (V := V0 k a0) (l := l0 k) rfl (fun n0 => funext fun x0_0 => funext fun x0_1 => funext fun x0_2 => funext fun x0_3 => s0 k a0 n0 x0_0 x0_1 x0_2 x0_3) (fun _ => rfl) n0
end
theorem eq (k : Nat) (a0 : ByteArray) : run (E k) Tryd.f36 [.val .str] [(.int .i64), .bool] true false (a0, ()) = f k a0 := (show _ = t k (V0 k a0 k) a0 by kernel_rfl).trans (by rw [e0]; rfl)
theorem ctr (k : Nat) : Ctr J Tryd.prog 36 (C k) :=
  run_ctr (E := E k) rfl mixed tb_ok (eqOk_of tb_eqs) (Cts.cons (spec_Dec.ctr k) Cts.nil) (by kernel_rfl) Tryd.func36 (by kernel_rfl) rfl (fun ⟨a0, _⟩ r h => (eq k a0).trans h)
end spec_ReadDec
namespace spec_SegName
def C (k : Nat) : Cn := ⟨[.val (.int .i64)], [.str], true, false, fun x => f k x.1⟩
def E (k : Nat) : Env := ⟨tb, [(27, spec_l1In.C k), (53, spec_Dec.C k)], [], k, 0, []⟩
theorem eq (k : Nat) (a0 : Int) : run (E k) Tryd.f37 [.val (.int .i64)] [.str] true false (a0, ()) = f k a0 := by kernel_rfl
theorem ctr (k : Nat) : Ctr J Tryd.prog 37 (C k) :=
  run_ctr (E := E k) rfl mixed tb_ok (eqOk_of tb_eqs) (Cts.cons (spec_l1In.ctr k) (Cts.cons (spec_Dec.ctr k) Cts.nil)) (by kernel_rfl) Tryd.func37 (by kernel_rfl) rfl (fun ⟨a0, _⟩ r h => (eq k a0).trans h)
end spec_SegName
namespace spec_HintName
def C (k : Nat) : Cn := ⟨[.val (.int .i64)], [.str], true, false, fun x => f k x.1⟩
def E (k : Nat) : Env := ⟨tb, [(27, spec_l1In.C k), (53, spec_Dec.C k)], [], k, 0, []⟩
theorem eq (k : Nat) (a0 : Int) : run (E k) Tryd.f38 [.val (.int .i64)] [.str] true false (a0, ()) = f k a0 := by kernel_rfl
theorem ctr (k : Nat) : Ctr J Tryd.prog 38 (C k) :=
  run_ctr (E := E k) rfl mixed tb_ok (eqOk_of tb_eqs) (Cts.cons (spec_l1In.ctr k) (Cts.cons (spec_Dec.ctr k) Cts.nil)) (by kernel_rfl) Tryd.func38 (by kernel_rfl) rfl (fun ⟨a0, _⟩ r h => (eq k a0).trans h)
end spec_HintName
namespace spec_IdOf
def C (k : Nat) : Cn := ⟨[.val .str], [(.int .i64), .bool], true, false, fun x => f k x.1⟩
def E (k : Nat) : Env := ⟨tb, [(36, spec_ReadDec.C k), (37, spec_SegName.C k), (38, spec_HintName.C k)], [(2, [0, 4])], k, 0, []⟩
section
variable (k : Nat) (a0 : ByteArray)
noncomputable def K0 : Ex → St → Option (Int × Bool × Unit) := runK (E k) (endK (E k) Tryd.f16.results.toList [.val .str] (a0, ()) [(.int .i64), .bool] true false) [.blk 0, .code (at_ (bt 2 3) (body Tryd.f16))]
noncomputable def V0 (n0 : Nat) (x0_0 : ByteArray) (x0_1 : Int) : Option (Int × Bool × Unit) := loopN (exec (E k) (at_ (bt 5 5) (body Tryd.f16))) (canon 0 [0, 4]) (K0 k a0) n0 (mk 40 0 [(0, .str x0_0), (4, .int .i64 x0_1)] [])
theorem s0 (n0 : Nat) (x0_0 : ByteArray) (x0_1 : Int) : V0 k a0 (n0 + 1) x0_0 x0_1 = b0 k (V0 k a0 n0) x0_0 x0_1 := by kernel_rfl
theorem e0 (n0 : Nat) : V0 k a0 n0 = l0 k n0 := loop_eq (V := V0 k a0) (l := l0 k) rfl (fun n0 => funext fun x0_0 => funext fun x0_1 => s0 k a0 n0 x0_0 x0_1) (fun _ => rfl) n0
end
theorem eq (k : Nat) (a0 : ByteArray) : run (E k) Tryd.f16 [.val .str] [(.int .i64), .bool] true false (a0, ()) = f k a0 := (show _ = t k (V0 k a0 k) a0 by kernel_rfl).trans (by rw [e0]; rfl)
theorem ctr (k : Nat) : Ctr J Tryd.prog 16 (C k) :=
  run_ctr (E := E k) rfl mixed tb_ok (eqOk_of tb_eqs) (Cts.cons (spec_ReadDec.ctr k) (Cts.cons (spec_SegName.ctr k) (Cts.cons (spec_HintName.ctr k) Cts.nil))) (by kernel_rfl) Tryd.func16 (by kernel_rfl) rfl (fun ⟨a0, _⟩ r h => (eq k a0).trans h)
end spec_IdOf
namespace laws_has
def C (k : Nat) : Cn := ⟨[.val (.slice (.int .i64)), .val (.int .i64)], [.bool], true, false, fun x => f k x.1 x.2.1⟩
def E (k : Nat) : Env := ⟨tb, [], [(2, [0, 1, 5])], k, 0, []⟩
section
variable (k : Nat) (a0 : List Int) (a1 : Int)
noncomputable def K0 : Ex → St → Option (Bool × Unit) := runK (E k) (endK (E k) Tryd.f17.results.toList [.val (.slice (.int .i64)), .val (.int .i64)] (a0, a1, ()) [.bool] true false) [.blk 0, .code (at_ (bt 2 3) (body Tryd.f17))]
noncomputable def V0 (n0 : Nat) (x0_0 : List Int) (x0_1 : Int) (x0_2 : Int) : Option (Bool × Unit) := loopN (exec (E k) (at_ (bt 5 5) (body Tryd.f17))) (canon 0 [0, 1, 5]) (K0 k a0 a1) n0 (mk 18 0 [(0, .sl true (.int .i64) x0_0), (1, .int .i64 x0_1), (5, .int .i64 x0_2)] [])
theorem s0 (n0 : Nat) (x0_0 : List Int) (x0_1 : Int) (x0_2 : Int) : V0 k a0 a1 (n0 + 1) x0_0 x0_1 x0_2 = b0 k (V0 k a0 a1 n0) x0_0 x0_1 x0_2 := by kernel_rfl
theorem e0 (n0 : Nat) : V0 k a0 a1 n0 = l0 k n0 := loop_eq (V := V0 k a0 a1) (l := l0 k) rfl (fun n0 => funext fun x0_0 => funext fun x0_1 => funext fun x0_2 => s0 k a0 a1 n0 x0_0 x0_1 x0_2) (fun _ => rfl) n0
end
theorem eq (k : Nat) (a0 : List Int) (a1 : Int) : run (E k) Tryd.f17 [.val (.slice (.int .i64)), .val (.int .i64)] [.bool] true false (a0, a1, ()) = f k a0 a1 := (show _ = t k (V0 k a0 a1 k) a0 a1 by kernel_rfl).trans (by rw [e0]; rfl)
theorem ctr (k : Nat) : Ctr J Tryd.prog 17 (C k) :=
  run_ctr (E := E k) rfl mixed tb_ok (eqOk_of tb_eqs) Cts.nil (by kernel_rfl) Tryd.func17 (by kernel_rfl) rfl (fun ⟨a0, a1, _⟩ r h => (eq k a0 a1).trans h)
end laws_has
namespace spec_Orphans
def C (k : Nat) : Cn := ⟨[.val TDisk, .val TLive], [(.slice .str)], true, false, fun x => f k x.1 x.2.1⟩
def E (k : Nat) : Env := ⟨tb, [(39, spec_DiskOk.C k), (16, spec_IdOf.C k)], [(5, [2, 3, 5, 6]), (10, [2, 3, 5, 6, 7, 8, 9, 10])], k, 0, []⟩
section
variable (k : Nat) (a0 : Ty.den TDisk) (a1 : Ty.den TLive)
noncomputable def K0 : Ex → St → Option ((List ByteArray) × Unit) := runK (E k) (endK (E k) Tryd.f19.results.toList [.val TDisk, .val TLive] (a0, a1, ()) [(.slice .str)] true false) [.blk 0, .code (at_ (bt 4 15) (body Tryd.f19))]
noncomputable def B0 (n0 : Nat) : Ex → St → Option ((List ByteArray) × Unit) := lpK (E k) (at_ (bt 7 23) (body Tryd.f19)) 0 [2, 3, 5, 6] (K0 k a0 a1) n0
noncomputable def K1 (n0 : Nat) : Ex → St → Option ((List ByteArray) × Unit) := runK (E k) (B0 k a0 a1 n0) [.blk 2, .code (at_ (bt 13 7319) (body Tryd.f19)), .blk 1, .code (at_ (bt 9 407) (body Tryd.f19))]
noncomputable def V0 (n0 : Nat) (x0_0 : Int) (x0_1 : List (Ty.den TFile)) (x0_2 : Int) (x0_3 : Int) (x0_4 : Bool) (x0_5 : Int) (x0_6 : List Int) (x0_7 : List ByteArray) : Option ((List ByteArray) × Unit) := loopN (exec (E k) (at_ (bt 7 23) (body Tryd.f19))) (canon 0 [2, 3, 5, 6]) (K0 k a0 a1) n0 (mk 74 3 [(2, .ptr 0 0 0), (3, .ptr 1 0 0), (5, .ref 2), (6, .int .i64 x0_0)] [(0, .box [.sl true TFile x0_1, .int .i64 x0_2, .int .i64 x0_3, .bool x0_4]), (1, .box [.int .i64 x0_5, .sl true (.int .i64) x0_6]), (2, .own false .str x0_7)])
noncomputable def V1 (n0 n1 : Nat) (x1_0 : Int) (x1_1 : Int) (x1_2 : Bool) (x1_3 : Bool) (x1_4 : Int) (x1_5 : List (Ty.den TFile)) (x1_6 : Int) (x1_7 : Int) (x1_8 : Bool) (x1_9 : Int) (x1_10 : List Int) (x1_11 : List ByteArray) : Option ((List ByteArray) × Unit) := loopN (exec (E k) (at_ (bt 16 11415) (body Tryd.f19))) (canon 0 [2, 3, 5, 6, 7, 8, 9, 10]) (K1 k a0 a1 n0) n1 (mk 74 3 [(2, .ptr 0 0 0), (3, .ptr 1 0 0), (5, .ref 2), (6, .int .i64 x1_0), (7, .int .i64 x1_1), (8, .bool x1_2), (9, .bool x1_3), (10, .int .i64 x1_4)] [(0, .box [.sl true TFile x1_5, .int .i64 x1_6, .int .i64 x1_7, .bool x1_8]), (1, .box [.int .i64 x1_9, .sl true (.int .i64) x1_10]), (2, .own false .str x1_11)])
theorem s0 (n0 : Nat) (x0_0 : Int) (x0_1 : List (Ty.den TFile)) (x0_2 : Int) (x0_3 : Int) (x0_4 : Bool) (x0_5 : Int) (x0_6 : List Int) (x0_7 : List ByteArray) : V0 k a0 a1 (n0 + 1) x0_0 x0_1 x0_2 x0_3 x0_4 x0_5 x0_6 x0_7 = b0 k (V1 k a0 a1 n0 k) (V0 k a0 a1 n0) x0_0 x0_1 x0_2 x0_3 x0_4 x0_5 x0_6 x0_7 := by kernel_rfl
theorem s1 (n0 n1 : Nat) (x1_0 : Int) (x1_1 : Int) (x1_2 : Bool) (x1_3 : Bool) (x1_4 : Int) (x1_5 : List (Ty.den TFile)) (x1_6 : Int) (x1_7 : Int) (x1_8 : Bool) (x1_9 : Int) (x1_10 : List Int) (x1_11 : List ByteArray) : V1 k a0 a1 n0 (n1 + 1) x1_0 x1_1 x1_2 x1_3 x1_4 x1_5 x1_6 x1_7 x1_8 x1_9 x1_10 x1_11 = b1 k (V0 k a0 a1 n0) (V1 k a0 a1 n0 n1) x1_0 x1_1 x1_2 x1_3 x1_4 x1_5 x1_6 x1_7 x1_8 x1_9 x1_10 x1_11 := by kernel_rfl
theorem e1 (n0 n1 : Nat) : V1 k a0 a1 n0 n1 = l1 k (V0 k a0 a1 n0) n1 := loop_eq (V := V1 k a0 a1 n0) (l := l1 k (V0 k a0 a1 n0)) rfl (fun n1 => funext fun x1_0 => funext fun x1_1 => funext fun x1_2 => funext fun x1_3 => funext fun x1_4 => funext fun x1_5 => funext fun x1_6 => funext fun x1_7 => funext fun x1_8 => funext fun x1_9 => funext fun x1_10 => funext fun x1_11 => s1 k a0 a1 n0 n1 x1_0 x1_1 x1_2 x1_3 x1_4 x1_5 x1_6 x1_7 x1_8 x1_9 x1_10 x1_11) (fun _ => rfl) n1
theorem e0 (n0 : Nat) : V0 k a0 a1 n0 = l0 k n0 := by
  induction n0 with
  | zero => rfl
  | succ n0 ih =>
    have h : V0 k a0 a1 (n0 + 1) = b0 k (V1 k a0 a1 n0 k) (V0 k a0 a1 n0) := funext fun x0_0 => funext fun x0_1 => funext fun x0_2 => funext fun x0_3 => funext fun x0_4 => funext fun x0_5 => funext fun x0_6 => funext fun x0_7 => s0 k a0 a1 n0 x0_0 x0_1 x0_2 x0_3 x0_4 x0_5 x0_6 x0_7
    rw [h, e1, ih]
    rfl
end
theorem eq (k : Nat) (a0 : Ty.den TDisk) (a1 : Ty.den TLive) : run (E k) Tryd.f19 [.val TDisk, .val TLive] [(.slice .str)] true false (a0, a1, ()) = f k a0 a1 := (show _ = t k (V0 k a0 a1 k) a0 a1 by kernel_rfl).trans (by rw [e0]; rfl)
theorem ctr (k : Nat) : Ctr J Tryd.prog 19 (C k) :=
  run_ctr (E := E k) rfl mixed tb_ok (eqOk_of tb_eqs) (Cts.cons (spec_DiskOk.ctr k) (Cts.cons (spec_IdOf.ctr k) Cts.nil)) (by kernel_rfl) Tryd.func19 (by kernel_rfl) rfl (fun ⟨a0, a1, _⟩ r h => (eq k a0 a1).trans h)
end spec_Orphans
namespace laws_sameTexts
def C (k : Nat) : Cn := ⟨[.val (.slice .str), .val (.slice .str)], [.bool], true, false, fun x => f k x.1 x.2.1⟩
def E (k : Nat) : Env := ⟨tb, [], [(4, [0, 1, 5])], k, 0, []⟩
section
variable (k : Nat) (a0 : List ByteArray) (a1 : List ByteArray)
noncomputable def K0 : Ex → St → Option (Bool × Unit) := runK (E k) (endK (E k) Tryd.f18.results.toList [.val (.slice .str), .val (.slice .str)] (a0, a1, ()) [.bool] true false) [.blk 0, .code (at_ (bt 3 7) (body Tryd.f18))]
noncomputable def V0 (n0 : Nat) (x0_0 : List ByteArray) (x0_1 : List ByteArray) (x0_2 : Int) : Option (Bool × Unit) := loopN (exec (E k) (at_ (bt 6 11) (body Tryd.f18))) (canon 0 [0, 1, 5]) (K0 k a0 a1) n0 (mk 26 0 [(0, .sl true .str x0_0), (1, .sl true .str x0_1), (5, .int .i64 x0_2)] [])
theorem s0 (n0 : Nat) (x0_0 : List ByteArray) (x0_1 : List ByteArray) (x0_2 : Int) : V0 k a0 a1 (n0 + 1) x0_0 x0_1 x0_2 = b0 k (V0 k a0 a1 n0) x0_0 x0_1 x0_2 := by kernel_rfl
theorem e0 (n0 : Nat) : V0 k a0 a1 n0 = l0 k n0 := loop_eq (V := V0 k a0 a1) (l := l0 k) rfl (fun n0 => funext fun x0_0 => funext fun x0_1 => funext fun x0_2 => s0 k a0 a1 n0 x0_0 x0_1 x0_2) (fun _ => rfl) n0
end
theorem eq (k : Nat) (a0 : List ByteArray) (a1 : List ByteArray) : run (E k) Tryd.f18 [.val (.slice .str), .val (.slice .str)] [.bool] true false (a0, a1, ()) = f k a0 a1 := (show _ = t k (V0 k a0 a1 k) a0 a1 by kernel_rfl).trans (by rw [e0]; rfl)
theorem ctr (k : Nat) : Ctr J Tryd.prog 18 (C k) :=
  run_ctr (E := E k) rfl mixed tb_ok (eqOk_of tb_eqs) Cts.nil (by kernel_rfl) Tryd.func18 (by kernel_rfl) rfl (fun ⟨a0, a1, _⟩ r h => (eq k a0 a1).trans h)
end laws_sameTexts
namespace laws_FnNames
def C (k : Nat) : Cn := ⟨[.val (.slice (.int .u8))], [.bool], true, false, fun x => f k x.1⟩
def E (k : Nat) : Env := ⟨tb, [(4, laws_big.C k), (5, spec_DrawShowLive.C k), (6, impl_ShowLive.C k), (7, impl_ReadLive.C k), (8, spec_LiveOk.C k), (9, laws_sameInts.C k), (10, spec_DrawSegName.C k), (12, impl_SegName.C k), (11, impl_IdOf.C k), (13, impl_HintName.C k), (14, spec_DrawOrphans.C k), (15, impl_Orphans.C k), (16, spec_IdOf.C k), (17, laws_has.C k), (19, spec_Orphans.C k), (18, laws_sameTexts.C k)], [(17, [13, 14, 15, 16])], k, 0, []⟩
section
variable (k : Nat) (a0 : List Int)
noncomputable def K0 : Ex → St → Option (Bool × Unit) := runK (E k) (endK (E k) Tryd.f3.results.toList [.val (.slice (.int .u8))] (a0, ()) [.bool] true false) [.blk 0, .code (at_ (bt 14 16383) (body Tryd.f3))]
noncomputable def V0 (n0 : Nat) (x0_0 : Int) (x0_1 : List (Ty.den TFile)) (x0_2 : Int) (x0_3 : Int) (x0_4 : Bool) (x0_5 : List Int) (x0_6 : Int) (x0_7 : List ByteArray) : Option (Bool × Unit) := loopN (exec (E k) (at_ (bt 17 24575) (body Tryd.f3))) (canon 0 [13, 14, 15, 16]) (K0 k a0) n0 (mk 142 5 [(13, .ptr 0 0 0), (14, .ptr 2 0 0), (15, .ref 4), (16, .int .i64 x0_0)] [(1, .own false TFile x0_1), (0, .box [.ref 1, .int .i64 x0_2, .int .i64 x0_3, .bool x0_4]), (3, .own false (.int .i64) x0_5), (2, .box [.int .i64 x0_6, .ref 3]), (4, .own false .str x0_7)])
noncomputable def V1 (n0 : Nat) (x1_0 : Int) (x1_1 : List (Ty.den TFile)) (x1_2 : Int) (x1_3 : Int) (x1_4 : Bool) (x1_5 : List Int) (x1_6 : Int) (x1_7 : List ByteArray) : Option (Bool × Unit) := loopN (exec (E k) (at_ (bt 17 24575) (body Tryd.f3))) (canon 0 [13, 14, 15, 16]) (K0 k a0) n0 (mk 142 5 [(13, .ptr 0 0 0), (14, .ptr 2 0 0), (15, .ref 4), (16, .int .i64 x1_0)] [(1, .own false TFile x1_1), (0, .box [.ref 1, .int .i64 x1_2, .int .i64 x1_3, .bool x1_4]), (3, .own false (.int .i64) x1_5), (2, .box [.int .i64 x1_6, .ref 3]), (4, .own false .str x1_7)])
noncomputable def V2 (n0 : Nat) (x2_0 : Int) (x2_1 : List (Ty.den TFile)) (x2_2 : Int) (x2_3 : Int) (x2_4 : Bool) (x2_5 : List Int) (x2_6 : Int) (x2_7 : List ByteArray) : Option (Bool × Unit) := loopN (exec (E k) (at_ (bt 17 24575) (body Tryd.f3))) (canon 0 [13, 14, 15, 16]) (K0 k a0) n0 (mk 142 5 [(13, .ptr 0 0 0), (14, .ptr 2 0 0), (15, .ref 4), (16, .int .i64 x2_0)] [(1, .own false TFile x2_1), (0, .box [.ref 1, .int .i64 x2_2, .int .i64 x2_3, .bool x2_4]), (3, .own false (.int .i64) x2_5), (2, .box [.int .i64 x2_6, .ref 3]), (4, .own false .str x2_7)])
noncomputable def V3 (n0 : Nat) (x3_0 : Int) (x3_1 : List (Ty.den TFile)) (x3_2 : Int) (x3_3 : Int) (x3_4 : Bool) (x3_5 : List Int) (x3_6 : Int) (x3_7 : List ByteArray) : Option (Bool × Unit) := loopN (exec (E k) (at_ (bt 17 24575) (body Tryd.f3))) (canon 0 [13, 14, 15, 16]) (K0 k a0) n0 (mk 142 5 [(13, .ptr 0 0 0), (14, .ptr 2 0 0), (15, .ref 4), (16, .int .i64 x3_0)] [(1, .own false TFile x3_1), (0, .box [.ref 1, .int .i64 x3_2, .int .i64 x3_3, .bool x3_4]), (3, .own false (.int .i64) x3_5), (2, .box [.int .i64 x3_6, .ref 3]), (4, .own false .str x3_7)])
noncomputable def V4 (n0 : Nat) (x4_0 : Int) (x4_1 : List (Ty.den TFile)) (x4_2 : Int) (x4_3 : Int) (x4_4 : Bool) (x4_5 : List Int) (x4_6 : Int) (x4_7 : List ByteArray) : Option (Bool × Unit) := loopN (exec (E k) (at_ (bt 17 24575) (body Tryd.f3))) (canon 0 [13, 14, 15, 16]) (K0 k a0) n0 (mk 142 5 [(13, .ptr 0 0 0), (14, .ptr 2 0 0), (15, .ref 4), (16, .int .i64 x4_0)] [(1, .own false TFile x4_1), (0, .box [.ref 1, .int .i64 x4_2, .int .i64 x4_3, .bool x4_4]), (3, .own false (.int .i64) x4_5), (2, .box [.int .i64 x4_6, .ref 3]), (4, .own false .str x4_7)])
noncomputable def V5 (n0 : Nat) (x5_0 : Int) (x5_1 : List (Ty.den TFile)) (x5_2 : Int) (x5_3 : Int) (x5_4 : Bool) (x5_5 : List Int) (x5_6 : Int) (x5_7 : List ByteArray) : Option (Bool × Unit) := loopN (exec (E k) (at_ (bt 17 24575) (body Tryd.f3))) (canon 0 [13, 14, 15, 16]) (K0 k a0) n0 (mk 142 5 [(13, .ptr 0 0 0), (14, .ptr 2 0 0), (15, .ref 4), (16, .int .i64 x5_0)] [(1, .own false TFile x5_1), (0, .box [.ref 1, .int .i64 x5_2, .int .i64 x5_3, .bool x5_4]), (3, .own false (.int .i64) x5_5), (2, .box [.int .i64 x5_6, .ref 3]), (4, .own false .str x5_7)])
theorem s0 (n0 : Nat) (x0_0 : Int) (x0_1 : List (Ty.den TFile)) (x0_2 : Int) (x0_3 : Int) (x0_4 : Bool) (x0_5 : List Int) (x0_6 : Int) (x0_7 : List ByteArray) : V0 k a0 (n0 + 1) x0_0 x0_1 x0_2 x0_3 x0_4 x0_5 x0_6 x0_7 = b0 k (V0 k a0 n0) x0_0 x0_1 x0_2 x0_3 x0_4 x0_5 x0_6 x0_7 := by kernel_rfl
theorem s1 (n0 : Nat) (x1_0 : Int) (x1_1 : List (Ty.den TFile)) (x1_2 : Int) (x1_3 : Int) (x1_4 : Bool) (x1_5 : List Int) (x1_6 : Int) (x1_7 : List ByteArray) : V1 k a0 (n0 + 1) x1_0 x1_1 x1_2 x1_3 x1_4 x1_5 x1_6 x1_7 = b1 k (V1 k a0 n0) x1_0 x1_1 x1_2 x1_3 x1_4 x1_5 x1_6 x1_7 := by kernel_rfl
theorem s2 (n0 : Nat) (x2_0 : Int) (x2_1 : List (Ty.den TFile)) (x2_2 : Int) (x2_3 : Int) (x2_4 : Bool) (x2_5 : List Int) (x2_6 : Int) (x2_7 : List ByteArray) : V2 k a0 (n0 + 1) x2_0 x2_1 x2_2 x2_3 x2_4 x2_5 x2_6 x2_7 = b2 k (V2 k a0 n0) x2_0 x2_1 x2_2 x2_3 x2_4 x2_5 x2_6 x2_7 := by kernel_rfl
theorem s3 (n0 : Nat) (x3_0 : Int) (x3_1 : List (Ty.den TFile)) (x3_2 : Int) (x3_3 : Int) (x3_4 : Bool) (x3_5 : List Int) (x3_6 : Int) (x3_7 : List ByteArray) : V3 k a0 (n0 + 1) x3_0 x3_1 x3_2 x3_3 x3_4 x3_5 x3_6 x3_7 = b3 k (V3 k a0 n0) x3_0 x3_1 x3_2 x3_3 x3_4 x3_5 x3_6 x3_7 := by kernel_rfl
theorem s4 (n0 : Nat) (x4_0 : Int) (x4_1 : List (Ty.den TFile)) (x4_2 : Int) (x4_3 : Int) (x4_4 : Bool) (x4_5 : List Int) (x4_6 : Int) (x4_7 : List ByteArray) : V4 k a0 (n0 + 1) x4_0 x4_1 x4_2 x4_3 x4_4 x4_5 x4_6 x4_7 = b4 k (V4 k a0 n0) x4_0 x4_1 x4_2 x4_3 x4_4 x4_5 x4_6 x4_7 := by kernel_rfl
theorem s5 (n0 : Nat) (x5_0 : Int) (x5_1 : List (Ty.den TFile)) (x5_2 : Int) (x5_3 : Int) (x5_4 : Bool) (x5_5 : List Int) (x5_6 : Int) (x5_7 : List ByteArray) : V5 k a0 (n0 + 1) x5_0 x5_1 x5_2 x5_3 x5_4 x5_5 x5_6 x5_7 = b5 k (V5 k a0 n0) x5_0 x5_1 x5_2 x5_3 x5_4 x5_5 x5_6 x5_7 := by kernel_rfl
theorem e0 (n0 : Nat) : V0 k a0 n0 = l0 k n0 := loop_eq (V := V0 k a0) (l := l0 k) rfl (fun n0 => funext fun x0_0 => funext fun x0_1 => funext fun x0_2 => funext fun x0_3 => funext fun x0_4 => funext fun x0_5 => funext fun x0_6 => funext fun x0_7 => s0 k a0 n0 x0_0 x0_1 x0_2 x0_3 x0_4 x0_5 x0_6 x0_7) (fun _ => rfl) n0
theorem e1 (n0 : Nat) : V1 k a0 n0 = l1 k n0 := loop_eq (V := V1 k a0) (l := l1 k) rfl (fun n0 => funext fun x1_0 => funext fun x1_1 => funext fun x1_2 => funext fun x1_3 => funext fun x1_4 => funext fun x1_5 => funext fun x1_6 => funext fun x1_7 => s1 k a0 n0 x1_0 x1_1 x1_2 x1_3 x1_4 x1_5 x1_6 x1_7) (fun _ => rfl) n0
theorem e2 (n0 : Nat) : V2 k a0 n0 = l2 k n0 := loop_eq (V := V2 k a0) (l := l2 k) rfl (fun n0 => funext fun x2_0 => funext fun x2_1 => funext fun x2_2 => funext fun x2_3 => funext fun x2_4 => funext fun x2_5 => funext fun x2_6 => funext fun x2_7 => s2 k a0 n0 x2_0 x2_1 x2_2 x2_3 x2_4 x2_5 x2_6 x2_7) (fun _ => rfl) n0
theorem e3 (n0 : Nat) : V3 k a0 n0 = l3 k n0 := loop_eq (V := V3 k a0) (l := l3 k) rfl (fun n0 => funext fun x3_0 => funext fun x3_1 => funext fun x3_2 => funext fun x3_3 => funext fun x3_4 => funext fun x3_5 => funext fun x3_6 => funext fun x3_7 => s3 k a0 n0 x3_0 x3_1 x3_2 x3_3 x3_4 x3_5 x3_6 x3_7) (fun _ => rfl) n0
theorem e4 (n0 : Nat) : V4 k a0 n0 = l4 k n0 := loop_eq (V := V4 k a0) (l := l4 k) rfl (fun n0 => funext fun x4_0 => funext fun x4_1 => funext fun x4_2 => funext fun x4_3 => funext fun x4_4 => funext fun x4_5 => funext fun x4_6 => funext fun x4_7 => s4 k a0 n0 x4_0 x4_1 x4_2 x4_3 x4_4 x4_5 x4_6 x4_7) (fun _ => rfl) n0
theorem e5 (n0 : Nat) : V5 k a0 n0 = l5 k n0 := loop_eq (V := V5 k a0) (l := l5 k) rfl (fun n0 => funext fun x5_0 => funext fun x5_1 => funext fun x5_2 => funext fun x5_3 => funext fun x5_4 => funext fun x5_5 => funext fun x5_6 => funext fun x5_7 => s5 k a0 n0 x5_0 x5_1 x5_2 x5_3 x5_4 x5_5 x5_6 x5_7) (fun _ => rfl) n0
end
theorem eq (k : Nat) (a0 : List Int) : run (E k) Tryd.f3 [.val (.slice (.int .u8))] [.bool] true false (a0, ()) = f k a0 := (show _ = t k (V0 k a0 k) (V1 k a0 k) (V2 k a0 k) (V3 k a0 k) (V4 k a0 k) (V5 k a0 k) a0 by kernel_rfl).trans (by rw [e0, e1, e2, e3, e4, e5]; rfl)
theorem ctr (k : Nat) : Ctr J Tryd.prog 3 (C k) :=
  run_ctr (E := E k) rfl mixed tb_ok (eqOk_of tb_eqs) (Cts.cons (laws_big.ctr k) (Cts.cons (spec_DrawShowLive.ctr k) (Cts.cons (impl_ShowLive.ctr k) (Cts.cons (impl_ReadLive.ctr k) (Cts.cons (spec_LiveOk.ctr k) (Cts.cons (laws_sameInts.ctr k) (Cts.cons (spec_DrawSegName.ctr k) (Cts.cons (impl_SegName.ctr k) (Cts.cons (impl_IdOf.ctr k) (Cts.cons (impl_HintName.ctr k) (Cts.cons (spec_DrawOrphans.ctr k) (Cts.cons (impl_Orphans.ctr k) (Cts.cons (spec_IdOf.ctr k) (Cts.cons (laws_has.ctr k) (Cts.cons (spec_Orphans.ctr k) (Cts.cons (laws_sameTexts.ctr k) Cts.nil)))))))))))))))) (by kernel_rfl) Tryd.func3 (by kernel_rfl) rfl (fun ⟨a0, _⟩ r h => (eq k a0).trans h)
end laws_FnNames
end Go.Proofs.YtccccehgfmphjaaDoor.G

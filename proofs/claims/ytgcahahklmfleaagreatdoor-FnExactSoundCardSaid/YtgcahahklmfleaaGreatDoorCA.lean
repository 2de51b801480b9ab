/- Functions keep their contracts. -/
import Derived.Test.YtgcahahklmfleaaGreatDoorVTab
import Derived.Test.YtgcahahklmfleaaGreatDoorFA
import Derived.Test.YtgcahahklmfleaaGreatDoorCLib
set_option linter.unusedVariables false
set_option maxRecDepth 100000
namespace Go.Proofs.YtgcahahklmfleaaGreatDoor.G
open Go.V
namespace laws_szFile
def C (k : Nat) : Cn := ⟨[.val TPair, .val (.int .i64)], [(.int .i64)], true, false, fun x => f k x.1 x.2.1⟩
def E (k : Nat) : Env := ⟨tb, [], [], k, 0, []⟩
theorem eq (k : Nat) (a0 : Ty.den TPair) (a1 : Int) : run (E k) Tryz.f106 [.val TPair, .val (.int .i64)] [(.int .i64)] true false (a0, a1, ()) = f k a0 a1 := by kernel_rfl
theorem ctr (k : Nat) : Ctr J Tryz.prog 106 (C k) :=
  run_ctr (E := E k) mixed tb_ok (eqOk_of tb_eqs) Cts.nil (by kernel_rfl) Tryz.func106 (by kernel_rfl) rfl (fun ⟨a0, a1, _⟩ r h => (eq k a0 a1).trans h)
end laws_szFile
namespace laws_szFileS
def C (k : Nat) : Cn := ⟨[.val (.slice TPair), .val (.int .i64)], [(.int .i64)], true, false, fun x => f k x.1 x.2.1⟩
def E (k : Nat) : Env := ⟨tb, [(106, laws_szFile.C k)], [(5, [0, 1, 5])], k, 0, []⟩
section
variable (k : Nat) (a0 : List (Ty.den TPair)) (a1 : Int)
noncomputable def K0 : Ex → St → Option (Int × Unit) := runK (E k) (endK (E k) Tryz.f45.results.toList [.val (.slice TPair), .val (.int .i64)] (a0, a1, ()) [(.int .i64)] true false) [.blk 0, .code (at_ (bt 4 15) (body Tryz.f45))]
noncomputable def V0 (n0 : Nat) (x0_0 : List (Ty.den TPair)) (x0_1 : Int) (x0_2 : Int) : Option (Int × Unit) := loopN (exec (E k) (at_ (bt 7 23) (body Tryz.f45))) (canon 0 [0, 1, 5]) (K0 k a0 a1) n0 (mk 27 0 [(0, .sl true TPair x0_0), (1, .int .i64 x0_1), (5, .int .i64 x0_2)] [])
theorem s0 (n0 : Nat) (x0_0 : List (Ty.den TPair)) (x0_1 : Int) (x0_2 : Int) : V0 k a0 a1 (n0 + 1) x0_0 x0_1 x0_2 = b0 k (V0 k a0 a1 n0) x0_0 x0_1 x0_2 := by kernel_rfl
theorem e0 (n0 : Nat) : V0 k a0 a1 n0 = l0 k n0 := loop_eq (V := V0 k a0 a1) (l := l0 k) rfl (fun n0 => funext fun x0_0 => funext fun x0_1 => funext fun x0_2 => s0 k a0 a1 n0 x0_0 x0_1 x0_2) (fun _ => rfl) n0
end
theorem eq (k : Nat) (a0 : List (Ty.den TPair)) (a1 : Int) : run (E k) Tryz.f45 [.val (.slice TPair), .val (.int .i64)] [(.int .i64)] true false (a0, a1, ()) = f k a0 a1 := (show _ = t k (V0 k a0 a1 k) a0 a1 by kernel_rfl).trans (by rw [e0]; rfl)
theorem ctr (k : Nat) : Ctr J Tryz.prog 45 (C k) :=
  run_ctr (E := E k) mixed tb_ok (eqOk_of tb_eqs) (Cts.cons (laws_szFile.ctr k) Cts.nil) (by kernel_rfl) Tryz.func45 (by kernel_rfl) rfl (fun ⟨a0, a1, _⟩ r h => (eq k a0 a1).trans h)
end laws_szFileS
namespace laws_szDisk
def C (k : Nat) : Cn := ⟨[.val TDisk, .val (.int .i64)], [(.int .i64)], true, false, fun x => f k x.1 x.2.1⟩
def E (k : Nat) : Env := ⟨tb, [(45, laws_szFileS.C k)], [], k, 0, []⟩
theorem eq (k : Nat) (a0 : Ty.den TDisk) (a1 : Int) : run (E k) Tryz.f10 [.val TDisk, .val (.int .i64)] [(.int .i64)] true false (a0, a1, ()) = f k a0 a1 := by kernel_rfl
theorem ctr (k : Nat) : Ctr J Tryz.prog 10 (C k) :=
  run_ctr (E := E k) mixed tb_ok (eqOk_of tb_eqs) (Cts.cons (laws_szFileS.ctr k) Cts.nil) (by kernel_rfl) Tryz.func10 (by kernel_rfl) rfl (fun ⟨a0, a1, _⟩ r h => (eq k a0 a1).trans h)
end laws_szDisk
namespace laws_toFile
def C (k : Nat) : Cn := ⟨[.val TPair], [TPair], true, false, fun x => f k x.1⟩
def E (k : Nat) : Env := ⟨tb, [], [], k, 0, []⟩
theorem eq (k : Nat) (a0 : Ty.den TPair) : run (E k) Tryz.f117 [.val TPair] [TPair] true false (a0, ()) = f k a0 := by kernel_rfl
theorem ctr (k : Nat) : Ctr J Tryz.prog 117 (C k) :=
  run_ctr (E := E k) mixed tb_ok (eqOk_of tb_eqs) Cts.nil (by kernel_rfl) Tryz.func117 (by kernel_rfl) rfl (fun ⟨a0, _⟩ r h => (eq k a0).trans h)
end laws_toFile
namespace laws_toFileS
def C (k : Nat) : Cn := ⟨[.val (.slice TPair)], [(.slice TPair)], true, false, fun x => f k x.1⟩
def E (k : Nat) : Env := ⟨tb, [(117, laws_toFile.C k)], [(3, [0, 3, 4])], k, 0, []⟩
section
variable (k : Nat) (a0 : List (Ty.den TPair))
noncomputable def K0 : Ex → St → Option ((List (Ty.den TPair)) × Unit) := runK (E k) (endK (E k) Tryz.f52.results.toList [.val (.slice TPair)] (a0, ()) [(.slice TPair)] true false) [.blk 0, .code (at_ (bt 3 7) (body Tryz.f52))]
noncomputable def V0 (n0 : Nat) (x0_0 : List (Ty.den TPair)) (x0_1 : Int) (x0_2 : List (Ty.den TPair)) : Option ((List (Ty.den TPair)) × Unit) := loopN (exec (E k) (at_ (bt 6 11) (body Tryz.f52))) (canon 0 [0, 3, 4]) (K0 k a0) n0 (mk 23 1 [(0, .sl true TPair x0_0), (3, .ref 0), (4, .int .i64 x0_1)] [(0, .own false TPair x0_2)])
theorem s0 (n0 : Nat) (x0_0 : List (Ty.den TPair)) (x0_1 : Int) (x0_2 : List (Ty.den TPair)) : V0 k a0 (n0 + 1) x0_0 x0_1 x0_2 = b0 k (V0 k a0 n0) x0_0 x0_1 x0_2 := by kernel_rfl
theorem e0 (n0 : Nat) : V0 k a0 n0 = l0 k n0 := loop_eq (V := V0 k a0) (l := l0 k) rfl (fun n0 => funext fun x0_0 => funext fun x0_1 => funext fun x0_2 => s0 k a0 n0 x0_0 x0_1 x0_2) (fun _ => rfl) n0
end
theorem eq (k : Nat) (a0 : List (Ty.den TPair)) : run (E k) Tryz.f52 [.val (.slice TPair)] [(.slice TPair)] true false (a0, ()) = f k a0 := (show _ = t k (V0 k a0 k) a0 by kernel_rfl).trans (by rw [e0]; rfl)
theorem ctr (k : Nat) : Ctr J Tryz.prog 52 (C k) :=
  run_ctr (E := E k) mixed tb_ok (eqOk_of tb_eqs) (Cts.cons (laws_toFile.ctr k) Cts.nil) (by kernel_rfl) Tryz.func52 (by kernel_rfl) rfl (fun ⟨a0, _⟩ r h => (eq k a0).trans h)
end laws_toFileS
namespace laws_toDisk
def C (k : Nat) : Cn := ⟨[.val TDisk], [TDisk], true, false, fun x => f k x.1⟩
def E (k : Nat) : Env := ⟨tb, [(52, laws_toFileS.C k)], [], k, 0, []⟩
theorem eq (k : Nat) (a0 : Ty.den TDisk) : run (E k) Tryz.f13 [.val TDisk] [TDisk] true false (a0, ()) = f k a0 := by kernel_rfl
theorem ctr (k : Nat) : Ctr J Tryz.prog 13 (C k) :=
  run_ctr (E := E k) mixed tb_ok (eqOk_of tb_eqs) (Cts.cons (laws_toFileS.ctr k) Cts.nil) (by kernel_rfl) Tryz.func13 (by kernel_rfl) rfl (fun ⟨a0, _⟩ r h => (eq k a0).trans h)
end laws_toDisk
namespace spec_l1In
def C (k : Nat) : Cn := ⟨[.val (.int .i64), .val (.int .i64), .val (.int .i64)], [.bool], true, false, fun x => f k x.1 x.2.1 x.2.2.1⟩
def E (k : Nat) : Env := ⟨tb, [], [], k, 0, []⟩
theorem eq (k : Nat) (a0 : Int) (a1 : Int) (a2 : Int) : run (E k) Tryz.f60 [.val (.int .i64), .val (.int .i64), .val (.int .i64)] [.bool] true false (a0, a1, a2, ()) = f k a0 a1 a2 := by kernel_rfl
theorem ctr (k : Nat) : Ctr J Tryz.prog 60 (C k) :=
  run_ctr (E := E k) mixed tb_ok (eqOk_of tb_eqs) Cts.nil (by kernel_rfl) Tryz.func60 (by kernel_rfl) rfl (fun ⟨a0, a1, a2, _⟩ r h => (eq k a0 a1 a2).trans h)
end spec_l1In
namespace spec_l3Used
def C (k : Nat) : Cn := ⟨[.val TDisk], [(.int .i64)], true, false, fun x => f k x.1⟩
def E (k : Nat) : Env := ⟨tb, [], [(3, [1, 3, 4])], k, 0, []⟩
section
variable (k : Nat) (a0 : Ty.den TDisk)
noncomputable def K0 : Ex → St → Option (Int × Unit) := runK (E k) (endK (E k) Tryz.f156.results.toList [.val TDisk] (a0, ()) [(.int .i64)] true false) [.blk 0, .code (at_ (bt 3 7) (body Tryz.f156))]
noncomputable def V0 (n0 : Nat) (x0_0 : Int) (x0_1 : Int) (x0_2 : List (Ty.den TPair)) (x0_3 : Int) (x0_4 : Int) (x0_5 : Bool) : Option (Int × Unit) := loopN (exec (E k) (at_ (bt 6 11) (body Tryz.f156))) (canon 0 [1, 3, 4]) (K0 k a0) n0 (mk 22 1 [(1, .ptr 0 0 0), (3, .int .i64 x0_0), (4, .int .i64 x0_1)] [(0, .box [.sl true TPair x0_2, .int .i64 x0_3, .int .i64 x0_4, .bool x0_5])])
theorem s0 (n0 : Nat) (x0_0 : Int) (x0_1 : Int) (x0_2 : List (Ty.den TPair)) (x0_3 : Int) (x0_4 : Int) (x0_5 : Bool) : V0 k a0 (n0 + 1) x0_0 x0_1 x0_2 x0_3 x0_4 x0_5 = b0 k (V0 k a0 n0) x0_0 x0_1 x0_2 x0_3 x0_4 x0_5 := by kernel_rfl
theorem e0 (n0 : Nat) : V0 k a0 n0 = l0 k n0 := loop_eq (V := V0 k a0) (l := l0 k) rfl (fun n0 => funext fun x0_0 => funext fun x0_1 => funext fun x0_2 => funext fun x0_3 => funext fun x0_4 => funext fun x0_5 => s0 k a0 n0 x0_0 x0_1 x0_2 x0_3 x0_4 x0_5) (fun _ => rfl) n0
end
theorem eq (k : Nat) (a0 : Ty.den TDisk) : run (E k) Tryz.f156 [.val TDisk] [(.int .i64)] true false (a0, ()) = f k a0 := (show _ = t k (V0 k a0 k) a0 by kernel_rfl).trans (by rw [e0]; rfl)
theorem ctr (k : Nat) : Ctr J Tryz.prog 156 (C k) :=
  run_ctr (E := E k) mixed tb_ok (eqOk_of tb_eqs) Cts.nil (by kernel_rfl) Tryz.func156 (by kernel_rfl) rfl (fun ⟨a0, _⟩ r h => (eq k a0).trans h)
end spec_l3Used
namespace spec_NameOk
def C (k : Nat) : Cn := ⟨[.val .str], [.bool], true, false, fun x => f k x.1⟩
def E (k : Nat) : Env := ⟨tb, [(60, spec_l1In.C k)], [(2, [0, 3])], k, 0, []⟩
section
variable (k : Nat) (a0 : ByteArray)
noncomputable def K0 : Ex → St → Option (Bool × Unit) := runK (E k) (endK (E k) Tryz.f157.results.toList [.val .str] (a0, ()) [.bool] true false) [.blk 0, .code (at_ (bt 2 3) (body Tryz.f157))]
noncomputable def V0 (n0 : Nat) (x0_0 : ByteArray) (x0_1 : Int) : Option (Bool × Unit) := loopN (exec (E k) (at_ (bt 5 5) (body Tryz.f157))) (canon 0 [0, 3]) (K0 k a0) n0 (mk 36 0 [(0, .str x0_0), (3, .int .i64 x0_1)] [])
theorem s0 (n0 : Nat) (x0_0 : ByteArray) (x0_1 : Int) : V0 k a0 (n0 + 1) x0_0 x0_1 = b0 k (V0 k a0 n0) x0_0 x0_1 := by kernel_rfl
theorem e0 (n0 : Nat) : V0 k a0 n0 = l0 k n0 := loop_eq (V := V0 k a0) (l := l0 k) rfl (fun n0 => funext fun x0_0 => funext fun x0_1 => s0 k a0 n0 x0_0 x0_1) (fun _ => rfl) n0
end
theorem eq (k : Nat) (a0 : ByteArray) : run (E k) Tryz.f157 [.val .str] [.bool] true false (a0, ()) = f k a0 := (show _ = t k (V0 k a0 k) a0 by kernel_rfl).trans (by rw [e0]; rfl)
theorem ctr (k : Nat) : Ctr J Tryz.prog 157 (C k) :=
  run_ctr (E := E k) mixed tb_ok (eqOk_of tb_eqs) (Cts.cons (spec_l1In.ctr k) Cts.nil) (by kernel_rfl) Tryz.func157 (by kernel_rfl) rfl (fun ⟨a0, _⟩ r h => (eq k a0).trans h)
end spec_NameOk
namespace spec_DiskOk
def C (k : Nat) : Cn := ⟨[.val TDisk], [.bool], true, false, fun x => f k x.1⟩
def E (k : Nat) : Env := ⟨tb, [(60, spec_l1In.C k), (156, spec_l3Used.C k), (157, spec_NameOk.C k)], [(4, [1, 3])], k, 0, []⟩
section
variable (k : Nat) (a0 : Ty.den TDisk)
noncomputable def K0 : Ex → St → Option (Bool × Unit) := runK (E k) (endK (E k) Tryz.f107.results.toList [.val TDisk] (a0, ()) [.bool] true false) [.blk 0, .code (at_ (bt 3 7) (body Tryz.f107))]
noncomputable def V0 (n0 : Nat) (x0_0 : Int) (x0_1 : List (Ty.den TPair)) (x0_2 : Int) (x0_3 : Int) (x0_4 : Bool) : Option (Bool × Unit) := loopN (exec (E k) (at_ (bt 6 11) (body Tryz.f107))) (canon 0 [1, 3]) (K0 k a0) n0 (mk 79 1 [(1, .ptr 0 0 0), (3, .int .i64 x0_0)] [(0, .box [.sl true TPair x0_1, .int .i64 x0_2, .int .i64 x0_3, .bool x0_4])])
theorem s0 (n0 : Nat) (x0_0 : Int) (x0_1 : List (Ty.den TPair)) (x0_2 : Int) (x0_3 : Int) (x0_4 : Bool) : V0 k a0 (n0 + 1) x0_0 x0_1 x0_2 x0_3 x0_4 = b0 k (V0 k a0 n0) x0_0 x0_1 x0_2 x0_3 x0_4 := by kernel_rfl
theorem e0 (n0 : Nat) : V0 k a0 n0 = l0 k n0 := loop_eq (V := V0 k a0) (l := l0 k) rfl (fun n0 => funext fun x0_0 => funext fun x0_1 => funext fun x0_2 => funext fun x0_3 => funext fun x0_4 => s0 k a0 n0 x0_0 x0_1 x0_2 x0_3 x0_4) (fun _ => rfl) n0
end
theorem eq (k : Nat) (a0 : Ty.den TDisk) : run (E k) Tryz.f107 [.val TDisk] [.bool] true false (a0, ()) = f k a0 := (show _ = t k (V0 k a0 k) a0 by kernel_rfl).trans (by rw [e0]; rfl)
theorem ctr (k : Nat) : Ctr J Tryz.prog 107 (C k) :=
  run_ctr (E := E k) mixed tb_ok (eqOk_of tb_eqs) (Cts.cons (spec_l1In.ctr k) (Cts.cons (spec_l3Used.ctr k) (Cts.cons (spec_NameOk.ctr k) Cts.nil))) (by kernel_rfl) Tryz.func107 (by kernel_rfl) rfl (fun ⟨a0, _⟩ r h => (eq k a0).trans h)
end spec_DiskOk
namespace spec_l3Find
def C (k : Nat) : Cn := ⟨[.val TDisk, .val .str], [(.int .i64)], true, false, fun x => f k x.1 x.2.1⟩
def E (k : Nat) : Env := ⟨tb, [], [(2, [1, 2, 5])], k, 0, []⟩
section
variable (k : Nat) (a0 : Ty.den TDisk) (a1 : ByteArray)
noncomputable def K0 : Ex → St → Option (Int × Unit) := runK (E k) (endK (E k) Tryz.f135.results.toList [.val TDisk, .val .str] (a0, a1, ()) [(.int .i64)] true false) [.blk 0, .code (at_ (bt 2 3) (body Tryz.f135))]
noncomputable def V0 (n0 : Nat) (x0_0 : ByteArray) (x0_1 : Int) (x0_2 : List (Ty.den TPair)) (x0_3 : Int) (x0_4 : Int) (x0_5 : Bool) : Option (Int × Unit) := loopN (exec (E k) (at_ (bt 5 5) (body Tryz.f135))) (canon 0 [1, 2, 5]) (K0 k a0 a1) n0 (mk 22 1 [(1, .str x0_0), (2, .ptr 0 0 0), (5, .int .i64 x0_1)] [(0, .box [.sl true TPair x0_2, .int .i64 x0_3, .int .i64 x0_4, .bool x0_5])])
theorem s0 (n0 : Nat) (x0_0 : ByteArray) (x0_1 : Int) (x0_2 : List (Ty.den TPair)) (x0_3 : Int) (x0_4 : Int) (x0_5 : Bool) : V0 k a0 a1 (n0 + 1) x0_0 x0_1 x0_2 x0_3 x0_4 x0_5 = b0 k (V0 k a0 a1 n0) x0_0 x0_1 x0_2 x0_3 x0_4 x0_5 := by kernel_rfl
theorem e0 (n0 : Nat) : V0 k a0 a1 n0 = l0 k n0 := loop_eq (V := V0 k a0 a1) (l := l0 k) rfl (fun n0 => funext fun x0_0 => funext fun x0_1 => funext fun x0_2 => funext fun x0_3 => funext fun x0_4 => funext fun x0_5 => s0 k a0 a1 n0 x0_0 x0_1 x0_2 x0_3 x0_4 x0_5) (fun _ => rfl) n0
end
theorem eq (k : Nat) (a0 : Ty.den TDisk) (a1 : ByteArray) : run (E k) Tryz.f135 [.val TDisk, .val .str] [(.int .i64)] true false (a0, a1, ()) = f k a0 a1 := (show _ = t k (V0 k a0 a1 k) a0 a1 by kernel_rfl).trans (by rw [e0]; rfl)
theorem ctr (k : Nat) : Ctr J Tryz.prog 135 (C k) :=
  run_ctr (E := E k) mixed tb_ok (eqOk_of tb_eqs) Cts.nil (by kernel_rfl) Tryz.func135 (by kernel_rfl) rfl (fun ⟨a0, a1, _⟩ r h => (eq k a0 a1).trans h)
end spec_l3Find
namespace spec_FileText
def C (k : Nat) : Cn := ⟨[.val TDisk, .val .str], [.str, .bool], true, false, fun x => f k x.1 x.2.1⟩
def E (k : Nat) : Env := ⟨tb, [(107, spec_DiskOk.C k), (135, spec_l3Find.C k)], [], k, 0, []⟩
theorem eq (k : Nat) (a0 : Ty.den TDisk) (a1 : ByteArray) : run (E k) Tryz.f79 [.val TDisk, .val .str] [.str, .bool] true false (a0, a1, ()) = f k a0 a1 := by kernel_rfl
theorem ctr (k : Nat) : Ctr J Tryz.prog 79 (C k) :=
  run_ctr (E := E k) mixed tb_ok (eqOk_of tb_eqs) (Cts.cons (spec_DiskOk.ctr k) (Cts.cons (spec_l3Find.ctr k) Cts.nil)) (by kernel_rfl) Tryz.func79 (by kernel_rfl) rfl (fun ⟨a0, a1, _⟩ r h => (eq k a0 a1).trans h)
end spec_FileText
namespace spec_Var
def C (k : Nat) : Cn := ⟨[.val (.int .i64)], [.str], true, false, fun x => f k x.1⟩
def E (k : Nat) : Env := ⟨tb, [(60, spec_l1In.C k)], [(4, [0, 3])], k, 0, []⟩
section
variable (k : Nat) (a0 : Int)
noncomputable def K0 : Ex → St → Option (ByteArray × Unit) := runK (E k) (endK (E k) Tryz.f159.results.toList [.val (.int .i64)] (a0, ()) [.str] true false) [.blk 0, .code (at_ (bt 4 15) (body Tryz.f159))]
noncomputable def V0 (n0 : Nat) (x0_0 : Int) (x0_1 : List Int) : Option (ByteArray × Unit) := loopN (exec (E k) (at_ (bt 6 7) (body Tryz.f159))) (canon 0 [0, 3]) (K0 k a0) n0 (mk 25 1 [(0, .int .i64 x0_0), (3, .ref 0)] [(0, .own false (.int .u8) x0_1)])
theorem s0 (n0 : Nat) (x0_0 : Int) (x0_1 : List Int) : V0 k a0 (n0 + 1) x0_0 x0_1 = b0 k (V0 k a0 n0) x0_0 x0_1 := by kernel_rfl
theorem e0 (n0 : Nat) : V0 k a0 n0 = l0 k n0 := loop_eq (V := V0 k a0) (l := l0 k) rfl (fun n0 => funext fun x0_0 => funext fun x0_1 => s0 k a0 n0 x0_0 x0_1) (fun _ => rfl) n0
end
theorem eq (k : Nat) (a0 : Int) : run (E k) Tryz.f159 [.val (.int .i64)] [.str] true false (a0, ()) = f k a0 := (show _ = t k (V0 k a0 k) a0 by kernel_rfl).trans (by rw [e0]; rfl)
theorem ctr (k : Nat) : Ctr J Tryz.prog 159 (C k) :=
  run_ctr (E := E k) mixed tb_ok (eqOk_of tb_eqs) (Cts.cons (spec_l1In.ctr k) Cts.nil) (by kernel_rfl) Tryz.func159 (by kernel_rfl) rfl (fun ⟨a0, _⟩ r h => (eq k a0).trans h)
end spec_Var
namespace spec_ReadVar
def C (k : Nat) : Cn := ⟨[.val .str], [(.int .i64), (.int .i64)], true, false, fun x => f k x.1⟩
def E (k : Nat) : Env := ⟨tb, [(159, spec_Var.C k)], [(2, [0, 4]), (6, [0, 4, 5, 6])], k, 0, []⟩
section
variable (k : Nat) (a0 : ByteArray)
noncomputable def K0 : Ex → St → Option (Int × Int × Unit) := runK (E k) (endK (E k) Tryz.f144.results.toList [.val .str] (a0, ()) [(.int .i64), (.int .i64)] true false) [.blk 0, .code (at_ (bt 2 3) (body Tryz.f144))]
noncomputable def B0 (n0 : Nat) : Ex → St → Option (Int × Int × Unit) := lpK (E k) (at_ (bt 5 5) (body Tryz.f144)) 0 [0, 4] (K0 k a0) n0
noncomputable def K1 (n0 : Nat) : Ex → St → Option (Int × Int × Unit) := runK (E k) (B0 k a0 n0) [.blk 2, .code (at_ (bt 10 805) (body Tryz.f144)), .blk 1, .code (at_ (bt 7 101) (body Tryz.f144))]
noncomputable def V0 (n0 : Nat) (x0_0 : ByteArray) (x0_1 : Int) : Option (Int × Int × Unit) := loopN (exec (E k) (at_ (bt 5 5) (body Tryz.f144))) (canon 0 [0, 4]) (K0 k a0) n0 (mk 39 0 [(0, .str x0_0), (4, .int .i64 x0_1)] [])
noncomputable def V1 (n0 n1 : Nat) (x1_0 : ByteArray) (x1_1 : Int) (x1_2 : Int) (x1_3 : Int) : Option (Int × Int × Unit) := loopN (exec (E k) (at_ (bt 13 1317) (body Tryz.f144))) (canon 0 [0, 4, 5, 6]) (K1 k a0 n0) n1 (mk 39 0 [(0, .str x1_0), (4, .int .i64 x1_1), (5, .int .i64 x1_2), (6, .int .i64 x1_3)] [])
theorem s0 (n0 : Nat) (x0_0 : ByteArray) (x0_1 : Int) : V0 k a0 (n0 + 1) x0_0 x0_1 = b0 k (V1 k a0 n0 k) (V0 k a0 n0) x0_0 x0_1 := by kernel_rfl
theorem s1 (n0 n1 : Nat) (x1_0 : ByteArray) (x1_1 : Int) (x1_2 : Int) (x1_3 : Int) : V1 k a0 n0 (n1 + 1) x1_0 x1_1 x1_2 x1_3 = b1 k (V0 k a0 n0) (V1 k a0 n0 n1) x1_0 x1_1 x1_2 x1_3 := by kernel_rfl
theorem e1 (n0 n1 : Nat) : V1 k a0 n0 n1 = l1 k (V0 k a0 n0) n1 := loop_eq (V := V1 k a0 n0) (l := l1 k (V0 k a0 n0)) rfl (fun n1 => funext fun x1_0 => funext fun x1_1 => funext fun x1_2 => funext fun x1_3 => s1 k a0 n0 n1 x1_0 x1_1 x1_2 x1_3) (fun _ => rfl) n1
theorem e0 (n0 : Nat) : V0 k a0 n0 = l0 k n0 := by
  induction n0 with
  | zero => rfl
  | succ n0 ih =>
    have h : V0 k a0 (n0 + 1) = b0 k (V1 k a0 n0 k) (V0 k a0 n0) := funext fun x0_0 => funext fun x0_1 => s0 k a0 n0 x0_0 x0_1
    rw [h, e1, ih]
    rfl
end
theorem eq (k : Nat) (a0 : ByteArray) : run (E k) Tryz.f144 [.val .str] [(.int .i64), (.int .i64)] true false (a0, ()) = f k a0 := (show _ = t k (V0 k a0 k) a0 by kernel_rfl).trans (by rw [e0]; rfl)
theorem ctr (k : Nat) : Ctr J Tryz.prog 144 (C k) :=
  run_ctr (E := E k) mixed tb_ok (eqOk_of tb_eqs) (Cts.cons (spec_Var.ctr k) Cts.nil) (by kernel_rfl) Tryz.func144 (by kernel_rfl) rfl (fun ⟨a0, _⟩ r h => (eq k a0).trans h)
end spec_ReadVar
namespace spec_Crc
def C (k : Nat) : Cn := ⟨[.val .str], [(.int .i64)], true, false, fun x => f k x.1⟩
def E (k : Nat) : Env := ⟨tb, [], [(3, [0, 3, 4]), (7, [0, 3, 4, 5])], k, 0, []⟩
section
variable (k : Nat) (a0 : ByteArray)
noncomputable def K0 : Ex → St → Option (Int × Unit) := runK (E k) (endK (E k) Tryz.f161.results.toList [.val .str] (a0, ()) [(.int .i64)] true false) [.blk 0, .code (at_ (bt 3 7) (body Tryz.f161))]
noncomputable def B0 (n0 : Nat) : Ex → St → Option (Int × Unit) := lpK (E k) (at_ (bt 6 11) (body Tryz.f161)) 0 [0, 3, 4] (K0 k a0) n0
noncomputable def K1 (n0 : Nat) : Ex → St → Option (Int × Unit) := runK (E k) (B0 k a0 n0) [.blk 2, .blk 1, .code (at_ (bt 8 203) (body Tryz.f161))]
noncomputable def V0 (n0 : Nat) (x0_0 : ByteArray) (x0_1 : Int) (x0_2 : Int) : Option (Int × Unit) := loopN (exec (E k) (at_ (bt 6 11) (body Tryz.f161))) (canon 0 [0, 3, 4]) (K0 k a0) n0 (mk 33 0 [(0, .str x0_0), (3, .int .i64 x0_1), (4, .int .i64 x0_2)] [])
noncomputable def V1 (n0 n1 : Nat) (x1_0 : ByteArray) (x1_1 : Int) (x1_2 : Int) (x1_3 : Int) : Option (Int × Unit) := loopN (exec (E k) (at_ (bt 13 1611) (body Tryz.f161))) (canon 0 [0, 3, 4, 5]) (K1 k a0 n0) n1 (mk 33 0 [(0, .str x1_0), (3, .int .i64 x1_1), (4, .int .i64 x1_2), (5, .int .i64 x1_3)] [])
theorem s0 (n0 : Nat) (x0_0 : ByteArray) (x0_1 : Int) (x0_2 : Int) : V0 k a0 (n0 + 1) x0_0 x0_1 x0_2 = b0 k (V1 k a0 n0 k) (V0 k a0 n0) x0_0 x0_1 x0_2 := by kernel_rfl
theorem s1 (n0 n1 : Nat) (x1_0 : ByteArray) (x1_1 : Int) (x1_2 : Int) (x1_3 : Int) : V1 k a0 n0 (n1 + 1) x1_0 x1_1 x1_2 x1_3 = b1 k (V0 k a0 n0) (V1 k a0 n0 n1) x1_0 x1_1 x1_2 x1_3 := by kernel_rfl
theorem e1 (n0 n1 : Nat) : V1 k a0 n0 n1 = l1 k (V0 k a0 n0) n1 := loop_eq (V := V1 k a0 n0) (l := l1 k (V0 k a0 n0)) rfl (fun n1 => funext fun x1_0 => funext fun x1_1 => funext fun x1_2 => funext fun x1_3 => s1 k a0 n0 n1 x1_0 x1_1 x1_2 x1_3) (fun _ => rfl) n1
theorem e0 (n0 : Nat) : V0 k a0 n0 = l0 k n0 := by
  induction n0 with
  | zero => rfl
  | succ n0 ih =>
    have h : V0 k a0 (n0 + 1) = b0 k (V1 k a0 n0 k) (V0 k a0 n0) := funext fun x0_0 => funext fun x0_1 => funext fun x0_2 => s0 k a0 n0 x0_0 x0_1 x0_2
    rw [h, e1, ih]
    rfl
end
theorem eq (k : Nat) (a0 : ByteArray) : run (E k) Tryz.f161 [.val .str] [(.int .i64)] true false (a0, ()) = f k a0 := (show _ = t k (V0 k a0 k) a0 by kernel_rfl).trans (by rw [e0]; rfl)
theorem ctr (k : Nat) : Ctr J Tryz.prog 161 (C k) :=
  run_ctr (E := E k) mixed tb_ok (eqOk_of tb_eqs) Cts.nil (by kernel_rfl) Tryz.func161 (by kernel_rfl) rfl (fun ⟨a0, _⟩ r h => (eq k a0).trans h)
end spec_Crc
namespace spec_Fixed
def C (k : Nat) : Cn := ⟨[.val (.int .i64), .val (.int .i64)], [.str], true, false, fun x => f k x.1 x.2.1⟩
def E (k : Nat) : Env := ⟨tb, [(60, spec_l1In.C k)], [(5, [0, 1, 5, 6])], k, 0, []⟩
section
variable (k : Nat) (a0 : Int) (a1 : Int)
noncomputable def K0 : Ex → St → Option (ByteArray × Unit) := runK (E k) (endK (E k) Tryz.f160.results.toList [.val (.int .i64), .val (.int .i64)] (a0, a1, ()) [.str] true false) [.blk 0, .code (at_ (bt 4 15) (body Tryz.f160))]
noncomputable def V0 (n0 : Nat) (x0_0 : Int) (x0_1 : Int) (x0_2 : ByteArray) (x0_3 : Int) : Option (ByteArray × Unit) := loopN (exec (E k) (at_ (bt 7 23) (body Tryz.f160))) (canon 0 [0, 1, 5, 6]) (K0 k a0 a1) n0 (mk 31 0 [(0, .int .i64 x0_0), (1, .int .i64 x0_1), (5, .str x0_2), (6, .int .i64 x0_3)] [])
theorem s0 (n0 : Nat) (x0_0 : Int) (x0_1 : Int) (x0_2 : ByteArray) (x0_3 : Int) : V0 k a0 a1 (n0 + 1) x0_0 x0_1 x0_2 x0_3 = b0 k (V0 k a0 a1 n0) x0_0 x0_1 x0_2 x0_3 := by kernel_rfl
theorem e0 (n0 : Nat) : V0 k a0 a1 n0 = l0 k n0 := loop_eq (V := V0 k a0 a1) (l := l0 k) rfl (fun n0 => funext fun x0_0 => funext fun x0_1 => funext fun x0_2 => funext fun x0_3 => s0 k a0 a1 n0 x0_0 x0_1 x0_2 x0_3) (fun _ => rfl) n0
end
theorem eq (k : Nat) (a0 : Int) (a1 : Int) : run (E k) Tryz.f160 [.val (.int .i64), .val (.int .i64)] [.str] true false (a0, a1, ()) = f k a0 a1 := (show _ = t k (V0 k a0 a1 k) a0 a1 by kernel_rfl).trans (by rw [e0]; rfl)
theorem ctr (k : Nat) : Ctr J Tryz.prog 160 (C k) :=
  run_ctr (E := E k) mixed tb_ok (eqOk_of tb_eqs) (Cts.cons (spec_l1In.ctr k) Cts.nil) (by kernel_rfl) Tryz.func160 (by kernel_rfl) rfl (fun ⟨a0, a1, _⟩ r h => (eq k a0 a1).trans h)
end spec_Fixed
namespace spec_Frame
def C (k : Nat) : Cn := ⟨[.val .str], [.str], true, false, fun x => f k x.1⟩
def E (k : Nat) : Env := ⟨tb, [(159, spec_Var.C k), (161, spec_Crc.C k), (160, spec_Fixed.C k)], [], k, 0, []⟩
theorem eq (k : Nat) (a0 : ByteArray) : run (E k) Tryz.f112 [.val .str] [.str] true false (a0, ()) = f k a0 := by kernel_rfl
theorem ctr (k : Nat) : Ctr J Tryz.prog 112 (C k) :=
  run_ctr (E := E k) mixed tb_ok (eqOk_of tb_eqs) (Cts.cons (spec_Var.ctr k) (Cts.cons (spec_Crc.ctr k) (Cts.cons (spec_Fixed.ctr k) Cts.nil))) (by kernel_rfl) Tryz.func112 (by kernel_rfl) rfl (fun ⟨a0, _⟩ r h => (eq k a0).trans h)
end spec_Frame
namespace spec_Unframe
def C (k : Nat) : Cn := ⟨[.val .str], [.str, (.int .i64)], true, false, fun x => f k x.1⟩
def E (k : Nat) : Env := ⟨tb, [(144, spec_ReadVar.C k), (112, spec_Frame.C k)], [], k, 0, []⟩
theorem eq (k : Nat) (a0 : ByteArray) : run (E k) Tryz.f143 [.val .str] [.str, (.int .i64)] true false (a0, ()) = f k a0 := by kernel_rfl
theorem ctr (k : Nat) : Ctr J Tryz.prog 143 (C k) :=
  run_ctr (E := E k) mixed tb_ok (eqOk_of tb_eqs) (Cts.cons (spec_ReadVar.ctr k) (Cts.cons (spec_Frame.ctr k) Cts.nil)) (by kernel_rfl) Tryz.func143 (by kernel_rfl) rfl (fun ⟨a0, _⟩ r h => (eq k a0).trans h)
end spec_Unframe
namespace spec_LiveOk
def C (k : Nat) : Cn := ⟨[.val TLive], [.bool], true, false, fun x => f k x.1⟩
def E (k : Nat) : Env := ⟨tb, [(60, spec_l1In.C k)], [(4, [1, 3])], k, 0, []⟩
section
variable (k : Nat) (a0 : Ty.den TLive)
noncomputable def K0 : Ex → St → Option (Bool × Unit) := runK (E k) (endK (E k) Tryz.f108.results.toList [.val TLive] (a0, ()) [.bool] true false) [.blk 0, .code (at_ (bt 3 7) (body Tryz.f108))]
noncomputable def V0 (n0 : Nat) (x0_0 : Int) (x0_1 : Int) (x0_2 : List Int) : Option (Bool × Unit) := loopN (exec (E k) (at_ (bt 6 11) (body Tryz.f108))) (canon 0 [1, 3]) (K0 k a0) n0 (mk 50 1 [(1, .ptr 0 0 0), (3, .int .i64 x0_0)] [(0, .box [.int .i64 x0_1, .sl true (.int .i64) x0_2])])
theorem s0 (n0 : Nat) (x0_0 : Int) (x0_1 : Int) (x0_2 : List Int) : V0 k a0 (n0 + 1) x0_0 x0_1 x0_2 = b0 k (V0 k a0 n0) x0_0 x0_1 x0_2 := by kernel_rfl
theorem e0 (n0 : Nat) : V0 k a0 n0 = l0 k n0 := loop_eq (V := V0 k a0) (l := l0 k) rfl (fun n0 => funext fun x0_0 => funext fun x0_1 => funext fun x0_2 => s0 k a0 n0 x0_0 x0_1 x0_2) (fun _ => rfl) n0
end
theorem eq (k : Nat) (a0 : Ty.den TLive) : run (E k) Tryz.f108 [.val TLive] [.bool] true false (a0, ()) = f k a0 := (show _ = t k (V0 k a0 k) a0 by kernel_rfl).trans (by rw [e0]; rfl)
theorem ctr (k : Nat) : Ctr J Tryz.prog 108 (C k) :=
  run_ctr (E := E k) mixed tb_ok (eqOk_of tb_eqs) (Cts.cons (spec_l1In.ctr k) Cts.nil) (by kernel_rfl) Tryz.func108 (by kernel_rfl) rfl (fun ⟨a0, _⟩ r h => (eq k a0).trans h)
end spec_LiveOk
namespace spec_ShowLive
def C (k : Nat) : Cn := ⟨[.val TLive], [.str], true, false, fun x => f k x.1⟩
def E (k : Nat) : Env := ⟨tb, [(108, spec_LiveOk.C k), (159, spec_Var.C k), (112, spec_Frame.C k)], [(5, [1, 3, 4])], k, 0, []⟩
section
variable (k : Nat) (a0 : Ty.den TLive)
noncomputable def K0 : Ex → St → Option (ByteArray × Unit) := runK (E k) (endK (E k) Tryz.f145.results.toList [.val TLive] (a0, ()) [.str] true false) [.blk 0, .code (at_ (bt 4 15) (body Tryz.f145))]
noncomputable def V0 (n0 : Nat) (x0_0 : ByteArray) (x0_1 : Int) (x0_2 : Int) (x0_3 : List Int) : Option (ByteArray × Unit) := loopN (exec (E k) (at_ (bt 7 23) (body Tryz.f145))) (canon 0 [1, 3, 4]) (K0 k a0) n0 (mk 33 1 [(1, .ptr 0 0 0), (3, .str x0_0), (4, .int .i64 x0_1)] [(0, .box [.int .i64 x0_2, .sl true (.int .i64) x0_3])])
theorem s0 (n0 : Nat) (x0_0 : ByteArray) (x0_1 : Int) (x0_2 : Int) (x0_3 : List Int) : V0 k a0 (n0 + 1) x0_0 x0_1 x0_2 x0_3 = b0 k (V0 k a0 n0) x0_0 x0_1 x0_2 x0_3 := by kernel_rfl
theorem e0 (n0 : Nat) : V0 k a0 n0 = l0 k n0 := loop_eq (V := V0 k a0) (l := l0 k) rfl (fun n0 => funext fun x0_0 => funext fun x0_1 => funext fun x0_2 => funext fun x0_3 => s0 k a0 n0 x0_0 x0_1 x0_2 x0_3) (fun _ => rfl) n0
end
theorem eq (k : Nat) (a0 : Ty.den TLive) : run (E k) Tryz.f145 [.val TLive] [.str] true false (a0, ()) = f k a0 := (show _ = t k (V0 k a0 k) a0 by kernel_rfl).trans (by rw [e0]; rfl)
theorem ctr (k : Nat) : Ctr J Tryz.prog 145 (C k) :=
  run_ctr (E := E k) mixed tb_ok (eqOk_of tb_eqs) (Cts.cons (spec_LiveOk.ctr k) (Cts.cons (spec_Var.ctr k) (Cts.cons (spec_Frame.ctr k) Cts.nil))) (by kernel_rfl) Tryz.func145 (by kernel_rfl) rfl (fun ⟨a0, _⟩ r h => (eq k a0).trans h)
end spec_ShowLive
namespace spec_ReadLive
def C (k : Nat) : Cn := ⟨[.val .str], [TLive, .bool], true, false, fun x => f k x.1⟩
def E (k : Nat) : Env := ⟨tb, [(143, spec_Unframe.C k), (144, spec_ReadVar.C k), (145, spec_ShowLive.C k)], [(9, [0, 2, 4, 8, 10, 11, 12])], k, 0, []⟩
section
variable (k : Nat) (a0 : ByteArray)
noncomputable def K0 : Ex → St → Option ((Ty.den TLive) × Bool × Unit) := runK (E k) (endK (E k) Tryz.f92.results.toList [.val .str] (a0, ()) [TLive, .bool] true false) [.blk 0, .code (at_ (bt 8 255) (body Tryz.f92))]
noncomputable def V0 (n0 : Nat) (x0_0 : ByteArray) (x0_1 : ByteArray) (x0_2 : Int) (x0_3 : Int) (x0_4 : Int) (x0_5 : List Int) (x0_6 : Int) (x0_7 : List Int) (x0_8 : Int) : Option ((Ty.den TLive) × Bool × Unit) := loopN (exec (E k) (at_ (bt 11 383) (body Tryz.f92))) (canon 0 [0, 2, 4, 8, 10, 11, 12]) (K0 k a0) n0 (mk 81 4 [(0, .str x0_0), (2, .ptr 0 0 0), (4, .str x0_1), (8, .int .i64 x0_2), (10, .ptr 2 0 0), (11, .int .i64 x0_3), (12, .int .i64 x0_4)] [(1, .own false (.int .i64) x0_5), (0, .box [.int .i64 x0_6, .ref 1]), (3, .own false (.int .i64) x0_7), (2, .box [.int .i64 x0_8, .ref 3])])
theorem s0 (n0 : Nat) (x0_0 : ByteArray) (x0_1 : ByteArray) (x0_2 : Int) (x0_3 : Int) (x0_4 : Int) (x0_5 : List Int) (x0_6 : Int) (x0_7 : List Int) (x0_8 : Int) : V0 k a0 (n0 + 1) x0_0 x0_1 x0_2 x0_3 x0_4 x0_5 x0_6 x0_7 x0_8 = b0 k (V0 k a0 n0) x0_0 x0_1 x0_2 x0_3 x0_4 x0_5 x0_6 x0_7 x0_8 := by kernel_rfl
theorem e0 (n0 : Nat) : V0 k a0 n0 = l0 k n0 := loop_eq (V := V0 k a0) (l := l0 k) rfl (fun n0 => funext fun x0_0 => funext fun x0_1 => funext fun x0_2 => funext fun x0_3 => funext fun x0_4 => funext fun x0_5 => funext fun x0_6 => funext fun x0_7 => funext fun x0_8 => s0 k a0 n0 x0_0 x0_1 x0_2 x0_3 x0_4 x0_5 x0_6 x0_7 x0_8) (fun _ => rfl) n0
end
theorem eq (k : Nat) (a0 : ByteArray) : run (E k) Tryz.f92 [.val .str] [TLive, .bool] true false (a0, ()) = f k a0 := (show _ = t k (V0 k a0 k) a0 by kernel_rfl).trans (by rw [e0]; rfl)
theorem ctr (k : Nat) : Ctr J Tryz.prog 92 (C k) :=
  run_ctr (E := E k) mixed tb_ok (eqOk_of tb_eqs) (Cts.cons (spec_Unframe.ctr k) (Cts.cons (spec_ReadVar.ctr k) (Cts.cons (spec_ShowLive.ctr k) Cts.nil))) (by kernel_rfl) Tryz.func92 (by kernel_rfl) rfl (fun ⟨a0, _⟩ r h => (eq k a0).trans h)
end spec_ReadLive
namespace spec_Dec
def C (k : Nat) : Cn := ⟨[.val (.int .i64)], [.str], true, false, fun x => f k x.1⟩
def E (k : Nat) : Env := ⟨tb, [], [(5, [0, 3, 4])], k, 0, []⟩
section
variable (k : Nat) (a0 : Int)
noncomputable def K0 : Ex → St → Option (ByteArray × Unit) := runK (E k) (endK (E k) Tryz.f136.results.toList [.val (.int .i64)] (a0, ()) [.str] true false) [.blk 0, .code (at_ (bt 5 31) (body Tryz.f136))]
noncomputable def V0 (n0 : Nat) (x0_0 : Int) (x0_1 : ByteArray) (x0_2 : Bool) : Option (ByteArray × Unit) := loopN (exec (E k) (at_ (bt 7 15) (body Tryz.f136))) (canon 0 [0, 3, 4]) (K0 k a0) n0 (mk 31 0 [(0, .int .i64 x0_0), (3, .str x0_1), (4, .bool x0_2)] [])
theorem s0 (n0 : Nat) (x0_0 : Int) (x0_1 : ByteArray) (x0_2 : Bool) : V0 k a0 (n0 + 1) x0_0 x0_1 x0_2 = b0 k (V0 k a0 n0) x0_0 x0_1 x0_2 := by kernel_rfl
theorem e0 (n0 : Nat) : V0 k a0 n0 = l0 k n0 := loop_eq (V := V0 k a0) (l := l0 k) rfl (fun n0 => funext fun x0_0 => funext fun x0_1 => funext fun x0_2 => s0 k a0 n0 x0_0 x0_1 x0_2) (fun _ => rfl) n0
end
theorem eq (k : Nat) (a0 : Int) : run (E k) Tryz.f136 [.val (.int .i64)] [.str] true false (a0, ()) = f k a0 := (show _ = t k (V0 k a0 k) a0 by kernel_rfl).trans (by rw [e0]; rfl)
theorem ctr (k : Nat) : Ctr J Tryz.prog 136 (C k) :=
  run_ctr (E := E k) mixed tb_ok (eqOk_of tb_eqs) Cts.nil (by kernel_rfl) Tryz.func136 (by kernel_rfl) rfl (fun ⟨a0, _⟩ r h => (eq k a0).trans h)
end spec_Dec
namespace spec_ReadDec
def C (k : Nat) : Cn := ⟨[.val .str], [(.int .i64), .bool], true, false, fun x => f k x.1⟩
def E (k : Nat) : Env := ⟨tb, [(136, spec_Dec.C k)], [(4, [0, 4, 5, 6])], k, 0, []⟩
section
variable (k : Nat) (a0 : ByteArray)
noncomputable def K0 : Ex → St → Option (Int × Bool × Unit) := runK (E k) (endK (E k) Tryz.f174.results.toList [.val .str] (a0, ()) [(.int .i64), .bool] true false) [.blk 0, .code (at_ (bt 4 15) (body Tryz.f174))]
noncomputable def V0 (n0 : Nat) (x0_0 : ByteArray) (x0_1 : Int) (x0_2 : Int) (x0_3 : Int) : Option (Int × Bool × Unit) := loopN (exec (E k) (at_ (bt 7 23) (body Tryz.f174))) (canon 0 [0, 4, 5, 6]) (K0 k a0) n0 (mk 61 0 [(0, .str x0_0), (4, .int .i64 x0_1), (5, .int .i64 x0_2), (6, .int .i64 x0_3)] [])
theorem s0 (n0 : Nat) (x0_0 : ByteArray) (x0_1 : Int) (x0_2 : Int) (x0_3 : Int) : V0 k a0 (n0 + 1) x0_0 x0_1 x0_2 x0_3 = b0 k (V0 k a0 n0) x0_0 x0_1 x0_2 x0_3 := by kernel_rfl
theorem e0 (n0 : Nat) : V0 k a0 n0 = l0 k n0 := loop_eq (V := V0 k a0) (l := l0 k) rfl (fun n0 => funext fun x0_0 => funext fun x0_1 => funext fun x0_2 => funext fun x0_3 => s0 k a0 n0 x0_0 x0_1 x0_2 x0_3) (fun _ => rfl) n0
end
theorem eq (k : Nat) (a0 : ByteArray) : run (E k) Tryz.f174 [.val .str] [(.int .i64), .bool] true false (a0, ()) = f k a0 := (show _ = t k (V0 k a0 k) a0 by kernel_rfl).trans (by rw [e0]; rfl)
theorem ctr (k : Nat) : Ctr J Tryz.prog 174 (C k) :=
  run_ctr (E := E k) mixed tb_ok (eqOk_of tb_eqs) (Cts.cons (spec_Dec.ctr k) Cts.nil) (by kernel_rfl) Tryz.func174 (by kernel_rfl) rfl (fun ⟨a0, _⟩ r h => (eq k a0).trans h)
end spec_ReadDec
namespace spec_SegName
def C (k : Nat) : Cn := ⟨[.val (.int .i64)], [.str], true, false, fun x => f k x.1⟩
def E (k : Nat) : Env := ⟨tb, [(60, spec_l1In.C k), (136, spec_Dec.C k)], [], k, 0, []⟩
theorem eq (k : Nat) (a0 : Int) : run (E k) Tryz.f80 [.val (.int .i64)] [.str] true false (a0, ()) = f k a0 := by kernel_rfl
theorem ctr (k : Nat) : Ctr J Tryz.prog 80 (C k) :=
  run_ctr (E := E k) mixed tb_ok (eqOk_of tb_eqs) (Cts.cons (spec_l1In.ctr k) (Cts.cons (spec_Dec.ctr k) Cts.nil)) (by kernel_rfl) Tryz.func80 (by kernel_rfl) rfl (fun ⟨a0, _⟩ r h => (eq k a0).trans h)
end spec_SegName
namespace spec_HintName
def C (k : Nat) : Cn := ⟨[.val (.int .i64)], [.str], true, false, fun x => f k x.1⟩
def E (k : Nat) : Env := ⟨tb, [(60, spec_l1In.C k), (136, spec_Dec.C k)], [], k, 0, []⟩
theorem eq (k : Nat) (a0 : Int) : run (E k) Tryz.f175 [.val (.int .i64)] [.str] true false (a0, ()) = f k a0 := by kernel_rfl
theorem ctr (k : Nat) : Ctr J Tryz.prog 175 (C k) :=
  run_ctr (E := E k) mixed tb_ok (eqOk_of tb_eqs) (Cts.cons (spec_l1In.ctr k) (Cts.cons (spec_Dec.ctr k) Cts.nil)) (by kernel_rfl) Tryz.func175 (by kernel_rfl) rfl (fun ⟨a0, _⟩ r h => (eq k a0).trans h)
end spec_HintName
namespace spec_IdOf
def C (k : Nat) : Cn := ⟨[.val .str], [(.int .i64), .bool], true, false, fun x => f k x.1⟩
def E (k : Nat) : Env := ⟨tb, [(174, spec_ReadDec.C k), (80, spec_SegName.C k), (175, spec_HintName.C k)], [(2, [0, 4])], k, 0, []⟩
section
variable (k : Nat) (a0 : ByteArray)
noncomputable def K0 : Ex → St → Option (Int × Bool × Unit) := runK (E k) (endK (E k) Tryz.f146.results.toList [.val .str] (a0, ()) [(.int .i64), .bool] true false) [.blk 0, .code (at_ (bt 2 3) (body Tryz.f146))]
noncomputable def V0 (n0 : Nat) (x0_0 : ByteArray) (x0_1 : Int) : Option (Int × Bool × Unit) := loopN (exec (E k) (at_ (bt 5 5) (body Tryz.f146))) (canon 0 [0, 4]) (K0 k a0) n0 (mk 40 0 [(0, .str x0_0), (4, .int .i64 x0_1)] [])
theorem s0 (n0 : Nat) (x0_0 : ByteArray) (x0_1 : Int) : V0 k a0 (n0 + 1) x0_0 x0_1 = b0 k (V0 k a0 n0) x0_0 x0_1 := by kernel_rfl
theorem e0 (n0 : Nat) : V0 k a0 n0 = l0 k n0 := loop_eq (V := V0 k a0) (l := l0 k) rfl (fun n0 => funext fun x0_0 => funext fun x0_1 => s0 k a0 n0 x0_0 x0_1) (fun _ => rfl) n0
end
theorem eq (k : Nat) (a0 : ByteArray) : run (E k) Tryz.f146 [.val .str] [(.int .i64), .bool] true false (a0, ()) = f k a0 := (show _ = t k (V0 k a0 k) a0 by kernel_rfl).trans (by rw [e0]; rfl)
theorem ctr (k : Nat) : Ctr J Tryz.prog 146 (C k) :=
  run_ctr (E := E k) mixed tb_ok (eqOk_of tb_eqs) (Cts.cons (spec_ReadDec.ctr k) (Cts.cons (spec_SegName.ctr k) (Cts.cons (spec_HintName.ctr k) Cts.nil))) (by kernel_rfl) Tryz.func146 (by kernel_rfl) rfl (fun ⟨a0, _⟩ r h => (eq k a0).trans h)
end spec_IdOf
namespace spec_Orphans
def C (k : Nat) : Cn := ⟨[.val TDisk, .val TLive], [(.slice .str)], true, false, fun x => f k x.1 x.2.1⟩
def E (k : Nat) : Env := ⟨tb, [(107, spec_DiskOk.C k), (146, spec_IdOf.C k)], [(5, [2, 3, 5, 6]), (10, [2, 3, 5, 6, 7, 8, 9, 10])], k, 0, []⟩
section
variable (k : Nat) (a0 : Ty.den TDisk) (a1 : Ty.den TLive)
noncomputable def K0 : Ex → St → Option ((List ByteArray) × Unit) := runK (E k) (endK (E k) Tryz.f93.results.toList [.val TDisk, .val TLive] (a0, a1, ()) [(.slice .str)] true false) [.blk 0, .code (at_ (bt 4 15) (body Tryz.f93))]
noncomputable def B0 (n0 : Nat) : Ex → St → Option ((List ByteArray) × Unit) := lpK (E k) (at_ (bt 7 23) (body Tryz.f93)) 0 [2, 3, 5, 6] (K0 k a0 a1) n0
noncomputable def K1 (n0 : Nat) : Ex → St → Option ((List ByteArray) × Unit) := runK (E k) (B0 k a0 a1 n0) [.blk 2, .code (at_ (bt 13 7319) (body Tryz.f93)), .blk 1, .code (at_ (bt 9 407) (body Tryz.f93))]
noncomputable def V0 (n0 : Nat) (x0_0 : Int) (x0_1 : List (Ty.den TPair)) (x0_2 : Int) (x0_3 : Int) (x0_4 : Bool) (x0_5 : Int) (x0_6 : List Int) (x0_7 : List ByteArray) : Option ((List ByteArray) × Unit) := loopN (exec (E k) (at_ (bt 7 23) (body Tryz.f93))) (canon 0 [2, 3, 5, 6]) (K0 k a0 a1) n0 (mk 74 3 [(2, .ptr 0 0 0), (3, .ptr 1 0 0), (5, .ref 2), (6, .int .i64 x0_0)] [(0, .box [.sl true TPair x0_1, .int .i64 x0_2, .int .i64 x0_3, .bool x0_4]), (1, .box [.int .i64 x0_5, .sl true (.int .i64) x0_6]), (2, .own false .str x0_7)])
noncomputable def V1 (n0 n1 : Nat) (x1_0 : Int) (x1_1 : Int) (x1_2 : Bool) (x1_3 : Bool) (x1_4 : Int) (x1_5 : List (Ty.den TPair)) (x1_6 : Int) (x1_7 : Int) (x1_8 : Bool) (x1_9 : Int) (x1_10 : List Int) (x1_11 : List ByteArray) : Option ((List ByteArray) × Unit) := loopN (exec (E k) (at_ (bt 16 11415) (body Tryz.f93))) (canon 0 [2, 3, 5, 6, 7, 8, 9, 10]) (K1 k a0 a1 n0) n1 (mk 74 3 [(2, .ptr 0 0 0), (3, .ptr 1 0 0), (5, .ref 2), (6, .int .i64 x1_0), (7, .int .i64 x1_1), (8, .bool x1_2), (9, .bool x1_3), (10, .int .i64 x1_4)] [(0, .box [.sl true TPair x1_5, .int .i64 x1_6, .int .i64 x1_7, .bool x1_8]), (1, .box [.int .i64 x1_9, .sl true (.int .i64) x1_10]), (2, .own false .str x1_11)])
theorem s0 (n0 : Nat) (x0_0 : Int) (x0_1 : List (Ty.den TPair)) (x0_2 : Int) (x0_3 : Int) (x0_4 : Bool) (x0_5 : Int) (x0_6 : List Int) (x0_7 : List ByteArray) : V0 k a0 a1 (n0 + 1) x0_0 x0_1 x0_2 x0_3 x0_4 x0_5 x0_6 x0_7 = b0 k (V1 k a0 a1 n0 k) (V0 k a0 a1 n0) x0_0 x0_1 x0_2 x0_3 x0_4 x0_5 x0_6 x0_7 := by kernel_rfl
theorem s1 (n0 n1 : Nat) (x1_0 : Int) (x1_1 : Int) (x1_2 : Bool) (x1_3 : Bool) (x1_4 : Int) (x1_5 : List (Ty.den TPair)) (x1_6 : Int) (x1_7 : Int) (x1_8 : Bool) (x1_9 : Int) (x1_10 : List Int) (x1_11 : List ByteArray) : V1 k a0 a1 n0 (n1 + 1) x1_0 x1_1 x1_2 x1_3 x1_4 x1_5 x1_6 x1_7 x1_8 x1_9 x1_10 x1_11 = b1 k (V0 k a0 a1 n0) (V1 k a0 a1 n0 n1) x1_0 x1_1 x1_2 x1_3 x1_4 x1_5 x1_6 x1_7 x1_8 x1_9 x1_10 x1_11 := by kernel_rfl
theorem e1 (n0 n1 : Nat) : V1 k a0 a1 n0 n1 = l1 k (V0 k a0 a1 n0) n1 := loop_eq (V := V1 k a0 a1 n0) (l := l1 k (V0 k a0 a1 n0)) rfl (fun n1 => funext fun x1_0 => funext fun x1_1 => funext fun x1_2 => funext fun x1_3 => funext fun x1_4 => funext fun x1_5 => funext fun x1_6 => funext fun x1_7 => funext fun x1_8 => funext fun x1_9 => funext fun x1_10 => funext fun x1_11 => s1 k a0 a1 n0 n1 x1_0 x1_1 x1_2 x1_3 x1_4 x1_5 x1_6 x1_7 x1_8 x1_9 x1_10 x1_11) (fun _ => rfl) n1
theorem e0 (n0 : Nat) : V0 k a0 a1 n0 = l0 k n0 := by
  induction n0 with
  | zero => rfl
  | succ n0 ih =>
    have h : V0 k a0 a1 (n0 + 1) = b0 k (V1 k a0 a1 n0 k) (V0 k a0 a1 n0) := funext fun x0_0 => funext fun x0_1 => funext fun x0_2 => funext fun x0_3 => funext fun x0_4 => funext fun x0_5 => funext fun x0_6 => funext fun x0_7 => s0 k a0 a1 n0 x0_0 x0_1 x0_2 x0_3 x0_4 x0_5 x0_6 x0_7
    rw [h, e1, ih]
    rfl
end
theorem eq (k : Nat) (a0 : Ty.den TDisk) (a1 : Ty.den TLive) : run (E k) Tryz.f93 [.val TDisk, .val TLive] [(.slice .str)] true false (a0, a1, ()) = f k a0 a1 := (show _ = t k (V0 k a0 a1 k) a0 a1 by kernel_rfl).trans (by rw [e0]; rfl)
theorem ctr (k : Nat) : Ctr J Tryz.prog 93 (C k) :=
  run_ctr (E := E k) mixed tb_ok (eqOk_of tb_eqs) (Cts.cons (spec_DiskOk.ctr k) (Cts.cons (spec_IdOf.ctr k) Cts.nil)) (by kernel_rfl) Tryz.func93 (by kernel_rfl) rfl (fun ⟨a0, a1, _⟩ r h => (eq k a0 a1).trans h)
end spec_Orphans
namespace spec_l5Text
def C (k : Nat) : Cn := ⟨[.val .str], [.str, .str, .bool], true, false, fun x => f k x.1⟩
def E (k : Nat) : Env := ⟨tb, [(144, spec_ReadVar.C k)], [], k, 0, []⟩
theorem eq (k : Nat) (a0 : ByteArray) : run (E k) Tryz.f176 [.val .str] [.str, .str, .bool] true false (a0, ()) = f k a0 := by kernel_rfl
theorem ctr (k : Nat) : Ctr J Tryz.prog 176 (C k) :=
  run_ctr (E := E k) mixed tb_ok (eqOk_of tb_eqs) (Cts.cons (spec_ReadVar.ctr k) Cts.nil) (by kernel_rfl) Tryz.func176 (by kernel_rfl) rfl (fun ⟨a0, _⟩ r h => (eq k a0).trans h)
end spec_l5Text
namespace spec_KeyOk
def C (k : Nat) : Cn := ⟨[.val .str], [.bool], true, false, fun x => f k x.1⟩
def E (k : Nat) : Env := ⟨tb, [(60, spec_l1In.C k)], [], k, 0, []⟩
theorem eq (k : Nat) (a0 : ByteArray) : run (E k) Tryz.f158 [.val .str] [.bool] true false (a0, ()) = f k a0 := by kernel_rfl
theorem ctr (k : Nat) : Ctr J Tryz.prog 158 (C k) :=
  run_ctr (E := E k) mixed tb_ok (eqOk_of tb_eqs) (Cts.cons (spec_l1In.ctr k) Cts.nil) (by kernel_rfl) Tryz.func158 (by kernel_rfl) rfl (fun ⟨a0, _⟩ r h => (eq k a0).trans h)
end spec_KeyOk
namespace spec_RecOk
def C (k : Nat) : Cn := ⟨[.val TRec], [.bool], true, false, fun x => f k x.1⟩
def E (k : Nat) : Env := ⟨tb, [(60, spec_l1In.C k), (158, spec_KeyOk.C k)], [], k, 0, []⟩
theorem eq (k : Nat) (a0 : Ty.den TRec) : run (E k) Tryz.f162 [.val TRec] [.bool] true false (a0, ()) = f k a0 := by kernel_rfl
theorem ctr (k : Nat) : Ctr J Tryz.prog 162 (C k) :=
  run_ctr (E := E k) mixed tb_ok (eqOk_of tb_eqs) (Cts.cons (spec_l1In.ctr k) (Cts.cons (spec_KeyOk.ctr k) Cts.nil)) (by kernel_rfl) Tryz.func162 (by kernel_rfl) rfl (fun ⟨a0, _⟩ r h => (eq k a0).trans h)
end spec_RecOk
namespace spec_ShowRec
def C (k : Nat) : Cn := ⟨[.val TRec], [.str], true, false, fun x => f k x.1⟩
def E (k : Nat) : Env := ⟨tb, [(162, spec_RecOk.C k), (159, spec_Var.C k), (160, spec_Fixed.C k)], [], k, 0, []⟩
theorem eq (k : Nat) (a0 : Ty.den TRec) : run (E k) Tryz.f113 [.val TRec] [.str] true false (a0, ()) = f k a0 := by kernel_rfl
theorem ctr (k : Nat) : Ctr J Tryz.prog 113 (C k) :=
  run_ctr (E := E k) mixed tb_ok (eqOk_of tb_eqs) (Cts.cons (spec_RecOk.ctr k) (Cts.cons (spec_Var.ctr k) (Cts.cons (spec_Fixed.ctr k) Cts.nil))) (by kernel_rfl) Tryz.func113 (by kernel_rfl) rfl (fun ⟨a0, _⟩ r h => (eq k a0).trans h)
end spec_ShowRec
namespace spec_ReadFixed
def C (k : Nat) : Cn := ⟨[.val .str, .val (.int .i64)], [(.int .i64), .bool], true, false, fun x => f k x.1 x.2.1⟩
def E (k : Nat) : Env := ⟨tb, [(60, spec_l1In.C k)], [(5, [0, 1, 6, 7])], k, 0, []⟩
section
variable (k : Nat) (a0 : ByteArray) (a1 : Int)
noncomputable def K0 : Ex → St → Option (Int × Bool × Unit) := runK (E k) (endK (E k) Tryz.f177.results.toList [.val .str, .val (.int .i64)] (a0, a1, ()) [(.int .i64), .bool] true false) [.blk 0, .code (at_ (bt 4 15) (body Tryz.f177))]
noncomputable def V0 (n0 : Nat) (x0_0 : ByteArray) (x0_1 : Int) (x0_2 : Int) (x0_3 : Int) : Option (Int × Bool × Unit) := loopN (exec (E k) (at_ (bt 7 23) (body Tryz.f177))) (canon 0 [0, 1, 6, 7]) (K0 k a0 a1) n0 (mk 30 0 [(0, .str x0_0), (1, .int .i64 x0_1), (6, .int .i64 x0_2), (7, .int .i64 x0_3)] [])
theorem s0 (n0 : Nat) (x0_0 : ByteArray) (x0_1 : Int) (x0_2 : Int) (x0_3 : Int) : V0 k a0 a1 (n0 + 1) x0_0 x0_1 x0_2 x0_3 = b0 k (V0 k a0 a1 n0) x0_0 x0_1 x0_2 x0_3 := by kernel_rfl
theorem e0 (n0 : Nat) : V0 k a0 a1 n0 = l0 k n0 := loop_eq (V := V0 k a0 a1) (l := l0 k) rfl (fun n0 => funext fun x0_0 => funext fun x0_1 => funext fun x0_2 => funext fun x0_3 => s0 k a0 a1 n0 x0_0 x0_1 x0_2 x0_3) (fun _ => rfl) n0
end
theorem eq (k : Nat) (a0 : ByteArray) (a1 : Int) : run (E k) Tryz.f177 [.val .str, .val (.int .i64)] [(.int .i64), .bool] true false (a0, a1, ()) = f k a0 a1 := (show _ = t k (V0 k a0 a1 k) a0 a1 by kernel_rfl).trans (by rw [e0]; rfl)
theorem ctr (k : Nat) : Ctr J Tryz.prog 177 (C k) :=
  run_ctr (E := E k) mixed tb_ok (eqOk_of tb_eqs) (Cts.cons (spec_l1In.ctr k) Cts.nil) (by kernel_rfl) Tryz.func177 (by kernel_rfl) rfl (fun ⟨a0, a1, _⟩ r h => (eq k a0 a1).trans h)
end spec_ReadFixed
namespace spec_ReadRec
def C (k : Nat) : Cn := ⟨[.val .str], [TRec, .bool], true, false, fun x => f k x.1⟩
def E (k : Nat) : Env := ⟨tb, [(144, spec_ReadVar.C k), (176, spec_l5Text.C k), (113, spec_ShowRec.C k), (177, spec_ReadFixed.C k)], [], k, 0, []⟩
theorem eq (k : Nat) (a0 : ByteArray) : run (E k) Tryz.f147 [.val .str] [TRec, .bool] true false (a0, ()) = f k a0 := by kernel_rfl
theorem ctr (k : Nat) : Ctr J Tryz.prog 147 (C k) :=
  run_ctr (E := E k) mixed tb_ok (eqOk_of tb_eqs) (Cts.cons (spec_ReadVar.ctr k) (Cts.cons (spec_l5Text.ctr k) (Cts.cons (spec_ShowRec.ctr k) (Cts.cons (spec_ReadFixed.ctr k) Cts.nil)))) (by kernel_rfl) Tryz.func147 (by kernel_rfl) rfl (fun ⟨a0, _⟩ r h => (eq k a0).trans h)
end spec_ReadRec
namespace spec_ScanRecs
def C (k : Nat) : Cn := ⟨[.val .str], [(.slice TSpot), (.int .i64)], true, false, fun x => f k x.1⟩
def E (k : Nat) : Env := ⟨tb, [(143, spec_Unframe.C k), (147, spec_ReadRec.C k)], [(3, [0, 4, 5])], k, 0, []⟩
section
variable (k : Nat) (a0 : ByteArray)
noncomputable def K0 : Ex → St → Option ((List (Ty.den TSpot)) × Int × Unit) := runK (E k) (endK (E k) Tryz.f94.results.toList [.val .str] (a0, ()) [(.slice TSpot), (.int .i64)] true false) [.blk 0, .code (at_ (bt 4 15) (body Tryz.f94))]
noncomputable def V0 (n0 : Nat) (x0_0 : ByteArray) (x0_1 : Int) (x0_2 : List (Ty.den TSpot)) : Option ((List (Ty.den TSpot)) × Int × Unit) := loopN (exec (E k) (at_ (bt 6 7) (body Tryz.f94))) (canon 0 [0, 4, 5]) (K0 k a0) n0 (mk 47 1 [(0, .str x0_0), (4, .ref 0), (5, .int .i64 x0_1)] [(0, .own false TSpot x0_2)])
theorem s0 (n0 : Nat) (x0_0 : ByteArray) (x0_1 : Int) (x0_2 : List (Ty.den TSpot)) : V0 k a0 (n0 + 1) x0_0 x0_1 x0_2 = b0 k (V0 k a0 n0) x0_0 x0_1 x0_2 := by kernel_rfl
theorem e0 (n0 : Nat) : V0 k a0 n0 = l0 k n0 := loop_eq (V := V0 k a0) (l := l0 k) rfl (fun n0 => funext fun x0_0 => funext fun x0_1 => funext fun x0_2 => s0 k a0 n0 x0_0 x0_1 x0_2) (fun _ => rfl) n0
end
theorem eq (k : Nat) (a0 : ByteArray) : run (E k) Tryz.f94 [.val .str] [(.slice TSpot), (.int .i64)] true false (a0, ()) = f k a0 := (show _ = t k (V0 k a0 k) a0 by kernel_rfl).trans (by rw [e0]; rfl)
theorem ctr (k : Nat) : Ctr J Tryz.prog 94 (C k) :=
  run_ctr (E := E k) mixed tb_ok (eqOk_of tb_eqs) (Cts.cons (spec_Unframe.ctr k) (Cts.cons (spec_ReadRec.ctr k) Cts.nil)) (by kernel_rfl) Tryz.func94 (by kernel_rfl) rfl (fun ⟨a0, _⟩ r h => (eq k a0).trans h)
end spec_ScanRecs
namespace spec_l11Places
def C (k : Nat) : Cn := ⟨[.val (.int .i64), .val .str], [(.slice TPlace)], true, false, fun x => f k x.1 x.2.1⟩
def E (k : Nat) : Env := ⟨tb, [(94, spec_ScanRecs.C k)], [(4, [0, 5, 6, 8])], k, 0, []⟩
section
variable (k : Nat) (a0 : Int) (a1 : ByteArray)
noncomputable def K0 : Ex → St → Option ((List (Ty.den TPlace)) × Unit) := runK (E k) (endK (E k) Tryz.f95.results.toList [.val (.int .i64), .val .str] (a0, a1, ()) [(.slice TPlace)] true false) [.blk 0, .code (at_ (bt 4 15) (body Tryz.f95))]
noncomputable def V0 (n0 : Nat) (x0_0 : Int) (x0_1 : Int) (x0_2 : List (Ty.den TPlace)) (x0_3 : List (Ty.den TSpot)) : Option ((List (Ty.den TPlace)) × Unit) := loopN (exec (E k) (at_ (bt 7 23) (body Tryz.f95))) (canon 0 [0, 5, 6, 8]) (K0 k a0 a1) n0 (mk 42 2 [(0, .int .i64 x0_0), (5, .ref 0), (6, .ref 1), (8, .int .i64 x0_1)] [(0, .own false TPlace x0_2), (1, .own false TSpot x0_3)])
theorem s0 (n0 : Nat) (x0_0 : Int) (x0_1 : Int) (x0_2 : List (Ty.den TPlace)) (x0_3 : List (Ty.den TSpot)) : V0 k a0 a1 (n0 + 1) x0_0 x0_1 x0_2 x0_3 = b0 k (V0 k a0 a1 n0) x0_0 x0_1 x0_2 x0_3 := by kernel_rfl
theorem e0 (n0 : Nat) : V0 k a0 a1 n0 = l0 k n0 := loop_eq (V := V0 k a0 a1) (l := l0 k) rfl (fun n0 => funext fun x0_0 => funext fun x0_1 => funext fun x0_2 => funext fun x0_3 => s0 k a0 a1 n0 x0_0 x0_1 x0_2 x0_3) (fun _ => rfl) n0
end
theorem eq (k : Nat) (a0 : Int) (a1 : ByteArray) : run (E k) Tryz.f95 [.val (.int .i64), .val .str] [(.slice TPlace)] true false (a0, a1, ()) = f k a0 a1 := (show _ = t k (V0 k a0 a1 k) a0 a1 by kernel_rfl).trans (by rw [e0]; rfl)
theorem ctr (k : Nat) : Ctr J Tryz.prog 95 (C k) :=
  run_ctr (E := E k) mixed tb_ok (eqOk_of tb_eqs) (Cts.cons (spec_ScanRecs.ctr k) Cts.nil) (by kernel_rfl) Tryz.func95 (by kernel_rfl) rfl (fun ⟨a0, a1, _⟩ r h => (eq k a0 a1).trans h)
end spec_l11Places
namespace spec_l9Of
def C (k : Nat) : Cn := ⟨[.val (.slice TPlace), .val (.int .i64), .val (.int .i64)], [(.slice TPlace)], true, false, fun x => f k x.1 x.2.1 x.2.2.1⟩
def E (k : Nat) : Env := ⟨tb, [], [(3, [0, 1, 2, 7, 8])], k, 0, []⟩
section
variable (k : Nat) (a0 : List (Ty.den TPlace)) (a1 : Int) (a2 : Int)
noncomputable def K0 : Ex → St → Option ((List (Ty.den TPlace)) × Unit) := runK (E k) (endK (E k) Tryz.f149.results.toList [.val (.slice TPlace), .val (.int .i64), .val (.int .i64)] (a0, a1, a2, ()) [(.slice TPlace)] true false) [.blk 0, .code (at_ (bt 3 7) (body Tryz.f149))]
noncomputable def V0 (n0 : Nat) (x0_0 : List (Ty.den TPlace)) (x0_1 : Int) (x0_2 : Int) (x0_3 : Int) (x0_4 : List (Ty.den TPlace)) : Option ((List (Ty.den TPlace)) × Unit) := loopN (exec (E k) (at_ (bt 6 11) (body Tryz.f149))) (canon 0 [0, 1, 2, 7, 8]) (K0 k a0 a1 a2) n0 (mk 53 1 [(0, .sl true TPlace x0_0), (1, .int .i64 x0_1), (2, .int .i64 x0_2), (7, .ref 0), (8, .int .i64 x0_3)] [(0, .own false TPlace x0_4)])
theorem s0 (n0 : Nat) (x0_0 : List (Ty.den TPlace)) (x0_1 : Int) (x0_2 : Int) (x0_3 : Int) (x0_4 : List (Ty.den TPlace)) : V0 k a0 a1 a2 (n0 + 1) x0_0 x0_1 x0_2 x0_3 x0_4 = b0 k (V0 k a0 a1 a2 n0) x0_0 x0_1 x0_2 x0_3 x0_4 := by kernel_rfl
theorem e0 (n0 : Nat) : V0 k a0 a1 a2 n0 = l0 k n0 := loop_eq (V := V0 k a0 a1 a2) (l := l0 k) rfl (fun n0 => funext fun x0_0 => funext fun x0_1 => funext fun x0_2 => funext fun x0_3 => funext fun x0_4 => s0 k a0 a1 a2 n0 x0_0 x0_1 x0_2 x0_3 x0_4) (fun _ => rfl) n0
end
theorem eq (k : Nat) (a0 : List (Ty.den TPlace)) (a1 : Int) (a2 : Int) : run (E k) Tryz.f149 [.val (.slice TPlace), .val (.int .i64), .val (.int .i64)] [(.slice TPlace)] true false (a0, a1, a2, ()) = f k a0 a1 a2 := (show _ = t k (V0 k a0 a1 a2 k) a0 a1 a2 by kernel_rfl).trans (by rw [e0]; rfl)
theorem ctr (k : Nat) : Ctr J Tryz.prog 149 (C k) :=
  run_ctr (E := E k) mixed tb_ok (eqOk_of tb_eqs) Cts.nil (by kernel_rfl) Tryz.func149 (by kernel_rfl) rfl (fun ⟨a0, a1, a2, _⟩ r h => (eq k a0 a1 a2).trans h)
end spec_l9Of
namespace spec_l9Recs
def C (k : Nat) : Cn := ⟨[.val (.slice TPlace)], [(.slice TRec)], true, false, fun x => f k x.1⟩
def E (k : Nat) : Env := ⟨tb, [], [(3, [0, 3, 4])], k, 0, []⟩
section
variable (k : Nat) (a0 : List (Ty.den TPlace))
noncomputable def K0 : Ex → St → Option ((List (Ty.den TRec)) × Unit) := runK (E k) (endK (E k) Tryz.f178.results.toList [.val (.slice TPlace)] (a0, ()) [(.slice TRec)] true false) [.blk 0, .code (at_ (bt 3 7) (body Tryz.f178))]
noncomputable def V0 (n0 : Nat) (x0_0 : List (Ty.den TPlace)) (x0_1 : Int) (x0_2 : List (Ty.den TRec)) : Option ((List (Ty.den TRec)) × Unit) := loopN (exec (E k) (at_ (bt 6 11) (body Tryz.f178))) (canon 0 [0, 3, 4]) (K0 k a0) n0 (mk 21 1 [(0, .sl true TPlace x0_0), (3, .ref 0), (4, .int .i64 x0_1)] [(0, .own false TRec x0_2)])
theorem s0 (n0 : Nat) (x0_0 : List (Ty.den TPlace)) (x0_1 : Int) (x0_2 : List (Ty.den TRec)) : V0 k a0 (n0 + 1) x0_0 x0_1 x0_2 = b0 k (V0 k a0 n0) x0_0 x0_1 x0_2 := by kernel_rfl
theorem e0 (n0 : Nat) : V0 k a0 n0 = l0 k n0 := loop_eq (V := V0 k a0) (l := l0 k) rfl (fun n0 => funext fun x0_0 => funext fun x0_1 => funext fun x0_2 => s0 k a0 n0 x0_0 x0_1 x0_2) (fun _ => rfl) n0
end
theorem eq (k : Nat) (a0 : List (Ty.den TPlace)) : run (E k) Tryz.f178 [.val (.slice TPlace)] [(.slice TRec)] true false (a0, ()) = f k a0 := (show _ = t k (V0 k a0 k) a0 by kernel_rfl).trans (by rw [e0]; rfl)
theorem ctr (k : Nat) : Ctr J Tryz.prog 178 (C k) :=
  run_ctr (E := E k) mixed tb_ok (eqOk_of tb_eqs) Cts.nil (by kernel_rfl) Tryz.func178 (by kernel_rfl) rfl (fun ⟨a0, _⟩ r h => (eq k a0).trans h)
end spec_l9Recs
namespace spec_SumOf
def C (k : Nat) : Cn := ⟨[.val (.slice TRec)], [(.int .i64)], true, false, fun x => f k x.1⟩
def E (k : Nat) : Env := ⟨tb, [(113, spec_ShowRec.C k), (161, spec_Crc.C k)], [(3, [0, 3, 4])], k, 0, []⟩
section
variable (k : Nat) (a0 : List (Ty.den TRec))
noncomputable def K0 : Ex → St → Option (Int × Unit) := runK (E k) (endK (E k) Tryz.f163.results.toList [.val (.slice TRec)] (a0, ()) [(.int .i64)] true false) [.blk 0, .code (at_ (bt 3 7) (body Tryz.f163))]
noncomputable def V0 (n0 : Nat) (x0_0 : List (Ty.den TRec)) (x0_1 : ByteArray) (x0_2 : Int) : Option (Int × Unit) := loopN (exec (E k) (at_ (bt 6 11) (body Tryz.f163))) (canon 0 [0, 3, 4]) (K0 k a0) n0 (mk 20 0 [(0, .sl true TRec x0_0), (3, .str x0_1), (4, .int .i64 x0_2)] [])
theorem s0 (n0 : Nat) (x0_0 : List (Ty.den TRec)) (x0_1 : ByteArray) (x0_2 : Int) : V0 k a0 (n0 + 1) x0_0 x0_1 x0_2 = b0 k (V0 k a0 n0) x0_0 x0_1 x0_2 := by kernel_rfl
theorem e0 (n0 : Nat) : V0 k a0 n0 = l0 k n0 := loop_eq (V := V0 k a0) (l := l0 k) rfl (fun n0 => funext fun x0_0 => funext fun x0_1 => funext fun x0_2 => s0 k a0 n0 x0_0 x0_1 x0_2) (fun _ => rfl) n0
end
theorem eq (k : Nat) (a0 : List (Ty.den TRec)) : run (E k) Tryz.f163 [.val (.slice TRec)] [(.int .i64)] true false (a0, ()) = f k a0 := (show _ = t k (V0 k a0 k) a0 by kernel_rfl).trans (by rw [e0]; rfl)
theorem ctr (k : Nat) : Ctr J Tryz.prog 163 (C k) :=
  run_ctr (E := E k) mixed tb_ok (eqOk_of tb_eqs) (Cts.cons (spec_ShowRec.ctr k) (Cts.cons (spec_Crc.ctr k) Cts.nil)) (by kernel_rfl) Tryz.func163 (by kernel_rfl) rfl (fun ⟨a0, _⟩ r h => (eq k a0).trans h)
end spec_SumOf
namespace spec_l9Fits
def C (k : Nat) : Cn := ⟨[.val TRec, .val (.slice TPlace)], [.bool], true, false, fun x => f k x.1 x.2.1⟩
def E (k : Nat) : Env := ⟨tb, [(178, spec_l9Recs.C k), (163, spec_SumOf.C k)], [], k, 0, []⟩
theorem eq (k : Nat) (a0 : Ty.den TRec) (a1 : List (Ty.den TPlace)) : run (E k) Tryz.f148 [.val TRec, .val (.slice TPlace)] [.bool] true false (a0, a1, ()) = f k a0 a1 := by kernel_rfl
theorem ctr (k : Nat) : Ctr J Tryz.prog 148 (C k) :=
  run_ctr (E := E k) mixed tb_ok (eqOk_of tb_eqs) (Cts.cons (spec_l9Recs.ctr k) (Cts.cons (spec_SumOf.ctr k) Cts.nil)) (by kernel_rfl) Tryz.func148 (by kernel_rfl) rfl (fun ⟨a0, a1, _⟩ r h => (eq k a0 a1).trans h)
end spec_l9Fits
namespace spec_Sealed
def C (k : Nat) : Cn := ⟨[.val (.slice TPlace)], [(.slice (.int .i64))], true, false, fun x => f k x.1⟩
def E (k : Nat) : Env := ⟨tb, [(149, spec_l9Of.C k), (148, spec_l9Fits.C k)], [(3, [0, 3, 4])], k, 0, []⟩
section
variable (k : Nat) (a0 : List (Ty.den TPlace))
noncomputable def K0 : Ex → St → Option ((List Int) × Unit) := runK (E k) (endK (E k) Tryz.f96.results.toList [.val (.slice TPlace)] (a0, ()) [(.slice (.int .i64))] true false) [.blk 0, .code (at_ (bt 3 7) (body Tryz.f96))]
noncomputable def V0 (n0 : Nat) (x0_0 : List (Ty.den TPlace)) (x0_1 : Int) (x0_2 : List Int) : Option ((List Int) × Unit) := loopN (exec (E k) (at_ (bt 6 11) (body Tryz.f96))) (canon 0 [0, 3, 4]) (K0 k a0) n0 (mk 46 1 [(0, .sl true TPlace x0_0), (3, .ref 0), (4, .int .i64 x0_1)] [(0, .own false (.int .i64) x0_2)])
theorem s0 (n0 : Nat) (x0_0 : List (Ty.den TPlace)) (x0_1 : Int) (x0_2 : List Int) : V0 k a0 (n0 + 1) x0_0 x0_1 x0_2 = b0 k (V0 k a0 n0) x0_0 x0_1 x0_2 := by kernel_rfl
theorem e0 (n0 : Nat) : V0 k a0 n0 = l0 k n0 := loop_eq (V := V0 k a0) (l := l0 k) rfl (fun n0 => funext fun x0_0 => funext fun x0_1 => funext fun x0_2 => s0 k a0 n0 x0_0 x0_1 x0_2) (fun _ => rfl) n0
end
theorem eq (k : Nat) (a0 : List (Ty.den TPlace)) : run (E k) Tryz.f96 [.val (.slice TPlace)] [(.slice (.int .i64))] true false (a0, ()) = f k a0 := (show _ = t k (V0 k a0 k) a0 by kernel_rfl).trans (by rw [e0]; rfl)
theorem ctr (k : Nat) : Ctr J Tryz.prog 96 (C k) :=
  run_ctr (E := E k) mixed tb_ok (eqOk_of tb_eqs) (Cts.cons (spec_l9Of.ctr k) (Cts.cons (spec_l9Fits.ctr k) Cts.nil)) (by kernel_rfl) Tryz.func96 (by kernel_rfl) rfl (fun ⟨a0, _⟩ r h => (eq k a0).trans h)
end spec_Sealed
namespace spec_l4Has
def C (k : Nat) : Cn := ⟨[.val (.slice (.int .i64)), .val (.int .i64)], [.bool], true, false, fun x => f k x.1 x.2.1⟩
def E (k : Nat) : Env := ⟨tb, [], [(2, [0, 1, 5])], k, 0, []⟩
section
variable (k : Nat) (a0 : List Int) (a1 : Int)
noncomputable def K0 : Ex → St → Option (Bool × Unit) := runK (E k) (endK (E k) Tryz.f97.results.toList [.val (.slice (.int .i64)), .val (.int .i64)] (a0, a1, ()) [.bool] true false) [.blk 0, .code (at_ (bt 2 3) (body Tryz.f97))]
noncomputable def V0 (n0 : Nat) (x0_0 : List Int) (x0_1 : Int) (x0_2 : Int) : Option (Bool × Unit) := loopN (exec (E k) (at_ (bt 5 5) (body Tryz.f97))) (canon 0 [0, 1, 5]) (K0 k a0 a1) n0 (mk 18 0 [(0, .sl true (.int .i64) x0_0), (1, .int .i64 x0_1), (5, .int .i64 x0_2)] [])
theorem s0 (n0 : Nat) (x0_0 : List Int) (x0_1 : Int) (x0_2 : Int) : V0 k a0 a1 (n0 + 1) x0_0 x0_1 x0_2 = b0 k (V0 k a0 a1 n0) x0_0 x0_1 x0_2 := by kernel_rfl
theorem e0 (n0 : Nat) : V0 k a0 a1 n0 = l0 k n0 := loop_eq (V := V0 k a0 a1) (l := l0 k) rfl (fun n0 => funext fun x0_0 => funext fun x0_1 => funext fun x0_2 => s0 k a0 a1 n0 x0_0 x0_1 x0_2) (fun _ => rfl) n0
end
theorem eq (k : Nat) (a0 : List Int) (a1 : Int) : run (E k) Tryz.f97 [.val (.slice (.int .i64)), .val (.int .i64)] [.bool] true false (a0, a1, ()) = f k a0 a1 := (show _ = t k (V0 k a0 a1 k) a0 a1 by kernel_rfl).trans (by rw [e0]; rfl)
theorem ctr (k : Nat) : Ctr J Tryz.prog 97 (C k) :=
  run_ctr (E := E k) mixed tb_ok (eqOk_of tb_eqs) Cts.nil (by kernel_rfl) Tryz.func97 (by kernel_rfl) rfl (fun ⟨a0, a1, _⟩ r h => (eq k a0 a1).trans h)
end spec_l4Has
namespace spec_Check
def C (k : Nat) : Cn := ⟨[.val TDisk], [TReport], true, false, fun x => f k x.1⟩
def E (k : Nat) : Env := ⟨tb, [(79, spec_FileText.C k), (92, spec_ReadLive.C k), (93, spec_Orphans.C k), (80, spec_SegName.C k), (94, spec_ScanRecs.C k), (95, spec_l11Places.C k), (96, spec_Sealed.C k), (97, spec_l4Has.C k)], [(8, [1, 2, 3, 6, 8, 9]), (21, [2, 3, 8, 14, 15])], k, 0, []⟩
section
variable (k : Nat) (a0 : Ty.den TDisk)
noncomputable def K0 : Ex → St → Option ((Ty.den TReport) × Unit) := runK (E k) (endK (E k) Tryz.f40.results.toList [.val TDisk] (a0, ()) [TReport] true false) [.blk 0, .code (at_ (bt 8 255) (body Tryz.f40))]
noncomputable def K1 : Ex → St → Option ((Ty.den TReport) × Unit) := runK (E k) (endK (E k) Tryz.f40.results.toList [.val TDisk] (a0, ()) [TReport] true false) [.blk 2, .code (at_ (bt 11 2047) (body Tryz.f40))]
noncomputable def V0 (n0 : Nat) (x0_0 : Int) (x0_1 : List (Ty.den TPair)) (x0_2 : Int) (x0_3 : Int) (x0_4 : Bool) (x0_5 : Bool) (x0_6 : Int) (x0_7 : Int) (x0_8 : Int) (x0_9 : Int) (x0_10 : Int) (x0_11 : Int) (x0_12 : Bool) (x0_13 : Int) (x0_14 : Int) (x0_15 : Int) (x0_16 : Int) (x0_17 : Int) (x0_18 : Int) (x0_19 : List Int) (x0_20 : Int) (x0_21 : List (Ty.den TPlace)) : Option ((Ty.den TReport) × Unit) := loopN (exec (E k) (at_ (bt 11 383) (body Tryz.f40))) (canon 0 [1, 2, 3, 6, 8, 9]) (K0 k a0) n0 (mk 126 6 [(1, .ptr 0 0 0), (2, .ptr 1 0 0), (3, .ptr 2 0 0), (6, .ptr 3 0 0), (8, .ref 5), (9, .int .i64 x0_0)] [(0, .box [.sl true TPair x0_1, .int .i64 x0_2, .int .i64 x0_3, .bool x0_4]), (1, .box [.bool x0_5, .int .i64 x0_6, .int .i64 x0_7, .int .i64 x0_8, .int .i64 x0_9, .int .i64 x0_10, .int .i64 x0_11]), (2, .box [.bool x0_12, .int .i64 x0_13, .int .i64 x0_14, .int .i64 x0_15, .int .i64 x0_16, .int .i64 x0_17, .int .i64 x0_18]), (4, .own false (.int .i64) x0_19), (3, .box [.int .i64 x0_20, .ref 4]), (5, .own false TPlace x0_21)])
noncomputable def V1 (n1 : Nat) (x1_0 : Int) (x1_1 : Bool) (x1_2 : Int) (x1_3 : Int) (x1_4 : Int) (x1_5 : Int) (x1_6 : Int) (x1_7 : Int) (x1_8 : Bool) (x1_9 : Int) (x1_10 : Int) (x1_11 : Int) (x1_12 : Int) (x1_13 : Int) (x1_14 : Int) (x1_15 : List (Ty.den TPlace)) (x1_16 : List Int) : Option ((Ty.den TReport) × Unit) := loopN (exec (E k) (at_ (bt 14 3071) (body Tryz.f40))) (canon 0 [2, 3, 8, 14, 15]) (K1 k a0) n1 (mk 126 4 [(2, .ptr 0 0 0), (3, .ptr 1 0 0), (8, .ref 2), (14, .ref 3), (15, .int .i64 x1_0)] [(0, .box [.bool x1_1, .int .i64 x1_2, .int .i64 x1_3, .int .i64 x1_4, .int .i64 x1_5, .int .i64 x1_6, .int .i64 x1_7]), (1, .box [.bool x1_8, .int .i64 x1_9, .int .i64 x1_10, .int .i64 x1_11, .int .i64 x1_12, .int .i64 x1_13, .int .i64 x1_14]), (2, .own false TPlace x1_15), (3, .own false (.int .i64) x1_16)])
theorem s0 (n0 : Nat) (x0_0 : Int) (x0_1 : List (Ty.den TPair)) (x0_2 : Int) (x0_3 : Int) (x0_4 : Bool) (x0_5 : Bool) (x0_6 : Int) (x0_7 : Int) (x0_8 : Int) (x0_9 : Int) (x0_10 : Int) (x0_11 : Int) (x0_12 : Bool) (x0_13 : Int) (x0_14 : Int) (x0_15 : Int) (x0_16 : Int) (x0_17 : Int) (x0_18 : Int) (x0_19 : List Int) (x0_20 : Int) (x0_21 : List (Ty.den TPlace)) : V0 k a0 (n0 + 1) x0_0 x0_1 x0_2 x0_3 x0_4 x0_5 x0_6 x0_7 x0_8 x0_9 x0_10 x0_11 x0_12 x0_13 x0_14 x0_15 x0_16 x0_17 x0_18 x0_19 x0_20 x0_21 = b0 k (V1 k a0 k) (V0 k a0 n0) x0_0 x0_1 x0_2 x0_3 x0_4 x0_5 x0_6 x0_7 x0_8 x0_9 x0_10 x0_11 x0_12 x0_13 x0_14 x0_15 x0_16 x0_17 x0_18 x0_19 x0_20 x0_21 := by kernel_rfl
theorem s1 (n1 : Nat) (x1_0 : Int) (x1_1 : Bool) (x1_2 : Int) (x1_3 : Int) (x1_4 : Int) (x1_5 : Int) (x1_6 : Int) (x1_7 : Int) (x1_8 : Bool) (x1_9 : Int) (x1_10 : Int) (x1_11 : Int) (x1_12 : Int) (x1_13 : Int) (x1_14 : Int) (x1_15 : List (Ty.den TPlace)) (x1_16 : List Int) : V1 k a0 (n1 + 1) x1_0 x1_1 x1_2 x1_3 x1_4 x1_5 x1_6 x1_7 x1_8 x1_9 x1_10 x1_11 x1_12 x1_13 x1_14 x1_15 x1_16 = b1 k (V1 k a0 n1) x1_0 x1_1 x1_2 x1_3 x1_4 x1_5 x1_6 x1_7 x1_8 x1_9 x1_10 x1_11 x1_12 x1_13 x1_14 x1_15 x1_16 := by kernel_rfl
theorem e1 (n1 : Nat) : V1 k a0 n1 = l1 k n1 := loop_eq (V := V1 k a0) (l := l1 k) rfl (fun n1 => funext fun x1_0 => funext fun x1_1 => funext fun x1_2 => funext fun x1_3 => funext fun x1_4 => funext fun x1_5 => funext fun x1_6 => funext fun x1_7 => funext fun x1_8 => funext fun x1_9 => funext fun x1_10 => funext fun x1_11 => funext fun x1_12 => funext fun x1_13 => funext fun x1_14 => funext fun x1_15 => funext fun x1_16 => s1 k a0 n1 x1_0 x1_1 x1_2 x1_3 x1_4 x1_5 x1_6 x1_7 x1_8 x1_9 x1_10 x1_11 x1_12 x1_13 x1_14 x1_15 x1_16) (fun _ => rfl) n1
theorem e0 (n0 : Nat) : V0 k a0 n0 = l0 k n0 := by
  induction n0 with
  | zero => rfl
  | succ n0 ih =>
    have h : V0 k a0 (n0 + 1) = b0 k (V1 k a0 k) (V0 k a0 n0) := funext fun x0_0 => funext fun x0_1 => funext fun x0_2 => funext fun x0_3 => funext fun x0_4 => funext fun x0_5 => funext fun x0_6 => funext fun x0_7 => funext fun x0_8 => funext fun x0_9 => funext fun x0_10 => funext fun x0_11 => funext fun x0_12 => funext fun x0_13 => funext fun x0_14 => funext fun x0_15 => funext fun x0_16 => funext fun x0_17 => funext fun x0_18 => funext fun x0_19 => funext fun x0_20 => funext fun x0_21 => s0 k a0 n0 x0_0 x0_1 x0_2 x0_3 x0_4 x0_5 x0_6 x0_7 x0_8 x0_9 x0_10 x0_11 x0_12 x0_13 x0_14 x0_15 x0_16 x0_17 x0_18 x0_19 x0_20 x0_21
    rw [h, e1, ih]
    rfl
end
theorem eq (k : Nat) (a0 : Ty.den TDisk) : run (E k) Tryz.f40 [.val TDisk] [TReport] true false (a0, ()) = f k a0 := (show _ = t k (V0 k a0 k) a0 by kernel_rfl).trans (by rw [e0]; rfl)
theorem ctr (k : Nat) : Ctr J Tryz.prog 40 (C k) :=
  run_ctr (E := E k) mixed tb_ok (eqOk_of tb_eqs) (Cts.cons (spec_FileText.ctr k) (Cts.cons (spec_ReadLive.ctr k) (Cts.cons (spec_Orphans.ctr k) (Cts.cons (spec_SegName.ctr k) (Cts.cons (spec_ScanRecs.ctr k) (Cts.cons (spec_l11Places.ctr k) (Cts.cons (spec_Sealed.ctr k) (Cts.cons (spec_l4Has.ctr k) Cts.nil)))))))) (by kernel_rfl) Tryz.func40 (by kernel_rfl) rfl (fun ⟨a0, _⟩ r h => (eq k a0).trans h)
end spec_Check
namespace spec_Sound
def C (k : Nat) : Cn := ⟨[.val TDisk], [.bool], true, false, fun x => f k x.1⟩
def E (k : Nat) : Env := ⟨tb, [(40, spec_Check.C k)], [], k, 0, []⟩
theorem eq (k : Nat) (a0 : Ty.den TDisk) : run (E k) Tryz.f38 [.val TDisk] [.bool] true false (a0, ()) = f k a0 := by kernel_rfl
theorem ctr (k : Nat) : Ctr J Tryz.prog 38 (C k) :=
  run_ctr (E := E k) mixed tb_ok (eqOk_of tb_eqs) (Cts.cons (spec_Check.ctr k) Cts.nil) (by kernel_rfl) Tryz.func38 (by kernel_rfl) rfl (fun ⟨a0, _⟩ r h => (eq k a0).trans h)
end spec_Sound
namespace impl_fileAt
def C (k : Nat) : Cn := ⟨[.val TDisk, .val .str], [(.int .i64)], true, false, fun x => f k x.1 x.2.1⟩
def E (k : Nat) : Env := ⟨tb, [], [(2, [1, 8, 9, 10])], k, 0, []⟩
section
variable (k : Nat) (a0 : Ty.den TDisk) (a1 : ByteArray)
noncomputable def K0 : Ex → St → Option (Int × Unit) := runK (E k) (endK (E k) Tryz.f138.results.toList [.val TDisk, .val .str] (a0, a1, ()) [(.int .i64)] true false) [.blk 0, .code (at_ (bt 2 3) (body Tryz.f138))]
noncomputable def V0 (n0 : Nat) (x0_0 : ByteArray) (x0_1 : List (Ty.den TPair)) (x0_2 : Int) (x0_3 : Int) : Option (Int × Unit) := loopN (exec (E k) (at_ (bt 5 5) (body Tryz.f138))) (canon 0 [1, 8, 9, 10]) (K0 k a0 a1) n0 (mk 21 0 [(1, .str x0_0), (8, .sl true TPair x0_1), (9, .int .i64 x0_2), (10, .int .i64 x0_3)] [])
theorem s0 (n0 : Nat) (x0_0 : ByteArray) (x0_1 : List (Ty.den TPair)) (x0_2 : Int) (x0_3 : Int) : V0 k a0 a1 (n0 + 1) x0_0 x0_1 x0_2 x0_3 = b0 k (V0 k a0 a1 n0) x0_0 x0_1 x0_2 x0_3 := by kernel_rfl
theorem e0 (n0 : Nat) : V0 k a0 a1 n0 = l0 k n0 := loop_eq (V := V0 k a0 a1) (l := l0 k) rfl (fun n0 => funext fun x0_0 => funext fun x0_1 => funext fun x0_2 => funext fun x0_3 => s0 k a0 a1 n0 x0_0 x0_1 x0_2 x0_3) (fun _ => rfl) n0
end
theorem eq (k : Nat) (a0 : Ty.den TDisk) (a1 : ByteArray) : run (E k) Tryz.f138 [.val TDisk, .val .str] [(.int .i64)] true false (a0, a1, ()) = f k a0 a1 := (show _ = t k (V0 k a0 a1 k) a0 a1 by kernel_rfl).trans (by rw [e0]; rfl)
theorem ctr (k : Nat) : Ctr J Tryz.prog 138 (C k) :=
  run_ctr (E := E k) mixed tb_ok (eqOk_of tb_eqs) Cts.nil (by kernel_rfl) Tryz.func138 (by kernel_rfl) rfl (fun ⟨a0, a1, _⟩ r h => (eq k a0 a1).trans h)
end impl_fileAt
namespace impl_in
def C (k : Nat) : Cn := ⟨[.val (.int .i64), .val (.int .i64), .val (.int .i64)], [.bool], true, false, fun x => f k x.1 x.2.1 x.2.2.1⟩
def E (k : Nat) : Env := ⟨tb, [], [], k, 0, []⟩
theorem eq (k : Nat) (a0 : Int) (a1 : Int) (a2 : Int) : run (E k) Tryz.f61 [.val (.int .i64), .val (.int .i64), .val (.int .i64)] [.bool] true false (a0, a1, a2, ()) = f k a0 a1 a2 := by kernel_rfl
theorem ctr (k : Nat) : Ctr J Tryz.prog 61 (C k) :=
  run_ctr (E := E k) mixed tb_ok (eqOk_of tb_eqs) Cts.nil (by kernel_rfl) Tryz.func61 (by kernel_rfl) rfl (fun ⟨a0, a1, a2, _⟩ r h => (eq k a0 a1 a2).trans h)
end impl_in
namespace impl_NameOk
def C (k : Nat) : Cn := ⟨[.val .str], [.bool], true, false, fun x => f k x.1⟩
def E (k : Nat) : Env := ⟨tb, [(61, impl_in.C k)], [(2, [0, 3])], k, 0, []⟩
section
variable (k : Nat) (a0 : ByteArray)
noncomputable def K0 : Ex → St → Option (Bool × Unit) := runK (E k) (endK (E k) Tryz.f164.results.toList [.val .str] (a0, ()) [.bool] true false) [.blk 0, .code (at_ (bt 2 3) (body Tryz.f164))]
noncomputable def V0 (n0 : Nat) (x0_0 : ByteArray) (x0_1 : Int) : Option (Bool × Unit) := loopN (exec (E k) (at_ (bt 5 5) (body Tryz.f164))) (canon 0 [0, 3]) (K0 k a0) n0 (mk 37 0 [(0, .str x0_0), (3, .int .i64 x0_1)] [])
theorem s0 (n0 : Nat) (x0_0 : ByteArray) (x0_1 : Int) : V0 k a0 (n0 + 1) x0_0 x0_1 = b0 k (V0 k a0 n0) x0_0 x0_1 := by kernel_rfl
theorem e0 (n0 : Nat) : V0 k a0 n0 = l0 k n0 := loop_eq (V := V0 k a0) (l := l0 k) rfl (fun n0 => funext fun x0_0 => funext fun x0_1 => s0 k a0 n0 x0_0 x0_1) (fun _ => rfl) n0
end
theorem eq (k : Nat) (a0 : ByteArray) : run (E k) Tryz.f164 [.val .str] [.bool] true false (a0, ()) = f k a0 := (show _ = t k (V0 k a0 k) a0 by kernel_rfl).trans (by rw [e0]; rfl)
theorem ctr (k : Nat) : Ctr J Tryz.prog 164 (C k) :=
  run_ctr (E := E k) mixed tb_ok (eqOk_of tb_eqs) (Cts.cons (impl_in.ctr k) Cts.nil) (by kernel_rfl) Tryz.func164 (by kernel_rfl) rfl (fun ⟨a0, _⟩ r h => (eq k a0).trans h)
end impl_NameOk
namespace impl_DiskOk
def C (k : Nat) : Cn := ⟨[.val TDisk], [.bool], true, false, fun x => f k x.1⟩
def E (k : Nat) : Env := ⟨tb, [(61, impl_in.C k), (164, impl_NameOk.C k)], [(5, [1, 3, 23, 24, 25])], k, 0, []⟩
section
variable (k : Nat) (a0 : Ty.den TDisk)
noncomputable def K0 : Ex → St → Option (Bool × Unit) := runK (E k) (endK (E k) Tryz.f119.results.toList [.val TDisk] (a0, ()) [.bool] true false) [.blk 0, .code (at_ (bt 4 15) (body Tryz.f119))]
noncomputable def V0 (n0 : Nat) (x0_0 : Int) (x0_1 : List (Ty.den TPair)) (x0_2 : Int) (x0_3 : Int) (x0_4 : List (Ty.den TPair)) (x0_5 : Int) (x0_6 : Int) (x0_7 : Bool) : Option (Bool × Unit) := loopN (exec (E k) (at_ (bt 7 23) (body Tryz.f119))) (canon 0 [1, 3, 23, 24, 25]) (K0 k a0) n0 (mk 69 1 [(1, .ptr 0 0 0), (3, .int .i64 x0_0), (23, .sl true TPair x0_1), (24, .int .i64 x0_2), (25, .int .i64 x0_3)] [(0, .box [.sl true TPair x0_4, .int .i64 x0_5, .int .i64 x0_6, .bool x0_7])])
theorem s0 (n0 : Nat) (x0_0 : Int) (x0_1 : List (Ty.den TPair)) (x0_2 : Int) (x0_3 : Int) (x0_4 : List (Ty.den TPair)) (x0_5 : Int) (x0_6 : Int) (x0_7 : Bool) : V0 k a0 (n0 + 1) x0_0 x0_1 x0_2 x0_3 x0_4 x0_5 x0_6 x0_7 = b0 k (V0 k a0 n0) x0_0 x0_1 x0_2 x0_3 x0_4 x0_5 x0_6 x0_7 := by kernel_rfl
theorem e0 (n0 : Nat) : V0 k a0 n0 = l0 k n0 := loop_eq (V := V0 k a0) (l := l0 k) rfl (fun n0 => funext fun x0_0 => funext fun x0_1 => funext fun x0_2 => funext fun x0_3 => funext fun x0_4 => funext fun x0_5 => funext fun x0_6 => funext fun x0_7 => s0 k a0 n0 x0_0 x0_1 x0_2 x0_3 x0_4 x0_5 x0_6 x0_7) (fun _ => rfl) n0
end
theorem eq (k : Nat) (a0 : Ty.den TDisk) : run (E k) Tryz.f119 [.val TDisk] [.bool] true false (a0, ()) = f k a0 := (show _ = t k (V0 k a0 k) a0 by kernel_rfl).trans (by rw [e0]; rfl)
theorem ctr (k : Nat) : Ctr J Tryz.prog 119 (C k) :=
  run_ctr (E := E k) mixed tb_ok (eqOk_of tb_eqs) (Cts.cons (impl_in.ctr k) (Cts.cons (impl_NameOk.ctr k) Cts.nil)) (by kernel_rfl) Tryz.func119 (by kernel_rfl) rfl (fun ⟨a0, _⟩ r h => (eq k a0).trans h)
end impl_DiskOk
namespace impl_FileText
def C (k : Nat) : Cn := ⟨[.val TDisk, .val .str], [.str, .bool], true, false, fun x => f k x.1 x.2.1⟩
def E (k : Nat) : Env := ⟨tb, [(138, impl_fileAt.C k), (119, impl_DiskOk.C k)], [], k, 0, []⟩
theorem eq (k : Nat) (a0 : Ty.den TDisk) (a1 : ByteArray) : run (E k) Tryz.f83 [.val TDisk, .val .str] [.str, .bool] true false (a0, a1, ()) = f k a0 a1 := by kernel_rfl
theorem ctr (k : Nat) : Ctr J Tryz.prog 83 (C k) :=
  run_ctr (E := E k) mixed tb_ok (eqOk_of tb_eqs) (Cts.cons (impl_fileAt.ctr k) (Cts.cons (impl_DiskOk.ctr k) Cts.nil)) (by kernel_rfl) Tryz.func83 (by kernel_rfl) rfl (fun ⟨a0, a1, _⟩ r h => (eq k a0 a1).trans h)
end impl_FileText
namespace impl_ReadVar
def C (k : Nat) : Cn := ⟨[.val .str], [(.int .i64), (.int .i64)], true, false, fun x => f k x.1⟩
def E (k : Nat) : Env := ⟨tb, [], [(3, [0, 4, 5])], k, 0, []⟩
section
variable (k : Nat) (a0 : ByteArray)
noncomputable def K0 : Ex → St → Option (Int × Int × Unit) := runK (E k) (endK (E k) Tryz.f179.results.toList [.val .str] (a0, ()) [(.int .i64), (.int .i64)] true false) [.blk 0, .code (at_ (bt 3 7) (body Tryz.f179))]
noncomputable def V0 (n0 : Nat) (x0_0 : ByteArray) (x0_1 : Int) (x0_2 : Int) : Option (Int × Int × Unit) := loopN (exec (E k) (at_ (bt 6 11) (body Tryz.f179))) (canon 0 [0, 4, 5]) (K0 k a0) n0 (mk 39 0 [(0, .str x0_0), (4, .int .i64 x0_1), (5, .int .i64 x0_2)] [])
theorem s0 (n0 : Nat) (x0_0 : ByteArray) (x0_1 : Int) (x0_2 : Int) : V0 k a0 (n0 + 1) x0_0 x0_1 x0_2 = b0 k (V0 k a0 n0) x0_0 x0_1 x0_2 := by kernel_rfl
theorem e0 (n0 : Nat) : V0 k a0 n0 = l0 k n0 := loop_eq (V := V0 k a0) (l := l0 k) rfl (fun n0 => funext fun x0_0 => funext fun x0_1 => funext fun x0_2 => s0 k a0 n0 x0_0 x0_1 x0_2) (fun _ => rfl) n0
end
theorem eq (k : Nat) (a0 : ByteArray) : run (E k) Tryz.f179 [.val .str] [(.int .i64), (.int .i64)] true false (a0, ()) = f k a0 := (show _ = t k (V0 k a0 k) a0 by kernel_rfl).trans (by rw [e0]; rfl)
theorem ctr (k : Nat) : Ctr J Tryz.prog 179 (C k) :=
  run_ctr (E := E k) mixed tb_ok (eqOk_of tb_eqs) Cts.nil (by kernel_rfl) Tryz.func179 (by kernel_rfl) rfl (fun ⟨a0, _⟩ r h => (eq k a0).trans h)
end impl_ReadVar
namespace impl_Var
def C (k : Nat) : Cn := ⟨[.val (.int .i64)], [.str], true, false, fun x => f k x.1⟩
def E (k : Nat) : Env := ⟨tb, [(61, impl_in.C k)], [(4, [0, 3])], k, 0, []⟩
section
variable (k : Nat) (a0 : Int)
noncomputable def K0 : Ex → St → Option (ByteArray × Unit) := runK (E k) (endK (E k) Tryz.f172.results.toList [.val (.int .i64)] (a0, ()) [.str] true false) [.blk 0, .code (at_ (bt 4 15) (body Tryz.f172))]
noncomputable def V0 (n0 : Nat) (x0_0 : Int) (x0_1 : List Int) : Option (ByteArray × Unit) := loopN (exec (E k) (at_ (bt 6 7) (body Tryz.f172))) (canon 0 [0, 3]) (K0 k a0) n0 (mk 24 1 [(0, .int .i64 x0_0), (3, .ref 0)] [(0, .own false (.int .u8) x0_1)])
theorem s0 (n0 : Nat) (x0_0 : Int) (x0_1 : List Int) : V0 k a0 (n0 + 1) x0_0 x0_1 = b0 k (V0 k a0 n0) x0_0 x0_1 := by kernel_rfl
theorem e0 (n0 : Nat) : V0 k a0 n0 = l0 k n0 := loop_eq (V := V0 k a0) (l := l0 k) rfl (fun n0 => funext fun x0_0 => funext fun x0_1 => s0 k a0 n0 x0_0 x0_1) (fun _ => rfl) n0
end
theorem eq (k : Nat) (a0 : Int) : run (E k) Tryz.f172 [.val (.int .i64)] [.str] true false (a0, ()) = f k a0 := (show _ = t k (V0 k a0 k) a0 by kernel_rfl).trans (by rw [e0]; rfl)
theorem ctr (k : Nat) : Ctr J Tryz.prog 172 (C k) :=
  run_ctr (E := E k) mixed tb_ok (eqOk_of tb_eqs) (Cts.cons (impl_in.ctr k) Cts.nil) (by kernel_rfl) Tryz.func172 (by kernel_rfl) rfl (fun ⟨a0, _⟩ r h => (eq k a0).trans h)
end impl_Var
namespace impl_textOf
def C (k : Nat) : Cn := ⟨[.val .str], [.str], true, false, fun x => f k x.1⟩
def E (k : Nat) : Env := ⟨tb, [(172, impl_Var.C k)], [], k, 0, []⟩
theorem eq (k : Nat) (a0 : ByteArray) : run (E k) Tryz.f167 [.val .str] [.str] true false (a0, ()) = f k a0 := by kernel_rfl
theorem ctr (k : Nat) : Ctr J Tryz.prog 167 (C k) :=
  run_ctr (E := E k) mixed tb_ok (eqOk_of tb_eqs) (Cts.cons (impl_Var.ctr k) Cts.nil) (by kernel_rfl) Tryz.func167 (by kernel_rfl) rfl (fun ⟨a0, _⟩ r h => (eq k a0).trans h)
end impl_textOf
namespace impl_Crc
def C (k : Nat) : Cn := ⟨[.val .str], [(.int .i64)], true, false, fun x => f k x.1⟩
def E (k : Nat) : Env := ⟨tb, [], [(3, [0, 3, 4]), (7, [0, 3, 4, 18])], k, 0, []⟩
section
variable (k : Nat) (a0 : ByteArray)
noncomputable def K0 : Ex → St → Option (Int × Unit) := runK (E k) (endK (E k) Tryz.f169.results.toList [.val .str] (a0, ()) [(.int .i64)] true false) [.blk 0, .code (at_ (bt 3 7) (body Tryz.f169))]
noncomputable def B0 (n0 : Nat) : Ex → St → Option (Int × Unit) := lpK (E k) (at_ (bt 6 11) (body Tryz.f169)) 0 [0, 3, 4] (K0 k a0) n0
noncomputable def K1 (n0 : Nat) : Ex → St → Option (Int × Unit) := runK (E k) (B0 k a0 n0) [.blk 2, .blk 1, .code (at_ (bt 8 203) (body Tryz.f169))]
noncomputable def V0 (n0 : Nat) (x0_0 : ByteArray) (x0_1 : Int) (x0_2 : Int) : Option (Int × Unit) := loopN (exec (E k) (at_ (bt 6 11) (body Tryz.f169))) (canon 0 [0, 3, 4]) (K0 k a0) n0 (mk 32 0 [(0, .str x0_0), (3, .int .u32 x0_1), (4, .int .i64 x0_2)] [])
noncomputable def V1 (n0 n1 : Nat) (x1_0 : ByteArray) (x1_1 : Int) (x1_2 : Int) (x1_3 : Int) : Option (Int × Unit) := loopN (exec (E k) (at_ (bt 13 1611) (body Tryz.f169))) (canon 0 [0, 3, 4, 18]) (K1 k a0 n0) n1 (mk 32 0 [(0, .str x1_0), (3, .int .u32 x1_1), (4, .int .i64 x1_2), (18, .int .i64 x1_3)] [])
theorem s0 (n0 : Nat) (x0_0 : ByteArray) (x0_1 : Int) (x0_2 : Int) : V0 k a0 (n0 + 1) x0_0 x0_1 x0_2 = b0 k (V1 k a0 n0 k) (V0 k a0 n0) x0_0 x0_1 x0_2 := by kernel_rfl
theorem s1 (n0 n1 : Nat) (x1_0 : ByteArray) (x1_1 : Int) (x1_2 : Int) (x1_3 : Int) : V1 k a0 n0 (n1 + 1) x1_0 x1_1 x1_2 x1_3 = b1 k (V0 k a0 n0) (V1 k a0 n0 n1) x1_0 x1_1 x1_2 x1_3 := by kernel_rfl
theorem e1 (n0 n1 : Nat) : V1 k a0 n0 n1 = l1 k (V0 k a0 n0) n1 := loop_eq (V := V1 k a0 n0) (l := l1 k (V0 k a0 n0)) rfl (fun n1 => funext fun x1_0 => funext fun x1_1 => funext fun x1_2 => funext fun x1_3 => s1 k a0 n0 n1 x1_0 x1_1 x1_2 x1_3) (fun _ => rfl) n1
theorem e0 (n0 : Nat) : V0 k a0 n0 = l0 k n0 := by
  induction n0 with
  | zero => rfl
  | succ n0 ih =>
    have h : V0 k a0 (n0 + 1) = b0 k (V1 k a0 n0 k) (V0 k a0 n0) := funext fun x0_0 => funext fun x0_1 => funext fun x0_2 => s0 k a0 n0 x0_0 x0_1 x0_2
    rw [h, e1, ih]
    rfl
end
theorem eq (k : Nat) (a0 : ByteArray) : run (E k) Tryz.f169 [.val .str] [(.int .i64)] true false (a0, ()) = f k a0 := (show _ = t k (V0 k a0 k) a0 by kernel_rfl).trans (by rw [e0]; rfl)
theorem ctr (k : Nat) : Ctr J Tryz.prog 169 (C k) :=
  run_ctr (E := E k) mixed tb_ok (eqOk_of tb_eqs) Cts.nil (by kernel_rfl) Tryz.func169 (by kernel_rfl) rfl (fun ⟨a0, _⟩ r h => (eq k a0).trans h)
end impl_Crc
namespace impl_Fixed
def C (k : Nat) : Cn := ⟨[.val (.int .i64), .val (.int .i64)], [.str], true, false, fun x => f k x.1 x.2.1⟩
def E (k : Nat) : Env := ⟨tb, [(61, impl_in.C k)], [(5, [0, 5, 6])], k, 0, []⟩
section
variable (k : Nat) (a0 : Int) (a1 : Int)
noncomputable def K0 : Ex → St → Option (ByteArray × Unit) := runK (E k) (endK (E k) Tryz.f168.results.toList [.val (.int .i64), .val (.int .i64)] (a0, a1, ()) [.str] true false) [.blk 0, .code (at_ (bt 4 15) (body Tryz.f168))]
noncomputable def V0 (n0 : Nat) (x0_0 : Int) (x0_1 : Int) (x0_2 : List Int) : Option (ByteArray × Unit) := loopN (exec (E k) (at_ (bt 7 23) (body Tryz.f168))) (canon 0 [0, 5, 6]) (K0 k a0 a1) n0 (mk 35 1 [(0, .int .i64 x0_0), (5, .ref 0), (6, .int .i64 x0_1)] [(0, .own false (.int .u8) x0_2)])
theorem s0 (n0 : Nat) (x0_0 : Int) (x0_1 : Int) (x0_2 : List Int) : V0 k a0 a1 (n0 + 1) x0_0 x0_1 x0_2 = b0 k (V0 k a0 a1 n0) x0_0 x0_1 x0_2 := by kernel_rfl
theorem e0 (n0 : Nat) : V0 k a0 a1 n0 = l0 k n0 := loop_eq (V := V0 k a0 a1) (l := l0 k) rfl (fun n0 => funext fun x0_0 => funext fun x0_1 => funext fun x0_2 => s0 k a0 a1 n0 x0_0 x0_1 x0_2) (fun _ => rfl) n0
end
theorem eq (k : Nat) (a0 : Int) (a1 : Int) : run (E k) Tryz.f168 [.val (.int .i64), .val (.int .i64)] [.str] true false (a0, a1, ()) = f k a0 a1 := (show _ = t k (V0 k a0 a1 k) a0 a1 by kernel_rfl).trans (by rw [e0]; rfl)
theorem ctr (k : Nat) : Ctr J Tryz.prog 168 (C k) :=
  run_ctr (E := E k) mixed tb_ok (eqOk_of tb_eqs) (Cts.cons (impl_in.ctr k) Cts.nil) (by kernel_rfl) Tryz.func168 (by kernel_rfl) rfl (fun ⟨a0, a1, _⟩ r h => (eq k a0 a1).trans h)
end impl_Fixed
namespace impl_Frame
def C (k : Nat) : Cn := ⟨[.val .str], [.str], true, false, fun x => f k x.1⟩
def E (k : Nat) : Env := ⟨tb, [(167, impl_textOf.C k), (169, impl_Crc.C k), (168, impl_Fixed.C k)], [], k, 0, []⟩
theorem eq (k : Nat) (a0 : ByteArray) : run (E k) Tryz.f124 [.val .str] [.str] true false (a0, ()) = f k a0 := by kernel_rfl
theorem ctr (k : Nat) : Ctr J Tryz.prog 124 (C k) :=
  run_ctr (E := E k) mixed tb_ok (eqOk_of tb_eqs) (Cts.cons (impl_textOf.ctr k) (Cts.cons (impl_Crc.ctr k) (Cts.cons (impl_Fixed.ctr k) Cts.nil))) (by kernel_rfl) Tryz.func124 (by kernel_rfl) rfl (fun ⟨a0, _⟩ r h => (eq k a0).trans h)
end impl_Frame
namespace impl_Unframe
def C (k : Nat) : Cn := ⟨[.val .str], [.str, (.int .i64)], true, false, fun x => f k x.1⟩
def E (k : Nat) : Env := ⟨tb, [(179, impl_ReadVar.C k), (124, impl_Frame.C k)], [], k, 0, []⟩
theorem eq (k : Nat) (a0 : ByteArray) : run (E k) Tryz.f150 [.val .str] [.str, (.int .i64)] true false (a0, ()) = f k a0 := by kernel_rfl
theorem ctr (k : Nat) : Ctr J Tryz.prog 150 (C k) :=
  run_ctr (E := E k) mixed tb_ok (eqOk_of tb_eqs) (Cts.cons (impl_ReadVar.ctr k) (Cts.cons (impl_Frame.ctr k) Cts.nil)) (by kernel_rfl) Tryz.func150 (by kernel_rfl) rfl (fun ⟨a0, _⟩ r h => (eq k a0).trans h)
end impl_Unframe
namespace impl_scanner__num
def C (k : Nat) : Cn := ⟨[.io true Tscanner], [(.int .i64)], true, false, fun x => f k x.1⟩
def E (k : Nat) : Env := ⟨tb, [(179, impl_ReadVar.C k)], [], k, 1, []⟩
theorem eq (k : Nat) (a0 : Ty.den Tscanner) : run (E k) Tryz.f151 [.io true Tscanner] [(.int .i64)] true false (a0, ()) = f k a0 := by kernel_rfl
theorem ctr (k : Nat) : Ctr J Tryz.prog 151 (C k) :=
  run_ctr (E := E k) mixed tb_ok (eqOk_of tb_eqs) (Cts.cons (impl_ReadVar.ctr k) Cts.nil) (by kernel_rfl) Tryz.func151 (by kernel_rfl) rfl (fun ⟨a0, _⟩ r h => (eq k a0).trans h)
end impl_scanner__num
namespace impl_LiveOk
def C (k : Nat) : Cn := ⟨[.val TLive], [.bool], true, false, fun x => f k x.1⟩
def E (k : Nat) : Env := ⟨tb, [(61, impl_in.C k)], [(2, [1, 6, 7, 8])], k, 0, []⟩
section
variable (k : Nat) (a0 : Ty.den TLive)
noncomputable def K0 : Ex → St → Option (Bool × Unit) := runK (E k) (endK (E k) Tryz.f120.results.toList [.val TLive] (a0, ()) [.bool] true false) [.blk 0, .code (at_ (bt 2 3) (body Tryz.f120))]
noncomputable def V0 (n0 : Nat) (x0_0 : List Int) (x0_1 : Int) (x0_2 : Int) (x0_3 : Int) (x0_4 : List Int) : Option (Bool × Unit) := loopN (exec (E k) (at_ (bt 5 5) (body Tryz.f120))) (canon 0 [1, 6, 7, 8]) (K0 k a0) n0 (mk 43 1 [(1, .ptr 0 0 0), (6, .sl true (.int .i64) x0_0), (7, .int .i64 x0_1), (8, .int .i64 x0_2)] [(0, .box [.int .i64 x0_3, .sl true (.int .i64) x0_4])])
theorem s0 (n0 : Nat) (x0_0 : List Int) (x0_1 : Int) (x0_2 : Int) (x0_3 : Int) (x0_4 : List Int) : V0 k a0 (n0 + 1) x0_0 x0_1 x0_2 x0_3 x0_4 = b0 k (V0 k a0 n0) x0_0 x0_1 x0_2 x0_3 x0_4 := by kernel_rfl
theorem e0 (n0 : Nat) : V0 k a0 n0 = l0 k n0 := loop_eq (V := V0 k a0) (l := l0 k) rfl (fun n0 => funext fun x0_0 => funext fun x0_1 => funext fun x0_2 => funext fun x0_3 => funext fun x0_4 => s0 k a0 n0 x0_0 x0_1 x0_2 x0_3 x0_4) (fun _ => rfl) n0
end
theorem eq (k : Nat) (a0 : Ty.den TLive) : run (E k) Tryz.f120 [.val TLive] [.bool] true false (a0, ()) = f k a0 := (show _ = t k (V0 k a0 k) a0 by kernel_rfl).trans (by rw [e0]; rfl)
theorem ctr (k : Nat) : Ctr J Tryz.prog 120 (C k) :=
  run_ctr (E := E k) mixed tb_ok (eqOk_of tb_eqs) (Cts.cons (impl_in.ctr k) Cts.nil) (by kernel_rfl) Tryz.func120 (by kernel_rfl) rfl (fun ⟨a0, _⟩ r h => (eq k a0).trans h)
end impl_LiveOk
namespace impl_ReadLive
def C (k : Nat) : Cn := ⟨[.val .str], [TLive, .bool], true, false, fun x => f k x.1⟩
def E (k : Nat) : Env := ⟨tb, [(150, impl_Unframe.C k), (151, impl_scanner__num.C k), (120, impl_LiveOk.C k)], [(6, [0, 2, 5, 6, 7, 8, 9])], k, 0, []⟩
section
variable (k : Nat) (a0 : ByteArray)
noncomputable def K0 : Ex → St → Option ((Ty.den TLive) × Bool × Unit) := runK (E k) (endK (E k) Tryz.f98.results.toList [.val .str] (a0, ()) [TLive, .bool] true false) [.blk 0, .code (at_ (bt 6 63) (body Tryz.f98))]
noncomputable def V0 (n0 : Nat) (x0_0 : ByteArray) (x0_1 : Int) (x0_2 : Int) (x0_3 : Int) (x0_4 : List Int) (x0_5 : Int) (x0_6 : ByteArray) (x0_7 : Bool) (x0_8 : List Int) (x0_9 : Int) : Option ((Ty.den TLive) × Bool × Unit) := loopN (exec (E k) (at_ (bt 9 95) (body Tryz.f98))) (canon 0 [0, 2, 5, 6, 7, 8, 9]) (K0 k a0) n0 (mk 72 5 [(0, .str x0_0), (2, .ptr 0 0 0), (5, .int .i64 x0_1), (6, .ptr 2 0 0), (7, .ptr 3 0 0), (8, .int .i64 x0_2), (9, .int .i64 x0_3)] [(1, .own false (.int .i64) x0_4), (0, .box [.int .i64 x0_5, .ref 1]), (2, .box [.str x0_6, .bool x0_7]), (4, .own false (.int .i64) x0_8), (3, .box [.int .i64 x0_9, .ref 4])])
theorem s0 (n0 : Nat) (x0_0 : ByteArray) (x0_1 : Int) (x0_2 : Int) (x0_3 : Int) (x0_4 : List Int) (x0_5 : Int) (x0_6 : ByteArray) (x0_7 : Bool) (x0_8 : List Int) (x0_9 : Int) : V0 k a0 (n0 + 1) x0_0 x0_1 x0_2 x0_3 x0_4 x0_5 x0_6 x0_7 x0_8 x0_9 = b0 k (V0 k a0 n0) x0_0 x0_1 x0_2 x0_3 x0_4 x0_5 x0_6 x0_7 x0_8 x0_9 := by kernel_rfl
theorem e0 (n0 : Nat) : V0 k a0 n0 = l0 k n0 := loop_eq (V := V0 k a0) (l := l0 k) rfl (fun n0 => funext fun x0_0 => funext fun x0_1 => funext fun x0_2 => funext fun x0_3 => funext fun x0_4 => funext fun x0_5 => funext fun x0_6 => funext fun x0_7 => funext fun x0_8 => funext fun x0_9 => s0 k a0 n0 x0_0 x0_1 x0_2 x0_3 x0_4 x0_5 x0_6 x0_7 x0_8 x0_9) (fun _ => rfl) n0
end
theorem eq (k : Nat) (a0 : ByteArray) : run (E k) Tryz.f98 [.val .str] [TLive, .bool] true false (a0, ()) = f k a0 := (show _ = t k (V0 k a0 k) a0 by kernel_rfl).trans (by rw [e0]; rfl)
theorem ctr (k : Nat) : Ctr J Tryz.prog 98 (C k) :=
  run_ctr (E := E k) mixed tb_ok (eqOk_of tb_eqs) (Cts.cons (impl_Unframe.ctr k) (Cts.cons (impl_scanner__num.ctr k) (Cts.cons (impl_LiveOk.ctr k) Cts.nil))) (by kernel_rfl) Tryz.func98 (by kernel_rfl) rfl (fun ⟨a0, _⟩ r h => (eq k a0).trans h)
end impl_ReadLive
namespace impl_IdOf
def C (k : Nat) : Cn := ⟨[.val .str], [(.int .i64), .bool], true, false, fun x => f k x.1⟩
def E (k : Nat) : Env := ⟨tb, [(180, lib_CutPrefix.C k), (181, impl_ReadDec.C k), (61, impl_in.C k)], [], k, 0, []⟩
theorem eq (k : Nat) (a0 : ByteArray) : run (E k) Tryz.f152 [.val .str] [(.int .i64), .bool] true false (a0, ()) = f k a0 := by kernel_rfl
theorem ctr (k : Nat) : Ctr J Tryz.prog 152 (C k) :=
  run_ctr (E := E k) mixed tb_ok (eqOk_of tb_eqs) (Cts.cons (lib_CutPrefix.ctr k) (Cts.cons (impl_ReadDec.ctr k) (Cts.cons (impl_in.ctr k) Cts.nil))) (by kernel_rfl) Tryz.func152 (by kernel_rfl) rfl (fun ⟨a0, _⟩ r h => (eq k a0).trans h)
end impl_IdOf
namespace impl_hasInt
def C (k : Nat) : Cn := ⟨[.val (.slice (.int .i64)), .val (.int .i64)], [.bool], true, false, fun x => f k x.1 x.2.1⟩
def E (k : Nat) : Env := ⟨tb, [], [(2, [1, 7, 8, 9])], k, 0, []⟩
section
variable (k : Nat) (a0 : List Int) (a1 : Int)
noncomputable def K0 : Ex → St → Option (Bool × Unit) := runK (E k) (endK (E k) Tryz.f103.results.toList [.val (.slice (.int .i64)), .val (.int .i64)] (a0, a1, ()) [.bool] true false) [.blk 0, .code (at_ (bt 2 3) (body Tryz.f103))]
noncomputable def V0 (n0 : Nat) (x0_0 : Int) (x0_1 : List Int) (x0_2 : Int) (x0_3 : Int) : Option (Bool × Unit) := loopN (exec (E k) (at_ (bt 5 5) (body Tryz.f103))) (canon 0 [1, 7, 8, 9]) (K0 k a0 a1) n0 (mk 17 0 [(1, .int .i64 x0_0), (7, .sl true (.int .i64) x0_1), (8, .int .i64 x0_2), (9, .int .i64 x0_3)] [])
theorem s0 (n0 : Nat) (x0_0 : Int) (x0_1 : List Int) (x0_2 : Int) (x0_3 : Int) : V0 k a0 a1 (n0 + 1) x0_0 x0_1 x0_2 x0_3 = b0 k (V0 k a0 a1 n0) x0_0 x0_1 x0_2 x0_3 := by kernel_rfl
theorem e0 (n0 : Nat) : V0 k a0 a1 n0 = l0 k n0 := loop_eq (V := V0 k a0 a1) (l := l0 k) rfl (fun n0 => funext fun x0_0 => funext fun x0_1 => funext fun x0_2 => funext fun x0_3 => s0 k a0 a1 n0 x0_0 x0_1 x0_2 x0_3) (fun _ => rfl) n0
end
theorem eq (k : Nat) (a0 : List Int) (a1 : Int) : run (E k) Tryz.f103 [.val (.slice (.int .i64)), .val (.int .i64)] [.bool] true false (a0, a1, ()) = f k a0 a1 := (show _ = t k (V0 k a0 a1 k) a0 a1 by kernel_rfl).trans (by rw [e0]; rfl)
theorem ctr (k : Nat) : Ctr J Tryz.prog 103 (C k) :=
  run_ctr (E := E k) mixed tb_ok (eqOk_of tb_eqs) Cts.nil (by kernel_rfl) Tryz.func103 (by kernel_rfl) rfl (fun ⟨a0, a1, _⟩ r h => (eq k a0 a1).trans h)
end impl_hasInt
namespace impl_Orphans
def C (k : Nat) : Cn := ⟨[.val TDisk, .val TLive], [(.slice .str)], true, false, fun x => f k x.1 x.2.1⟩
def E (k : Nat) : Env := ⟨tb, [(119, impl_DiskOk.C k), (152, impl_IdOf.C k), (103, impl_hasInt.C k)], [(5, [3, 5, 14, 15, 16])], k, 0, []⟩
section
variable (k : Nat) (a0 : Ty.den TDisk) (a1 : Ty.den TLive)
noncomputable def K0 : Ex → St → Option ((List ByteArray) × Unit) := runK (E k) (endK (E k) Tryz.f99.results.toList [.val TDisk, .val TLive] (a0, a1, ()) [(.slice .str)] true false) [.blk 0, .code (at_ (bt 4 15) (body Tryz.f99))]
noncomputable def V0 (n0 : Nat) (x0_0 : List (Ty.den TPair)) (x0_1 : Int) (x0_2 : Int) (x0_3 : Int) (x0_4 : List Int) (x0_5 : List ByteArray) : Option ((List ByteArray) × Unit) := loopN (exec (E k) (at_ (bt 7 23) (body Tryz.f99))) (canon 0 [3, 5, 14, 15, 16]) (K0 k a0 a1) n0 (mk 46 2 [(3, .ptr 0 0 0), (5, .ref 1), (14, .sl true TPair x0_0), (15, .int .i64 x0_1), (16, .int .i64 x0_2)] [(0, .box [.int .i64 x0_3, .sl true (.int .i64) x0_4]), (1, .own false .str x0_5)])
theorem s0 (n0 : Nat) (x0_0 : List (Ty.den TPair)) (x0_1 : Int) (x0_2 : Int) (x0_3 : Int) (x0_4 : List Int) (x0_5 : List ByteArray) : V0 k a0 a1 (n0 + 1) x0_0 x0_1 x0_2 x0_3 x0_4 x0_5 = b0 k (V0 k a0 a1 n0) x0_0 x0_1 x0_2 x0_3 x0_4 x0_5 := by kernel_rfl
theorem e0 (n0 : Nat) : V0 k a0 a1 n0 = l0 k n0 := loop_eq (V := V0 k a0 a1) (l := l0 k) rfl (fun n0 => funext fun x0_0 => funext fun x0_1 => funext fun x0_2 => funext fun x0_3 => funext fun x0_4 => funext fun x0_5 => s0 k a0 a1 n0 x0_0 x0_1 x0_2 x0_3 x0_4 x0_5) (fun _ => rfl) n0
end
theorem eq (k : Nat) (a0 : Ty.den TDisk) (a1 : Ty.den TLive) : run (E k) Tryz.f99 [.val TDisk, .val TLive] [(.slice .str)] true false (a0, a1, ()) = f k a0 a1 := (show _ = t k (V0 k a0 a1 k) a0 a1 by kernel_rfl).trans (by rw [e0]; rfl)
theorem ctr (k : Nat) : Ctr J Tryz.prog 99 (C k) :=
  run_ctr (E := E k) mixed tb_ok (eqOk_of tb_eqs) (Cts.cons (impl_DiskOk.ctr k) (Cts.cons (impl_IdOf.ctr k) (Cts.cons (impl_hasInt.ctr k) Cts.nil))) (by kernel_rfl) Tryz.func99 (by kernel_rfl) rfl (fun ⟨a0, a1, _⟩ r h => (eq k a0 a1).trans h)
end impl_Orphans
namespace impl_Dec
def C (k : Nat) : Cn := ⟨[.val (.int .i64)], [.str], true, false, fun x => f k x.1⟩
def E (k : Nat) : Env := ⟨tb, [(185, lib_Itoa.C k)], [], k, 0, []⟩
theorem eq (k : Nat) (a0 : Int) : run (E k) Tryz.f173 [.val (.int .i64)] [.str] true false (a0, ()) = f k a0 := by kernel_rfl
theorem ctr (k : Nat) : Ctr J Tryz.prog 173 (C k) :=
  run_ctr (E := E k) mixed tb_ok (eqOk_of tb_eqs) (Cts.cons (lib_Itoa.ctr k) Cts.nil) (by kernel_rfl) Tryz.func173 (by kernel_rfl) rfl (fun ⟨a0, _⟩ r h => (eq k a0).trans h)
end impl_Dec
namespace impl_named
def C (k : Nat) : Cn := ⟨[.val .str, .val (.int .i64)], [.str], true, false, fun x => f k x.1 x.2.1⟩
def E (k : Nat) : Env := ⟨tb, [(61, impl_in.C k), (173, impl_Dec.C k)], [], k, 0, []⟩
theorem eq (k : Nat) (a0 : ByteArray) (a1 : Int) : run (E k) Tryz.f139 [.val .str, .val (.int .i64)] [.str] true false (a0, a1, ()) = f k a0 a1 := by kernel_rfl
theorem ctr (k : Nat) : Ctr J Tryz.prog 139 (C k) :=
  run_ctr (E := E k) mixed tb_ok (eqOk_of tb_eqs) (Cts.cons (impl_in.ctr k) (Cts.cons (impl_Dec.ctr k) Cts.nil)) (by kernel_rfl) Tryz.func139 (by kernel_rfl) rfl (fun ⟨a0, a1, _⟩ r h => (eq k a0 a1).trans h)
end impl_named
namespace impl_SegName
def C (k : Nat) : Cn := ⟨[.val (.int .i64)], [.str], true, false, fun x => f k x.1⟩
def E (k : Nat) : Env := ⟨tb, [(139, impl_named.C k)], [], k, 0, []⟩
theorem eq (k : Nat) (a0 : Int) : run (E k) Tryz.f84 [.val (.int .i64)] [.str] true false (a0, ()) = f k a0 := by kernel_rfl
theorem ctr (k : Nat) : Ctr J Tryz.prog 84 (C k) :=
  run_ctr (E := E k) mixed tb_ok (eqOk_of tb_eqs) (Cts.cons (impl_named.ctr k) Cts.nil) (by kernel_rfl) Tryz.func84 (by kernel_rfl) rfl (fun ⟨a0, _⟩ r h => (eq k a0).trans h)
end impl_SegName
namespace impl_scanner__bytes
def C (k : Nat) : Cn := ⟨[.io true Tscanner, .val (.int .i64)], [.str], true, false, fun x => f k x.1 x.2.1⟩
def E (k : Nat) : Env := ⟨tb, [], [], k, 1, []⟩
theorem eq (k : Nat) (a0 : Ty.den Tscanner) (a1 : Int) : run (E k) Tryz.f184 [.io true Tscanner, .val (.int .i64)] [.str] true false (a0, a1, ()) = f k a0 a1 := by kernel_rfl
theorem ctr (k : Nat) : Ctr J Tryz.prog 184 (C k) :=
  run_ctr (E := E k) mixed tb_ok (eqOk_of tb_eqs) Cts.nil (by kernel_rfl) Tryz.func184 (by kernel_rfl) rfl (fun ⟨a0, a1, _⟩ r h => (eq k a0 a1).trans h)
end impl_scanner__bytes
namespace impl_scanner__text
def C (k : Nat) : Cn := ⟨[.io true Tscanner], [.str], true, false, fun x => f k x.1⟩
def E (k : Nat) : Env := ⟨tb, [(151, impl_scanner__num.C k), (184, impl_scanner__bytes.C k)], [], k, 1, []⟩
theorem eq (k : Nat) (a0 : Ty.den Tscanner) : run (E k) Tryz.f182 [.io true Tscanner] [.str] true false (a0, ()) = f k a0 := by kernel_rfl
theorem ctr (k : Nat) : Ctr J Tryz.prog 182 (C k) :=
  run_ctr (E := E k) mixed tb_ok (eqOk_of tb_eqs) (Cts.cons (impl_scanner__num.ctr k) (Cts.cons (impl_scanner__bytes.ctr k) Cts.nil)) (by kernel_rfl) Tryz.func182 (by kernel_rfl) rfl (fun ⟨a0, _⟩ r h => (eq k a0).trans h)
end impl_scanner__text
namespace impl_KeyOk
def C (k : Nat) : Cn := ⟨[.val .str], [.bool], true, false, fun x => f k x.1⟩
def E (k : Nat) : Env := ⟨tb, [(61, impl_in.C k)], [], k, 0, []⟩
theorem eq (k : Nat) (a0 : ByteArray) : run (E k) Tryz.f165 [.val .str] [.bool] true false (a0, ()) = f k a0 := by kernel_rfl
theorem ctr (k : Nat) : Ctr J Tryz.prog 165 (C k) :=
  run_ctr (E := E k) mixed tb_ok (eqOk_of tb_eqs) (Cts.cons (impl_in.ctr k) Cts.nil) (by kernel_rfl) Tryz.func165 (by kernel_rfl) rfl (fun ⟨a0, _⟩ r h => (eq k a0).trans h)
end impl_KeyOk
namespace impl_RecOk
def C (k : Nat) : Cn := ⟨[.val TRec], [.bool], true, false, fun x => f k x.1⟩
def E (k : Nat) : Env := ⟨tb, [(165, impl_KeyOk.C k), (61, impl_in.C k)], [], k, 0, []⟩
theorem eq (k : Nat) (a0 : Ty.den TRec) : run (E k) Tryz.f170 [.val TRec] [.bool] true false (a0, ()) = f k a0 := by kernel_rfl
theorem ctr (k : Nat) : Ctr J Tryz.prog 170 (C k) :=
  run_ctr (E := E k) mixed tb_ok (eqOk_of tb_eqs) (Cts.cons (impl_KeyOk.ctr k) (Cts.cons (impl_in.ctr k) Cts.nil)) (by kernel_rfl) Tryz.func170 (by kernel_rfl) rfl (fun ⟨a0, _⟩ r h => (eq k a0).trans h)
end impl_RecOk
namespace impl_ReadFixed
def C (k : Nat) : Cn := ⟨[.val .str, .val (.int .i64)], [(.int .i64), .bool], true, false, fun x => f k x.1 x.2.1⟩
def E (k : Nat) : Env := ⟨tb, [(61, impl_in.C k)], [(5, [0, 6, 17, 18])], k, 0, []⟩
section
variable (k : Nat) (a0 : ByteArray) (a1 : Int)
noncomputable def K0 : Ex → St → Option (Int × Bool × Unit) := runK (E k) (endK (E k) Tryz.f183.results.toList [.val .str, .val (.int .i64)] (a0, a1, ()) [(.int .i64), .bool] true false) [.blk 0, .code (at_ (bt 4 15) (body Tryz.f183))]
noncomputable def V0 (n0 : Nat) (x0_0 : ByteArray) (x0_1 : Int) (x0_2 : Int) (x0_3 : Int) : Option (Int × Bool × Unit) := loopN (exec (E k) (at_ (bt 7 23) (body Tryz.f183))) (canon 0 [0, 6, 17, 18]) (K0 k a0 a1) n0 (mk 30 0 [(0, .str x0_0), (6, .int .i64 x0_1), (17, .int .i64 x0_2), (18, .int .i64 x0_3)] [])
theorem s0 (n0 : Nat) (x0_0 : ByteArray) (x0_1 : Int) (x0_2 : Int) (x0_3 : Int) : V0 k a0 a1 (n0 + 1) x0_0 x0_1 x0_2 x0_3 = b0 k (V0 k a0 a1 n0) x0_0 x0_1 x0_2 x0_3 := by kernel_rfl
theorem e0 (n0 : Nat) : V0 k a0 a1 n0 = l0 k n0 := loop_eq (V := V0 k a0 a1) (l := l0 k) rfl (fun n0 => funext fun x0_0 => funext fun x0_1 => funext fun x0_2 => funext fun x0_3 => s0 k a0 a1 n0 x0_0 x0_1 x0_2 x0_3) (fun _ => rfl) n0
end
theorem eq (k : Nat) (a0 : ByteArray) (a1 : Int) : run (E k) Tryz.f183 [.val .str, .val (.int .i64)] [(.int .i64), .bool] true false (a0, a1, ()) = f k a0 a1 := (show _ = t k (V0 k a0 a1 k) a0 a1 by kernel_rfl).trans (by rw [e0]; rfl)
theorem ctr (k : Nat) : Ctr J Tryz.prog 183 (C k) :=
  run_ctr (E := E k) mixed tb_ok (eqOk_of tb_eqs) (Cts.cons (impl_in.ctr k) Cts.nil) (by kernel_rfl) Tryz.func183 (by kernel_rfl) rfl (fun ⟨a0, a1, _⟩ r h => (eq k a0 a1).trans h)
end impl_ReadFixed
namespace impl_ReadRec
def C (k : Nat) : Cn := ⟨[.val .str], [TRec, .bool], true, false, fun x => f k x.1⟩
def E (k : Nat) : Env := ⟨tb, [(151, impl_scanner__num.C k), (182, impl_scanner__text.C k), (170, impl_RecOk.C k), (184, impl_scanner__bytes.C k), (183, impl_ReadFixed.C k)], [], k, 0, []⟩
theorem eq (k : Nat) (a0 : ByteArray) : run (E k) Tryz.f153 [.val .str] [TRec, .bool] true false (a0, ()) = f k a0 := by kernel_rfl
theorem ctr (k : Nat) : Ctr J Tryz.prog 153 (C k) :=
  run_ctr (E := E k) mixed tb_ok (eqOk_of tb_eqs) (Cts.cons (impl_scanner__num.ctr k) (Cts.cons (impl_scanner__text.ctr k) (Cts.cons (impl_RecOk.ctr k) (Cts.cons (impl_scanner__bytes.ctr k) (Cts.cons (impl_ReadFixed.ctr k) Cts.nil))))) (by kernel_rfl) Tryz.func153 (by kernel_rfl) rfl (fun ⟨a0, _⟩ r h => (eq k a0).trans h)
end impl_ReadRec
namespace impl_ScanRecs
def C (k : Nat) : Cn := ⟨[.val .str], [(.slice TSpot), (.int .i64)], true, false, fun x => f k x.1⟩
def E (k : Nat) : Env := ⟨tb, [(150, impl_Unframe.C k), (153, impl_ReadRec.C k)], [(3, [0, 4, 5])], k, 0, []⟩
section
variable (k : Nat) (a0 : ByteArray)
noncomputable def K0 : Ex → St → Option ((List (Ty.den TSpot)) × Int × Unit) := runK (E k) (endK (E k) Tryz.f100.results.toList [.val .str] (a0, ()) [(.slice TSpot), (.int .i64)] true false) [.blk 0]
noncomputable def V0 (n0 : Nat) (x0_0 : ByteArray) (x0_1 : Int) (x0_2 : List (Ty.den TSpot)) : Option ((List (Ty.den TSpot)) × Int × Unit) := loopN (exec (E k) (at_ (bt 5 7) (body Tryz.f100))) (canon 0 [0, 4, 5]) (K0 k a0) n0 (mk 40 1 [(0, .str x0_0), (4, .ref 0), (5, .int .i64 x0_1)] [(0, .own false TSpot x0_2)])
theorem s0 (n0 : Nat) (x0_0 : ByteArray) (x0_1 : Int) (x0_2 : List (Ty.den TSpot)) : V0 k a0 (n0 + 1) x0_0 x0_1 x0_2 = b0 k (V0 k a0 n0) x0_0 x0_1 x0_2 := by kernel_rfl
theorem e0 (n0 : Nat) : V0 k a0 n0 = l0 k n0 := loop_eq (V := V0 k a0) (l := l0 k) rfl (fun n0 => funext fun x0_0 => funext fun x0_1 => funext fun x0_2 => s0 k a0 n0 x0_0 x0_1 x0_2) (fun _ => rfl) n0
end
theorem eq (k : Nat) (a0 : ByteArray) : run (E k) Tryz.f100 [.val .str] [(.slice TSpot), (.int .i64)] true false (a0, ()) = f k a0 := (show _ = t k (V0 k a0 k) a0 by kernel_rfl).trans (by rw [e0]; rfl)
theorem ctr (k : Nat) : Ctr J Tryz.prog 100 (C k) :=
  run_ctr (E := E k) mixed tb_ok (eqOk_of tb_eqs) (Cts.cons (impl_Unframe.ctr k) (Cts.cons (impl_ReadRec.ctr k) Cts.nil)) (by kernel_rfl) Tryz.func100 (by kernel_rfl) rfl (fun ⟨a0, _⟩ r h => (eq k a0).trans h)
end impl_ScanRecs
namespace impl_placed
def C (k : Nat) : Cn := ⟨[.val (.int .i64), .val (.slice TSpot)], [(.slice TPlace)], true, false, fun x => f k x.1 x.2.1⟩
def E (k : Nat) : Env := ⟨tb, [], [(3, [0, 5, 8, 9, 10])], k, 0, []⟩
section
variable (k : Nat) (a0 : Int) (a1 : List (Ty.den TSpot))
noncomputable def K0 : Ex → St → Option ((List (Ty.den TPlace)) × Unit) := runK (E k) (endK (E k) Tryz.f101.results.toList [.val (.int .i64), .val (.slice TSpot)] (a0, a1, ()) [(.slice TPlace)] true false) [.blk 0, .code (at_ (bt 3 7) (body Tryz.f101))]
noncomputable def V0 (n0 : Nat) (x0_0 : Int) (x0_1 : List (Ty.den TSpot)) (x0_2 : Int) (x0_3 : Int) (x0_4 : List (Ty.den TPlace)) : Option ((List (Ty.den TPlace)) × Unit) := loopN (exec (E k) (at_ (bt 6 11) (body Tryz.f101))) (canon 0 [0, 5, 8, 9, 10]) (K0 k a0 a1) n0 (mk 27 1 [(0, .int .i64 x0_0), (5, .ref 0), (8, .sl true TSpot x0_1), (9, .int .i64 x0_2), (10, .int .i64 x0_3)] [(0, .own false TPlace x0_4)])
theorem s0 (n0 : Nat) (x0_0 : Int) (x0_1 : List (Ty.den TSpot)) (x0_2 : Int) (x0_3 : Int) (x0_4 : List (Ty.den TPlace)) : V0 k a0 a1 (n0 + 1) x0_0 x0_1 x0_2 x0_3 x0_4 = b0 k (V0 k a0 a1 n0) x0_0 x0_1 x0_2 x0_3 x0_4 := by kernel_rfl
theorem e0 (n0 : Nat) : V0 k a0 a1 n0 = l0 k n0 := loop_eq (V := V0 k a0 a1) (l := l0 k) rfl (fun n0 => funext fun x0_0 => funext fun x0_1 => funext fun x0_2 => funext fun x0_3 => funext fun x0_4 => s0 k a0 a1 n0 x0_0 x0_1 x0_2 x0_3 x0_4) (fun _ => rfl) n0
end
theorem eq (k : Nat) (a0 : Int) (a1 : List (Ty.den TSpot)) : run (E k) Tryz.f101 [.val (.int .i64), .val (.slice TSpot)] [(.slice TPlace)] true false (a0, a1, ()) = f k a0 a1 := (show _ = t k (V0 k a0 a1 k) a0 a1 by kernel_rfl).trans (by rw [e0]; rfl)
theorem ctr (k : Nat) : Ctr J Tryz.prog 101 (C k) :=
  run_ctr (E := E k) mixed tb_ok (eqOk_of tb_eqs) Cts.nil (by kernel_rfl) Tryz.func101 (by kernel_rfl) rfl (fun ⟨a0, a1, _⟩ r h => (eq k a0 a1).trans h)
end impl_placed
namespace impl_ownOf
def C (k : Nat) : Cn := ⟨[.val (.slice TPlace), .val TRec], [(.slice TPlace)], true, false, fun x => f k x.1 x.2.1⟩
def E (k : Nat) : Env := ⟨tb, [], [(3, [3, 5, 9, 10, 11])], k, 0, []⟩
section
variable (k : Nat) (a0 : List (Ty.den TPlace)) (a1 : Ty.den TRec)
noncomputable def K0 : Ex → St → Option ((List (Ty.den TPlace)) × Unit) := runK (E k) (endK (E k) Tryz.f155.results.toList [.val (.slice TPlace), .val TRec] (a0, a1, ()) [(.slice TPlace)] true false) [.blk 0, .code (at_ (bt 3 7) (body Tryz.f155))]
noncomputable def V0 (n0 : Nat) (x0_0 : List (Ty.den TPlace)) (x0_1 : Int) (x0_2 : Int) (x0_3 : Int) (x0_4 : Int) (x0_5 : ByteArray) (x0_6 : ByteArray) (x0_7 : Int) (x0_8 : Int) (x0_9 : List (Ty.den TPlace)) : Option ((List (Ty.den TPlace)) × Unit) := loopN (exec (E k) (at_ (bt 6 11) (body Tryz.f155))) (canon 0 [3, 5, 9, 10, 11]) (K0 k a0 a1) n0 (mk 62 2 [(3, .ptr 0 0 0), (5, .ref 1), (9, .sl true TPlace x0_0), (10, .int .i64 x0_1), (11, .int .i64 x0_2)] [(0, .box [.int .i64 x0_3, .int .i64 x0_4, .str x0_5, .str x0_6, .int .i64 x0_7, .int .i64 x0_8]), (1, .own false TPlace x0_9)])
theorem s0 (n0 : Nat) (x0_0 : List (Ty.den TPlace)) (x0_1 : Int) (x0_2 : Int) (x0_3 : Int) (x0_4 : Int) (x0_5 : ByteArray) (x0_6 : ByteArray) (x0_7 : Int) (x0_8 : Int) (x0_9 : List (Ty.den TPlace)) : V0 k a0 a1 (n0 + 1) x0_0 x0_1 x0_2 x0_3 x0_4 x0_5 x0_6 x0_7 x0_8 x0_9 = b0 k (V0 k a0 a1 n0) x0_0 x0_1 x0_2 x0_3 x0_4 x0_5 x0_6 x0_7 x0_8 x0_9 := by kernel_rfl
theorem e0 (n0 : Nat) : V0 k a0 a1 n0 = l0 k n0 := loop_eq (V := V0 k a0 a1) (l := l0 k) rfl (fun n0 => funext fun x0_0 => funext fun x0_1 => funext fun x0_2 => funext fun x0_3 => funext fun x0_4 => funext fun x0_5 => funext fun x0_6 => funext fun x0_7 => funext fun x0_8 => funext fun x0_9 => s0 k a0 a1 n0 x0_0 x0_1 x0_2 x0_3 x0_4 x0_5 x0_6 x0_7 x0_8 x0_9) (fun _ => rfl) n0
end
theorem eq (k : Nat) (a0 : List (Ty.den TPlace)) (a1 : Ty.den TRec) : run (E k) Tryz.f155 [.val (.slice TPlace), .val TRec] [(.slice TPlace)] true false (a0, a1, ()) = f k a0 a1 := (show _ = t k (V0 k a0 a1 k) a0 a1 by kernel_rfl).trans (by rw [e0]; rfl)
theorem ctr (k : Nat) : Ctr J Tryz.prog 155 (C k) :=
  run_ctr (E := E k) mixed tb_ok (eqOk_of tb_eqs) Cts.nil (by kernel_rfl) Tryz.func155 (by kernel_rfl) rfl (fun ⟨a0, a1, _⟩ r h => (eq k a0 a1).trans h)
end impl_ownOf
namespace impl_vars
def C (k : Nat) : Cn := ⟨[.val (.slice (.int .i64))], [.str], true, false, fun x => f k x.1⟩
def E (k : Nat) : Env := ⟨tb, [(172, impl_Var.C k)], [(3, [3, 6, 7, 8])], k, 0, []⟩
section
variable (k : Nat) (a0 : List Int)
noncomputable def K0 : Ex → St → Option (ByteArray × Unit) := runK (E k) (endK (E k) Tryz.f171.results.toList [.val (.slice (.int .i64))] (a0, ()) [.str] true false) [.blk 0, .code (at_ (bt 3 7) (body Tryz.f171))]
noncomputable def V0 (n0 : Nat) (x0_0 : ByteArray) (x0_1 : List Int) (x0_2 : Int) (x0_3 : Int) : Option (ByteArray × Unit) := loopN (exec (E k) (at_ (bt 6 11) (body Tryz.f171))) (canon 0 [3, 6, 7, 8]) (K0 k a0) n0 (mk 18 0 [(3, .str x0_0), (6, .sl true (.int .i64) x0_1), (7, .int .i64 x0_2), (8, .int .i64 x0_3)] [])
theorem s0 (n0 : Nat) (x0_0 : ByteArray) (x0_1 : List Int) (x0_2 : Int) (x0_3 : Int) : V0 k a0 (n0 + 1) x0_0 x0_1 x0_2 x0_3 = b0 k (V0 k a0 n0) x0_0 x0_1 x0_2 x0_3 := by kernel_rfl
theorem e0 (n0 : Nat) : V0 k a0 n0 = l0 k n0 := loop_eq (V := V0 k a0) (l := l0 k) rfl (fun n0 => funext fun x0_0 => funext fun x0_1 => funext fun x0_2 => funext fun x0_3 => s0 k a0 n0 x0_0 x0_1 x0_2 x0_3) (fun _ => rfl) n0
end
theorem eq (k : Nat) (a0 : List Int) : run (E k) Tryz.f171 [.val (.slice (.int .i64))] [.str] true false (a0, ()) = f k a0 := (show _ = t k (V0 k a0 k) a0 by kernel_rfl).trans (by rw [e0]; rfl)
theorem ctr (k : Nat) : Ctr J Tryz.prog 171 (C k) :=
  run_ctr (E := E k) mixed tb_ok (eqOk_of tb_eqs) (Cts.cons (impl_Var.ctr k) Cts.nil) (by kernel_rfl) Tryz.func171 (by kernel_rfl) rfl (fun ⟨a0, _⟩ r h => (eq k a0).trans h)
end impl_vars
namespace impl_ShowRec
def C (k : Nat) : Cn := ⟨[.val TRec], [.str], true, false, fun x => f k x.1⟩
def E (k : Nat) : Env := ⟨tb, [(170, impl_RecOk.C k), (171, impl_vars.C k), (167, impl_textOf.C k), (172, impl_Var.C k), (168, impl_Fixed.C k)], [], k, 0, []⟩
theorem eq (k : Nat) (a0 : Ty.den TRec) : run (E k) Tryz.f125 [.val TRec] [.str] true false (a0, ()) = f k a0 := by kernel_rfl
theorem ctr (k : Nat) : Ctr J Tryz.prog 125 (C k) :=
  run_ctr (E := E k) mixed tb_ok (eqOk_of tb_eqs) (Cts.cons (impl_RecOk.ctr k) (Cts.cons (impl_vars.ctr k) (Cts.cons (impl_textOf.ctr k) (Cts.cons (impl_Var.ctr k) (Cts.cons (impl_Fixed.ctr k) Cts.nil))))) (by kernel_rfl) Tryz.func125 (by kernel_rfl) rfl (fun ⟨a0, _⟩ r h => (eq k a0).trans h)
end impl_ShowRec
namespace impl_SumOf
def C (k : Nat) : Cn := ⟨[.val (.slice TRec)], [(.int .i64)], true, false, fun x => f k x.1⟩
def E (k : Nat) : Env := ⟨tb, [(125, impl_ShowRec.C k), (169, impl_Crc.C k)], [(3, [3, 6, 7, 8])], k, 0, []⟩
section
variable (k : Nat) (a0 : List (Ty.den TRec))
noncomputable def K0 : Ex → St → Option (Int × Unit) := runK (E k) (endK (E k) Tryz.f166.results.toList [.val (.slice TRec)] (a0, ()) [(.int .i64)] true false) [.blk 0, .code (at_ (bt 3 7) (body Tryz.f166))]
noncomputable def V0 (n0 : Nat) (x0_0 : ByteArray) (x0_1 : List (Ty.den TRec)) (x0_2 : Int) (x0_3 : Int) : Option (Int × Unit) := loopN (exec (E k) (at_ (bt 6 11) (body Tryz.f166))) (canon 0 [3, 6, 7, 8]) (K0 k a0) n0 (mk 19 0 [(3, .str x0_0), (6, .sl true TRec x0_1), (7, .int .i64 x0_2), (8, .int .i64 x0_3)] [])
theorem s0 (n0 : Nat) (x0_0 : ByteArray) (x0_1 : List (Ty.den TRec)) (x0_2 : Int) (x0_3 : Int) : V0 k a0 (n0 + 1) x0_0 x0_1 x0_2 x0_3 = b0 k (V0 k a0 n0) x0_0 x0_1 x0_2 x0_3 := by kernel_rfl
theorem e0 (n0 : Nat) : V0 k a0 n0 = l0 k n0 := loop_eq (V := V0 k a0) (l := l0 k) rfl (fun n0 => funext fun x0_0 => funext fun x0_1 => funext fun x0_2 => funext fun x0_3 => s0 k a0 n0 x0_0 x0_1 x0_2 x0_3) (fun _ => rfl) n0
end
theorem eq (k : Nat) (a0 : List (Ty.den TRec)) : run (E k) Tryz.f166 [.val (.slice TRec)] [(.int .i64)] true false (a0, ()) = f k a0 := (show _ = t k (V0 k a0 k) a0 by kernel_rfl).trans (by rw [e0]; rfl)
theorem ctr (k : Nat) : Ctr J Tryz.prog 166 (C k) :=
  run_ctr (E := E k) mixed tb_ok (eqOk_of tb_eqs) (Cts.cons (impl_ShowRec.ctr k) (Cts.cons (impl_Crc.ctr k) Cts.nil)) (by kernel_rfl) Tryz.func166 (by kernel_rfl) rfl (fun ⟨a0, _⟩ r h => (eq k a0).trans h)
end impl_SumOf
namespace impl_fits
def C (k : Nat) : Cn := ⟨[.val TRec, .val (.slice TPlace)], [.bool], true, false, fun x => f k x.1 x.2.1⟩
def E (k : Nat) : Env := ⟨tb, [(166, impl_SumOf.C k)], [(3, [2, 5, 8, 9, 10])], k, 0, []⟩
section
variable (k : Nat) (a0 : Ty.den TRec) (a1 : List (Ty.den TPlace))
noncomputable def K0 : Ex → St → Option (Bool × Unit) := runK (E k) (endK (E k) Tryz.f154.results.toList [.val TRec, .val (.slice TPlace)] (a0, a1, ()) [.bool] true false) [.blk 0, .code (at_ (bt 3 7) (body Tryz.f154))]
noncomputable def V0 (n0 : Nat) (x0_0 : List (Ty.den TPlace)) (x0_1 : Int) (x0_2 : Int) (x0_3 : Int) (x0_4 : Int) (x0_5 : ByteArray) (x0_6 : ByteArray) (x0_7 : Int) (x0_8 : Int) (x0_9 : List (Ty.den TRec)) : Option (Bool × Unit) := loopN (exec (E k) (at_ (bt 6 11) (body Tryz.f154))) (canon 0 [2, 5, 8, 9, 10]) (K0 k a0 a1) n0 (mk 32 2 [(2, .ptr 0 0 0), (5, .ref 1), (8, .sl true TPlace x0_0), (9, .int .i64 x0_1), (10, .int .i64 x0_2)] [(0, .box [.int .i64 x0_3, .int .i64 x0_4, .str x0_5, .str x0_6, .int .i64 x0_7, .int .i64 x0_8]), (1, .own false TRec x0_9)])
theorem s0 (n0 : Nat) (x0_0 : List (Ty.den TPlace)) (x0_1 : Int) (x0_2 : Int) (x0_3 : Int) (x0_4 : Int) (x0_5 : ByteArray) (x0_6 : ByteArray) (x0_7 : Int) (x0_8 : Int) (x0_9 : List (Ty.den TRec)) : V0 k a0 a1 (n0 + 1) x0_0 x0_1 x0_2 x0_3 x0_4 x0_5 x0_6 x0_7 x0_8 x0_9 = b0 k (V0 k a0 a1 n0) x0_0 x0_1 x0_2 x0_3 x0_4 x0_5 x0_6 x0_7 x0_8 x0_9 := by kernel_rfl
theorem e0 (n0 : Nat) : V0 k a0 a1 n0 = l0 k n0 := loop_eq (V := V0 k a0 a1) (l := l0 k) rfl (fun n0 => funext fun x0_0 => funext fun x0_1 => funext fun x0_2 => funext fun x0_3 => funext fun x0_4 => funext fun x0_5 => funext fun x0_6 => funext fun x0_7 => funext fun x0_8 => funext fun x0_9 => s0 k a0 a1 n0 x0_0 x0_1 x0_2 x0_3 x0_4 x0_5 x0_6 x0_7 x0_8 x0_9) (fun _ => rfl) n0
end
theorem eq (k : Nat) (a0 : Ty.den TRec) (a1 : List (Ty.den TPlace)) : run (E k) Tryz.f154 [.val TRec, .val (.slice TPlace)] [.bool] true false (a0, a1, ()) = f k a0 a1 := (show _ = t k (V0 k a0 a1 k) a0 a1 by kernel_rfl).trans (by rw [e0]; rfl)
theorem ctr (k : Nat) : Ctr J Tryz.prog 154 (C k) :=
  run_ctr (E := E k) mixed tb_ok (eqOk_of tb_eqs) (Cts.cons (impl_SumOf.ctr k) Cts.nil) (by kernel_rfl) Tryz.func154 (by kernel_rfl) rfl (fun ⟨a0, a1, _⟩ r h => (eq k a0 a1).trans h)
end impl_fits
namespace impl_Sealed
def C (k : Nat) : Cn := ⟨[.val (.slice TPlace)], [(.slice (.int .i64))], true, false, fun x => f k x.1⟩
def E (k : Nat) : Env := ⟨tb, [(155, impl_ownOf.C k), (154, impl_fits.C k)], [(3, [0, 3, 6, 7, 8])], k, 0, []⟩
section
variable (k : Nat) (a0 : List (Ty.den TPlace))
noncomputable def K0 : Ex → St → Option ((List Int) × Unit) := runK (E k) (endK (E k) Tryz.f102.results.toList [.val (.slice TPlace)] (a0, ()) [(.slice (.int .i64))] true false) [.blk 0, .code (at_ (bt 3 7) (body Tryz.f102))]
noncomputable def V0 (n0 : Nat) (x0_0 : List (Ty.den TPlace)) (x0_1 : List (Ty.den TPlace)) (x0_2 : Int) (x0_3 : Int) (x0_4 : List Int) : Option ((List Int) × Unit) := loopN (exec (E k) (at_ (bt 6 11) (body Tryz.f102))) (canon 0 [0, 3, 6, 7, 8]) (K0 k a0) n0 (mk 36 1 [(0, .sl true TPlace x0_0), (3, .ref 0), (6, .sl true TPlace x0_1), (7, .int .i64 x0_2), (8, .int .i64 x0_3)] [(0, .own false (.int .i64) x0_4)])
theorem s0 (n0 : Nat) (x0_0 : List (Ty.den TPlace)) (x0_1 : List (Ty.den TPlace)) (x0_2 : Int) (x0_3 : Int) (x0_4 : List Int) : V0 k a0 (n0 + 1) x0_0 x0_1 x0_2 x0_3 x0_4 = b0 k (V0 k a0 n0) x0_0 x0_1 x0_2 x0_3 x0_4 := by kernel_rfl
theorem e0 (n0 : Nat) : V0 k a0 n0 = l0 k n0 := loop_eq (V := V0 k a0) (l := l0 k) rfl (fun n0 => funext fun x0_0 => funext fun x0_1 => funext fun x0_2 => funext fun x0_3 => funext fun x0_4 => s0 k a0 n0 x0_0 x0_1 x0_2 x0_3 x0_4) (fun _ => rfl) n0
end
theorem eq (k : Nat) (a0 : List (Ty.den TPlace)) : run (E k) Tryz.f102 [.val (.slice TPlace)] [(.slice (.int .i64))] true false (a0, ()) = f k a0 := (show _ = t k (V0 k a0 k) a0 by kernel_rfl).trans (by rw [e0]; rfl)
theorem ctr (k : Nat) : Ctr J Tryz.prog 102 (C k) :=
  run_ctr (E := E k) mixed tb_ok (eqOk_of tb_eqs) (Cts.cons (impl_ownOf.ctr k) (Cts.cons (impl_fits.ctr k) Cts.nil)) (by kernel_rfl) Tryz.func102 (by kernel_rfl) rfl (fun ⟨a0, _⟩ r h => (eq k a0).trans h)
end impl_Sealed
namespace impl_Check
def C (k : Nat) : Cn := ⟨[.val TDisk], [TReport], true, false, fun x => f k x.1⟩
def E (k : Nat) : Env := ⟨tb, [(83, impl_FileText.C k), (98, impl_ReadLive.C k), (99, impl_Orphans.C k), (84, impl_SegName.C k), (100, impl_ScanRecs.C k), (101, impl_placed.C k), (102, impl_Sealed.C k), (103, impl_hasInt.C k)], [(6, [1, 2, 7, 8, 35, 36, 37]), (20, [2, 7, 15, 86, 87, 88])], k, 0, []⟩
section
variable (k : Nat) (a0 : Ty.den TDisk)
noncomputable def K0 : Ex → St → Option ((Ty.den TReport) × Unit) := runK (E k) (endK (E k) Tryz.f41.results.toList [.val TDisk] (a0, ()) [TReport] true false) [.blk 0, .code (at_ (bt 6 63) (body Tryz.f41))]
noncomputable def K1 : Ex → St → Option ((Ty.den TReport) × Unit) := runK (E k) (endK (E k) Tryz.f41.results.toList [.val TDisk] (a0, ()) [TReport] true false) [.blk 2, .code (at_ (bt 9 511) (body Tryz.f41))]
noncomputable def V0 (n0 : Nat) (x0_0 : Int) (x0_1 : Int) (x0_2 : List (Ty.den TPair)) (x0_3 : Int) (x0_4 : Int) (x0_5 : Bool) (x0_6 : Bool) (x0_7 : Int) (x0_8 : Int) (x0_9 : Int) (x0_10 : Int) (x0_11 : Int) (x0_12 : Int) (x0_13 : Bool) (x0_14 : Int) (x0_15 : Int) (x0_16 : Int) (x0_17 : Int) (x0_18 : Int) (x0_19 : Int) (x0_20 : List (Ty.den TPlace)) (x0_21 : List Int) : Option ((Ty.den TReport) × Unit) := loopN (exec (E k) (at_ (bt 9 95) (body Tryz.f41))) (canon 0 [1, 2, 7, 8, 35, 36, 37]) (K0 k a0) n0 (mk 116 5 [(1, .ptr 0 0 0), (2, .ptr 1 0 0), (7, .ptr 2 0 0), (8, .ref 3), (35, .ref 4), (36, .int .i64 x0_0), (37, .int .i64 x0_1)] [(0, .box [.sl true TPair x0_2, .int .i64 x0_3, .int .i64 x0_4, .bool x0_5]), (1, .box [.bool x0_6, .int .i64 x0_7, .int .i64 x0_8, .int .i64 x0_9, .int .i64 x0_10, .int .i64 x0_11, .int .i64 x0_12]), (2, .box [.bool x0_13, .int .i64 x0_14, .int .i64 x0_15, .int .i64 x0_16, .int .i64 x0_17, .int .i64 x0_18, .int .i64 x0_19]), (3, .own false TPlace x0_20), (4, .own false (.int .i64) x0_21)])
noncomputable def V1 (n1 : Nat) (x1_0 : Int) (x1_1 : Int) (x1_2 : Bool) (x1_3 : Int) (x1_4 : Int) (x1_5 : Int) (x1_6 : Int) (x1_7 : Int) (x1_8 : Int) (x1_9 : Bool) (x1_10 : Int) (x1_11 : Int) (x1_12 : Int) (x1_13 : Int) (x1_14 : Int) (x1_15 : Int) (x1_16 : List Int) (x1_17 : List (Ty.den TPlace)) : Option ((Ty.den TReport) × Unit) := loopN (exec (E k) (at_ (bt 12 767) (body Tryz.f41))) (canon 0 [2, 7, 15, 86, 87, 88]) (K1 k a0) n1 (mk 116 4 [(2, .ptr 0 0 0), (7, .ptr 1 0 0), (15, .ref 2), (86, .ref 3), (87, .int .i64 x1_0), (88, .int .i64 x1_1)] [(0, .box [.bool x1_2, .int .i64 x1_3, .int .i64 x1_4, .int .i64 x1_5, .int .i64 x1_6, .int .i64 x1_7, .int .i64 x1_8]), (1, .box [.bool x1_9, .int .i64 x1_10, .int .i64 x1_11, .int .i64 x1_12, .int .i64 x1_13, .int .i64 x1_14, .int .i64 x1_15]), (2, .own false (.int .i64) x1_16), (3, .own false TPlace x1_17)])
theorem s0 (n0 : Nat) (x0_0 : Int) (x0_1 : Int) (x0_2 : List (Ty.den TPair)) (x0_3 : Int) (x0_4 : Int) (x0_5 : Bool) (x0_6 : Bool) (x0_7 : Int) (x0_8 : Int) (x0_9 : Int) (x0_10 : Int) (x0_11 : Int) (x0_12 : Int) (x0_13 : Bool) (x0_14 : Int) (x0_15 : Int) (x0_16 : Int) (x0_17 : Int) (x0_18 : Int) (x0_19 : Int) (x0_20 : List (Ty.den TPlace)) (x0_21 : List Int) : V0 k a0 (n0 + 1) x0_0 x0_1 x0_2 x0_3 x0_4 x0_5 x0_6 x0_7 x0_8 x0_9 x0_10 x0_11 x0_12 x0_13 x0_14 x0_15 x0_16 x0_17 x0_18 x0_19 x0_20 x0_21 = b0 k (V1 k a0 k) (V0 k a0 n0) x0_0 x0_1 x0_2 x0_3 x0_4 x0_5 x0_6 x0_7 x0_8 x0_9 x0_10 x0_11 x0_12 x0_13 x0_14 x0_15 x0_16 x0_17 x0_18 x0_19 x0_20 x0_21 := by kernel_rfl
theorem s1 (n1 : Nat) (x1_0 : Int) (x1_1 : Int) (x1_2 : Bool) (x1_3 : Int) (x1_4 : Int) (x1_5 : Int) (x1_6 : Int) (x1_7 : Int) (x1_8 : Int) (x1_9 : Bool) (x1_10 : Int) (x1_11 : Int) (x1_12 : Int) (x1_13 : Int) (x1_14 : Int) (x1_15 : Int) (x1_16 : List Int) (x1_17 : List (Ty.den TPlace)) : V1 k a0 (n1 + 1) x1_0 x1_1 x1_2 x1_3 x1_4 x1_5 x1_6 x1_7 x1_8 x1_9 x1_10 x1_11 x1_12 x1_13 x1_14 x1_15 x1_16 x1_17 = b1 k (V1 k a0 n1) x1_0 x1_1 x1_2 x1_3 x1_4 x1_5 x1_6 x1_7 x1_8 x1_9 x1_10 x1_11 x1_12 x1_13 x1_14 x1_15 x1_16 x1_17 := by kernel_rfl
theorem e1 (n1 : Nat) : V1 k a0 n1 = l1 k n1 := loop_eq (V := V1 k a0) (l := l1 k) rfl (fun n1 => funext fun x1_0 => funext fun x1_1 => funext fun x1_2 => funext fun x1_3 => funext fun x1_4 => funext fun x1_5 => funext fun x1_6 => funext fun x1_7 => funext fun x1_8 => funext fun x1_9 => funext fun x1_10 => funext fun x1_11 => funext fun x1_12 => funext fun x1_13 => funext fun x1_14 => funext fun x1_15 => funext fun x1_16 => funext fun x1_17 => s1 k a0 n1 x1_0 x1_1 x1_2 x1_3 x1_4 x1_5 x1_6 x1_7 x1_8 x1_9 x1_10 x1_11 x1_12 x1_13 x1_14 x1_15 x1_16 x1_17) (fun _ => rfl) n1
theorem e0 (n0 : Nat) : V0 k a0 n0 = l0 k n0 := by
  induction n0 with
  | zero => rfl
  | succ n0 ih =>
    have h : V0 k a0 (n0 + 1) = b0 k (V1 k a0 k) (V0 k a0 n0) := funext fun x0_0 => funext fun x0_1 => funext fun x0_2 => funext fun x0_3 => funext fun x0_4 => funext fun x0_5 => funext fun x0_6 => funext fun x0_7 => funext fun x0_8 => funext fun x0_9 => funext fun x0_10 => funext fun x0_11 => funext fun x0_12 => funext fun x0_13 => funext fun x0_14 => funext fun x0_15 => funext fun x0_16 => funext fun x0_17 => funext fun x0_18 => funext fun x0_19 => funext fun x0_20 => funext fun x0_21 => s0 k a0 n0 x0_0 x0_1 x0_2 x0_3 x0_4 x0_5 x0_6 x0_7 x0_8 x0_9 x0_10 x0_11 x0_12 x0_13 x0_14 x0_15 x0_16 x0_17 x0_18 x0_19 x0_20 x0_21
    rw [h, e1, ih]
    rfl
end
theorem eq (k : Nat) (a0 : Ty.den TDisk) : run (E k) Tryz.f41 [.val TDisk] [TReport] true false (a0, ()) = f k a0 := (show _ = t k (V0 k a0 k) a0 by kernel_rfl).trans (by rw [e0]; rfl)
theorem ctr (k : Nat) : Ctr J Tryz.prog 41 (C k) :=
  run_ctr (E := E k) mixed tb_ok (eqOk_of tb_eqs) (Cts.cons (impl_FileText.ctr k) (Cts.cons (impl_ReadLive.ctr k) (Cts.cons (impl_Orphans.ctr k) (Cts.cons (impl_SegName.ctr k) (Cts.cons (impl_ScanRecs.ctr k) (Cts.cons (impl_placed.ctr k) (Cts.cons (impl_Sealed.ctr k) (Cts.cons (impl_hasInt.ctr k) Cts.nil)))))))) (by kernel_rfl) Tryz.func41 (by kernel_rfl) rfl (fun ⟨a0, _⟩ r h => (eq k a0).trans h)
end impl_Check
namespace impl_Sound
def C (k : Nat) : Cn := ⟨[.val TDisk], [.bool], true, false, fun x => f k x.1⟩
def E (k : Nat) : Env := ⟨tb, [(41, impl_Check.C k)], [], k, 0, []⟩
theorem eq (k : Nat) (a0 : Ty.den TDisk) : run (E k) Tryz.f39 [.val TDisk] [.bool] true false (a0, ()) = f k a0 := by kernel_rfl
theorem ctr (k : Nat) : Ctr J Tryz.prog 39 (C k) :=
  run_ctr (E := E k) mixed tb_ok (eqOk_of tb_eqs) (Cts.cons (impl_Check.ctr k) Cts.nil) (by kernel_rfl) Tryz.func39 (by kernel_rfl) rfl (fun ⟨a0, _⟩ r h => (eq k a0).trans h)
end impl_Sound
namespace laws_eqFile
def C (k : Nat) : Cn := ⟨[.val TPair, .val TPair], [.bool], true, false, fun x => f k x.1 x.2.1⟩
def E (k : Nat) : Env := ⟨tb, [], [], k, 0, []⟩
theorem eq (k : Nat) (a0 : Ty.den TPair) (a1 : Ty.den TPair) : run (E k) Tryz.f128 [.val TPair, .val TPair] [.bool] true false (a0, a1, ()) = f k a0 a1 := by kernel_rfl
theorem ctr (k : Nat) : Ctr J Tryz.prog 128 (C k) :=
  run_ctr (E := E k) mixed tb_ok (eqOk_of tb_eqs) Cts.nil (by kernel_rfl) Tryz.func128 (by kernel_rfl) rfl (fun ⟨a0, a1, _⟩ r h => (eq k a0 a1).trans h)
end laws_eqFile
namespace laws_eqFileS
def C (k : Nat) : Cn := ⟨[.val (.slice TPair), .val (.slice TPair)], [.bool], true, false, fun x => f k x.1 x.2.1⟩
def E (k : Nat) : Env := ⟨tb, [(128, laws_eqFile.C k)], [(4, [0, 1, 5])], k, 0, []⟩
section
variable (k : Nat) (a0 : List (Ty.den TPair)) (a1 : List (Ty.den TPair))
noncomputable def K0 : Ex → St → Option (Bool × Unit) := runK (E k) (endK (E k) Tryz.f59.results.toList [.val (.slice TPair), .val (.slice TPair)] (a0, a1, ()) [.bool] true false) [.blk 0, .code (at_ (bt 3 7) (body Tryz.f59))]
noncomputable def V0 (n0 : Nat) (x0_0 : List (Ty.den TPair)) (x0_1 : List (Ty.den TPair)) (x0_2 : Int) : Option (Bool × Unit) := loopN (exec (E k) (at_ (bt 6 11) (body Tryz.f59))) (canon 0 [0, 1, 5]) (K0 k a0 a1) n0 (mk 27 0 [(0, .sl true TPair x0_0), (1, .sl true TPair x0_1), (5, .int .i64 x0_2)] [])
theorem s0 (n0 : Nat) (x0_0 : List (Ty.den TPair)) (x0_1 : List (Ty.den TPair)) (x0_2 : Int) : V0 k a0 a1 (n0 + 1) x0_0 x0_1 x0_2 = b0 k (V0 k a0 a1 n0) x0_0 x0_1 x0_2 := by kernel_rfl
theorem e0 (n0 : Nat) : V0 k a0 a1 n0 = l0 k n0 := loop_eq (V := V0 k a0 a1) (l := l0 k) rfl (fun n0 => funext fun x0_0 => funext fun x0_1 => funext fun x0_2 => s0 k a0 a1 n0 x0_0 x0_1 x0_2) (fun _ => rfl) n0
end
theorem eq (k : Nat) (a0 : List (Ty.den TPair)) (a1 : List (Ty.den TPair)) : run (E k) Tryz.f59 [.val (.slice TPair), .val (.slice TPair)] [.bool] true false (a0, a1, ()) = f k a0 a1 := (show _ = t k (V0 k a0 a1 k) a0 a1 by kernel_rfl).trans (by rw [e0]; rfl)
theorem ctr (k : Nat) : Ctr J Tryz.prog 59 (C k) :=
  run_ctr (E := E k) mixed tb_ok (eqOk_of tb_eqs) (Cts.cons (laws_eqFile.ctr k) Cts.nil) (by kernel_rfl) Tryz.func59 (by kernel_rfl) rfl (fun ⟨a0, a1, _⟩ r h => (eq k a0 a1).trans h)
end laws_eqFileS
namespace laws_eqDisk
def C (k : Nat) : Cn := ⟨[.val TDisk, .val TDisk], [.bool], true, false, fun x => f k x.1 x.2.1⟩
def E (k : Nat) : Env := ⟨tb, [(59, laws_eqFileS.C k)], [], k, 0, []⟩
theorem eq (k : Nat) (a0 : Ty.den TDisk) (a1 : Ty.den TDisk) : run (E k) Tryz.f16 [.val TDisk, .val TDisk] [.bool] true false (a0, a1, ()) = f k a0 a1 := by kernel_rfl
theorem ctr (k : Nat) : Ctr J Tryz.prog 16 (C k) :=
  run_ctr (E := E k) mixed tb_ok (eqOk_of tb_eqs) (Cts.cons (laws_eqFileS.ctr k) Cts.nil) (by kernel_rfl) Tryz.func16 (by kernel_rfl) rfl (fun ⟨a0, a1, _⟩ r h => (eq k a0 a1).trans h)
end laws_eqDisk
namespace laws_FnExactSound
def C (k : Nat) : Cn := ⟨[.val TDisk], [.bool], true, false, fun x => f k x.1⟩
def E (k : Nat) : Env := ⟨tb, [(10, laws_szDisk.C k), (13, laws_toDisk.C k), (38, spec_Sound.C k), (39, impl_Sound.C k), (16, laws_eqDisk.C k)], [], k, 0, []⟩
theorem eq (k : Nat) (a0 : Ty.den TDisk) : run (E k) Tryz.f7 [.val TDisk] [.bool] true false (a0, ()) = f k a0 := by kernel_rfl
theorem ctr (k : Nat) : Ctr J Tryz.prog 7 (C k) :=
  run_ctr (E := E k) mixed tb_ok (eqOk_of tb_eqs) (Cts.cons (laws_szDisk.ctr k) (Cts.cons (laws_toDisk.ctr k) (Cts.cons (spec_Sound.ctr k) (Cts.cons (impl_Sound.ctr k) (Cts.cons (laws_eqDisk.ctr k) Cts.nil))))) (by kernel_rfl) Tryz.func7 (by kernel_rfl) rfl (fun ⟨a0, _⟩ r h => (eq k a0).trans h)
end laws_FnExactSound
namespace laws_eqReport
def C (k : Nat) : Cn := ⟨[.val TReport, .val TReport], [.bool], true, false, fun x => f k x.1 x.2.1⟩
def E (k : Nat) : Env := ⟨tb, [], [], k, 0, []⟩
theorem eq (k : Nat) (a0 : Ty.den TReport) (a1 : Ty.den TReport) : run (E k) Tryz.f42 [.val TReport, .val TReport] [.bool] true false (a0, a1, ()) = f k a0 a1 := by kernel_rfl
theorem ctr (k : Nat) : Ctr J Tryz.prog 42 (C k) :=
  run_ctr (E := E k) mixed tb_ok (eqOk_of tb_eqs) Cts.nil (by kernel_rfl) Tryz.func42 (by kernel_rfl) rfl (fun ⟨a0, a1, _⟩ r h => (eq k a0 a1).trans h)
end laws_eqReport
namespace laws_FnExactCheck
def C (k : Nat) : Cn := ⟨[.val TDisk], [.bool], true, false, fun x => f k x.1⟩
def E (k : Nat) : Env := ⟨tb, [(10, laws_szDisk.C k), (13, laws_toDisk.C k), (40, spec_Check.C k), (41, impl_Check.C k), (42, laws_eqReport.C k), (16, laws_eqDisk.C k)], [], k, 0, []⟩
theorem eq (k : Nat) (a0 : Ty.den TDisk) : run (E k) Tryz.f8 [.val TDisk] [.bool] true false (a0, ()) = f k a0 := by kernel_rfl
theorem ctr (k : Nat) : Ctr J Tryz.prog 8 (C k) :=
  run_ctr (E := E k) mixed tb_ok (eqOk_of tb_eqs) (Cts.cons (laws_szDisk.ctr k) (Cts.cons (laws_toDisk.ctr k) (Cts.cons (spec_Check.ctr k) (Cts.cons (impl_Check.ctr k) (Cts.cons (laws_eqReport.ctr k) (Cts.cons (laws_eqDisk.ctr k) Cts.nil)))))) (by kernel_rfl) Tryz.func8 (by kernel_rfl) rfl (fun ⟨a0, _⟩ r h => (eq k a0).trans h)
end laws_FnExactCheck
end Go.Proofs.YtgcahahklmfleaaGreatDoor.G

/- Functions keep their contracts. -/
import Derived.Test.YtgcahahklmfleaaDoorVTab
import Derived.Test.YtgcahahklmfleaaDoorFA
import Derived.Test.YtgcahahklmfleaaDoorCLib
set_option linter.unusedVariables false
set_option maxRecDepth 100000
namespace Go.Proofs.YtgcahahklmfleaaDoor.G
open Go.V
namespace laws_szIntS
def C (k : Nat) : Cn := ⟨[.val (.slice (.int .i64)), .val (.int .i64)], [(.int .i64)], true, false, fun x => f k x.1 x.2.1⟩
def E (k : Nat) : Env := ⟨tb, [], [], k, 0, []⟩
theorem eq (k : Nat) (a0 : List Int) (a1 : Int) : run (E k) Tryd.f23 [.val (.slice (.int .i64)), .val (.int .i64)] [(.int .i64)] true false (a0, a1, ()) = f k a0 a1 := by kernel_rfl
theorem ctr (k : Nat) : Ctr J Tryd.prog 23 (C k) :=
  run_ctr (E := E k) mixed tb_ok (eqOk_of tb_eqs) Cts.nil (by kernel_rfl) Tryd.func23 (by kernel_rfl) rfl (fun ⟨a0, a1, _⟩ r h => (eq k a0 a1).trans h)
end laws_szIntS
namespace laws_szLive
def C (k : Nat) : Cn := ⟨[.val TLive, .val (.int .i64)], [(.int .i64)], true, false, fun x => f k x.1 x.2.1⟩
def E (k : Nat) : Env := ⟨tb, [(23, laws_szIntS.C k)], [], k, 0, []⟩
theorem eq (k : Nat) (a0 : Ty.den TLive) (a1 : Int) : run (E k) Tryd.f12 [.val TLive, .val (.int .i64)] [(.int .i64)] true false (a0, a1, ()) = f k a0 a1 := by kernel_rfl
theorem ctr (k : Nat) : Ctr J Tryd.prog 12 (C k) :=
  run_ctr (E := E k) mixed tb_ok (eqOk_of tb_eqs) (Cts.cons (laws_szIntS.ctr k) Cts.nil) (by kernel_rfl) Tryd.func12 (by kernel_rfl) rfl (fun ⟨a0, a1, _⟩ r h => (eq k a0 a1).trans h)
end laws_szLive
namespace laws_szEntry
def C (k : Nat) : Cn := ⟨[.val TEntry, .val (.int .i64)], [(.int .i64)], true, false, fun x => f k x.1 x.2.1⟩
def E (k : Nat) : Env := ⟨tb, [], [], k, 0, []⟩
theorem eq (k : Nat) (a0 : Ty.den TEntry) (a1 : Int) : run (E k) Tryd.f24 [.val TEntry, .val (.int .i64)] [(.int .i64)] true false (a0, a1, ()) = f k a0 a1 := by kernel_rfl
theorem ctr (k : Nat) : Ctr J Tryd.prog 24 (C k) :=
  run_ctr (E := E k) mixed tb_ok (eqOk_of tb_eqs) Cts.nil (by kernel_rfl) Tryd.func24 (by kernel_rfl) rfl (fun ⟨a0, a1, _⟩ r h => (eq k a0 a1).trans h)
end laws_szEntry
namespace laws_szEntryS
def C (k : Nat) : Cn := ⟨[.val (.slice TEntry), .val (.int .i64)], [(.int .i64)], true, false, fun x => f k x.1 x.2.1⟩
def E (k : Nat) : Env := ⟨tb, [(24, laws_szEntry.C k)], [(5, [0, 1, 5])], k, 0, []⟩
section
variable (k : Nat) (a0 : List (Ty.den TEntry)) (a1 : Int)
noncomputable def K0 : Ex → St → Option (Int × Unit) := runK (E k) (endK (E k) Tryd.f13.results.toList [.val (.slice TEntry), .val (.int .i64)] (a0, a1, ()) [(.int .i64)] true false) [.blk 0, .code (at_ (bt 4 15) (body Tryd.f13))]
noncomputable def V0 (n0 : Nat) (x0_0 : List (Ty.den TEntry)) (x0_1 : Int) (x0_2 : Int) : Option (Int × Unit) := loopN (exec (E k) (at_ (bt 7 23) (body Tryd.f13))) (canon 0 [0, 1, 5]) (K0 k a0 a1) n0 (mk 27 0 [(0, .sl true TEntry x0_0), (1, .int .i64 x0_1), (5, .int .i64 x0_2)] [])
theorem s0 (n0 : Nat) (x0_0 : List (Ty.den TEntry)) (x0_1 : Int) (x0_2 : Int) : V0 k a0 a1 (n0 + 1) x0_0 x0_1 x0_2 = b0 k (V0 k a0 a1 n0) x0_0 x0_1 x0_2 := by kernel_rfl
theorem e0 (n0 : Nat) : V0 k a0 a1 n0 = l0 k n0 := loop_eq (V := V0 k a0 a1) (l := l0 k) rfl (fun n0 => funext fun x0_0 => funext fun x0_1 => funext fun x0_2 => s0 k a0 a1 n0 x0_0 x0_1 x0_2) (fun _ => rfl) n0
end
theorem eq (k : Nat) (a0 : List (Ty.den TEntry)) (a1 : Int) : run (E k) Tryd.f13 [.val (.slice TEntry), .val (.int .i64)] [(.int .i64)] true false (a0, a1, ()) = f k a0 a1 := (show _ = t k (V0 k a0 a1 k) a0 a1 by kernel_rfl).trans (by rw [e0]; rfl)
theorem ctr (k : Nat) : Ctr J Tryd.prog 13 (C k) :=
  run_ctr (E := E k) mixed tb_ok (eqOk_of tb_eqs) (Cts.cons (laws_szEntry.ctr k) Cts.nil) (by kernel_rfl) Tryd.func13 (by kernel_rfl) rfl (fun ⟨a0, a1, _⟩ r h => (eq k a0 a1).trans h)
end laws_szEntryS
namespace laws_szStore
def C (k : Nat) : Cn := ⟨[.val TStore, .val (.int .i64)], [(.int .i64)], true, false, fun x => f k x.1 x.2.1⟩
def E (k : Nat) : Env := ⟨tb, [(12, laws_szLive.C k), (13, laws_szEntryS.C k)], [], k, 0, []⟩
theorem eq (k : Nat) (a0 : Ty.den TStore) (a1 : Int) : run (E k) Tryd.f4 [.val TStore, .val (.int .i64)] [(.int .i64)] true false (a0, a1, ()) = f k a0 a1 := by kernel_rfl
theorem ctr (k : Nat) : Ctr J Tryd.prog 4 (C k) :=
  run_ctr (E := E k) mixed tb_ok (eqOk_of tb_eqs) (Cts.cons (laws_szLive.ctr k) (Cts.cons (laws_szEntryS.ctr k) Cts.nil)) (by kernel_rfl) Tryd.func4 (by kernel_rfl) rfl (fun ⟨a0, a1, _⟩ r h => (eq k a0 a1).trans h)
end laws_szStore
namespace laws_szFile
def C (k : Nat) : Cn := ⟨[.val TFile, .val (.int .i64)], [(.int .i64)], true, false, fun x => f k x.1 x.2.1⟩
def E (k : Nat) : Env := ⟨tb, [], [], k, 0, []⟩
theorem eq (k : Nat) (a0 : Ty.den TFile) (a1 : Int) : run (E k) Tryd.f25 [.val TFile, .val (.int .i64)] [(.int .i64)] true false (a0, a1, ()) = f k a0 a1 := by kernel_rfl
theorem ctr (k : Nat) : Ctr J Tryd.prog 25 (C k) :=
  run_ctr (E := E k) mixed tb_ok (eqOk_of tb_eqs) Cts.nil (by kernel_rfl) Tryd.func25 (by kernel_rfl) rfl (fun ⟨a0, a1, _⟩ r h => (eq k a0 a1).trans h)
end laws_szFile
namespace laws_szFileS
def C (k : Nat) : Cn := ⟨[.val (.slice TFile), .val (.int .i64)], [(.int .i64)], true, false, fun x => f k x.1 x.2.1⟩
def E (k : Nat) : Env := ⟨tb, [(25, laws_szFile.C k)], [(5, [0, 1, 5])], k, 0, []⟩
section
variable (k : Nat) (a0 : List (Ty.den TFile)) (a1 : Int)
noncomputable def K0 : Ex → St → Option (Int × Unit) := runK (E k) (endK (E k) Tryd.f14.results.toList [.val (.slice TFile), .val (.int .i64)] (a0, a1, ()) [(.int .i64)] true false) [.blk 0, .code (at_ (bt 4 15) (body Tryd.f14))]
noncomputable def V0 (n0 : Nat) (x0_0 : List (Ty.den TFile)) (x0_1 : Int) (x0_2 : Int) : Option (Int × Unit) := loopN (exec (E k) (at_ (bt 7 23) (body Tryd.f14))) (canon 0 [0, 1, 5]) (K0 k a0 a1) n0 (mk 27 0 [(0, .sl true TFile x0_0), (1, .int .i64 x0_1), (5, .int .i64 x0_2)] [])
theorem s0 (n0 : Nat) (x0_0 : List (Ty.den TFile)) (x0_1 : Int) (x0_2 : Int) : V0 k a0 a1 (n0 + 1) x0_0 x0_1 x0_2 = b0 k (V0 k a0 a1 n0) x0_0 x0_1 x0_2 := by kernel_rfl
theorem e0 (n0 : Nat) : V0 k a0 a1 n0 = l0 k n0 := loop_eq (V := V0 k a0 a1) (l := l0 k) rfl (fun n0 => funext fun x0_0 => funext fun x0_1 => funext fun x0_2 => s0 k a0 a1 n0 x0_0 x0_1 x0_2) (fun _ => rfl) n0
end
theorem eq (k : Nat) (a0 : List (Ty.den TFile)) (a1 : Int) : run (E k) Tryd.f14 [.val (.slice TFile), .val (.int .i64)] [(.int .i64)] true false (a0, a1, ()) = f k a0 a1 := (show _ = t k (V0 k a0 a1 k) a0 a1 by kernel_rfl).trans (by rw [e0]; rfl)
theorem ctr (k : Nat) : Ctr J Tryd.prog 14 (C k) :=
  run_ctr (E := E k) mixed tb_ok (eqOk_of tb_eqs) (Cts.cons (laws_szFile.ctr k) Cts.nil) (by kernel_rfl) Tryd.func14 (by kernel_rfl) rfl (fun ⟨a0, a1, _⟩ r h => (eq k a0 a1).trans h)
end laws_szFileS
namespace laws_szDisk
def C (k : Nat) : Cn := ⟨[.val TDisk, .val (.int .i64)], [(.int .i64)], true, false, fun x => f k x.1 x.2.1⟩
def E (k : Nat) : Env := ⟨tb, [(14, laws_szFileS.C k)], [], k, 0, []⟩
theorem eq (k : Nat) (a0 : Ty.den TDisk) (a1 : Int) : run (E k) Tryd.f5 [.val TDisk, .val (.int .i64)] [(.int .i64)] true false (a0, a1, ()) = f k a0 a1 := by kernel_rfl
theorem ctr (k : Nat) : Ctr J Tryd.prog 5 (C k) :=
  run_ctr (E := E k) mixed tb_ok (eqOk_of tb_eqs) (Cts.cons (laws_szFileS.ctr k) Cts.nil) (by kernel_rfl) Tryd.func5 (by kernel_rfl) rfl (fun ⟨a0, a1, _⟩ r h => (eq k a0 a1).trans h)
end laws_szDisk
namespace laws_toIntS
def C (k : Nat) : Cn := ⟨[.val (.slice (.int .i64))], [(.slice (.int .i64))], true, false, fun x => f k x.1⟩
def E (k : Nat) : Env := ⟨tb, [], [(3, [0, 3, 4])], k, 0, []⟩
section
variable (k : Nat) (a0 : List Int)
noncomputable def K0 : Ex → St → Option ((List Int) × Unit) := runK (E k) (endK (E k) Tryd.f28.results.toList [.val (.slice (.int .i64))] (a0, ()) [(.slice (.int .i64))] true false) [.blk 0, .code (at_ (bt 3 7) (body Tryd.f28))]
noncomputable def V0 (n0 : Nat) (x0_0 : List Int) (x0_1 : Int) (x0_2 : List Int) : Option ((List Int) × Unit) := loopN (exec (E k) (at_ (bt 6 11) (body Tryd.f28))) (canon 0 [0, 3, 4]) (K0 k a0) n0 (mk 22 1 [(0, .sl true (.int .i64) x0_0), (3, .ref 0), (4, .int .i64 x0_1)] [(0, .own false (.int .i64) x0_2)])
theorem s0 (n0 : Nat) (x0_0 : List Int) (x0_1 : Int) (x0_2 : List Int) : V0 k a0 (n0 + 1) x0_0 x0_1 x0_2 = b0 k (V0 k a0 n0) x0_0 x0_1 x0_2 := by kernel_rfl
theorem e0 (n0 : Nat) : V0 k a0 n0 = l0 k n0 := loop_eq (V := V0 k a0) (l := l0 k) rfl (fun n0 => funext fun x0_0 => funext fun x0_1 => funext fun x0_2 => s0 k a0 n0 x0_0 x0_1 x0_2) (fun _ => rfl) n0
end
theorem eq (k : Nat) (a0 : List Int) : run (E k) Tryd.f28 [.val (.slice (.int .i64))] [(.slice (.int .i64))] true false (a0, ()) = f k a0 := (show _ = t k (V0 k a0 k) a0 by kernel_rfl).trans (by rw [e0]; rfl)
theorem ctr (k : Nat) : Ctr J Tryd.prog 28 (C k) :=
  run_ctr (E := E k) mixed tb_ok (eqOk_of tb_eqs) Cts.nil (by kernel_rfl) Tryd.func28 (by kernel_rfl) rfl (fun ⟨a0, _⟩ r h => (eq k a0).trans h)
end laws_toIntS
namespace laws_toLive
def C (k : Nat) : Cn := ⟨[.val TLive], [TLive], true, false, fun x => f k x.1⟩
def E (k : Nat) : Env := ⟨tb, [(28, laws_toIntS.C k)], [], k, 0, []⟩
theorem eq (k : Nat) (a0 : Ty.den TLive) : run (E k) Tryd.f16 [.val TLive] [TLive] true false (a0, ()) = f k a0 := by kernel_rfl
theorem ctr (k : Nat) : Ctr J Tryd.prog 16 (C k) :=
  run_ctr (E := E k) mixed tb_ok (eqOk_of tb_eqs) (Cts.cons (laws_toIntS.ctr k) Cts.nil) (by kernel_rfl) Tryd.func16 (by kernel_rfl) rfl (fun ⟨a0, _⟩ r h => (eq k a0).trans h)
end laws_toLive
namespace laws_toEntry
def C (k : Nat) : Cn := ⟨[.val TEntry], [TEntry], true, false, fun x => f k x.1⟩
def E (k : Nat) : Env := ⟨tb, [], [], k, 0, []⟩
theorem eq (k : Nat) (a0 : Ty.den TEntry) : run (E k) Tryd.f29 [.val TEntry] [TEntry] true false (a0, ()) = f k a0 := by kernel_rfl
theorem ctr (k : Nat) : Ctr J Tryd.prog 29 (C k) :=
  run_ctr (E := E k) mixed tb_ok (eqOk_of tb_eqs) Cts.nil (by kernel_rfl) Tryd.func29 (by kernel_rfl) rfl (fun ⟨a0, _⟩ r h => (eq k a0).trans h)
end laws_toEntry
namespace laws_toEntryS
def C (k : Nat) : Cn := ⟨[.val (.slice TEntry)], [(.slice TEntry)], true, false, fun x => f k x.1⟩
def E (k : Nat) : Env := ⟨tb, [(29, laws_toEntry.C k)], [(3, [0, 3, 4])], k, 0, []⟩
section
variable (k : Nat) (a0 : List (Ty.den TEntry))
noncomputable def K0 : Ex → St → Option ((List (Ty.den TEntry)) × Unit) := runK (E k) (endK (E k) Tryd.f17.results.toList [.val (.slice TEntry)] (a0, ()) [(.slice TEntry)] true false) [.blk 0, .code (at_ (bt 3 7) (body Tryd.f17))]
noncomputable def V0 (n0 : Nat) (x0_0 : List (Ty.den TEntry)) (x0_1 : Int) (x0_2 : List (Ty.den TEntry)) : Option ((List (Ty.den TEntry)) × Unit) := loopN (exec (E k) (at_ (bt 6 11) (body Tryd.f17))) (canon 0 [0, 3, 4]) (K0 k a0) n0 (mk 23 1 [(0, .sl true TEntry x0_0), (3, .ref 0), (4, .int .i64 x0_1)] [(0, .own false TEntry x0_2)])
theorem s0 (n0 : Nat) (x0_0 : List (Ty.den TEntry)) (x0_1 : Int) (x0_2 : List (Ty.den TEntry)) : V0 k a0 (n0 + 1) x0_0 x0_1 x0_2 = b0 k (V0 k a0 n0) x0_0 x0_1 x0_2 := by kernel_rfl
theorem e0 (n0 : Nat) : V0 k a0 n0 = l0 k n0 := loop_eq (V := V0 k a0) (l := l0 k) rfl (fun n0 => funext fun x0_0 => funext fun x0_1 => funext fun x0_2 => s0 k a0 n0 x0_0 x0_1 x0_2) (fun _ => rfl) n0
end
theorem eq (k : Nat) (a0 : List (Ty.den TEntry)) : run (E k) Tryd.f17 [.val (.slice TEntry)] [(.slice TEntry)] true false (a0, ()) = f k a0 := (show _ = t k (V0 k a0 k) a0 by kernel_rfl).trans (by rw [e0]; rfl)
theorem ctr (k : Nat) : Ctr J Tryd.prog 17 (C k) :=
  run_ctr (E := E k) mixed tb_ok (eqOk_of tb_eqs) (Cts.cons (laws_toEntry.ctr k) Cts.nil) (by kernel_rfl) Tryd.func17 (by kernel_rfl) rfl (fun ⟨a0, _⟩ r h => (eq k a0).trans h)
end laws_toEntryS
namespace laws_toStore
def C (k : Nat) : Cn := ⟨[.val TStore], [TStore], true, false, fun x => f k x.1⟩
def E (k : Nat) : Env := ⟨tb, [(16, laws_toLive.C k), (17, laws_toEntryS.C k)], [], k, 0, []⟩
theorem eq (k : Nat) (a0 : Ty.den TStore) : run (E k) Tryd.f7 [.val TStore] [TStore] true false (a0, ()) = f k a0 := by kernel_rfl
theorem ctr (k : Nat) : Ctr J Tryd.prog 7 (C k) :=
  run_ctr (E := E k) mixed tb_ok (eqOk_of tb_eqs) (Cts.cons (laws_toLive.ctr k) (Cts.cons (laws_toEntryS.ctr k) Cts.nil)) (by kernel_rfl) Tryd.func7 (by kernel_rfl) rfl (fun ⟨a0, _⟩ r h => (eq k a0).trans h)
end laws_toStore
namespace laws_toFile
def C (k : Nat) : Cn := ⟨[.val TFile], [TFile], true, false, fun x => f k x.1⟩
def E (k : Nat) : Env := ⟨tb, [], [], k, 0, []⟩
theorem eq (k : Nat) (a0 : Ty.den TFile) : run (E k) Tryd.f30 [.val TFile] [TFile] true false (a0, ()) = f k a0 := by kernel_rfl
theorem ctr (k : Nat) : Ctr J Tryd.prog 30 (C k) :=
  run_ctr (E := E k) mixed tb_ok (eqOk_of tb_eqs) Cts.nil (by kernel_rfl) Tryd.func30 (by kernel_rfl) rfl (fun ⟨a0, _⟩ r h => (eq k a0).trans h)
end laws_toFile
namespace laws_toFileS
def C (k : Nat) : Cn := ⟨[.val (.slice TFile)], [(.slice TFile)], true, false, fun x => f k x.1⟩
def E (k : Nat) : Env := ⟨tb, [(30, laws_toFile.C k)], [(3, [0, 3, 4])], k, 0, []⟩
section
variable (k : Nat) (a0 : List (Ty.den TFile))
noncomputable def K0 : Ex → St → Option ((List (Ty.den TFile)) × Unit) := runK (E k) (endK (E k) Tryd.f18.results.toList [.val (.slice TFile)] (a0, ()) [(.slice TFile)] true false) [.blk 0, .code (at_ (bt 3 7) (body Tryd.f18))]
noncomputable def V0 (n0 : Nat) (x0_0 : List (Ty.den TFile)) (x0_1 : Int) (x0_2 : List (Ty.den TFile)) : Option ((List (Ty.den TFile)) × Unit) := loopN (exec (E k) (at_ (bt 6 11) (body Tryd.f18))) (canon 0 [0, 3, 4]) (K0 k a0) n0 (mk 23 1 [(0, .sl true TFile x0_0), (3, .ref 0), (4, .int .i64 x0_1)] [(0, .own false TFile x0_2)])
theorem s0 (n0 : Nat) (x0_0 : List (Ty.den TFile)) (x0_1 : Int) (x0_2 : List (Ty.den TFile)) : V0 k a0 (n0 + 1) x0_0 x0_1 x0_2 = b0 k (V0 k a0 n0) x0_0 x0_1 x0_2 := by kernel_rfl
theorem e0 (n0 : Nat) : V0 k a0 n0 = l0 k n0 := loop_eq (V := V0 k a0) (l := l0 k) rfl (fun n0 => funext fun x0_0 => funext fun x0_1 => funext fun x0_2 => s0 k a0 n0 x0_0 x0_1 x0_2) (fun _ => rfl) n0
end
theorem eq (k : Nat) (a0 : List (Ty.den TFile)) : run (E k) Tryd.f18 [.val (.slice TFile)] [(.slice TFile)] true false (a0, ()) = f k a0 := (show _ = t k (V0 k a0 k) a0 by kernel_rfl).trans (by rw [e0]; rfl)
theorem ctr (k : Nat) : Ctr J Tryd.prog 18 (C k) :=
  run_ctr (E := E k) mixed tb_ok (eqOk_of tb_eqs) (Cts.cons (laws_toFile.ctr k) Cts.nil) (by kernel_rfl) Tryd.func18 (by kernel_rfl) rfl (fun ⟨a0, _⟩ r h => (eq k a0).trans h)
end laws_toFileS
namespace laws_toDisk
def C (k : Nat) : Cn := ⟨[.val TDisk], [TDisk], true, false, fun x => f k x.1⟩
def E (k : Nat) : Env := ⟨tb, [(18, laws_toFileS.C k)], [], k, 0, []⟩
theorem eq (k : Nat) (a0 : Ty.den TDisk) : run (E k) Tryd.f8 [.val TDisk] [TDisk] true false (a0, ()) = f k a0 := by kernel_rfl
theorem ctr (k : Nat) : Ctr J Tryd.prog 8 (C k) :=
  run_ctr (E := E k) mixed tb_ok (eqOk_of tb_eqs) (Cts.cons (laws_toFileS.ctr k) Cts.nil) (by kernel_rfl) Tryd.func8 (by kernel_rfl) rfl (fun ⟨a0, _⟩ r h => (eq k a0).trans h)
end laws_toDisk
namespace spec_l1In
def C (k : Nat) : Cn := ⟨[.val (.int .i64), .val (.int .i64), .val (.int .i64)], [.bool], true, false, fun x => f k x.1 x.2.1 x.2.2.1⟩
def E (k : Nat) : Env := ⟨tb, [], [], k, 0, []⟩
theorem eq (k : Nat) (a0 : Int) (a1 : Int) (a2 : Int) : run (E k) Tryd.f38 [.val (.int .i64), .val (.int .i64), .val (.int .i64)] [.bool] true false (a0, a1, a2, ()) = f k a0 a1 a2 := by kernel_rfl
theorem ctr (k : Nat) : Ctr J Tryd.prog 38 (C k) :=
  run_ctr (E := E k) mixed tb_ok (eqOk_of tb_eqs) Cts.nil (by kernel_rfl) Tryd.func38 (by kernel_rfl) rfl (fun ⟨a0, a1, a2, _⟩ r h => (eq k a0 a1 a2).trans h)
end spec_l1In
namespace spec_Dec
def C (k : Nat) : Cn := ⟨[.val (.int .i64)], [.str], true, false, fun x => f k x.1⟩
def E (k : Nat) : Env := ⟨tb, [], [(5, [0, 3, 4])], k, 0, []⟩
section
variable (k : Nat) (a0 : Int)
noncomputable def K0 : Ex → St → Option (ByteArray × Unit) := runK (E k) (endK (E k) Tryd.f39.results.toList [.val (.int .i64)] (a0, ()) [.str] true false) [.blk 0, .code (at_ (bt 5 31) (body Tryd.f39))]
noncomputable def V0 (n0 : Nat) (x0_0 : Int) (x0_1 : ByteArray) (x0_2 : Bool) : Option (ByteArray × Unit) := loopN (exec (E k) (at_ (bt 7 15) (body Tryd.f39))) (canon 0 [0, 3, 4]) (K0 k a0) n0 (mk 31 0 [(0, .int .i64 x0_0), (3, .str x0_1), (4, .bool x0_2)] [])
theorem s0 (n0 : Nat) (x0_0 : Int) (x0_1 : ByteArray) (x0_2 : Bool) : V0 k a0 (n0 + 1) x0_0 x0_1 x0_2 = b0 k (V0 k a0 n0) x0_0 x0_1 x0_2 := by kernel_rfl
theorem e0 (n0 : Nat) : V0 k a0 n0 = l0 k n0 := loop_eq (V := V0 k a0) (l := l0 k) rfl (fun n0 => funext fun x0_0 => funext fun x0_1 => funext fun x0_2 => s0 k a0 n0 x0_0 x0_1 x0_2) (fun _ => rfl) n0
end
theorem eq (k : Nat) (a0 : Int) : run (E k) Tryd.f39 [.val (.int .i64)] [.str] true false (a0, ()) = f k a0 := (show _ = t k (V0 k a0 k) a0 by kernel_rfl).trans (by rw [e0]; rfl)
theorem ctr (k : Nat) : Ctr J Tryd.prog 39 (C k) :=
  run_ctr (E := E k) mixed tb_ok (eqOk_of tb_eqs) Cts.nil (by kernel_rfl) Tryd.func39 (by kernel_rfl) rfl (fun ⟨a0, _⟩ r h => (eq k a0).trans h)
end spec_Dec
namespace spec_SegName
def C (k : Nat) : Cn := ⟨[.val (.int .i64)], [.str], true, false, fun x => f k x.1⟩
def E (k : Nat) : Env := ⟨tb, [(38, spec_l1In.C k), (39, spec_Dec.C k)], [], k, 0, []⟩
theorem eq (k : Nat) (a0 : Int) : run (E k) Tryd.f27 [.val (.int .i64)] [.str] true false (a0, ()) = f k a0 := by kernel_rfl
theorem ctr (k : Nat) : Ctr J Tryd.prog 27 (C k) :=
  run_ctr (E := E k) mixed tb_ok (eqOk_of tb_eqs) (Cts.cons (spec_l1In.ctr k) (Cts.cons (spec_Dec.ctr k) Cts.nil)) (by kernel_rfl) Tryd.func27 (by kernel_rfl) rfl (fun ⟨a0, _⟩ r h => (eq k a0).trans h)
end spec_SegName
namespace spec_l3Used
def C (k : Nat) : Cn := ⟨[.val TDisk], [(.int .i64)], true, false, fun x => f k x.1⟩
def E (k : Nat) : Env := ⟨tb, [], [(3, [1, 3, 4])], k, 0, []⟩
section
variable (k : Nat) (a0 : Ty.den TDisk)
noncomputable def K0 : Ex → St → Option (Int × Unit) := runK (E k) (endK (E k) Tryd.f43.results.toList [.val TDisk] (a0, ()) [(.int .i64)] true false) [.blk 0, .code (at_ (bt 3 7) (body Tryd.f43))]
noncomputable def V0 (n0 : Nat) (x0_0 : Int) (x0_1 : Int) (x0_2 : List (Ty.den TFile)) (x0_3 : Int) (x0_4 : Int) (x0_5 : Bool) : Option (Int × Unit) := loopN (exec (E k) (at_ (bt 6 11) (body Tryd.f43))) (canon 0 [1, 3, 4]) (K0 k a0) n0 (mk 22 1 [(1, .ptr 0 0 0), (3, .int .i64 x0_0), (4, .int .i64 x0_1)] [(0, .box [.sl true TFile x0_2, .int .i64 x0_3, .int .i64 x0_4, .bool x0_5])])
theorem s0 (n0 : Nat) (x0_0 : Int) (x0_1 : Int) (x0_2 : List (Ty.den TFile)) (x0_3 : Int) (x0_4 : Int) (x0_5 : Bool) : V0 k a0 (n0 + 1) x0_0 x0_1 x0_2 x0_3 x0_4 x0_5 = b0 k (V0 k a0 n0) x0_0 x0_1 x0_2 x0_3 x0_4 x0_5 := by kernel_rfl
theorem e0 (n0 : Nat) : V0 k a0 n0 = l0 k n0 := loop_eq (V := V0 k a0) (l := l0 k) rfl (fun n0 => funext fun x0_0 => funext fun x0_1 => funext fun x0_2 => funext fun x0_3 => funext fun x0_4 => funext fun x0_5 => s0 k a0 n0 x0_0 x0_1 x0_2 x0_3 x0_4 x0_5) (fun _ => rfl) n0
end
theorem eq (k : Nat) (a0 : Ty.den TDisk) : run (E k) Tryd.f43 [.val TDisk] [(.int .i64)] true false (a0, ()) = f k a0 := (show _ = t k (V0 k a0 k) a0 by kernel_rfl).trans (by rw [e0]; rfl)
theorem ctr (k : Nat) : Ctr J Tryd.prog 43 (C k) :=
  run_ctr (E := E k) mixed tb_ok (eqOk_of tb_eqs) Cts.nil (by kernel_rfl) Tryd.func43 (by kernel_rfl) rfl (fun ⟨a0, _⟩ r h => (eq k a0).trans h)
end spec_l3Used
namespace spec_NameOk
def C (k : Nat) : Cn := ⟨[.val .str], [.bool], true, false, fun x => f k x.1⟩
def E (k : Nat) : Env := ⟨tb, [(38, spec_l1In.C k)], [(2, [0, 3])], k, 0, []⟩
section
variable (k : Nat) (a0 : ByteArray)
noncomputable def K0 : Ex → St → Option (Bool × Unit) := runK (E k) (endK (E k) Tryd.f44.results.toList [.val .str] (a0, ()) [.bool] true false) [.blk 0, .code (at_ (bt 2 3) (body Tryd.f44))]
noncomputable def V0 (n0 : Nat) (x0_0 : ByteArray) (x0_1 : Int) : Option (Bool × Unit) := loopN (exec (E k) (at_ (bt 5 5) (body Tryd.f44))) (canon 0 [0, 3]) (K0 k a0) n0 (mk 36 0 [(0, .str x0_0), (3, .int .i64 x0_1)] [])
theorem s0 (n0 : Nat) (x0_0 : ByteArray) (x0_1 : Int) : V0 k a0 (n0 + 1) x0_0 x0_1 = b0 k (V0 k a0 n0) x0_0 x0_1 := by kernel_rfl
theorem e0 (n0 : Nat) : V0 k a0 n0 = l0 k n0 := loop_eq (V := V0 k a0) (l := l0 k) rfl (fun n0 => funext fun x0_0 => funext fun x0_1 => s0 k a0 n0 x0_0 x0_1) (fun _ => rfl) n0
end
theorem eq (k : Nat) (a0 : ByteArray) : run (E k) Tryd.f44 [.val .str] [.bool] true false (a0, ()) = f k a0 := (show _ = t k (V0 k a0 k) a0 by kernel_rfl).trans (by rw [e0]; rfl)
theorem ctr (k : Nat) : Ctr J Tryd.prog 44 (C k) :=
  run_ctr (E := E k) mixed tb_ok (eqOk_of tb_eqs) (Cts.cons (spec_l1In.ctr k) Cts.nil) (by kernel_rfl) Tryd.func44 (by kernel_rfl) rfl (fun ⟨a0, _⟩ r h => (eq k a0).trans h)
end spec_NameOk
namespace spec_DiskOk
def C (k : Nat) : Cn := ⟨[.val TDisk], [.bool], true, false, fun x => f k x.1⟩
def E (k : Nat) : Env := ⟨tb, [(38, spec_l1In.C k), (43, spec_l3Used.C k), (44, spec_NameOk.C k)], [(4, [1, 3])], k, 0, []⟩
section
variable (k : Nat) (a0 : Ty.den TDisk)
noncomputable def K0 : Ex → St → Option (Bool × Unit) := runK (E k) (endK (E k) Tryd.f36.results.toList [.val TDisk] (a0, ()) [.bool] true false) [.blk 0, .code (at_ (bt 3 7) (body Tryd.f36))]
noncomputable def V0 (n0 : Nat) (x0_0 : Int) (x0_1 : List (Ty.den TFile)) (x0_2 : Int) (x0_3 : Int) (x0_4 : Bool) : Option (Bool × Unit) := loopN (exec (E k) (at_ (bt 6 11) (body Tryd.f36))) (canon 0 [1, 3]) (K0 k a0) n0 (mk 79 1 [(1, .ptr 0 0 0), (3, .int .i64 x0_0)] [(0, .box [.sl true TFile x0_1, .int .i64 x0_2, .int .i64 x0_3, .bool x0_4])])
theorem s0 (n0 : Nat) (x0_0 : Int) (x0_1 : List (Ty.den TFile)) (x0_2 : Int) (x0_3 : Int) (x0_4 : Bool) : V0 k a0 (n0 + 1) x0_0 x0_1 x0_2 x0_3 x0_4 = b0 k (V0 k a0 n0) x0_0 x0_1 x0_2 x0_3 x0_4 := by kernel_rfl
theorem e0 (n0 : Nat) : V0 k a0 n0 = l0 k n0 := loop_eq (V := V0 k a0) (l := l0 k) rfl (fun n0 => funext fun x0_0 => funext fun x0_1 => funext fun x0_2 => funext fun x0_3 => funext fun x0_4 => s0 k a0 n0 x0_0 x0_1 x0_2 x0_3 x0_4) (fun _ => rfl) n0
end
theorem eq (k : Nat) (a0 : Ty.den TDisk) : run (E k) Tryd.f36 [.val TDisk] [.bool] true false (a0, ()) = f k a0 := (show _ = t k (V0 k a0 k) a0 by kernel_rfl).trans (by rw [e0]; rfl)
theorem ctr (k : Nat) : Ctr J Tryd.prog 36 (C k) :=
  run_ctr (E := E k) mixed tb_ok (eqOk_of tb_eqs) (Cts.cons (spec_l1In.ctr k) (Cts.cons (spec_l3Used.ctr k) (Cts.cons (spec_NameOk.ctr k) Cts.nil))) (by kernel_rfl) Tryd.func36 (by kernel_rfl) rfl (fun ⟨a0, _⟩ r h => (eq k a0).trans h)
end spec_DiskOk
namespace spec_l3Find
def C (k : Nat) : Cn := ⟨[.val TDisk, .val .str], [(.int .i64)], true, false, fun x => f k x.1 x.2.1⟩
def E (k : Nat) : Env := ⟨tb, [], [(2, [1, 2, 5])], k, 0, []⟩
section
variable (k : Nat) (a0 : Ty.den TDisk) (a1 : ByteArray)
noncomputable def K0 : Ex → St → Option (Int × Unit) := runK (E k) (endK (E k) Tryd.f37.results.toList [.val TDisk, .val .str] (a0, a1, ()) [(.int .i64)] true false) [.blk 0, .code (at_ (bt 2 3) (body Tryd.f37))]
noncomputable def V0 (n0 : Nat) (x0_0 : ByteArray) (x0_1 : Int) (x0_2 : List (Ty.den TFile)) (x0_3 : Int) (x0_4 : Int) (x0_5 : Bool) : Option (Int × Unit) := loopN (exec (E k) (at_ (bt 5 5) (body Tryd.f37))) (canon 0 [1, 2, 5]) (K0 k a0 a1) n0 (mk 22 1 [(1, .str x0_0), (2, .ptr 0 0 0), (5, .int .i64 x0_1)] [(0, .box [.sl true TFile x0_2, .int .i64 x0_3, .int .i64 x0_4, .bool x0_5])])
theorem s0 (n0 : Nat) (x0_0 : ByteArray) (x0_1 : Int) (x0_2 : List (Ty.den TFile)) (x0_3 : Int) (x0_4 : Int) (x0_5 : Bool) : V0 k a0 a1 (n0 + 1) x0_0 x0_1 x0_2 x0_3 x0_4 x0_5 = b0 k (V0 k a0 a1 n0) x0_0 x0_1 x0_2 x0_3 x0_4 x0_5 := by kernel_rfl
theorem e0 (n0 : Nat) : V0 k a0 a1 n0 = l0 k n0 := loop_eq (V := V0 k a0 a1) (l := l0 k) rfl (fun n0 => funext fun x0_0 => funext fun x0_1 => funext fun x0_2 => funext fun x0_3 => funext fun x0_4 => funext fun x0_5 => s0 k a0 a1 n0 x0_0 x0_1 x0_2 x0_3 x0_4 x0_5) (fun _ => rfl) n0
end
theorem eq (k : Nat) (a0 : Ty.den TDisk) (a1 : ByteArray) : run (E k) Tryd.f37 [.val TDisk, .val .str] [(.int .i64)] true false (a0, a1, ()) = f k a0 a1 := (show _ = t k (V0 k a0 a1 k) a0 a1 by kernel_rfl).trans (by rw [e0]; rfl)
theorem ctr (k : Nat) : Ctr J Tryd.prog 37 (C k) :=
  run_ctr (E := E k) mixed tb_ok (eqOk_of tb_eqs) Cts.nil (by kernel_rfl) Tryd.func37 (by kernel_rfl) rfl (fun ⟨a0, a1, _⟩ r h => (eq k a0 a1).trans h)
end spec_l3Find
namespace spec_FileText
def C (k : Nat) : Cn := ⟨[.val TDisk, .val .str], [.str, .bool], true, false, fun x => f k x.1 x.2.1⟩
def E (k : Nat) : Env := ⟨tb, [(36, spec_DiskOk.C k), (37, spec_l3Find.C k)], [], k, 0, []⟩
theorem eq (k : Nat) (a0 : Ty.den TDisk) (a1 : ByteArray) : run (E k) Tryd.f26 [.val TDisk, .val .str] [.str, .bool] true false (a0, a1, ()) = f k a0 a1 := by kernel_rfl
theorem ctr (k : Nat) : Ctr J Tryd.prog 26 (C k) :=
  run_ctr (E := E k) mixed tb_ok (eqOk_of tb_eqs) (Cts.cons (spec_DiskOk.ctr k) (Cts.cons (spec_l3Find.ctr k) Cts.nil)) (by kernel_rfl) Tryd.func26 (by kernel_rfl) rfl (fun ⟨a0, a1, _⟩ r h => (eq k a0 a1).trans h)
end spec_FileText
namespace spec_SegBytes
def C (k : Nat) : Cn := ⟨[.val TStore, .val TDisk], [(.int .i64)], true, false, fun x => f k x.1 x.2.1⟩
def E (k : Nat) : Env := ⟨tb, [(27, spec_SegName.C k), (26, spec_FileText.C k)], [(3, [2, 3, 5, 6])], k, 0, []⟩
section
variable (k : Nat) (a0 : Ty.den TStore) (a1 : Ty.den TDisk)
noncomputable def K0 : Ex → St → Option (Int × Unit) := runK (E k) (endK (E k) Tryd.f15.results.toList [.val TStore, .val TDisk] (a0, a1, ()) [(.int .i64)] true false) [.blk 0, .code (at_ (bt 3 7) (body Tryd.f15))]
noncomputable def V0 (n0 : Nat) (x0_0 : Int) (x0_1 : Int) (x0_2 : Int) (x0_3 : List Int) (x0_4 : List (Ty.den TEntry)) (x0_5 : Int) (x0_6 : Int) (x0_7 : Int) (x0_8 : List (Ty.den TFile)) (x0_9 : Int) (x0_10 : Int) (x0_11 : Bool) : Option (Int × Unit) := loopN (exec (E k) (at_ (bt 6 11) (body Tryd.f15))) (canon 0 [2, 3, 5, 6]) (K0 k a0 a1) n0 (mk 38 2 [(2, .ptr 0 0 0), (3, .ptr 1 0 0), (5, .int .i64 x0_0), (6, .int .i64 x0_1)] [(0, .box [.int .i64 x0_2, .sl true (.int .i64) x0_3, .sl true TEntry x0_4, .int .i64 x0_5, .int .i64 x0_6, .int .i64 x0_7]), (1, .box [.sl true TFile x0_8, .int .i64 x0_9, .int .i64 x0_10, .bool x0_11])])
theorem s0 (n0 : Nat) (x0_0 : Int) (x0_1 : Int) (x0_2 : Int) (x0_3 : List Int) (x0_4 : List (Ty.den TEntry)) (x0_5 : Int) (x0_6 : Int) (x0_7 : Int) (x0_8 : List (Ty.den TFile)) (x0_9 : Int) (x0_10 : Int) (x0_11 : Bool) : V0 k a0 a1 (n0 + 1) x0_0 x0_1 x0_2 x0_3 x0_4 x0_5 x0_6 x0_7 x0_8 x0_9 x0_10 x0_11 = b0 k (V0 k a0 a1 n0) x0_0 x0_1 x0_2 x0_3 x0_4 x0_5 x0_6 x0_7 x0_8 x0_9 x0_10 x0_11 := by kernel_rfl
theorem e0 (n0 : Nat) : V0 k a0 a1 n0 = l0 k n0 := loop_eq (V := V0 k a0 a1) (l := l0 k) rfl (fun n0 => funext fun x0_0 => funext fun x0_1 => funext fun x0_2 => funext fun x0_3 => funext fun x0_4 => funext fun x0_5 => funext fun x0_6 => funext fun x0_7 => funext fun x0_8 => funext fun x0_9 => funext fun x0_10 => funext fun x0_11 => s0 k a0 a1 n0 x0_0 x0_1 x0_2 x0_3 x0_4 x0_5 x0_6 x0_7 x0_8 x0_9 x0_10 x0_11) (fun _ => rfl) n0
end
theorem eq (k : Nat) (a0 : Ty.den TStore) (a1 : Ty.den TDisk) : run (E k) Tryd.f15 [.val TStore, .val TDisk] [(.int .i64)] true false (a0, a1, ()) = f k a0 a1 := (show _ = t k (V0 k a0 a1 k) a0 a1 by kernel_rfl).trans (by rw [e0]; rfl)
theorem ctr (k : Nat) : Ctr J Tryd.prog 15 (C k) :=
  run_ctr (E := E k) mixed tb_ok (eqOk_of tb_eqs) (Cts.cons (spec_SegName.ctr k) (Cts.cons (spec_FileText.ctr k) Cts.nil)) (by kernel_rfl) Tryd.func15 (by kernel_rfl) rfl (fun ⟨a0, a1, _⟩ r h => (eq k a0 a1).trans h)
end spec_SegBytes
namespace spec_DeadBytes
def C (k : Nat) : Cn := ⟨[.val TStore, .val TDisk], [(.int .i64)], true, false, fun x => f k x.1 x.2.1⟩
def E (k : Nat) : Env := ⟨tb, [(15, spec_SegBytes.C k)], [(3, [2, 5, 6])], k, 0, []⟩
section
variable (k : Nat) (a0 : Ty.den TStore) (a1 : Ty.den TDisk)
noncomputable def K0 : Ex → St → Option (Int × Unit) := runK (E k) (endK (E k) Tryd.f6.results.toList [.val TStore, .val TDisk] (a0, a1, ()) [(.int .i64)] true false) [.blk 0, .code (at_ (bt 3 7) (body Tryd.f6))]
noncomputable def V0 (n0 : Nat) (x0_0 : Int) (x0_1 : Int) (x0_2 : Int) (x0_3 : List Int) (x0_4 : List (Ty.den TEntry)) (x0_5 : Int) (x0_6 : Int) (x0_7 : Int) : Option (Int × Unit) := loopN (exec (E k) (at_ (bt 6 11) (body Tryd.f6))) (canon 0 [2, 5, 6]) (K0 k a0 a1) n0 (mk 26 1 [(2, .ptr 0 0 0), (5, .int .i64 x0_0), (6, .int .i64 x0_1)] [(0, .box [.int .i64 x0_2, .sl true (.int .i64) x0_3, .sl true TEntry x0_4, .int .i64 x0_5, .int .i64 x0_6, .int .i64 x0_7])])
theorem s0 (n0 : Nat) (x0_0 : Int) (x0_1 : Int) (x0_2 : Int) (x0_3 : List Int) (x0_4 : List (Ty.den TEntry)) (x0_5 : Int) (x0_6 : Int) (x0_7 : Int) : V0 k a0 a1 (n0 + 1) x0_0 x0_1 x0_2 x0_3 x0_4 x0_5 x0_6 x0_7 = b0 k (V0 k a0 a1 n0) x0_0 x0_1 x0_2 x0_3 x0_4 x0_5 x0_6 x0_7 := by kernel_rfl
theorem e0 (n0 : Nat) : V0 k a0 a1 n0 = l0 k n0 := loop_eq (V := V0 k a0 a1) (l := l0 k) rfl (fun n0 => funext fun x0_0 => funext fun x0_1 => funext fun x0_2 => funext fun x0_3 => funext fun x0_4 => funext fun x0_5 => funext fun x0_6 => funext fun x0_7 => s0 k a0 a1 n0 x0_0 x0_1 x0_2 x0_3 x0_4 x0_5 x0_6 x0_7) (fun _ => rfl) n0
end
theorem eq (k : Nat) (a0 : Ty.den TStore) (a1 : Ty.den TDisk) : run (E k) Tryd.f6 [.val TStore, .val TDisk] [(.int .i64)] true false (a0, a1, ()) = f k a0 a1 := (show _ = t k (V0 k a0 a1 k) a0 a1 by kernel_rfl).trans (by rw [e0]; rfl)
theorem ctr (k : Nat) : Ctr J Tryd.prog 6 (C k) :=
  run_ctr (E := E k) mixed tb_ok (eqOk_of tb_eqs) (Cts.cons (spec_SegBytes.ctr k) Cts.nil) (by kernel_rfl) Tryd.func6 (by kernel_rfl) rfl (fun ⟨a0, a1, _⟩ r h => (eq k a0 a1).trans h)
end spec_DeadBytes
namespace impl_in
def C (k : Nat) : Cn := ⟨[.val (.int .i64), .val (.int .i64), .val (.int .i64)], [.bool], true, false, fun x => f k x.1 x.2.1 x.2.2.1⟩
def E (k : Nat) : Env := ⟨tb, [], [], k, 0, []⟩
theorem eq (k : Nat) (a0 : Int) (a1 : Int) (a2 : Int) : run (E k) Tryd.f45 [.val (.int .i64), .val (.int .i64), .val (.int .i64)] [.bool] true false (a0, a1, a2, ()) = f k a0 a1 a2 := by kernel_rfl
theorem ctr (k : Nat) : Ctr J Tryd.prog 45 (C k) :=
  run_ctr (E := E k) mixed tb_ok (eqOk_of tb_eqs) Cts.nil (by kernel_rfl) Tryd.func45 (by kernel_rfl) rfl (fun ⟨a0, a1, a2, _⟩ r h => (eq k a0 a1 a2).trans h)
end impl_in
namespace impl_Dec
def C (k : Nat) : Cn := ⟨[.val (.int .i64)], [.str], true, false, fun x => f k x.1⟩
def E (k : Nat) : Env := ⟨tb, [(48, lib_Itoa.C k)], [], k, 0, []⟩
theorem eq (k : Nat) (a0 : Int) : run (E k) Tryd.f47 [.val (.int .i64)] [.str] true false (a0, ()) = f k a0 := by kernel_rfl
theorem ctr (k : Nat) : Ctr J Tryd.prog 47 (C k) :=
  run_ctr (E := E k) mixed tb_ok (eqOk_of tb_eqs) (Cts.cons (lib_Itoa.ctr k) Cts.nil) (by kernel_rfl) Tryd.func47 (by kernel_rfl) rfl (fun ⟨a0, _⟩ r h => (eq k a0).trans h)
end impl_Dec
namespace impl_named
def C (k : Nat) : Cn := ⟨[.val .str, .val (.int .i64)], [.str], true, false, fun x => f k x.1 x.2.1⟩
def E (k : Nat) : Env := ⟨tb, [(45, impl_in.C k), (47, impl_Dec.C k)], [], k, 0, []⟩
theorem eq (k : Nat) (a0 : ByteArray) (a1 : Int) : run (E k) Tryd.f42 [.val .str, .val (.int .i64)] [.str] true false (a0, a1, ()) = f k a0 a1 := by kernel_rfl
theorem ctr (k : Nat) : Ctr J Tryd.prog 42 (C k) :=
  run_ctr (E := E k) mixed tb_ok (eqOk_of tb_eqs) (Cts.cons (impl_in.ctr k) (Cts.cons (impl_Dec.ctr k) Cts.nil)) (by kernel_rfl) Tryd.func42 (by kernel_rfl) rfl (fun ⟨a0, a1, _⟩ r h => (eq k a0 a1).trans h)
end impl_named
namespace impl_SegName
def C (k : Nat) : Cn := ⟨[.val (.int .i64)], [.str], true, false, fun x => f k x.1⟩
def E (k : Nat) : Env := ⟨tb, [(42, impl_named.C k)], [], k, 0, []⟩
theorem eq (k : Nat) (a0 : Int) : run (E k) Tryd.f32 [.val (.int .i64)] [.str] true false (a0, ()) = f k a0 := by kernel_rfl
theorem ctr (k : Nat) : Ctr J Tryd.prog 32 (C k) :=
  run_ctr (E := E k) mixed tb_ok (eqOk_of tb_eqs) (Cts.cons (impl_named.ctr k) Cts.nil) (by kernel_rfl) Tryd.func32 (by kernel_rfl) rfl (fun ⟨a0, _⟩ r h => (eq k a0).trans h)
end impl_SegName
namespace impl_fileAt
def C (k : Nat) : Cn := ⟨[.val TDisk, .val .str], [(.int .i64)], true, false, fun x => f k x.1 x.2.1⟩
def E (k : Nat) : Env := ⟨tb, [], [(2, [1, 8, 9, 10])], k, 0, []⟩
section
variable (k : Nat) (a0 : Ty.den TDisk) (a1 : ByteArray)
noncomputable def K0 : Ex → St → Option (Int × Unit) := runK (E k) (endK (E k) Tryd.f40.results.toList [.val TDisk, .val .str] (a0, a1, ()) [(.int .i64)] true false) [.blk 0, .code (at_ (bt 2 3) (body Tryd.f40))]
noncomputable def V0 (n0 : Nat) (x0_0 : ByteArray) (x0_1 : List (Ty.den TFile)) (x0_2 : Int) (x0_3 : Int) : Option (Int × Unit) := loopN (exec (E k) (at_ (bt 5 5) (body Tryd.f40))) (canon 0 [1, 8, 9, 10]) (K0 k a0 a1) n0 (mk 21 0 [(1, .str x0_0), (8, .sl true TFile x0_1), (9, .int .i64 x0_2), (10, .int .i64 x0_3)] [])
theorem s0 (n0 : Nat) (x0_0 : ByteArray) (x0_1 : List (Ty.den TFile)) (x0_2 : Int) (x0_3 : Int) : V0 k a0 a1 (n0 + 1) x0_0 x0_1 x0_2 x0_3 = b0 k (V0 k a0 a1 n0) x0_0 x0_1 x0_2 x0_3 := by kernel_rfl
theorem e0 (n0 : Nat) : V0 k a0 a1 n0 = l0 k n0 := loop_eq (V := V0 k a0 a1) (l := l0 k) rfl (fun n0 => funext fun x0_0 => funext fun x0_1 => funext fun x0_2 => funext fun x0_3 => s0 k a0 a1 n0 x0_0 x0_1 x0_2 x0_3) (fun _ => rfl) n0
end
theorem eq (k : Nat) (a0 : Ty.den TDisk) (a1 : ByteArray) : run (E k) Tryd.f40 [.val TDisk, .val .str] [(.int .i64)] true false (a0, a1, ()) = f k a0 a1 := (show _ = t k (V0 k a0 a1 k) a0 a1 by kernel_rfl).trans (by rw [e0]; rfl)
theorem ctr (k : Nat) : Ctr J Tryd.prog 40 (C k) :=
  run_ctr (E := E k) mixed tb_ok (eqOk_of tb_eqs) Cts.nil (by kernel_rfl) Tryd.func40 (by kernel_rfl) rfl (fun ⟨a0, a1, _⟩ r h => (eq k a0 a1).trans h)
end impl_fileAt
namespace impl_NameOk
def C (k : Nat) : Cn := ⟨[.val .str], [.bool], true, false, fun x => f k x.1⟩
def E (k : Nat) : Env := ⟨tb, [(45, impl_in.C k)], [(2, [0, 3])], k, 0, []⟩
section
variable (k : Nat) (a0 : ByteArray)
noncomputable def K0 : Ex → St → Option (Bool × Unit) := runK (E k) (endK (E k) Tryd.f46.results.toList [.val .str] (a0, ()) [.bool] true false) [.blk 0, .code (at_ (bt 2 3) (body Tryd.f46))]
noncomputable def V0 (n0 : Nat) (x0_0 : ByteArray) (x0_1 : Int) : Option (Bool × Unit) := loopN (exec (E k) (at_ (bt 5 5) (body Tryd.f46))) (canon 0 [0, 3]) (K0 k a0) n0 (mk 37 0 [(0, .str x0_0), (3, .int .i64 x0_1)] [])
theorem s0 (n0 : Nat) (x0_0 : ByteArray) (x0_1 : Int) : V0 k a0 (n0 + 1) x0_0 x0_1 = b0 k (V0 k a0 n0) x0_0 x0_1 := by kernel_rfl
theorem e0 (n0 : Nat) : V0 k a0 n0 = l0 k n0 := loop_eq (V := V0 k a0) (l := l0 k) rfl (fun n0 => funext fun x0_0 => funext fun x0_1 => s0 k a0 n0 x0_0 x0_1) (fun _ => rfl) n0
end
theorem eq (k : Nat) (a0 : ByteArray) : run (E k) Tryd.f46 [.val .str] [.bool] true false (a0, ()) = f k a0 := (show _ = t k (V0 k a0 k) a0 by kernel_rfl).trans (by rw [e0]; rfl)
theorem ctr (k : Nat) : Ctr J Tryd.prog 46 (C k) :=
  run_ctr (E := E k) mixed tb_ok (eqOk_of tb_eqs) (Cts.cons (impl_in.ctr k) Cts.nil) (by kernel_rfl) Tryd.func46 (by kernel_rfl) rfl (fun ⟨a0, _⟩ r h => (eq k a0).trans h)
end impl_NameOk
namespace impl_DiskOk
def C (k : Nat) : Cn := ⟨[.val TDisk], [.bool], true, false, fun x => f k x.1⟩
def E (k : Nat) : Env := ⟨tb, [(45, impl_in.C k), (46, impl_NameOk.C k)], [(5, [1, 3, 23, 24, 25])], k, 0, []⟩
section
variable (k : Nat) (a0 : Ty.den TDisk)
noncomputable def K0 : Ex → St → Option (Bool × Unit) := runK (E k) (endK (E k) Tryd.f41.results.toList [.val TDisk] (a0, ()) [.bool] true false) [.blk 0, .code (at_ (bt 4 15) (body Tryd.f41))]
noncomputable def V0 (n0 : Nat) (x0_0 : Int) (x0_1 : List (Ty.den TFile)) (x0_2 : Int) (x0_3 : Int) (x0_4 : List (Ty.den TFile)) (x0_5 : Int) (x0_6 : Int) (x0_7 : Bool) : Option (Bool × Unit) := loopN (exec (E k) (at_ (bt 7 23) (body Tryd.f41))) (canon 0 [1, 3, 23, 24, 25]) (K0 k a0) n0 (mk 69 1 [(1, .ptr 0 0 0), (3, .int .i64 x0_0), (23, .sl true TFile x0_1), (24, .int .i64 x0_2), (25, .int .i64 x0_3)] [(0, .box [.sl true TFile x0_4, .int .i64 x0_5, .int .i64 x0_6, .bool x0_7])])
theorem s0 (n0 : Nat) (x0_0 : Int) (x0_1 : List (Ty.den TFile)) (x0_2 : Int) (x0_3 : Int) (x0_4 : List (Ty.den TFile)) (x0_5 : Int) (x0_6 : Int) (x0_7 : Bool) : V0 k a0 (n0 + 1) x0_0 x0_1 x0_2 x0_3 x0_4 x0_5 x0_6 x0_7 = b0 k (V0 k a0 n0) x0_0 x0_1 x0_2 x0_3 x0_4 x0_5 x0_6 x0_7 := by kernel_rfl
theorem e0 (n0 : Nat) : V0 k a0 n0 = l0 k n0 := loop_eq (V := V0 k a0) (l := l0 k) rfl (fun n0 => funext fun x0_0 => funext fun x0_1 => funext fun x0_2 => funext fun x0_3 => funext fun x0_4 => funext fun x0_5 => funext fun x0_6 => funext fun x0_7 => s0 k a0 n0 x0_0 x0_1 x0_2 x0_3 x0_4 x0_5 x0_6 x0_7) (fun _ => rfl) n0
end
theorem eq (k : Nat) (a0 : Ty.den TDisk) : run (E k) Tryd.f41 [.val TDisk] [.bool] true false (a0, ()) = f k a0 := (show _ = t k (V0 k a0 k) a0 by kernel_rfl).trans (by rw [e0]; rfl)
theorem ctr (k : Nat) : Ctr J Tryd.prog 41 (C k) :=
  run_ctr (E := E k) mixed tb_ok (eqOk_of tb_eqs) (Cts.cons (impl_in.ctr k) (Cts.cons (impl_NameOk.ctr k) Cts.nil)) (by kernel_rfl) Tryd.func41 (by kernel_rfl) rfl (fun ⟨a0, _⟩ r h => (eq k a0).trans h)
end impl_DiskOk
namespace impl_FileText
def C (k : Nat) : Cn := ⟨[.val TDisk, .val .str], [.str, .bool], true, false, fun x => f k x.1 x.2.1⟩
def E (k : Nat) : Env := ⟨tb, [(40, impl_fileAt.C k), (41, impl_DiskOk.C k)], [], k, 0, []⟩
theorem eq (k : Nat) (a0 : Ty.den TDisk) (a1 : ByteArray) : run (E k) Tryd.f31 [.val TDisk, .val .str] [.str, .bool] true false (a0, a1, ()) = f k a0 a1 := by kernel_rfl
theorem ctr (k : Nat) : Ctr J Tryd.prog 31 (C k) :=
  run_ctr (E := E k) mixed tb_ok (eqOk_of tb_eqs) (Cts.cons (impl_fileAt.ctr k) (Cts.cons (impl_DiskOk.ctr k) Cts.nil)) (by kernel_rfl) Tryd.func31 (by kernel_rfl) rfl (fun ⟨a0, a1, _⟩ r h => (eq k a0 a1).trans h)
end impl_FileText
namespace impl_SegBytes
def C (k : Nat) : Cn := ⟨[.val TStore, .val TDisk], [(.int .i64)], true, false, fun x => f k x.1 x.2.1⟩
def E (k : Nat) : Env := ⟨tb, [(32, impl_SegName.C k), (31, impl_FileText.C k)], [(3, [3, 5, 12, 13, 14])], k, 0, []⟩
section
variable (k : Nat) (a0 : Ty.den TStore) (a1 : Ty.den TDisk)
noncomputable def K0 : Ex → St → Option (Int × Unit) := runK (E k) (endK (E k) Tryd.f19.results.toList [.val TStore, .val TDisk] (a0, a1, ()) [(.int .i64)] true false) [.blk 0, .code (at_ (bt 3 7) (body Tryd.f19))]
noncomputable def V0 (n0 : Nat) (x0_0 : Int) (x0_1 : List Int) (x0_2 : Int) (x0_3 : Int) (x0_4 : List (Ty.den TFile)) (x0_5 : Int) (x0_6 : Int) (x0_7 : Bool) : Option (Int × Unit) := loopN (exec (E k) (at_ (bt 6 11) (body Tryd.f19))) (canon 0 [3, 5, 12, 13, 14]) (K0 k a0 a1) n0 (mk 34 1 [(3, .ptr 0 0 0), (5, .int .i64 x0_0), (12, .sl true (.int .i64) x0_1), (13, .int .i64 x0_2), (14, .int .i64 x0_3)] [(0, .box [.sl true TFile x0_4, .int .i64 x0_5, .int .i64 x0_6, .bool x0_7])])
theorem s0 (n0 : Nat) (x0_0 : Int) (x0_1 : List Int) (x0_2 : Int) (x0_3 : Int) (x0_4 : List (Ty.den TFile)) (x0_5 : Int) (x0_6 : Int) (x0_7 : Bool) : V0 k a0 a1 (n0 + 1) x0_0 x0_1 x0_2 x0_3 x0_4 x0_5 x0_6 x0_7 = b0 k (V0 k a0 a1 n0) x0_0 x0_1 x0_2 x0_3 x0_4 x0_5 x0_6 x0_7 := by kernel_rfl
theorem e0 (n0 : Nat) : V0 k a0 a1 n0 = l0 k n0 := loop_eq (V := V0 k a0 a1) (l := l0 k) rfl (fun n0 => funext fun x0_0 => funext fun x0_1 => funext fun x0_2 => funext fun x0_3 => funext fun x0_4 => funext fun x0_5 => funext fun x0_6 => funext fun x0_7 => s0 k a0 a1 n0 x0_0 x0_1 x0_2 x0_3 x0_4 x0_5 x0_6 x0_7) (fun _ => rfl) n0
end
theorem eq (k : Nat) (a0 : Ty.den TStore) (a1 : Ty.den TDisk) : run (E k) Tryd.f19 [.val TStore, .val TDisk] [(.int .i64)] true false (a0, a1, ()) = f k a0 a1 := (show _ = t k (V0 k a0 a1 k) a0 a1 by kernel_rfl).trans (by rw [e0]; rfl)
theorem ctr (k : Nat) : Ctr J Tryd.prog 19 (C k) :=
  run_ctr (E := E k) mixed tb_ok (eqOk_of tb_eqs) (Cts.cons (impl_SegName.ctr k) (Cts.cons (impl_FileText.ctr k) Cts.nil)) (by kernel_rfl) Tryd.func19 (by kernel_rfl) rfl (fun ⟨a0, a1, _⟩ r h => (eq k a0 a1).trans h)
end impl_SegBytes
namespace impl_DeadBytes
def C (k : Nat) : Cn := ⟨[.val TStore, .val TDisk], [(.int .i64)], true, false, fun x => f k x.1 x.2.1⟩
def E (k : Nat) : Env := ⟨tb, [(19, impl_SegBytes.C k)], [(3, [5, 12, 13, 14])], k, 0, []⟩
section
variable (k : Nat) (a0 : Ty.den TStore) (a1 : Ty.den TDisk)
noncomputable def K0 : Ex → St → Option (Int × Unit) := runK (E k) (endK (E k) Tryd.f9.results.toList [.val TStore, .val TDisk] (a0, a1, ()) [(.int .i64)] true false) [.blk 0, .code (at_ (bt 3 7) (body Tryd.f9))]
noncomputable def V0 (n0 : Nat) (x0_0 : Int) (x0_1 : List (Ty.den TEntry)) (x0_2 : Int) (x0_3 : Int) : Option (Int × Unit) := loopN (exec (E k) (at_ (bt 6 11) (body Tryd.f9))) (canon 0 [5, 12, 13, 14]) (K0 k a0 a1) n0 (mk 24 0 [(5, .int .i64 x0_0), (12, .sl true TEntry x0_1), (13, .int .i64 x0_2), (14, .int .i64 x0_3)] [])
theorem s0 (n0 : Nat) (x0_0 : Int) (x0_1 : List (Ty.den TEntry)) (x0_2 : Int) (x0_3 : Int) : V0 k a0 a1 (n0 + 1) x0_0 x0_1 x0_2 x0_3 = b0 k (V0 k a0 a1 n0) x0_0 x0_1 x0_2 x0_3 := by kernel_rfl
theorem e0 (n0 : Nat) : V0 k a0 a1 n0 = l0 k n0 := loop_eq (V := V0 k a0 a1) (l := l0 k) rfl (fun n0 => funext fun x0_0 => funext fun x0_1 => funext fun x0_2 => funext fun x0_3 => s0 k a0 a1 n0 x0_0 x0_1 x0_2 x0_3) (fun _ => rfl) n0
end
theorem eq (k : Nat) (a0 : Ty.den TStore) (a1 : Ty.den TDisk) : run (E k) Tryd.f9 [.val TStore, .val TDisk] [(.int .i64)] true false (a0, a1, ()) = f k a0 a1 := (show _ = t k (V0 k a0 a1 k) a0 a1 by kernel_rfl).trans (by rw [e0]; rfl)
theorem ctr (k : Nat) : Ctr J Tryd.prog 9 (C k) :=
  run_ctr (E := E k) mixed tb_ok (eqOk_of tb_eqs) (Cts.cons (impl_SegBytes.ctr k) Cts.nil) (by kernel_rfl) Tryd.func9 (by kernel_rfl) rfl (fun ⟨a0, a1, _⟩ r h => (eq k a0 a1).trans h)
end impl_DeadBytes
namespace laws_eqIntS
def C (k : Nat) : Cn := ⟨[.val (.slice (.int .i64)), .val (.slice (.int .i64))], [.bool], true, false, fun x => f k x.1 x.2.1⟩
def E (k : Nat) : Env := ⟨tb, [], [(4, [0, 1, 5])], k, 0, []⟩
section
variable (k : Nat) (a0 : List Int) (a1 : List Int)
noncomputable def K0 : Ex → St → Option (Bool × Unit) := runK (E k) (endK (E k) Tryd.f33.results.toList [.val (.slice (.int .i64)), .val (.slice (.int .i64))] (a0, a1, ()) [.bool] true false) [.blk 0, .code (at_ (bt 3 7) (body Tryd.f33))]
noncomputable def V0 (n0 : Nat) (x0_0 : List Int) (x0_1 : List Int) (x0_2 : Int) : Option (Bool × Unit) := loopN (exec (E k) (at_ (bt 6 11) (body Tryd.f33))) (canon 0 [0, 1, 5]) (K0 k a0 a1) n0 (mk 26 0 [(0, .sl true (.int .i64) x0_0), (1, .sl true (.int .i64) x0_1), (5, .int .i64 x0_2)] [])
theorem s0 (n0 : Nat) (x0_0 : List Int) (x0_1 : List Int) (x0_2 : Int) : V0 k a0 a1 (n0 + 1) x0_0 x0_1 x0_2 = b0 k (V0 k a0 a1 n0) x0_0 x0_1 x0_2 := by kernel_rfl
theorem e0 (n0 : Nat) : V0 k a0 a1 n0 = l0 k n0 := loop_eq (V := V0 k a0 a1) (l := l0 k) rfl (fun n0 => funext fun x0_0 => funext fun x0_1 => funext fun x0_2 => s0 k a0 a1 n0 x0_0 x0_1 x0_2) (fun _ => rfl) n0
end
theorem eq (k : Nat) (a0 : List Int) (a1 : List Int) : run (E k) Tryd.f33 [.val (.slice (.int .i64)), .val (.slice (.int .i64))] [.bool] true false (a0, a1, ()) = f k a0 a1 := (show _ = t k (V0 k a0 a1 k) a0 a1 by kernel_rfl).trans (by rw [e0]; rfl)
theorem ctr (k : Nat) : Ctr J Tryd.prog 33 (C k) :=
  run_ctr (E := E k) mixed tb_ok (eqOk_of tb_eqs) Cts.nil (by kernel_rfl) Tryd.func33 (by kernel_rfl) rfl (fun ⟨a0, a1, _⟩ r h => (eq k a0 a1).trans h)
end laws_eqIntS
namespace laws_eqLive
def C (k : Nat) : Cn := ⟨[.val TLive, .val TLive], [.bool], true, false, fun x => f k x.1 x.2.1⟩
def E (k : Nat) : Env := ⟨tb, [(33, laws_eqIntS.C k)], [], k, 0, []⟩
theorem eq (k : Nat) (a0 : Ty.den TLive) (a1 : Ty.den TLive) : run (E k) Tryd.f20 [.val TLive, .val TLive] [.bool] true false (a0, a1, ()) = f k a0 a1 := by kernel_rfl
theorem ctr (k : Nat) : Ctr J Tryd.prog 20 (C k) :=
  run_ctr (E := E k) mixed tb_ok (eqOk_of tb_eqs) (Cts.cons (laws_eqIntS.ctr k) Cts.nil) (by kernel_rfl) Tryd.func20 (by kernel_rfl) rfl (fun ⟨a0, a1, _⟩ r h => (eq k a0 a1).trans h)
end laws_eqLive
namespace laws_eqEntry
def C (k : Nat) : Cn := ⟨[.val TEntry, .val TEntry], [.bool], true, false, fun x => f k x.1 x.2.1⟩
def E (k : Nat) : Env := ⟨tb, [], [], k, 0, []⟩
theorem eq (k : Nat) (a0 : Ty.den TEntry) (a1 : Ty.den TEntry) : run (E k) Tryd.f34 [.val TEntry, .val TEntry] [.bool] true false (a0, a1, ()) = f k a0 a1 := by kernel_rfl
theorem ctr (k : Nat) : Ctr J Tryd.prog 34 (C k) :=
  run_ctr (E := E k) mixed tb_ok (eqOk_of tb_eqs) Cts.nil (by kernel_rfl) Tryd.func34 (by kernel_rfl) rfl (fun ⟨a0, a1, _⟩ r h => (eq k a0 a1).trans h)
end laws_eqEntry
namespace laws_eqEntryS
def C (k : Nat) : Cn := ⟨[.val (.slice TEntry), .val (.slice TEntry)], [.bool], true, false, fun x => f k x.1 x.2.1⟩
def E (k : Nat) : Env := ⟨tb, [(34, laws_eqEntry.C k)], [(4, [0, 1, 5])], k, 0, []⟩
section
variable (k : Nat) (a0 : List (Ty.den TEntry)) (a1 : List (Ty.den TEntry))
noncomputable def K0 : Ex → St → Option (Bool × Unit) := runK (E k) (endK (E k) Tryd.f21.results.toList [.val (.slice TEntry), .val (.slice TEntry)] (a0, a1, ()) [.bool] true false) [.blk 0, .code (at_ (bt 3 7) (body Tryd.f21))]
noncomputable def V0 (n0 : Nat) (x0_0 : List (Ty.den TEntry)) (x0_1 : List (Ty.den TEntry)) (x0_2 : Int) : Option (Bool × Unit) := loopN (exec (E k) (at_ (bt 6 11) (body Tryd.f21))) (canon 0 [0, 1, 5]) (K0 k a0 a1) n0 (mk 27 0 [(0, .sl true TEntry x0_0), (1, .sl true TEntry x0_1), (5, .int .i64 x0_2)] [])
theorem s0 (n0 : Nat) (x0_0 : List (Ty.den TEntry)) (x0_1 : List (Ty.den TEntry)) (x0_2 : Int) : V0 k a0 a1 (n0 + 1) x0_0 x0_1 x0_2 = b0 k (V0 k a0 a1 n0) x0_0 x0_1 x0_2 := by kernel_rfl
theorem e0 (n0 : Nat) : V0 k a0 a1 n0 = l0 k n0 := loop_eq (V := V0 k a0 a1) (l := l0 k) rfl (fun n0 => funext fun x0_0 => funext fun x0_1 => funext fun x0_2 => s0 k a0 a1 n0 x0_0 x0_1 x0_2) (fun _ => rfl) n0
end
theorem eq (k : Nat) (a0 : List (Ty.den TEntry)) (a1 : List (Ty.den TEntry)) : run (E k) Tryd.f21 [.val (.slice TEntry), .val (.slice TEntry)] [.bool] true false (a0, a1, ()) = f k a0 a1 := (show _ = t k (V0 k a0 a1 k) a0 a1 by kernel_rfl).trans (by rw [e0]; rfl)
theorem ctr (k : Nat) : Ctr J Tryd.prog 21 (C k) :=
  run_ctr (E := E k) mixed tb_ok (eqOk_of tb_eqs) (Cts.cons (laws_eqEntry.ctr k) Cts.nil) (by kernel_rfl) Tryd.func21 (by kernel_rfl) rfl (fun ⟨a0, a1, _⟩ r h => (eq k a0 a1).trans h)
end laws_eqEntryS
namespace laws_eqStore
def C (k : Nat) : Cn := ⟨[.val TStore, .val TStore], [.bool], true, false, fun x => f k x.1 x.2.1⟩
def E (k : Nat) : Env := ⟨tb, [(20, laws_eqLive.C k), (21, laws_eqEntryS.C k)], [], k, 0, []⟩
theorem eq (k : Nat) (a0 : Ty.den TStore) (a1 : Ty.den TStore) : run (E k) Tryd.f10 [.val TStore, .val TStore] [.bool] true false (a0, a1, ()) = f k a0 a1 := by kernel_rfl
theorem ctr (k : Nat) : Ctr J Tryd.prog 10 (C k) :=
  run_ctr (E := E k) mixed tb_ok (eqOk_of tb_eqs) (Cts.cons (laws_eqLive.ctr k) (Cts.cons (laws_eqEntryS.ctr k) Cts.nil)) (by kernel_rfl) Tryd.func10 (by kernel_rfl) rfl (fun ⟨a0, a1, _⟩ r h => (eq k a0 a1).trans h)
end laws_eqStore
namespace laws_eqFile
def C (k : Nat) : Cn := ⟨[.val TFile, .val TFile], [.bool], true, false, fun x => f k x.1 x.2.1⟩
def E (k : Nat) : Env := ⟨tb, [], [], k, 0, []⟩
theorem eq (k : Nat) (a0 : Ty.den TFile) (a1 : Ty.den TFile) : run (E k) Tryd.f35 [.val TFile, .val TFile] [.bool] true false (a0, a1, ()) = f k a0 a1 := by kernel_rfl
theorem ctr (k : Nat) : Ctr J Tryd.prog 35 (C k) :=
  run_ctr (E := E k) mixed tb_ok (eqOk_of tb_eqs) Cts.nil (by kernel_rfl) Tryd.func35 (by kernel_rfl) rfl (fun ⟨a0, a1, _⟩ r h => (eq k a0 a1).trans h)
end laws_eqFile
namespace laws_eqFileS
def C (k : Nat) : Cn := ⟨[.val (.slice TFile), .val (.slice TFile)], [.bool], true, false, fun x => f k x.1 x.2.1⟩
def E (k : Nat) : Env := ⟨tb, [(35, laws_eqFile.C k)], [(4, [0, 1, 5])], k, 0, []⟩
section
variable (k : Nat) (a0 : List (Ty.den TFile)) (a1 : List (Ty.den TFile))
noncomputable def K0 : Ex → St → Option (Bool × Unit) := runK (E k) (endK (E k) Tryd.f22.results.toList [.val (.slice TFile), .val (.slice TFile)] (a0, a1, ()) [.bool] true false) [.blk 0, .code (at_ (bt 3 7) (body Tryd.f22))]
noncomputable def V0 (n0 : Nat) (x0_0 : List (Ty.den TFile)) (x0_1 : List (Ty.den TFile)) (x0_2 : Int) : Option (Bool × Unit) := loopN (exec (E k) (at_ (bt 6 11) (body Tryd.f22))) (canon 0 [0, 1, 5]) (K0 k a0 a1) n0 (mk 27 0 [(0, .sl true TFile x0_0), (1, .sl true TFile x0_1), (5, .int .i64 x0_2)] [])
theorem s0 (n0 : Nat) (x0_0 : List (Ty.den TFile)) (x0_1 : List (Ty.den TFile)) (x0_2 : Int) : V0 k a0 a1 (n0 + 1) x0_0 x0_1 x0_2 = b0 k (V0 k a0 a1 n0) x0_0 x0_1 x0_2 := by kernel_rfl
theorem e0 (n0 : Nat) : V0 k a0 a1 n0 = l0 k n0 := loop_eq (V := V0 k a0 a1) (l := l0 k) rfl (fun n0 => funext fun x0_0 => funext fun x0_1 => funext fun x0_2 => s0 k a0 a1 n0 x0_0 x0_1 x0_2) (fun _ => rfl) n0
end
theorem eq (k : Nat) (a0 : List (Ty.den TFile)) (a1 : List (Ty.den TFile)) : run (E k) Tryd.f22 [.val (.slice TFile), .val (.slice TFile)] [.bool] true false (a0, a1, ()) = f k a0 a1 := (show _ = t k (V0 k a0 a1 k) a0 a1 by kernel_rfl).trans (by rw [e0]; rfl)
theorem ctr (k : Nat) : Ctr J Tryd.prog 22 (C k) :=
  run_ctr (E := E k) mixed tb_ok (eqOk_of tb_eqs) (Cts.cons (laws_eqFile.ctr k) Cts.nil) (by kernel_rfl) Tryd.func22 (by kernel_rfl) rfl (fun ⟨a0, a1, _⟩ r h => (eq k a0 a1).trans h)
end laws_eqFileS
namespace laws_eqDisk
def C (k : Nat) : Cn := ⟨[.val TDisk, .val TDisk], [.bool], true, false, fun x => f k x.1 x.2.1⟩
def E (k : Nat) : Env := ⟨tb, [(22, laws_eqFileS.C k)], [], k, 0, []⟩
theorem eq (k : Nat) (a0 : Ty.den TDisk) (a1 : Ty.den TDisk) : run (E k) Tryd.f11 [.val TDisk, .val TDisk] [.bool] true false (a0, a1, ()) = f k a0 a1 := by kernel_rfl
theorem ctr (k : Nat) : Ctr J Tryd.prog 11 (C k) :=
  run_ctr (E := E k) mixed tb_ok (eqOk_of tb_eqs) (Cts.cons (laws_eqFileS.ctr k) Cts.nil) (by kernel_rfl) Tryd.func11 (by kernel_rfl) rfl (fun ⟨a0, a1, _⟩ r h => (eq k a0 a1).trans h)
end laws_eqDisk
namespace laws_FnExactDeadBytes
def C (k : Nat) : Cn := ⟨[.val TStore, .val TDisk], [.bool], true, false, fun x => f k x.1 x.2.1⟩
def E (k : Nat) : Env := ⟨tb, [(4, laws_szStore.C k), (5, laws_szDisk.C k), (7, laws_toStore.C k), (8, laws_toDisk.C k), (6, spec_DeadBytes.C k), (9, impl_DeadBytes.C k), (10, laws_eqStore.C k), (11, laws_eqDisk.C k)], [], k, 0, []⟩
theorem eq (k : Nat) (a0 : Ty.den TStore) (a1 : Ty.den TDisk) : run (E k) Tryd.f3 [.val TStore, .val TDisk] [.bool] true false (a0, a1, ()) = f k a0 a1 := by kernel_rfl
theorem ctr (k : Nat) : Ctr J Tryd.prog 3 (C k) :=
  run_ctr (E := E k) mixed tb_ok (eqOk_of tb_eqs) (Cts.cons (laws_szStore.ctr k) (Cts.cons (laws_szDisk.ctr k) (Cts.cons (laws_toStore.ctr k) (Cts.cons (laws_toDisk.ctr k) (Cts.cons (spec_DeadBytes.ctr k) (Cts.cons (impl_DeadBytes.ctr k) (Cts.cons (laws_eqStore.ctr k) (Cts.cons (laws_eqDisk.ctr k) Cts.nil)))))))) (by kernel_rfl) Tryd.func3 (by kernel_rfl) rfl (fun ⟨a0, a1, _⟩ r h => (eq k a0 a1).trans h)
end laws_FnExactDeadBytes
end Go.Proofs.YtgcahahklmfleaaDoor.G

/- Functions keep their contracts. -/
import Derived.Test.YtgcahahklmfleaaGreatDoorVTab
import Derived.Test.YtgcahahklmfleaaGreatDoorFA
import Derived.Test.YtgcahahklmfleaaGreatDoorCLib
set_option linter.unusedVariables false
set_option maxRecDepth 100000
namespace Go.Proofs.YtgcahahklmfleaaGreatDoor.G
open Go.V
namespace laws_szIntS
def C (k : Nat) : Cn := ⟨[.val (.slice (.int .i64)), .val (.int .i64)], [(.int .i64)], true, false, fun x => f k x.1 x.2.1⟩
def E (k : Nat) : Env := ⟨tb, [], [], k, 0, []⟩
theorem eq (k : Nat) (a0 : List Int) (a1 : Int) : run (E k) Tryz.f104 [.val (.slice (.int .i64)), .val (.int .i64)] [(.int .i64)] true false (a0, a1, ()) = f k a0 a1 := by kernel_rfl
theorem ctr (k : Nat) : Ctr J Tryz.prog 104 (C k) :=
  run_ctr (E := E k) mixed tb_ok (eqOk_of tb_eqs) Cts.nil (by kernel_rfl) Tryz.func104 (by kernel_rfl) rfl (fun ⟨a0, a1, _⟩ r h => (eq k a0 a1).trans h)
end laws_szIntS
namespace laws_szLive
def C (k : Nat) : Cn := ⟨[.val TLive, .val (.int .i64)], [(.int .i64)], true, false, fun x => f k x.1 x.2.1⟩
def E (k : Nat) : Env := ⟨tb, [(104, laws_szIntS.C k)], [], k, 0, []⟩
theorem eq (k : Nat) (a0 : Ty.den TLive) (a1 : Int) : run (E k) Tryz.f43 [.val TLive, .val (.int .i64)] [(.int .i64)] true false (a0, a1, ()) = f k a0 a1 := by kernel_rfl
theorem ctr (k : Nat) : Ctr J Tryz.prog 43 (C k) :=
  run_ctr (E := E k) mixed tb_ok (eqOk_of tb_eqs) (Cts.cons (laws_szIntS.ctr k) Cts.nil) (by kernel_rfl) Tryz.func43 (by kernel_rfl) rfl (fun ⟨a0, a1, _⟩ r h => (eq k a0 a1).trans h)
end laws_szLive
namespace laws_szEntry
def C (k : Nat) : Cn := ⟨[.val TEntry, .val (.int .i64)], [(.int .i64)], true, false, fun x => f k x.1 x.2.1⟩
def E (k : Nat) : Env := ⟨tb, [], [], k, 0, []⟩
theorem eq (k : Nat) (a0 : Ty.den TEntry) (a1 : Int) : run (E k) Tryz.f105 [.val TEntry, .val (.int .i64)] [(.int .i64)] true false (a0, a1, ()) = f k a0 a1 := by kernel_rfl
theorem ctr (k : Nat) : Ctr J Tryz.prog 105 (C k) :=
  run_ctr (E := E k) mixed tb_ok (eqOk_of tb_eqs) Cts.nil (by kernel_rfl) Tryz.func105 (by kernel_rfl) rfl (fun ⟨a0, a1, _⟩ r h => (eq k a0 a1).trans h)
end laws_szEntry
namespace laws_szEntryS
def C (k : Nat) : Cn := ⟨[.val (.slice TEntry), .val (.int .i64)], [(.int .i64)], true, false, fun x => f k x.1 x.2.1⟩
def E (k : Nat) : Env := ⟨tb, [(105, laws_szEntry.C k)], [(5, [0, 1, 5])], k, 0, []⟩
section
variable (k : Nat) (a0 : List (Ty.den TEntry)) (a1 : Int)
noncomputable def K0 : Ex → St → Option (Int × Unit) := runK (E k) (endK (E k) Tryz.f44.results.toList [.val (.slice TEntry), .val (.int .i64)] (a0, a1, ()) [(.int .i64)] true false) [.blk 0, .code (at_ (bt 4 15) (body Tryz.f44))]
noncomputable def V0 (n0 : Nat) (x0_0 : List (Ty.den TEntry)) (x0_1 : Int) (x0_2 : Int) : Option (Int × Unit) := loopN (exec (E k) (at_ (bt 7 23) (body Tryz.f44))) (canon 0 [0, 1, 5]) (K0 k a0 a1) n0 (mk 27 0 [(0, .sl true TEntry x0_0), (1, .int .i64 x0_1), (5, .int .i64 x0_2)] [])
theorem s0 (n0 : Nat) (x0_0 : List (Ty.den TEntry)) (x0_1 : Int) (x0_2 : Int) : V0 k a0 a1 (n0 + 1) x0_0 x0_1 x0_2 = b0 k (V0 k a0 a1 n0) x0_0 x0_1 x0_2 := by kernel_rfl
theorem e0 (n0 : Nat) : V0 k a0 a1 n0 = l0 k n0 := loop_eq (V := V0 k a0 a1) (l := l0 k) rfl (fun n0 => funext fun x0_0 => funext fun x0_1 => funext fun x0_2 => s0 k a0 a1 n0 x0_0 x0_1 x0_2) (fun _ => rfl) n0
end
theorem eq (k : Nat) (a0 : List (Ty.den TEntry)) (a1 : Int) : run (E k) Tryz.f44 [.val (.slice TEntry), .val (.int .i64)] [(.int .i64)] true false (a0, a1, ()) = f k a0 a1 := (show _ = t k (V0 k a0 a1 k) a0 a1 by kernel_rfl).trans (by rw [e0]; rfl)
theorem ctr (k : Nat) : Ctr J Tryz.prog 44 (C k) :=
  run_ctr (E := E k) mixed tb_ok (eqOk_of tb_eqs) (Cts.cons (laws_szEntry.ctr k) Cts.nil) (by kernel_rfl) Tryz.func44 (by kernel_rfl) rfl (fun ⟨a0, a1, _⟩ r h => (eq k a0 a1).trans h)
end laws_szEntryS
namespace laws_szStore
def C (k : Nat) : Cn := ⟨[.val TStore, .val (.int .i64)], [(.int .i64)], true, false, fun x => f k x.1 x.2.1⟩
def E (k : Nat) : Env := ⟨tb, [(43, laws_szLive.C k), (44, laws_szEntryS.C k)], [], k, 0, []⟩
theorem eq (k : Nat) (a0 : Ty.den TStore) (a1 : Int) : run (E k) Tryz.f9 [.val TStore, .val (.int .i64)] [(.int .i64)] true false (a0, a1, ()) = f k a0 a1 := by kernel_rfl
theorem ctr (k : Nat) : Ctr J Tryz.prog 9 (C k) :=
  run_ctr (E := E k) mixed tb_ok (eqOk_of tb_eqs) (Cts.cons (laws_szLive.ctr k) (Cts.cons (laws_szEntryS.ctr k) Cts.nil)) (by kernel_rfl) Tryz.func9 (by kernel_rfl) rfl (fun ⟨a0, a1, _⟩ r h => (eq k a0 a1).trans h)
end laws_szStore
namespace laws_szFile
def C (k : Nat) : Cn := ⟨[.val TPair, .val (.int .i64)], [(.int .i64)], true, false, fun x => f k x.1 x.2.1⟩
def E (k : Nat) : Env := ⟨tb, [], [], k, 0, []⟩
theorem eq (k : Nat) (a0 : Ty.den TPair) (a1 : Int) : run (E k) Tryz.f106 [.val TPair, .val (.int .i64)] [(.int .i64)] true false (a0, a1, ()) = f k a0 a1 := by kernel_rfl
theorem ctr (k : Nat) : Ctr J Tryz.prog 106 (C k) :=
  run_ctr (E := E k) mixed tb_ok (eqOk_of tb_eqs) Cts.nil (by kernel_rfl) Tryz.func106 (by kernel_rfl) rfl (fun ⟨a0, a1, _⟩ r h => (eq k a0 a1).trans h)
end laws_szFile
namespace laws_szFileS
def C (k : Nat) : Cn := ⟨[.val (.slice TPair), .val (.int .i64)], [(.int .i64)], true, false, fun x => f k x.1 x.2.1⟩
def E (k : Nat) : Env := ⟨tb, [(106, laws_szFile.C k)], [(5, [0, 1, 5])], k, 0, []⟩
section
variable (k : Nat) (a0 : List (Ty.den TPair)) (a1 : Int)
noncomputable def K0 : Ex → St → Option (Int × Unit) := runK (E k) (endK (E k) Tryz.f45.results.toList [.val (.slice TPair), .val (.int .i64)] (a0, a1, ()) [(.int .i64)] true false) [.blk 0, .code (at_ (bt 4 15) (body Tryz.f45))]
noncomputable def V0 (n0 : Nat) (x0_0 : List (Ty.den TPair)) (x0_1 : Int) (x0_2 : Int) : Option (Int × Unit) := loopN (exec (E k) (at_ (bt 7 23) (body Tryz.f45))) (canon 0 [0, 1, 5]) (K0 k a0 a1) n0 (mk 27 0 [(0, .sl true TPair x0_0), (1, .int .i64 x0_1), (5, .int .i64 x0_2)] [])
theorem s0 (n0 : Nat) (x0_0 : List (Ty.den TPair)) (x0_1 : Int) (x0_2 : Int) : V0 k a0 a1 (n0 + 1) x0_0 x0_1 x0_2 = b0 k (V0 k a0 a1 n0) x0_0 x0_1 x0_2 := by kernel_rfl
theorem e0 (n0 : Nat) : V0 k a0 a1 n0 = l0 k n0 := loop_eq (V := V0 k a0 a1) (l := l0 k) rfl (fun n0 => funext fun x0_0 => funext fun x0_1 => funext fun x0_2 => s0 k a0 a1 n0 x0_0 x0_1 x0_2) (fun _ => rfl) n0
end
theorem eq (k : Nat) (a0 : List (Ty.den TPair)) (a1 : Int) : run (E k) Tryz.f45 [.val (.slice TPair), .val (.int .i64)] [(.int .i64)] true false (a0, a1, ()) = f k a0 a1 := (show _ = t k (V0 k a0 a1 k) a0 a1 by kernel_rfl).trans (by rw [e0]; rfl)
theorem ctr (k : Nat) : Ctr J Tryz.prog 45 (C k) :=
  run_ctr (E := E k) mixed tb_ok (eqOk_of tb_eqs) (Cts.cons (laws_szFile.ctr k) Cts.nil) (by kernel_rfl) Tryz.func45 (by kernel_rfl) rfl (fun ⟨a0, a1, _⟩ r h => (eq k a0 a1).trans h)
end laws_szFileS
namespace laws_szDisk
def C (k : Nat) : Cn := ⟨[.val TDisk, .val (.int .i64)], [(.int .i64)], true, false, fun x => f k x.1 x.2.1⟩
def E (k : Nat) : Env := ⟨tb, [(45, laws_szFileS.C k)], [], k, 0, []⟩
theorem eq (k : Nat) (a0 : Ty.den TDisk) (a1 : Int) : run (E k) Tryz.f10 [.val TDisk, .val (.int .i64)] [(.int .i64)] true false (a0, a1, ()) = f k a0 a1 := by kernel_rfl
theorem ctr (k : Nat) : Ctr J Tryz.prog 10 (C k) :=
  run_ctr (E := E k) mixed tb_ok (eqOk_of tb_eqs) (Cts.cons (laws_szFileS.ctr k) Cts.nil) (by kernel_rfl) Tryz.func10 (by kernel_rfl) rfl (fun ⟨a0, a1, _⟩ r h => (eq k a0 a1).trans h)
end laws_szDisk
namespace laws_toIntS
def C (k : Nat) : Cn := ⟨[.val (.slice (.int .i64))], [(.slice (.int .i64))], true, false, fun x => f k x.1⟩
def E (k : Nat) : Env := ⟨tb, [], [(3, [0, 3, 4])], k, 0, []⟩
section
variable (k : Nat) (a0 : List Int)
noncomputable def K0 : Ex → St → Option ((List Int) × Unit) := runK (E k) (endK (E k) Tryz.f115.results.toList [.val (.slice (.int .i64))] (a0, ()) [(.slice (.int .i64))] true false) [.blk 0, .code (at_ (bt 3 7) (body Tryz.f115))]
noncomputable def V0 (n0 : Nat) (x0_0 : List Int) (x0_1 : Int) (x0_2 : List Int) : Option ((List Int) × Unit) := loopN (exec (E k) (at_ (bt 6 11) (body Tryz.f115))) (canon 0 [0, 3, 4]) (K0 k a0) n0 (mk 22 1 [(0, .sl true (.int .i64) x0_0), (3, .ref 0), (4, .int .i64 x0_1)] [(0, .own false (.int .i64) x0_2)])
theorem s0 (n0 : Nat) (x0_0 : List Int) (x0_1 : Int) (x0_2 : List Int) : V0 k a0 (n0 + 1) x0_0 x0_1 x0_2 = b0 k (V0 k a0 n0) x0_0 x0_1 x0_2 := by kernel_rfl
theorem e0 (n0 : Nat) : V0 k a0 n0 = l0 k n0 := loop_eq (V := V0 k a0) (l := l0 k) rfl (fun n0 => funext fun x0_0 => funext fun x0_1 => funext fun x0_2 => s0 k a0 n0 x0_0 x0_1 x0_2) (fun _ => rfl) n0
end
theorem eq (k : Nat) (a0 : List Int) : run (E k) Tryz.f115 [.val (.slice (.int .i64))] [(.slice (.int .i64))] true false (a0, ()) = f k a0 := (show _ = t k (V0 k a0 k) a0 by kernel_rfl).trans (by rw [e0]; rfl)
theorem ctr (k : Nat) : Ctr J Tryz.prog 115 (C k) :=
  run_ctr (E := E k) mixed tb_ok (eqOk_of tb_eqs) Cts.nil (by kernel_rfl) Tryz.func115 (by kernel_rfl) rfl (fun ⟨a0, _⟩ r h => (eq k a0).trans h)
end laws_toIntS
namespace laws_toLive
def C (k : Nat) : Cn := ⟨[.val TLive], [TLive], true, false, fun x => f k x.1⟩
def E (k : Nat) : Env := ⟨tb, [(115, laws_toIntS.C k)], [], k, 0, []⟩
theorem eq (k : Nat) (a0 : Ty.den TLive) : run (E k) Tryz.f50 [.val TLive] [TLive] true false (a0, ()) = f k a0 := by kernel_rfl
theorem ctr (k : Nat) : Ctr J Tryz.prog 50 (C k) :=
  run_ctr (E := E k) mixed tb_ok (eqOk_of tb_eqs) (Cts.cons (laws_toIntS.ctr k) Cts.nil) (by kernel_rfl) Tryz.func50 (by kernel_rfl) rfl (fun ⟨a0, _⟩ r h => (eq k a0).trans h)
end laws_toLive
namespace laws_toEntry
def C (k : Nat) : Cn := ⟨[.val TEntry], [TEntry], true, false, fun x => f k x.1⟩
def E (k : Nat) : Env := ⟨tb, [], [], k, 0, []⟩
theorem eq (k : Nat) (a0 : Ty.den TEntry) : run (E k) Tryz.f116 [.val TEntry] [TEntry] true false (a0, ()) = f k a0 := by kernel_rfl
theorem ctr (k : Nat) : Ctr J Tryz.prog 116 (C k) :=
  run_ctr (E := E k) mixed tb_ok (eqOk_of tb_eqs) Cts.nil (by kernel_rfl) Tryz.func116 (by kernel_rfl) rfl (fun ⟨a0, _⟩ r h => (eq k a0).trans h)
end laws_toEntry
namespace laws_toEntryS
def C (k : Nat) : Cn := ⟨[.val (.slice TEntry)], [(.slice TEntry)], true, false, fun x => f k x.1⟩
def E (k : Nat) : Env := ⟨tb, [(116, laws_toEntry.C k)], [(3, [0, 3, 4])], k, 0, []⟩
section
variable (k : Nat) (a0 : List (Ty.den TEntry))
noncomputable def K0 : Ex → St → Option ((List (Ty.den TEntry)) × Unit) := runK (E k) (endK (E k) Tryz.f51.results.toList [.val (.slice TEntry)] (a0, ()) [(.slice TEntry)] true false) [.blk 0, .code (at_ (bt 3 7) (body Tryz.f51))]
noncomputable def V0 (n0 : Nat) (x0_0 : List (Ty.den TEntry)) (x0_1 : Int) (x0_2 : List (Ty.den TEntry)) : Option ((List (Ty.den TEntry)) × Unit) := loopN (exec (E k) (at_ (bt 6 11) (body Tryz.f51))) (canon 0 [0, 3, 4]) (K0 k a0) n0 (mk 23 1 [(0, .sl true TEntry x0_0), (3, .ref 0), (4, .int .i64 x0_1)] [(0, .own false TEntry x0_2)])
theorem s0 (n0 : Nat) (x0_0 : List (Ty.den TEntry)) (x0_1 : Int) (x0_2 : List (Ty.den TEntry)) : V0 k a0 (n0 + 1) x0_0 x0_1 x0_2 = b0 k (V0 k a0 n0) x0_0 x0_1 x0_2 := by kernel_rfl
theorem e0 (n0 : Nat) : V0 k a0 n0 = l0 k n0 := loop_eq (V := V0 k a0) (l := l0 k) rfl (fun n0 => funext fun x0_0 => funext fun x0_1 => funext fun x0_2 => s0 k a0 n0 x0_0 x0_1 x0_2) (fun _ => rfl) n0
end
theorem eq (k : Nat) (a0 : List (Ty.den TEntry)) : run (E k) Tryz.f51 [.val (.slice TEntry)] [(.slice TEntry)] true false (a0, ()) = f k a0 := (show _ = t k (V0 k a0 k) a0 by kernel_rfl).trans (by rw [e0]; rfl)
theorem ctr (k : Nat) : Ctr J Tryz.prog 51 (C k) :=
  run_ctr (E := E k) mixed tb_ok (eqOk_of tb_eqs) (Cts.cons (laws_toEntry.ctr k) Cts.nil) (by kernel_rfl) Tryz.func51 (by kernel_rfl) rfl (fun ⟨a0, _⟩ r h => (eq k a0).trans h)
end laws_toEntryS
namespace laws_toStore
def C (k : Nat) : Cn := ⟨[.val TStore], [TStore], true, false, fun x => f k x.1⟩
def E (k : Nat) : Env := ⟨tb, [(50, laws_toLive.C k), (51, laws_toEntryS.C k)], [], k, 0, []⟩
theorem eq (k : Nat) (a0 : Ty.den TStore) : run (E k) Tryz.f12 [.val TStore] [TStore] true false (a0, ()) = f k a0 := by kernel_rfl
theorem ctr (k : Nat) : Ctr J Tryz.prog 12 (C k) :=
  run_ctr (E := E k) mixed tb_ok (eqOk_of tb_eqs) (Cts.cons (laws_toLive.ctr k) (Cts.cons (laws_toEntryS.ctr k) Cts.nil)) (by kernel_rfl) Tryz.func12 (by kernel_rfl) rfl (fun ⟨a0, _⟩ r h => (eq k a0).trans h)
end laws_toStore
namespace laws_toFile
def C (k : Nat) : Cn := ⟨[.val TPair], [TPair], true, false, fun x => f k x.1⟩
def E (k : Nat) : Env := ⟨tb, [], [], k, 0, []⟩
theorem eq (k : Nat) (a0 : Ty.den TPair) : run (E k) Tryz.f117 [.val TPair] [TPair] true false (a0, ()) = f k a0 := by kernel_rfl
theorem ctr (k : Nat) : Ctr J Tryz.prog 117 (C k) :=
  run_ctr (E := E k) mixed tb_ok (eqOk_of tb_eqs) Cts.nil (by kernel_rfl) Tryz.func117 (by kernel_rfl) rfl (fun ⟨a0, _⟩ r h => (eq k a0).trans h)
end laws_toFile
namespace laws_toFileS
def C (k : Nat) : Cn := ⟨[.val (.slice TPair)], [(.slice TPair)], true, false, fun x => f k x.1⟩
def E (k : Nat) : Env := ⟨tb, [(117, laws_toFile.C k)], [(3, [0, 3, 4])], k, 0, []⟩
section
variable (k : Nat) (a0 : List (Ty.den TPair))
noncomputable def K0 : Ex → St → Option ((List (Ty.den TPair)) × Unit) := runK (E k) (endK (E k) Tryz.f52.results.toList [.val (.slice TPair)] (a0, ()) [(.slice TPair)] true false) [.blk 0, .code (at_ (bt 3 7) (body Tryz.f52))]
noncomputable def V0 (n0 : Nat) (x0_0 : List (Ty.den TPair)) (x0_1 : Int) (x0_2 : List (Ty.den TPair)) : Option ((List (Ty.den TPair)) × Unit) := loopN (exec (E k) (at_ (bt 6 11) (body Tryz.f52))) (canon 0 [0, 3, 4]) (K0 k a0) n0 (mk 23 1 [(0, .sl true TPair x0_0), (3, .ref 0), (4, .int .i64 x0_1)] [(0, .own false TPair x0_2)])
theorem s0 (n0 : Nat) (x0_0 : List (Ty.den TPair)) (x0_1 : Int) (x0_2 : List (Ty.den TPair)) : V0 k a0 (n0 + 1) x0_0 x0_1 x0_2 = b0 k (V0 k a0 n0) x0_0 x0_1 x0_2 := by kernel_rfl
theorem e0 (n0 : Nat) : V0 k a0 n0 = l0 k n0 := loop_eq (V := V0 k a0) (l := l0 k) rfl (fun n0 => funext fun x0_0 => funext fun x0_1 => funext fun x0_2 => s0 k a0 n0 x0_0 x0_1 x0_2) (fun _ => rfl) n0
end
theorem eq (k : Nat) (a0 : List (Ty.den TPair)) : run (E k) Tryz.f52 [.val (.slice TPair)] [(.slice TPair)] true false (a0, ()) = f k a0 := (show _ = t k (V0 k a0 k) a0 by kernel_rfl).trans (by rw [e0]; rfl)
theorem ctr (k : Nat) : Ctr J Tryz.prog 52 (C k) :=
  run_ctr (E := E k) mixed tb_ok (eqOk_of tb_eqs) (Cts.cons (laws_toFile.ctr k) Cts.nil) (by kernel_rfl) Tryz.func52 (by kernel_rfl) rfl (fun ⟨a0, _⟩ r h => (eq k a0).trans h)
end laws_toFileS
namespace laws_toDisk
def C (k : Nat) : Cn := ⟨[.val TDisk], [TDisk], true, false, fun x => f k x.1⟩
def E (k : Nat) : Env := ⟨tb, [(52, laws_toFileS.C k)], [], k, 0, []⟩
theorem eq (k : Nat) (a0 : Ty.den TDisk) : run (E k) Tryz.f13 [.val TDisk] [TDisk] true false (a0, ()) = f k a0 := by kernel_rfl
theorem ctr (k : Nat) : Ctr J Tryz.prog 13 (C k) :=
  run_ctr (E := E k) mixed tb_ok (eqOk_of tb_eqs) (Cts.cons (laws_toFileS.ctr k) Cts.nil) (by kernel_rfl) Tryz.func13 (by kernel_rfl) rfl (fun ⟨a0, _⟩ r h => (eq k a0).trans h)
end laws_toDisk
namespace spec_DirGet
def C (k : Nat) : Cn := ⟨[.val (.slice TEntry), .val .str], [TEntry, .bool], true, false, fun x => f k x.1 x.2.1⟩
def E (k : Nat) : Env := ⟨tb, [], [(2, [0, 1, 4, 6])], k, 0, []⟩
section
variable (k : Nat) (a0 : List (Ty.den TEntry)) (a1 : ByteArray)
noncomputable def K0 : Ex → St → Option ((Ty.den TEntry) × Bool × Unit) := runK (E k) (endK (E k) Tryz.f65.results.toList [.val (.slice TEntry), .val .str] (a0, a1, ()) [TEntry, .bool] true false) [.blk 0, .code (at_ (bt 2 3) (body Tryz.f65))]
noncomputable def V0 (n0 : Nat) (x0_0 : List (Ty.den TEntry)) (x0_1 : ByteArray) (x0_2 : Int) (x0_3 : ByteArray) (x0_4 : Int) (x0_5 : Int) (x0_6 : Int) (x0_7 : Int) : Option ((Ty.den TEntry) × Bool × Unit) := loopN (exec (E k) (at_ (bt 5 5) (body Tryz.f65))) (canon 0 [0, 1, 4, 6]) (K0 k a0 a1) n0 (mk 25 1 [(0, .sl true TEntry x0_0), (1, .str x0_1), (4, .ptr 0 0 0), (6, .int .i64 x0_2)] [(0, .box [.str x0_3, .int .i64 x0_4, .int .i64 x0_5, .int .i64 x0_6, .int .i64 x0_7])])
theorem s0 (n0 : Nat) (x0_0 : List (Ty.den TEntry)) (x0_1 : ByteArray) (x0_2 : Int) (x0_3 : ByteArray) (x0_4 : Int) (x0_5 : Int) (x0_6 : Int) (x0_7 : Int) : V0 k a0 a1 (n0 + 1) x0_0 x0_1 x0_2 x0_3 x0_4 x0_5 x0_6 x0_7 = b0 k (V0 k a0 a1 n0) x0_0 x0_1 x0_2 x0_3 x0_4 x0_5 x0_6 x0_7 := by kernel_rfl
theorem e0 (n0 : Nat) : V0 k a0 a1 n0 = l0 k n0 := loop_eq (V := V0 k a0 a1) (l := l0 k) rfl (fun n0 => funext fun x0_0 => funext fun x0_1 => funext fun x0_2 => funext fun x0_3 => funext fun x0_4 => funext fun x0_5 => funext fun x0_6 => funext fun x0_7 => s0 k a0 a1 n0 x0_0 x0_1 x0_2 x0_3 x0_4 x0_5 x0_6 x0_7) (fun _ => rfl) n0
end
theorem eq (k : Nat) (a0 : List (Ty.den TEntry)) (a1 : ByteArray) : run (E k) Tryz.f65 [.val (.slice TEntry), .val .str] [TEntry, .bool] true false (a0, a1, ()) = f k a0 a1 := (show _ = t k (V0 k a0 a1 k) a0 a1 by kernel_rfl).trans (by rw [e0]; rfl)
theorem ctr (k : Nat) : Ctr J Tryz.prog 65 (C k) :=
  run_ctr (E := E k) mixed tb_ok (eqOk_of tb_eqs) Cts.nil (by kernel_rfl) Tryz.func65 (by kernel_rfl) rfl (fun ⟨a0, a1, _⟩ r h => (eq k a0 a1).trans h)
end spec_DirGet
namespace spec_l1In
def C (k : Nat) : Cn := ⟨[.val (.int .i64), .val (.int .i64), .val (.int .i64)], [.bool], true, false, fun x => f k x.1 x.2.1 x.2.2.1⟩
def E (k : Nat) : Env := ⟨tb, [], [], k, 0, []⟩
theorem eq (k : Nat) (a0 : Int) (a1 : Int) (a2 : Int) : run (E k) Tryz.f60 [.val (.int .i64), .val (.int .i64), .val (.int .i64)] [.bool] true false (a0, a1, a2, ()) = f k a0 a1 a2 := by kernel_rfl
theorem ctr (k : Nat) : Ctr J Tryz.prog 60 (C k) :=
  run_ctr (E := E k) mixed tb_ok (eqOk_of tb_eqs) Cts.nil (by kernel_rfl) Tryz.func60 (by kernel_rfl) rfl (fun ⟨a0, a1, a2, _⟩ r h => (eq k a0 a1 a2).trans h)
end spec_l1In
namespace spec_Dec
def C (k : Nat) : Cn := ⟨[.val (.int .i64)], [.str], true, false, fun x => f k x.1⟩
def E (k : Nat) : Env := ⟨tb, [], [(5, [0, 3, 4])], k, 0, []⟩
section
variable (k : Nat) (a0 : Int)
noncomputable def K0 : Ex → St → Option (ByteArray × Unit) := runK (E k) (endK (E k) Tryz.f136.results.toList [.val (.int .i64)] (a0, ()) [.str] true false) [.blk 0, .code (at_ (bt 5 31) (body Tryz.f136))]
noncomputable def V0 (n0 : Nat) (x0_0 : Int) (x0_1 : ByteArray) (x0_2 : Bool) : Option (ByteArray × Unit) := loopN (exec (E k) (at_ (bt 7 15) (body Tryz.f136))) (canon 0 [0, 3, 4]) (K0 k a0) n0 (mk 31 0 [(0, .int .i64 x0_0), (3, .str x0_1), (4, .bool x0_2)] [])
theorem s0 (n0 : Nat) (x0_0 : Int) (x0_1 : ByteArray) (x0_2 : Bool) : V0 k a0 (n0 + 1) x0_0 x0_1 x0_2 = b0 k (V0 k a0 n0) x0_0 x0_1 x0_2 := by kernel_rfl
theorem e0 (n0 : Nat) : V0 k a0 n0 = l0 k n0 := loop_eq (V := V0 k a0) (l := l0 k) rfl (fun n0 => funext fun x0_0 => funext fun x0_1 => funext fun x0_2 => s0 k a0 n0 x0_0 x0_1 x0_2) (fun _ => rfl) n0
end
theorem eq (k : Nat) (a0 : Int) : run (E k) Tryz.f136 [.val (.int .i64)] [.str] true false (a0, ()) = f k a0 := (show _ = t k (V0 k a0 k) a0 by kernel_rfl).trans (by rw [e0]; rfl)
theorem ctr (k : Nat) : Ctr J Tryz.prog 136 (C k) :=
  run_ctr (E := E k) mixed tb_ok (eqOk_of tb_eqs) Cts.nil (by kernel_rfl) Tryz.func136 (by kernel_rfl) rfl (fun ⟨a0, _⟩ r h => (eq k a0).trans h)
end spec_Dec
namespace spec_SegName
def C (k : Nat) : Cn := ⟨[.val (.int .i64)], [.str], true, false, fun x => f k x.1⟩
def E (k : Nat) : Env := ⟨tb, [(60, spec_l1In.C k), (136, spec_Dec.C k)], [], k, 0, []⟩
theorem eq (k : Nat) (a0 : Int) : run (E k) Tryz.f80 [.val (.int .i64)] [.str] true false (a0, ()) = f k a0 := by kernel_rfl
theorem ctr (k : Nat) : Ctr J Tryz.prog 80 (C k) :=
  run_ctr (E := E k) mixed tb_ok (eqOk_of tb_eqs) (Cts.cons (spec_l1In.ctr k) (Cts.cons (spec_Dec.ctr k) Cts.nil)) (by kernel_rfl) Tryz.func80 (by kernel_rfl) rfl (fun ⟨a0, _⟩ r h => (eq k a0).trans h)
end spec_SegName
namespace spec_l3Used
def C (k : Nat) : Cn := ⟨[.val TDisk], [(.int .i64)], true, false, fun x => f k x.1⟩
def E (k : Nat) : Env := ⟨tb, [], [(3, [1, 3, 4])], k, 0, []⟩
section
variable (k : Nat) (a0 : Ty.den TDisk)
noncomputable def K0 : Ex → St → Option (Int × Unit) := runK (E k) (endK (E k) Tryz.f156.results.toList [.val TDisk] (a0, ()) [(.int .i64)] true false) [.blk 0, .code (at_ (bt 3 7) (body Tryz.f156))]
noncomputable def V0 (n0 : Nat) (x0_0 : Int) (x0_1 : Int) (x0_2 : List (Ty.den TPair)) (x0_3 : Int) (x0_4 : Int) (x0_5 : Bool) : Option (Int × Unit) := loopN (exec (E k) (at_ (bt 6 11) (body Tryz.f156))) (canon 0 [1, 3, 4]) (K0 k a0) n0 (mk 22 1 [(1, .ptr 0 0 0), (3, .int .i64 x0_0), (4, .int .i64 x0_1)] [(0, .box [.sl true TPair x0_2, .int .i64 x0_3, .int .i64 x0_4, .bool x0_5])])
theorem s0 (n0 : Nat) (x0_0 : Int) (x0_1 : Int) (x0_2 : List (Ty.den TPair)) (x0_3 : Int) (x0_4 : Int) (x0_5 : Bool) : V0 k a0 (n0 + 1) x0_0 x0_1 x0_2 x0_3 x0_4 x0_5 = b0 k (V0 k a0 n0) x0_0 x0_1 x0_2 x0_3 x0_4 x0_5 := by kernel_rfl
theorem e0 (n0 : Nat) : V0 k a0 n0 = l0 k n0 := loop_eq (V := V0 k a0) (l := l0 k) rfl (fun n0 => funext fun x0_0 => funext fun x0_1 => funext fun x0_2 => funext fun x0_3 => funext fun x0_4 => funext fun x0_5 => s0 k a0 n0 x0_0 x0_1 x0_2 x0_3 x0_4 x0_5) (fun _ => rfl) n0
end
theorem eq (k : Nat) (a0 : Ty.den TDisk) : run (E k) Tryz.f156 [.val TDisk] [(.int .i64)] true false (a0, ()) = f k a0 := (show _ = t k (V0 k a0 k) a0 by kernel_rfl).trans (by rw [e0]; rfl)
theorem ctr (k : Nat) : Ctr J Tryz.prog 156 (C k) :=
  run_ctr (E := E k) mixed tb_ok (eqOk_of tb_eqs) Cts.nil (by kernel_rfl) Tryz.func156 (by kernel_rfl) rfl (fun ⟨a0, _⟩ r h => (eq k a0).trans h)
end spec_l3Used
namespace spec_NameOk
def C (k : Nat) : Cn := ⟨[.val .str], [.bool], true, false, fun x => f k x.1⟩
def E (k : Nat) : Env := ⟨tb, [(60, spec_l1In.C k)], [(2, [0, 3])], k, 0, []⟩
section
variable (k : Nat) (a0 : ByteArray)
noncomputable def K0 : Ex → St → Option (Bool × Unit) := runK (E k) (endK (E k) Tryz.f157.results.toList [.val .str] (a0, ()) [.bool] true false) [.blk 0, .code (at_ (bt 2 3) (body Tryz.f157))]
noncomputable def V0 (n0 : Nat) (x0_0 : ByteArray) (x0_1 : Int) : Option (Bool × Unit) := loopN (exec (E k) (at_ (bt 5 5) (body Tryz.f157))) (canon 0 [0, 3]) (K0 k a0) n0 (mk 36 0 [(0, .str x0_0), (3, .int .i64 x0_1)] [])
theorem s0 (n0 : Nat) (x0_0 : ByteArray) (x0_1 : Int) : V0 k a0 (n0 + 1) x0_0 x0_1 = b0 k (V0 k a0 n0) x0_0 x0_1 := by kernel_rfl
theorem e0 (n0 : Nat) : V0 k a0 n0 = l0 k n0 := loop_eq (V := V0 k a0) (l := l0 k) rfl (fun n0 => funext fun x0_0 => funext fun x0_1 => s0 k a0 n0 x0_0 x0_1) (fun _ => rfl) n0
end
theorem eq (k : Nat) (a0 : ByteArray) : run (E k) Tryz.f157 [.val .str] [.bool] true false (a0, ()) = f k a0 := (show _ = t k (V0 k a0 k) a0 by kernel_rfl).trans (by rw [e0]; rfl)
theorem ctr (k : Nat) : Ctr J Tryz.prog 157 (C k) :=
  run_ctr (E := E k) mixed tb_ok (eqOk_of tb_eqs) (Cts.cons (spec_l1In.ctr k) Cts.nil) (by kernel_rfl) Tryz.func157 (by kernel_rfl) rfl (fun ⟨a0, _⟩ r h => (eq k a0).trans h)
end spec_NameOk
namespace spec_DiskOk
def C (k : Nat) : Cn := ⟨[.val TDisk], [.bool], true, false, fun x => f k x.1⟩
def E (k : Nat) : Env := ⟨tb, [(60, spec_l1In.C k), (156, spec_l3Used.C k), (157, spec_NameOk.C k)], [(4, [1, 3])], k, 0, []⟩
section
variable (k : Nat) (a0 : Ty.den TDisk)
noncomputable def K0 : Ex → St → Option (Bool × Unit) := runK (E k) (endK (E k) Tryz.f107.results.toList [.val TDisk] (a0, ()) [.bool] true false) [.blk 0, .code (at_ (bt 3 7) (body Tryz.f107))]
noncomputable def V0 (n0 : Nat) (x0_0 : Int) (x0_1 : List (Ty.den TPair)) (x0_2 : Int) (x0_3 : Int) (x0_4 : Bool) : Option (Bool × Unit) := loopN (exec (E k) (at_ (bt 6 11) (body Tryz.f107))) (canon 0 [1, 3]) (K0 k a0) n0 (mk 79 1 [(1, .ptr 0 0 0), (3, .int .i64 x0_0)] [(0, .box [.sl true TPair x0_1, .int .i64 x0_2, .int .i64 x0_3, .bool x0_4])])
theorem s0 (n0 : Nat) (x0_0 : Int) (x0_1 : List (Ty.den TPair)) (x0_2 : Int) (x0_3 : Int) (x0_4 : Bool) : V0 k a0 (n0 + 1) x0_0 x0_1 x0_2 x0_3 x0_4 = b0 k (V0 k a0 n0) x0_0 x0_1 x0_2 x0_3 x0_4 := by kernel_rfl
theorem e0 (n0 : Nat) : V0 k a0 n0 = l0 k n0 := loop_eq (V := V0 k a0) (l := l0 k) rfl (fun n0 => funext fun x0_0 => funext fun x0_1 => funext fun x0_2 => funext fun x0_3 => funext fun x0_4 => s0 k a0 n0 x0_0 x0_1 x0_2 x0_3 x0_4) (fun _ => rfl) n0
end
theorem eq (k : Nat) (a0 : Ty.den TDisk) : run (E k) Tryz.f107 [.val TDisk] [.bool] true false (a0, ()) = f k a0 := (show _ = t k (V0 k a0 k) a0 by kernel_rfl).trans (by rw [e0]; rfl)
theorem ctr (k : Nat) : Ctr J Tryz.prog 107 (C k) :=
  run_ctr (E := E k) mixed tb_ok (eqOk_of tb_eqs) (Cts.cons (spec_l1In.ctr k) (Cts.cons (spec_l3Used.ctr k) (Cts.cons (spec_NameOk.ctr k) Cts.nil))) (by kernel_rfl) Tryz.func107 (by kernel_rfl) rfl (fun ⟨a0, _⟩ r h => (eq k a0).trans h)
end spec_DiskOk
namespace spec_l3Find
def C (k : Nat) : Cn := ⟨[.val TDisk, .val .str], [(.int .i64)], true, false, fun x => f k x.1 x.2.1⟩
def E (k : Nat) : Env := ⟨tb, [], [(2, [1, 2, 5])], k, 0, []⟩
section
variable (k : Nat) (a0 : Ty.den TDisk) (a1 : ByteArray)
noncomputable def K0 : Ex → St → Option (Int × Unit) := runK (E k) (endK (E k) Tryz.f135.results.toList [.val TDisk, .val .str] (a0, a1, ()) [(.int .i64)] true false) [.blk 0, .code (at_ (bt 2 3) (body Tryz.f135))]
noncomputable def V0 (n0 : Nat) (x0_0 : ByteArray) (x0_1 : Int) (x0_2 : List (Ty.den TPair)) (x0_3 : Int) (x0_4 : Int) (x0_5 : Bool) : Option (Int × Unit) := loopN (exec (E k) (at_ (bt 5 5) (body Tryz.f135))) (canon 0 [1, 2, 5]) (K0 k a0 a1) n0 (mk 22 1 [(1, .str x0_0), (2, .ptr 0 0 0), (5, .int .i64 x0_1)] [(0, .box [.sl true TPair x0_2, .int .i64 x0_3, .int .i64 x0_4, .bool x0_5])])
theorem s0 (n0 : Nat) (x0_0 : ByteArray) (x0_1 : Int) (x0_2 : List (Ty.den TPair)) (x0_3 : Int) (x0_4 : Int) (x0_5 : Bool) : V0 k a0 a1 (n0 + 1) x0_0 x0_1 x0_2 x0_3 x0_4 x0_5 = b0 k (V0 k a0 a1 n0) x0_0 x0_1 x0_2 x0_3 x0_4 x0_5 := by kernel_rfl
theorem e0 (n0 : Nat) : V0 k a0 a1 n0 = l0 k n0 := loop_eq (V := V0 k a0 a1) (l := l0 k) rfl (fun n0 => funext fun x0_0 => funext fun x0_1 => funext fun x0_2 => funext fun x0_3 => funext fun x0_4 => funext fun x0_5 => s0 k a0 a1 n0 x0_0 x0_1 x0_2 x0_3 x0_4 x0_5) (fun _ => rfl) n0
end
theorem eq (k : Nat) (a0 : Ty.den TDisk) (a1 : ByteArray) : run (E k) Tryz.f135 [.val TDisk, .val .str] [(.int .i64)] true false (a0, a1, ()) = f k a0 a1 := (show _ = t k (V0 k a0 a1 k) a0 a1 by kernel_rfl).trans (by rw [e0]; rfl)
theorem ctr (k : Nat) : Ctr J Tryz.prog 135 (C k) :=
  run_ctr (E := E k) mixed tb_ok (eqOk_of tb_eqs) Cts.nil (by kernel_rfl) Tryz.func135 (by kernel_rfl) rfl (fun ⟨a0, a1, _⟩ r h => (eq k a0 a1).trans h)
end spec_l3Find
namespace spec_FileText
def C (k : Nat) : Cn := ⟨[.val TDisk, .val .str], [.str, .bool], true, false, fun x => f k x.1 x.2.1⟩
def E (k : Nat) : Env := ⟨tb, [(107, spec_DiskOk.C k), (135, spec_l3Find.C k)], [], k, 0, []⟩
theorem eq (k : Nat) (a0 : Ty.den TDisk) (a1 : ByteArray) : run (E k) Tryz.f79 [.val TDisk, .val .str] [.str, .bool] true false (a0, a1, ()) = f k a0 a1 := by kernel_rfl
theorem ctr (k : Nat) : Ctr J Tryz.prog 79 (C k) :=
  run_ctr (E := E k) mixed tb_ok (eqOk_of tb_eqs) (Cts.cons (spec_DiskOk.ctr k) (Cts.cons (spec_l3Find.ctr k) Cts.nil)) (by kernel_rfl) Tryz.func79 (by kernel_rfl) rfl (fun ⟨a0, a1, _⟩ r h => (eq k a0 a1).trans h)
end spec_FileText
namespace spec_Var
def C (k : Nat) : Cn := ⟨[.val (.int .i64)], [.str], true, false, fun x => f k x.1⟩
def E (k : Nat) : Env := ⟨tb, [(60, spec_l1In.C k)], [(4, [0, 3])], k, 0, []⟩
section
variable (k : Nat) (a0 : Int)
noncomputable def K0 : Ex → St → Option (ByteArray × Unit) := runK (E k) (endK (E k) Tryz.f159.results.toList [.val (.int .i64)] (a0, ()) [.str] true false) [.blk 0, .code (at_ (bt 4 15) (body Tryz.f159))]
noncomputable def V0 (n0 : Nat) (x0_0 : Int) (x0_1 : List Int) : Option (ByteArray × Unit) := loopN (exec (E k) (at_ (bt 6 7) (body Tryz.f159))) (canon 0 [0, 3]) (K0 k a0) n0 (mk 25 1 [(0, .int .i64 x0_0), (3, .ref 0)] [(0, .own false (.int .u8) x0_1)])
theorem s0 (n0 : Nat) (x0_0 : Int) (x0_1 : List Int) : V0 k a0 (n0 + 1) x0_0 x0_1 = b0 k (V0 k a0 n0) x0_0 x0_1 := by kernel_rfl
theorem e0 (n0 : Nat) : V0 k a0 n0 = l0 k n0 := loop_eq (V := V0 k a0) (l := l0 k) rfl (fun n0 => funext fun x0_0 => funext fun x0_1 => s0 k a0 n0 x0_0 x0_1) (fun _ => rfl) n0
end
theorem eq (k : Nat) (a0 : Int) : run (E k) Tryz.f159 [.val (.int .i64)] [.str] true false (a0, ()) = f k a0 := (show _ = t k (V0 k a0 k) a0 by kernel_rfl).trans (by rw [e0]; rfl)
theorem ctr (k : Nat) : Ctr J Tryz.prog 159 (C k) :=
  run_ctr (E := E k) mixed tb_ok (eqOk_of tb_eqs) (Cts.cons (spec_l1In.ctr k) Cts.nil) (by kernel_rfl) Tryz.func159 (by kernel_rfl) rfl (fun ⟨a0, _⟩ r h => (eq k a0).trans h)
end spec_Var
namespace spec_ReadVar
def C (k : Nat) : Cn := ⟨[.val .str], [(.int .i64), (.int .i64)], true, false, fun x => f k x.1⟩
def E (k : Nat) : Env := ⟨tb, [(159, spec_Var.C k)], [(2, [0, 4]), (6, [0, 4, 5, 6])], k, 0, []⟩
section
variable (k : Nat) (a0 : ByteArray)
noncomputable def K0 : Ex → St → Option (Int × Int × Unit) := runK (E k) (endK (E k) Tryz.f144.results.toList [.val .str] (a0, ()) [(.int .i64), (.int .i64)] true false) [.blk 0, .code (at_ (bt 2 3) (body Tryz.f144))]
noncomputable def B0 (n0 : Nat) : Ex → St → Option (Int × Int × Unit) := lpK (E k) (at_ (bt 5 5) (body Tryz.f144)) 0 [0, 4] (K0 k a0) n0
noncomputable def K1 (n0 : Nat) : Ex → St → Option (Int × Int × Unit) := runK (E k) (B0 k a0 n0) [.blk 2, .code (at_ (bt 10 805) (body Tryz.f144)), .blk 1, .code (at_ (bt 7 101) (body Tryz.f144))]
noncomputable def V0 (n0 : Nat) (x0_0 : ByteArray) (x0_1 : Int) : Option (Int × Int × Unit) := loopN (exec (E k) (at_ (bt 5 5) (body Tryz.f144))) (canon 0 [0, 4]) (K0 k a0) n0 (mk 39 0 [(0, .str x0_0), (4, .int .i64 x0_1)] [])
noncomputable def V1 (n0 n1 : Nat) (x1_0 : ByteArray) (x1_1 : Int) (x1_2 : Int) (x1_3 : Int) : Option (Int × Int × Unit) := loopN (exec (E k) (at_ (bt 13 1317) (body Tryz.f144))) (canon 0 [0, 4, 5, 6]) (K1 k a0 n0) n1 (mk 39 0 [(0, .str x1_0), (4, .int .i64 x1_1), (5, .int .i64 x1_2), (6, .int .i64 x1_3)] [])
theorem s0 (n0 : Nat) (x0_0 : ByteArray) (x0_1 : Int) : V0 k a0 (n0 + 1) x0_0 x0_1 = b0 k (V1 k a0 n0 k) (V0 k a0 n0) x0_0 x0_1 := by kernel_rfl
theorem s1 (n0 n1 : Nat) (x1_0 : ByteArray) (x1_1 : Int) (x1_2 : Int) (x1_3 : Int) : V1 k a0 n0 (n1 + 1) x1_0 x1_1 x1_2 x1_3 = b1 k (V0 k a0 n0) (V1 k a0 n0 n1) x1_0 x1_1 x1_2 x1_3 := by kernel_rfl
theorem e1 (n0 n1 : Nat) : V1 k a0 n0 n1 = l1 k (V0 k a0 n0) n1 := loop_eq (V := V1 k a0 n0) (l := l1 k (V0 k a0 n0)) rfl (fun n1 => funext fun x1_0 => funext fun x1_1 => funext fun x1_2 => funext fun x1_3 => s1 k a0 n0 n1 x1_0 x1_1 x1_2 x1_3) (fun _ => rfl) n1
theorem e0 (n0 : Nat) : V0 k a0 n0 = l0 k n0 := by
  induction n0 with
  | zero => rfl
  | succ n0 ih =>
    have h : V0 k a0 (n0 + 1) = b0 k (V1 k a0 n0 k) (V0 k a0 n0) := funext fun x0_0 => funext fun x0_1 => s0 k a0 n0 x0_0 x0_1
    rw [h, e1, ih]
    rfl
end
theorem eq (k : Nat) (a0 : ByteArray) : run (E k) Tryz.f144 [.val .str] [(.int .i64), (.int .i64)] true false (a0, ()) = f k a0 := (show _ = t k (V0 k a0 k) a0 by kernel_rfl).trans (by rw [e0]; rfl)
theorem ctr (k : Nat) : Ctr J Tryz.prog 144 (C k) :=
  run_ctr (E := E k) mixed tb_ok (eqOk_of tb_eqs) (Cts.cons (spec_Var.ctr k) Cts.nil) (by kernel_rfl) Tryz.func144 (by kernel_rfl) rfl (fun ⟨a0, _⟩ r h => (eq k a0).trans h)
end spec_ReadVar
namespace spec_Crc
def C (k : Nat) : Cn := ⟨[.val .str], [(.int .i64)], true, false, fun x => f k x.1⟩
def E (k : Nat) : Env := ⟨tb, [], [(3, [0, 3, 4]), (7, [0, 3, 4, 5])], k, 0, []⟩
section
variable (k : Nat) (a0 : ByteArray)
noncomputable def K0 : Ex → St → Option (Int × Unit) := runK (E k) (endK (E k) Tryz.f161.results.toList [.val .str] (a0, ()) [(.int .i64)] true false) [.blk 0, .code (at_ (bt 3 7) (body Tryz.f161))]
noncomputable def B0 (n0 : Nat) : Ex → St → Option (Int × Unit) := lpK (E k) (at_ (bt 6 11) (body Tryz.f161)) 0 [0, 3, 4] (K0 k a0) n0
noncomputable def K1 (n0 : Nat) : Ex → St → Option (Int × Unit) := runK (E k) (B0 k a0 n0) [.blk 2, .blk 1, .code (at_ (bt 8 203) (body Tryz.f161))]
noncomputable def V0 (n0 : Nat) (x0_0 : ByteArray) (x0_1 : Int) (x0_2 : Int) : Option (Int × Unit) := loopN (exec (E k) (at_ (bt 6 11) (body Tryz.f161))) (canon 0 [0, 3, 4]) (K0 k a0) n0 (mk 33 0 [(0, .str x0_0), (3, .int .i64 x0_1), (4, .int .i64 x0_2)] [])
noncomputable def V1 (n0 n1 : Nat) (x1_0 : ByteArray) (x1_1 : Int) (x1_2 : Int) (x1_3 : Int) : Option (Int × Unit) := loopN (exec (E k) (at_ (bt 13 1611) (body Tryz.f161))) (canon 0 [0, 3, 4, 5]) (K1 k a0 n0) n1 (mk 33 0 [(0, .str x1_0), (3, .int .i64 x1_1), (4, .int .i64 x1_2), (5, .int .i64 x1_3)] [])
theorem s0 (n0 : Nat) (x0_0 : ByteArray) (x0_1 : Int) (x0_2 : Int) : V0 k a0 (n0 + 1) x0_0 x0_1 x0_2 = b0 k (V1 k a0 n0 k) (V0 k a0 n0) x0_0 x0_1 x0_2 := by kernel_rfl
theorem s1 (n0 n1 : Nat) (x1_0 : ByteArray) (x1_1 : Int) (x1_2 : Int) (x1_3 : Int) : V1 k a0 n0 (n1 + 1) x1_0 x1_1 x1_2 x1_3 = b1 k (V0 k a0 n0) (V1 k a0 n0 n1) x1_0 x1_1 x1_2 x1_3 := by kernel_rfl
theorem e1 (n0 n1 : Nat) : V1 k a0 n0 n1 = l1 k (V0 k a0 n0) n1 := loop_eq (V := V1 k a0 n0) (l := l1 k (V0 k a0 n0)) rfl (fun n1 => funext fun x1_0 => funext fun x1_1 => funext fun x1_2 => funext fun x1_3 => s1 k a0 n0 n1 x1_0 x1_1 x1_2 x1_3) (fun _ => rfl) n1
theorem e0 (n0 : Nat) : V0 k a0 n0 = l0 k n0 := by
  induction n0 with
  | zero => rfl
  | succ n0 ih =>
    have h : V0 k a0 (n0 + 1) = b0 k (V1 k a0 n0 k) (V0 k a0 n0) := funext fun x0_0 => funext fun x0_1 => funext fun x0_2 => s0 k a0 n0 x0_0 x0_1 x0_2
    rw [h, e1, ih]
    rfl
end
theorem eq (k : Nat) (a0 : ByteArray) : run (E k) Tryz.f161 [.val .str] [(.int .i64)] true false (a0, ()) = f k a0 := (show _ = t k (V0 k a0 k) a0 by kernel_rfl).trans (by rw [e0]; rfl)
theorem ctr (k : Nat) : Ctr J Tryz.prog 161 (C k) :=
  run_ctr (E := E k) mixed tb_ok (eqOk_of tb_eqs) Cts.nil (by kernel_rfl) Tryz.func161 (by kernel_rfl) rfl (fun ⟨a0, _⟩ r h => (eq k a0).trans h)
end spec_Crc
namespace spec_Fixed
def C (k : Nat) : Cn := ⟨[.val (.int .i64), .val (.int .i64)], [.str], true, false, fun x => f k x.1 x.2.1⟩
def E (k : Nat) : Env := ⟨tb, [(60, spec_l1In.C k)], [(5, [0, 1, 5, 6])], k, 0, []⟩
section
variable (k : Nat) (a0 : Int) (a1 : Int)
noncomputable def K0 : Ex → St → Option (ByteArray × Unit) := runK (E k) (endK (E k) Tryz.f160.results.toList [.val (.int .i64), .val (.int .i64)] (a0, a1, ()) [.str] true false) [.blk 0, .code (at_ (bt 4 15) (body Tryz.f160))]
noncomputable def V0 (n0 : Nat) (x0_0 : Int) (x0_1 : Int) (x0_2 : ByteArray) (x0_3 : Int) : Option (ByteArray × Unit) := loopN (exec (E k) (at_ (bt 7 23) (body Tryz.f160))) (canon 0 [0, 1, 5, 6]) (K0 k a0 a1) n0 (mk 31 0 [(0, .int .i64 x0_0), (1, .int .i64 x0_1), (5, .str x0_2), (6, .int .i64 x0_3)] [])
theorem s0 (n0 : Nat) (x0_0 : Int) (x0_1 : Int) (x0_2 : ByteArray) (x0_3 : Int) : V0 k a0 a1 (n0 + 1) x0_0 x0_1 x0_2 x0_3 = b0 k (V0 k a0 a1 n0) x0_0 x0_1 x0_2 x0_3 := by kernel_rfl
theorem e0 (n0 : Nat) : V0 k a0 a1 n0 = l0 k n0 := loop_eq (V := V0 k a0 a1) (l := l0 k) rfl (fun n0 => funext fun x0_0 => funext fun x0_1 => funext fun x0_2 => funext fun x0_3 => s0 k a0 a1 n0 x0_0 x0_1 x0_2 x0_3) (fun _ => rfl) n0
end
theorem eq (k : Nat) (a0 : Int) (a1 : Int) : run (E k) Tryz.f160 [.val (.int .i64), .val (.int .i64)] [.str] true false (a0, a1, ()) = f k a0 a1 := (show _ = t k (V0 k a0 a1 k) a0 a1 by kernel_rfl).trans (by rw [e0]; rfl)
theorem ctr (k : Nat) : Ctr J Tryz.prog 160 (C k) :=
  run_ctr (E := E k) mixed tb_ok (eqOk_of tb_eqs) (Cts.cons (spec_l1In.ctr k) Cts.nil) (by kernel_rfl) Tryz.func160 (by kernel_rfl) rfl (fun ⟨a0, a1, _⟩ r h => (eq k a0 a1).trans h)
end spec_Fixed
namespace spec_Frame
def C (k : Nat) : Cn := ⟨[.val .str], [.str], true, false, fun x => f k x.1⟩
def E (k : Nat) : Env := ⟨tb, [(159, spec_Var.C k), (161, spec_Crc.C k), (160, spec_Fixed.C k)], [], k, 0, []⟩
theorem eq (k : Nat) (a0 : ByteArray) : run (E k) Tryz.f112 [.val .str] [.str] true false (a0, ()) = f k a0 := by kernel_rfl
theorem ctr (k : Nat) : Ctr J Tryz.prog 112 (C k) :=
  run_ctr (E := E k) mixed tb_ok (eqOk_of tb_eqs) (Cts.cons (spec_Var.ctr k) (Cts.cons (spec_Crc.ctr k) (Cts.cons (spec_Fixed.ctr k) Cts.nil))) (by kernel_rfl) Tryz.func112 (by kernel_rfl) rfl (fun ⟨a0, _⟩ r h => (eq k a0).trans h)
end spec_Frame
namespace spec_Unframe
def C (k : Nat) : Cn := ⟨[.val .str], [.str, (.int .i64)], true, false, fun x => f k x.1⟩
def E (k : Nat) : Env := ⟨tb, [(144, spec_ReadVar.C k), (112, spec_Frame.C k)], [], k, 0, []⟩
theorem eq (k : Nat) (a0 : ByteArray) : run (E k) Tryz.f143 [.val .str] [.str, (.int .i64)] true false (a0, ()) = f k a0 := by kernel_rfl
theorem ctr (k : Nat) : Ctr J Tryz.prog 143 (C k) :=
  run_ctr (E := E k) mixed tb_ok (eqOk_of tb_eqs) (Cts.cons (spec_ReadVar.ctr k) (Cts.cons (spec_Frame.ctr k) Cts.nil)) (by kernel_rfl) Tryz.func143 (by kernel_rfl) rfl (fun ⟨a0, _⟩ r h => (eq k a0).trans h)
end spec_Unframe
namespace spec_l5Text
def C (k : Nat) : Cn := ⟨[.val .str], [.str, .str, .bool], true, false, fun x => f k x.1⟩
def E (k : Nat) : Env := ⟨tb, [(144, spec_ReadVar.C k)], [], k, 0, []⟩
theorem eq (k : Nat) (a0 : ByteArray) : run (E k) Tryz.f176 [.val .str] [.str, .str, .bool] true false (a0, ()) = f k a0 := by kernel_rfl
theorem ctr (k : Nat) : Ctr J Tryz.prog 176 (C k) :=
  run_ctr (E := E k) mixed tb_ok (eqOk_of tb_eqs) (Cts.cons (spec_ReadVar.ctr k) Cts.nil) (by kernel_rfl) Tryz.func176 (by kernel_rfl) rfl (fun ⟨a0, _⟩ r h => (eq k a0).trans h)
end spec_l5Text
namespace spec_KeyOk
def C (k : Nat) : Cn := ⟨[.val .str], [.bool], true, false, fun x => f k x.1⟩
def E (k : Nat) : Env := ⟨tb, [(60, spec_l1In.C k)], [], k, 0, []⟩
theorem eq (k : Nat) (a0 : ByteArray) : run (E k) Tryz.f158 [.val .str] [.bool] true false (a0, ()) = f k a0 := by kernel_rfl
theorem ctr (k : Nat) : Ctr J Tryz.prog 158 (C k) :=
  run_ctr (E := E k) mixed tb_ok (eqOk_of tb_eqs) (Cts.cons (spec_l1In.ctr k) Cts.nil) (by kernel_rfl) Tryz.func158 (by kernel_rfl) rfl (fun ⟨a0, _⟩ r h => (eq k a0).trans h)
end spec_KeyOk
namespace spec_RecOk
def C (k : Nat) : Cn := ⟨[.val TRec], [.bool], true, false, fun x => f k x.1⟩
def E (k : Nat) : Env := ⟨tb, [(60, spec_l1In.C k), (158, spec_KeyOk.C k)], [], k, 0, []⟩
theorem eq (k : Nat) (a0 : Ty.den TRec) : run (E k) Tryz.f162 [.val TRec] [.bool] true false (a0, ()) = f k a0 := by kernel_rfl
theorem ctr (k : Nat) : Ctr J Tryz.prog 162 (C k) :=
  run_ctr (E := E k) mixed tb_ok (eqOk_of tb_eqs) (Cts.cons (spec_l1In.ctr k) (Cts.cons (spec_KeyOk.ctr k) Cts.nil)) (by kernel_rfl) Tryz.func162 (by kernel_rfl) rfl (fun ⟨a0, _⟩ r h => (eq k a0).trans h)
end spec_RecOk
namespace spec_ShowRec
def C (k : Nat) : Cn := ⟨[.val TRec], [.str], true, false, fun x => f k x.1⟩
def E (k : Nat) : Env := ⟨tb, [(162, spec_RecOk.C k), (159, spec_Var.C k), (160, spec_Fixed.C k)], [], k, 0, []⟩
theorem eq (k : Nat) (a0 : Ty.den TRec) : run (E k) Tryz.f113 [.val TRec] [.str] true false (a0, ()) = f k a0 := by kernel_rfl
theorem ctr (k : Nat) : Ctr J Tryz.prog 113 (C k) :=
  run_ctr (E := E k) mixed tb_ok (eqOk_of tb_eqs) (Cts.cons (spec_RecOk.ctr k) (Cts.cons (spec_Var.ctr k) (Cts.cons (spec_Fixed.ctr k) Cts.nil))) (by kernel_rfl) Tryz.func113 (by kernel_rfl) rfl (fun ⟨a0, _⟩ r h => (eq k a0).trans h)
end spec_ShowRec
namespace spec_ReadFixed
def C (k : Nat) : Cn := ⟨[.val .str, .val (.int .i64)], [(.int .i64), .bool], true, false, fun x => f k x.1 x.2.1⟩
def E (k : Nat) : Env := ⟨tb, [(60, spec_l1In.C k)], [(5, [0, 1, 6, 7])], k, 0, []⟩
section
variable (k : Nat) (a0 : ByteArray) (a1 : Int)
noncomputable def K0 : Ex → St → Option (Int × Bool × Unit) := runK (E k) (endK (E k) Tryz.f177.results.toList [.val .str, .val (.int .i64)] (a0, a1, ()) [(.int .i64), .bool] true false) [.blk 0, .code (at_ (bt 4 15) (body Tryz.f177))]
noncomputable def V0 (n0 : Nat) (x0_0 : ByteArray) (x0_1 : Int) (x0_2 : Int) (x0_3 : Int) : Option (Int × Bool × Unit) := loopN (exec (E k) (at_ (bt 7 23) (body Tryz.f177))) (canon 0 [0, 1, 6, 7]) (K0 k a0 a1) n0 (mk 30 0 [(0, .str x0_0), (1, .int .i64 x0_1), (6, .int .i64 x0_2), (7, .int .i64 x0_3)] [])
theorem s0 (n0 : Nat) (x0_0 : ByteArray) (x0_1 : Int) (x0_2 : Int) (x0_3 : Int) : V0 k a0 a1 (n0 + 1) x0_0 x0_1 x0_2 x0_3 = b0 k (V0 k a0 a1 n0) x0_0 x0_1 x0_2 x0_3 := by kernel_rfl
theorem e0 (n0 : Nat) : V0 k a0 a1 n0 = l0 k n0 := loop_eq (V := V0 k a0 a1) (l := l0 k) rfl (fun n0 => funext fun x0_0 => funext fun x0_1 => funext fun x0_2 => funext fun x0_3 => s0 k a0 a1 n0 x0_0 x0_1 x0_2 x0_3) (fun _ => rfl) n0
end
theorem eq (k : Nat) (a0 : ByteArray) (a1 : Int) : run (E k) Tryz.f177 [.val .str, .val (.int .i64)] [(.int .i64), .bool] true false (a0, a1, ()) = f k a0 a1 := (show _ = t k (V0 k a0 a1 k) a0 a1 by kernel_rfl).trans (by rw [e0]; rfl)
theorem ctr (k : Nat) : Ctr J Tryz.prog 177 (C k) :=
  run_ctr (E := E k) mixed tb_ok (eqOk_of tb_eqs) (Cts.cons (spec_l1In.ctr k) Cts.nil) (by kernel_rfl) Tryz.func177 (by kernel_rfl) rfl (fun ⟨a0, a1, _⟩ r h => (eq k a0 a1).trans h)
end spec_ReadFixed
namespace spec_ReadRec
def C (k : Nat) : Cn := ⟨[.val .str], [TRec, .bool], true, false, fun x => f k x.1⟩
def E (k : Nat) : Env := ⟨tb, [(144, spec_ReadVar.C k), (176, spec_l5Text.C k), (113, spec_ShowRec.C k), (177, spec_ReadFixed.C k)], [], k, 0, []⟩
theorem eq (k : Nat) (a0 : ByteArray) : run (E k) Tryz.f147 [.val .str] [TRec, .bool] true false (a0, ()) = f k a0 := by kernel_rfl
theorem ctr (k : Nat) : Ctr J Tryz.prog 147 (C k) :=
  run_ctr (E := E k) mixed tb_ok (eqOk_of tb_eqs) (Cts.cons (spec_ReadVar.ctr k) (Cts.cons (spec_l5Text.ctr k) (Cts.cons (spec_ShowRec.ctr k) (Cts.cons (spec_ReadFixed.ctr k) Cts.nil)))) (by kernel_rfl) Tryz.func147 (by kernel_rfl) rfl (fun ⟨a0, _⟩ r h => (eq k a0).trans h)
end spec_ReadRec
namespace spec_RecAt
def C (k : Nat) : Cn := ⟨[.val .str, .val (.int .i64), .val (.int .i64)], [TRec, .bool], true, false, fun x => f k x.1 x.2.1 x.2.2.1⟩
def E (k : Nat) : Env := ⟨tb, [(60, spec_l1In.C k), (143, spec_Unframe.C k), (147, spec_ReadRec.C k)], [], k, 0, []⟩
theorem eq (k : Nat) (a0 : ByteArray) (a1 : Int) (a2 : Int) : run (E k) Tryz.f110 [.val .str, .val (.int .i64), .val (.int .i64)] [TRec, .bool] true false (a0, a1, a2, ()) = f k a0 a1 a2 := by kernel_rfl
theorem ctr (k : Nat) : Ctr J Tryz.prog 110 (C k) :=
  run_ctr (E := E k) mixed tb_ok (eqOk_of tb_eqs) (Cts.cons (spec_l1In.ctr k) (Cts.cons (spec_Unframe.ctr k) (Cts.cons (spec_ReadRec.ctr k) Cts.nil))) (by kernel_rfl) Tryz.func110 (by kernel_rfl) rfl (fun ⟨a0, a1, a2, _⟩ r h => (eq k a0 a1 a2).trans h)
end spec_RecAt
namespace spec_Get
def C (k : Nat) : Cn := ⟨[.val TStore, .val TDisk, .val .str], [TPair, (.int .i64)], true, false, fun x => f k x.1 x.2.1 x.2.2.1⟩
def E (k : Nat) : Env := ⟨tb, [(65, spec_DirGet.C k), (80, spec_SegName.C k), (79, spec_FileText.C k), (110, spec_RecAt.C k)], [], k, 0, []⟩
theorem eq (k : Nat) (a0 : Ty.den TStore) (a1 : Ty.den TDisk) (a2 : ByteArray) : run (E k) Tryz.f64 [.val TStore, .val TDisk, .val .str] [TPair, (.int .i64)] true false (a0, a1, a2, ()) = f k a0 a1 a2 := by kernel_rfl
theorem ctr (k : Nat) : Ctr J Tryz.prog 64 (C k) :=
  run_ctr (E := E k) mixed tb_ok (eqOk_of tb_eqs) (Cts.cons (spec_DirGet.ctr k) (Cts.cons (spec_SegName.ctr k) (Cts.cons (spec_FileText.ctr k) (Cts.cons (spec_RecAt.ctr k) Cts.nil)))) (by kernel_rfl) Tryz.func64 (by kernel_rfl) rfl (fun ⟨a0, a1, a2, _⟩ r h => (eq k a0 a1 a2).trans h)
end spec_Get
namespace spec_Dump
def C (k : Nat) : Cn := ⟨[.val TStore, .val TDisk], [(.slice TPair), (.int .i64)], true, false, fun x => f k x.1 x.2.1⟩
def E (k : Nat) : Env := ⟨tb, [(64, spec_Get.C k)], [(3, [2, 3, 6, 7])], k, 0, []⟩
section
variable (k : Nat) (a0 : Ty.den TStore) (a1 : Ty.den TDisk)
noncomputable def K0 : Ex → St → Option ((List (Ty.den TPair)) × Int × Unit) := runK (E k) (endK (E k) Tryz.f46.results.toList [.val TStore, .val TDisk] (a0, a1, ()) [(.slice TPair), (.int .i64)] true false) [.blk 0, .code (at_ (bt 3 7) (body Tryz.f46))]
noncomputable def V0 (n0 : Nat) (x0_0 : Int) (x0_1 : Int) (x0_2 : List Int) (x0_3 : List (Ty.den TEntry)) (x0_4 : Int) (x0_5 : Int) (x0_6 : Int) (x0_7 : List (Ty.den TPair)) (x0_8 : Int) (x0_9 : Int) (x0_10 : Bool) (x0_11 : List (Ty.den TPair)) : Option ((List (Ty.den TPair)) × Int × Unit) := loopN (exec (E k) (at_ (bt 6 11) (body Tryz.f46))) (canon 0 [2, 3, 6, 7]) (K0 k a0 a1) n0 (mk 39 3 [(2, .ptr 0 0 0), (3, .ptr 1 0 0), (6, .ref 2), (7, .int .i64 x0_0)] [(0, .box [.int .i64 x0_1, .sl true (.int .i64) x0_2, .sl true TEntry x0_3, .int .i64 x0_4, .int .i64 x0_5, .int .i64 x0_6]), (1, .box [.sl true TPair x0_7, .int .i64 x0_8, .int .i64 x0_9, .bool x0_10]), (2, .own false TPair x0_11)])
theorem s0 (n0 : Nat) (x0_0 : Int) (x0_1 : Int) (x0_2 : List Int) (x0_3 : List (Ty.den TEntry)) (x0_4 : Int) (x0_5 : Int) (x0_6 : Int) (x0_7 : List (Ty.den TPair)) (x0_8 : Int) (x0_9 : Int) (x0_10 : Bool) (x0_11 : List (Ty.den TPair)) : V0 k a0 a1 (n0 + 1) x0_0 x0_1 x0_2 x0_3 x0_4 x0_5 x0_6 x0_7 x0_8 x0_9 x0_10 x0_11 = b0 k (V0 k a0 a1 n0) x0_0 x0_1 x0_2 x0_3 x0_4 x0_5 x0_6 x0_7 x0_8 x0_9 x0_10 x0_11 := by kernel_rfl
theorem e0 (n0 : Nat) : V0 k a0 a1 n0 = l0 k n0 := loop_eq (V := V0 k a0 a1) (l := l0 k) rfl (fun n0 => funext fun x0_0 => funext fun x0_1 => funext fun x0_2 => funext fun x0_3 => funext fun x0_4 => funext fun x0_5 => funext fun x0_6 => funext fun x0_7 => funext fun x0_8 => funext fun x0_9 => funext fun x0_10 => funext fun x0_11 => s0 k a0 a1 n0 x0_0 x0_1 x0_2 x0_3 x0_4 x0_5 x0_6 x0_7 x0_8 x0_9 x0_10 x0_11) (fun _ => rfl) n0
end
theorem eq (k : Nat) (a0 : Ty.den TStore) (a1 : Ty.den TDisk) : run (E k) Tryz.f46 [.val TStore, .val TDisk] [(.slice TPair), (.int .i64)] true false (a0, a1, ()) = f k a0 a1 := (show _ = t k (V0 k a0 a1 k) a0 a1 by kernel_rfl).trans (by rw [e0]; rfl)
theorem ctr (k : Nat) : Ctr J Tryz.prog 46 (C k) :=
  run_ctr (E := E k) mixed tb_ok (eqOk_of tb_eqs) (Cts.cons (spec_Get.ctr k) Cts.nil) (by kernel_rfl) Tryz.func46 (by kernel_rfl) rfl (fun ⟨a0, a1, _⟩ r h => (eq k a0 a1).trans h)
end spec_Dump
namespace spec_LiveOk
def C (k : Nat) : Cn := ⟨[.val TLive], [.bool], true, false, fun x => f k x.1⟩
def E (k : Nat) : Env := ⟨tb, [(60, spec_l1In.C k)], [(4, [1, 3])], k, 0, []⟩
section
variable (k : Nat) (a0 : Ty.den TLive)
noncomputable def K0 : Ex → St → Option (Bool × Unit) := runK (E k) (endK (E k) Tryz.f108.results.toList [.val TLive] (a0, ()) [.bool] true false) [.blk 0, .code (at_ (bt 3 7) (body Tryz.f108))]
noncomputable def V0 (n0 : Nat) (x0_0 : Int) (x0_1 : Int) (x0_2 : List Int) : Option (Bool × Unit) := loopN (exec (E k) (at_ (bt 6 11) (body Tryz.f108))) (canon 0 [1, 3]) (K0 k a0) n0 (mk 50 1 [(1, .ptr 0 0 0), (3, .int .i64 x0_0)] [(0, .box [.int .i64 x0_1, .sl true (.int .i64) x0_2])])
theorem s0 (n0 : Nat) (x0_0 : Int) (x0_1 : Int) (x0_2 : List Int) : V0 k a0 (n0 + 1) x0_0 x0_1 x0_2 = b0 k (V0 k a0 n0) x0_0 x0_1 x0_2 := by kernel_rfl
theorem e0 (n0 : Nat) : V0 k a0 n0 = l0 k n0 := loop_eq (V := V0 k a0) (l := l0 k) rfl (fun n0 => funext fun x0_0 => funext fun x0_1 => funext fun x0_2 => s0 k a0 n0 x0_0 x0_1 x0_2) (fun _ => rfl) n0
end
theorem eq (k : Nat) (a0 : Ty.den TLive) : run (E k) Tryz.f108 [.val TLive] [.bool] true false (a0, ()) = f k a0 := (show _ = t k (V0 k a0 k) a0 by kernel_rfl).trans (by rw [e0]; rfl)
theorem ctr (k : Nat) : Ctr J Tryz.prog 108 (C k) :=
  run_ctr (E := E k) mixed tb_ok (eqOk_of tb_eqs) (Cts.cons (spec_l1In.ctr k) Cts.nil) (by kernel_rfl) Tryz.func108 (by kernel_rfl) rfl (fun ⟨a0, _⟩ r h => (eq k a0).trans h)
end spec_LiveOk
namespace spec_DirOk
def C (k : Nat) : Cn := ⟨[.val (.slice TEntry)], [.bool], true, false, fun x => f k x.1⟩
def E (k : Nat) : Env := ⟨tb, [(158, spec_KeyOk.C k), (60, spec_l1In.C k)], [(4, [0, 3])], k, 0, []⟩
section
variable (k : Nat) (a0 : List (Ty.den TEntry))
noncomputable def K0 : Ex → St → Option (Bool × Unit) := runK (E k) (endK (E k) Tryz.f109.results.toList [.val (.slice TEntry)] (a0, ()) [.bool] true false) [.blk 0, .code (at_ (bt 3 7) (body Tryz.f109))]
noncomputable def V0 (n0 : Nat) (x0_0 : List (Ty.den TEntry)) (x0_1 : Int) : Option (Bool × Unit) := loopN (exec (E k) (at_ (bt 6 11) (body Tryz.f109))) (canon 0 [0, 3]) (K0 k a0) n0 (mk 60 0 [(0, .sl true TEntry x0_0), (3, .int .i64 x0_1)] [])
theorem s0 (n0 : Nat) (x0_0 : List (Ty.den TEntry)) (x0_1 : Int) : V0 k a0 (n0 + 1) x0_0 x0_1 = b0 k (V0 k a0 n0) x0_0 x0_1 := by kernel_rfl
theorem e0 (n0 : Nat) : V0 k a0 n0 = l0 k n0 := loop_eq (V := V0 k a0) (l := l0 k) rfl (fun n0 => funext fun x0_0 => funext fun x0_1 => s0 k a0 n0 x0_0 x0_1) (fun _ => rfl) n0
end
theorem eq (k : Nat) (a0 : List (Ty.den TEntry)) : run (E k) Tryz.f109 [.val (.slice TEntry)] [.bool] true false (a0, ()) = f k a0 := (show _ = t k (V0 k a0 k) a0 by kernel_rfl).trans (by rw [e0]; rfl)
theorem ctr (k : Nat) : Ctr J Tryz.prog 109 (C k) :=
  run_ctr (E := E k) mixed tb_ok (eqOk_of tb_eqs) (Cts.cons (spec_KeyOk.ctr k) (Cts.cons (spec_l1In.ctr k) Cts.nil)) (by kernel_rfl) Tryz.func109 (by kernel_rfl) rfl (fun ⟨a0, _⟩ r h => (eq k a0).trans h)
end spec_DirOk
namespace spec_ScanRecs
def C (k : Nat) : Cn := ⟨[.val .str], [(.slice TSpot), (.int .i64)], true, false, fun x => f k x.1⟩
def E (k : Nat) : Env := ⟨tb, [(143, spec_Unframe.C k), (147, spec_ReadRec.C k)], [(3, [0, 4, 5])], k, 0, []⟩
section
variable (k : Nat) (a0 : ByteArray)
noncomputable def K0 : Ex → St → Option ((List (Ty.den TSpot)) × Int × Unit) := runK (E k) (endK (E k) Tryz.f94.results.toList [.val .str] (a0, ()) [(.slice TSpot), (.int .i64)] true false) [.blk 0, .code (at_ (bt 4 15) (body Tryz.f94))]
noncomputable def V0 (n0 : Nat) (x0_0 : ByteArray) (x0_1 : Int) (x0_2 : List (Ty.den TSpot)) : Option ((List (Ty.den TSpot)) × Int × Unit) := loopN (exec (E k) (at_ (bt 6 7) (body Tryz.f94))) (canon 0 [0, 4, 5]) (K0 k a0) n0 (mk 47 1 [(0, .str x0_0), (4, .ref 0), (5, .int .i64 x0_1)] [(0, .own false TSpot x0_2)])
theorem s0 (n0 : Nat) (x0_0 : ByteArray) (x0_1 : Int) (x0_2 : List (Ty.den TSpot)) : V0 k a0 (n0 + 1) x0_0 x0_1 x0_2 = b0 k (V0 k a0 n0) x0_0 x0_1 x0_2 := by kernel_rfl
theorem e0 (n0 : Nat) : V0 k a0 n0 = l0 k n0 := loop_eq (V := V0 k a0) (l := l0 k) rfl (fun n0 => funext fun x0_0 => funext fun x0_1 => funext fun x0_2 => s0 k a0 n0 x0_0 x0_1 x0_2) (fun _ => rfl) n0
end
theorem eq (k : Nat) (a0 : ByteArray) : run (E k) Tryz.f94 [.val .str] [(.slice TSpot), (.int .i64)] true false (a0, ()) = f k a0 := (show _ = t k (V0 k a0 k) a0 by kernel_rfl).trans (by rw [e0]; rfl)
theorem ctr (k : Nat) : Ctr J Tryz.prog 94 (C k) :=
  run_ctr (E := E k) mixed tb_ok (eqOk_of tb_eqs) (Cts.cons (spec_Unframe.ctr k) (Cts.cons (spec_ReadRec.ctr k) Cts.nil)) (by kernel_rfl) Tryz.func94 (by kernel_rfl) rfl (fun ⟨a0, _⟩ r h => (eq k a0).trans h)
end spec_ScanRecs
namespace spec_StoreOk
def C (k : Nat) : Cn := ⟨[.val TStore, .val TDisk], [.bool], true, false, fun x => f k x.1 x.2.1⟩
def E (k : Nat) : Env := ⟨tb, [(107, spec_DiskOk.C k), (108, spec_LiveOk.C k), (109, spec_DirOk.C k), (60, spec_l1In.C k), (80, spec_SegName.C k), (79, spec_FileText.C k), (94, spec_ScanRecs.C k), (110, spec_RecAt.C k)], [(4, [2, 3, 5]), (11, [2, 3, 10])], k, 0, []⟩
section
variable (k : Nat) (a0 : Ty.den TStore) (a1 : Ty.den TDisk)
noncomputable def K0 : Ex → St → Option (Bool × Unit) := runK (E k) (endK (E k) Tryz.f47.results.toList [.val TStore, .val TDisk] (a0, a1, ()) [.bool] true false) [.blk 0, .code (at_ (bt 3 7) (body Tryz.f47))]
noncomputable def K1 : Ex → St → Option (Bool × Unit) := runK (E k) (endK (E k) Tryz.f47.results.toList [.val TStore, .val TDisk] (a0, a1, ()) [.bool] true false) [.blk 2, .code (at_ (bt 4 15) (body Tryz.f47))]
noncomputable def V0 (n0 : Nat) (x0_0 : Int) (x0_1 : Int) (x0_2 : List Int) (x0_3 : List (Ty.den TEntry)) (x0_4 : Int) (x0_5 : Int) (x0_6 : Int) (x0_7 : List (Ty.den TPair)) (x0_8 : Int) (x0_9 : Int) (x0_10 : Bool) : Option (Bool × Unit) := loopN (exec (E k) (at_ (bt 6 11) (body Tryz.f47))) (canon 0 [2, 3, 5]) (K0 k a0 a1) n0 (mk 148 2 [(2, .ptr 0 0 0), (3, .ptr 1 0 0), (5, .int .i64 x0_0)] [(0, .box [.int .i64 x0_1, .sl true (.int .i64) x0_2, .sl true TEntry x0_3, .int .i64 x0_4, .int .i64 x0_5, .int .i64 x0_6]), (1, .box [.sl true TPair x0_7, .int .i64 x0_8, .int .i64 x0_9, .bool x0_10])])
noncomputable def V1 (n1 : Nat) (x1_0 : Int) (x1_1 : Int) (x1_2 : List Int) (x1_3 : List (Ty.den TEntry)) (x1_4 : Int) (x1_5 : Int) (x1_6 : Int) (x1_7 : List (Ty.den TPair)) (x1_8 : Int) (x1_9 : Int) (x1_10 : Bool) : Option (Bool × Unit) := loopN (exec (E k) (at_ (bt 7 23) (body Tryz.f47))) (canon 0 [2, 3, 10]) (K1 k a0 a1) n1 (mk 148 2 [(2, .ptr 0 0 0), (3, .ptr 1 0 0), (10, .int .i64 x1_0)] [(0, .box [.int .i64 x1_1, .sl true (.int .i64) x1_2, .sl true TEntry x1_3, .int .i64 x1_4, .int .i64 x1_5, .int .i64 x1_6]), (1, .box [.sl true TPair x1_7, .int .i64 x1_8, .int .i64 x1_9, .bool x1_10])])
theorem s0 (n0 : Nat) (x0_0 : Int) (x0_1 : Int) (x0_2 : List Int) (x0_3 : List (Ty.den TEntry)) (x0_4 : Int) (x0_5 : Int) (x0_6 : Int) (x0_7 : List (Ty.den TPair)) (x0_8 : Int) (x0_9 : Int) (x0_10 : Bool) : V0 k a0 a1 (n0 + 1) x0_0 x0_1 x0_2 x0_3 x0_4 x0_5 x0_6 x0_7 x0_8 x0_9 x0_10 = b0 k (V1 k a0 a1 k) (V0 k a0 a1 n0) x0_0 x0_1 x0_2 x0_3 x0_4 x0_5 x0_6 x0_7 x0_8 x0_9 x0_10 := by kernel_rfl
theorem s1 (n1 : Nat) (x1_0 : Int) (x1_1 : Int) (x1_2 : List Int) (x1_3 : List (Ty.den TEntry)) (x1_4 : Int) (x1_5 : Int) (x1_6 : Int) (x1_7 : List (Ty.den TPair)) (x1_8 : Int) (x1_9 : Int) (x1_10 : Bool) : V1 k a0 a1 (n1 + 1) x1_0 x1_1 x1_2 x1_3 x1_4 x1_5 x1_6 x1_7 x1_8 x1_9 x1_10 = b1 k (V1 k a0 a1 n1) x1_0 x1_1 x1_2 x1_3 x1_4 x1_5 x1_6 x1_7 x1_8 x1_9 x1_10 := by kernel_rfl
theorem e1 (n1 : Nat) : V1 k a0 a1 n1 = l1 k n1 := loop_eq (V := V1 k a0 a1) (l := l1 k) rfl (fun n1 => funext fun x1_0 => funext fun x1_1 => funext fun x1_2 => funext fun x1_3 => funext fun x1_4 => funext fun x1_5 => funext fun x1_6 => funext fun x1_7 => funext fun x1_8 => funext fun x1_9 => funext fun x1_10 => s1 k a0 a1 n1 x1_0 x1_1 x1_2 x1_3 x1_4 x1_5 x1_6 x1_7 x1_8 x1_9 x1_10) (fun _ => rfl) n1
theorem e0 (n0 : Nat) : V0 k a0 a1 n0 = l0 k n0 := by
  induction n0 with
  | zero => rfl
  | succ n0 ih =>
    have h : V0 k a0 a1 (n0 + 1) = b0 k (V1 k a0 a1 k) (V0 k a0 a1 n0) := funext fun x0_0 => funext fun x0_1 => funext fun x0_2 => funext fun x0_3 => funext fun x0_4 => funext fun x0_5 => funext fun x0_6 => funext fun x0_7 => funext fun x0_8 => funext fun x0_9 => funext fun x0_10 => s0 k a0 a1 n0 x0_0 x0_1 x0_2 x0_3 x0_4 x0_5 x0_6 x0_7 x0_8 x0_9 x0_10
    rw [h, e1, ih]
    rfl
end
theorem eq (k : Nat) (a0 : Ty.den TStore) (a1 : Ty.den TDisk) : run (E k) Tryz.f47 [.val TStore, .val TDisk] [.bool] true false (a0, a1, ()) = f k a0 a1 := (show _ = t k (V0 k a0 a1 k) a0 a1 by kernel_rfl).trans (by rw [e0]; rfl)
theorem ctr (k : Nat) : Ctr J Tryz.prog 47 (C k) :=
  run_ctr (E := E k) mixed tb_ok (eqOk_of tb_eqs) (Cts.cons (spec_DiskOk.ctr k) (Cts.cons (spec_LiveOk.ctr k) (Cts.cons (spec_DirOk.ctr k) (Cts.cons (spec_l1In.ctr k) (Cts.cons (spec_SegName.ctr k) (Cts.cons (spec_FileText.ctr k) (Cts.cons (spec_ScanRecs.ctr k) (Cts.cons (spec_RecAt.ctr k) Cts.nil)))))))) (by kernel_rfl) Tryz.func47 (by kernel_rfl) rfl (fun ⟨a0, a1, _⟩ r h => (eq k a0 a1).trans h)
end spec_StoreOk
namespace spec_SegBytes
def C (k : Nat) : Cn := ⟨[.val TStore, .val TDisk], [(.int .i64)], true, false, fun x => f k x.1 x.2.1⟩
def E (k : Nat) : Env := ⟨tb, [(80, spec_SegName.C k), (79, spec_FileText.C k)], [(3, [2, 3, 5, 6])], k, 0, []⟩
section
variable (k : Nat) (a0 : Ty.den TStore) (a1 : Ty.den TDisk)
noncomputable def K0 : Ex → St → Option (Int × Unit) := runK (E k) (endK (E k) Tryz.f48.results.toList [.val TStore, .val TDisk] (a0, a1, ()) [(.int .i64)] true false) [.blk 0, .code (at_ (bt 3 7) (body Tryz.f48))]
noncomputable def V0 (n0 : Nat) (x0_0 : Int) (x0_1 : Int) (x0_2 : Int) (x0_3 : List Int) (x0_4 : List (Ty.den TEntry)) (x0_5 : Int) (x0_6 : Int) (x0_7 : Int) (x0_8 : List (Ty.den TPair)) (x0_9 : Int) (x0_10 : Int) (x0_11 : Bool) : Option (Int × Unit) := loopN (exec (E k) (at_ (bt 6 11) (body Tryz.f48))) (canon 0 [2, 3, 5, 6]) (K0 k a0 a1) n0 (mk 38 2 [(2, .ptr 0 0 0), (3, .ptr 1 0 0), (5, .int .i64 x0_0), (6, .int .i64 x0_1)] [(0, .box [.int .i64 x0_2, .sl true (.int .i64) x0_3, .sl true TEntry x0_4, .int .i64 x0_5, .int .i64 x0_6, .int .i64 x0_7]), (1, .box [.sl true TPair x0_8, .int .i64 x0_9, .int .i64 x0_10, .bool x0_11])])
theorem s0 (n0 : Nat) (x0_0 : Int) (x0_1 : Int) (x0_2 : Int) (x0_3 : List Int) (x0_4 : List (Ty.den TEntry)) (x0_5 : Int) (x0_6 : Int) (x0_7 : Int) (x0_8 : List (Ty.den TPair)) (x0_9 : Int) (x0_10 : Int) (x0_11 : Bool) : V0 k a0 a1 (n0 + 1) x0_0 x0_1 x0_2 x0_3 x0_4 x0_5 x0_6 x0_7 x0_8 x0_9 x0_10 x0_11 = b0 k (V0 k a0 a1 n0) x0_0 x0_1 x0_2 x0_3 x0_4 x0_5 x0_6 x0_7 x0_8 x0_9 x0_10 x0_11 := by kernel_rfl
theorem e0 (n0 : Nat) : V0 k a0 a1 n0 = l0 k n0 := loop_eq (V := V0 k a0 a1) (l := l0 k) rfl (fun n0 => funext fun x0_0 => funext fun x0_1 => funext fun x0_2 => funext fun x0_3 => funext fun x0_4 => funext fun x0_5 => funext fun x0_6 => funext fun x0_7 => funext fun x0_8 => funext fun x0_9 => funext fun x0_10 => funext fun x0_11 => s0 k a0 a1 n0 x0_0 x0_1 x0_2 x0_3 x0_4 x0_5 x0_6 x0_7 x0_8 x0_9 x0_10 x0_11) (fun _ => rfl) n0
end
theorem eq (k : Nat) (a0 : Ty.den TStore) (a1 : Ty.den TDisk) : run (E k) Tryz.f48 [.val TStore, .val TDisk] [(.int .i64)] true false (a0, a1, ()) = f k a0 a1 := (show _ = t k (V0 k a0 a1 k) a0 a1 by kernel_rfl).trans (by rw [e0]; rfl)
theorem ctr (k : Nat) : Ctr J Tryz.prog 48 (C k) :=
  run_ctr (E := E k) mixed tb_ok (eqOk_of tb_eqs) (Cts.cons (spec_SegName.ctr k) (Cts.cons (spec_FileText.ctr k) Cts.nil)) (by kernel_rfl) Tryz.func48 (by kernel_rfl) rfl (fun ⟨a0, a1, _⟩ r h => (eq k a0 a1).trans h)
end spec_SegBytes
namespace spec_l14Keep
def C (k : Nat) : Cn := ⟨[.val TPair], [TRec], true, false, fun x => f k x.1⟩
def E (k : Nat) : Env := ⟨tb, [], [], k, 0, []⟩
theorem eq (k : Nat) (a0 : Ty.den TPair) : run (E k) Tryz.f111 [.val TPair] [TRec] true false (a0, ()) = f k a0 := by kernel_rfl
theorem ctr (k : Nat) : Ctr J Tryz.prog 111 (C k) :=
  run_ctr (E := E k) mixed tb_ok (eqOk_of tb_eqs) Cts.nil (by kernel_rfl) Tryz.func111 (by kernel_rfl) rfl (fun ⟨a0, _⟩ r h => (eq k a0).trans h)
end spec_l14Keep
namespace spec_SumOf
def C (k : Nat) : Cn := ⟨[.val (.slice TRec)], [(.int .i64)], true, false, fun x => f k x.1⟩
def E (k : Nat) : Env := ⟨tb, [(113, spec_ShowRec.C k), (161, spec_Crc.C k)], [(3, [0, 3, 4])], k, 0, []⟩
section
variable (k : Nat) (a0 : List (Ty.den TRec))
noncomputable def K0 : Ex → St → Option (Int × Unit) := runK (E k) (endK (E k) Tryz.f163.results.toList [.val (.slice TRec)] (a0, ()) [(.int .i64)] true false) [.blk 0, .code (at_ (bt 3 7) (body Tryz.f163))]
noncomputable def V0 (n0 : Nat) (x0_0 : List (Ty.den TRec)) (x0_1 : ByteArray) (x0_2 : Int) : Option (Int × Unit) := loopN (exec (E k) (at_ (bt 6 11) (body Tryz.f163))) (canon 0 [0, 3, 4]) (K0 k a0) n0 (mk 20 0 [(0, .sl true TRec x0_0), (3, .str x0_1), (4, .int .i64 x0_2)] [])
theorem s0 (n0 : Nat) (x0_0 : List (Ty.den TRec)) (x0_1 : ByteArray) (x0_2 : Int) : V0 k a0 (n0 + 1) x0_0 x0_1 x0_2 = b0 k (V0 k a0 n0) x0_0 x0_1 x0_2 := by kernel_rfl
theorem e0 (n0 : Nat) : V0 k a0 n0 = l0 k n0 := loop_eq (V := V0 k a0) (l := l0 k) rfl (fun n0 => funext fun x0_0 => funext fun x0_1 => funext fun x0_2 => s0 k a0 n0 x0_0 x0_1 x0_2) (fun _ => rfl) n0
end
theorem eq (k : Nat) (a0 : List (Ty.den TRec)) : run (E k) Tryz.f163 [.val (.slice TRec)] [(.int .i64)] true false (a0, ()) = f k a0 := (show _ = t k (V0 k a0 k) a0 by kernel_rfl).trans (by rw [e0]; rfl)
theorem ctr (k : Nat) : Ctr J Tryz.prog 163 (C k) :=
  run_ctr (E := E k) mixed tb_ok (eqOk_of tb_eqs) (Cts.cons (spec_ShowRec.ctr k) (Cts.cons (spec_Crc.ctr k) Cts.nil)) (by kernel_rfl) Tryz.func163 (by kernel_rfl) rfl (fun ⟨a0, _⟩ r h => (eq k a0).trans h)
end spec_SumOf
namespace spec_l9Seal
def C (k : Nat) : Cn := ⟨[.val (.slice TRec), .val (.int .i64), .val (.int .i64)], [TRec], true, false, fun x => f k x.1 x.2.1 x.2.2.1⟩
def E (k : Nat) : Env := ⟨tb, [(163, spec_SumOf.C k)], [], k, 0, []⟩
theorem eq (k : Nat) (a0 : List (Ty.den TRec)) (a1 : Int) (a2 : Int) : run (E k) Tryz.f114 [.val (.slice TRec), .val (.int .i64), .val (.int .i64)] [TRec] true false (a0, a1, a2, ()) = f k a0 a1 a2 := by kernel_rfl
theorem ctr (k : Nat) : Ctr J Tryz.prog 114 (C k) :=
  run_ctr (E := E k) mixed tb_ok (eqOk_of tb_eqs) (Cts.cons (spec_SumOf.ctr k) Cts.nil) (by kernel_rfl) Tryz.func114 (by kernel_rfl) rfl (fun ⟨a0, a1, a2, _⟩ r h => (eq k a0 a1 a2).trans h)
end spec_l9Seal
namespace spec_MergedSize
def C (k : Nat) : Cn := ⟨[.val (.slice TPair), .val (.int .i64)], [(.int .i64)], true, false, fun x => f k x.1 x.2.1⟩
def E (k : Nat) : Env := ⟨tb, [(111, spec_l14Keep.C k), (113, spec_ShowRec.C k), (112, spec_Frame.C k), (114, spec_l9Seal.C k)], [(4, [0, 1, 5, 6, 7])], k, 0, []⟩
section
variable (k : Nat) (a0 : List (Ty.den TPair)) (a1 : Int)
noncomputable def K0 : Ex → St → Option (Int × Unit) := runK (E k) (endK (E k) Tryz.f49.results.toList [.val (.slice TPair), .val (.int .i64)] (a0, a1, ()) [(.int .i64)] true false) [.blk 0, .code (at_ (bt 4 15) (body Tryz.f49))]
noncomputable def V0 (n0 : Nat) (x0_0 : List (Ty.den TPair)) (x0_1 : Int) (x0_2 : Int) (x0_3 : Int) (x0_4 : List (Ty.den TRec)) : Option (Int × Unit) := loopN (exec (E k) (at_ (bt 7 23) (body Tryz.f49))) (canon 0 [0, 1, 5, 6, 7]) (K0 k a0 a1) n0 (mk 39 1 [(0, .sl true TPair x0_0), (1, .int .i64 x0_1), (5, .ref 0), (6, .int .i64 x0_2), (7, .int .i64 x0_3)] [(0, .own false TRec x0_4)])
theorem s0 (n0 : Nat) (x0_0 : List (Ty.den TPair)) (x0_1 : Int) (x0_2 : Int) (x0_3 : Int) (x0_4 : List (Ty.den TRec)) : V0 k a0 a1 (n0 + 1) x0_0 x0_1 x0_2 x0_3 x0_4 = b0 k (V0 k a0 a1 n0) x0_0 x0_1 x0_2 x0_3 x0_4 := by kernel_rfl
theorem e0 (n0 : Nat) : V0 k a0 a1 n0 = l0 k n0 := loop_eq (V := V0 k a0 a1) (l := l0 k) rfl (fun n0 => funext fun x0_0 => funext fun x0_1 => funext fun x0_2 => funext fun x0_3 => funext fun x0_4 => s0 k a0 a1 n0 x0_0 x0_1 x0_2 x0_3 x0_4) (fun _ => rfl) n0
end
theorem eq (k : Nat) (a0 : List (Ty.den TPair)) (a1 : Int) : run (E k) Tryz.f49 [.val (.slice TPair), .val (.int .i64)] [(.int .i64)] true false (a0, a1, ()) = f k a0 a1 := (show _ = t k (V0 k a0 a1 k) a0 a1 by kernel_rfl).trans (by rw [e0]; rfl)
theorem ctr (k : Nat) : Ctr J Tryz.prog 49 (C k) :=
  run_ctr (E := E k) mixed tb_ok (eqOk_of tb_eqs) (Cts.cons (spec_l14Keep.ctr k) (Cts.cons (spec_ShowRec.ctr k) (Cts.cons (spec_Frame.ctr k) (Cts.cons (spec_l9Seal.ctr k) Cts.nil)))) (by kernel_rfl) Tryz.func49 (by kernel_rfl) rfl (fun ⟨a0, a1, _⟩ r h => (eq k a0 a1).trans h)
end spec_MergedSize
namespace spec_MergeGain
def C (k : Nat) : Cn := ⟨[.val TStore, .val TDisk], [(.int .i64)], true, false, fun x => f k x.1 x.2.1⟩
def E (k : Nat) : Env := ⟨tb, [(46, spec_Dump.C k), (47, spec_StoreOk.C k), (48, spec_SegBytes.C k), (49, spec_MergedSize.C k)], [], k, 0, []⟩
theorem eq (k : Nat) (a0 : Ty.den TStore) (a1 : Ty.den TDisk) : run (E k) Tryz.f11 [.val TStore, .val TDisk] [(.int .i64)] true false (a0, a1, ()) = f k a0 a1 := by kernel_rfl
theorem ctr (k : Nat) : Ctr J Tryz.prog 11 (C k) :=
  run_ctr (E := E k) mixed tb_ok (eqOk_of tb_eqs) (Cts.cons (spec_Dump.ctr k) (Cts.cons (spec_StoreOk.ctr k) (Cts.cons (spec_SegBytes.ctr k) (Cts.cons (spec_MergedSize.ctr k) Cts.nil)))) (by kernel_rfl) Tryz.func11 (by kernel_rfl) rfl (fun ⟨a0, a1, _⟩ r h => (eq k a0 a1).trans h)
end spec_MergeGain
namespace impl_DirKeys
def C (k : Nat) : Cn := ⟨[.val (.slice TEntry)], [(.slice .str)], true, false, fun x => f k x.1⟩
def E (k : Nat) : Env := ⟨tb, [], [(3, [3, 6, 7, 8])], k, 0, []⟩
section
variable (k : Nat) (a0 : List (Ty.den TEntry))
noncomputable def K0 : Ex → St → Option ((List ByteArray) × Unit) := runK (E k) (endK (E k) Tryz.f118.results.toList [.val (.slice TEntry)] (a0, ()) [(.slice .str)] true false) [.blk 0, .code (at_ (bt 3 7) (body Tryz.f118))]
noncomputable def V0 (n0 : Nat) (x0_0 : List (Ty.den TEntry)) (x0_1 : Int) (x0_2 : Int) (x0_3 : List ByteArray) : Option ((List ByteArray) × Unit) := loopN (exec (E k) (at_ (bt 6 11) (body Tryz.f118))) (canon 0 [3, 6, 7, 8]) (K0 k a0) n0 (mk 19 1 [(3, .ref 0), (6, .sl true TEntry x0_0), (7, .int .i64 x0_1), (8, .int .i64 x0_2)] [(0, .own false .str x0_3)])
theorem s0 (n0 : Nat) (x0_0 : List (Ty.den TEntry)) (x0_1 : Int) (x0_2 : Int) (x0_3 : List ByteArray) : V0 k a0 (n0 + 1) x0_0 x0_1 x0_2 x0_3 = b0 k (V0 k a0 n0) x0_0 x0_1 x0_2 x0_3 := by kernel_rfl
theorem e0 (n0 : Nat) : V0 k a0 n0 = l0 k n0 := loop_eq (V := V0 k a0) (l := l0 k) rfl (fun n0 => funext fun x0_0 => funext fun x0_1 => funext fun x0_2 => funext fun x0_3 => s0 k a0 n0 x0_0 x0_1 x0_2 x0_3) (fun _ => rfl) n0
end
theorem eq (k : Nat) (a0 : List (Ty.den TEntry)) : run (E k) Tryz.f118 [.val (.slice TEntry)] [(.slice .str)] true false (a0, ()) = f k a0 := (show _ = t k (V0 k a0 k) a0 by kernel_rfl).trans (by rw [e0]; rfl)
theorem ctr (k : Nat) : Ctr J Tryz.prog 118 (C k) :=
  run_ctr (E := E k) mixed tb_ok (eqOk_of tb_eqs) Cts.nil (by kernel_rfl) Tryz.func118 (by kernel_rfl) rfl (fun ⟨a0, _⟩ r h => (eq k a0).trans h)
end impl_DirKeys
namespace impl_DirGet
def C (k : Nat) : Cn := ⟨[.val (.slice TEntry), .val .str], [TEntry, .bool], true, false, fun x => f k x.1 x.2.1⟩
def E (k : Nat) : Env := ⟨tb, [], [(2, [1, 4, 8, 9, 10])], k, 0, []⟩
section
variable (k : Nat) (a0 : List (Ty.den TEntry)) (a1 : ByteArray)
noncomputable def K0 : Ex → St → Option ((Ty.den TEntry) × Bool × Unit) := runK (E k) (endK (E k) Tryz.f71.results.toList [.val (.slice TEntry), .val .str] (a0, a1, ()) [TEntry, .bool] true false) [.blk 0, .code (at_ (bt 2 3) (body Tryz.f71))]
noncomputable def V0 (n0 : Nat) (x0_0 : ByteArray) (x0_1 : List (Ty.den TEntry)) (x0_2 : Int) (x0_3 : Int) (x0_4 : ByteArray) (x0_5 : Int) (x0_6 : Int) (x0_7 : Int) (x0_8 : Int) : Option ((Ty.den TEntry) × Bool × Unit) := loopN (exec (E k) (at_ (bt 5 5) (body Tryz.f71))) (canon 0 [1, 4, 8, 9, 10]) (K0 k a0 a1) n0 (mk 21 1 [(1, .str x0_0), (4, .ptr 0 0 0), (8, .sl true TEntry x0_1), (9, .int .i64 x0_2), (10, .int .i64 x0_3)] [(0, .box [.str x0_4, .int .i64 x0_5, .int .i64 x0_6, .int .i64 x0_7, .int .i64 x0_8])])
theorem s0 (n0 : Nat) (x0_0 : ByteArray) (x0_1 : List (Ty.den TEntry)) (x0_2 : Int) (x0_3 : Int) (x0_4 : ByteArray) (x0_5 : Int) (x0_6 : Int) (x0_7 : Int) (x0_8 : Int) : V0 k a0 a1 (n0 + 1) x0_0 x0_1 x0_2 x0_3 x0_4 x0_5 x0_6 x0_7 x0_8 = b0 k (V0 k a0 a1 n0) x0_0 x0_1 x0_2 x0_3 x0_4 x0_5 x0_6 x0_7 x0_8 := by kernel_rfl
theorem e0 (n0 : Nat) : V0 k a0 a1 n0 = l0 k n0 := loop_eq (V := V0 k a0 a1) (l := l0 k) rfl (fun n0 => funext fun x0_0 => funext fun x0_1 => funext fun x0_2 => funext fun x0_3 => funext fun x0_4 => funext fun x0_5 => funext fun x0_6 => funext fun x0_7 => funext fun x0_8 => s0 k a0 a1 n0 x0_0 x0_1 x0_2 x0_3 x0_4 x0_5 x0_6 x0_7 x0_8) (fun _ => rfl) n0
end
theorem eq (k : Nat) (a0 : List (Ty.den TEntry)) (a1 : ByteArray) : run (E k) Tryz.f71 [.val (.slice TEntry), .val .str] [TEntry, .bool] true false (a0, a1, ()) = f k a0 a1 := (show _ = t k (V0 k a0 a1 k) a0 a1 by kernel_rfl).trans (by rw [e0]; rfl)
theorem ctr (k : Nat) : Ctr J Tryz.prog 71 (C k) :=
  run_ctr (E := E k) mixed tb_ok (eqOk_of tb_eqs) Cts.nil (by kernel_rfl) Tryz.func71 (by kernel_rfl) rfl (fun ⟨a0, a1, _⟩ r h => (eq k a0 a1).trans h)
end impl_DirGet
namespace impl_in
def C (k : Nat) : Cn := ⟨[.val (.int .i64), .val (.int .i64), .val (.int .i64)], [.bool], true, false, fun x => f k x.1 x.2.1 x.2.2.1⟩
def E (k : Nat) : Env := ⟨tb, [], [], k, 0, []⟩
theorem eq (k : Nat) (a0 : Int) (a1 : Int) (a2 : Int) : run (E k) Tryz.f61 [.val (.int .i64), .val (.int .i64), .val (.int .i64)] [.bool] true false (a0, a1, a2, ()) = f k a0 a1 a2 := by kernel_rfl
theorem ctr (k : Nat) : Ctr J Tryz.prog 61 (C k) :=
  run_ctr (E := E k) mixed tb_ok (eqOk_of tb_eqs) Cts.nil (by kernel_rfl) Tryz.func61 (by kernel_rfl) rfl (fun ⟨a0, a1, a2, _⟩ r h => (eq k a0 a1 a2).trans h)
end impl_in
namespace impl_Dec
def C (k : Nat) : Cn := ⟨[.val (.int .i64)], [.str], true, false, fun x => f k x.1⟩
def E (k : Nat) : Env := ⟨tb, [(185, lib_Itoa.C k)], [], k, 0, []⟩
theorem eq (k : Nat) (a0 : Int) : run (E k) Tryz.f173 [.val (.int .i64)] [.str] true false (a0, ()) = f k a0 := by kernel_rfl
theorem ctr (k : Nat) : Ctr J Tryz.prog 173 (C k) :=
  run_ctr (E := E k) mixed tb_ok (eqOk_of tb_eqs) (Cts.cons (lib_Itoa.ctr k) Cts.nil) (by kernel_rfl) Tryz.func173 (by kernel_rfl) rfl (fun ⟨a0, _⟩ r h => (eq k a0).trans h)
end impl_Dec
namespace impl_named
def C (k : Nat) : Cn := ⟨[.val .str, .val (.int .i64)], [.str], true, false, fun x => f k x.1 x.2.1⟩
def E (k : Nat) : Env := ⟨tb, [(61, impl_in.C k), (173, impl_Dec.C k)], [], k, 0, []⟩
theorem eq (k : Nat) (a0 : ByteArray) (a1 : Int) : run (E k) Tryz.f139 [.val .str, .val (.int .i64)] [.str] true false (a0, a1, ()) = f k a0 a1 := by kernel_rfl
theorem ctr (k : Nat) : Ctr J Tryz.prog 139 (C k) :=
  run_ctr (E := E k) mixed tb_ok (eqOk_of tb_eqs) (Cts.cons (impl_in.ctr k) (Cts.cons (impl_Dec.ctr k) Cts.nil)) (by kernel_rfl) Tryz.func139 (by kernel_rfl) rfl (fun ⟨a0, a1, _⟩ r h => (eq k a0 a1).trans h)
end impl_named
namespace impl_SegName
def C (k : Nat) : Cn := ⟨[.val (.int .i64)], [.str], true, false, fun x => f k x.1⟩
def E (k : Nat) : Env := ⟨tb, [(139, impl_named.C k)], [], k, 0, []⟩
theorem eq (k : Nat) (a0 : Int) : run (E k) Tryz.f84 [.val (.int .i64)] [.str] true false (a0, ()) = f k a0 := by kernel_rfl
theorem ctr (k : Nat) : Ctr J Tryz.prog 84 (C k) :=
  run_ctr (E := E k) mixed tb_ok (eqOk_of tb_eqs) (Cts.cons (impl_named.ctr k) Cts.nil) (by kernel_rfl) Tryz.func84 (by kernel_rfl) rfl (fun ⟨a0, _⟩ r h => (eq k a0).trans h)
end impl_SegName
namespace impl_fileAt
def C (k : Nat) : Cn := ⟨[.val TDisk, .val .str], [(.int .i64)], true, false, fun x => f k x.1 x.2.1⟩
def E (k : Nat) : Env := ⟨tb, [], [(2, [1, 8, 9, 10])], k, 0, []⟩
section
variable (k : Nat) (a0 : Ty.den TDisk) (a1 : ByteArray)
noncomputable def K0 : Ex → St → Option (Int × Unit) := runK (E k) (endK (E k) Tryz.f138.results.toList [.val TDisk, .val .str] (a0, a1, ()) [(.int .i64)] true false) [.blk 0, .code (at_ (bt 2 3) (body Tryz.f138))]
noncomputable def V0 (n0 : Nat) (x0_0 : ByteArray) (x0_1 : List (Ty.den TPair)) (x0_2 : Int) (x0_3 : Int) : Option (Int × Unit) := loopN (exec (E k) (at_ (bt 5 5) (body Tryz.f138))) (canon 0 [1, 8, 9, 10]) (K0 k a0 a1) n0 (mk 21 0 [(1, .str x0_0), (8, .sl true TPair x0_1), (9, .int .i64 x0_2), (10, .int .i64 x0_3)] [])
theorem s0 (n0 : Nat) (x0_0 : ByteArray) (x0_1 : List (Ty.den TPair)) (x0_2 : Int) (x0_3 : Int) : V0 k a0 a1 (n0 + 1) x0_0 x0_1 x0_2 x0_3 = b0 k (V0 k a0 a1 n0) x0_0 x0_1 x0_2 x0_3 := by kernel_rfl
theorem e0 (n0 : Nat) : V0 k a0 a1 n0 = l0 k n0 := loop_eq (V := V0 k a0 a1) (l := l0 k) rfl (fun n0 => funext fun x0_0 => funext fun x0_1 => funext fun x0_2 => funext fun x0_3 => s0 k a0 a1 n0 x0_0 x0_1 x0_2 x0_3) (fun _ => rfl) n0
end
theorem eq (k : Nat) (a0 : Ty.den TDisk) (a1 : ByteArray) : run (E k) Tryz.f138 [.val TDisk, .val .str] [(.int .i64)] true false (a0, a1, ()) = f k a0 a1 := (show _ = t k (V0 k a0 a1 k) a0 a1 by kernel_rfl).trans (by rw [e0]; rfl)
theorem ctr (k : Nat) : Ctr J Tryz.prog 138 (C k) :=
  run_ctr (E := E k) mixed tb_ok (eqOk_of tb_eqs) Cts.nil (by kernel_rfl) Tryz.func138 (by kernel_rfl) rfl (fun ⟨a0, a1, _⟩ r h => (eq k a0 a1).trans h)
end impl_fileAt
namespace impl_NameOk
def C (k : Nat) : Cn := ⟨[.val .str], [.bool], true, false, fun x => f k x.1⟩
def E (k : Nat) : Env := ⟨tb, [(61, impl_in.C k)], [(2, [0, 3])], k, 0, []⟩
section
variable (k : Nat) (a0 : ByteArray)
noncomputable def K0 : Ex → St → Option (Bool × Unit) := runK (E k) (endK (E k) Tryz.f164.results.toList [.val .str] (a0, ()) [.bool] true false) [.blk 0, .code (at_ (bt 2 3) (body Tryz.f164))]
noncomputable def V0 (n0 : Nat) (x0_0 : ByteArray) (x0_1 : Int) : Option (Bool × Unit) := loopN (exec (E k) (at_ (bt 5 5) (body Tryz.f164))) (canon 0 [0, 3]) (K0 k a0) n0 (mk 37 0 [(0, .str x0_0), (3, .int .i64 x0_1)] [])
theorem s0 (n0 : Nat) (x0_0 : ByteArray) (x0_1 : Int) : V0 k a0 (n0 + 1) x0_0 x0_1 = b0 k (V0 k a0 n0) x0_0 x0_1 := by kernel_rfl
theorem e0 (n0 : Nat) : V0 k a0 n0 = l0 k n0 := loop_eq (V := V0 k a0) (l := l0 k) rfl (fun n0 => funext fun x0_0 => funext fun x0_1 => s0 k a0 n0 x0_0 x0_1) (fun _ => rfl) n0
end
theorem eq (k : Nat) (a0 : ByteArray) : run (E k) Tryz.f164 [.val .str] [.bool] true false (a0, ()) = f k a0 := (show _ = t k (V0 k a0 k) a0 by kernel_rfl).trans (by rw [e0]; rfl)
theorem ctr (k : Nat) : Ctr J Tryz.prog 164 (C k) :=
  run_ctr (E := E k) mixed tb_ok (eqOk_of tb_eqs) (Cts.cons (impl_in.ctr k) Cts.nil) (by kernel_rfl) Tryz.func164 (by kernel_rfl) rfl (fun ⟨a0, _⟩ r h => (eq k a0).trans h)
end impl_NameOk
namespace impl_DiskOk
def C (k : Nat) : Cn := ⟨[.val TDisk], [.bool], true, false, fun x => f k x.1⟩
def E (k : Nat) : Env := ⟨tb, [(61, impl_in.C k), (164, impl_NameOk.C k)], [(5, [1, 3, 23, 24, 25])], k, 0, []⟩
section
variable (k : Nat) (a0 : Ty.den TDisk)
noncomputable def K0 : Ex → St → Option (Bool × Unit) := runK (E k) (endK (E k) Tryz.f119.results.toList [.val TDisk] (a0, ()) [.bool] true false) [.blk 0, .code (at_ (bt 4 15) (body Tryz.f119))]
noncomputable def V0 (n0 : Nat) (x0_0 : Int) (x0_1 : List (Ty.den TPair)) (x0_2 : Int) (x0_3 : Int) (x0_4 : List (Ty.den TPair)) (x0_5 : Int) (x0_6 : Int) (x0_7 : Bool) : Option (Bool × Unit) := loopN (exec (E k) (at_ (bt 7 23) (body Tryz.f119))) (canon 0 [1, 3, 23, 24, 25]) (K0 k a0) n0 (mk 69 1 [(1, .ptr 0 0 0), (3, .int .i64 x0_0), (23, .sl true TPair x0_1), (24, .int .i64 x0_2), (25, .int .i64 x0_3)] [(0, .box [.sl true TPair x0_4, .int .i64 x0_5, .int .i64 x0_6, .bool x0_7])])
theorem s0 (n0 : Nat) (x0_0 : Int) (x0_1 : List (Ty.den TPair)) (x0_2 : Int) (x0_3 : Int) (x0_4 : List (Ty.den TPair)) (x0_5 : Int) (x0_6 : Int) (x0_7 : Bool) : V0 k a0 (n0 + 1) x0_0 x0_1 x0_2 x0_3 x0_4 x0_5 x0_6 x0_7 = b0 k (V0 k a0 n0) x0_0 x0_1 x0_2 x0_3 x0_4 x0_5 x0_6 x0_7 := by kernel_rfl
theorem e0 (n0 : Nat) : V0 k a0 n0 = l0 k n0 := loop_eq (V := V0 k a0) (l := l0 k) rfl (fun n0 => funext fun x0_0 => funext fun x0_1 => funext fun x0_2 => funext fun x0_3 => funext fun x0_4 => funext fun x0_5 => funext fun x0_6 => funext fun x0_7 => s0 k a0 n0 x0_0 x0_1 x0_2 x0_3 x0_4 x0_5 x0_6 x0_7) (fun _ => rfl) n0
end
theorem eq (k : Nat) (a0 : Ty.den TDisk) : run (E k) Tryz.f119 [.val TDisk] [.bool] true false (a0, ()) = f k a0 := (show _ = t k (V0 k a0 k) a0 by kernel_rfl).trans (by rw [e0]; rfl)
theorem ctr (k : Nat) : Ctr J Tryz.prog 119 (C k) :=
  run_ctr (E := E k) mixed tb_ok (eqOk_of tb_eqs) (Cts.cons (impl_in.ctr k) (Cts.cons (impl_NameOk.ctr k) Cts.nil)) (by kernel_rfl) Tryz.func119 (by kernel_rfl) rfl (fun ⟨a0, _⟩ r h => (eq k a0).trans h)
end impl_DiskOk
namespace impl_FileText
def C (k : Nat) : Cn := ⟨[.val TDisk, .val .str], [.str, .bool], true, false, fun x => f k x.1 x.2.1⟩
def E (k : Nat) : Env := ⟨tb, [(138, impl_fileAt.C k), (119, impl_DiskOk.C k)], [], k, 0, []⟩
theorem eq (k : Nat) (a0 : Ty.den TDisk) (a1 : ByteArray) : run (E k) Tryz.f83 [.val TDisk, .val .str] [.str, .bool] true false (a0, a1, ()) = f k a0 a1 := by kernel_rfl
theorem ctr (k : Nat) : Ctr J Tryz.prog 83 (C k) :=
  run_ctr (E := E k) mixed tb_ok (eqOk_of tb_eqs) (Cts.cons (impl_fileAt.ctr k) (Cts.cons (impl_DiskOk.ctr k) Cts.nil)) (by kernel_rfl) Tryz.func83 (by kernel_rfl) rfl (fun ⟨a0, a1, _⟩ r h => (eq k a0 a1).trans h)
end impl_FileText
namespace impl_ReadVar
def C (k : Nat) : Cn := ⟨[.val .str], [(.int .i64), (.int .i64)], true, false, fun x => f k x.1⟩
def E (k : Nat) : Env := ⟨tb, [], [(3, [0, 4, 5])], k, 0, []⟩
section
variable (k : Nat) (a0 : ByteArray)
noncomputable def K0 : Ex → St → Option (Int × Int × Unit) := runK (E k) (endK (E k) Tryz.f179.results.toList [.val .str] (a0, ()) [(.int .i64), (.int .i64)] true false) [.blk 0, .code (at_ (bt 3 7) (body Tryz.f179))]
noncomputable def V0 (n0 : Nat) (x0_0 : ByteArray) (x0_1 : Int) (x0_2 : Int) : Option (Int × Int × Unit) := loopN (exec (E k) (at_ (bt 6 11) (body Tryz.f179))) (canon 0 [0, 4, 5]) (K0 k a0) n0 (mk 39 0 [(0, .str x0_0), (4, .int .i64 x0_1), (5, .int .i64 x0_2)] [])
theorem s0 (n0 : Nat) (x0_0 : ByteArray) (x0_1 : Int) (x0_2 : Int) : V0 k a0 (n0 + 1) x0_0 x0_1 x0_2 = b0 k (V0 k a0 n0) x0_0 x0_1 x0_2 := by kernel_rfl
theorem e0 (n0 : Nat) : V0 k a0 n0 = l0 k n0 := loop_eq (V := V0 k a0) (l := l0 k) rfl (fun n0 => funext fun x0_0 => funext fun x0_1 => funext fun x0_2 => s0 k a0 n0 x0_0 x0_1 x0_2) (fun _ => rfl) n0
end
theorem eq (k : Nat) (a0 : ByteArray) : run (E k) Tryz.f179 [.val .str] [(.int .i64), (.int .i64)] true false (a0, ()) = f k a0 := (show _ = t k (V0 k a0 k) a0 by kernel_rfl).trans (by rw [e0]; rfl)
theorem ctr (k : Nat) : Ctr J Tryz.prog 179 (C k) :=
  run_ctr (E := E k) mixed tb_ok (eqOk_of tb_eqs) Cts.nil (by kernel_rfl) Tryz.func179 (by kernel_rfl) rfl (fun ⟨a0, _⟩ r h => (eq k a0).trans h)
end impl_ReadVar
namespace impl_Var
def C (k : Nat) : Cn := ⟨[.val (.int .i64)], [.str], true, false, fun x => f k x.1⟩
def E (k : Nat) : Env := ⟨tb, [(61, impl_in.C k)], [(4, [0, 3])], k, 0, []⟩
section
variable (k : Nat) (a0 : Int)
noncomputable def K0 : Ex → St → Option (ByteArray × Unit) := runK (E k) (endK (E k) Tryz.f172.results.toList [.val (.int .i64)] (a0, ()) [.str] true false) [.blk 0, .code (at_ (bt 4 15) (body Tryz.f172))]
noncomputable def V0 (n0 : Nat) (x0_0 : Int) (x0_1 : List Int) : Option (ByteArray × Unit) := loopN (exec (E k) (at_ (bt 6 7) (body Tryz.f172))) (canon 0 [0, 3]) (K0 k a0) n0 (mk 24 1 [(0, .int .i64 x0_0), (3, .ref 0)] [(0, .own false (.int .u8) x0_1)])
theorem s0 (n0 : Nat) (x0_0 : Int) (x0_1 : List Int) : V0 k a0 (n0 + 1) x0_0 x0_1 = b0 k (V0 k a0 n0) x0_0 x0_1 := by kernel_rfl
theorem e0 (n0 : Nat) : V0 k a0 n0 = l0 k n0 := loop_eq (V := V0 k a0) (l := l0 k) rfl (fun n0 => funext fun x0_0 => funext fun x0_1 => s0 k a0 n0 x0_0 x0_1) (fun _ => rfl) n0
end
theorem eq (k : Nat) (a0 : Int) : run (E k) Tryz.f172 [.val (.int .i64)] [.str] true false (a0, ()) = f k a0 := (show _ = t k (V0 k a0 k) a0 by kernel_rfl).trans (by rw [e0]; rfl)
theorem ctr (k : Nat) : Ctr J Tryz.prog 172 (C k) :=
  run_ctr (E := E k) mixed tb_ok (eqOk_of tb_eqs) (Cts.cons (impl_in.ctr k) Cts.nil) (by kernel_rfl) Tryz.func172 (by kernel_rfl) rfl (fun ⟨a0, _⟩ r h => (eq k a0).trans h)
end impl_Var
namespace impl_textOf
def C (k : Nat) : Cn := ⟨[.val .str], [.str], true, false, fun x => f k x.1⟩
def E (k : Nat) : Env := ⟨tb, [(172, impl_Var.C k)], [], k, 0, []⟩
theorem eq (k : Nat) (a0 : ByteArray) : run (E k) Tryz.f167 [.val .str] [.str] true false (a0, ()) = f k a0 := by kernel_rfl
theorem ctr (k : Nat) : Ctr J Tryz.prog 167 (C k) :=
  run_ctr (E := E k) mixed tb_ok (eqOk_of tb_eqs) (Cts.cons (impl_Var.ctr k) Cts.nil) (by kernel_rfl) Tryz.func167 (by kernel_rfl) rfl (fun ⟨a0, _⟩ r h => (eq k a0).trans h)
end impl_textOf
namespace impl_Crc
def C (k : Nat) : Cn := ⟨[.val .str], [(.int .i64)], true, false, fun x => f k x.1⟩
def E (k : Nat) : Env := ⟨tb, [], [(3, [0, 3, 4]), (7, [0, 3, 4, 18])], k, 0, []⟩
section
variable (k : Nat) (a0 : ByteArray)
noncomputable def K0 : Ex → St → Option (Int × Unit) := runK (E k) (endK (E k) Tryz.f169.results.toList [.val .str] (a0, ()) [(.int .i64)] true false) [.blk 0, .code (at_ (bt 3 7) (body Tryz.f169))]
noncomputable def B0 (n0 : Nat) : Ex → St → Option (Int × Unit) := lpK (E k) (at_ (bt 6 11) (body Tryz.f169)) 0 [0, 3, 4] (K0 k a0) n0
noncomputable def K1 (n0 : Nat) : Ex → St → Option (Int × Unit) := runK (E k) (B0 k a0 n0) [.blk 2, .blk 1, .code (at_ (bt 8 203) (body Tryz.f169))]
noncomputable def V0 (n0 : Nat) (x0_0 : ByteArray) (x0_1 : Int) (x0_2 : Int) : Option (Int × Unit) := loopN (exec (E k) (at_ (bt 6 11) (body Tryz.f169))) (canon 0 [0, 3, 4]) (K0 k a0) n0 (mk 32 0 [(0, .str x0_0), (3, .int .u32 x0_1), (4, .int .i64 x0_2)] [])
noncomputable def V1 (n0 n1 : Nat) (x1_0 : ByteArray) (x1_1 : Int) (x1_2 : Int) (x1_3 : Int) : Option (Int × Unit) := loopN (exec (E k) (at_ (bt 13 1611) (body Tryz.f169))) (canon 0 [0, 3, 4, 18]) (K1 k a0 n0) n1 (mk 32 0 [(0, .str x1_0), (3, .int .u32 x1_1), (4, .int .i64 x1_2), (18, .int .i64 x1_3)] [])
theorem s0 (n0 : Nat) (x0_0 : ByteArray) (x0_1 : Int) (x0_2 : Int) : V0 k a0 (n0 + 1) x0_0 x0_1 x0_2 = b0 k (V1 k a0 n0 k) (V0 k a0 n0) x0_0 x0_1 x0_2 := by kernel_rfl
theorem s1 (n0 n1 : Nat) (x1_0 : ByteArray) (x1_1 : Int) (x1_2 : Int) (x1_3 : Int) : V1 k a0 n0 (n1 + 1) x1_0 x1_1 x1_2 x1_3 = b1 k (V0 k a0 n0) (V1 k a0 n0 n1) x1_0 x1_1 x1_2 x1_3 := by kernel_rfl
theorem e1 (n0 n1 : Nat) : V1 k a0 n0 n1 = l1 k (V0 k a0 n0) n1 := loop_eq (V := V1 k a0 n0) (l := l1 k (V0 k a0 n0)) rfl (fun n1 => funext fun x1_0 => funext fun x1_1 => funext fun x1_2 => funext fun x1_3 => s1 k a0 n0 n1 x1_0 x1_1 x1_2 x1_3) (fun _ => rfl) n1
theorem e0 (n0 : Nat) : V0 k a0 n0 = l0 k n0 := by
  induction n0 with
  | zero => rfl
  | succ n0 ih =>
    have h : V0 k a0 (n0 + 1) = b0 k (V1 k a0 n0 k) (V0 k a0 n0) := funext fun x0_0 => funext fun x0_1 => funext fun x0_2 => s0 k a0 n0 x0_0 x0_1 x0_2
    rw [h, e1, ih]
    rfl
end
theorem eq (k : Nat) (a0 : ByteArray) : run (E k) Tryz.f169 [.val .str] [(.int .i64)] true false (a0, ()) = f k a0 := (show _ = t k (V0 k a0 k) a0 by kernel_rfl).trans (by rw [e0]; rfl)
theorem ctr (k : Nat) : Ctr J Tryz.prog 169 (C k) :=
  run_ctr (E := E k) mixed tb_ok (eqOk_of tb_eqs) Cts.nil (by kernel_rfl) Tryz.func169 (by kernel_rfl) rfl (fun ⟨a0, _⟩ r h => (eq k a0).trans h)
end impl_Crc
namespace impl_Fixed
def C (k : Nat) : Cn := ⟨[.val (.int .i64), .val (.int .i64)], [.str], true, false, fun x => f k x.1 x.2.1⟩
def E (k : Nat) : Env := ⟨tb, [(61, impl_in.C k)], [(5, [0, 5, 6])], k, 0, []⟩
section
variable (k : Nat) (a0 : Int) (a1 : Int)
noncomputable def K0 : Ex → St → Option (ByteArray × Unit) := runK (E k) (endK (E k) Tryz.f168.results.toList [.val (.int .i64), .val (.int .i64)] (a0, a1, ()) [.str] true false) [.blk 0, .code (at_ (bt 4 15) (body Tryz.f168))]
noncomputable def V0 (n0 : Nat) (x0_0 : Int) (x0_1 : Int) (x0_2 : List Int) : Option (ByteArray × Unit) := loopN (exec (E k) (at_ (bt 7 23) (body Tryz.f168))) (canon 0 [0, 5, 6]) (K0 k a0 a1) n0 (mk 35 1 [(0, .int .i64 x0_0), (5, .ref 0), (6, .int .i64 x0_1)] [(0, .own false (.int .u8) x0_2)])
theorem s0 (n0 : Nat) (x0_0 : Int) (x0_1 : Int) (x0_2 : List Int) : V0 k a0 a1 (n0 + 1) x0_0 x0_1 x0_2 = b0 k (V0 k a0 a1 n0) x0_0 x0_1 x0_2 := by kernel_rfl
theorem e0 (n0 : Nat) : V0 k a0 a1 n0 = l0 k n0 := loop_eq (V := V0 k a0 a1) (l := l0 k) rfl (fun n0 => funext fun x0_0 => funext fun x0_1 => funext fun x0_2 => s0 k a0 a1 n0 x0_0 x0_1 x0_2) (fun _ => rfl) n0
end
theorem eq (k : Nat) (a0 : Int) (a1 : Int) : run (E k) Tryz.f168 [.val (.int .i64), .val (.int .i64)] [.str] true false (a0, a1, ()) = f k a0 a1 := (show _ = t k (V0 k a0 a1 k) a0 a1 by kernel_rfl).trans (by rw [e0]; rfl)
theorem ctr (k : Nat) : Ctr J Tryz.prog 168 (C k) :=
  run_ctr (E := E k) mixed tb_ok (eqOk_of tb_eqs) (Cts.cons (impl_in.ctr k) Cts.nil) (by kernel_rfl) Tryz.func168 (by kernel_rfl) rfl (fun ⟨a0, a1, _⟩ r h => (eq k a0 a1).trans h)
end impl_Fixed
namespace impl_Frame
def C (k : Nat) : Cn := ⟨[.val .str], [.str], true, false, fun x => f k x.1⟩
def E (k : Nat) : Env := ⟨tb, [(167, impl_textOf.C k), (169, impl_Crc.C k), (168, impl_Fixed.C k)], [], k, 0, []⟩
theorem eq (k : Nat) (a0 : ByteArray) : run (E k) Tryz.f124 [.val .str] [.str] true false (a0, ()) = f k a0 := by kernel_rfl
theorem ctr (k : Nat) : Ctr J Tryz.prog 124 (C k) :=
  run_ctr (E := E k) mixed tb_ok (eqOk_of tb_eqs) (Cts.cons (impl_textOf.ctr k) (Cts.cons (impl_Crc.ctr k) (Cts.cons (impl_Fixed.ctr k) Cts.nil))) (by kernel_rfl) Tryz.func124 (by kernel_rfl) rfl (fun ⟨a0, _⟩ r h => (eq k a0).trans h)
end impl_Frame
namespace impl_Unframe
def C (k : Nat) : Cn := ⟨[.val .str], [.str, (.int .i64)], true, false, fun x => f k x.1⟩
def E (k : Nat) : Env := ⟨tb, [(179, impl_ReadVar.C k), (124, impl_Frame.C k)], [], k, 0, []⟩
theorem eq (k : Nat) (a0 : ByteArray) : run (E k) Tryz.f150 [.val .str] [.str, (.int .i64)] true false (a0, ()) = f k a0 := by kernel_rfl
theorem ctr (k : Nat) : Ctr J Tryz.prog 150 (C k) :=
  run_ctr (E := E k) mixed tb_ok (eqOk_of tb_eqs) (Cts.cons (impl_ReadVar.ctr k) (Cts.cons (impl_Frame.ctr k) Cts.nil)) (by kernel_rfl) Tryz.func150 (by kernel_rfl) rfl (fun ⟨a0, _⟩ r h => (eq k a0).trans h)
end impl_Unframe
namespace impl_scanner__num
def C (k : Nat) : Cn := ⟨[.io true Tscanner], [(.int .i64)], true, false, fun x => f k x.1⟩
def E (k : Nat) : Env := ⟨tb, [(179, impl_ReadVar.C k)], [], k, 1, []⟩
theorem eq (k : Nat) (a0 : Ty.den Tscanner) : run (E k) Tryz.f151 [.io true Tscanner] [(.int .i64)] true false (a0, ()) = f k a0 := by kernel_rfl
theorem ctr (k : Nat) : Ctr J Tryz.prog 151 (C k) :=
  run_ctr (E := E k) mixed tb_ok (eqOk_of tb_eqs) (Cts.cons (impl_ReadVar.ctr k) Cts.nil) (by kernel_rfl) Tryz.func151 (by kernel_rfl) rfl (fun ⟨a0, _⟩ r h => (eq k a0).trans h)
end impl_scanner__num
namespace impl_scanner__bytes
def C (k : Nat) : Cn := ⟨[.io true Tscanner, .val (.int .i64)], [.str], true, false, fun x => f k x.1 x.2.1⟩
def E (k : Nat) : Env := ⟨tb, [], [], k, 1, []⟩
theorem eq (k : Nat) (a0 : Ty.den Tscanner) (a1 : Int) : run (E k) Tryz.f184 [.io true Tscanner, .val (.int .i64)] [.str] true false (a0, a1, ()) = f k a0 a1 := by kernel_rfl
theorem ctr (k : Nat) : Ctr J Tryz.prog 184 (C k) :=
  run_ctr (E := E k) mixed tb_ok (eqOk_of tb_eqs) Cts.nil (by kernel_rfl) Tryz.func184 (by kernel_rfl) rfl (fun ⟨a0, a1, _⟩ r h => (eq k a0 a1).trans h)
end impl_scanner__bytes
namespace impl_scanner__text
def C (k : Nat) : Cn := ⟨[.io true Tscanner], [.str], true, false, fun x => f k x.1⟩
def E (k : Nat) : Env := ⟨tb, [(151, impl_scanner__num.C k), (184, impl_scanner__bytes.C k)], [], k, 1, []⟩
theorem eq (k : Nat) (a0 : Ty.den Tscanner) : run (E k) Tryz.f182 [.io true Tscanner] [.str] true false (a0, ()) = f k a0 := by kernel_rfl
theorem ctr (k : Nat) : Ctr J Tryz.prog 182 (C k) :=
  run_ctr (E := E k) mixed tb_ok (eqOk_of tb_eqs) (Cts.cons (impl_scanner__num.ctr k) (Cts.cons (impl_scanner__bytes.ctr k) Cts.nil)) (by kernel_rfl) Tryz.func182 (by kernel_rfl) rfl (fun ⟨a0, _⟩ r h => (eq k a0).trans h)
end impl_scanner__text
namespace impl_KeyOk
def C (k : Nat) : Cn := ⟨[.val .str], [.bool], true, false, fun x => f k x.1⟩
def E (k : Nat) : Env := ⟨tb, [(61, impl_in.C k)], [], k, 0, []⟩
theorem eq (k : Nat) (a0 : ByteArray) : run (E k) Tryz.f165 [.val .str] [.bool] true false (a0, ()) = f k a0 := by kernel_rfl
theorem ctr (k : Nat) : Ctr J Tryz.prog 165 (C k) :=
  run_ctr (E := E k) mixed tb_ok (eqOk_of tb_eqs) (Cts.cons (impl_in.ctr k) Cts.nil) (by kernel_rfl) Tryz.func165 (by kernel_rfl) rfl (fun ⟨a0, _⟩ r h => (eq k a0).trans h)
end impl_KeyOk
namespace impl_RecOk
def C (k : Nat) : Cn := ⟨[.val TRec], [.bool], true, false, fun x => f k x.1⟩
def E (k : Nat) : Env := ⟨tb, [(165, impl_KeyOk.C k), (61, impl_in.C k)], [], k, 0, []⟩
theorem eq (k : Nat) (a0 : Ty.den TRec) : run (E k) Tryz.f170 [.val TRec] [.bool] true false (a0, ()) = f k a0 := by kernel_rfl
theorem ctr (k : Nat) : Ctr J Tryz.prog 170 (C k) :=
  run_ctr (E := E k) mixed tb_ok (eqOk_of tb_eqs) (Cts.cons (impl_KeyOk.ctr k) (Cts.cons (impl_in.ctr k) Cts.nil)) (by kernel_rfl) Tryz.func170 (by kernel_rfl) rfl (fun ⟨a0, _⟩ r h => (eq k a0).trans h)
end impl_RecOk
namespace impl_ReadFixed
def C (k : Nat) : Cn := ⟨[.val .str, .val (.int .i64)], [(.int .i64), .bool], true, false, fun x => f k x.1 x.2.1⟩
def E (k : Nat) : Env := ⟨tb, [(61, impl_in.C k)], [(5, [0, 6, 17, 18])], k, 0, []⟩
section
variable (k : Nat) (a0 : ByteArray) (a1 : Int)
noncomputable def K0 : Ex → St → Option (Int × Bool × Unit) := runK (E k) (endK (E k) Tryz.f183.results.toList [.val .str, .val (.int .i64)] (a0, a1, ()) [(.int .i64), .bool] true false) [.blk 0, .code (at_ (bt 4 15) (body Tryz.f183))]
noncomputable def V0 (n0 : Nat) (x0_0 : ByteArray) (x0_1 : Int) (x0_2 : Int) (x0_3 : Int) : Option (Int × Bool × Unit) := loopN (exec (E k) (at_ (bt 7 23) (body Tryz.f183))) (canon 0 [0, 6, 17, 18]) (K0 k a0 a1) n0 (mk 30 0 [(0, .str x0_0), (6, .int .i64 x0_1), (17, .int .i64 x0_2), (18, .int .i64 x0_3)] [])
theorem s0 (n0 : Nat) (x0_0 : ByteArray) (x0_1 : Int) (x0_2 : Int) (x0_3 : Int) : V0 k a0 a1 (n0 + 1) x0_0 x0_1 x0_2 x0_3 = b0 k (V0 k a0 a1 n0) x0_0 x0_1 x0_2 x0_3 := by kernel_rfl
theorem e0 (n0 : Nat) : V0 k a0 a1 n0 = l0 k n0 := loop_eq (V := V0 k a0 a1) (l := l0 k) rfl (fun n0 => funext fun x0_0 => funext fun x0_1 => funext fun x0_2 => funext fun x0_3 => s0 k a0 a1 n0 x0_0 x0_1 x0_2 x0_3) (fun _ => rfl) n0
end
theorem eq (k : Nat) (a0 : ByteArray) (a1 : Int) : run (E k) Tryz.f183 [.val .str, .val (.int .i64)] [(.int .i64), .bool] true false (a0, a1, ()) = f k a0 a1 := (show _ = t k (V0 k a0 a1 k) a0 a1 by kernel_rfl).trans (by rw [e0]; rfl)
theorem ctr (k : Nat) : Ctr J Tryz.prog 183 (C k) :=
  run_ctr (E := E k) mixed tb_ok (eqOk_of tb_eqs) (Cts.cons (impl_in.ctr k) Cts.nil) (by kernel_rfl) Tryz.func183 (by kernel_rfl) rfl (fun ⟨a0, a1, _⟩ r h => (eq k a0 a1).trans h)
end impl_ReadFixed
namespace impl_ReadRec
def C (k : Nat) : Cn := ⟨[.val .str], [TRec, .bool], true, false, fun x => f k x.1⟩
def E (k : Nat) : Env := ⟨tb, [(151, impl_scanner__num.C k), (182, impl_scanner__text.C k), (170, impl_RecOk.C k), (184, impl_scanner__bytes.C k), (183, impl_ReadFixed.C k)], [], k, 0, []⟩
theorem eq (k : Nat) (a0 : ByteArray) : run (E k) Tryz.f153 [.val .str] [TRec, .bool] true false (a0, ()) = f k a0 := by kernel_rfl
theorem ctr (k : Nat) : Ctr J Tryz.prog 153 (C k) :=
  run_ctr (E := E k) mixed tb_ok (eqOk_of tb_eqs) (Cts.cons (impl_scanner__num.ctr k) (Cts.cons (impl_scanner__text.ctr k) (Cts.cons (impl_RecOk.ctr k) (Cts.cons (impl_scanner__bytes.ctr k) (Cts.cons (impl_ReadFixed.ctr k) Cts.nil))))) (by kernel_rfl) Tryz.func153 (by kernel_rfl) rfl (fun ⟨a0, _⟩ r h => (eq k a0).trans h)
end impl_ReadRec
namespace impl_RecAt
def C (k : Nat) : Cn := ⟨[.val .str, .val (.int .i64), .val (.int .i64)], [TRec, .bool], true, false, fun x => f k x.1 x.2.1 x.2.2.1⟩
def E (k : Nat) : Env := ⟨tb, [(61, impl_in.C k), (150, impl_Unframe.C k), (153, impl_ReadRec.C k)], [], k, 0, []⟩
theorem eq (k : Nat) (a0 : ByteArray) (a1 : Int) (a2 : Int) : run (E k) Tryz.f122 [.val .str, .val (.int .i64), .val (.int .i64)] [TRec, .bool] true false (a0, a1, a2, ()) = f k a0 a1 a2 := by kernel_rfl
theorem ctr (k : Nat) : Ctr J Tryz.prog 122 (C k) :=
  run_ctr (E := E k) mixed tb_ok (eqOk_of tb_eqs) (Cts.cons (impl_in.ctr k) (Cts.cons (impl_Unframe.ctr k) (Cts.cons (impl_ReadRec.ctr k) Cts.nil))) (by kernel_rfl) Tryz.func122 (by kernel_rfl) rfl (fun ⟨a0, a1, a2, _⟩ r h => (eq k a0 a1 a2).trans h)
end impl_RecAt
namespace impl_Get
def C (k : Nat) : Cn := ⟨[.val TStore, .val TDisk, .val .str], [TPair, (.int .i64)], true, false, fun x => f k x.1 x.2.1 x.2.2.1⟩
def E (k : Nat) : Env := ⟨tb, [(71, impl_DirGet.C k), (84, impl_SegName.C k), (83, impl_FileText.C k), (122, impl_RecAt.C k)], [], k, 0, []⟩
theorem eq (k : Nat) (a0 : Ty.den TStore) (a1 : Ty.den TDisk) (a2 : ByteArray) : run (E k) Tryz.f69 [.val TStore, .val TDisk, .val .str] [TPair, (.int .i64)] true false (a0, a1, a2, ()) = f k a0 a1 a2 := by kernel_rfl
theorem ctr (k : Nat) : Ctr J Tryz.prog 69 (C k) :=
  run_ctr (E := E k) mixed tb_ok (eqOk_of tb_eqs) (Cts.cons (impl_DirGet.ctr k) (Cts.cons (impl_SegName.ctr k) (Cts.cons (impl_FileText.ctr k) (Cts.cons (impl_RecAt.ctr k) Cts.nil)))) (by kernel_rfl) Tryz.func69 (by kernel_rfl) rfl (fun ⟨a0, a1, a2, _⟩ r h => (eq k a0 a1 a2).trans h)
end impl_Get
namespace impl_Dump
def C (k : Nat) : Cn := ⟨[.val TStore, .val TDisk], [(.slice TPair), (.int .i64)], true, false, fun x => f k x.1 x.2.1⟩
def E (k : Nat) : Env := ⟨tb, [(118, impl_DirKeys.C k), (69, impl_Get.C k)], [(3, [2, 3, 6, 13, 14, 15])], k, 0, []⟩
section
variable (k : Nat) (a0 : Ty.den TStore) (a1 : Ty.den TDisk)
noncomputable def K0 : Ex → St → Option ((List (Ty.den TPair)) × Int × Unit) := runK (E k) (endK (E k) Tryz.f53.results.toList [.val TStore, .val TDisk] (a0, a1, ()) [(.slice TPair), (.int .i64)] true false) [.blk 0, .code (at_ (bt 3 7) (body Tryz.f53))]
noncomputable def V0 (n0 : Nat) (x0_0 : Int) (x0_1 : Int) (x0_2 : Int) (x0_3 : List Int) (x0_4 : List (Ty.den TEntry)) (x0_5 : Int) (x0_6 : Int) (x0_7 : Int) (x0_8 : List (Ty.den TPair)) (x0_9 : Int) (x0_10 : Int) (x0_11 : Bool) (x0_12 : List (Ty.den TPair)) (x0_13 : List ByteArray) : Option ((List (Ty.den TPair)) × Int × Unit) := loopN (exec (E k) (at_ (bt 6 11) (body Tryz.f53))) (canon 0 [2, 3, 6, 13, 14, 15]) (K0 k a0 a1) n0 (mk 35 4 [(2, .ptr 0 0 0), (3, .ptr 1 0 0), (6, .ref 2), (13, .ref 3), (14, .int .i64 x0_0), (15, .int .i64 x0_1)] [(0, .box [.int .i64 x0_2, .sl true (.int .i64) x0_3, .sl true TEntry x0_4, .int .i64 x0_5, .int .i64 x0_6, .int .i64 x0_7]), (1, .box [.sl true TPair x0_8, .int .i64 x0_9, .int .i64 x0_10, .bool x0_11]), (2, .own false TPair x0_12), (3, .own false .str x0_13)])
theorem s0 (n0 : Nat) (x0_0 : Int) (x0_1 : Int) (x0_2 : Int) (x0_3 : List Int) (x0_4 : List (Ty.den TEntry)) (x0_5 : Int) (x0_6 : Int) (x0_7 : Int) (x0_8 : List (Ty.den TPair)) (x0_9 : Int) (x0_10 : Int) (x0_11 : Bool) (x0_12 : List (Ty.den TPair)) (x0_13 : List ByteArray) : V0 k a0 a1 (n0 + 1) x0_0 x0_1 x0_2 x0_3 x0_4 x0_5 x0_6 x0_7 x0_8 x0_9 x0_10 x0_11 x0_12 x0_13 = b0 k (V0 k a0 a1 n0) x0_0 x0_1 x0_2 x0_3 x0_4 x0_5 x0_6 x0_7 x0_8 x0_9 x0_10 x0_11 x0_12 x0_13 := by kernel_rfl
theorem e0 (n0 : Nat) : V0 k a0 a1 n0 = l0 k n0 := loop_eq (V := V0 k a0 a1) (l := l0 k) rfl (fun n0 => funext fun x0_0 => funext fun x0_1 => funext fun x0_2 => funext fun x0_3 => funext fun x0_4 => funext fun x0_5 => funext fun x0_6 => funext fun x0_7 => funext fun x0_8 => funext fun x0_9 => funext fun x0_10 => funext fun x0_11 => funext fun x0_12 => funext fun x0_13 => s0 k a0 a1 n0 x0_0 x0_1 x0_2 x0_3 x0_4 x0_5 x0_6 x0_7 x0_8 x0_9 x0_10 x0_11 x0_12 x0_13) (fun _ => rfl) n0
end
theorem eq (k : Nat) (a0 : Ty.den TStore) (a1 : Ty.den TDisk) : run (E k) Tryz.f53 [.val TStore, .val TDisk] [(.slice TPair), (.int .i64)] true false (a0, a1, ()) = f k a0 a1 := (show _ = t k (V0 k a0 a1 k) a0 a1 by kernel_rfl).trans (by rw [e0]; rfl)
theorem ctr (k : Nat) : Ctr J Tryz.prog 53 (C k) :=
  run_ctr (E := E k) mixed tb_ok (eqOk_of tb_eqs) (Cts.cons (impl_DirKeys.ctr k) (Cts.cons (impl_Get.ctr k) Cts.nil)) (by kernel_rfl) Tryz.func53 (by kernel_rfl) rfl (fun ⟨a0, a1, _⟩ r h => (eq k a0 a1).trans h)
end impl_Dump
namespace impl_LiveOk
def C (k : Nat) : Cn := ⟨[.val TLive], [.bool], true, false, fun x => f k x.1⟩
def E (k : Nat) : Env := ⟨tb, [(61, impl_in.C k)], [(2, [1, 6, 7, 8])], k, 0, []⟩
section
variable (k : Nat) (a0 : Ty.den TLive)
noncomputable def K0 : Ex → St → Option (Bool × Unit) := runK (E k) (endK (E k) Tryz.f120.results.toList [.val TLive] (a0, ()) [.bool] true false) [.blk 0, .code (at_ (bt 2 3) (body Tryz.f120))]
noncomputable def V0 (n0 : Nat) (x0_0 : List Int) (x0_1 : Int) (x0_2 : Int) (x0_3 : Int) (x0_4 : List Int) : Option (Bool × Unit) := loopN (exec (E k) (at_ (bt 5 5) (body Tryz.f120))) (canon 0 [1, 6, 7, 8]) (K0 k a0) n0 (mk 43 1 [(1, .ptr 0 0 0), (6, .sl true (.int .i64) x0_0), (7, .int .i64 x0_1), (8, .int .i64 x0_2)] [(0, .box [.int .i64 x0_3, .sl true (.int .i64) x0_4])])
theorem s0 (n0 : Nat) (x0_0 : List Int) (x0_1 : Int) (x0_2 : Int) (x0_3 : Int) (x0_4 : List Int) : V0 k a0 (n0 + 1) x0_0 x0_1 x0_2 x0_3 x0_4 = b0 k (V0 k a0 n0) x0_0 x0_1 x0_2 x0_3 x0_4 := by kernel_rfl
theorem e0 (n0 : Nat) : V0 k a0 n0 = l0 k n0 := loop_eq (V := V0 k a0) (l := l0 k) rfl (fun n0 => funext fun x0_0 => funext fun x0_1 => funext fun x0_2 => funext fun x0_3 => funext fun x0_4 => s0 k a0 n0 x0_0 x0_1 x0_2 x0_3 x0_4) (fun _ => rfl) n0
end
theorem eq (k : Nat) (a0 : Ty.den TLive) : run (E k) Tryz.f120 [.val TLive] [.bool] true false (a0, ()) = f k a0 := (show _ = t k (V0 k a0 k) a0 by kernel_rfl).trans (by rw [e0]; rfl)
theorem ctr (k : Nat) : Ctr J Tryz.prog 120 (C k) :=
  run_ctr (E := E k) mixed tb_ok (eqOk_of tb_eqs) (Cts.cons (impl_in.ctr k) Cts.nil) (by kernel_rfl) Tryz.func120 (by kernel_rfl) rfl (fun ⟨a0, _⟩ r h => (eq k a0).trans h)
end impl_LiveOk
namespace impl_DirOk
def C (k : Nat) : Cn := ⟨[.val (.slice TEntry)], [.bool], true, false, fun x => f k x.1⟩
def E (k : Nat) : Env := ⟨tb, [(165, impl_KeyOk.C k), (61, impl_in.C k)], [(2, [0, 5, 6, 7])], k, 0, []⟩
section
variable (k : Nat) (a0 : List (Ty.den TEntry))
noncomputable def K0 : Ex → St → Option (Bool × Unit) := runK (E k) (endK (E k) Tryz.f121.results.toList [.val (.slice TEntry)] (a0, ()) [.bool] true false) [.blk 0, .code (at_ (bt 2 3) (body Tryz.f121))]
noncomputable def V0 (n0 : Nat) (x0_0 : List (Ty.den TEntry)) (x0_1 : List (Ty.den TEntry)) (x0_2 : Int) (x0_3 : Int) : Option (Bool × Unit) := loopN (exec (E k) (at_ (bt 5 5) (body Tryz.f121))) (canon 0 [0, 5, 6, 7]) (K0 k a0) n0 (mk 58 0 [(0, .sl true TEntry x0_0), (5, .sl true TEntry x0_1), (6, .int .i64 x0_2), (7, .int .i64 x0_3)] [])
theorem s0 (n0 : Nat) (x0_0 : List (Ty.den TEntry)) (x0_1 : List (Ty.den TEntry)) (x0_2 : Int) (x0_3 : Int) : V0 k a0 (n0 + 1) x0_0 x0_1 x0_2 x0_3 = b0 k (V0 k a0 n0) x0_0 x0_1 x0_2 x0_3 := by kernel_rfl
theorem e0 (n0 : Nat) : V0 k a0 n0 = l0 k n0 := loop_eq (V := V0 k a0) (l := l0 k) rfl (fun n0 => funext fun x0_0 => funext fun x0_1 => funext fun x0_2 => funext fun x0_3 => s0 k a0 n0 x0_0 x0_1 x0_2 x0_3) (fun _ => rfl) n0
end
theorem eq (k : Nat) (a0 : List (Ty.den TEntry)) : run (E k) Tryz.f121 [.val (.slice TEntry)] [.bool] true false (a0, ()) = f k a0 := (show _ = t k (V0 k a0 k) a0 by kernel_rfl).trans (by rw [e0]; rfl)
theorem ctr (k : Nat) : Ctr J Tryz.prog 121 (C k) :=
  run_ctr (E := E k) mixed tb_ok (eqOk_of tb_eqs) (Cts.cons (impl_KeyOk.ctr k) (Cts.cons (impl_in.ctr k) Cts.nil)) (by kernel_rfl) Tryz.func121 (by kernel_rfl) rfl (fun ⟨a0, _⟩ r h => (eq k a0).trans h)
end impl_DirOk
namespace impl_ScanRecs
def C (k : Nat) : Cn := ⟨[.val .str], [(.slice TSpot), (.int .i64)], true, false, fun x => f k x.1⟩
def E (k : Nat) : Env := ⟨tb, [(150, impl_Unframe.C k), (153, impl_ReadRec.C k)], [(3, [0, 4, 5])], k, 0, []⟩
section
variable (k : Nat) (a0 : ByteArray)
noncomputable def K0 : Ex → St → Option ((List (Ty.den TSpot)) × Int × Unit) := runK (E k) (endK (E k) Tryz.f100.results.toList [.val .str] (a0, ()) [(.slice TSpot), (.int .i64)] true false) [.blk 0]
noncomputable def V0 (n0 : Nat) (x0_0 : ByteArray) (x0_1 : Int) (x0_2 : List (Ty.den TSpot)) : Option ((List (Ty.den TSpot)) × Int × Unit) := loopN (exec (E k) (at_ (bt 5 7) (body Tryz.f100))) (canon 0 [0, 4, 5]) (K0 k a0) n0 (mk 40 1 [(0, .str x0_0), (4, .ref 0), (5, .int .i64 x0_1)] [(0, .own false TSpot x0_2)])
theorem s0 (n0 : Nat) (x0_0 : ByteArray) (x0_1 : Int) (x0_2 : List (Ty.den TSpot)) : V0 k a0 (n0 + 1) x0_0 x0_1 x0_2 = b0 k (V0 k a0 n0) x0_0 x0_1 x0_2 := by kernel_rfl
theorem e0 (n0 : Nat) : V0 k a0 n0 = l0 k n0 := loop_eq (V := V0 k a0) (l := l0 k) rfl (fun n0 => funext fun x0_0 => funext fun x0_1 => funext fun x0_2 => s0 k a0 n0 x0_0 x0_1 x0_2) (fun _ => rfl) n0
end
theorem eq (k : Nat) (a0 : ByteArray) : run (E k) Tryz.f100 [.val .str] [(.slice TSpot), (.int .i64)] true false (a0, ()) = f k a0 := (show _ = t k (V0 k a0 k) a0 by kernel_rfl).trans (by rw [e0]; rfl)
theorem ctr (k : Nat) : Ctr J Tryz.prog 100 (C k) :=
  run_ctr (E := E k) mixed tb_ok (eqOk_of tb_eqs) (Cts.cons (impl_Unframe.ctr k) (Cts.cons (impl_ReadRec.ctr k) Cts.nil)) (by kernel_rfl) Tryz.func100 (by kernel_rfl) rfl (fun ⟨a0, _⟩ r h => (eq k a0).trans h)
end impl_ScanRecs
namespace impl_StoreOk
def C (k : Nat) : Cn := ⟨[.val TStore, .val TDisk], [.bool], true, false, fun x => f k x.1 x.2.1⟩
def E (k : Nat) : Env := ⟨tb, [(119, impl_DiskOk.C k), (120, impl_LiveOk.C k), (121, impl_DirOk.C k), (61, impl_in.C k), (84, impl_SegName.C k), (83, impl_FileText.C k), (100, impl_ScanRecs.C k), (122, impl_RecAt.C k)], [(4, [2, 3, 40, 41, 42]), (12, [2, 3, 84, 85, 86])], k, 0, []⟩
section
variable (k : Nat) (a0 : Ty.den TStore) (a1 : Ty.den TDisk)
noncomputable def K0 : Ex → St → Option (Bool × Unit) := runK (E k) (endK (E k) Tryz.f54.results.toList [.val TStore, .val TDisk] (a0, a1, ()) [.bool] true false) [.blk 0, .code (at_ (bt 3 7) (body Tryz.f54))]
noncomputable def K1 : Ex → St → Option (Bool × Unit) := runK (E k) (endK (E k) Tryz.f54.results.toList [.val TStore, .val TDisk] (a0, a1, ()) [.bool] true false) [.blk 2, .code (at_ (bt 4 15) (body Tryz.f54))]
noncomputable def V0 (n0 : Nat) (x0_0 : List Int) (x0_1 : Int) (x0_2 : Int) (x0_3 : Int) (x0_4 : List Int) (x0_5 : List (Ty.den TEntry)) (x0_6 : Int) (x0_7 : Int) (x0_8 : Int) (x0_9 : List (Ty.den TPair)) (x0_10 : Int) (x0_11 : Int) (x0_12 : Bool) : Option (Bool × Unit) := loopN (exec (E k) (at_ (bt 6 11) (body Tryz.f54))) (canon 0 [2, 3, 40, 41, 42]) (K0 k a0 a1) n0 (mk 141 2 [(2, .ptr 0 0 0), (3, .ptr 1 0 0), (40, .sl true (.int .i64) x0_0), (41, .int .i64 x0_1), (42, .int .i64 x0_2)] [(0, .box [.int .i64 x0_3, .sl true (.int .i64) x0_4, .sl true TEntry x0_5, .int .i64 x0_6, .int .i64 x0_7, .int .i64 x0_8]), (1, .box [.sl true TPair x0_9, .int .i64 x0_10, .int .i64 x0_11, .bool x0_12])])
noncomputable def V1 (n1 : Nat) (x1_0 : List (Ty.den TEntry)) (x1_1 : Int) (x1_2 : Int) (x1_3 : Int) (x1_4 : List Int) (x1_5 : List (Ty.den TEntry)) (x1_6 : Int) (x1_7 : Int) (x1_8 : Int) (x1_9 : List (Ty.den TPair)) (x1_10 : Int) (x1_11 : Int) (x1_12 : Bool) : Option (Bool × Unit) := loopN (exec (E k) (at_ (bt 7 23) (body Tryz.f54))) (canon 0 [2, 3, 84, 85, 86]) (K1 k a0 a1) n1 (mk 141 2 [(2, .ptr 0 0 0), (3, .ptr 1 0 0), (84, .sl true TEntry x1_0), (85, .int .i64 x1_1), (86, .int .i64 x1_2)] [(0, .box [.int .i64 x1_3, .sl true (.int .i64) x1_4, .sl true TEntry x1_5, .int .i64 x1_6, .int .i64 x1_7, .int .i64 x1_8]), (1, .box [.sl true TPair x1_9, .int .i64 x1_10, .int .i64 x1_11, .bool x1_12])])
theorem s0 (n0 : Nat) (x0_0 : List Int) (x0_1 : Int) (x0_2 : Int) (x0_3 : Int) (x0_4 : List Int) (x0_5 : List (Ty.den TEntry)) (x0_6 : Int) (x0_7 : Int) (x0_8 : Int) (x0_9 : List (Ty.den TPair)) (x0_10 : Int) (x0_11 : Int) (x0_12 : Bool) : V0 k a0 a1 (n0 + 1) x0_0 x0_1 x0_2 x0_3 x0_4 x0_5 x0_6 x0_7 x0_8 x0_9 x0_10 x0_11 x0_12 = b0 k (V1 k a0 a1 k) (V0 k a0 a1 n0) x0_0 x0_1 x0_2 x0_3 x0_4 x0_5 x0_6 x0_7 x0_8 x0_9 x0_10 x0_11 x0_12 := by kernel_rfl
theorem s1 (n1 : Nat) (x1_0 : List (Ty.den TEntry)) (x1_1 : Int) (x1_2 : Int) (x1_3 : Int) (x1_4 : List Int) (x1_5 : List (Ty.den TEntry)) (x1_6 : Int) (x1_7 : Int) (x1_8 : Int) (x1_9 : List (Ty.den TPair)) (x1_10 : Int) (x1_11 : Int) (x1_12 : Bool) : V1 k a0 a1 (n1 + 1) x1_0 x1_1 x1_2 x1_3 x1_4 x1_5 x1_6 x1_7 x1_8 x1_9 x1_10 x1_11 x1_12 = b1 k (V1 k a0 a1 n1) x1_0 x1_1 x1_2 x1_3 x1_4 x1_5 x1_6 x1_7 x1_8 x1_9 x1_10 x1_11 x1_12 := by kernel_rfl
theorem e1 (n1 : Nat) : V1 k a0 a1 n1 = l1 k n1 := loop_eq (V := V1 k a0 a1) (l := l1 k) rfl (fun n1 => funext fun x1_0 => funext fun x1_1 => funext fun x1_2 => funext fun x1_3 => funext fun x1_4 => funext fun x1_5 => funext fun x1_6 => funext fun x1_7 => funext fun x1_8 => funext fun x1_9 => funext fun x1_10 => funext fun x1_11 => funext fun x1_12 => s1 k a0 a1 n1 x1_0 x1_1 x1_2 x1_3 x1_4 x1_5 x1_6 x1_7 x1_8 x1_9 x1_10 x1_11 x1_12) (fun _ => rfl) n1
theorem e0 (n0 : Nat) : V0 k a0 a1 n0 = l0 k n0 := by
  induction n0 with
  | zero => rfl
  | succ n0 ih =>
    have h : V0 k a0 a1 (n0 + 1) = b0 k (V1 k a0 a1 k) (V0 k a0 a1 n0) := funext fun x0_0 => funext fun x0_1 => funext fun x0_2 => funext fun x0_3 => funext fun x0_4 => funext fun x0_5 => funext fun x0_6 => funext fun x0_7 => funext fun x0_8 => funext fun x0_9 => funext fun x0_10 => funext fun x0_11 => funext fun x0_12 => s0 k a0 a1 n0 x0_0 x0_1 x0_2 x0_3 x0_4 x0_5 x0_6 x0_7 x0_8 x0_9 x0_10 x0_11 x0_12
    rw [h, e1, ih]
    rfl
end
theorem eq (k : Nat) (a0 : Ty.den TStore) (a1 : Ty.den TDisk) : run (E k) Tryz.f54 [.val TStore, .val TDisk] [.bool] true false (a0, a1, ()) = f k a0 a1 := (show _ = t k (V0 k a0 a1 k) a0 a1 by kernel_rfl).trans (by rw [e0]; rfl)
theorem ctr (k : Nat) : Ctr J Tryz.prog 54 (C k) :=
  run_ctr (E := E k) mixed tb_ok (eqOk_of tb_eqs) (Cts.cons (impl_DiskOk.ctr k) (Cts.cons (impl_LiveOk.ctr k) (Cts.cons (impl_DirOk.ctr k) (Cts.cons (impl_in.ctr k) (Cts.cons (impl_SegName.ctr k) (Cts.cons (impl_FileText.ctr k) (Cts.cons (impl_ScanRecs.ctr k) (Cts.cons (impl_RecAt.ctr k) Cts.nil)))))))) (by kernel_rfl) Tryz.func54 (by kernel_rfl) rfl (fun ⟨a0, a1, _⟩ r h => (eq k a0 a1).trans h)
end impl_StoreOk
namespace impl_SegBytes
def C (k : Nat) : Cn := ⟨[.val TStore, .val TDisk], [(.int .i64)], true, false, fun x => f k x.1 x.2.1⟩
def E (k : Nat) : Env := ⟨tb, [(84, impl_SegName.C k), (83, impl_FileText.C k)], [(3, [3, 5, 12, 13, 14])], k, 0, []⟩
section
variable (k : Nat) (a0 : Ty.den TStore) (a1 : Ty.den TDisk)
noncomputable def K0 : Ex → St → Option (Int × Unit) := runK (E k) (endK (E k) Tryz.f55.results.toList [.val TStore, .val TDisk] (a0, a1, ()) [(.int .i64)] true false) [.blk 0, .code (at_ (bt 3 7) (body Tryz.f55))]
noncomputable def V0 (n0 : Nat) (x0_0 : Int) (x0_1 : List Int) (x0_2 : Int) (x0_3 : Int) (x0_4 : List (Ty.den TPair)) (x0_5 : Int) (x0_6 : Int) (x0_7 : Bool) : Option (Int × Unit) := loopN (exec (E k) (at_ (bt 6 11) (body Tryz.f55))) (canon 0 [3, 5, 12, 13, 14]) (K0 k a0 a1) n0 (mk 34 1 [(3, .ptr 0 0 0), (5, .int .i64 x0_0), (12, .sl true (.int .i64) x0_1), (13, .int .i64 x0_2), (14, .int .i64 x0_3)] [(0, .box [.sl true TPair x0_4, .int .i64 x0_5, .int .i64 x0_6, .bool x0_7])])
theorem s0 (n0 : Nat) (x0_0 : Int) (x0_1 : List Int) (x0_2 : Int) (x0_3 : Int) (x0_4 : List (Ty.den TPair)) (x0_5 : Int) (x0_6 : Int) (x0_7 : Bool) : V0 k a0 a1 (n0 + 1) x0_0 x0_1 x0_2 x0_3 x0_4 x0_5 x0_6 x0_7 = b0 k (V0 k a0 a1 n0) x0_0 x0_1 x0_2 x0_3 x0_4 x0_5 x0_6 x0_7 := by kernel_rfl
theorem e0 (n0 : Nat) : V0 k a0 a1 n0 = l0 k n0 := loop_eq (V := V0 k a0 a1) (l := l0 k) rfl (fun n0 => funext fun x0_0 => funext fun x0_1 => funext fun x0_2 => funext fun x0_3 => funext fun x0_4 => funext fun x0_5 => funext fun x0_6 => funext fun x0_7 => s0 k a0 a1 n0 x0_0 x0_1 x0_2 x0_3 x0_4 x0_5 x0_6 x0_7) (fun _ => rfl) n0
end
theorem eq (k : Nat) (a0 : Ty.den TStore) (a1 : Ty.den TDisk) : run (E k) Tryz.f55 [.val TStore, .val TDisk] [(.int .i64)] true false (a0, a1, ()) = f k a0 a1 := (show _ = t k (V0 k a0 a1 k) a0 a1 by kernel_rfl).trans (by rw [e0]; rfl)
theorem ctr (k : Nat) : Ctr J Tryz.prog 55 (C k) :=
  run_ctr (E := E k) mixed tb_ok (eqOk_of tb_eqs) (Cts.cons (impl_SegName.ctr k) (Cts.cons (impl_FileText.ctr k) Cts.nil)) (by kernel_rfl) Tryz.func55 (by kernel_rfl) rfl (fun ⟨a0, a1, _⟩ r h => (eq k a0 a1).trans h)
end impl_SegBytes
namespace impl_vars
def C (k : Nat) : Cn := ⟨[.val (.slice (.int .i64))], [.str], true, false, fun x => f k x.1⟩
def E (k : Nat) : Env := ⟨tb, [(172, impl_Var.C k)], [(3, [3, 6, 7, 8])], k, 0, []⟩
section
variable (k : Nat) (a0 : List Int)
noncomputable def K0 : Ex → St → Option (ByteArray × Unit) := runK (E k) (endK (E k) Tryz.f171.results.toList [.val (.slice (.int .i64))] (a0, ()) [.str] true false) [.blk 0, .code (at_ (bt 3 7) (body Tryz.f171))]
noncomputable def V0 (n0 : Nat) (x0_0 : ByteArray) (x0_1 : List Int) (x0_2 : Int) (x0_3 : Int) : Option (ByteArray × Unit) := loopN (exec (E k) (at_ (bt 6 11) (body Tryz.f171))) (canon 0 [3, 6, 7, 8]) (K0 k a0) n0 (mk 18 0 [(3, .str x0_0), (6, .sl true (.int .i64) x0_1), (7, .int .i64 x0_2), (8, .int .i64 x0_3)] [])
theorem s0 (n0 : Nat) (x0_0 : ByteArray) (x0_1 : List Int) (x0_2 : Int) (x0_3 : Int) : V0 k a0 (n0 + 1) x0_0 x0_1 x0_2 x0_3 = b0 k (V0 k a0 n0) x0_0 x0_1 x0_2 x0_3 := by kernel_rfl
theorem e0 (n0 : Nat) : V0 k a0 n0 = l0 k n0 := loop_eq (V := V0 k a0) (l := l0 k) rfl (fun n0 => funext fun x0_0 => funext fun x0_1 => funext fun x0_2 => funext fun x0_3 => s0 k a0 n0 x0_0 x0_1 x0_2 x0_3) (fun _ => rfl) n0
end
theorem eq (k : Nat) (a0 : List Int) : run (E k) Tryz.f171 [.val (.slice (.int .i64))] [.str] true false (a0, ()) = f k a0 := (show _ = t k (V0 k a0 k) a0 by kernel_rfl).trans (by rw [e0]; rfl)
theorem ctr (k : Nat) : Ctr J Tryz.prog 171 (C k) :=
  run_ctr (E := E k) mixed tb_ok (eqOk_of tb_eqs) (Cts.cons (impl_Var.ctr k) Cts.nil) (by kernel_rfl) Tryz.func171 (by kernel_rfl) rfl (fun ⟨a0, _⟩ r h => (eq k a0).trans h)
end impl_vars
namespace impl_ShowRec
def C (k : Nat) : Cn := ⟨[.val TRec], [.str], true, false, fun x => f k x.1⟩
def E (k : Nat) : Env := ⟨tb, [(170, impl_RecOk.C k), (171, impl_vars.C k), (167, impl_textOf.C k), (172, impl_Var.C k), (168, impl_Fixed.C k)], [], k, 0, []⟩
theorem eq (k : Nat) (a0 : Ty.den TRec) : run (E k) Tryz.f125 [.val TRec] [.str] true false (a0, ()) = f k a0 := by kernel_rfl
theorem ctr (k : Nat) : Ctr J Tryz.prog 125 (C k) :=
  run_ctr (E := E k) mixed tb_ok (eqOk_of tb_eqs) (Cts.cons (impl_RecOk.ctr k) (Cts.cons (impl_vars.ctr k) (Cts.cons (impl_textOf.ctr k) (Cts.cons (impl_Var.ctr k) (Cts.cons (impl_Fixed.ctr k) Cts.nil))))) (by kernel_rfl) Tryz.func125 (by kernel_rfl) rfl (fun ⟨a0, _⟩ r h => (eq k a0).trans h)
end impl_ShowRec
namespace impl_SumOf
def C (k : Nat) : Cn := ⟨[.val (.slice TRec)], [(.int .i64)], true, false, fun x => f k x.1⟩
def E (k : Nat) : Env := ⟨tb, [(125, impl_ShowRec.C k), (169, impl_Crc.C k)], [(3, [3, 6, 7, 8])], k, 0, []⟩
section
variable (k : Nat) (a0 : List (Ty.den TRec))
noncomputable def K0 : Ex → St → Option (Int × Unit) := runK (E k) (endK (E k) Tryz.f166.results.toList [.val (.slice TRec)] (a0, ()) [(.int .i64)] true false) [.blk 0, .code (at_ (bt 3 7) (body Tryz.f166))]
noncomputable def V0 (n0 : Nat) (x0_0 : ByteArray) (x0_1 : List (Ty.den TRec)) (x0_2 : Int) (x0_3 : Int) : Option (Int × Unit) := loopN (exec (E k) (at_ (bt 6 11) (body Tryz.f166))) (canon 0 [3, 6, 7, 8]) (K0 k a0) n0 (mk 19 0 [(3, .str x0_0), (6, .sl true TRec x0_1), (7, .int .i64 x0_2), (8, .int .i64 x0_3)] [])
theorem s0 (n0 : Nat) (x0_0 : ByteArray) (x0_1 : List (Ty.den TRec)) (x0_2 : Int) (x0_3 : Int) : V0 k a0 (n0 + 1) x0_0 x0_1 x0_2 x0_3 = b0 k (V0 k a0 n0) x0_0 x0_1 x0_2 x0_3 := by kernel_rfl
theorem e0 (n0 : Nat) : V0 k a0 n0 = l0 k n0 := loop_eq (V := V0 k a0) (l := l0 k) rfl (fun n0 => funext fun x0_0 => funext fun x0_1 => funext fun x0_2 => funext fun x0_3 => s0 k a0 n0 x0_0 x0_1 x0_2 x0_3) (fun _ => rfl) n0
end
theorem eq (k : Nat) (a0 : List (Ty.den TRec)) : run (E k) Tryz.f166 [.val (.slice TRec)] [(.int .i64)] true false (a0, ()) = f k a0 := (show _ = t k (V0 k a0 k) a0 by kernel_rfl).trans (by rw [e0]; rfl)
theorem ctr (k : Nat) : Ctr J Tryz.prog 166 (C k) :=
  run_ctr (E := E k) mixed tb_ok (eqOk_of tb_eqs) (Cts.cons (impl_ShowRec.ctr k) (Cts.cons (impl_Crc.ctr k) Cts.nil)) (by kernel_rfl) Tryz.func166 (by kernel_rfl) rfl (fun ⟨a0, _⟩ r h => (eq k a0).trans h)
end impl_SumOf
namespace impl_keeps
def C (k : Nat) : Cn := ⟨[.val (.slice TPair), .val (.int .i64)], [(.slice TRec)], true, false, fun x => f k x.1 x.2.1⟩
def E (k : Nat) : Env := ⟨tb, [(166, impl_SumOf.C k)], [(3, [0, 1, 5, 8, 9, 10])], k, 0, []⟩
section
variable (k : Nat) (a0 : List (Ty.den TPair)) (a1 : Int)
noncomputable def K0 : Ex → St → Option ((List (Ty.den TRec)) × Unit) := runK (E k) (endK (E k) Tryz.f123.results.toList [.val (.slice TPair), .val (.int .i64)] (a0, a1, ()) [(.slice TRec)] true false) [.blk 0, .code (at_ (bt 3 7) (body Tryz.f123))]
noncomputable def V0 (n0 : Nat) (x0_0 : List (Ty.den TPair)) (x0_1 : Int) (x0_2 : List (Ty.den TPair)) (x0_3 : Int) (x0_4 : Int) (x0_5 : List (Ty.den TRec)) : Option ((List (Ty.den TRec)) × Unit) := loopN (exec (E k) (at_ (bt 6 11) (body Tryz.f123))) (canon 0 [0, 1, 5, 8, 9, 10]) (K0 k a0 a1) n0 (mk 34 1 [(0, .sl true TPair x0_0), (1, .int .i64 x0_1), (5, .ref 0), (8, .sl true TPair x0_2), (9, .int .i64 x0_3), (10, .int .i64 x0_4)] [(0, .own false TRec x0_5)])
theorem s0 (n0 : Nat) (x0_0 : List (Ty.den TPair)) (x0_1 : Int) (x0_2 : List (Ty.den TPair)) (x0_3 : Int) (x0_4 : Int) (x0_5 : List (Ty.den TRec)) : V0 k a0 a1 (n0 + 1) x0_0 x0_1 x0_2 x0_3 x0_4 x0_5 = b0 k (V0 k a0 a1 n0) x0_0 x0_1 x0_2 x0_3 x0_4 x0_5 := by kernel_rfl
theorem e0 (n0 : Nat) : V0 k a0 a1 n0 = l0 k n0 := loop_eq (V := V0 k a0 a1) (l := l0 k) rfl (fun n0 => funext fun x0_0 => funext fun x0_1 => funext fun x0_2 => funext fun x0_3 => funext fun x0_4 => funext fun x0_5 => s0 k a0 a1 n0 x0_0 x0_1 x0_2 x0_3 x0_4 x0_5) (fun _ => rfl) n0
end
theorem eq (k : Nat) (a0 : List (Ty.den TPair)) (a1 : Int) : run (E k) Tryz.f123 [.val (.slice TPair), .val (.int .i64)] [(.slice TRec)] true false (a0, a1, ()) = f k a0 a1 := (show _ = t k (V0 k a0 a1 k) a0 a1 by kernel_rfl).trans (by rw [e0]; rfl)
theorem ctr (k : Nat) : Ctr J Tryz.prog 123 (C k) :=
  run_ctr (E := E k) mixed tb_ok (eqOk_of tb_eqs) (Cts.cons (impl_SumOf.ctr k) Cts.nil) (by kernel_rfl) Tryz.func123 (by kernel_rfl) rfl (fun ⟨a0, a1, _⟩ r h => (eq k a0 a1).trans h)
end impl_keeps
namespace impl_MergedSize
def C (k : Nat) : Cn := ⟨[.val (.slice TPair), .val (.int .i64)], [(.int .i64)], true, false, fun x => f k x.1 x.2.1⟩
def E (k : Nat) : Env := ⟨tb, [(123, impl_keeps.C k), (125, impl_ShowRec.C k), (124, impl_Frame.C k)], [(3, [5, 10, 11, 12])], k, 0, []⟩
section
variable (k : Nat) (a0 : List (Ty.den TPair)) (a1 : Int)
noncomputable def K0 : Ex → St → Option (Int × Unit) := runK (E k) (endK (E k) Tryz.f56.results.toList [.val (.slice TPair), .val (.int .i64)] (a0, a1, ()) [(.int .i64)] true false) [.blk 0, .code (at_ (bt 3 7) (body Tryz.f56))]
noncomputable def V0 (n0 : Nat) (x0_0 : Int) (x0_1 : Int) (x0_2 : Int) (x0_3 : List (Ty.den TRec)) : Option (Int × Unit) := loopN (exec (E k) (at_ (bt 6 11) (body Tryz.f56))) (canon 0 [5, 10, 11, 12]) (K0 k a0 a1) n0 (mk 24 1 [(5, .int .i64 x0_0), (10, .ref 0), (11, .int .i64 x0_1), (12, .int .i64 x0_2)] [(0, .own false TRec x0_3)])
theorem s0 (n0 : Nat) (x0_0 : Int) (x0_1 : Int) (x0_2 : Int) (x0_3 : List (Ty.den TRec)) : V0 k a0 a1 (n0 + 1) x0_0 x0_1 x0_2 x0_3 = b0 k (V0 k a0 a1 n0) x0_0 x0_1 x0_2 x0_3 := by kernel_rfl
theorem e0 (n0 : Nat) : V0 k a0 a1 n0 = l0 k n0 := loop_eq (V := V0 k a0 a1) (l := l0 k) rfl (fun n0 => funext fun x0_0 => funext fun x0_1 => funext fun x0_2 => funext fun x0_3 => s0 k a0 a1 n0 x0_0 x0_1 x0_2 x0_3) (fun _ => rfl) n0
end
theorem eq (k : Nat) (a0 : List (Ty.den TPair)) (a1 : Int) : run (E k) Tryz.f56 [.val (.slice TPair), .val (.int .i64)] [(.int .i64)] true false (a0, a1, ()) = f k a0 a1 := (show _ = t k (V0 k a0 a1 k) a0 a1 by kernel_rfl).trans (by rw [e0]; rfl)
theorem ctr (k : Nat) : Ctr J Tryz.prog 56 (C k) :=
  run_ctr (E := E k) mixed tb_ok (eqOk_of tb_eqs) (Cts.cons (impl_keeps.ctr k) (Cts.cons (impl_ShowRec.ctr k) (Cts.cons (impl_Frame.ctr k) Cts.nil))) (by kernel_rfl) Tryz.func56 (by kernel_rfl) rfl (fun ⟨a0, a1, _⟩ r h => (eq k a0 a1).trans h)
end impl_MergedSize
namespace impl_MergeGain
def C (k : Nat) : Cn := ⟨[.val TStore, .val TDisk], [(.int .i64)], true, false, fun x => f k x.1 x.2.1⟩
def E (k : Nat) : Env := ⟨tb, [(53, impl_Dump.C k), (54, impl_StoreOk.C k), (55, impl_SegBytes.C k), (56, impl_MergedSize.C k)], [], k, 0, []⟩
theorem eq (k : Nat) (a0 : Ty.den TStore) (a1 : Ty.den TDisk) : run (E k) Tryz.f14 [.val TStore, .val TDisk] [(.int .i64)] true false (a0, a1, ()) = f k a0 a1 := by kernel_rfl
theorem ctr (k : Nat) : Ctr J Tryz.prog 14 (C k) :=
  run_ctr (E := E k) mixed tb_ok (eqOk_of tb_eqs) (Cts.cons (impl_Dump.ctr k) (Cts.cons (impl_StoreOk.ctr k) (Cts.cons (impl_SegBytes.ctr k) (Cts.cons (impl_MergedSize.ctr k) Cts.nil)))) (by kernel_rfl) Tryz.func14 (by kernel_rfl) rfl (fun ⟨a0, a1, _⟩ r h => (eq k a0 a1).trans h)
end impl_MergeGain
namespace laws_eqIntS
def C (k : Nat) : Cn := ⟨[.val (.slice (.int .i64)), .val (.slice (.int .i64))], [.bool], true, false, fun x => f k x.1 x.2.1⟩
def E (k : Nat) : Env := ⟨tb, [], [(4, [0, 1, 5])], k, 0, []⟩
section
variable (k : Nat) (a0 : List Int) (a1 : List Int)
noncomputable def K0 : Ex → St → Option (Bool × Unit) := runK (E k) (endK (E k) Tryz.f126.results.toList [.val (.slice (.int .i64)), .val (.slice (.int .i64))] (a0, a1, ()) [.bool] true false) [.blk 0, .code (at_ (bt 3 7) (body Tryz.f126))]
noncomputable def V0 (n0 : Nat) (x0_0 : List Int) (x0_1 : List Int) (x0_2 : Int) : Option (Bool × Unit) := loopN (exec (E k) (at_ (bt 6 11) (body Tryz.f126))) (canon 0 [0, 1, 5]) (K0 k a0 a1) n0 (mk 26 0 [(0, .sl true (.int .i64) x0_0), (1, .sl true (.int .i64) x0_1), (5, .int .i64 x0_2)] [])
theorem s0 (n0 : Nat) (x0_0 : List Int) (x0_1 : List Int) (x0_2 : Int) : V0 k a0 a1 (n0 + 1) x0_0 x0_1 x0_2 = b0 k (V0 k a0 a1 n0) x0_0 x0_1 x0_2 := by kernel_rfl
theorem e0 (n0 : Nat) : V0 k a0 a1 n0 = l0 k n0 := loop_eq (V := V0 k a0 a1) (l := l0 k) rfl (fun n0 => funext fun x0_0 => funext fun x0_1 => funext fun x0_2 => s0 k a0 a1 n0 x0_0 x0_1 x0_2) (fun _ => rfl) n0
end
theorem eq (k : Nat) (a0 : List Int) (a1 : List Int) : run (E k) Tryz.f126 [.val (.slice (.int .i64)), .val (.slice (.int .i64))] [.bool] true false (a0, a1, ()) = f k a0 a1 := (show _ = t k (V0 k a0 a1 k) a0 a1 by kernel_rfl).trans (by rw [e0]; rfl)
theorem ctr (k : Nat) : Ctr J Tryz.prog 126 (C k) :=
  run_ctr (E := E k) mixed tb_ok (eqOk_of tb_eqs) Cts.nil (by kernel_rfl) Tryz.func126 (by kernel_rfl) rfl (fun ⟨a0, a1, _⟩ r h => (eq k a0 a1).trans h)
end laws_eqIntS
namespace laws_eqLive
def C (k : Nat) : Cn := ⟨[.val TLive, .val TLive], [.bool], true, false, fun x => f k x.1 x.2.1⟩
def E (k : Nat) : Env := ⟨tb, [(126, laws_eqIntS.C k)], [], k, 0, []⟩
theorem eq (k : Nat) (a0 : Ty.den TLive) (a1 : Ty.den TLive) : run (E k) Tryz.f57 [.val TLive, .val TLive] [.bool] true false (a0, a1, ()) = f k a0 a1 := by kernel_rfl
theorem ctr (k : Nat) : Ctr J Tryz.prog 57 (C k) :=
  run_ctr (E := E k) mixed tb_ok (eqOk_of tb_eqs) (Cts.cons (laws_eqIntS.ctr k) Cts.nil) (by kernel_rfl) Tryz.func57 (by kernel_rfl) rfl (fun ⟨a0, a1, _⟩ r h => (eq k a0 a1).trans h)
end laws_eqLive
namespace laws_eqEntry
def C (k : Nat) : Cn := ⟨[.val TEntry, .val TEntry], [.bool], true, false, fun x => f k x.1 x.2.1⟩
def E (k : Nat) : Env := ⟨tb, [], [], k, 0, []⟩
theorem eq (k : Nat) (a0 : Ty.den TEntry) (a1 : Ty.den TEntry) : run (E k) Tryz.f127 [.val TEntry, .val TEntry] [.bool] true false (a0, a1, ()) = f k a0 a1 := by kernel_rfl
theorem ctr (k : Nat) : Ctr J Tryz.prog 127 (C k) :=
  run_ctr (E := E k) mixed tb_ok (eqOk_of tb_eqs) Cts.nil (by kernel_rfl) Tryz.func127 (by kernel_rfl) rfl (fun ⟨a0, a1, _⟩ r h => (eq k a0 a1).trans h)
end laws_eqEntry
namespace laws_eqEntryS
def C (k : Nat) : Cn := ⟨[.val (.slice TEntry), .val (.slice TEntry)], [.bool], true, false, fun x => f k x.1 x.2.1⟩
def E (k : Nat) : Env := ⟨tb, [(127, laws_eqEntry.C k)], [(4, [0, 1, 5])], k, 0, []⟩
section
variable (k : Nat) (a0 : List (Ty.den TEntry)) (a1 : List (Ty.den TEntry))
noncomputable def K0 : Ex → St → Option (Bool × Unit) := runK (E k) (endK (E k) Tryz.f58.results.toList [.val (.slice TEntry), .val (.slice TEntry)] (a0, a1, ()) [.bool] true false) [.blk 0, .code (at_ (bt 3 7) (body Tryz.f58))]
noncomputable def V0 (n0 : Nat) (x0_0 : List (Ty.den TEntry)) (x0_1 : List (Ty.den TEntry)) (x0_2 : Int) : Option (Bool × Unit) := loopN (exec (E k) (at_ (bt 6 11) (body Tryz.f58))) (canon 0 [0, 1, 5]) (K0 k a0 a1) n0 (mk 27 0 [(0, .sl true TEntry x0_0), (1, .sl true TEntry x0_1), (5, .int .i64 x0_2)] [])
theorem s0 (n0 : Nat) (x0_0 : List (Ty.den TEntry)) (x0_1 : List (Ty.den TEntry)) (x0_2 : Int) : V0 k a0 a1 (n0 + 1) x0_0 x0_1 x0_2 = b0 k (V0 k a0 a1 n0) x0_0 x0_1 x0_2 := by kernel_rfl
theorem e0 (n0 : Nat) : V0 k a0 a1 n0 = l0 k n0 := loop_eq (V := V0 k a0 a1) (l := l0 k) rfl (fun n0 => funext fun x0_0 => funext fun x0_1 => funext fun x0_2 => s0 k a0 a1 n0 x0_0 x0_1 x0_2) (fun _ => rfl) n0
end
theorem eq (k : Nat) (a0 : List (Ty.den TEntry)) (a1 : List (Ty.den TEntry)) : run (E k) Tryz.f58 [.val (.slice TEntry), .val (.slice TEntry)] [.bool] true false (a0, a1, ()) = f k a0 a1 := (show _ = t k (V0 k a0 a1 k) a0 a1 by kernel_rfl).trans (by rw [e0]; rfl)
theorem ctr (k : Nat) : Ctr J Tryz.prog 58 (C k) :=
  run_ctr (E := E k) mixed tb_ok (eqOk_of tb_eqs) (Cts.cons (laws_eqEntry.ctr k) Cts.nil) (by kernel_rfl) Tryz.func58 (by kernel_rfl) rfl (fun ⟨a0, a1, _⟩ r h => (eq k a0 a1).trans h)
end laws_eqEntryS
namespace laws_eqStore
def C (k : Nat) : Cn := ⟨[.val TStore, .val TStore], [.bool], true, false, fun x => f k x.1 x.2.1⟩
def E (k : Nat) : Env := ⟨tb, [(57, laws_eqLive.C k), (58, laws_eqEntryS.C k)], [], k, 0, []⟩
theorem eq (k : Nat) (a0 : Ty.den TStore) (a1 : Ty.den TStore) : run (E k) Tryz.f15 [.val TStore, .val TStore] [.bool] true false (a0, a1, ()) = f k a0 a1 := by kernel_rfl
theorem ctr (k : Nat) : Ctr J Tryz.prog 15 (C k) :=
  run_ctr (E := E k) mixed tb_ok (eqOk_of tb_eqs) (Cts.cons (laws_eqLive.ctr k) (Cts.cons (laws_eqEntryS.ctr k) Cts.nil)) (by kernel_rfl) Tryz.func15 (by kernel_rfl) rfl (fun ⟨a0, a1, _⟩ r h => (eq k a0 a1).trans h)
end laws_eqStore
namespace laws_eqFile
def C (k : Nat) : Cn := ⟨[.val TPair, .val TPair], [.bool], true, false, fun x => f k x.1 x.2.1⟩
def E (k : Nat) : Env := ⟨tb, [], [], k, 0, []⟩
theorem eq (k : Nat) (a0 : Ty.den TPair) (a1 : Ty.den TPair) : run (E k) Tryz.f128 [.val TPair, .val TPair] [.bool] true false (a0, a1, ()) = f k a0 a1 := by kernel_rfl
theorem ctr (k : Nat) : Ctr J Tryz.prog 128 (C k) :=
  run_ctr (E := E k) mixed tb_ok (eqOk_of tb_eqs) Cts.nil (by kernel_rfl) Tryz.func128 (by kernel_rfl) rfl (fun ⟨a0, a1, _⟩ r h => (eq k a0 a1).trans h)
end laws_eqFile
namespace laws_eqFileS
def C (k : Nat) : Cn := ⟨[.val (.slice TPair), .val (.slice TPair)], [.bool], true, false, fun x => f k x.1 x.2.1⟩
def E (k : Nat) : Env := ⟨tb, [(128, laws_eqFile.C k)], [(4, [0, 1, 5])], k, 0, []⟩
section
variable (k : Nat) (a0 : List (Ty.den TPair)) (a1 : List (Ty.den TPair))
noncomputable def K0 : Ex → St → Option (Bool × Unit) := runK (E k) (endK (E k) Tryz.f59.results.toList [.val (.slice TPair), .val (.slice TPair)] (a0, a1, ()) [.bool] true false) [.blk 0, .code (at_ (bt 3 7) (body Tryz.f59))]
noncomputable def V0 (n0 : Nat) (x0_0 : List (Ty.den TPair)) (x0_1 : List (Ty.den TPair)) (x0_2 : Int) : Option (Bool × Unit) := loopN (exec (E k) (at_ (bt 6 11) (body Tryz.f59))) (canon 0 [0, 1, 5]) (K0 k a0 a1) n0 (mk 27 0 [(0, .sl true TPair x0_0), (1, .sl true TPair x0_1), (5, .int .i64 x0_2)] [])
theorem s0 (n0 : Nat) (x0_0 : List (Ty.den TPair)) (x0_1 : List (Ty.den TPair)) (x0_2 : Int) : V0 k a0 a1 (n0 + 1) x0_0 x0_1 x0_2 = b0 k (V0 k a0 a1 n0) x0_0 x0_1 x0_2 := by kernel_rfl
theorem e0 (n0 : Nat) : V0 k a0 a1 n0 = l0 k n0 := loop_eq (V := V0 k a0 a1) (l := l0 k) rfl (fun n0 => funext fun x0_0 => funext fun x0_1 => funext fun x0_2 => s0 k a0 a1 n0 x0_0 x0_1 x0_2) (fun _ => rfl) n0
end
theorem eq (k : Nat) (a0 : List (Ty.den TPair)) (a1 : List (Ty.den TPair)) : run (E k) Tryz.f59 [.val (.slice TPair), .val (.slice TPair)] [.bool] true false (a0, a1, ()) = f k a0 a1 := (show _ = t k (V0 k a0 a1 k) a0 a1 by kernel_rfl).trans (by rw [e0]; rfl)
theorem ctr (k : Nat) : Ctr J Tryz.prog 59 (C k) :=
  run_ctr (E := E k) mixed tb_ok (eqOk_of tb_eqs) (Cts.cons (laws_eqFile.ctr k) Cts.nil) (by kernel_rfl) Tryz.func59 (by kernel_rfl) rfl (fun ⟨a0, a1, _⟩ r h => (eq k a0 a1).trans h)
end laws_eqFileS
namespace laws_eqDisk
def C (k : Nat) : Cn := ⟨[.val TDisk, .val TDisk], [.bool], true, false, fun x => f k x.1 x.2.1⟩
def E (k : Nat) : Env := ⟨tb, [(59, laws_eqFileS.C k)], [], k, 0, []⟩
theorem eq (k : Nat) (a0 : Ty.den TDisk) (a1 : Ty.den TDisk) : run (E k) Tryz.f16 [.val TDisk, .val TDisk] [.bool] true false (a0, a1, ()) = f k a0 a1 := by kernel_rfl
theorem ctr (k : Nat) : Ctr J Tryz.prog 16 (C k) :=
  run_ctr (E := E k) mixed tb_ok (eqOk_of tb_eqs) (Cts.cons (laws_eqFileS.ctr k) Cts.nil) (by kernel_rfl) Tryz.func16 (by kernel_rfl) rfl (fun ⟨a0, a1, _⟩ r h => (eq k a0 a1).trans h)
end laws_eqDisk
namespace laws_FnExactMergeGain
def C (k : Nat) : Cn := ⟨[.val TStore, .val TDisk], [.bool], true, false, fun x => f k x.1 x.2.1⟩
def E (k : Nat) : Env := ⟨tb, [(9, laws_szStore.C k), (10, laws_szDisk.C k), (12, laws_toStore.C k), (13, laws_toDisk.C k), (11, spec_MergeGain.C k), (14, impl_MergeGain.C k), (15, laws_eqStore.C k), (16, laws_eqDisk.C k)], [], k, 0, []⟩
theorem eq (k : Nat) (a0 : Ty.den TStore) (a1 : Ty.den TDisk) : run (E k) Tryz.f3 [.val TStore, .val TDisk] [.bool] true false (a0, a1, ()) = f k a0 a1 := by kernel_rfl
theorem ctr (k : Nat) : Ctr J Tryz.prog 3 (C k) :=
  run_ctr (E := E k) mixed tb_ok (eqOk_of tb_eqs) (Cts.cons (laws_szStore.ctr k) (Cts.cons (laws_szDisk.ctr k) (Cts.cons (laws_toStore.ctr k) (Cts.cons (laws_toDisk.ctr k) (Cts.cons (spec_MergeGain.ctr k) (Cts.cons (impl_MergeGain.ctr k) (Cts.cons (laws_eqStore.ctr k) (Cts.cons (laws_eqDisk.ctr k) Cts.nil)))))))) (by kernel_rfl) Tryz.func3 (by kernel_rfl) rfl (fun ⟨a0, a1, _⟩ r h => (eq k a0 a1).trans h)
end laws_FnExactMergeGain
namespace spec_NeedsMerge
def C (k : Nat) : Cn := ⟨[.val TStore, .val TDisk, .val (.int .i64)], [.bool], true, false, fun x => f k x.1 x.2.1 x.2.2.1⟩
def E (k : Nat) : Env := ⟨tb, [(48, spec_SegBytes.C k), (60, spec_l1In.C k), (11, spec_MergeGain.C k)], [], k, 0, []⟩
theorem eq (k : Nat) (a0 : Ty.den TStore) (a1 : Ty.den TDisk) (a2 : Int) : run (E k) Tryz.f17 [.val TStore, .val TDisk, .val (.int .i64)] [.bool] true false (a0, a1, a2, ()) = f k a0 a1 a2 := by kernel_rfl
theorem ctr (k : Nat) : Ctr J Tryz.prog 17 (C k) :=
  run_ctr (E := E k) mixed tb_ok (eqOk_of tb_eqs) (Cts.cons (spec_SegBytes.ctr k) (Cts.cons (spec_l1In.ctr k) (Cts.cons (spec_MergeGain.ctr k) Cts.nil))) (by kernel_rfl) Tryz.func17 (by kernel_rfl) rfl (fun ⟨a0, a1, a2, _⟩ r h => (eq k a0 a1 a2).trans h)
end spec_NeedsMerge
namespace impl_NeedsMerge
def C (k : Nat) : Cn := ⟨[.val TStore, .val TDisk, .val (.int .i64)], [.bool], true, false, fun x => f k x.1 x.2.1 x.2.2.1⟩
def E (k : Nat) : Env := ⟨tb, [(55, impl_SegBytes.C k), (61, impl_in.C k), (14, impl_MergeGain.C k)], [], k, 0, []⟩
theorem eq (k : Nat) (a0 : Ty.den TStore) (a1 : Ty.den TDisk) (a2 : Int) : run (E k) Tryz.f18 [.val TStore, .val TDisk, .val (.int .i64)] [.bool] true false (a0, a1, a2, ()) = f k a0 a1 a2 := by kernel_rfl
theorem ctr (k : Nat) : Ctr J Tryz.prog 18 (C k) :=
  run_ctr (E := E k) mixed tb_ok (eqOk_of tb_eqs) (Cts.cons (impl_SegBytes.ctr k) (Cts.cons (impl_in.ctr k) (Cts.cons (impl_MergeGain.ctr k) Cts.nil))) (by kernel_rfl) Tryz.func18 (by kernel_rfl) rfl (fun ⟨a0, a1, a2, _⟩ r h => (eq k a0 a1 a2).trans h)
end impl_NeedsMerge
namespace laws_FnExactNeedsMerge
def C (k : Nat) : Cn := ⟨[.val TStore, .val TDisk, .val (.int .i64)], [.bool], true, false, fun x => f k x.1 x.2.1 x.2.2.1⟩
def E (k : Nat) : Env := ⟨tb, [(9, laws_szStore.C k), (10, laws_szDisk.C k), (12, laws_toStore.C k), (13, laws_toDisk.C k), (17, spec_NeedsMerge.C k), (18, impl_NeedsMerge.C k), (15, laws_eqStore.C k), (16, laws_eqDisk.C k)], [], k, 0, []⟩
theorem eq (k : Nat) (a0 : Ty.den TStore) (a1 : Ty.den TDisk) (a2 : Int) : run (E k) Tryz.f4 [.val TStore, .val TDisk, .val (.int .i64)] [.bool] true false (a0, a1, a2, ()) = f k a0 a1 a2 := by kernel_rfl
theorem ctr (k : Nat) : Ctr J Tryz.prog 4 (C k) :=
  run_ctr (E := E k) mixed tb_ok (eqOk_of tb_eqs) (Cts.cons (laws_szStore.ctr k) (Cts.cons (laws_szDisk.ctr k) (Cts.cons (laws_toStore.ctr k) (Cts.cons (laws_toDisk.ctr k) (Cts.cons (spec_NeedsMerge.ctr k) (Cts.cons (impl_NeedsMerge.ctr k) (Cts.cons (laws_eqStore.ctr k) (Cts.cons (laws_eqDisk.ctr k) Cts.nil)))))))) (by kernel_rfl) Tryz.func4 (by kernel_rfl) rfl (fun ⟨a0, a1, a2, _⟩ r h => (eq k a0 a1 a2).trans h)
end laws_FnExactNeedsMerge
namespace laws_szPiece
def C (k : Nat) : Cn := ⟨[.val TPiece, .val (.int .i64)], [(.int .i64)], true, false, fun x => f k x.1 x.2.1⟩
def E (k : Nat) : Env := ⟨tb, [], [], k, 0, []⟩
theorem eq (k : Nat) (a0 : Ty.den TPiece) (a1 : Int) : run (E k) Tryz.f134 [.val TPiece, .val (.int .i64)] [(.int .i64)] true false (a0, a1, ()) = f k a0 a1 := by kernel_rfl
theorem ctr (k : Nat) : Ctr J Tryz.prog 134 (C k) :=
  run_ctr (E := E k) mixed tb_ok (eqOk_of tb_eqs) Cts.nil (by kernel_rfl) Tryz.func134 (by kernel_rfl) rfl (fun ⟨a0, a1, _⟩ r h => (eq k a0 a1).trans h)
end laws_szPiece
namespace laws_szPieceS
def C (k : Nat) : Cn := ⟨[.val (.slice TPiece), .val (.int .i64)], [(.int .i64)], true, false, fun x => f k x.1 x.2.1⟩
def E (k : Nat) : Env := ⟨tb, [(134, laws_szPiece.C k)], [(5, [0, 1, 5])], k, 0, []⟩
section
variable (k : Nat) (a0 : List (Ty.den TPiece)) (a1 : Int)
noncomputable def K0 : Ex → St → Option (Int × Unit) := runK (E k) (endK (E k) Tryz.f78.results.toList [.val (.slice TPiece), .val (.int .i64)] (a0, a1, ()) [(.int .i64)] true false) [.blk 0, .code (at_ (bt 4 15) (body Tryz.f78))]
noncomputable def V0 (n0 : Nat) (x0_0 : List (Ty.den TPiece)) (x0_1 : Int) (x0_2 : Int) : Option (Int × Unit) := loopN (exec (E k) (at_ (bt 7 23) (body Tryz.f78))) (canon 0 [0, 1, 5]) (K0 k a0 a1) n0 (mk 27 0 [(0, .sl true TPiece x0_0), (1, .int .i64 x0_1), (5, .int .i64 x0_2)] [])
theorem s0 (n0 : Nat) (x0_0 : List (Ty.den TPiece)) (x0_1 : Int) (x0_2 : Int) : V0 k a0 a1 (n0 + 1) x0_0 x0_1 x0_2 = b0 k (V0 k a0 a1 n0) x0_0 x0_1 x0_2 := by kernel_rfl
theorem e0 (n0 : Nat) : V0 k a0 a1 n0 = l0 k n0 := loop_eq (V := V0 k a0 a1) (l := l0 k) rfl (fun n0 => funext fun x0_0 => funext fun x0_1 => funext fun x0_2 => s0 k a0 a1 n0 x0_0 x0_1 x0_2) (fun _ => rfl) n0
end
theorem eq (k : Nat) (a0 : List (Ty.den TPiece)) (a1 : Int) : run (E k) Tryz.f78 [.val (.slice TPiece), .val (.int .i64)] [(.int .i64)] true false (a0, a1, ()) = f k a0 a1 := (show _ = t k (V0 k a0 a1 k) a0 a1 by kernel_rfl).trans (by rw [e0]; rfl)
theorem ctr (k : Nat) : Ctr J Tryz.prog 78 (C k) :=
  run_ctr (E := E k) mixed tb_ok (eqOk_of tb_eqs) (Cts.cons (laws_szPiece.ctr k) Cts.nil) (by kernel_rfl) Tryz.func78 (by kernel_rfl) rfl (fun ⟨a0, a1, _⟩ r h => (eq k a0 a1).trans h)
end laws_szPieceS
namespace laws_szFollower
def C (k : Nat) : Cn := ⟨[.val TFollower, .val (.int .i64)], [(.int .i64)], true, false, fun x => f k x.1 x.2.1⟩
def E (k : Nat) : Env := ⟨tb, [(78, laws_szPieceS.C k)], [], k, 0, []⟩
theorem eq (k : Nat) (a0 : Ty.den TFollower) (a1 : Int) : run (E k) Tryz.f29 [.val TFollower, .val (.int .i64)] [(.int .i64)] true false (a0, a1, ()) = f k a0 a1 := by kernel_rfl
theorem ctr (k : Nat) : Ctr J Tryz.prog 29 (C k) :=
  run_ctr (E := E k) mixed tb_ok (eqOk_of tb_eqs) (Cts.cons (laws_szPieceS.ctr k) Cts.nil) (by kernel_rfl) Tryz.func29 (by kernel_rfl) rfl (fun ⟨a0, a1, _⟩ r h => (eq k a0 a1).trans h)
end laws_szFollower
namespace laws_toPiece
def C (k : Nat) : Cn := ⟨[.val TPiece], [TPiece], true, false, fun x => f k x.1⟩
def E (k : Nat) : Env := ⟨tb, [], [], k, 0, []⟩
theorem eq (k : Nat) (a0 : Ty.den TPiece) : run (E k) Tryz.f137 [.val TPiece] [TPiece] true false (a0, ()) = f k a0 := by kernel_rfl
theorem ctr (k : Nat) : Ctr J Tryz.prog 137 (C k) :=
  run_ctr (E := E k) mixed tb_ok (eqOk_of tb_eqs) Cts.nil (by kernel_rfl) Tryz.func137 (by kernel_rfl) rfl (fun ⟨a0, _⟩ r h => (eq k a0).trans h)
end laws_toPiece
namespace laws_toPieceS
def C (k : Nat) : Cn := ⟨[.val (.slice TPiece)], [(.slice TPiece)], true, false, fun x => f k x.1⟩
def E (k : Nat) : Env := ⟨tb, [(137, laws_toPiece.C k)], [(3, [0, 3, 4])], k, 0, []⟩
section
variable (k : Nat) (a0 : List (Ty.den TPiece))
noncomputable def K0 : Ex → St → Option ((List (Ty.den TPiece)) × Unit) := runK (E k) (endK (E k) Tryz.f82.results.toList [.val (.slice TPiece)] (a0, ()) [(.slice TPiece)] true false) [.blk 0, .code (at_ (bt 3 7) (body Tryz.f82))]
noncomputable def V0 (n0 : Nat) (x0_0 : List (Ty.den TPiece)) (x0_1 : Int) (x0_2 : List (Ty.den TPiece)) : Option ((List (Ty.den TPiece)) × Unit) := loopN (exec (E k) (at_ (bt 6 11) (body Tryz.f82))) (canon 0 [0, 3, 4]) (K0 k a0) n0 (mk 23 1 [(0, .sl true TPiece x0_0), (3, .ref 0), (4, .int .i64 x0_1)] [(0, .own false TPiece x0_2)])
theorem s0 (n0 : Nat) (x0_0 : List (Ty.den TPiece)) (x0_1 : Int) (x0_2 : List (Ty.den TPiece)) : V0 k a0 (n0 + 1) x0_0 x0_1 x0_2 = b0 k (V0 k a0 n0) x0_0 x0_1 x0_2 := by kernel_rfl
theorem e0 (n0 : Nat) : V0 k a0 n0 = l0 k n0 := loop_eq (V := V0 k a0) (l := l0 k) rfl (fun n0 => funext fun x0_0 => funext fun x0_1 => funext fun x0_2 => s0 k a0 n0 x0_0 x0_1 x0_2) (fun _ => rfl) n0
end
theorem eq (k : Nat) (a0 : List (Ty.den TPiece)) : run (E k) Tryz.f82 [.val (.slice TPiece)] [(.slice TPiece)] true false (a0, ()) = f k a0 := (show _ = t k (V0 k a0 k) a0 by kernel_rfl).trans (by rw [e0]; rfl)
theorem ctr (k : Nat) : Ctr J Tryz.prog 82 (C k) :=
  run_ctr (E := E k) mixed tb_ok (eqOk_of tb_eqs) (Cts.cons (laws_toPiece.ctr k) Cts.nil) (by kernel_rfl) Tryz.func82 (by kernel_rfl) rfl (fun ⟨a0, _⟩ r h => (eq k a0).trans h)
end laws_toPieceS
namespace laws_toFollower
def C (k : Nat) : Cn := ⟨[.val TFollower], [TFollower], true, false, fun x => f k x.1⟩
def E (k : Nat) : Env := ⟨tb, [(82, laws_toPieceS.C k)], [], k, 0, []⟩
theorem eq (k : Nat) (a0 : Ty.den TFollower) : run (E k) Tryz.f31 [.val TFollower] [TFollower] true false (a0, ()) = f k a0 := by kernel_rfl
theorem ctr (k : Nat) : Ctr J Tryz.prog 31 (C k) :=
  run_ctr (E := E k) mixed tb_ok (eqOk_of tb_eqs) (Cts.cons (laws_toPieceS.ctr k) Cts.nil) (by kernel_rfl) Tryz.func31 (by kernel_rfl) rfl (fun ⟨a0, _⟩ r h => (eq k a0).trans h)
end laws_toFollower
namespace spec_l27Text
def C (k : Nat) : Cn := ⟨[.val TFollower, .val (.int .i64)], [.str], true, false, fun x => f k x.1 x.2.1⟩
def E (k : Nat) : Env := ⟨tb, [], [(2, [1, 2, 5])], k, 0, []⟩
section
variable (k : Nat) (a0 : Ty.den TFollower) (a1 : Int)
noncomputable def K0 : Ex → St → Option (ByteArray × Unit) := runK (E k) (endK (E k) Tryz.f81.results.toList [.val TFollower, .val (.int .i64)] (a0, a1, ()) [.str] true false) [.blk 0, .code (at_ (bt 2 3) (body Tryz.f81))]
noncomputable def V0 (n0 : Nat) (x0_0 : Int) (x0_1 : Int) (x0_2 : Int) (x0_3 : List (Ty.den TPiece)) : Option (ByteArray × Unit) := loopN (exec (E k) (at_ (bt 5 5) (body Tryz.f81))) (canon 0 [1, 2, 5]) (K0 k a0 a1) n0 (mk 27 1 [(1, .int .i64 x0_0), (2, .ptr 0 0 0), (5, .int .i64 x0_1)] [(0, .box [.int .i64 x0_2, .sl true TPiece x0_3])])
theorem s0 (n0 : Nat) (x0_0 : Int) (x0_1 : Int) (x0_2 : Int) (x0_3 : List (Ty.den TPiece)) : V0 k a0 a1 (n0 + 1) x0_0 x0_1 x0_2 x0_3 = b0 k (V0 k a0 a1 n0) x0_0 x0_1 x0_2 x0_3 := by kernel_rfl
theorem e0 (n0 : Nat) : V0 k a0 a1 n0 = l0 k n0 := loop_eq (V := V0 k a0 a1) (l := l0 k) rfl (fun n0 => funext fun x0_0 => funext fun x0_1 => funext fun x0_2 => funext fun x0_3 => s0 k a0 a1 n0 x0_0 x0_1 x0_2 x0_3) (fun _ => rfl) n0
end
theorem eq (k : Nat) (a0 : Ty.den TFollower) (a1 : Int) : run (E k) Tryz.f81 [.val TFollower, .val (.int .i64)] [.str] true false (a0, a1, ()) = f k a0 a1 := (show _ = t k (V0 k a0 a1 k) a0 a1 by kernel_rfl).trans (by rw [e0]; rfl)
theorem ctr (k : Nat) : Ctr J Tryz.prog 81 (C k) :=
  run_ctr (E := E k) mixed tb_ok (eqOk_of tb_eqs) Cts.nil (by kernel_rfl) Tryz.func81 (by kernel_rfl) rfl (fun ⟨a0, a1, _⟩ r h => (eq k a0 a1).trans h)
end spec_l27Text
namespace spec_Ship
def C (k : Nat) : Cn := ⟨[.val TStore, .val TDisk, .val TFollower], [TParcel], true, false, fun x => f k x.1 x.2.1 x.2.2.1⟩
def E (k : Nat) : Env := ⟨tb, [(47, spec_StoreOk.C k), (80, spec_SegName.C k), (79, spec_FileText.C k), (81, spec_l27Text.C k)], [(6, [3, 4, 5, 6, 7, 8])], k, 0, []⟩
section
variable (k : Nat) (a0 : Ty.den TStore) (a1 : Ty.den TDisk) (a2 : Ty.den TFollower)
noncomputable def K0 : Ex → St → Option ((Ty.den TParcel) × Unit) := runK (E k) (endK (E k) Tryz.f30.results.toList [.val TStore, .val TDisk, .val TFollower] (a0, a1, a2, ()) [TParcel] true false) [.blk 0, .code (at_ (bt 5 31) (body Tryz.f30))]
noncomputable def V0 (n0 : Nat) (x0_0 : Int) (x0_1 : Int) (x0_2 : List Int) (x0_3 : List (Ty.den TEntry)) (x0_4 : Int) (x0_5 : Int) (x0_6 : Int) (x0_7 : List (Ty.den TPair)) (x0_8 : Int) (x0_9 : Int) (x0_10 : Bool) (x0_11 : Int) (x0_12 : List (Ty.den TPiece)) (x0_13 : List (Ty.den TBit)) (x0_14 : Int) (x0_15 : List (Ty.den TBit)) (x0_16 : Int) : Option ((Ty.den TParcel) × Unit) := loopN (exec (E k) (at_ (bt 8 47) (body Tryz.f30))) (canon 0 [3, 4, 5, 6, 7, 8]) (K0 k a0 a1 a2) n0 (mk 75 7 [(3, .ptr 0 0 0), (4, .ptr 1 0 0), (5, .ptr 2 0 0), (6, .ptr 3 0 0), (7, .ptr 5 0 0), (8, .int .i64 x0_0)] [(0, .box [.int .i64 x0_1, .sl true (.int .i64) x0_2, .sl true TEntry x0_3, .int .i64 x0_4, .int .i64 x0_5, .int .i64 x0_6]), (1, .box [.sl true TPair x0_7, .int .i64 x0_8, .int .i64 x0_9, .bool x0_10]), (2, .box [.int .i64 x0_11, .sl true TPiece x0_12]), (4, .own false TBit x0_13), (3, .box [.int .i64 x0_14, .ref 4]), (6, .own false TBit x0_15), (5, .box [.int .i64 x0_16, .ref 6])])
theorem s0 (n0 : Nat) (x0_0 : Int) (x0_1 : Int) (x0_2 : List Int) (x0_3 : List (Ty.den TEntry)) (x0_4 : Int) (x0_5 : Int) (x0_6 : Int) (x0_7 : List (Ty.den TPair)) (x0_8 : Int) (x0_9 : Int) (x0_10 : Bool) (x0_11 : Int) (x0_12 : List (Ty.den TPiece)) (x0_13 : List (Ty.den TBit)) (x0_14 : Int) (x0_15 : List (Ty.den TBit)) (x0_16 : Int) : V0 k a0 a1 a2 (n0 + 1) x0_0 x0_1 x0_2 x0_3 x0_4 x0_5 x0_6 x0_7 x0_8 x0_9 x0_10 x0_11 x0_12 x0_13 x0_14 x0_15 x0_16 = b0 k (V0 k a0 a1 a2 n0) x0_0 x0_1 x0_2 x0_3 x0_4 x0_5 x0_6 x0_7 x0_8 x0_9 x0_10 x0_11 x0_12 x0_13 x0_14 x0_15 x0_16 := by kernel_rfl
theorem e0 (n0 : Nat) : V0 k a0 a1 a2 n0 = l0 k n0 := loop_eq (V := V0 k a0 a1 a2) (l := l0 k) rfl (fun n0 => funext fun x0_0 => funext fun x0_1 => funext fun x0_2 => funext fun x0_3 => funext fun x0_4 => funext fun x0_5 => funext fun x0_6 => funext fun x0_7 => funext fun x0_8 => funext fun x0_9 => funext fun x0_10 => funext fun x0_11 => funext fun x0_12 => funext fun x0_13 => funext fun x0_14 => funext fun x0_15 => funext fun x0_16 => s0 k a0 a1 a2 n0 x0_0 x0_1 x0_2 x0_3 x0_4 x0_5 x0_6 x0_7 x0_8 x0_9 x0_10 x0_11 x0_12 x0_13 x0_14 x0_15 x0_16) (fun _ => rfl) n0
end
theorem eq (k : Nat) (a0 : Ty.den TStore) (a1 : Ty.den TDisk) (a2 : Ty.den TFollower) : run (E k) Tryz.f30 [.val TStore, .val TDisk, .val TFollower] [TParcel] true false (a0, a1, a2, ()) = f k a0 a1 a2 := (show _ = t k (V0 k a0 a1 a2 k) a0 a1 a2 by kernel_rfl).trans (by rw [e0]; rfl)
theorem ctr (k : Nat) : Ctr J Tryz.prog 30 (C k) :=
  run_ctr (E := E k) mixed tb_ok (eqOk_of tb_eqs) (Cts.cons (spec_StoreOk.ctr k) (Cts.cons (spec_SegName.ctr k) (Cts.cons (spec_FileText.ctr k) (Cts.cons (spec_l27Text.ctr k) Cts.nil)))) (by kernel_rfl) Tryz.func30 (by kernel_rfl) rfl (fun ⟨a0, a1, a2, _⟩ r h => (eq k a0 a1 a2).trans h)
end spec_Ship
namespace impl_has
def C (k : Nat) : Cn := ⟨[.val TFollower, .val (.int .i64)], [.str], true, false, fun x => f k x.1 x.2.1⟩
def E (k : Nat) : Env := ⟨tb, [], [(2, [1, 8, 9, 10])], k, 0, []⟩
section
variable (k : Nat) (a0 : Ty.den TFollower) (a1 : Int)
noncomputable def K0 : Ex → St → Option (ByteArray × Unit) := runK (E k) (endK (E k) Tryz.f85.results.toList [.val TFollower, .val (.int .i64)] (a0, a1, ()) [.str] true false) [.blk 0, .code (at_ (bt 2 3) (body Tryz.f85))]
noncomputable def V0 (n0 : Nat) (x0_0 : Int) (x0_1 : List (Ty.den TPiece)) (x0_2 : Int) (x0_3 : Int) : Option (ByteArray × Unit) := loopN (exec (E k) (at_ (bt 5 5) (body Tryz.f85))) (canon 0 [1, 8, 9, 10]) (K0 k a0 a1) n0 (mk 21 0 [(1, .int .i64 x0_0), (8, .sl true TPiece x0_1), (9, .int .i64 x0_2), (10, .int .i64 x0_3)] [])
theorem s0 (n0 : Nat) (x0_0 : Int) (x0_1 : List (Ty.den TPiece)) (x0_2 : Int) (x0_3 : Int) : V0 k a0 a1 (n0 + 1) x0_0 x0_1 x0_2 x0_3 = b0 k (V0 k a0 a1 n0) x0_0 x0_1 x0_2 x0_3 := by kernel_rfl
theorem e0 (n0 : Nat) : V0 k a0 a1 n0 = l0 k n0 := loop_eq (V := V0 k a0 a1) (l := l0 k) rfl (fun n0 => funext fun x0_0 => funext fun x0_1 => funext fun x0_2 => funext fun x0_3 => s0 k a0 a1 n0 x0_0 x0_1 x0_2 x0_3) (fun _ => rfl) n0
end
theorem eq (k : Nat) (a0 : Ty.den TFollower) (a1 : Int) : run (E k) Tryz.f85 [.val TFollower, .val (.int .i64)] [.str] true false (a0, a1, ()) = f k a0 a1 := (show _ = t k (V0 k a0 a1 k) a0 a1 by kernel_rfl).trans (by rw [e0]; rfl)
theorem ctr (k : Nat) : Ctr J Tryz.prog 85 (C k) :=
  run_ctr (E := E k) mixed tb_ok (eqOk_of tb_eqs) Cts.nil (by kernel_rfl) Tryz.func85 (by kernel_rfl) rfl (fun ⟨a0, a1, _⟩ r h => (eq k a0 a1).trans h)
end impl_has
namespace impl_Ship
def C (k : Nat) : Cn := ⟨[.val TStore, .val TDisk, .val TFollower], [TParcel], true, false, fun x => f k x.1 x.2.1 x.2.2.1⟩
def E (k : Nat) : Env := ⟨tb, [(54, impl_StoreOk.C k), (84, impl_SegName.C k), (83, impl_FileText.C k), (85, impl_has.C k), (86, lib_HasPrefix.C k)], [(5, [4, 5, 6, 7, 25, 26, 27])], k, 0, []⟩
section
variable (k : Nat) (a0 : Ty.den TStore) (a1 : Ty.den TDisk) (a2 : Ty.den TFollower)
noncomputable def K0 : Ex → St → Option ((Ty.den TParcel) × Unit) := runK (E k) (endK (E k) Tryz.f32.results.toList [.val TStore, .val TDisk, .val TFollower] (a0, a1, a2, ()) [TParcel] true false) [.blk 0, .code (at_ (bt 4 15) (body Tryz.f32))]
noncomputable def V0 (n0 : Nat) (x0_0 : List Int) (x0_1 : Int) (x0_2 : Int) (x0_3 : List (Ty.den TPair)) (x0_4 : Int) (x0_5 : Int) (x0_6 : Bool) (x0_7 : Int) (x0_8 : List (Ty.den TPiece)) (x0_9 : List (Ty.den TBit)) (x0_10 : Int) (x0_11 : List (Ty.den TBit)) (x0_12 : Int) : Option ((Ty.den TParcel) × Unit) := loopN (exec (E k) (at_ (bt 7 23) (body Tryz.f32))) (canon 0 [4, 5, 6, 7, 25, 26, 27]) (K0 k a0 a1 a2) n0 (mk 63 6 [(4, .ptr 0 0 0), (5, .ptr 1 0 0), (6, .ptr 2 0 0), (7, .ptr 4 0 0), (25, .sl true (.int .i64) x0_0), (26, .int .i64 x0_1), (27, .int .i64 x0_2)] [(0, .box [.sl true TPair x0_3, .int .i64 x0_4, .int .i64 x0_5, .bool x0_6]), (1, .box [.int .i64 x0_7, .sl true TPiece x0_8]), (3, .own false TBit x0_9), (2, .box [.int .i64 x0_10, .ref 3]), (5, .own false TBit x0_11), (4, .box [.int .i64 x0_12, .ref 5])])
theorem s0 (n0 : Nat) (x0_0 : List Int) (x0_1 : Int) (x0_2 : Int) (x0_3 : List (Ty.den TPair)) (x0_4 : Int) (x0_5 : Int) (x0_6 : Bool) (x0_7 : Int) (x0_8 : List (Ty.den TPiece)) (x0_9 : List (Ty.den TBit)) (x0_10 : Int) (x0_11 : List (Ty.den TBit)) (x0_12 : Int) : V0 k a0 a1 a2 (n0 + 1) x0_0 x0_1 x0_2 x0_3 x0_4 x0_5 x0_6 x0_7 x0_8 x0_9 x0_10 x0_11 x0_12 = b0 k (V0 k a0 a1 a2 n0) x0_0 x0_1 x0_2 x0_3 x0_4 x0_5 x0_6 x0_7 x0_8 x0_9 x0_10 x0_11 x0_12 := by kernel_rfl
theorem e0 (n0 : Nat) : V0 k a0 a1 a2 n0 = l0 k n0 := loop_eq (V := V0 k a0 a1 a2) (l := l0 k) rfl (fun n0 => funext fun x0_0 => funext fun x0_1 => funext fun x0_2 => funext fun x0_3 => funext fun x0_4 => funext fun x0_5 => funext fun x0_6 => funext fun x0_7 => funext fun x0_8 => funext fun x0_9 => funext fun x0_10 => funext fun x0_11 => funext fun x0_12 => s0 k a0 a1 a2 n0 x0_0 x0_1 x0_2 x0_3 x0_4 x0_5 x0_6 x0_7 x0_8 x0_9 x0_10 x0_11 x0_12) (fun _ => rfl) n0
end
theorem eq (k : Nat) (a0 : Ty.den TStore) (a1 : Ty.den TDisk) (a2 : Ty.den TFollower) : run (E k) Tryz.f32 [.val TStore, .val TDisk, .val TFollower] [TParcel] true false (a0, a1, a2, ()) = f k a0 a1 a2 := (show _ = t k (V0 k a0 a1 a2 k) a0 a1 a2 by kernel_rfl).trans (by rw [e0]; rfl)
theorem ctr (k : Nat) : Ctr J Tryz.prog 32 (C k) :=
  run_ctr (E := E k) mixed tb_ok (eqOk_of tb_eqs) (Cts.cons (impl_StoreOk.ctr k) (Cts.cons (impl_SegName.ctr k) (Cts.cons (impl_FileText.ctr k) (Cts.cons (impl_has.ctr k) (Cts.cons (lib_HasPrefix.ctr k) Cts.nil))))) (by kernel_rfl) Tryz.func32 (by kernel_rfl) rfl (fun ⟨a0, a1, a2, _⟩ r h => (eq k a0 a1 a2).trans h)
end impl_Ship
namespace laws_eqBit
def C (k : Nat) : Cn := ⟨[.val TBit, .val TBit], [.bool], true, false, fun x => f k x.1 x.2.1⟩
def E (k : Nat) : Env := ⟨tb, [], [], k, 0, []⟩
theorem eq (k : Nat) (a0 : Ty.den TBit) (a1 : Ty.den TBit) : run (E k) Tryz.f141 [.val TBit, .val TBit] [.bool] true false (a0, a1, ()) = f k a0 a1 := by kernel_rfl
theorem ctr (k : Nat) : Ctr J Tryz.prog 141 (C k) :=
  run_ctr (E := E k) mixed tb_ok (eqOk_of tb_eqs) Cts.nil (by kernel_rfl) Tryz.func141 (by kernel_rfl) rfl (fun ⟨a0, a1, _⟩ r h => (eq k a0 a1).trans h)
end laws_eqBit
namespace laws_eqBitS
def C (k : Nat) : Cn := ⟨[.val (.slice TBit), .val (.slice TBit)], [.bool], true, false, fun x => f k x.1 x.2.1⟩
def E (k : Nat) : Env := ⟨tb, [(141, laws_eqBit.C k)], [(4, [0, 1, 5])], k, 0, []⟩
section
variable (k : Nat) (a0 : List (Ty.den TBit)) (a1 : List (Ty.den TBit))
noncomputable def K0 : Ex → St → Option (Bool × Unit) := runK (E k) (endK (E k) Tryz.f87.results.toList [.val (.slice TBit), .val (.slice TBit)] (a0, a1, ()) [.bool] true false) [.blk 0, .code (at_ (bt 3 7) (body Tryz.f87))]
noncomputable def V0 (n0 : Nat) (x0_0 : List (Ty.den TBit)) (x0_1 : List (Ty.den TBit)) (x0_2 : Int) : Option (Bool × Unit) := loopN (exec (E k) (at_ (bt 6 11) (body Tryz.f87))) (canon 0 [0, 1, 5]) (K0 k a0 a1) n0 (mk 27 0 [(0, .sl true TBit x0_0), (1, .sl true TBit x0_1), (5, .int .i64 x0_2)] [])
theorem s0 (n0 : Nat) (x0_0 : List (Ty.den TBit)) (x0_1 : List (Ty.den TBit)) (x0_2 : Int) : V0 k a0 a1 (n0 + 1) x0_0 x0_1 x0_2 = b0 k (V0 k a0 a1 n0) x0_0 x0_1 x0_2 := by kernel_rfl
theorem e0 (n0 : Nat) : V0 k a0 a1 n0 = l0 k n0 := loop_eq (V := V0 k a0 a1) (l := l0 k) rfl (fun n0 => funext fun x0_0 => funext fun x0_1 => funext fun x0_2 => s0 k a0 a1 n0 x0_0 x0_1 x0_2) (fun _ => rfl) n0
end
theorem eq (k : Nat) (a0 : List (Ty.den TBit)) (a1 : List (Ty.den TBit)) : run (E k) Tryz.f87 [.val (.slice TBit), .val (.slice TBit)] [.bool] true false (a0, a1, ()) = f k a0 a1 := (show _ = t k (V0 k a0 a1 k) a0 a1 by kernel_rfl).trans (by rw [e0]; rfl)
theorem ctr (k : Nat) : Ctr J Tryz.prog 87 (C k) :=
  run_ctr (E := E k) mixed tb_ok (eqOk_of tb_eqs) (Cts.cons (laws_eqBit.ctr k) Cts.nil) (by kernel_rfl) Tryz.func87 (by kernel_rfl) rfl (fun ⟨a0, a1, _⟩ r h => (eq k a0 a1).trans h)
end laws_eqBitS
namespace laws_eqParcel
def C (k : Nat) : Cn := ⟨[.val TParcel, .val TParcel], [.bool], true, false, fun x => f k x.1 x.2.1⟩
def E (k : Nat) : Env := ⟨tb, [(87, laws_eqBitS.C k)], [], k, 0, []⟩
theorem eq (k : Nat) (a0 : Ty.den TParcel) (a1 : Ty.den TParcel) : run (E k) Tryz.f33 [.val TParcel, .val TParcel] [.bool] true false (a0, a1, ()) = f k a0 a1 := by kernel_rfl
theorem ctr (k : Nat) : Ctr J Tryz.prog 33 (C k) :=
  run_ctr (E := E k) mixed tb_ok (eqOk_of tb_eqs) (Cts.cons (laws_eqBitS.ctr k) Cts.nil) (by kernel_rfl) Tryz.func33 (by kernel_rfl) rfl (fun ⟨a0, a1, _⟩ r h => (eq k a0 a1).trans h)
end laws_eqParcel
namespace laws_eqPiece
def C (k : Nat) : Cn := ⟨[.val TPiece, .val TPiece], [.bool], true, false, fun x => f k x.1 x.2.1⟩
def E (k : Nat) : Env := ⟨tb, [], [], k, 0, []⟩
theorem eq (k : Nat) (a0 : Ty.den TPiece) (a1 : Ty.den TPiece) : run (E k) Tryz.f142 [.val TPiece, .val TPiece] [.bool] true false (a0, a1, ()) = f k a0 a1 := by kernel_rfl
theorem ctr (k : Nat) : Ctr J Tryz.prog 142 (C k) :=
  run_ctr (E := E k) mixed tb_ok (eqOk_of tb_eqs) Cts.nil (by kernel_rfl) Tryz.func142 (by kernel_rfl) rfl (fun ⟨a0, a1, _⟩ r h => (eq k a0 a1).trans h)
end laws_eqPiece
namespace laws_eqPieceS
def C (k : Nat) : Cn := ⟨[.val (.slice TPiece), .val (.slice TPiece)], [.bool], true, false, fun x => f k x.1 x.2.1⟩
def E (k : Nat) : Env := ⟨tb, [(142, laws_eqPiece.C k)], [(4, [0, 1, 5])], k, 0, []⟩
section
variable (k : Nat) (a0 : List (Ty.den TPiece)) (a1 : List (Ty.den TPiece))
noncomputable def K0 : Ex → St → Option (Bool × Unit) := runK (E k) (endK (E k) Tryz.f88.results.toList [.val (.slice TPiece), .val (.slice TPiece)] (a0, a1, ()) [.bool] true false) [.blk 0, .code (at_ (bt 3 7) (body Tryz.f88))]
noncomputable def V0 (n0 : Nat) (x0_0 : List (Ty.den TPiece)) (x0_1 : List (Ty.den TPiece)) (x0_2 : Int) : Option (Bool × Unit) := loopN (exec (E k) (at_ (bt 6 11) (body Tryz.f88))) (canon 0 [0, 1, 5]) (K0 k a0 a1) n0 (mk 27 0 [(0, .sl true TPiece x0_0), (1, .sl true TPiece x0_1), (5, .int .i64 x0_2)] [])
theorem s0 (n0 : Nat) (x0_0 : List (Ty.den TPiece)) (x0_1 : List (Ty.den TPiece)) (x0_2 : Int) : V0 k a0 a1 (n0 + 1) x0_0 x0_1 x0_2 = b0 k (V0 k a0 a1 n0) x0_0 x0_1 x0_2 := by kernel_rfl
theorem e0 (n0 : Nat) : V0 k a0 a1 n0 = l0 k n0 := loop_eq (V := V0 k a0 a1) (l := l0 k) rfl (fun n0 => funext fun x0_0 => funext fun x0_1 => funext fun x0_2 => s0 k a0 a1 n0 x0_0 x0_1 x0_2) (fun _ => rfl) n0
end
theorem eq (k : Nat) (a0 : List (Ty.den TPiece)) (a1 : List (Ty.den TPiece)) : run (E k) Tryz.f88 [.val (.slice TPiece), .val (.slice TPiece)] [.bool] true false (a0, a1, ()) = f k a0 a1 := (show _ = t k (V0 k a0 a1 k) a0 a1 by kernel_rfl).trans (by rw [e0]; rfl)
theorem ctr (k : Nat) : Ctr J Tryz.prog 88 (C k) :=
  run_ctr (E := E k) mixed tb_ok (eqOk_of tb_eqs) (Cts.cons (laws_eqPiece.ctr k) Cts.nil) (by kernel_rfl) Tryz.func88 (by kernel_rfl) rfl (fun ⟨a0, a1, _⟩ r h => (eq k a0 a1).trans h)
end laws_eqPieceS
namespace laws_eqFollower
def C (k : Nat) : Cn := ⟨[.val TFollower, .val TFollower], [.bool], true, false, fun x => f k x.1 x.2.1⟩
def E (k : Nat) : Env := ⟨tb, [(88, laws_eqPieceS.C k)], [], k, 0, []⟩
theorem eq (k : Nat) (a0 : Ty.den TFollower) (a1 : Ty.den TFollower) : run (E k) Tryz.f34 [.val TFollower, .val TFollower] [.bool] true false (a0, a1, ()) = f k a0 a1 := by kernel_rfl
theorem ctr (k : Nat) : Ctr J Tryz.prog 34 (C k) :=
  run_ctr (E := E k) mixed tb_ok (eqOk_of tb_eqs) (Cts.cons (laws_eqPieceS.ctr k) Cts.nil) (by kernel_rfl) Tryz.func34 (by kernel_rfl) rfl (fun ⟨a0, a1, _⟩ r h => (eq k a0 a1).trans h)
end laws_eqFollower
namespace laws_markIntS
def C (k : Nat) : Cn := ⟨[.lend (.slice (.int .i64)), .val (.int .i64)], [(.int .i64)], true, false, fun x => f k x.1 x.2.1⟩
def E (k : Nat) : Env := ⟨tb, [], [(2, [0, 1, 5])], k, 1, []⟩
section
variable (k : Nat) (a0 : List Int) (a1 : Int)
noncomputable def K0 : Ex → St → Option ((List Int) × Int × Unit) := runK (E k) (endK (E k) Tryz.f133.results.toList [.lend (.slice (.int .i64)), .val (.int .i64)] (a0, a1, ()) [(.int .i64)] true false) [.blk 0, .code (at_ (bt 2 3) (body Tryz.f133))]
noncomputable def V0 (n0 : Nat) (x0_0 : Int) (x0_1 : Int) (x0_2 : List Int) : Option ((List Int) × Int × Unit) := loopN (exec (E k) (at_ (bt 5 5) (body Tryz.f133))) (canon 1 [0, 1, 5]) (K0 k a0 a1) n0 (mk 19 1 [(0, .ref 0), (1, .int .i64 x0_0), (5, .int .i64 x0_1)] [(0, .own false (.int .i64) x0_2)])
theorem s0 (n0 : Nat) (x0_0 : Int) (x0_1 : Int) (x0_2 : List Int) : V0 k a0 a1 (n0 + 1) x0_0 x0_1 x0_2 = b0 k a0 a1 (V0 k a0 a1 n0) x0_0 x0_1 x0_2 := by kernel_rfl
theorem e0 (n0 : Nat) : V0 k a0 a1 n0 = l0 k a0 a1 n0 := loop_eq (V := V0 k a0 a1) (l := l0 k a0 a1) rfl (fun n0 => funext fun x0_0 => funext fun x0_1 => funext fun x0_2 => s0 k a0 a1 n0 x0_0 x0_1 x0_2) (fun _ => rfl) n0
end
theorem eq (k : Nat) (a0 : List Int) (a1 : Int) : run (E k) Tryz.f133 [.lend (.slice (.int .i64)), .val (.int .i64)] [(.int .i64)] true false (a0, a1, ()) = f k a0 a1 := (show _ = t k (V0 k a0 a1 k) a0 a1 by kernel_rfl).trans (by rw [e0]; rfl)
theorem ctr (k : Nat) : Ctr J Tryz.prog 133 (C k) :=
  run_ctr (E := E k) mixed tb_ok (eqOk_of tb_eqs) Cts.nil (by kernel_rfl) Tryz.func133 (by kernel_rfl) rfl (fun ⟨a0, a1, _⟩ r h => (eq k a0 a1).trans h)
end laws_markIntS
namespace laws_markLive
def C (k : Nat) : Cn := ⟨[.lend TLive, .val (.int .i64)], [(.int .i64)], true, false, fun x => f k x.1 x.2.1⟩
def E (k : Nat) : Env := ⟨tb, [(133, laws_markIntS.C k)], [], k, 1, []⟩
theorem eq (k : Nat) (a0 : Ty.den TLive) (a1 : Int) : run (E k) Tryz.f74 [.lend TLive, .val (.int .i64)] [(.int .i64)] true false (a0, a1, ()) = f k a0 a1 := by kernel_rfl
theorem ctr (k : Nat) : Ctr J Tryz.prog 74 (C k) :=
  run_ctr (E := E k) mixed tb_ok (eqOk_of tb_eqs) (Cts.cons (laws_markIntS.ctr k) Cts.nil) (by kernel_rfl) Tryz.func74 (by kernel_rfl) rfl (fun ⟨a0, a1, _⟩ r h => (eq k a0 a1).trans h)
end laws_markLive
namespace laws_markText
def C (k : Nat) : Cn := ⟨[.val (.int .i64)], [.str], true, false, fun x => f k x.1⟩
def E (k : Nat) : Env := ⟨tb, [], [(4, [0, 3])], k, 0, []⟩
section
variable (k : Nat) (a0 : Int)
noncomputable def K0 : Ex → St → Option (ByteArray × Unit) := runK (E k) (endK (E k) Tryz.f132.results.toList [.val (.int .i64)] (a0, ()) [.str] true false) [.blk 0, .code (at_ (bt 4 15) (body Tryz.f132))]
noncomputable def V0 (n0 : Nat) (x0_0 : Int) (x0_1 : ByteArray) : Option (ByteArray × Unit) := loopN (exec (E k) (at_ (bt 6 7) (body Tryz.f132))) (canon 0 [0, 3]) (K0 k a0) n0 (mk 20 0 [(0, .int .i64 x0_0), (3, .str x0_1)] [])
theorem s0 (n0 : Nat) (x0_0 : Int) (x0_1 : ByteArray) : V0 k a0 (n0 + 1) x0_0 x0_1 = b0 k (V0 k a0 n0) x0_0 x0_1 := by kernel_rfl
theorem e0 (n0 : Nat) : V0 k a0 n0 = l0 k n0 := loop_eq (V := V0 k a0) (l := l0 k) rfl (fun n0 => funext fun x0_0 => funext fun x0_1 => s0 k a0 n0 x0_0 x0_1) (fun _ => rfl) n0
end
theorem eq (k : Nat) (a0 : Int) : run (E k) Tryz.f132 [.val (.int .i64)] [.str] true false (a0, ()) = f k a0 := (show _ = t k (V0 k a0 k) a0 by kernel_rfl).trans (by rw [e0]; rfl)
theorem ctr (k : Nat) : Ctr J Tryz.prog 132 (C k) :=
  run_ctr (E := E k) mixed tb_ok (eqOk_of tb_eqs) Cts.nil (by kernel_rfl) Tryz.func132 (by kernel_rfl) rfl (fun ⟨a0, _⟩ r h => (eq k a0).trans h)
end laws_markText
namespace laws_markEntryS
def C (k : Nat) : Cn := ⟨[.lend (.slice TEntry), .val (.int .i64)], [(.int .i64)], true, false, fun x => f k x.1 x.2.1⟩
def E (k : Nat) : Env := ⟨tb, [(132, laws_markText.C k)], [(2, [0, 1, 5])], k, 1, []⟩
section
variable (k : Nat) (a0 : List (Ty.den TEntry)) (a1 : Int)
noncomputable def K0 : Ex → St → Option ((List (Ty.den TEntry)) × Int × Unit) := runK (E k) (endK (E k) Tryz.f75.results.toList [.lend (.slice TEntry), .val (.int .i64)] (a0, a1, ()) [(.int .i64)] true false) [.blk 0, .code (at_ (bt 2 3) (body Tryz.f75))]
noncomputable def V0 (n0 : Nat) (x0_0 : Int) (x0_1 : Int) (x0_2 : List (Ty.den TEntry)) : Option ((List (Ty.den TEntry)) × Int × Unit) := loopN (exec (E k) (at_ (bt 5 5) (body Tryz.f75))) (canon 1 [0, 1, 5]) (K0 k a0 a1) n0 (mk 49 1 [(0, .ref 0), (1, .int .i64 x0_0), (5, .int .i64 x0_1)] [(0, .own false TEntry x0_2)])
theorem s0 (n0 : Nat) (x0_0 : Int) (x0_1 : Int) (x0_2 : List (Ty.den TEntry)) : V0 k a0 a1 (n0 + 1) x0_0 x0_1 x0_2 = b0 k a0 a1 (V0 k a0 a1 n0) x0_0 x0_1 x0_2 := by kernel_rfl
theorem e0 (n0 : Nat) : V0 k a0 a1 n0 = l0 k a0 a1 n0 := loop_eq (V := V0 k a0 a1) (l := l0 k a0 a1) rfl (fun n0 => funext fun x0_0 => funext fun x0_1 => funext fun x0_2 => s0 k a0 a1 n0 x0_0 x0_1 x0_2) (fun _ => rfl) n0
end
theorem eq (k : Nat) (a0 : List (Ty.den TEntry)) (a1 : Int) : run (E k) Tryz.f75 [.lend (.slice TEntry), .val (.int .i64)] [(.int .i64)] true false (a0, a1, ()) = f k a0 a1 := (show _ = t k (V0 k a0 a1 k) a0 a1 by kernel_rfl).trans (by rw [e0]; rfl)
theorem ctr (k : Nat) : Ctr J Tryz.prog 75 (C k) :=
  run_ctr (E := E k) mixed tb_ok (eqOk_of tb_eqs) (Cts.cons (laws_markText.ctr k) Cts.nil) (by kernel_rfl) Tryz.func75 (by kernel_rfl) rfl (fun ⟨a0, a1, _⟩ r h => (eq k a0 a1).trans h)
end laws_markEntryS
namespace laws_markStore
def C (k : Nat) : Cn := ⟨[.lend TStore, .val (.int .i64)], [(.int .i64)], true, false, fun x => f k x.1 x.2.1⟩
def E (k : Nat) : Env := ⟨tb, [(74, laws_markLive.C k), (75, laws_markEntryS.C k)], [], k, 2, []⟩
theorem eq (k : Nat) (a0 : Ty.den TStore) (a1 : Int) : run (E k) Tryz.f26 [.lend TStore, .val (.int .i64)] [(.int .i64)] true false (a0, a1, ()) = f k a0 a1 := by kernel_rfl
theorem ctr (k : Nat) : Ctr J Tryz.prog 26 (C k) :=
  run_ctr (E := E k) mixed tb_ok (eqOk_of tb_eqs) (Cts.cons (laws_markLive.ctr k) (Cts.cons (laws_markEntryS.ctr k) Cts.nil)) (by kernel_rfl) Tryz.func26 (by kernel_rfl) rfl (fun ⟨a0, a1, _⟩ r h => (eq k a0 a1).trans h)
end laws_markStore
namespace laws_markFileS
def C (k : Nat) : Cn := ⟨[.lend (.slice TPair), .val (.int .i64)], [(.int .i64)], true, false, fun x => f k x.1 x.2.1⟩
def E (k : Nat) : Env := ⟨tb, [(132, laws_markText.C k)], [(2, [0, 1, 5])], k, 1, []⟩
section
variable (k : Nat) (a0 : List (Ty.den TPair)) (a1 : Int)
noncomputable def K0 : Ex → St → Option ((List (Ty.den TPair)) × Int × Unit) := runK (E k) (endK (E k) Tryz.f76.results.toList [.lend (.slice TPair), .val (.int .i64)] (a0, a1, ()) [(.int .i64)] true false) [.blk 0, .code (at_ (bt 2 3) (body Tryz.f76))]
noncomputable def V0 (n0 : Nat) (x0_0 : Int) (x0_1 : Int) (x0_2 : List (Ty.den TPair)) : Option ((List (Ty.den TPair)) × Int × Unit) := loopN (exec (E k) (at_ (bt 5 5) (body Tryz.f76))) (canon 1 [0, 1, 5]) (K0 k a0 a1) n0 (mk 36 1 [(0, .ref 0), (1, .int .i64 x0_0), (5, .int .i64 x0_1)] [(0, .own false TPair x0_2)])
theorem s0 (n0 : Nat) (x0_0 : Int) (x0_1 : Int) (x0_2 : List (Ty.den TPair)) : V0 k a0 a1 (n0 + 1) x0_0 x0_1 x0_2 = b0 k a0 a1 (V0 k a0 a1 n0) x0_0 x0_1 x0_2 := by kernel_rfl
theorem e0 (n0 : Nat) : V0 k a0 a1 n0 = l0 k a0 a1 n0 := loop_eq (V := V0 k a0 a1) (l := l0 k a0 a1) rfl (fun n0 => funext fun x0_0 => funext fun x0_1 => funext fun x0_2 => s0 k a0 a1 n0 x0_0 x0_1 x0_2) (fun _ => rfl) n0
end
theorem eq (k : Nat) (a0 : List (Ty.den TPair)) (a1 : Int) : run (E k) Tryz.f76 [.lend (.slice TPair), .val (.int .i64)] [(.int .i64)] true false (a0, a1, ()) = f k a0 a1 := (show _ = t k (V0 k a0 a1 k) a0 a1 by kernel_rfl).trans (by rw [e0]; rfl)
theorem ctr (k : Nat) : Ctr J Tryz.prog 76 (C k) :=
  run_ctr (E := E k) mixed tb_ok (eqOk_of tb_eqs) (Cts.cons (laws_markText.ctr k) Cts.nil) (by kernel_rfl) Tryz.func76 (by kernel_rfl) rfl (fun ⟨a0, a1, _⟩ r h => (eq k a0 a1).trans h)
end laws_markFileS
namespace laws_markDisk
def C (k : Nat) : Cn := ⟨[.lend TDisk, .val (.int .i64)], [(.int .i64)], true, false, fun x => f k x.1 x.2.1⟩
def E (k : Nat) : Env := ⟨tb, [(76, laws_markFileS.C k)], [], k, 1, []⟩
theorem eq (k : Nat) (a0 : Ty.den TDisk) (a1 : Int) : run (E k) Tryz.f27 [.lend TDisk, .val (.int .i64)] [(.int .i64)] true false (a0, a1, ()) = f k a0 a1 := by kernel_rfl
theorem ctr (k : Nat) : Ctr J Tryz.prog 27 (C k) :=
  run_ctr (E := E k) mixed tb_ok (eqOk_of tb_eqs) (Cts.cons (laws_markFileS.ctr k) Cts.nil) (by kernel_rfl) Tryz.func27 (by kernel_rfl) rfl (fun ⟨a0, a1, _⟩ r h => (eq k a0 a1).trans h)
end laws_markDisk
namespace laws_markPieceS
def C (k : Nat) : Cn := ⟨[.lend (.slice TPiece), .val (.int .i64)], [(.int .i64)], true, false, fun x => f k x.1 x.2.1⟩
def E (k : Nat) : Env := ⟨tb, [(132, laws_markText.C k)], [(2, [0, 1, 5])], k, 1, []⟩
section
variable (k : Nat) (a0 : List (Ty.den TPiece)) (a1 : Int)
noncomputable def K0 : Ex → St → Option ((List (Ty.den TPiece)) × Int × Unit) := runK (E k) (endK (E k) Tryz.f89.results.toList [.lend (.slice TPiece), .val (.int .i64)] (a0, a1, ()) [(.int .i64)] true false) [.blk 0, .code (at_ (bt 2 3) (body Tryz.f89))]
noncomputable def V0 (n0 : Nat) (x0_0 : Int) (x0_1 : Int) (x0_2 : List (Ty.den TPiece)) : Option ((List (Ty.den TPiece)) × Int × Unit) := loopN (exec (E k) (at_ (bt 5 5) (body Tryz.f89))) (canon 1 [0, 1, 5]) (K0 k a0 a1) n0 (mk 28 1 [(0, .ref 0), (1, .int .i64 x0_0), (5, .int .i64 x0_1)] [(0, .own false TPiece x0_2)])
theorem s0 (n0 : Nat) (x0_0 : Int) (x0_1 : Int) (x0_2 : List (Ty.den TPiece)) : V0 k a0 a1 (n0 + 1) x0_0 x0_1 x0_2 = b0 k a0 a1 (V0 k a0 a1 n0) x0_0 x0_1 x0_2 := by kernel_rfl
theorem e0 (n0 : Nat) : V0 k a0 a1 n0 = l0 k a0 a1 n0 := loop_eq (V := V0 k a0 a1) (l := l0 k a0 a1) rfl (fun n0 => funext fun x0_0 => funext fun x0_1 => funext fun x0_2 => s0 k a0 a1 n0 x0_0 x0_1 x0_2) (fun _ => rfl) n0
end
theorem eq (k : Nat) (a0 : List (Ty.den TPiece)) (a1 : Int) : run (E k) Tryz.f89 [.lend (.slice TPiece), .val (.int .i64)] [(.int .i64)] true false (a0, a1, ()) = f k a0 a1 := (show _ = t k (V0 k a0 a1 k) a0 a1 by kernel_rfl).trans (by rw [e0]; rfl)
theorem ctr (k : Nat) : Ctr J Tryz.prog 89 (C k) :=
  run_ctr (E := E k) mixed tb_ok (eqOk_of tb_eqs) (Cts.cons (laws_markText.ctr k) Cts.nil) (by kernel_rfl) Tryz.func89 (by kernel_rfl) rfl (fun ⟨a0, a1, _⟩ r h => (eq k a0 a1).trans h)
end laws_markPieceS
namespace laws_markFollower
def C (k : Nat) : Cn := ⟨[.lend TFollower, .val (.int .i64)], [(.int .i64)], true, false, fun x => f k x.1 x.2.1⟩
def E (k : Nat) : Env := ⟨tb, [(89, laws_markPieceS.C k)], [], k, 1, []⟩
theorem eq (k : Nat) (a0 : Ty.den TFollower) (a1 : Int) : run (E k) Tryz.f35 [.lend TFollower, .val (.int .i64)] [(.int .i64)] true false (a0, a1, ()) = f k a0 a1 := by kernel_rfl
theorem ctr (k : Nat) : Ctr J Tryz.prog 35 (C k) :=
  run_ctr (E := E k) mixed tb_ok (eqOk_of tb_eqs) (Cts.cons (laws_markPieceS.ctr k) Cts.nil) (by kernel_rfl) Tryz.func35 (by kernel_rfl) rfl (fun ⟨a0, a1, _⟩ r h => (eq k a0 a1).trans h)
end laws_markFollower
namespace laws_markBitS
def C (k : Nat) : Cn := ⟨[.lend (.slice TBit), .val (.int .i64)], [(.int .i64)], true, false, fun x => f k x.1 x.2.1⟩
def E (k : Nat) : Env := ⟨tb, [(132, laws_markText.C k)], [(2, [0, 1, 5])], k, 1, []⟩
section
variable (k : Nat) (a0 : List (Ty.den TBit)) (a1 : Int)
noncomputable def K0 : Ex → St → Option ((List (Ty.den TBit)) × Int × Unit) := runK (E k) (endK (E k) Tryz.f90.results.toList [.lend (.slice TBit), .val (.int .i64)] (a0, a1, ()) [(.int .i64)] true false) [.blk 0, .code (at_ (bt 2 3) (body Tryz.f90))]
noncomputable def V0 (n0 : Nat) (x0_0 : Int) (x0_1 : Int) (x0_2 : List (Ty.den TBit)) : Option ((List (Ty.den TBit)) × Int × Unit) := loopN (exec (E k) (at_ (bt 5 5) (body Tryz.f90))) (canon 1 [0, 1, 5]) (K0 k a0 a1) n0 (mk 35 1 [(0, .ref 0), (1, .int .i64 x0_0), (5, .int .i64 x0_1)] [(0, .own false TBit x0_2)])
theorem s0 (n0 : Nat) (x0_0 : Int) (x0_1 : Int) (x0_2 : List (Ty.den TBit)) : V0 k a0 a1 (n0 + 1) x0_0 x0_1 x0_2 = b0 k a0 a1 (V0 k a0 a1 n0) x0_0 x0_1 x0_2 := by kernel_rfl
theorem e0 (n0 : Nat) : V0 k a0 a1 n0 = l0 k a0 a1 n0 := loop_eq (V := V0 k a0 a1) (l := l0 k a0 a1) rfl (fun n0 => funext fun x0_0 => funext fun x0_1 => funext fun x0_2 => s0 k a0 a1 n0 x0_0 x0_1 x0_2) (fun _ => rfl) n0
end
theorem eq (k : Nat) (a0 : List (Ty.den TBit)) (a1 : Int) : run (E k) Tryz.f90 [.lend (.slice TBit), .val (.int .i64)] [(.int .i64)] true false (a0, a1, ()) = f k a0 a1 := (show _ = t k (V0 k a0 a1 k) a0 a1 by kernel_rfl).trans (by rw [e0]; rfl)
theorem ctr (k : Nat) : Ctr J Tryz.prog 90 (C k) :=
  run_ctr (E := E k) mixed tb_ok (eqOk_of tb_eqs) (Cts.cons (laws_markText.ctr k) Cts.nil) (by kernel_rfl) Tryz.func90 (by kernel_rfl) rfl (fun ⟨a0, a1, _⟩ r h => (eq k a0 a1).trans h)
end laws_markBitS
namespace laws_markParcel
def C (k : Nat) : Cn := ⟨[.lend TParcel, .val (.int .i64)], [(.int .i64)], true, false, fun x => f k x.1 x.2.1⟩
def E (k : Nat) : Env := ⟨tb, [(90, laws_markBitS.C k)], [], k, 1, []⟩
theorem eq (k : Nat) (a0 : Ty.den TParcel) (a1 : Int) : run (E k) Tryz.f36 [.lend TParcel, .val (.int .i64)] [(.int .i64)] true false (a0, a1, ()) = f k a0 a1 := by kernel_rfl
theorem ctr (k : Nat) : Ctr J Tryz.prog 36 (C k) :=
  run_ctr (E := E k) mixed tb_ok (eqOk_of tb_eqs) (Cts.cons (laws_markBitS.ctr k) Cts.nil) (by kernel_rfl) Tryz.func36 (by kernel_rfl) rfl (fun ⟨a0, a1, _⟩ r h => (eq k a0 a1).trans h)
end laws_markParcel
namespace laws_heldBitS
def C (k : Nat) : Cn := ⟨[.val (.slice TBit), .val (.int .i64)], [(.int .i64)], true, false, fun x => f k x.1 x.2.1⟩
def E (k : Nat) : Env := ⟨tb, [(132, laws_markText.C k)], [(2, [0, 1, 5])], k, 0, []⟩
section
variable (k : Nat) (a0 : List (Ty.den TBit)) (a1 : Int)
noncomputable def K0 : Ex → St → Option (Int × Unit) := runK (E k) (endK (E k) Tryz.f91.results.toList [.val (.slice TBit), .val (.int .i64)] (a0, a1, ()) [(.int .i64)] true false) [.blk 0, .code (at_ (bt 2 3) (body Tryz.f91))]
noncomputable def V0 (n0 : Nat) (x0_0 : List (Ty.den TBit)) (x0_1 : Int) (x0_2 : Int) : Option (Int × Unit) := loopN (exec (E k) (at_ (bt 5 5) (body Tryz.f91))) (canon 0 [0, 1, 5]) (K0 k a0 a1) n0 (mk 41 0 [(0, .sl true TBit x0_0), (1, .int .i64 x0_1), (5, .int .i64 x0_2)] [])
theorem s0 (n0 : Nat) (x0_0 : List (Ty.den TBit)) (x0_1 : Int) (x0_2 : Int) : V0 k a0 a1 (n0 + 1) x0_0 x0_1 x0_2 = b0 k (V0 k a0 a1 n0) x0_0 x0_1 x0_2 := by kernel_rfl
theorem e0 (n0 : Nat) : V0 k a0 a1 n0 = l0 k n0 := loop_eq (V := V0 k a0 a1) (l := l0 k) rfl (fun n0 => funext fun x0_0 => funext fun x0_1 => funext fun x0_2 => s0 k a0 a1 n0 x0_0 x0_1 x0_2) (fun _ => rfl) n0
end
theorem eq (k : Nat) (a0 : List (Ty.den TBit)) (a1 : Int) : run (E k) Tryz.f91 [.val (.slice TBit), .val (.int .i64)] [(.int .i64)] true false (a0, a1, ()) = f k a0 a1 := (show _ = t k (V0 k a0 a1 k) a0 a1 by kernel_rfl).trans (by rw [e0]; rfl)
theorem ctr (k : Nat) : Ctr J Tryz.prog 91 (C k) :=
  run_ctr (E := E k) mixed tb_ok (eqOk_of tb_eqs) (Cts.cons (laws_markText.ctr k) Cts.nil) (by kernel_rfl) Tryz.func91 (by kernel_rfl) rfl (fun ⟨a0, a1, _⟩ r h => (eq k a0 a1).trans h)
end laws_heldBitS
namespace laws_heldParcel
def C (k : Nat) : Cn := ⟨[.val TParcel, .val (.int .i64)], [(.int .i64)], true, false, fun x => f k x.1 x.2.1⟩
def E (k : Nat) : Env := ⟨tb, [(91, laws_heldBitS.C k)], [], k, 0, []⟩
theorem eq (k : Nat) (a0 : Ty.den TParcel) (a1 : Int) : run (E k) Tryz.f37 [.val TParcel, .val (.int .i64)] [(.int .i64)] true false (a0, a1, ()) = f k a0 a1 := by kernel_rfl
theorem ctr (k : Nat) : Ctr J Tryz.prog 37 (C k) :=
  run_ctr (E := E k) mixed tb_ok (eqOk_of tb_eqs) (Cts.cons (laws_heldBitS.ctr k) Cts.nil) (by kernel_rfl) Tryz.func37 (by kernel_rfl) rfl (fun ⟨a0, a1, _⟩ r h => (eq k a0 a1).trans h)
end laws_heldParcel
namespace laws_FnExactShip
def C (k : Nat) : Cn := ⟨[.val TStore, .val TDisk, .val TFollower], [.bool], true, false, fun x => f k x.1 x.2.1 x.2.2.1⟩
def E (k : Nat) : Env := ⟨tb, [(9, laws_szStore.C k), (10, laws_szDisk.C k), (29, laws_szFollower.C k), (12, laws_toStore.C k), (13, laws_toDisk.C k), (31, laws_toFollower.C k), (30, spec_Ship.C k), (32, impl_Ship.C k), (33, laws_eqParcel.C k), (15, laws_eqStore.C k), (16, laws_eqDisk.C k), (34, laws_eqFollower.C k), (26, laws_markStore.C k), (27, laws_markDisk.C k), (35, laws_markFollower.C k), (36, laws_markParcel.C k), (37, laws_heldParcel.C k)], [], k, 0, []⟩
theorem eq (k : Nat) (a0 : Ty.den TStore) (a1 : Ty.den TDisk) (a2 : Ty.den TFollower) : run (E k) Tryz.f6 [.val TStore, .val TDisk, .val TFollower] [.bool] true false (a0, a1, a2, ()) = f k a0 a1 a2 := by kernel_rfl
theorem ctr (k : Nat) : Ctr J Tryz.prog 6 (C k) :=
  run_ctr (E := E k) mixed tb_ok (eqOk_of tb_eqs) (Cts.cons (laws_szStore.ctr k) (Cts.cons (laws_szDisk.ctr k) (Cts.cons (laws_szFollower.ctr k) (Cts.cons (laws_toStore.ctr k) (Cts.cons (laws_toDisk.ctr k) (Cts.cons (laws_toFollower.ctr k) (Cts.cons (spec_Ship.ctr k) (Cts.cons (impl_Ship.ctr k) (Cts.cons (laws_eqParcel.ctr k) (Cts.cons (laws_eqStore.ctr k) (Cts.cons (laws_eqDisk.ctr k) (Cts.cons (laws_eqFollower.ctr k) (Cts.cons (laws_markStore.ctr k) (Cts.cons (laws_markDisk.ctr k) (Cts.cons (laws_markFollower.ctr k) (Cts.cons (laws_markParcel.ctr k) (Cts.cons (laws_heldParcel.ctr k) Cts.nil))))))))))))))))) (by kernel_rfl) Tryz.func6 (by kernel_rfl) rfl (fun ⟨a0, a1, a2, _⟩ r h => (eq k a0 a1 a2).trans h)
end laws_FnExactShip
end Go.Proofs.YtgcahahklmfleaaGreatDoor.G

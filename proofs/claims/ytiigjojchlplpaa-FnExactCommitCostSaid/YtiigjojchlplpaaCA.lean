/- Functions keep their contracts. -/
import Derived.Test.YtiigjojchlplpaaVTab
import Derived.Test.YtiigjojchlplpaaFA
set_option linter.unusedVariables false
set_option maxRecDepth 100000
namespace Go.Proofs.Ytiigjojchlplpaa.G
open Go.V
def laws_szIntS.E (k : Nat) : Env := ⟨tb, [], [], k, 0, []⟩
theorem laws_szIntS.q (k : Nat) (a0 : List Int) (a1 : Int) : run (laws_szIntS.E k) Try.f151 [.val (.slice (.int .i64)), .val (.int .i64)] [(.int .i64)] true false (a0, a1, ()) = laws_szIntS.t k a0 a1 := by kernel_rfl
theorem laws_szIntS.eq (k : Nat) (a0 : List Int) (a1 : Int) : run (laws_szIntS.E k) Try.f151 [.val (.slice (.int .i64)), .val (.int .i64)] [(.int .i64)] true false (a0, a1, ()) = laws_szIntS.f k a0 a1 := by
  rw [laws_szIntS.q]
  rfl
theorem laws_szIntS.ctr (k : Nat) : Ctr Try.prog 151 ⟨[.val (.slice (.int .i64)), .val (.int .i64)], [(.int .i64)], true, false, fun x => laws_szIntS.f k x.1 x.2.1⟩ :=
  run_ctr (E := laws_szIntS.E k) mixed tb_ok (eqOk_of tb_eqs) Cts.nil (by kernel_rfl) Try.func151 (by kernel_rfl) rfl (fun ⟨a0, a1, _⟩ r h => (laws_szIntS.eq k a0 a1).trans h)
def laws_szLive.E (k : Nat) : Env := ⟨tb, [(151, ⟨[.val (.slice (.int .i64)), .val (.int .i64)], [(.int .i64)], true, false, fun x => laws_szIntS.f k x.1 x.2.1⟩)], [], k, 0, []⟩
theorem laws_szLive.q (k : Nat) (a0 : Ty.den TLive) (a1 : Int) : run (laws_szLive.E k) Try.f82 [.val TLive, .val (.int .i64)] [(.int .i64)] true false (a0, a1, ()) = laws_szLive.t k a0 a1 := by kernel_rfl
theorem laws_szLive.eq (k : Nat) (a0 : Ty.den TLive) (a1 : Int) : run (laws_szLive.E k) Try.f82 [.val TLive, .val (.int .i64)] [(.int .i64)] true false (a0, a1, ()) = laws_szLive.f k a0 a1 := by
  rw [laws_szLive.q]
  rfl
theorem laws_szLive.ctr (k : Nat) : Ctr Try.prog 82 ⟨[.val TLive, .val (.int .i64)], [(.int .i64)], true, false, fun x => laws_szLive.f k x.1 x.2.1⟩ :=
  run_ctr (E := laws_szLive.E k) mixed tb_ok (eqOk_of tb_eqs) (Cts.cons (laws_szIntS.ctr k) Cts.nil) (by kernel_rfl) Try.func82 (by kernel_rfl) rfl (fun ⟨a0, a1, _⟩ r h => (laws_szLive.eq k a0 a1).trans h)
def laws_szEntry.E (k : Nat) : Env := ⟨tb, [], [], k, 0, []⟩
theorem laws_szEntry.q (k : Nat) (a0 : Ty.den TEntry) (a1 : Int) : run (laws_szEntry.E k) Try.f152 [.val TEntry, .val (.int .i64)] [(.int .i64)] true false (a0, a1, ()) = laws_szEntry.t k a0 a1 := by kernel_rfl
theorem laws_szEntry.eq (k : Nat) (a0 : Ty.den TEntry) (a1 : Int) : run (laws_szEntry.E k) Try.f152 [.val TEntry, .val (.int .i64)] [(.int .i64)] true false (a0, a1, ()) = laws_szEntry.f k a0 a1 := by
  rw [laws_szEntry.q]
  rfl
theorem laws_szEntry.ctr (k : Nat) : Ctr Try.prog 152 ⟨[.val TEntry, .val (.int .i64)], [(.int .i64)], true, false, fun x => laws_szEntry.f k x.1 x.2.1⟩ :=
  run_ctr (E := laws_szEntry.E k) mixed tb_ok (eqOk_of tb_eqs) Cts.nil (by kernel_rfl) Try.func152 (by kernel_rfl) rfl (fun ⟨a0, a1, _⟩ r h => (laws_szEntry.eq k a0 a1).trans h)
def laws_szEntryS.E (k : Nat) : Env := ⟨tb, [(152, ⟨[.val TEntry, .val (.int .i64)], [(.int .i64)], true, false, fun x => laws_szEntry.f k x.1 x.2.1⟩)], [(5, [0, 1, 5])], k, 0, []⟩
noncomputable def laws_szEntryS.K0 (k : Nat) (a0 : List (Ty.den TEntry)) (a1 : Int) : Ex → St → Option (Int × Unit) := runK (laws_szEntryS.E k) (endK (laws_szEntryS.E k) Try.f83.results.toList [.val (.slice TEntry), .val (.int .i64)] (a0, a1, ()) [(.int .i64)] true false) [.blk 0, .code (at_ [true, true, true, true] (body Try.f83))]
noncomputable def laws_szEntryS.B0 (k : Nat) (a0 : List (Ty.den TEntry)) (a1 : Int) (n0 : Nat) : Ex → St → Option (Int × Unit) := fun e st => match e with
  | .normal => loopN (exec (laws_szEntryS.E k) (at_ [true, true, true, false, true, false, false] (body Try.f83))) (canon 0 [0, 1, 5]) (laws_szEntryS.K0 k a0 a1) n0 (canon 0 [0, 1, 5] st)
  | .ret => laws_szEntryS.K0 k a0 a1 .ret st
  | .exit j => laws_szEntryS.K0 k a0 a1 (.exit j) st
noncomputable def laws_szEntryS.V0 (k : Nat) (a0 : List (Ty.den TEntry)) (a1 : Int) (n0 : Nat) (x0_0 : List (Ty.den TEntry)) (x0_1 : Int) (x0_2 : Int) : Option (Int × Unit) := loopN (exec (laws_szEntryS.E k) (at_ [true, true, true, false, true, false, false] (body Try.f83))) (canon 0 [0, 1, 5]) (laws_szEntryS.K0 k a0 a1) n0 (mk 27 0 [(0, .sl true TEntry x0_0), (1, .int .i64 x0_1), (5, .int .i64 x0_2)] [])
theorem laws_szEntryS.s0 (k : Nat) (a0 : List (Ty.den TEntry)) (a1 : Int) (n0 : Nat) (x0_0 : List (Ty.den TEntry)) (x0_1 : Int) (x0_2 : Int) : laws_szEntryS.V0 k a0 a1 (n0 + 1) x0_0 x0_1 x0_2 = laws_szEntryS.b0 k (laws_szEntryS.V0 k a0 a1 n0) x0_0 x0_1 x0_2 := by kernel_rfl
theorem laws_szEntryS.e0 (k : Nat) (a0 : List (Ty.den TEntry)) (a1 : Int) (n0 : Nat) : laws_szEntryS.V0 k a0 a1 n0 = laws_szEntryS.l0 k n0 := by
  induction n0 with
  | zero => rfl
  | succ n0 ih =>
    have h : laws_szEntryS.V0 k a0 a1 (n0 + 1) = laws_szEntryS.b0 k (laws_szEntryS.V0 k a0 a1 n0) := funext fun x0_0 => funext fun x0_1 => funext fun x0_2 => laws_szEntryS.s0 k a0 a1 n0 x0_0 x0_1 x0_2
    rw [h, ih]
    rfl
theorem laws_szEntryS.q (k : Nat) (a0 : List (Ty.den TEntry)) (a1 : Int) : run (laws_szEntryS.E k) Try.f83 [.val (.slice TEntry), .val (.int .i64)] [(.int .i64)] true false (a0, a1, ()) = laws_szEntryS.t k (laws_szEntryS.V0 k a0 a1 k) a0 a1 := by kernel_rfl
theorem laws_szEntryS.eq (k : Nat) (a0 : List (Ty.den TEntry)) (a1 : Int) : run (laws_szEntryS.E k) Try.f83 [.val (.slice TEntry), .val (.int .i64)] [(.int .i64)] true false (a0, a1, ()) = laws_szEntryS.f k a0 a1 := by
  rw [laws_szEntryS.q, laws_szEntryS.e0]
  rfl
theorem laws_szEntryS.ctr (k : Nat) : Ctr Try.prog 83 ⟨[.val (.slice TEntry), .val (.int .i64)], [(.int .i64)], true, false, fun x => laws_szEntryS.f k x.1 x.2.1⟩ :=
  run_ctr (E := laws_szEntryS.E k) mixed tb_ok (eqOk_of tb_eqs) (Cts.cons (laws_szEntry.ctr k) Cts.nil) (by kernel_rfl) Try.func83 (by kernel_rfl) rfl (fun ⟨a0, a1, _⟩ r h => (laws_szEntryS.eq k a0 a1).trans h)
def laws_szStore.E (k : Nat) : Env := ⟨tb, [(82, ⟨[.val TLive, .val (.int .i64)], [(.int .i64)], true, false, fun x => laws_szLive.f k x.1 x.2.1⟩), (83, ⟨[.val (.slice TEntry), .val (.int .i64)], [(.int .i64)], true, false, fun x => laws_szEntryS.f k x.1 x.2.1⟩)], [], k, 0, []⟩
theorem laws_szStore.q (k : Nat) (a0 : Ty.den TStore) (a1 : Int) : run (laws_szStore.E k) Try.f27 [.val TStore, .val (.int .i64)] [(.int .i64)] true false (a0, a1, ()) = laws_szStore.t k a0 a1 := by kernel_rfl
theorem laws_szStore.eq (k : Nat) (a0 : Ty.den TStore) (a1 : Int) : run (laws_szStore.E k) Try.f27 [.val TStore, .val (.int .i64)] [(.int .i64)] true false (a0, a1, ()) = laws_szStore.f k a0 a1 := by
  rw [laws_szStore.q]
  rfl
theorem laws_szStore.ctr (k : Nat) : Ctr Try.prog 27 ⟨[.val TStore, .val (.int .i64)], [(.int .i64)], true, false, fun x => laws_szStore.f k x.1 x.2.1⟩ :=
  run_ctr (E := laws_szStore.E k) mixed tb_ok (eqOk_of tb_eqs) (Cts.cons (laws_szLive.ctr k) (Cts.cons (laws_szEntryS.ctr k) Cts.nil)) (by kernel_rfl) Try.func27 (by kernel_rfl) rfl (fun ⟨a0, a1, _⟩ r h => (laws_szStore.eq k a0 a1).trans h)
def laws_szPut.E (k : Nat) : Env := ⟨tb, [], [], k, 0, []⟩
theorem laws_szPut.q (k : Nat) (a0 : Ty.den TPut) (a1 : Int) : run (laws_szPut.E k) Try.f84 [.val TPut, .val (.int .i64)] [(.int .i64)] true false (a0, a1, ()) = laws_szPut.t k a0 a1 := by kernel_rfl
theorem laws_szPut.eq (k : Nat) (a0 : Ty.den TPut) (a1 : Int) : run (laws_szPut.E k) Try.f84 [.val TPut, .val (.int .i64)] [(.int .i64)] true false (a0, a1, ()) = laws_szPut.f k a0 a1 := by
  rw [laws_szPut.q]
  rfl
theorem laws_szPut.ctr (k : Nat) : Ctr Try.prog 84 ⟨[.val TPut, .val (.int .i64)], [(.int .i64)], true, false, fun x => laws_szPut.f k x.1 x.2.1⟩ :=
  run_ctr (E := laws_szPut.E k) mixed tb_ok (eqOk_of tb_eqs) Cts.nil (by kernel_rfl) Try.func84 (by kernel_rfl) rfl (fun ⟨a0, a1, _⟩ r h => (laws_szPut.eq k a0 a1).trans h)
def laws_szPutS.E (k : Nat) : Env := ⟨tb, [(84, ⟨[.val TPut, .val (.int .i64)], [(.int .i64)], true, false, fun x => laws_szPut.f k x.1 x.2.1⟩)], [(5, [0, 1, 5])], k, 0, []⟩
noncomputable def laws_szPutS.K0 (k : Nat) (a0 : List (Ty.den TPut)) (a1 : Int) : Ex → St → Option (Int × Unit) := runK (laws_szPutS.E k) (endK (laws_szPutS.E k) Try.f28.results.toList [.val (.slice TPut), .val (.int .i64)] (a0, a1, ()) [(.int .i64)] true false) [.blk 0, .code (at_ [true, true, true, true] (body Try.f28))]
noncomputable def laws_szPutS.B0 (k : Nat) (a0 : List (Ty.den TPut)) (a1 : Int) (n0 : Nat) : Ex → St → Option (Int × Unit) := fun e st => match e with
  | .normal => loopN (exec (laws_szPutS.E k) (at_ [true, true, true, false, true, false, false] (body Try.f28))) (canon 0 [0, 1, 5]) (laws_szPutS.K0 k a0 a1) n0 (canon 0 [0, 1, 5] st)
  | .ret => laws_szPutS.K0 k a0 a1 .ret st
  | .exit j => laws_szPutS.K0 k a0 a1 (.exit j) st
noncomputable def laws_szPutS.V0 (k : Nat) (a0 : List (Ty.den TPut)) (a1 : Int) (n0 : Nat) (x0_0 : List (Ty.den TPut)) (x0_1 : Int) (x0_2 : Int) : Option (Int × Unit) := loopN (exec (laws_szPutS.E k) (at_ [true, true, true, false, true, false, false] (body Try.f28))) (canon 0 [0, 1, 5]) (laws_szPutS.K0 k a0 a1) n0 (mk 27 0 [(0, .sl true TPut x0_0), (1, .int .i64 x0_1), (5, .int .i64 x0_2)] [])
theorem laws_szPutS.s0 (k : Nat) (a0 : List (Ty.den TPut)) (a1 : Int) (n0 : Nat) (x0_0 : List (Ty.den TPut)) (x0_1 : Int) (x0_2 : Int) : laws_szPutS.V0 k a0 a1 (n0 + 1) x0_0 x0_1 x0_2 = laws_szPutS.b0 k (laws_szPutS.V0 k a0 a1 n0) x0_0 x0_1 x0_2 := by kernel_rfl
theorem laws_szPutS.e0 (k : Nat) (a0 : List (Ty.den TPut)) (a1 : Int) (n0 : Nat) : laws_szPutS.V0 k a0 a1 n0 = laws_szPutS.l0 k n0 := by
  induction n0 with
  | zero => rfl
  | succ n0 ih =>
    have h : laws_szPutS.V0 k a0 a1 (n0 + 1) = laws_szPutS.b0 k (laws_szPutS.V0 k a0 a1 n0) := funext fun x0_0 => funext fun x0_1 => funext fun x0_2 => laws_szPutS.s0 k a0 a1 n0 x0_0 x0_1 x0_2
    rw [h, ih]
    rfl
theorem laws_szPutS.q (k : Nat) (a0 : List (Ty.den TPut)) (a1 : Int) : run (laws_szPutS.E k) Try.f28 [.val (.slice TPut), .val (.int .i64)] [(.int .i64)] true false (a0, a1, ()) = laws_szPutS.t k (laws_szPutS.V0 k a0 a1 k) a0 a1 := by kernel_rfl
theorem laws_szPutS.eq (k : Nat) (a0 : List (Ty.den TPut)) (a1 : Int) : run (laws_szPutS.E k) Try.f28 [.val (.slice TPut), .val (.int .i64)] [(.int .i64)] true false (a0, a1, ()) = laws_szPutS.f k a0 a1 := by
  rw [laws_szPutS.q, laws_szPutS.e0]
  rfl
theorem laws_szPutS.ctr (k : Nat) : Ctr Try.prog 28 ⟨[.val (.slice TPut), .val (.int .i64)], [(.int .i64)], true, false, fun x => laws_szPutS.f k x.1 x.2.1⟩ :=
  run_ctr (E := laws_szPutS.E k) mixed tb_ok (eqOk_of tb_eqs) (Cts.cons (laws_szPut.ctr k) Cts.nil) (by kernel_rfl) Try.func28 (by kernel_rfl) rfl (fun ⟨a0, a1, _⟩ r h => (laws_szPutS.eq k a0 a1).trans h)
def laws_toIntS.E (k : Nat) : Env := ⟨tb, [], [(3, [0, 3, 4])], k, 0, []⟩
noncomputable def laws_toIntS.K0 (k : Nat) (a0 : List Int) : Ex → St → Option ((List Int) × Unit) := runK (laws_toIntS.E k) (endK (laws_toIntS.E k) Try.f159.results.toList [.val (.slice (.int .i64))] (a0, ()) [(.slice (.int .i64))] true false) [.blk 0, .code (at_ [true, true, true] (body Try.f159))]
noncomputable def laws_toIntS.B0 (k : Nat) (a0 : List Int) (n0 : Nat) : Ex → St → Option ((List Int) × Unit) := fun e st => match e with
  | .normal => loopN (exec (laws_toIntS.E k) (at_ [true, true, false, true, false, false] (body Try.f159))) (canon 0 [0, 3, 4]) (laws_toIntS.K0 k a0) n0 (canon 0 [0, 3, 4] st)
  | .ret => laws_toIntS.K0 k a0 .ret st
  | .exit j => laws_toIntS.K0 k a0 (.exit j) st
noncomputable def laws_toIntS.V0 (k : Nat) (a0 : List Int) (n0 : Nat) (x0_0 : List Int) (x0_1 : Int) (x0_2 : List Int) : Option ((List Int) × Unit) := loopN (exec (laws_toIntS.E k) (at_ [true, true, false, true, false, false] (body Try.f159))) (canon 0 [0, 3, 4]) (laws_toIntS.K0 k a0) n0 (mk 22 1 [(0, .sl true (.int .i64) x0_0), (3, .ref 0), (4, .int .i64 x0_1)] [(0, .own false (.int .i64) x0_2)])
theorem laws_toIntS.s0 (k : Nat) (a0 : List Int) (n0 : Nat) (x0_0 : List Int) (x0_1 : Int) (x0_2 : List Int) : laws_toIntS.V0 k a0 (n0 + 1) x0_0 x0_1 x0_2 = laws_toIntS.b0 k (laws_toIntS.V0 k a0 n0) x0_0 x0_1 x0_2 := by kernel_rfl
theorem laws_toIntS.e0 (k : Nat) (a0 : List Int) (n0 : Nat) : laws_toIntS.V0 k a0 n0 = laws_toIntS.l0 k n0 := by
  induction n0 with
  | zero => rfl
  | succ n0 ih =>
    have h : laws_toIntS.V0 k a0 (n0 + 1) = laws_toIntS.b0 k (laws_toIntS.V0 k a0 n0) := funext fun x0_0 => funext fun x0_1 => funext fun x0_2 => laws_toIntS.s0 k a0 n0 x0_0 x0_1 x0_2
    rw [h, ih]
    rfl
theorem laws_toIntS.q (k : Nat) (a0 : List Int) : run (laws_toIntS.E k) Try.f159 [.val (.slice (.int .i64))] [(.slice (.int .i64))] true false (a0, ()) = laws_toIntS.t k (laws_toIntS.V0 k a0 k) a0 := by kernel_rfl
theorem laws_toIntS.eq (k : Nat) (a0 : List Int) : run (laws_toIntS.E k) Try.f159 [.val (.slice (.int .i64))] [(.slice (.int .i64))] true false (a0, ()) = laws_toIntS.f k a0 := by
  rw [laws_toIntS.q, laws_toIntS.e0]
  rfl
theorem laws_toIntS.ctr (k : Nat) : Ctr Try.prog 159 ⟨[.val (.slice (.int .i64))], [(.slice (.int .i64))], true, false, fun x => laws_toIntS.f k x.1⟩ :=
  run_ctr (E := laws_toIntS.E k) mixed tb_ok (eqOk_of tb_eqs) Cts.nil (by kernel_rfl) Try.func159 (by kernel_rfl) rfl (fun ⟨a0, _⟩ r h => (laws_toIntS.eq k a0).trans h)
def laws_toLive.E (k : Nat) : Env := ⟨tb, [(159, ⟨[.val (.slice (.int .i64))], [(.slice (.int .i64))], true, false, fun x => laws_toIntS.f k x.1⟩)], [], k, 0, []⟩
theorem laws_toLive.q (k : Nat) (a0 : Ty.den TLive) : run (laws_toLive.E k) Try.f90 [.val TLive] [TLive] true false (a0, ()) = laws_toLive.t k a0 := by kernel_rfl
theorem laws_toLive.eq (k : Nat) (a0 : Ty.den TLive) : run (laws_toLive.E k) Try.f90 [.val TLive] [TLive] true false (a0, ()) = laws_toLive.f k a0 := by
  rw [laws_toLive.q]
  rfl
theorem laws_toLive.ctr (k : Nat) : Ctr Try.prog 90 ⟨[.val TLive], [TLive], true, false, fun x => laws_toLive.f k x.1⟩ :=
  run_ctr (E := laws_toLive.E k) mixed tb_ok (eqOk_of tb_eqs) (Cts.cons (laws_toIntS.ctr k) Cts.nil) (by kernel_rfl) Try.func90 (by kernel_rfl) rfl (fun ⟨a0, _⟩ r h => (laws_toLive.eq k a0).trans h)
def laws_toEntry.E (k : Nat) : Env := ⟨tb, [], [], k, 0, []⟩
theorem laws_toEntry.q (k : Nat) (a0 : Ty.den TEntry) : run (laws_toEntry.E k) Try.f160 [.val TEntry] [TEntry] true false (a0, ()) = laws_toEntry.t k a0 := by kernel_rfl
theorem laws_toEntry.eq (k : Nat) (a0 : Ty.den TEntry) : run (laws_toEntry.E k) Try.f160 [.val TEntry] [TEntry] true false (a0, ()) = laws_toEntry.f k a0 := by
  rw [laws_toEntry.q]
  rfl
theorem laws_toEntry.ctr (k : Nat) : Ctr Try.prog 160 ⟨[.val TEntry], [TEntry], true, false, fun x => laws_toEntry.f k x.1⟩ :=
  run_ctr (E := laws_toEntry.E k) mixed tb_ok (eqOk_of tb_eqs) Cts.nil (by kernel_rfl) Try.func160 (by kernel_rfl) rfl (fun ⟨a0, _⟩ r h => (laws_toEntry.eq k a0).trans h)
def laws_toEntryS.E (k : Nat) : Env := ⟨tb, [(160, ⟨[.val TEntry], [TEntry], true, false, fun x => laws_toEntry.f k x.1⟩)], [(3, [0, 3, 4])], k, 0, []⟩
noncomputable def laws_toEntryS.K0 (k : Nat) (a0 : List (Ty.den TEntry)) : Ex → St → Option ((List (Ty.den TEntry)) × Unit) := runK (laws_toEntryS.E k) (endK (laws_toEntryS.E k) Try.f91.results.toList [.val (.slice TEntry)] (a0, ()) [(.slice TEntry)] true false) [.blk 0, .code (at_ [true, true, true] (body Try.f91))]
noncomputable def laws_toEntryS.B0 (k : Nat) (a0 : List (Ty.den TEntry)) (n0 : Nat) : Ex → St → Option ((List (Ty.den TEntry)) × Unit) := fun e st => match e with
  | .normal => loopN (exec (laws_toEntryS.E k) (at_ [true, true, false, true, false, false] (body Try.f91))) (canon 0 [0, 3, 4]) (laws_toEntryS.K0 k a0) n0 (canon 0 [0, 3, 4] st)
  | .ret => laws_toEntryS.K0 k a0 .ret st
  | .exit j => laws_toEntryS.K0 k a0 (.exit j) st
noncomputable def laws_toEntryS.V0 (k : Nat) (a0 : List (Ty.den TEntry)) (n0 : Nat) (x0_0 : List (Ty.den TEntry)) (x0_1 : Int) (x0_2 : List (Ty.den TEntry)) : Option ((List (Ty.den TEntry)) × Unit) := loopN (exec (laws_toEntryS.E k) (at_ [true, true, false, true, false, false] (body Try.f91))) (canon 0 [0, 3, 4]) (laws_toEntryS.K0 k a0) n0 (mk 23 1 [(0, .sl true TEntry x0_0), (3, .ref 0), (4, .int .i64 x0_1)] [(0, .own false TEntry x0_2)])
theorem laws_toEntryS.s0 (k : Nat) (a0 : List (Ty.den TEntry)) (n0 : Nat) (x0_0 : List (Ty.den TEntry)) (x0_1 : Int) (x0_2 : List (Ty.den TEntry)) : laws_toEntryS.V0 k a0 (n0 + 1) x0_0 x0_1 x0_2 = laws_toEntryS.b0 k (laws_toEntryS.V0 k a0 n0) x0_0 x0_1 x0_2 := by kernel_rfl
theorem laws_toEntryS.e0 (k : Nat) (a0 : List (Ty.den TEntry)) (n0 : Nat) : laws_toEntryS.V0 k a0 n0 = laws_toEntryS.l0 k n0 := by
  induction n0 with
  | zero => rfl
  | succ n0 ih =>
    have h : laws_toEntryS.V0 k a0 (n0 + 1) = laws_toEntryS.b0 k (laws_toEntryS.V0 k a0 n0) := funext fun x0_0 => funext fun x0_1 => funext fun x0_2 => laws_toEntryS.s0 k a0 n0 x0_0 x0_1 x0_2
    rw [h, ih]
    rfl
theorem laws_toEntryS.q (k : Nat) (a0 : List (Ty.den TEntry)) : run (laws_toEntryS.E k) Try.f91 [.val (.slice TEntry)] [(.slice TEntry)] true false (a0, ()) = laws_toEntryS.t k (laws_toEntryS.V0 k a0 k) a0 := by kernel_rfl
theorem laws_toEntryS.eq (k : Nat) (a0 : List (Ty.den TEntry)) : run (laws_toEntryS.E k) Try.f91 [.val (.slice TEntry)] [(.slice TEntry)] true false (a0, ()) = laws_toEntryS.f k a0 := by
  rw [laws_toEntryS.q, laws_toEntryS.e0]
  rfl
theorem laws_toEntryS.ctr (k : Nat) : Ctr Try.prog 91 ⟨[.val (.slice TEntry)], [(.slice TEntry)], true, false, fun x => laws_toEntryS.f k x.1⟩ :=
  run_ctr (E := laws_toEntryS.E k) mixed tb_ok (eqOk_of tb_eqs) (Cts.cons (laws_toEntry.ctr k) Cts.nil) (by kernel_rfl) Try.func91 (by kernel_rfl) rfl (fun ⟨a0, _⟩ r h => (laws_toEntryS.eq k a0).trans h)
def laws_toStore.E (k : Nat) : Env := ⟨tb, [(90, ⟨[.val TLive], [TLive], true, false, fun x => laws_toLive.f k x.1⟩), (91, ⟨[.val (.slice TEntry)], [(.slice TEntry)], true, false, fun x => laws_toEntryS.f k x.1⟩)], [], k, 0, []⟩
theorem laws_toStore.q (k : Nat) (a0 : Ty.den TStore) : run (laws_toStore.E k) Try.f30 [.val TStore] [TStore] true false (a0, ()) = laws_toStore.t k a0 := by kernel_rfl
theorem laws_toStore.eq (k : Nat) (a0 : Ty.den TStore) : run (laws_toStore.E k) Try.f30 [.val TStore] [TStore] true false (a0, ()) = laws_toStore.f k a0 := by
  rw [laws_toStore.q]
  rfl
theorem laws_toStore.ctr (k : Nat) : Ctr Try.prog 30 ⟨[.val TStore], [TStore], true, false, fun x => laws_toStore.f k x.1⟩ :=
  run_ctr (E := laws_toStore.E k) mixed tb_ok (eqOk_of tb_eqs) (Cts.cons (laws_toLive.ctr k) (Cts.cons (laws_toEntryS.ctr k) Cts.nil)) (by kernel_rfl) Try.func30 (by kernel_rfl) rfl (fun ⟨a0, _⟩ r h => (laws_toStore.eq k a0).trans h)
def laws_toPut.E (k : Nat) : Env := ⟨tb, [], [], k, 0, []⟩
theorem laws_toPut.q (k : Nat) (a0 : Ty.den TPut) : run (laws_toPut.E k) Try.f92 [.val TPut] [TPut] true false (a0, ()) = laws_toPut.t k a0 := by kernel_rfl
theorem laws_toPut.eq (k : Nat) (a0 : Ty.den TPut) : run (laws_toPut.E k) Try.f92 [.val TPut] [TPut] true false (a0, ()) = laws_toPut.f k a0 := by
  rw [laws_toPut.q]
  rfl
theorem laws_toPut.ctr (k : Nat) : Ctr Try.prog 92 ⟨[.val TPut], [TPut], true, false, fun x => laws_toPut.f k x.1⟩ :=
  run_ctr (E := laws_toPut.E k) mixed tb_ok (eqOk_of tb_eqs) Cts.nil (by kernel_rfl) Try.func92 (by kernel_rfl) rfl (fun ⟨a0, _⟩ r h => (laws_toPut.eq k a0).trans h)
def laws_toPutS.E (k : Nat) : Env := ⟨tb, [(92, ⟨[.val TPut], [TPut], true, false, fun x => laws_toPut.f k x.1⟩)], [(3, [0, 3, 4])], k, 0, []⟩
noncomputable def laws_toPutS.K0 (k : Nat) (a0 : List (Ty.den TPut)) : Ex → St → Option ((List (Ty.den TPut)) × Unit) := runK (laws_toPutS.E k) (endK (laws_toPutS.E k) Try.f31.results.toList [.val (.slice TPut)] (a0, ()) [(.slice TPut)] true false) [.blk 0, .code (at_ [true, true, true] (body Try.f31))]
noncomputable def laws_toPutS.B0 (k : Nat) (a0 : List (Ty.den TPut)) (n0 : Nat) : Ex → St → Option ((List (Ty.den TPut)) × Unit) := fun e st => match e with
  | .normal => loopN (exec (laws_toPutS.E k) (at_ [true, true, false, true, false, false] (body Try.f31))) (canon 0 [0, 3, 4]) (laws_toPutS.K0 k a0) n0 (canon 0 [0, 3, 4] st)
  | .ret => laws_toPutS.K0 k a0 .ret st
  | .exit j => laws_toPutS.K0 k a0 (.exit j) st
noncomputable def laws_toPutS.V0 (k : Nat) (a0 : List (Ty.den TPut)) (n0 : Nat) (x0_0 : List (Ty.den TPut)) (x0_1 : Int) (x0_2 : List (Ty.den TPut)) : Option ((List (Ty.den TPut)) × Unit) := loopN (exec (laws_toPutS.E k) (at_ [true, true, false, true, false, false] (body Try.f31))) (canon 0 [0, 3, 4]) (laws_toPutS.K0 k a0) n0 (mk 23 1 [(0, .sl true TPut x0_0), (3, .ref 0), (4, .int .i64 x0_1)] [(0, .own false TPut x0_2)])
theorem laws_toPutS.s0 (k : Nat) (a0 : List (Ty.den TPut)) (n0 : Nat) (x0_0 : List (Ty.den TPut)) (x0_1 : Int) (x0_2 : List (Ty.den TPut)) : laws_toPutS.V0 k a0 (n0 + 1) x0_0 x0_1 x0_2 = laws_toPutS.b0 k (laws_toPutS.V0 k a0 n0) x0_0 x0_1 x0_2 := by kernel_rfl
theorem laws_toPutS.e0 (k : Nat) (a0 : List (Ty.den TPut)) (n0 : Nat) : laws_toPutS.V0 k a0 n0 = laws_toPutS.l0 k n0 := by
  induction n0 with
  | zero => rfl
  | succ n0 ih =>
    have h : laws_toPutS.V0 k a0 (n0 + 1) = laws_toPutS.b0 k (laws_toPutS.V0 k a0 n0) := funext fun x0_0 => funext fun x0_1 => funext fun x0_2 => laws_toPutS.s0 k a0 n0 x0_0 x0_1 x0_2
    rw [h, ih]
    rfl
theorem laws_toPutS.q (k : Nat) (a0 : List (Ty.den TPut)) : run (laws_toPutS.E k) Try.f31 [.val (.slice TPut)] [(.slice TPut)] true false (a0, ()) = laws_toPutS.t k (laws_toPutS.V0 k a0 k) a0 := by kernel_rfl
theorem laws_toPutS.eq (k : Nat) (a0 : List (Ty.den TPut)) : run (laws_toPutS.E k) Try.f31 [.val (.slice TPut)] [(.slice TPut)] true false (a0, ()) = laws_toPutS.f k a0 := by
  rw [laws_toPutS.q, laws_toPutS.e0]
  rfl
theorem laws_toPutS.ctr (k : Nat) : Ctr Try.prog 31 ⟨[.val (.slice TPut)], [(.slice TPut)], true, false, fun x => laws_toPutS.f k x.1⟩ :=
  run_ctr (E := laws_toPutS.E k) mixed tb_ok (eqOk_of tb_eqs) (Cts.cons (laws_toPut.ctr k) Cts.nil) (by kernel_rfl) Try.func31 (by kernel_rfl) rfl (fun ⟨a0, _⟩ r h => (laws_toPutS.eq k a0).trans h)
def spec_l1In.E (k : Nat) : Env := ⟨tb, [], [], k, 0, []⟩
theorem spec_l1In.q (k : Nat) (a0 : Int) (a1 : Int) (a2 : Int) : run (spec_l1In.E k) Try.f86 [.val (.int .i64), .val (.int .i64), .val (.int .i64)] [.bool] true false (a0, a1, a2, ()) = spec_l1In.t k a0 a1 a2 := by kernel_rfl
theorem spec_l1In.eq (k : Nat) (a0 : Int) (a1 : Int) (a2 : Int) : run (spec_l1In.E k) Try.f86 [.val (.int .i64), .val (.int .i64), .val (.int .i64)] [.bool] true false (a0, a1, a2, ()) = spec_l1In.f k a0 a1 a2 := by
  rw [spec_l1In.q]
  rfl
theorem spec_l1In.ctr (k : Nat) : Ctr Try.prog 86 ⟨[.val (.int .i64), .val (.int .i64), .val (.int .i64)], [.bool], true, false, fun x => spec_l1In.f k x.1 x.2.1 x.2.2.1⟩ :=
  run_ctr (E := spec_l1In.E k) mixed tb_ok (eqOk_of tb_eqs) Cts.nil (by kernel_rfl) Try.func86 (by kernel_rfl) rfl (fun ⟨a0, a1, a2, _⟩ r h => (spec_l1In.eq k a0 a1 a2).trans h)
def spec_KeyOk.E (k : Nat) : Env := ⟨tb, [(86, ⟨[.val (.int .i64), .val (.int .i64), .val (.int .i64)], [.bool], true, false, fun x => spec_l1In.f k x.1 x.2.1 x.2.2.1⟩)], [], k, 0, []⟩
theorem spec_KeyOk.q (k : Nat) (a0 : ByteArray) : run (spec_KeyOk.E k) Try.f153 [.val .str] [.bool] true false (a0, ()) = spec_KeyOk.t k a0 := by kernel_rfl
theorem spec_KeyOk.eq (k : Nat) (a0 : ByteArray) : run (spec_KeyOk.E k) Try.f153 [.val .str] [.bool] true false (a0, ()) = spec_KeyOk.f k a0 := by
  rw [spec_KeyOk.q]
  rfl
theorem spec_KeyOk.ctr (k : Nat) : Ctr Try.prog 153 ⟨[.val .str], [.bool], true, false, fun x => spec_KeyOk.f k x.1⟩ :=
  run_ctr (E := spec_KeyOk.E k) mixed tb_ok (eqOk_of tb_eqs) (Cts.cons (spec_l1In.ctr k) Cts.nil) (by kernel_rfl) Try.func153 (by kernel_rfl) rfl (fun ⟨a0, _⟩ r h => (spec_KeyOk.eq k a0).trans h)
def spec_PutsOk.E (k : Nat) : Env := ⟨tb, [(153, ⟨[.val .str], [.bool], true, false, fun x => spec_KeyOk.f k x.1⟩)], [(4, [0, 3])], k, 0, []⟩
noncomputable def spec_PutsOk.K0 (k : Nat) (a0 : List (Ty.den TPut)) : Ex → St → Option (Bool × Unit) := runK (spec_PutsOk.E k) (endK (spec_PutsOk.E k) Try.f85.results.toList [.val (.slice TPut)] (a0, ()) [.bool] true false) [.blk 0, .code (at_ [true, true, true] (body Try.f85))]
noncomputable def spec_PutsOk.B0 (k : Nat) (a0 : List (Ty.den TPut)) (n0 : Nat) : Ex → St → Option (Bool × Unit) := fun e st => match e with
  | .normal => loopN (exec (spec_PutsOk.E k) (at_ [true, true, false, true, false, false] (body Try.f85))) (canon 0 [0, 3]) (spec_PutsOk.K0 k a0) n0 (canon 0 [0, 3] st)
  | .ret => spec_PutsOk.K0 k a0 .ret st
  | .exit j => spec_PutsOk.K0 k a0 (.exit j) st
noncomputable def spec_PutsOk.V0 (k : Nat) (a0 : List (Ty.den TPut)) (n0 : Nat) (x0_0 : List (Ty.den TPut)) (x0_1 : Int) : Option (Bool × Unit) := loopN (exec (spec_PutsOk.E k) (at_ [true, true, false, true, false, false] (body Try.f85))) (canon 0 [0, 3]) (spec_PutsOk.K0 k a0) n0 (mk 44 0 [(0, .sl true TPut x0_0), (3, .int .i64 x0_1)] [])
theorem spec_PutsOk.s0 (k : Nat) (a0 : List (Ty.den TPut)) (n0 : Nat) (x0_0 : List (Ty.den TPut)) (x0_1 : Int) : spec_PutsOk.V0 k a0 (n0 + 1) x0_0 x0_1 = spec_PutsOk.b0 k (spec_PutsOk.V0 k a0 n0) x0_0 x0_1 := by kernel_rfl
theorem spec_PutsOk.e0 (k : Nat) (a0 : List (Ty.den TPut)) (n0 : Nat) : spec_PutsOk.V0 k a0 n0 = spec_PutsOk.l0 k n0 := by
  induction n0 with
  | zero => rfl
  | succ n0 ih =>
    have h : spec_PutsOk.V0 k a0 (n0 + 1) = spec_PutsOk.b0 k (spec_PutsOk.V0 k a0 n0) := funext fun x0_0 => funext fun x0_1 => spec_PutsOk.s0 k a0 n0 x0_0 x0_1
    rw [h, ih]
    rfl
theorem spec_PutsOk.q (k : Nat) (a0 : List (Ty.den TPut)) : run (spec_PutsOk.E k) Try.f85 [.val (.slice TPut)] [.bool] true false (a0, ()) = spec_PutsOk.t k (spec_PutsOk.V0 k a0 k) a0 := by kernel_rfl
theorem spec_PutsOk.eq (k : Nat) (a0 : List (Ty.den TPut)) : run (spec_PutsOk.E k) Try.f85 [.val (.slice TPut)] [.bool] true false (a0, ()) = spec_PutsOk.f k a0 := by
  rw [spec_PutsOk.q, spec_PutsOk.e0]
  rfl
theorem spec_PutsOk.ctr (k : Nat) : Ctr Try.prog 85 ⟨[.val (.slice TPut)], [.bool], true, false, fun x => spec_PutsOk.f k x.1⟩ :=
  run_ctr (E := spec_PutsOk.E k) mixed tb_ok (eqOk_of tb_eqs) (Cts.cons (spec_KeyOk.ctr k) Cts.nil) (by kernel_rfl) Try.func85 (by kernel_rfl) rfl (fun ⟨a0, _⟩ r h => (spec_PutsOk.eq k a0).trans h)
def spec_RecOk.E (k : Nat) : Env := ⟨tb, [(86, ⟨[.val (.int .i64), .val (.int .i64), .val (.int .i64)], [.bool], true, false, fun x => spec_l1In.f k x.1 x.2.1 x.2.2.1⟩), (153, ⟨[.val .str], [.bool], true, false, fun x => spec_KeyOk.f k x.1⟩)], [], k, 0, []⟩
theorem spec_RecOk.q (k : Nat) (a0 : Ty.den TRec) : run (spec_RecOk.E k) Try.f158 [.val TRec] [.bool] true false (a0, ()) = spec_RecOk.t k a0 := by kernel_rfl
theorem spec_RecOk.eq (k : Nat) (a0 : Ty.den TRec) : run (spec_RecOk.E k) Try.f158 [.val TRec] [.bool] true false (a0, ()) = spec_RecOk.f k a0 := by
  rw [spec_RecOk.q]
  rfl
theorem spec_RecOk.ctr (k : Nat) : Ctr Try.prog 158 ⟨[.val TRec], [.bool], true, false, fun x => spec_RecOk.f k x.1⟩ :=
  run_ctr (E := spec_RecOk.E k) mixed tb_ok (eqOk_of tb_eqs) (Cts.cons (spec_l1In.ctr k) (Cts.cons (spec_KeyOk.ctr k) Cts.nil)) (by kernel_rfl) Try.func158 (by kernel_rfl) rfl (fun ⟨a0, _⟩ r h => (spec_RecOk.eq k a0).trans h)
def spec_Var.E (k : Nat) : Env := ⟨tb, [(86, ⟨[.val (.int .i64), .val (.int .i64), .val (.int .i64)], [.bool], true, false, fun x => spec_l1In.f k x.1 x.2.1 x.2.2.1⟩)], [(4, [0, 3])], k, 0, []⟩
noncomputable def spec_Var.K0 (k : Nat) (a0 : Int) : Ex → St → Option (ByteArray × Unit) := runK (spec_Var.E k) (endK (spec_Var.E k) Try.f155.results.toList [.val (.int .i64)] (a0, ()) [.str] true false) [.blk 0, .code (at_ [true, true, true, true] (body Try.f155))]
noncomputable def spec_Var.B0 (k : Nat) (a0 : Int) (n0 : Nat) : Ex → St → Option (ByteArray × Unit) := fun e st => match e with
  | .normal => loopN (exec (spec_Var.E k) (at_ [true, true, true, false, false, false] (body Try.f155))) (canon 0 [0, 3]) (spec_Var.K0 k a0) n0 (canon 0 [0, 3] st)
  | .ret => spec_Var.K0 k a0 .ret st
  | .exit j => spec_Var.K0 k a0 (.exit j) st
noncomputable def spec_Var.V0 (k : Nat) (a0 : Int) (n0 : Nat) (x0_0 : Int) (x0_1 : List Int) : Option (ByteArray × Unit) := loopN (exec (spec_Var.E k) (at_ [true, true, true, false, false, false] (body Try.f155))) (canon 0 [0, 3]) (spec_Var.K0 k a0) n0 (mk 25 1 [(0, .int .i64 x0_0), (3, .ref 0)] [(0, .own false (.int .u8) x0_1)])
theorem spec_Var.s0 (k : Nat) (a0 : Int) (n0 : Nat) (x0_0 : Int) (x0_1 : List Int) : spec_Var.V0 k a0 (n0 + 1) x0_0 x0_1 = spec_Var.b0 k (spec_Var.V0 k a0 n0) x0_0 x0_1 := by kernel_rfl
theorem spec_Var.e0 (k : Nat) (a0 : Int) (n0 : Nat) : spec_Var.V0 k a0 n0 = spec_Var.l0 k n0 := by
  induction n0 with
  | zero => rfl
  | succ n0 ih =>
    have h : spec_Var.V0 k a0 (n0 + 1) = spec_Var.b0 k (spec_Var.V0 k a0 n0) := funext fun x0_0 => funext fun x0_1 => spec_Var.s0 k a0 n0 x0_0 x0_1
    rw [h, ih]
    rfl
theorem spec_Var.q (k : Nat) (a0 : Int) : run (spec_Var.E k) Try.f155 [.val (.int .i64)] [.str] true false (a0, ()) = spec_Var.t k (spec_Var.V0 k a0 k) a0 := by kernel_rfl
theorem spec_Var.eq (k : Nat) (a0 : Int) : run (spec_Var.E k) Try.f155 [.val (.int .i64)] [.str] true false (a0, ()) = spec_Var.f k a0 := by
  rw [spec_Var.q, spec_Var.e0]
  rfl
theorem spec_Var.ctr (k : Nat) : Ctr Try.prog 155 ⟨[.val (.int .i64)], [.str], true, false, fun x => spec_Var.f k x.1⟩ :=
  run_ctr (E := spec_Var.E k) mixed tb_ok (eqOk_of tb_eqs) (Cts.cons (spec_l1In.ctr k) Cts.nil) (by kernel_rfl) Try.func155 (by kernel_rfl) rfl (fun ⟨a0, _⟩ r h => (spec_Var.eq k a0).trans h)
def spec_Fixed.E (k : Nat) : Env := ⟨tb, [(86, ⟨[.val (.int .i64), .val (.int .i64), .val (.int .i64)], [.bool], true, false, fun x => spec_l1In.f k x.1 x.2.1 x.2.2.1⟩)], [(5, [0, 1, 5, 6])], k, 0, []⟩
noncomputable def spec_Fixed.K0 (k : Nat) (a0 : Int) (a1 : Int) : Ex → St → Option (ByteArray × Unit) := runK (spec_Fixed.E k) (endK (spec_Fixed.E k) Try.f156.results.toList [.val (.int .i64), .val (.int .i64)] (a0, a1, ()) [.str] true false) [.blk 0, .code (at_ [true, true, true, true] (body Try.f156))]
noncomputable def spec_Fixed.B0 (k : Nat) (a0 : Int) (a1 : Int) (n0 : Nat) : Ex → St → Option (ByteArray × Unit) := fun e st => match e with
  | .normal => loopN (exec (spec_Fixed.E k) (at_ [true, true, true, false, true, false, false] (body Try.f156))) (canon 0 [0, 1, 5, 6]) (spec_Fixed.K0 k a0 a1) n0 (canon 0 [0, 1, 5, 6] st)
  | .ret => spec_Fixed.K0 k a0 a1 .ret st
  | .exit j => spec_Fixed.K0 k a0 a1 (.exit j) st
noncomputable def spec_Fixed.V0 (k : Nat) (a0 : Int) (a1 : Int) (n0 : Nat) (x0_0 : Int) (x0_1 : Int) (x0_2 : ByteArray) (x0_3 : Int) : Option (ByteArray × Unit) := loopN (exec (spec_Fixed.E k) (at_ [true, true, true, false, true, false, false] (body Try.f156))) (canon 0 [0, 1, 5, 6]) (spec_Fixed.K0 k a0 a1) n0 (mk 31 0 [(0, .int .i64 x0_0), (1, .int .i64 x0_1), (5, .str x0_2), (6, .int .i64 x0_3)] [])
theorem spec_Fixed.s0 (k : Nat) (a0 : Int) (a1 : Int) (n0 : Nat) (x0_0 : Int) (x0_1 : Int) (x0_2 : ByteArray) (x0_3 : Int) : spec_Fixed.V0 k a0 a1 (n0 + 1) x0_0 x0_1 x0_2 x0_3 = spec_Fixed.b0 k (spec_Fixed.V0 k a0 a1 n0) x0_0 x0_1 x0_2 x0_3 := by kernel_rfl
theorem spec_Fixed.e0 (k : Nat) (a0 : Int) (a1 : Int) (n0 : Nat) : spec_Fixed.V0 k a0 a1 n0 = spec_Fixed.l0 k n0 := by
  induction n0 with
  | zero => rfl
  | succ n0 ih =>
    have h : spec_Fixed.V0 k a0 a1 (n0 + 1) = spec_Fixed.b0 k (spec_Fixed.V0 k a0 a1 n0) := funext fun x0_0 => funext fun x0_1 => funext fun x0_2 => funext fun x0_3 => spec_Fixed.s0 k a0 a1 n0 x0_0 x0_1 x0_2 x0_3
    rw [h, ih]
    rfl
theorem spec_Fixed.q (k : Nat) (a0 : Int) (a1 : Int) : run (spec_Fixed.E k) Try.f156 [.val (.int .i64), .val (.int .i64)] [.str] true false (a0, a1, ()) = spec_Fixed.t k (spec_Fixed.V0 k a0 a1 k) a0 a1 := by kernel_rfl
theorem spec_Fixed.eq (k : Nat) (a0 : Int) (a1 : Int) : run (spec_Fixed.E k) Try.f156 [.val (.int .i64), .val (.int .i64)] [.str] true false (a0, a1, ()) = spec_Fixed.f k a0 a1 := by
  rw [spec_Fixed.q, spec_Fixed.e0]
  rfl
theorem spec_Fixed.ctr (k : Nat) : Ctr Try.prog 156 ⟨[.val (.int .i64), .val (.int .i64)], [.str], true, false, fun x => spec_Fixed.f k x.1 x.2.1⟩ :=
  run_ctr (E := spec_Fixed.E k) mixed tb_ok (eqOk_of tb_eqs) (Cts.cons (spec_l1In.ctr k) Cts.nil) (by kernel_rfl) Try.func156 (by kernel_rfl) rfl (fun ⟨a0, a1, _⟩ r h => (spec_Fixed.eq k a0 a1).trans h)
def spec_ShowRec.E (k : Nat) : Env := ⟨tb, [(158, ⟨[.val TRec], [.bool], true, false, fun x => spec_RecOk.f k x.1⟩), (155, ⟨[.val (.int .i64)], [.str], true, false, fun x => spec_Var.f k x.1⟩), (156, ⟨[.val (.int .i64), .val (.int .i64)], [.str], true, false, fun x => spec_Fixed.f k x.1 x.2.1⟩)], [], k, 0, []⟩
theorem spec_ShowRec.q (k : Nat) (a0 : Ty.den TRec) : run (spec_ShowRec.E k) Try.f89 [.val TRec] [.str] true false (a0, ()) = spec_ShowRec.t k a0 := by kernel_rfl
theorem spec_ShowRec.eq (k : Nat) (a0 : Ty.den TRec) : run (spec_ShowRec.E k) Try.f89 [.val TRec] [.str] true false (a0, ()) = spec_ShowRec.f k a0 := by
  rw [spec_ShowRec.q]
  rfl
theorem spec_ShowRec.ctr (k : Nat) : Ctr Try.prog 89 ⟨[.val TRec], [.str], true, false, fun x => spec_ShowRec.f k x.1⟩ :=
  run_ctr (E := spec_ShowRec.E k) mixed tb_ok (eqOk_of tb_eqs) (Cts.cons (spec_RecOk.ctr k) (Cts.cons (spec_Var.ctr k) (Cts.cons (spec_Fixed.ctr k) Cts.nil))) (by kernel_rfl) Try.func89 (by kernel_rfl) rfl (fun ⟨a0, _⟩ r h => (spec_ShowRec.eq k a0).trans h)
def spec_Crc.E (k : Nat) : Env := ⟨tb, [], [(3, [0, 3, 4]), (7, [0, 3, 4, 5])], k, 0, []⟩
noncomputable def spec_Crc.K0 (k : Nat) (a0 : ByteArray) : Ex → St → Option (Int × Unit) := runK (spec_Crc.E k) (endK (spec_Crc.E k) Try.f157.results.toList [.val .str] (a0, ()) [(.int .i64)] true false) [.blk 0, .code (at_ [true, true, true] (body Try.f157))]
noncomputable def spec_Crc.B0 (k : Nat) (a0 : ByteArray) (n0 : Nat) : Ex → St → Option (Int × Unit) := fun e st => match e with
  | .normal => loopN (exec (spec_Crc.E k) (at_ [true, true, false, true, false, false] (body Try.f157))) (canon 0 [0, 3, 4]) (spec_Crc.K0 k a0) n0 (canon 0 [0, 3, 4] st)
  | .ret => spec_Crc.K0 k a0 .ret st
  | .exit j => spec_Crc.K0 k a0 (.exit j) st
noncomputable def spec_Crc.K1 (k : Nat) (a0 : ByteArray) (n0 : Nat) : Ex → St → Option (Int × Unit) := runK (spec_Crc.E k) (spec_Crc.B0 k a0 n0) [.blk 2, .blk 1, .code (at_ [true, true, false, true, false, false, true, true] (body Try.f157))]
noncomputable def spec_Crc.B1 (k : Nat) (a0 : ByteArray) (n0 n1 : Nat) : Ex → St → Option (Int × Unit) := fun e st => match e with
  | .normal => loopN (exec (spec_Crc.E k) (at_ [true, true, false, true, false, false, true, false, false, true, true, false, false] (body Try.f157))) (canon 0 [0, 3, 4, 5]) (spec_Crc.K1 k a0 n0) n1 (canon 0 [0, 3, 4, 5] st)
  | .ret => spec_Crc.K1 k a0 n0 .ret st
  | .exit j => spec_Crc.K1 k a0 n0 (.exit j) st
noncomputable def spec_Crc.V0 (k : Nat) (a0 : ByteArray) (n0 : Nat) (x0_0 : ByteArray) (x0_1 : Int) (x0_2 : Int) : Option (Int × Unit) := loopN (exec (spec_Crc.E k) (at_ [true, true, false, true, false, false] (body Try.f157))) (canon 0 [0, 3, 4]) (spec_Crc.K0 k a0) n0 (mk 33 0 [(0, .str x0_0), (3, .int .i64 x0_1), (4, .int .i64 x0_2)] [])
noncomputable def spec_Crc.V1 (k : Nat) (a0 : ByteArray) (n0 n1 : Nat) (x1_0 : ByteArray) (x1_1 : Int) (x1_2 : Int) (x1_3 : Int) : Option (Int × Unit) := loopN (exec (spec_Crc.E k) (at_ [true, true, false, true, false, false, true, false, false, true, true, false, false] (body Try.f157))) (canon 0 [0, 3, 4, 5]) (spec_Crc.K1 k a0 n0) n1 (mk 33 0 [(0, .str x1_0), (3, .int .i64 x1_1), (4, .int .i64 x1_2), (5, .int .i64 x1_3)] [])
theorem spec_Crc.s0 (k : Nat) (a0 : ByteArray) (n0 : Nat) (x0_0 : ByteArray) (x0_1 : Int) (x0_2 : Int) : spec_Crc.V0 k a0 (n0 + 1) x0_0 x0_1 x0_2 = spec_Crc.b0 k (spec_Crc.V1 k a0 n0 k) (spec_Crc.V0 k a0 n0) x0_0 x0_1 x0_2 := by kernel_rfl
theorem spec_Crc.s1 (k : Nat) (a0 : ByteArray) (n0 n1 : Nat) (x1_0 : ByteArray) (x1_1 : Int) (x1_2 : Int) (x1_3 : Int) : spec_Crc.V1 k a0 n0 (n1 + 1) x1_0 x1_1 x1_2 x1_3 = spec_Crc.b1 k (spec_Crc.V0 k a0 n0) (spec_Crc.V1 k a0 n0 n1) x1_0 x1_1 x1_2 x1_3 := by kernel_rfl
theorem spec_Crc.e1 (k : Nat) (a0 : ByteArray) (n0 n1 : Nat) : spec_Crc.V1 k a0 n0 n1 = spec_Crc.l1 k (spec_Crc.V0 k a0 n0) n1 := by
  induction n1 with
  | zero => rfl
  | succ n1 ih =>
    have h : spec_Crc.V1 k a0 n0 (n1 + 1) = spec_Crc.b1 k (spec_Crc.V0 k a0 n0) (spec_Crc.V1 k a0 n0 n1) := funext fun x1_0 => funext fun x1_1 => funext fun x1_2 => funext fun x1_3 => spec_Crc.s1 k a0 n0 n1 x1_0 x1_1 x1_2 x1_3
    rw [h, ih]
    rfl
theorem spec_Crc.e0 (k : Nat) (a0 : ByteArray) (n0 : Nat) : spec_Crc.V0 k a0 n0 = spec_Crc.l0 k n0 := by
  induction n0 with
  | zero => rfl
  | succ n0 ih =>
    have h : spec_Crc.V0 k a0 (n0 + 1) = spec_Crc.b0 k (spec_Crc.V1 k a0 n0 k) (spec_Crc.V0 k a0 n0) := funext fun x0_0 => funext fun x0_1 => funext fun x0_2 => spec_Crc.s0 k a0 n0 x0_0 x0_1 x0_2
    rw [h, spec_Crc.e1, ih]
    rfl
theorem spec_Crc.q (k : Nat) (a0 : ByteArray) : run (spec_Crc.E k) Try.f157 [.val .str] [(.int .i64)] true false (a0, ()) = spec_Crc.t k (spec_Crc.V0 k a0 k) a0 := by kernel_rfl
theorem spec_Crc.eq (k : Nat) (a0 : ByteArray) : run (spec_Crc.E k) Try.f157 [.val .str] [(.int .i64)] true false (a0, ()) = spec_Crc.f k a0 := by
  rw [spec_Crc.q, spec_Crc.e0]
  rfl
theorem spec_Crc.ctr (k : Nat) : Ctr Try.prog 157 ⟨[.val .str], [(.int .i64)], true, false, fun x => spec_Crc.f k x.1⟩ :=
  run_ctr (E := spec_Crc.E k) mixed tb_ok (eqOk_of tb_eqs) Cts.nil (by kernel_rfl) Try.func157 (by kernel_rfl) rfl (fun ⟨a0, _⟩ r h => (spec_Crc.eq k a0).trans h)
def spec_SumOf.E (k : Nat) : Env := ⟨tb, [(89, ⟨[.val TRec], [.str], true, false, fun x => spec_ShowRec.f k x.1⟩), (157, ⟨[.val .str], [(.int .i64)], true, false, fun x => spec_Crc.f k x.1⟩)], [(3, [0, 3, 4])], k, 0, []⟩
noncomputable def spec_SumOf.K0 (k : Nat) (a0 : List (Ty.den TRec)) : Ex → St → Option (Int × Unit) := runK (spec_SumOf.E k) (endK (spec_SumOf.E k) Try.f154.results.toList [.val (.slice TRec)] (a0, ()) [(.int .i64)] true false) [.blk 0, .code (at_ [true, true, true] (body Try.f154))]
noncomputable def spec_SumOf.B0 (k : Nat) (a0 : List (Ty.den TRec)) (n0 : Nat) : Ex → St → Option (Int × Unit) := fun e st => match e with
  | .normal => loopN (exec (spec_SumOf.E k) (at_ [true, true, false, true, false, false] (body Try.f154))) (canon 0 [0, 3, 4]) (spec_SumOf.K0 k a0) n0 (canon 0 [0, 3, 4] st)
  | .ret => spec_SumOf.K0 k a0 .ret st
  | .exit j => spec_SumOf.K0 k a0 (.exit j) st
noncomputable def spec_SumOf.V0 (k : Nat) (a0 : List (Ty.den TRec)) (n0 : Nat) (x0_0 : List (Ty.den TRec)) (x0_1 : ByteArray) (x0_2 : Int) : Option (Int × Unit) := loopN (exec (spec_SumOf.E k) (at_ [true, true, false, true, false, false] (body Try.f154))) (canon 0 [0, 3, 4]) (spec_SumOf.K0 k a0) n0 (mk 20 0 [(0, .sl true TRec x0_0), (3, .str x0_1), (4, .int .i64 x0_2)] [])
theorem spec_SumOf.s0 (k : Nat) (a0 : List (Ty.den TRec)) (n0 : Nat) (x0_0 : List (Ty.den TRec)) (x0_1 : ByteArray) (x0_2 : Int) : spec_SumOf.V0 k a0 (n0 + 1) x0_0 x0_1 x0_2 = spec_SumOf.b0 k (spec_SumOf.V0 k a0 n0) x0_0 x0_1 x0_2 := by kernel_rfl
theorem spec_SumOf.e0 (k : Nat) (a0 : List (Ty.den TRec)) (n0 : Nat) : spec_SumOf.V0 k a0 n0 = spec_SumOf.l0 k n0 := by
  induction n0 with
  | zero => rfl
  | succ n0 ih =>
    have h : spec_SumOf.V0 k a0 (n0 + 1) = spec_SumOf.b0 k (spec_SumOf.V0 k a0 n0) := funext fun x0_0 => funext fun x0_1 => funext fun x0_2 => spec_SumOf.s0 k a0 n0 x0_0 x0_1 x0_2
    rw [h, ih]
    rfl
theorem spec_SumOf.q (k : Nat) (a0 : List (Ty.den TRec)) : run (spec_SumOf.E k) Try.f154 [.val (.slice TRec)] [(.int .i64)] true false (a0, ()) = spec_SumOf.t k (spec_SumOf.V0 k a0 k) a0 := by kernel_rfl
theorem spec_SumOf.eq (k : Nat) (a0 : List (Ty.den TRec)) : run (spec_SumOf.E k) Try.f154 [.val (.slice TRec)] [(.int .i64)] true false (a0, ()) = spec_SumOf.f k a0 := by
  rw [spec_SumOf.q, spec_SumOf.e0]
  rfl
theorem spec_SumOf.ctr (k : Nat) : Ctr Try.prog 154 ⟨[.val (.slice TRec)], [(.int .i64)], true, false, fun x => spec_SumOf.f k x.1⟩ :=
  run_ctr (E := spec_SumOf.E k) mixed tb_ok (eqOk_of tb_eqs) (Cts.cons (spec_ShowRec.ctr k) (Cts.cons (spec_Crc.ctr k) Cts.nil)) (by kernel_rfl) Try.func154 (by kernel_rfl) rfl (fun ⟨a0, _⟩ r h => (spec_SumOf.eq k a0).trans h)
def spec_l9Seal.E (k : Nat) : Env := ⟨tb, [(154, ⟨[.val (.slice TRec)], [(.int .i64)], true, false, fun x => spec_SumOf.f k x.1⟩)], [], k, 0, []⟩
theorem spec_l9Seal.q (k : Nat) (a0 : List (Ty.den TRec)) (a1 : Int) (a2 : Int) : run (spec_l9Seal.E k) Try.f87 [.val (.slice TRec), .val (.int .i64), .val (.int .i64)] [TRec] true false (a0, a1, a2, ()) = spec_l9Seal.t k a0 a1 a2 := by kernel_rfl
theorem spec_l9Seal.eq (k : Nat) (a0 : List (Ty.den TRec)) (a1 : Int) (a2 : Int) : run (spec_l9Seal.E k) Try.f87 [.val (.slice TRec), .val (.int .i64), .val (.int .i64)] [TRec] true false (a0, a1, a2, ()) = spec_l9Seal.f k a0 a1 a2 := by
  rw [spec_l9Seal.q]
  rfl
theorem spec_l9Seal.ctr (k : Nat) : Ctr Try.prog 87 ⟨[.val (.slice TRec), .val (.int .i64), .val (.int .i64)], [TRec], true, false, fun x => spec_l9Seal.f k x.1 x.2.1 x.2.2.1⟩ :=
  run_ctr (E := spec_l9Seal.E k) mixed tb_ok (eqOk_of tb_eqs) (Cts.cons (spec_SumOf.ctr k) Cts.nil) (by kernel_rfl) Try.func87 (by kernel_rfl) rfl (fun ⟨a0, a1, a2, _⟩ r h => (spec_l9Seal.eq k a0 a1 a2).trans h)
def spec_Frame.E (k : Nat) : Env := ⟨tb, [(155, ⟨[.val (.int .i64)], [.str], true, false, fun x => spec_Var.f k x.1⟩), (157, ⟨[.val .str], [(.int .i64)], true, false, fun x => spec_Crc.f k x.1⟩), (156, ⟨[.val (.int .i64), .val (.int .i64)], [.str], true, false, fun x => spec_Fixed.f k x.1 x.2.1⟩)], [], k, 0, []⟩
theorem spec_Frame.q (k : Nat) (a0 : ByteArray) : run (spec_Frame.E k) Try.f88 [.val .str] [.str] true false (a0, ()) = spec_Frame.t k a0 := by kernel_rfl
theorem spec_Frame.eq (k : Nat) (a0 : ByteArray) : run (spec_Frame.E k) Try.f88 [.val .str] [.str] true false (a0, ()) = spec_Frame.f k a0 := by
  rw [spec_Frame.q]
  rfl
theorem spec_Frame.ctr (k : Nat) : Ctr Try.prog 88 ⟨[.val .str], [.str], true, false, fun x => spec_Frame.f k x.1⟩ :=
  run_ctr (E := spec_Frame.E k) mixed tb_ok (eqOk_of tb_eqs) (Cts.cons (spec_Var.ctr k) (Cts.cons (spec_Crc.ctr k) (Cts.cons (spec_Fixed.ctr k) Cts.nil))) (by kernel_rfl) Try.func88 (by kernel_rfl) rfl (fun ⟨a0, _⟩ r h => (spec_Frame.eq k a0).trans h)
def spec_CommitCost.E (k : Nat) : Env := ⟨tb, [(85, ⟨[.val (.slice TPut)], [.bool], true, false, fun x => spec_PutsOk.f k x.1⟩), (86, ⟨[.val (.int .i64), .val (.int .i64), .val (.int .i64)], [.bool], true, false, fun x => spec_l1In.f k x.1 x.2.1 x.2.2.1⟩), (87, ⟨[.val (.slice TRec), .val (.int .i64), .val (.int .i64)], [TRec], true, false, fun x => spec_l9Seal.f k x.1 x.2.1 x.2.2.1⟩), (89, ⟨[.val TRec], [.str], true, false, fun x => spec_ShowRec.f k x.1⟩), (88, ⟨[.val .str], [.str], true, false, fun x => spec_Frame.f k x.1⟩)], [(7, [1, 2, 4, 5, 6, 7, 8])], k, 0, []⟩
noncomputable def spec_CommitCost.K0 (k : Nat) (a0 : Ty.den TStore) (a1 : List (Ty.den TPut)) : Ex → St → Option ((Ty.den TCost) × Unit) := runK (spec_CommitCost.E k) (endK (spec_CommitCost.E k) Try.f29.results.toList [.val TStore, .val (.slice TPut)] (a0, a1, ()) [TCost] true false) [.blk 0, .code (at_ [true, true, true, true, true, true] (body Try.f29))]
noncomputable def spec_CommitCost.B0 (k : Nat) (a0 : Ty.den TStore) (a1 : List (Ty.den TPut)) (n0 : Nat) : Ex → St → Option ((Ty.den TCost) × Unit) := fun e st => match e with
  | .normal => loopN (exec (spec_CommitCost.E k) (at_ [true, true, true, true, true, false, true, false, false] (body Try.f29))) (canon 0 [1, 2, 4, 5, 6, 7, 8]) (spec_CommitCost.K0 k a0 a1) n0 (canon 0 [1, 2, 4, 5, 6, 7, 8] st)
  | .ret => spec_CommitCost.K0 k a0 a1 .ret st
  | .exit j => spec_CommitCost.K0 k a0 a1 (.exit j) st
noncomputable def spec_CommitCost.V0 (k : Nat) (a0 : Ty.den TStore) (a1 : List (Ty.den TPut)) (n0 : Nat) (x0_0 : List (Ty.den TPut)) (x0_1 : Int) (x0_2 : Int) (x0_3 : Int) (x0_4 : List Int) (x0_5 : List (Ty.den TEntry)) (x0_6 : Int) (x0_7 : Int) (x0_8 : Int) (x0_9 : Int) (x0_10 : Int) (x0_11 : Int) (x0_12 : Int) (x0_13 : List (Ty.den TRec)) : Option ((Ty.den TCost) × Unit) := loopN (exec (spec_CommitCost.E k) (at_ [true, true, true, true, true, false, true, false, false] (body Try.f29))) (canon 0 [1, 2, 4, 5, 6, 7, 8]) (spec_CommitCost.K0 k a0 a1) n0 (mk 105 4 [(1, .sl true TPut x0_0), (2, .ptr 0 0 0), (4, .ptr 1 0 0), (5, .ptr 2 0 0), (6, .ref 3), (7, .int .i64 x0_1), (8, .int .i64 x0_2)] [(0, .box [.int .i64 x0_3, .sl true (.int .i64) x0_4, .sl true TEntry x0_5, .int .i64 x0_6, .int .i64 x0_7, .int .i64 x0_8]), (1, .box [.int .i64 x0_9, .int .i64 x0_10]), (2, .box [.int .i64 x0_11, .int .i64 x0_12]), (3, .own false TRec x0_13)])
theorem spec_CommitCost.s0 (k : Nat) (a0 : Ty.den TStore) (a1 : List (Ty.den TPut)) (n0 : Nat) (x0_0 : List (Ty.den TPut)) (x0_1 : Int) (x0_2 : Int) (x0_3 : Int) (x0_4 : List Int) (x0_5 : List (Ty.den TEntry)) (x0_6 : Int) (x0_7 : Int) (x0_8 : Int) (x0_9 : Int) (x0_10 : Int) (x0_11 : Int) (x0_12 : Int) (x0_13 : List (Ty.den TRec)) : spec_CommitCost.V0 k a0 a1 (n0 + 1) x0_0 x0_1 x0_2 x0_3 x0_4 x0_5 x0_6 x0_7 x0_8 x0_9 x0_10 x0_11 x0_12 x0_13 = spec_CommitCost.b0 k (spec_CommitCost.V0 k a0 a1 n0) x0_0 x0_1 x0_2 x0_3 x0_4 x0_5 x0_6 x0_7 x0_8 x0_9 x0_10 x0_11 x0_12 x0_13 := by kernel_rfl
theorem spec_CommitCost.e0 (k : Nat) (a0 : Ty.den TStore) (a1 : List (Ty.den TPut)) (n0 : Nat) : spec_CommitCost.V0 k a0 a1 n0 = spec_CommitCost.l0 k n0 := by
  induction n0 with
  | zero => rfl
  | succ n0 ih =>
    have h : spec_CommitCost.V0 k a0 a1 (n0 + 1) = spec_CommitCost.b0 k (spec_CommitCost.V0 k a0 a1 n0) := funext fun x0_0 => funext fun x0_1 => funext fun x0_2 => funext fun x0_3 => funext fun x0_4 => funext fun x0_5 => funext fun x0_6 => funext fun x0_7 => funext fun x0_8 => funext fun x0_9 => funext fun x0_10 => funext fun x0_11 => funext fun x0_12 => funext fun x0_13 => spec_CommitCost.s0 k a0 a1 n0 x0_0 x0_1 x0_2 x0_3 x0_4 x0_5 x0_6 x0_7 x0_8 x0_9 x0_10 x0_11 x0_12 x0_13
    rw [h, ih]
    rfl
theorem spec_CommitCost.q (k : Nat) (a0 : Ty.den TStore) (a1 : List (Ty.den TPut)) : run (spec_CommitCost.E k) Try.f29 [.val TStore, .val (.slice TPut)] [TCost] true false (a0, a1, ()) = spec_CommitCost.t k (spec_CommitCost.V0 k a0 a1 k) a0 a1 := by kernel_rfl
theorem spec_CommitCost.eq (k : Nat) (a0 : Ty.den TStore) (a1 : List (Ty.den TPut)) : run (spec_CommitCost.E k) Try.f29 [.val TStore, .val (.slice TPut)] [TCost] true false (a0, a1, ()) = spec_CommitCost.f k a0 a1 := by
  rw [spec_CommitCost.q, spec_CommitCost.e0]
  rfl
theorem spec_CommitCost.ctr (k : Nat) : Ctr Try.prog 29 ⟨[.val TStore, .val (.slice TPut)], [TCost], true, false, fun x => spec_CommitCost.f k x.1 x.2.1⟩ :=
  run_ctr (E := spec_CommitCost.E k) mixed tb_ok (eqOk_of tb_eqs) (Cts.cons (spec_PutsOk.ctr k) (Cts.cons (spec_l1In.ctr k) (Cts.cons (spec_l9Seal.ctr k) (Cts.cons (spec_ShowRec.ctr k) (Cts.cons (spec_Frame.ctr k) Cts.nil))))) (by kernel_rfl) Try.func29 (by kernel_rfl) rfl (fun ⟨a0, a1, _⟩ r h => (spec_CommitCost.eq k a0 a1).trans h)
def impl_in.E (k : Nat) : Env := ⟨tb, [], [], k, 0, []⟩
theorem impl_in.q (k : Nat) (a0 : Int) (a1 : Int) (a2 : Int) : run (impl_in.E k) Try.f94 [.val (.int .i64), .val (.int .i64), .val (.int .i64)] [.bool] true false (a0, a1, a2, ()) = impl_in.t k a0 a1 a2 := by kernel_rfl
theorem impl_in.eq (k : Nat) (a0 : Int) (a1 : Int) (a2 : Int) : run (impl_in.E k) Try.f94 [.val (.int .i64), .val (.int .i64), .val (.int .i64)] [.bool] true false (a0, a1, a2, ()) = impl_in.f k a0 a1 a2 := by
  rw [impl_in.q]
  rfl
theorem impl_in.ctr (k : Nat) : Ctr Try.prog 94 ⟨[.val (.int .i64), .val (.int .i64), .val (.int .i64)], [.bool], true, false, fun x => impl_in.f k x.1 x.2.1 x.2.2.1⟩ :=
  run_ctr (E := impl_in.E k) mixed tb_ok (eqOk_of tb_eqs) Cts.nil (by kernel_rfl) Try.func94 (by kernel_rfl) rfl (fun ⟨a0, a1, a2, _⟩ r h => (impl_in.eq k a0 a1 a2).trans h)
def impl_KeyOk.E (k : Nat) : Env := ⟨tb, [(94, ⟨[.val (.int .i64), .val (.int .i64), .val (.int .i64)], [.bool], true, false, fun x => impl_in.f k x.1 x.2.1 x.2.2.1⟩)], [], k, 0, []⟩
theorem impl_KeyOk.q (k : Nat) (a0 : ByteArray) : run (impl_KeyOk.E k) Try.f192 [.val .str] [.bool] true false (a0, ()) = impl_KeyOk.t k a0 := by kernel_rfl
theorem impl_KeyOk.eq (k : Nat) (a0 : ByteArray) : run (impl_KeyOk.E k) Try.f192 [.val .str] [.bool] true false (a0, ()) = impl_KeyOk.f k a0 := by
  rw [impl_KeyOk.q]
  rfl
theorem impl_KeyOk.ctr (k : Nat) : Ctr Try.prog 192 ⟨[.val .str], [.bool], true, false, fun x => impl_KeyOk.f k x.1⟩ :=
  run_ctr (E := impl_KeyOk.E k) mixed tb_ok (eqOk_of tb_eqs) (Cts.cons (impl_in.ctr k) Cts.nil) (by kernel_rfl) Try.func192 (by kernel_rfl) rfl (fun ⟨a0, _⟩ r h => (impl_KeyOk.eq k a0).trans h)
def impl_putOk.E (k : Nat) : Env := ⟨tb, [(192, ⟨[.val .str], [.bool], true, false, fun x => impl_KeyOk.f k x.1⟩)], [], k, 0, []⟩
theorem impl_putOk.q (k : Nat) (a0 : Ty.den TPut) : run (impl_putOk.E k) Try.f161 [.val TPut] [.bool] true false (a0, ()) = impl_putOk.t k a0 := by kernel_rfl
theorem impl_putOk.eq (k : Nat) (a0 : Ty.den TPut) : run (impl_putOk.E k) Try.f161 [.val TPut] [.bool] true false (a0, ()) = impl_putOk.f k a0 := by
  rw [impl_putOk.q]
  rfl
theorem impl_putOk.ctr (k : Nat) : Ctr Try.prog 161 ⟨[.val TPut], [.bool], true, false, fun x => impl_putOk.f k x.1⟩ :=
  run_ctr (E := impl_putOk.E k) mixed tb_ok (eqOk_of tb_eqs) (Cts.cons (impl_KeyOk.ctr k) Cts.nil) (by kernel_rfl) Try.func161 (by kernel_rfl) rfl (fun ⟨a0, _⟩ r h => (impl_putOk.eq k a0).trans h)
def impl_PutsOk.E (k : Nat) : Env := ⟨tb, [(161, ⟨[.val TPut], [.bool], true, false, fun x => impl_putOk.f k x.1⟩)], [(2, [0, 5, 6, 7])], k, 0, []⟩
noncomputable def impl_PutsOk.K0 (k : Nat) (a0 : List (Ty.den TPut)) : Ex → St → Option (Bool × Unit) := runK (impl_PutsOk.E k) (endK (impl_PutsOk.E k) Try.f93.results.toList [.val (.slice TPut)] (a0, ()) [.bool] true false) [.blk 0, .code (at_ [true, true] (body Try.f93))]
noncomputable def impl_PutsOk.B0 (k : Nat) (a0 : List (Ty.den TPut)) (n0 : Nat) : Ex → St → Option (Bool × Unit) := fun e st => match e with
  | .normal => loopN (exec (impl_PutsOk.E k) (at_ [true, false, true, false, false] (body Try.f93))) (canon 0 [0, 5, 6, 7]) (impl_PutsOk.K0 k a0) n0 (canon 0 [0, 5, 6, 7] st)
  | .ret => impl_PutsOk.K0 k a0 .ret st
  | .exit j => impl_PutsOk.K0 k a0 (.exit j) st
noncomputable def impl_PutsOk.V0 (k : Nat) (a0 : List (Ty.den TPut)) (n0 : Nat) (x0_0 : List (Ty.den TPut)) (x0_1 : List (Ty.den TPut)) (x0_2 : Int) (x0_3 : Int) : Option (Bool × Unit) := loopN (exec (impl_PutsOk.E k) (at_ [true, false, true, false, false] (body Try.f93))) (canon 0 [0, 5, 6, 7]) (impl_PutsOk.K0 k a0) n0 (mk 18 0 [(0, .sl true TPut x0_0), (5, .sl true TPut x0_1), (6, .int .i64 x0_2), (7, .int .i64 x0_3)] [])
theorem impl_PutsOk.s0 (k : Nat) (a0 : List (Ty.den TPut)) (n0 : Nat) (x0_0 : List (Ty.den TPut)) (x0_1 : List (Ty.den TPut)) (x0_2 : Int) (x0_3 : Int) : impl_PutsOk.V0 k a0 (n0 + 1) x0_0 x0_1 x0_2 x0_3 = impl_PutsOk.b0 k (impl_PutsOk.V0 k a0 n0) x0_0 x0_1 x0_2 x0_3 := by kernel_rfl
theorem impl_PutsOk.e0 (k : Nat) (a0 : List (Ty.den TPut)) (n0 : Nat) : impl_PutsOk.V0 k a0 n0 = impl_PutsOk.l0 k n0 := by
  induction n0 with
  | zero => rfl
  | succ n0 ih =>
    have h : impl_PutsOk.V0 k a0 (n0 + 1) = impl_PutsOk.b0 k (impl_PutsOk.V0 k a0 n0) := funext fun x0_0 => funext fun x0_1 => funext fun x0_2 => funext fun x0_3 => impl_PutsOk.s0 k a0 n0 x0_0 x0_1 x0_2 x0_3
    rw [h, ih]
    rfl
theorem impl_PutsOk.q (k : Nat) (a0 : List (Ty.den TPut)) : run (impl_PutsOk.E k) Try.f93 [.val (.slice TPut)] [.bool] true false (a0, ()) = impl_PutsOk.t k (impl_PutsOk.V0 k a0 k) a0 := by kernel_rfl
theorem impl_PutsOk.eq (k : Nat) (a0 : List (Ty.den TPut)) : run (impl_PutsOk.E k) Try.f93 [.val (.slice TPut)] [.bool] true false (a0, ()) = impl_PutsOk.f k a0 := by
  rw [impl_PutsOk.q, impl_PutsOk.e0]
  rfl
theorem impl_PutsOk.ctr (k : Nat) : Ctr Try.prog 93 ⟨[.val (.slice TPut)], [.bool], true, false, fun x => impl_PutsOk.f k x.1⟩ :=
  run_ctr (E := impl_PutsOk.E k) mixed tb_ok (eqOk_of tb_eqs) (Cts.cons (impl_putOk.ctr k) Cts.nil) (by kernel_rfl) Try.func93 (by kernel_rfl) rfl (fun ⟨a0, _⟩ r h => (impl_PutsOk.eq k a0).trans h)
def impl_RecOk.E (k : Nat) : Env := ⟨tb, [(192, ⟨[.val .str], [.bool], true, false, fun x => impl_KeyOk.f k x.1⟩), (94, ⟨[.val (.int .i64), .val (.int .i64), .val (.int .i64)], [.bool], true, false, fun x => impl_in.f k x.1 x.2.1 x.2.2.1⟩)], [], k, 0, []⟩
theorem impl_RecOk.q (k : Nat) (a0 : Ty.den TRec) : run (impl_RecOk.E k) Try.f166 [.val TRec] [.bool] true false (a0, ()) = impl_RecOk.t k a0 := by kernel_rfl
theorem impl_RecOk.eq (k : Nat) (a0 : Ty.den TRec) : run (impl_RecOk.E k) Try.f166 [.val TRec] [.bool] true false (a0, ()) = impl_RecOk.f k a0 := by
  rw [impl_RecOk.q]
  rfl
theorem impl_RecOk.ctr (k : Nat) : Ctr Try.prog 166 ⟨[.val TRec], [.bool], true, false, fun x => impl_RecOk.f k x.1⟩ :=
  run_ctr (E := impl_RecOk.E k) mixed tb_ok (eqOk_of tb_eqs) (Cts.cons (impl_KeyOk.ctr k) (Cts.cons (impl_in.ctr k) Cts.nil)) (by kernel_rfl) Try.func166 (by kernel_rfl) rfl (fun ⟨a0, _⟩ r h => (impl_RecOk.eq k a0).trans h)
def impl_Var.E (k : Nat) : Env := ⟨tb, [(94, ⟨[.val (.int .i64), .val (.int .i64), .val (.int .i64)], [.bool], true, false, fun x => impl_in.f k x.1 x.2.1 x.2.2.1⟩)], [(4, [0, 3])], k, 0, []⟩
noncomputable def impl_Var.K0 (k : Nat) (a0 : Int) : Ex → St → Option (ByteArray × Unit) := runK (impl_Var.E k) (endK (impl_Var.E k) Try.f168.results.toList [.val (.int .i64)] (a0, ()) [.str] true false) [.blk 0, .code (at_ [true, true, true, true] (body Try.f168))]
noncomputable def impl_Var.B0 (k : Nat) (a0 : Int) (n0 : Nat) : Ex → St → Option (ByteArray × Unit) := fun e st => match e with
  | .normal => loopN (exec (impl_Var.E k) (at_ [true, true, true, false, false, false] (body Try.f168))) (canon 0 [0, 3]) (impl_Var.K0 k a0) n0 (canon 0 [0, 3] st)
  | .ret => impl_Var.K0 k a0 .ret st
  | .exit j => impl_Var.K0 k a0 (.exit j) st
noncomputable def impl_Var.V0 (k : Nat) (a0 : Int) (n0 : Nat) (x0_0 : Int) (x0_1 : List Int) : Option (ByteArray × Unit) := loopN (exec (impl_Var.E k) (at_ [true, true, true, false, false, false] (body Try.f168))) (canon 0 [0, 3]) (impl_Var.K0 k a0) n0 (mk 24 1 [(0, .int .i64 x0_0), (3, .ref 0)] [(0, .own false (.int .u8) x0_1)])
theorem impl_Var.s0 (k : Nat) (a0 : Int) (n0 : Nat) (x0_0 : Int) (x0_1 : List Int) : impl_Var.V0 k a0 (n0 + 1) x0_0 x0_1 = impl_Var.b0 k (impl_Var.V0 k a0 n0) x0_0 x0_1 := by kernel_rfl
theorem impl_Var.e0 (k : Nat) (a0 : Int) (n0 : Nat) : impl_Var.V0 k a0 n0 = impl_Var.l0 k n0 := by
  induction n0 with
  | zero => rfl
  | succ n0 ih =>
    have h : impl_Var.V0 k a0 (n0 + 1) = impl_Var.b0 k (impl_Var.V0 k a0 n0) := funext fun x0_0 => funext fun x0_1 => impl_Var.s0 k a0 n0 x0_0 x0_1
    rw [h, ih]
    rfl
theorem impl_Var.q (k : Nat) (a0 : Int) : run (impl_Var.E k) Try.f168 [.val (.int .i64)] [.str] true false (a0, ()) = impl_Var.t k (impl_Var.V0 k a0 k) a0 := by kernel_rfl
theorem impl_Var.eq (k : Nat) (a0 : Int) : run (impl_Var.E k) Try.f168 [.val (.int .i64)] [.str] true false (a0, ()) = impl_Var.f k a0 := by
  rw [impl_Var.q, impl_Var.e0]
  rfl
theorem impl_Var.ctr (k : Nat) : Ctr Try.prog 168 ⟨[.val (.int .i64)], [.str], true, false, fun x => impl_Var.f k x.1⟩ :=
  run_ctr (E := impl_Var.E k) mixed tb_ok (eqOk_of tb_eqs) (Cts.cons (impl_in.ctr k) Cts.nil) (by kernel_rfl) Try.func168 (by kernel_rfl) rfl (fun ⟨a0, _⟩ r h => (impl_Var.eq k a0).trans h)
def impl_vars.E (k : Nat) : Env := ⟨tb, [(168, ⟨[.val (.int .i64)], [.str], true, false, fun x => impl_Var.f k x.1⟩)], [(3, [3, 6, 7, 8])], k, 0, []⟩
noncomputable def impl_vars.K0 (k : Nat) (a0 : List Int) : Ex → St → Option (ByteArray × Unit) := runK (impl_vars.E k) (endK (impl_vars.E k) Try.f167.results.toList [.val (.slice (.int .i64))] (a0, ()) [.str] true false) [.blk 0, .code (at_ [true, true, true] (body Try.f167))]
noncomputable def impl_vars.B0 (k : Nat) (a0 : List Int) (n0 : Nat) : Ex → St → Option (ByteArray × Unit) := fun e st => match e with
  | .normal => loopN (exec (impl_vars.E k) (at_ [true, true, false, true, false, false] (body Try.f167))) (canon 0 [3, 6, 7, 8]) (impl_vars.K0 k a0) n0 (canon 0 [3, 6, 7, 8] st)
  | .ret => impl_vars.K0 k a0 .ret st
  | .exit j => impl_vars.K0 k a0 (.exit j) st
noncomputable def impl_vars.V0 (k : Nat) (a0 : List Int) (n0 : Nat) (x0_0 : ByteArray) (x0_1 : List Int) (x0_2 : Int) (x0_3 : Int) : Option (ByteArray × Unit) := loopN (exec (impl_vars.E k) (at_ [true, true, false, true, false, false] (body Try.f167))) (canon 0 [3, 6, 7, 8]) (impl_vars.K0 k a0) n0 (mk 18 0 [(3, .str x0_0), (6, .sl true (.int .i64) x0_1), (7, .int .i64 x0_2), (8, .int .i64 x0_3)] [])
theorem impl_vars.s0 (k : Nat) (a0 : List Int) (n0 : Nat) (x0_0 : ByteArray) (x0_1 : List Int) (x0_2 : Int) (x0_3 : Int) : impl_vars.V0 k a0 (n0 + 1) x0_0 x0_1 x0_2 x0_3 = impl_vars.b0 k (impl_vars.V0 k a0 n0) x0_0 x0_1 x0_2 x0_3 := by kernel_rfl
theorem impl_vars.e0 (k : Nat) (a0 : List Int) (n0 : Nat) : impl_vars.V0 k a0 n0 = impl_vars.l0 k n0 := by
  induction n0 with
  | zero => rfl
  | succ n0 ih =>
    have h : impl_vars.V0 k a0 (n0 + 1) = impl_vars.b0 k (impl_vars.V0 k a0 n0) := funext fun x0_0 => funext fun x0_1 => funext fun x0_2 => funext fun x0_3 => impl_vars.s0 k a0 n0 x0_0 x0_1 x0_2 x0_3
    rw [h, ih]
    rfl
theorem impl_vars.q (k : Nat) (a0 : List Int) : run (impl_vars.E k) Try.f167 [.val (.slice (.int .i64))] [.str] true false (a0, ()) = impl_vars.t k (impl_vars.V0 k a0 k) a0 := by kernel_rfl
theorem impl_vars.eq (k : Nat) (a0 : List Int) : run (impl_vars.E k) Try.f167 [.val (.slice (.int .i64))] [.str] true false (a0, ()) = impl_vars.f k a0 := by
  rw [impl_vars.q, impl_vars.e0]
  rfl
theorem impl_vars.ctr (k : Nat) : Ctr Try.prog 167 ⟨[.val (.slice (.int .i64))], [.str], true, false, fun x => impl_vars.f k x.1⟩ :=
  run_ctr (E := impl_vars.E k) mixed tb_ok (eqOk_of tb_eqs) (Cts.cons (impl_Var.ctr k) Cts.nil) (by kernel_rfl) Try.func167 (by kernel_rfl) rfl (fun ⟨a0, _⟩ r h => (impl_vars.eq k a0).trans h)
def impl_textOf.E (k : Nat) : Env := ⟨tb, [(168, ⟨[.val (.int .i64)], [.str], true, false, fun x => impl_Var.f k x.1⟩)], [], k, 0, []⟩
theorem impl_textOf.q (k : Nat) (a0 : ByteArray) : run (impl_textOf.E k) Try.f163 [.val .str] [.str] true false (a0, ()) = impl_textOf.t k a0 := by kernel_rfl
theorem impl_textOf.eq (k : Nat) (a0 : ByteArray) : run (impl_textOf.E k) Try.f163 [.val .str] [.str] true false (a0, ()) = impl_textOf.f k a0 := by
  rw [impl_textOf.q]
  rfl
theorem impl_textOf.ctr (k : Nat) : Ctr Try.prog 163 ⟨[.val .str], [.str], true, false, fun x => impl_textOf.f k x.1⟩ :=
  run_ctr (E := impl_textOf.E k) mixed tb_ok (eqOk_of tb_eqs) (Cts.cons (impl_Var.ctr k) Cts.nil) (by kernel_rfl) Try.func163 (by kernel_rfl) rfl (fun ⟨a0, _⟩ r h => (impl_textOf.eq k a0).trans h)
def impl_Fixed.E (k : Nat) : Env := ⟨tb, [(94, ⟨[.val (.int .i64), .val (.int .i64), .val (.int .i64)], [.bool], true, false, fun x => impl_in.f k x.1 x.2.1 x.2.2.1⟩)], [(5, [0, 5, 6])], k, 0, []⟩
noncomputable def impl_Fixed.K0 (k : Nat) (a0 : Int) (a1 : Int) : Ex → St → Option (ByteArray × Unit) := runK (impl_Fixed.E k) (endK (impl_Fixed.E k) Try.f164.results.toList [.val (.int .i64), .val (.int .i64)] (a0, a1, ()) [.str] true false) [.blk 0, .code (at_ [true, true, true, true] (body Try.f164))]
noncomputable def impl_Fixed.B0 (k : Nat) (a0 : Int) (a1 : Int) (n0 : Nat) : Ex → St → Option (ByteArray × Unit) := fun e st => match e with
  | .normal => loopN (exec (impl_Fixed.E k) (at_ [true, true, true, false, true, false, false] (body Try.f164))) (canon 0 [0, 5, 6]) (impl_Fixed.K0 k a0 a1) n0 (canon 0 [0, 5, 6] st)
  | .ret => impl_Fixed.K0 k a0 a1 .ret st
  | .exit j => impl_Fixed.K0 k a0 a1 (.exit j) st
noncomputable def impl_Fixed.V0 (k : Nat) (a0 : Int) (a1 : Int) (n0 : Nat) (x0_0 : Int) (x0_1 : Int) (x0_2 : List Int) : Option (ByteArray × Unit) := loopN (exec (impl_Fixed.E k) (at_ [true, true, true, false, true, false, false] (body Try.f164))) (canon 0 [0, 5, 6]) (impl_Fixed.K0 k a0 a1) n0 (mk 35 1 [(0, .int .i64 x0_0), (5, .ref 0), (6, .int .i64 x0_1)] [(0, .own false (.int .u8) x0_2)])
theorem impl_Fixed.s0 (k : Nat) (a0 : Int) (a1 : Int) (n0 : Nat) (x0_0 : Int) (x0_1 : Int) (x0_2 : List Int) : impl_Fixed.V0 k a0 a1 (n0 + 1) x0_0 x0_1 x0_2 = impl_Fixed.b0 k (impl_Fixed.V0 k a0 a1 n0) x0_0 x0_1 x0_2 := by kernel_rfl
theorem impl_Fixed.e0 (k : Nat) (a0 : Int) (a1 : Int) (n0 : Nat) : impl_Fixed.V0 k a0 a1 n0 = impl_Fixed.l0 k n0 := by
  induction n0 with
  | zero => rfl
  | succ n0 ih =>
    have h : impl_Fixed.V0 k a0 a1 (n0 + 1) = impl_Fixed.b0 k (impl_Fixed.V0 k a0 a1 n0) := funext fun x0_0 => funext fun x0_1 => funext fun x0_2 => impl_Fixed.s0 k a0 a1 n0 x0_0 x0_1 x0_2
    rw [h, ih]
    rfl
theorem impl_Fixed.q (k : Nat) (a0 : Int) (a1 : Int) : run (impl_Fixed.E k) Try.f164 [.val (.int .i64), .val (.int .i64)] [.str] true false (a0, a1, ()) = impl_Fixed.t k (impl_Fixed.V0 k a0 a1 k) a0 a1 := by kernel_rfl
theorem impl_Fixed.eq (k : Nat) (a0 : Int) (a1 : Int) : run (impl_Fixed.E k) Try.f164 [.val (.int .i64), .val (.int .i64)] [.str] true false (a0, a1, ()) = impl_Fixed.f k a0 a1 := by
  rw [impl_Fixed.q, impl_Fixed.e0]
  rfl
theorem impl_Fixed.ctr (k : Nat) : Ctr Try.prog 164 ⟨[.val (.int .i64), .val (.int .i64)], [.str], true, false, fun x => impl_Fixed.f k x.1 x.2.1⟩ :=
  run_ctr (E := impl_Fixed.E k) mixed tb_ok (eqOk_of tb_eqs) (Cts.cons (impl_in.ctr k) Cts.nil) (by kernel_rfl) Try.func164 (by kernel_rfl) rfl (fun ⟨a0, a1, _⟩ r h => (impl_Fixed.eq k a0 a1).trans h)
def impl_ShowRec.E (k : Nat) : Env := ⟨tb, [(166, ⟨[.val TRec], [.bool], true, false, fun x => impl_RecOk.f k x.1⟩), (167, ⟨[.val (.slice (.int .i64))], [.str], true, false, fun x => impl_vars.f k x.1⟩), (163, ⟨[.val .str], [.str], true, false, fun x => impl_textOf.f k x.1⟩), (168, ⟨[.val (.int .i64)], [.str], true, false, fun x => impl_Var.f k x.1⟩), (164, ⟨[.val (.int .i64), .val (.int .i64)], [.str], true, false, fun x => impl_Fixed.f k x.1 x.2.1⟩)], [], k, 0, []⟩
theorem impl_ShowRec.q (k : Nat) (a0 : Ty.den TRec) : run (impl_ShowRec.E k) Try.f97 [.val TRec] [.str] true false (a0, ()) = impl_ShowRec.t k a0 := by kernel_rfl
theorem impl_ShowRec.eq (k : Nat) (a0 : Ty.den TRec) : run (impl_ShowRec.E k) Try.f97 [.val TRec] [.str] true false (a0, ()) = impl_ShowRec.f k a0 := by
  rw [impl_ShowRec.q]
  rfl
theorem impl_ShowRec.ctr (k : Nat) : Ctr Try.prog 97 ⟨[.val TRec], [.str], true, false, fun x => impl_ShowRec.f k x.1⟩ :=
  run_ctr (E := impl_ShowRec.E k) mixed tb_ok (eqOk_of tb_eqs) (Cts.cons (impl_RecOk.ctr k) (Cts.cons (impl_vars.ctr k) (Cts.cons (impl_textOf.ctr k) (Cts.cons (impl_Var.ctr k) (Cts.cons (impl_Fixed.ctr k) Cts.nil))))) (by kernel_rfl) Try.func97 (by kernel_rfl) rfl (fun ⟨a0, _⟩ r h => (impl_ShowRec.eq k a0).trans h)
def impl_Crc.E (k : Nat) : Env := ⟨tb, [], [(3, [0, 3, 4]), (7, [0, 3, 4, 18])], k, 0, []⟩
noncomputable def impl_Crc.K0 (k : Nat) (a0 : ByteArray) : Ex → St → Option (Int × Unit) := runK (impl_Crc.E k) (endK (impl_Crc.E k) Try.f165.results.toList [.val .str] (a0, ()) [(.int .i64)] true false) [.blk 0, .code (at_ [true, true, true] (body Try.f165))]
noncomputable def impl_Crc.B0 (k : Nat) (a0 : ByteArray) (n0 : Nat) : Ex → St → Option (Int × Unit) := fun e st => match e with
  | .normal => loopN (exec (impl_Crc.E k) (at_ [true, true, false, true, false, false] (body Try.f165))) (canon 0 [0, 3, 4]) (impl_Crc.K0 k a0) n0 (canon 0 [0, 3, 4] st)
  | .ret => impl_Crc.K0 k a0 .ret st
  | .exit j => impl_Crc.K0 k a0 (.exit j) st
noncomputable def impl_Crc.K1 (k : Nat) (a0 : ByteArray) (n0 : Nat) : Ex → St → Option (Int × Unit) := runK (impl_Crc.E k) (impl_Crc.B0 k a0 n0) [.blk 2, .blk 1, .code (at_ [true, true, false, true, false, false, true, true] (body Try.f165))]
noncomputable def impl_Crc.B1 (k : Nat) (a0 : ByteArray) (n0 n1 : Nat) : Ex → St → Option (Int × Unit) := fun e st => match e with
  | .normal => loopN (exec (impl_Crc.E k) (at_ [true, true, false, true, false, false, true, false, false, true, true, false, false] (body Try.f165))) (canon 0 [0, 3, 4, 18]) (impl_Crc.K1 k a0 n0) n1 (canon 0 [0, 3, 4, 18] st)
  | .ret => impl_Crc.K1 k a0 n0 .ret st
  | .exit j => impl_Crc.K1 k a0 n0 (.exit j) st
noncomputable def impl_Crc.V0 (k : Nat) (a0 : ByteArray) (n0 : Nat) (x0_0 : ByteArray) (x0_1 : Int) (x0_2 : Int) : Option (Int × Unit) := loopN (exec (impl_Crc.E k) (at_ [true, true, false, true, false, false] (body Try.f165))) (canon 0 [0, 3, 4]) (impl_Crc.K0 k a0) n0 (mk 32 0 [(0, .str x0_0), (3, .int .u32 x0_1), (4, .int .i64 x0_2)] [])
noncomputable def impl_Crc.V1 (k : Nat) (a0 : ByteArray) (n0 n1 : Nat) (x1_0 : ByteArray) (x1_1 : Int) (x1_2 : Int) (x1_3 : Int) : Option (Int × Unit) := loopN (exec (impl_Crc.E k) (at_ [true, true, false, true, false, false, true, false, false, true, true, false, false] (body Try.f165))) (canon 0 [0, 3, 4, 18]) (impl_Crc.K1 k a0 n0) n1 (mk 32 0 [(0, .str x1_0), (3, .int .u32 x1_1), (4, .int .i64 x1_2), (18, .int .i64 x1_3)] [])
theorem impl_Crc.s0 (k : Nat) (a0 : ByteArray) (n0 : Nat) (x0_0 : ByteArray) (x0_1 : Int) (x0_2 : Int) : impl_Crc.V0 k a0 (n0 + 1) x0_0 x0_1 x0_2 = impl_Crc.b0 k (impl_Crc.V1 k a0 n0 k) (impl_Crc.V0 k a0 n0) x0_0 x0_1 x0_2 := by kernel_rfl
theorem impl_Crc.s1 (k : Nat) (a0 : ByteArray) (n0 n1 : Nat) (x1_0 : ByteArray) (x1_1 : Int) (x1_2 : Int) (x1_3 : Int) : impl_Crc.V1 k a0 n0 (n1 + 1) x1_0 x1_1 x1_2 x1_3 = impl_Crc.b1 k (impl_Crc.V0 k a0 n0) (impl_Crc.V1 k a0 n0 n1) x1_0 x1_1 x1_2 x1_3 := by kernel_rfl
theorem impl_Crc.e1 (k : Nat) (a0 : ByteArray) (n0 n1 : Nat) : impl_Crc.V1 k a0 n0 n1 = impl_Crc.l1 k (impl_Crc.V0 k a0 n0) n1 := by
  induction n1 with
  | zero => rfl
  | succ n1 ih =>
    have h : impl_Crc.V1 k a0 n0 (n1 + 1) = impl_Crc.b1 k (impl_Crc.V0 k a0 n0) (impl_Crc.V1 k a0 n0 n1) := funext fun x1_0 => funext fun x1_1 => funext fun x1_2 => funext fun x1_3 => impl_Crc.s1 k a0 n0 n1 x1_0 x1_1 x1_2 x1_3
    rw [h, ih]
    rfl
theorem impl_Crc.e0 (k : Nat) (a0 : ByteArray) (n0 : Nat) : impl_Crc.V0 k a0 n0 = impl_Crc.l0 k n0 := by
  induction n0 with
  | zero => rfl
  | succ n0 ih =>
    have h : impl_Crc.V0 k a0 (n0 + 1) = impl_Crc.b0 k (impl_Crc.V1 k a0 n0 k) (impl_Crc.V0 k a0 n0) := funext fun x0_0 => funext fun x0_1 => funext fun x0_2 => impl_Crc.s0 k a0 n0 x0_0 x0_1 x0_2
    rw [h, impl_Crc.e1, ih]
    rfl
theorem impl_Crc.q (k : Nat) (a0 : ByteArray) : run (impl_Crc.E k) Try.f165 [.val .str] [(.int .i64)] true false (a0, ()) = impl_Crc.t k (impl_Crc.V0 k a0 k) a0 := by kernel_rfl
theorem impl_Crc.eq (k : Nat) (a0 : ByteArray) : run (impl_Crc.E k) Try.f165 [.val .str] [(.int .i64)] true false (a0, ()) = impl_Crc.f k a0 := by
  rw [impl_Crc.q, impl_Crc.e0]
  rfl
theorem impl_Crc.ctr (k : Nat) : Ctr Try.prog 165 ⟨[.val .str], [(.int .i64)], true, false, fun x => impl_Crc.f k x.1⟩ :=
  run_ctr (E := impl_Crc.E k) mixed tb_ok (eqOk_of tb_eqs) Cts.nil (by kernel_rfl) Try.func165 (by kernel_rfl) rfl (fun ⟨a0, _⟩ r h => (impl_Crc.eq k a0).trans h)
def impl_SumOf.E (k : Nat) : Env := ⟨tb, [(97, ⟨[.val TRec], [.str], true, false, fun x => impl_ShowRec.f k x.1⟩), (165, ⟨[.val .str], [(.int .i64)], true, false, fun x => impl_Crc.f k x.1⟩)], [(3, [3, 6, 7, 8])], k, 0, []⟩
noncomputable def impl_SumOf.K0 (k : Nat) (a0 : List (Ty.den TRec)) : Ex → St → Option (Int × Unit) := runK (impl_SumOf.E k) (endK (impl_SumOf.E k) Try.f162.results.toList [.val (.slice TRec)] (a0, ()) [(.int .i64)] true false) [.blk 0, .code (at_ [true, true, true] (body Try.f162))]
noncomputable def impl_SumOf.B0 (k : Nat) (a0 : List (Ty.den TRec)) (n0 : Nat) : Ex → St → Option (Int × Unit) := fun e st => match e with
  | .normal => loopN (exec (impl_SumOf.E k) (at_ [true, true, false, true, false, false] (body Try.f162))) (canon 0 [3, 6, 7, 8]) (impl_SumOf.K0 k a0) n0 (canon 0 [3, 6, 7, 8] st)
  | .ret => impl_SumOf.K0 k a0 .ret st
  | .exit j => impl_SumOf.K0 k a0 (.exit j) st
noncomputable def impl_SumOf.V0 (k : Nat) (a0 : List (Ty.den TRec)) (n0 : Nat) (x0_0 : ByteArray) (x0_1 : List (Ty.den TRec)) (x0_2 : Int) (x0_3 : Int) : Option (Int × Unit) := loopN (exec (impl_SumOf.E k) (at_ [true, true, false, true, false, false] (body Try.f162))) (canon 0 [3, 6, 7, 8]) (impl_SumOf.K0 k a0) n0 (mk 19 0 [(3, .str x0_0), (6, .sl true TRec x0_1), (7, .int .i64 x0_2), (8, .int .i64 x0_3)] [])
theorem impl_SumOf.s0 (k : Nat) (a0 : List (Ty.den TRec)) (n0 : Nat) (x0_0 : ByteArray) (x0_1 : List (Ty.den TRec)) (x0_2 : Int) (x0_3 : Int) : impl_SumOf.V0 k a0 (n0 + 1) x0_0 x0_1 x0_2 x0_3 = impl_SumOf.b0 k (impl_SumOf.V0 k a0 n0) x0_0 x0_1 x0_2 x0_3 := by kernel_rfl
theorem impl_SumOf.e0 (k : Nat) (a0 : List (Ty.den TRec)) (n0 : Nat) : impl_SumOf.V0 k a0 n0 = impl_SumOf.l0 k n0 := by
  induction n0 with
  | zero => rfl
  | succ n0 ih =>
    have h : impl_SumOf.V0 k a0 (n0 + 1) = impl_SumOf.b0 k (impl_SumOf.V0 k a0 n0) := funext fun x0_0 => funext fun x0_1 => funext fun x0_2 => funext fun x0_3 => impl_SumOf.s0 k a0 n0 x0_0 x0_1 x0_2 x0_3
    rw [h, ih]
    rfl
theorem impl_SumOf.q (k : Nat) (a0 : List (Ty.den TRec)) : run (impl_SumOf.E k) Try.f162 [.val (.slice TRec)] [(.int .i64)] true false (a0, ()) = impl_SumOf.t k (impl_SumOf.V0 k a0 k) a0 := by kernel_rfl
theorem impl_SumOf.eq (k : Nat) (a0 : List (Ty.den TRec)) : run (impl_SumOf.E k) Try.f162 [.val (.slice TRec)] [(.int .i64)] true false (a0, ()) = impl_SumOf.f k a0 := by
  rw [impl_SumOf.q, impl_SumOf.e0]
  rfl
theorem impl_SumOf.ctr (k : Nat) : Ctr Try.prog 162 ⟨[.val (.slice TRec)], [(.int .i64)], true, false, fun x => impl_SumOf.f k x.1⟩ :=
  run_ctr (E := impl_SumOf.E k) mixed tb_ok (eqOk_of tb_eqs) (Cts.cons (impl_ShowRec.ctr k) (Cts.cons (impl_Crc.ctr k) Cts.nil)) (by kernel_rfl) Try.func162 (by kernel_rfl) rfl (fun ⟨a0, _⟩ r h => (impl_SumOf.eq k a0).trans h)
def impl_recordsOf.E (k : Nat) : Env := ⟨tb, [(162, ⟨[.val (.slice TRec)], [(.int .i64)], true, false, fun x => impl_SumOf.f k x.1⟩)], [(3, [0, 1, 5, 8, 9, 10])], k, 0, []⟩
noncomputable def impl_recordsOf.K0 (k : Nat) (a0 : List (Ty.den TPut)) (a1 : Int) : Ex → St → Option ((List (Ty.den TRec)) × Unit) := runK (impl_recordsOf.E k) (endK (impl_recordsOf.E k) Try.f95.results.toList [.val (.slice TPut), .val (.int .i64)] (a0, a1, ()) [(.slice TRec)] true false) [.blk 0, .code (at_ [true, true, true] (body Try.f95))]
noncomputable def impl_recordsOf.B0 (k : Nat) (a0 : List (Ty.den TPut)) (a1 : Int) (n0 : Nat) : Ex → St → Option ((List (Ty.den TRec)) × Unit) := fun e st => match e with
  | .normal => loopN (exec (impl_recordsOf.E k) (at_ [true, true, false, true, false, false] (body Try.f95))) (canon 0 [0, 1, 5, 8, 9, 10]) (impl_recordsOf.K0 k a0 a1) n0 (canon 0 [0, 1, 5, 8, 9, 10] st)
  | .ret => impl_recordsOf.K0 k a0 a1 .ret st
  | .exit j => impl_recordsOf.K0 k a0 a1 (.exit j) st
noncomputable def impl_recordsOf.V0 (k : Nat) (a0 : List (Ty.den TPut)) (a1 : Int) (n0 : Nat) (x0_0 : List (Ty.den TPut)) (x0_1 : Int) (x0_2 : List (Ty.den TPut)) (x0_3 : Int) (x0_4 : Int) (x0_5 : List (Ty.den TRec)) : Option ((List (Ty.den TRec)) × Unit) := loopN (exec (impl_recordsOf.E k) (at_ [true, true, false, true, false, false] (body Try.f95))) (canon 0 [0, 1, 5, 8, 9, 10]) (impl_recordsOf.K0 k a0 a1) n0 (mk 42 1 [(0, .sl true TPut x0_0), (1, .int .i64 x0_1), (5, .ref 0), (8, .sl true TPut x0_2), (9, .int .i64 x0_3), (10, .int .i64 x0_4)] [(0, .own false TRec x0_5)])
theorem impl_recordsOf.s0 (k : Nat) (a0 : List (Ty.den TPut)) (a1 : Int) (n0 : Nat) (x0_0 : List (Ty.den TPut)) (x0_1 : Int) (x0_2 : List (Ty.den TPut)) (x0_3 : Int) (x0_4 : Int) (x0_5 : List (Ty.den TRec)) : impl_recordsOf.V0 k a0 a1 (n0 + 1) x0_0 x0_1 x0_2 x0_3 x0_4 x0_5 = impl_recordsOf.b0 k (impl_recordsOf.V0 k a0 a1 n0) x0_0 x0_1 x0_2 x0_3 x0_4 x0_5 := by kernel_rfl
theorem impl_recordsOf.e0 (k : Nat) (a0 : List (Ty.den TPut)) (a1 : Int) (n0 : Nat) : impl_recordsOf.V0 k a0 a1 n0 = impl_recordsOf.l0 k n0 := by
  induction n0 with
  | zero => rfl
  | succ n0 ih =>
    have h : impl_recordsOf.V0 k a0 a1 (n0 + 1) = impl_recordsOf.b0 k (impl_recordsOf.V0 k a0 a1 n0) := funext fun x0_0 => funext fun x0_1 => funext fun x0_2 => funext fun x0_3 => funext fun x0_4 => funext fun x0_5 => impl_recordsOf.s0 k a0 a1 n0 x0_0 x0_1 x0_2 x0_3 x0_4 x0_5
    rw [h, ih]
    rfl
theorem impl_recordsOf.q (k : Nat) (a0 : List (Ty.den TPut)) (a1 : Int) : run (impl_recordsOf.E k) Try.f95 [.val (.slice TPut), .val (.int .i64)] [(.slice TRec)] true false (a0, a1, ()) = impl_recordsOf.t k (impl_recordsOf.V0 k a0 a1 k) a0 a1 := by kernel_rfl
theorem impl_recordsOf.eq (k : Nat) (a0 : List (Ty.den TPut)) (a1 : Int) : run (impl_recordsOf.E k) Try.f95 [.val (.slice TPut), .val (.int .i64)] [(.slice TRec)] true false (a0, a1, ()) = impl_recordsOf.f k a0 a1 := by
  rw [impl_recordsOf.q, impl_recordsOf.e0]
  rfl
theorem impl_recordsOf.ctr (k : Nat) : Ctr Try.prog 95 ⟨[.val (.slice TPut), .val (.int .i64)], [(.slice TRec)], true, false, fun x => impl_recordsOf.f k x.1 x.2.1⟩ :=
  run_ctr (E := impl_recordsOf.E k) mixed tb_ok (eqOk_of tb_eqs) (Cts.cons (impl_SumOf.ctr k) Cts.nil) (by kernel_rfl) Try.func95 (by kernel_rfl) rfl (fun ⟨a0, a1, _⟩ r h => (impl_recordsOf.eq k a0 a1).trans h)
def impl_Frame.E (k : Nat) : Env := ⟨tb, [(163, ⟨[.val .str], [.str], true, false, fun x => impl_textOf.f k x.1⟩), (165, ⟨[.val .str], [(.int .i64)], true, false, fun x => impl_Crc.f k x.1⟩), (164, ⟨[.val (.int .i64), .val (.int .i64)], [.str], true, false, fun x => impl_Fixed.f k x.1 x.2.1⟩)], [], k, 0, []⟩
theorem impl_Frame.q (k : Nat) (a0 : ByteArray) : run (impl_Frame.E k) Try.f96 [.val .str] [.str] true false (a0, ()) = impl_Frame.t k a0 := by kernel_rfl
theorem impl_Frame.eq (k : Nat) (a0 : ByteArray) : run (impl_Frame.E k) Try.f96 [.val .str] [.str] true false (a0, ()) = impl_Frame.f k a0 := by
  rw [impl_Frame.q]
  rfl
theorem impl_Frame.ctr (k : Nat) : Ctr Try.prog 96 ⟨[.val .str], [.str], true, false, fun x => impl_Frame.f k x.1⟩ :=
  run_ctr (E := impl_Frame.E k) mixed tb_ok (eqOk_of tb_eqs) (Cts.cons (impl_textOf.ctr k) (Cts.cons (impl_Crc.ctr k) (Cts.cons (impl_Fixed.ctr k) Cts.nil))) (by kernel_rfl) Try.func96 (by kernel_rfl) rfl (fun ⟨a0, _⟩ r h => (impl_Frame.eq k a0).trans h)
def impl_CommitCost.E (k : Nat) : Env := ⟨tb, [(93, ⟨[.val (.slice TPut)], [.bool], true, false, fun x => impl_PutsOk.f k x.1⟩), (94, ⟨[.val (.int .i64), .val (.int .i64), .val (.int .i64)], [.bool], true, false, fun x => impl_in.f k x.1 x.2.1 x.2.2.1⟩), (95, ⟨[.val (.slice TPut), .val (.int .i64)], [(.slice TRec)], true, false, fun x => impl_recordsOf.f k x.1 x.2.1⟩), (97, ⟨[.val TRec], [.str], true, false, fun x => impl_ShowRec.f k x.1⟩), (96, ⟨[.val .str], [.str], true, false, fun x => impl_Frame.f k x.1⟩)], [(6, [4, 5, 6, 36, 37, 38])], k, 0, []⟩
noncomputable def impl_CommitCost.K0 (k : Nat) (a0 : Ty.den TStore) (a1 : List (Ty.den TPut)) : Ex → St → Option ((Ty.den TCost) × Unit) := runK (impl_CommitCost.E k) (endK (impl_CommitCost.E k) Try.f32.results.toList [.val TStore, .val (.slice TPut)] (a0, a1, ()) [TCost] true false) [.blk 0, .code (at_ [true, true, true, true, true] (body Try.f32))]
noncomputable def impl_CommitCost.B0 (k : Nat) (a0 : Ty.den TStore) (a1 : List (Ty.den TPut)) (n0 : Nat) : Ex → St → Option ((Ty.den TCost) × Unit) := fun e st => match e with
  | .normal => loopN (exec (impl_CommitCost.E k) (at_ [true, true, true, true, false, true, false, false] (body Try.f32))) (canon 0 [4, 5, 6, 36, 37, 38]) (impl_CommitCost.K0 k a0 a1) n0 (canon 0 [4, 5, 6, 36, 37, 38] st)
  | .ret => impl_CommitCost.K0 k a0 a1 .ret st
  | .exit j => impl_CommitCost.K0 k a0 a1 (.exit j) st
noncomputable def impl_CommitCost.V0 (k : Nat) (a0 : Ty.den TStore) (a1 : List (Ty.den TPut)) (n0 : Nat) (x0_0 : Int) (x0_1 : Int) (x0_2 : Int) (x0_3 : Int) (x0_4 : Int) (x0_5 : Int) (x0_6 : Int) (x0_7 : List (Ty.den TRec)) : Option ((Ty.den TCost) × Unit) := loopN (exec (impl_CommitCost.E k) (at_ [true, true, true, true, false, true, false, false] (body Try.f32))) (canon 0 [4, 5, 6, 36, 37, 38]) (impl_CommitCost.K0 k a0 a1) n0 (mk 72 3 [(4, .ptr 0 0 0), (5, .ptr 1 0 0), (6, .int .i64 x0_0), (36, .ref 2), (37, .int .i64 x0_1), (38, .int .i64 x0_2)] [(0, .box [.int .i64 x0_3, .int .i64 x0_4]), (1, .box [.int .i64 x0_5, .int .i64 x0_6]), (2, .own false TRec x0_7)])
theorem impl_CommitCost.s0 (k : Nat) (a0 : Ty.den TStore) (a1 : List (Ty.den TPut)) (n0 : Nat) (x0_0 : Int) (x0_1 : Int) (x0_2 : Int) (x0_3 : Int) (x0_4 : Int) (x0_5 : Int) (x0_6 : Int) (x0_7 : List (Ty.den TRec)) : impl_CommitCost.V0 k a0 a1 (n0 + 1) x0_0 x0_1 x0_2 x0_3 x0_4 x0_5 x0_6 x0_7 = impl_CommitCost.b0 k (impl_CommitCost.V0 k a0 a1 n0) x0_0 x0_1 x0_2 x0_3 x0_4 x0_5 x0_6 x0_7 := by kernel_rfl
theorem impl_CommitCost.e0 (k : Nat) (a0 : Ty.den TStore) (a1 : List (Ty.den TPut)) (n0 : Nat) : impl_CommitCost.V0 k a0 a1 n0 = impl_CommitCost.l0 k n0 := by
  induction n0 with
  | zero => rfl
  | succ n0 ih =>
    have h : impl_CommitCost.V0 k a0 a1 (n0 + 1) = impl_CommitCost.b0 k (impl_CommitCost.V0 k a0 a1 n0) := funext fun x0_0 => funext fun x0_1 => funext fun x0_2 => funext fun x0_3 => funext fun x0_4 => funext fun x0_5 => funext fun x0_6 => funext fun x0_7 => impl_CommitCost.s0 k a0 a1 n0 x0_0 x0_1 x0_2 x0_3 x0_4 x0_5 x0_6 x0_7
    rw [h, ih]
    rfl
theorem impl_CommitCost.q (k : Nat) (a0 : Ty.den TStore) (a1 : List (Ty.den TPut)) : run (impl_CommitCost.E k) Try.f32 [.val TStore, .val (.slice TPut)] [TCost] true false (a0, a1, ()) = impl_CommitCost.t k (impl_CommitCost.V0 k a0 a1 k) a0 a1 := by kernel_rfl
theorem impl_CommitCost.eq (k : Nat) (a0 : Ty.den TStore) (a1 : List (Ty.den TPut)) : run (impl_CommitCost.E k) Try.f32 [.val TStore, .val (.slice TPut)] [TCost] true false (a0, a1, ()) = impl_CommitCost.f k a0 a1 := by
  rw [impl_CommitCost.q, impl_CommitCost.e0]
  rfl
theorem impl_CommitCost.ctr (k : Nat) : Ctr Try.prog 32 ⟨[.val TStore, .val (.slice TPut)], [TCost], true, false, fun x => impl_CommitCost.f k x.1 x.2.1⟩ :=
  run_ctr (E := impl_CommitCost.E k) mixed tb_ok (eqOk_of tb_eqs) (Cts.cons (impl_PutsOk.ctr k) (Cts.cons (impl_in.ctr k) (Cts.cons (impl_recordsOf.ctr k) (Cts.cons (impl_ShowRec.ctr k) (Cts.cons (impl_Frame.ctr k) Cts.nil))))) (by kernel_rfl) Try.func32 (by kernel_rfl) rfl (fun ⟨a0, a1, _⟩ r h => (impl_CommitCost.eq k a0 a1).trans h)
def laws_eqCost.E (k : Nat) : Env := ⟨tb, [], [], k, 0, []⟩
theorem laws_eqCost.q (k : Nat) (a0 : Ty.den TCost) (a1 : Ty.den TCost) : run (laws_eqCost.E k) Try.f33 [.val TCost, .val TCost] [.bool] true false (a0, a1, ()) = laws_eqCost.t k a0 a1 := by kernel_rfl
theorem laws_eqCost.eq (k : Nat) (a0 : Ty.den TCost) (a1 : Ty.den TCost) : run (laws_eqCost.E k) Try.f33 [.val TCost, .val TCost] [.bool] true false (a0, a1, ()) = laws_eqCost.f k a0 a1 := by
  rw [laws_eqCost.q]
  rfl
theorem laws_eqCost.ctr (k : Nat) : Ctr Try.prog 33 ⟨[.val TCost, .val TCost], [.bool], true, false, fun x => laws_eqCost.f k x.1 x.2.1⟩ :=
  run_ctr (E := laws_eqCost.E k) mixed tb_ok (eqOk_of tb_eqs) Cts.nil (by kernel_rfl) Try.func33 (by kernel_rfl) rfl (fun ⟨a0, a1, _⟩ r h => (laws_eqCost.eq k a0 a1).trans h)
def laws_eqIntS.E (k : Nat) : Env := ⟨tb, [], [(4, [0, 1, 5])], k, 0, []⟩
noncomputable def laws_eqIntS.K0 (k : Nat) (a0 : List Int) (a1 : List Int) : Ex → St → Option (Bool × Unit) := runK (laws_eqIntS.E k) (endK (laws_eqIntS.E k) Try.f169.results.toList [.val (.slice (.int .i64)), .val (.slice (.int .i64))] (a0, a1, ()) [.bool] true false) [.blk 0, .code (at_ [true, true, true] (body Try.f169))]
noncomputable def laws_eqIntS.B0 (k : Nat) (a0 : List Int) (a1 : List Int) (n0 : Nat) : Ex → St → Option (Bool × Unit) := fun e st => match e with
  | .normal => loopN (exec (laws_eqIntS.E k) (at_ [true, true, false, true, false, false] (body Try.f169))) (canon 0 [0, 1, 5]) (laws_eqIntS.K0 k a0 a1) n0 (canon 0 [0, 1, 5] st)
  | .ret => laws_eqIntS.K0 k a0 a1 .ret st
  | .exit j => laws_eqIntS.K0 k a0 a1 (.exit j) st
noncomputable def laws_eqIntS.V0 (k : Nat) (a0 : List Int) (a1 : List Int) (n0 : Nat) (x0_0 : List Int) (x0_1 : List Int) (x0_2 : Int) : Option (Bool × Unit) := loopN (exec (laws_eqIntS.E k) (at_ [true, true, false, true, false, false] (body Try.f169))) (canon 0 [0, 1, 5]) (laws_eqIntS.K0 k a0 a1) n0 (mk 26 0 [(0, .sl true (.int .i64) x0_0), (1, .sl true (.int .i64) x0_1), (5, .int .i64 x0_2)] [])
theorem laws_eqIntS.s0 (k : Nat) (a0 : List Int) (a1 : List Int) (n0 : Nat) (x0_0 : List Int) (x0_1 : List Int) (x0_2 : Int) : laws_eqIntS.V0 k a0 a1 (n0 + 1) x0_0 x0_1 x0_2 = laws_eqIntS.b0 k (laws_eqIntS.V0 k a0 a1 n0) x0_0 x0_1 x0_2 := by kernel_rfl
theorem laws_eqIntS.e0 (k : Nat) (a0 : List Int) (a1 : List Int) (n0 : Nat) : laws_eqIntS.V0 k a0 a1 n0 = laws_eqIntS.l0 k n0 := by
  induction n0 with
  | zero => rfl
  | succ n0 ih =>
    have h : laws_eqIntS.V0 k a0 a1 (n0 + 1) = laws_eqIntS.b0 k (laws_eqIntS.V0 k a0 a1 n0) := funext fun x0_0 => funext fun x0_1 => funext fun x0_2 => laws_eqIntS.s0 k a0 a1 n0 x0_0 x0_1 x0_2
    rw [h, ih]
    rfl
theorem laws_eqIntS.q (k : Nat) (a0 : List Int) (a1 : List Int) : run (laws_eqIntS.E k) Try.f169 [.val (.slice (.int .i64)), .val (.slice (.int .i64))] [.bool] true false (a0, a1, ()) = laws_eqIntS.t k (laws_eqIntS.V0 k a0 a1 k) a0 a1 := by kernel_rfl
theorem laws_eqIntS.eq (k : Nat) (a0 : List Int) (a1 : List Int) : run (laws_eqIntS.E k) Try.f169 [.val (.slice (.int .i64)), .val (.slice (.int .i64))] [.bool] true false (a0, a1, ()) = laws_eqIntS.f k a0 a1 := by
  rw [laws_eqIntS.q, laws_eqIntS.e0]
  rfl
theorem laws_eqIntS.ctr (k : Nat) : Ctr Try.prog 169 ⟨[.val (.slice (.int .i64)), .val (.slice (.int .i64))], [.bool], true, false, fun x => laws_eqIntS.f k x.1 x.2.1⟩ :=
  run_ctr (E := laws_eqIntS.E k) mixed tb_ok (eqOk_of tb_eqs) Cts.nil (by kernel_rfl) Try.func169 (by kernel_rfl) rfl (fun ⟨a0, a1, _⟩ r h => (laws_eqIntS.eq k a0 a1).trans h)
def laws_eqLive.E (k : Nat) : Env := ⟨tb, [(169, ⟨[.val (.slice (.int .i64)), .val (.slice (.int .i64))], [.bool], true, false, fun x => laws_eqIntS.f k x.1 x.2.1⟩)], [], k, 0, []⟩
theorem laws_eqLive.q (k : Nat) (a0 : Ty.den TLive) (a1 : Ty.den TLive) : run (laws_eqLive.E k) Try.f98 [.val TLive, .val TLive] [.bool] true false (a0, a1, ()) = laws_eqLive.t k a0 a1 := by kernel_rfl
theorem laws_eqLive.eq (k : Nat) (a0 : Ty.den TLive) (a1 : Ty.den TLive) : run (laws_eqLive.E k) Try.f98 [.val TLive, .val TLive] [.bool] true false (a0, a1, ()) = laws_eqLive.f k a0 a1 := by
  rw [laws_eqLive.q]
  rfl
theorem laws_eqLive.ctr (k : Nat) : Ctr Try.prog 98 ⟨[.val TLive, .val TLive], [.bool], true, false, fun x => laws_eqLive.f k x.1 x.2.1⟩ :=
  run_ctr (E := laws_eqLive.E k) mixed tb_ok (eqOk_of tb_eqs) (Cts.cons (laws_eqIntS.ctr k) Cts.nil) (by kernel_rfl) Try.func98 (by kernel_rfl) rfl (fun ⟨a0, a1, _⟩ r h => (laws_eqLive.eq k a0 a1).trans h)
def laws_eqEntry.E (k : Nat) : Env := ⟨tb, [], [], k, 0, []⟩
theorem laws_eqEntry.q (k : Nat) (a0 : Ty.den TEntry) (a1 : Ty.den TEntry) : run (laws_eqEntry.E k) Try.f170 [.val TEntry, .val TEntry] [.bool] true false (a0, a1, ()) = laws_eqEntry.t k a0 a1 := by kernel_rfl
theorem laws_eqEntry.eq (k : Nat) (a0 : Ty.den TEntry) (a1 : Ty.den TEntry) : run (laws_eqEntry.E k) Try.f170 [.val TEntry, .val TEntry] [.bool] true false (a0, a1, ()) = laws_eqEntry.f k a0 a1 := by
  rw [laws_eqEntry.q]
  rfl
theorem laws_eqEntry.ctr (k : Nat) : Ctr Try.prog 170 ⟨[.val TEntry, .val TEntry], [.bool], true, false, fun x => laws_eqEntry.f k x.1 x.2.1⟩ :=
  run_ctr (E := laws_eqEntry.E k) mixed tb_ok (eqOk_of tb_eqs) Cts.nil (by kernel_rfl) Try.func170 (by kernel_rfl) rfl (fun ⟨a0, a1, _⟩ r h => (laws_eqEntry.eq k a0 a1).trans h)
def laws_eqEntryS.E (k : Nat) : Env := ⟨tb, [(170, ⟨[.val TEntry, .val TEntry], [.bool], true, false, fun x => laws_eqEntry.f k x.1 x.2.1⟩)], [(4, [0, 1, 5])], k, 0, []⟩
noncomputable def laws_eqEntryS.K0 (k : Nat) (a0 : List (Ty.den TEntry)) (a1 : List (Ty.den TEntry)) : Ex → St → Option (Bool × Unit) := runK (laws_eqEntryS.E k) (endK (laws_eqEntryS.E k) Try.f99.results.toList [.val (.slice TEntry), .val (.slice TEntry)] (a0, a1, ()) [.bool] true false) [.blk 0, .code (at_ [true, true, true] (body Try.f99))]
noncomputable def laws_eqEntryS.B0 (k : Nat) (a0 : List (Ty.den TEntry)) (a1 : List (Ty.den TEntry)) (n0 : Nat) : Ex → St → Option (Bool × Unit) := fun e st => match e with
  | .normal => loopN (exec (laws_eqEntryS.E k) (at_ [true, true, false, true, false, false] (body Try.f99))) (canon 0 [0, 1, 5]) (laws_eqEntryS.K0 k a0 a1) n0 (canon 0 [0, 1, 5] st)
  | .ret => laws_eqEntryS.K0 k a0 a1 .ret st
  | .exit j => laws_eqEntryS.K0 k a0 a1 (.exit j) st
noncomputable def laws_eqEntryS.V0 (k : Nat) (a0 : List (Ty.den TEntry)) (a1 : List (Ty.den TEntry)) (n0 : Nat) (x0_0 : List (Ty.den TEntry)) (x0_1 : List (Ty.den TEntry)) (x0_2 : Int) : Option (Bool × Unit) := loopN (exec (laws_eqEntryS.E k) (at_ [true, true, false, true, false, false] (body Try.f99))) (canon 0 [0, 1, 5]) (laws_eqEntryS.K0 k a0 a1) n0 (mk 27 0 [(0, .sl true TEntry x0_0), (1, .sl true TEntry x0_1), (5, .int .i64 x0_2)] [])
theorem laws_eqEntryS.s0 (k : Nat) (a0 : List (Ty.den TEntry)) (a1 : List (Ty.den TEntry)) (n0 : Nat) (x0_0 : List (Ty.den TEntry)) (x0_1 : List (Ty.den TEntry)) (x0_2 : Int) : laws_eqEntryS.V0 k a0 a1 (n0 + 1) x0_0 x0_1 x0_2 = laws_eqEntryS.b0 k (laws_eqEntryS.V0 k a0 a1 n0) x0_0 x0_1 x0_2 := by kernel_rfl
theorem laws_eqEntryS.e0 (k : Nat) (a0 : List (Ty.den TEntry)) (a1 : List (Ty.den TEntry)) (n0 : Nat) : laws_eqEntryS.V0 k a0 a1 n0 = laws_eqEntryS.l0 k n0 := by
  induction n0 with
  | zero => rfl
  | succ n0 ih =>
    have h : laws_eqEntryS.V0 k a0 a1 (n0 + 1) = laws_eqEntryS.b0 k (laws_eqEntryS.V0 k a0 a1 n0) := funext fun x0_0 => funext fun x0_1 => funext fun x0_2 => laws_eqEntryS.s0 k a0 a1 n0 x0_0 x0_1 x0_2
    rw [h, ih]
    rfl
theorem laws_eqEntryS.q (k : Nat) (a0 : List (Ty.den TEntry)) (a1 : List (Ty.den TEntry)) : run (laws_eqEntryS.E k) Try.f99 [.val (.slice TEntry), .val (.slice TEntry)] [.bool] true false (a0, a1, ()) = laws_eqEntryS.t k (laws_eqEntryS.V0 k a0 a1 k) a0 a1 := by kernel_rfl
theorem laws_eqEntryS.eq (k : Nat) (a0 : List (Ty.den TEntry)) (a1 : List (Ty.den TEntry)) : run (laws_eqEntryS.E k) Try.f99 [.val (.slice TEntry), .val (.slice TEntry)] [.bool] true false (a0, a1, ()) = laws_eqEntryS.f k a0 a1 := by
  rw [laws_eqEntryS.q, laws_eqEntryS.e0]
  rfl
theorem laws_eqEntryS.ctr (k : Nat) : Ctr Try.prog 99 ⟨[.val (.slice TEntry), .val (.slice TEntry)], [.bool], true, false, fun x => laws_eqEntryS.f k x.1 x.2.1⟩ :=
  run_ctr (E := laws_eqEntryS.E k) mixed tb_ok (eqOk_of tb_eqs) (Cts.cons (laws_eqEntry.ctr k) Cts.nil) (by kernel_rfl) Try.func99 (by kernel_rfl) rfl (fun ⟨a0, a1, _⟩ r h => (laws_eqEntryS.eq k a0 a1).trans h)
def laws_eqStore.E (k : Nat) : Env := ⟨tb, [(98, ⟨[.val TLive, .val TLive], [.bool], true, false, fun x => laws_eqLive.f k x.1 x.2.1⟩), (99, ⟨[.val (.slice TEntry), .val (.slice TEntry)], [.bool], true, false, fun x => laws_eqEntryS.f k x.1 x.2.1⟩)], [], k, 0, []⟩
theorem laws_eqStore.q (k : Nat) (a0 : Ty.den TStore) (a1 : Ty.den TStore) : run (laws_eqStore.E k) Try.f34 [.val TStore, .val TStore] [.bool] true false (a0, a1, ()) = laws_eqStore.t k a0 a1 := by kernel_rfl
theorem laws_eqStore.eq (k : Nat) (a0 : Ty.den TStore) (a1 : Ty.den TStore) : run (laws_eqStore.E k) Try.f34 [.val TStore, .val TStore] [.bool] true false (a0, a1, ()) = laws_eqStore.f k a0 a1 := by
  rw [laws_eqStore.q]
  rfl
theorem laws_eqStore.ctr (k : Nat) : Ctr Try.prog 34 ⟨[.val TStore, .val TStore], [.bool], true, false, fun x => laws_eqStore.f k x.1 x.2.1⟩ :=
  run_ctr (E := laws_eqStore.E k) mixed tb_ok (eqOk_of tb_eqs) (Cts.cons (laws_eqLive.ctr k) (Cts.cons (laws_eqEntryS.ctr k) Cts.nil)) (by kernel_rfl) Try.func34 (by kernel_rfl) rfl (fun ⟨a0, a1, _⟩ r h => (laws_eqStore.eq k a0 a1).trans h)
def laws_eqPut.E (k : Nat) : Env := ⟨tb, [], [], k, 0, []⟩
theorem laws_eqPut.q (k : Nat) (a0 : Ty.den TPut) (a1 : Ty.den TPut) : run (laws_eqPut.E k) Try.f100 [.val TPut, .val TPut] [.bool] true false (a0, a1, ()) = laws_eqPut.t k a0 a1 := by kernel_rfl
theorem laws_eqPut.eq (k : Nat) (a0 : Ty.den TPut) (a1 : Ty.den TPut) : run (laws_eqPut.E k) Try.f100 [.val TPut, .val TPut] [.bool] true false (a0, a1, ()) = laws_eqPut.f k a0 a1 := by
  rw [laws_eqPut.q]
  rfl
theorem laws_eqPut.ctr (k : Nat) : Ctr Try.prog 100 ⟨[.val TPut, .val TPut], [.bool], true, false, fun x => laws_eqPut.f k x.1 x.2.1⟩ :=
  run_ctr (E := laws_eqPut.E k) mixed tb_ok (eqOk_of tb_eqs) Cts.nil (by kernel_rfl) Try.func100 (by kernel_rfl) rfl (fun ⟨a0, a1, _⟩ r h => (laws_eqPut.eq k a0 a1).trans h)
def laws_eqPutS.E (k : Nat) : Env := ⟨tb, [(100, ⟨[.val TPut, .val TPut], [.bool], true, false, fun x => laws_eqPut.f k x.1 x.2.1⟩)], [(4, [0, 1, 5])], k, 0, []⟩
noncomputable def laws_eqPutS.K0 (k : Nat) (a0 : List (Ty.den TPut)) (a1 : List (Ty.den TPut)) : Ex → St → Option (Bool × Unit) := runK (laws_eqPutS.E k) (endK (laws_eqPutS.E k) Try.f35.results.toList [.val (.slice TPut), .val (.slice TPut)] (a0, a1, ()) [.bool] true false) [.blk 0, .code (at_ [true, true, true] (body Try.f35))]
noncomputable def laws_eqPutS.B0 (k : Nat) (a0 : List (Ty.den TPut)) (a1 : List (Ty.den TPut)) (n0 : Nat) : Ex → St → Option (Bool × Unit) := fun e st => match e with
  | .normal => loopN (exec (laws_eqPutS.E k) (at_ [true, true, false, true, false, false] (body Try.f35))) (canon 0 [0, 1, 5]) (laws_eqPutS.K0 k a0 a1) n0 (canon 0 [0, 1, 5] st)
  | .ret => laws_eqPutS.K0 k a0 a1 .ret st
  | .exit j => laws_eqPutS.K0 k a0 a1 (.exit j) st
noncomputable def laws_eqPutS.V0 (k : Nat) (a0 : List (Ty.den TPut)) (a1 : List (Ty.den TPut)) (n0 : Nat) (x0_0 : List (Ty.den TPut)) (x0_1 : List (Ty.den TPut)) (x0_2 : Int) : Option (Bool × Unit) := loopN (exec (laws_eqPutS.E k) (at_ [true, true, false, true, false, false] (body Try.f35))) (canon 0 [0, 1, 5]) (laws_eqPutS.K0 k a0 a1) n0 (mk 27 0 [(0, .sl true TPut x0_0), (1, .sl true TPut x0_1), (5, .int .i64 x0_2)] [])
theorem laws_eqPutS.s0 (k : Nat) (a0 : List (Ty.den TPut)) (a1 : List (Ty.den TPut)) (n0 : Nat) (x0_0 : List (Ty.den TPut)) (x0_1 : List (Ty.den TPut)) (x0_2 : Int) : laws_eqPutS.V0 k a0 a1 (n0 + 1) x0_0 x0_1 x0_2 = laws_eqPutS.b0 k (laws_eqPutS.V0 k a0 a1 n0) x0_0 x0_1 x0_2 := by kernel_rfl
theorem laws_eqPutS.e0 (k : Nat) (a0 : List (Ty.den TPut)) (a1 : List (Ty.den TPut)) (n0 : Nat) : laws_eqPutS.V0 k a0 a1 n0 = laws_eqPutS.l0 k n0 := by
  induction n0 with
  | zero => rfl
  | succ n0 ih =>
    have h : laws_eqPutS.V0 k a0 a1 (n0 + 1) = laws_eqPutS.b0 k (laws_eqPutS.V0 k a0 a1 n0) := funext fun x0_0 => funext fun x0_1 => funext fun x0_2 => laws_eqPutS.s0 k a0 a1 n0 x0_0 x0_1 x0_2
    rw [h, ih]
    rfl
theorem laws_eqPutS.q (k : Nat) (a0 : List (Ty.den TPut)) (a1 : List (Ty.den TPut)) : run (laws_eqPutS.E k) Try.f35 [.val (.slice TPut), .val (.slice TPut)] [.bool] true false (a0, a1, ()) = laws_eqPutS.t k (laws_eqPutS.V0 k a0 a1 k) a0 a1 := by kernel_rfl
theorem laws_eqPutS.eq (k : Nat) (a0 : List (Ty.den TPut)) (a1 : List (Ty.den TPut)) : run (laws_eqPutS.E k) Try.f35 [.val (.slice TPut), .val (.slice TPut)] [.bool] true false (a0, a1, ()) = laws_eqPutS.f k a0 a1 := by
  rw [laws_eqPutS.q, laws_eqPutS.e0]
  rfl
theorem laws_eqPutS.ctr (k : Nat) : Ctr Try.prog 35 ⟨[.val (.slice TPut), .val (.slice TPut)], [.bool], true, false, fun x => laws_eqPutS.f k x.1 x.2.1⟩ :=
  run_ctr (E := laws_eqPutS.E k) mixed tb_ok (eqOk_of tb_eqs) (Cts.cons (laws_eqPut.ctr k) Cts.nil) (by kernel_rfl) Try.func35 (by kernel_rfl) rfl (fun ⟨a0, a1, _⟩ r h => (laws_eqPutS.eq k a0 a1).trans h)
def laws_FnExactCommitCost.E (k : Nat) : Env := ⟨tb, [(27, ⟨[.val TStore, .val (.int .i64)], [(.int .i64)], true, false, fun x => laws_szStore.f k x.1 x.2.1⟩), (28, ⟨[.val (.slice TPut), .val (.int .i64)], [(.int .i64)], true, false, fun x => laws_szPutS.f k x.1 x.2.1⟩), (30, ⟨[.val TStore], [TStore], true, false, fun x => laws_toStore.f k x.1⟩), (31, ⟨[.val (.slice TPut)], [(.slice TPut)], true, false, fun x => laws_toPutS.f k x.1⟩), (29, ⟨[.val TStore, .val (.slice TPut)], [TCost], true, false, fun x => spec_CommitCost.f k x.1 x.2.1⟩), (32, ⟨[.val TStore, .val (.slice TPut)], [TCost], true, false, fun x => impl_CommitCost.f k x.1 x.2.1⟩), (33, ⟨[.val TCost, .val TCost], [.bool], true, false, fun x => laws_eqCost.f k x.1 x.2.1⟩), (34, ⟨[.val TStore, .val TStore], [.bool], true, false, fun x => laws_eqStore.f k x.1 x.2.1⟩), (35, ⟨[.val (.slice TPut), .val (.slice TPut)], [.bool], true, false, fun x => laws_eqPutS.f k x.1 x.2.1⟩)], [], k, 0, []⟩
theorem laws_FnExactCommitCost.q (k : Nat) (a0 : Ty.den TStore) (a1 : List (Ty.den TPut)) : run (laws_FnExactCommitCost.E k) Try.f6 [.val TStore, .val (.slice TPut)] [.bool] true false (a0, a1, ()) = laws_FnExactCommitCost.t k a0 a1 := by kernel_rfl
theorem laws_FnExactCommitCost.eq (k : Nat) (a0 : Ty.den TStore) (a1 : List (Ty.den TPut)) : run (laws_FnExactCommitCost.E k) Try.f6 [.val TStore, .val (.slice TPut)] [.bool] true false (a0, a1, ()) = laws_FnExactCommitCost.f k a0 a1 := by
  rw [laws_FnExactCommitCost.q]
  rfl
theorem laws_FnExactCommitCost.ctr (k : Nat) : Ctr Try.prog 6 ⟨[.val TStore, .val (.slice TPut)], [.bool], true, false, fun x => laws_FnExactCommitCost.f k x.1 x.2.1⟩ :=
  run_ctr (E := laws_FnExactCommitCost.E k) mixed tb_ok (eqOk_of tb_eqs) (Cts.cons (laws_szStore.ctr k) (Cts.cons (laws_szPutS.ctr k) (Cts.cons (laws_toStore.ctr k) (Cts.cons (laws_toPutS.ctr k) (Cts.cons (spec_CommitCost.ctr k) (Cts.cons (impl_CommitCost.ctr k) (Cts.cons (laws_eqCost.ctr k) (Cts.cons (laws_eqStore.ctr k) (Cts.cons (laws_eqPutS.ctr k) Cts.nil))))))))) (by kernel_rfl) Try.func6 (by kernel_rfl) rfl (fun ⟨a0, a1, _⟩ r h => (laws_FnExactCommitCost.eq k a0 a1).trans h)
def spec_ReadVar.E (k : Nat) : Env := ⟨tb, [(155, ⟨[.val (.int .i64)], [.str], true, false, fun x => spec_Var.f k x.1⟩)], [(2, [0, 4]), (6, [0, 4, 5, 6])], k, 0, []⟩
noncomputable def spec_ReadVar.K0 (k : Nat) (a0 : ByteArray) : Ex → St → Option (Int × Int × Unit) := runK (spec_ReadVar.E k) (endK (spec_ReadVar.E k) Try.f193.results.toList [.val .str] (a0, ()) [(.int .i64), (.int .i64)] true false) [.blk 0, .code (at_ [true, true] (body Try.f193))]
noncomputable def spec_ReadVar.B0 (k : Nat) (a0 : ByteArray) (n0 : Nat) : Ex → St → Option (Int × Int × Unit) := fun e st => match e with
  | .normal => loopN (exec (spec_ReadVar.E k) (at_ [true, false, true, false, false] (body Try.f193))) (canon 0 [0, 4]) (spec_ReadVar.K0 k a0) n0 (canon 0 [0, 4] st)
  | .ret => spec_ReadVar.K0 k a0 .ret st
  | .exit j => spec_ReadVar.K0 k a0 (.exit j) st
noncomputable def spec_ReadVar.K1 (k : Nat) (a0 : ByteArray) (n0 : Nat) : Ex → St → Option (Int × Int × Unit) := runK (spec_ReadVar.E k) (spec_ReadVar.B0 k a0 n0) [.blk 2, .code (at_ [true, false, true, false, false, true, false, false, true, true] (body Try.f193)), .blk 1, .code (at_ [true, false, true, false, false, true, true] (body Try.f193))]
noncomputable def spec_ReadVar.B1 (k : Nat) (a0 : ByteArray) (n0 n1 : Nat) : Ex → St → Option (Int × Int × Unit) := fun e st => match e with
  | .normal => loopN (exec (spec_ReadVar.E k) (at_ [true, false, true, false, false, true, false, false, true, false, true, false, false] (body Try.f193))) (canon 0 [0, 4, 5, 6]) (spec_ReadVar.K1 k a0 n0) n1 (canon 0 [0, 4, 5, 6] st)
  | .ret => spec_ReadVar.K1 k a0 n0 .ret st
  | .exit j => spec_ReadVar.K1 k a0 n0 (.exit j) st
noncomputable def spec_ReadVar.V0 (k : Nat) (a0 : ByteArray) (n0 : Nat) (x0_0 : ByteArray) (x0_1 : Int) : Option (Int × Int × Unit) := loopN (exec (spec_ReadVar.E k) (at_ [true, false, true, false, false] (body Try.f193))) (canon 0 [0, 4]) (spec_ReadVar.K0 k a0) n0 (mk 39 0 [(0, .str x0_0), (4, .int .i64 x0_1)] [])
noncomputable def spec_ReadVar.V1 (k : Nat) (a0 : ByteArray) (n0 n1 : Nat) (x1_0 : ByteArray) (x1_1 : Int) (x1_2 : Int) (x1_3 : Int) : Option (Int × Int × Unit) := loopN (exec (spec_ReadVar.E k) (at_ [true, false, true, false, false, true, false, false, true, false, true, false, false] (body Try.f193))) (canon 0 [0, 4, 5, 6]) (spec_ReadVar.K1 k a0 n0) n1 (mk 39 0 [(0, .str x1_0), (4, .int .i64 x1_1), (5, .int .i64 x1_2), (6, .int .i64 x1_3)] [])
theorem spec_ReadVar.s0 (k : Nat) (a0 : ByteArray) (n0 : Nat) (x0_0 : ByteArray) (x0_1 : Int) : spec_ReadVar.V0 k a0 (n0 + 1) x0_0 x0_1 = spec_ReadVar.b0 k (spec_ReadVar.V1 k a0 n0 k) (spec_ReadVar.V0 k a0 n0) x0_0 x0_1 := by kernel_rfl
theorem spec_ReadVar.s1 (k : Nat) (a0 : ByteArray) (n0 n1 : Nat) (x1_0 : ByteArray) (x1_1 : Int) (x1_2 : Int) (x1_3 : Int) : spec_ReadVar.V1 k a0 n0 (n1 + 1) x1_0 x1_1 x1_2 x1_3 = spec_ReadVar.b1 k (spec_ReadVar.V0 k a0 n0) (spec_ReadVar.V1 k a0 n0 n1) x1_0 x1_1 x1_2 x1_3 := by kernel_rfl
theorem spec_ReadVar.e1 (k : Nat) (a0 : ByteArray) (n0 n1 : Nat) : spec_ReadVar.V1 k a0 n0 n1 = spec_ReadVar.l1 k (spec_ReadVar.V0 k a0 n0) n1 := by
  induction n1 with
  | zero => rfl
  | succ n1 ih =>
    have h : spec_ReadVar.V1 k a0 n0 (n1 + 1) = spec_ReadVar.b1 k (spec_ReadVar.V0 k a0 n0) (spec_ReadVar.V1 k a0 n0 n1) := funext fun x1_0 => funext fun x1_1 => funext fun x1_2 => funext fun x1_3 => spec_ReadVar.s1 k a0 n0 n1 x1_0 x1_1 x1_2 x1_3
    rw [h, ih]
    rfl
theorem spec_ReadVar.e0 (k : Nat) (a0 : ByteArray) (n0 : Nat) : spec_ReadVar.V0 k a0 n0 = spec_ReadVar.l0 k n0 := by
  induction n0 with
  | zero => rfl
  | succ n0 ih =>
    have h : spec_ReadVar.V0 k a0 (n0 + 1) = spec_ReadVar.b0 k (spec_ReadVar.V1 k a0 n0 k) (spec_ReadVar.V0 k a0 n0) := funext fun x0_0 => funext fun x0_1 => spec_ReadVar.s0 k a0 n0 x0_0 x0_1
    rw [h, spec_ReadVar.e1, ih]
    rfl
theorem spec_ReadVar.q (k : Nat) (a0 : ByteArray) : run (spec_ReadVar.E k) Try.f193 [.val .str] [(.int .i64), (.int .i64)] true false (a0, ()) = spec_ReadVar.t k (spec_ReadVar.V0 k a0 k) a0 := by kernel_rfl
theorem spec_ReadVar.eq (k : Nat) (a0 : ByteArray) : run (spec_ReadVar.E k) Try.f193 [.val .str] [(.int .i64), (.int .i64)] true false (a0, ()) = spec_ReadVar.f k a0 := by
  rw [spec_ReadVar.q, spec_ReadVar.e0]
  rfl
theorem spec_ReadVar.ctr (k : Nat) : Ctr Try.prog 193 ⟨[.val .str], [(.int .i64), (.int .i64)], true, false, fun x => spec_ReadVar.f k x.1⟩ :=
  run_ctr (E := spec_ReadVar.E k) mixed tb_ok (eqOk_of tb_eqs) (Cts.cons (spec_Var.ctr k) Cts.nil) (by kernel_rfl) Try.func193 (by kernel_rfl) rfl (fun ⟨a0, _⟩ r h => (spec_ReadVar.eq k a0).trans h)
def spec_Unframe.E (k : Nat) : Env := ⟨tb, [(193, ⟨[.val .str], [(.int .i64), (.int .i64)], true, false, fun x => spec_ReadVar.f k x.1⟩), (88, ⟨[.val .str], [.str], true, false, fun x => spec_Frame.f k x.1⟩)], [], k, 0, []⟩
theorem spec_Unframe.q (k : Nat) (a0 : ByteArray) : run (spec_Unframe.E k) Try.f171 [.val .str] [.str, (.int .i64)] true false (a0, ()) = spec_Unframe.t k a0 := by kernel_rfl
theorem spec_Unframe.eq (k : Nat) (a0 : ByteArray) : run (spec_Unframe.E k) Try.f171 [.val .str] [.str, (.int .i64)] true false (a0, ()) = spec_Unframe.f k a0 := by
  rw [spec_Unframe.q]
  rfl
theorem spec_Unframe.ctr (k : Nat) : Ctr Try.prog 171 ⟨[.val .str], [.str, (.int .i64)], true, false, fun x => spec_Unframe.f k x.1⟩ :=
  run_ctr (E := spec_Unframe.E k) mixed tb_ok (eqOk_of tb_eqs) (Cts.cons (spec_ReadVar.ctr k) (Cts.cons (spec_Frame.ctr k) Cts.nil)) (by kernel_rfl) Try.func171 (by kernel_rfl) rfl (fun ⟨a0, _⟩ r h => (spec_Unframe.eq k a0).trans h)
def spec_l5Text.E (k : Nat) : Env := ⟨tb, [(193, ⟨[.val .str], [(.int .i64), (.int .i64)], true, false, fun x => spec_ReadVar.f k x.1⟩)], [], k, 0, []⟩
theorem spec_l5Text.q (k : Nat) (a0 : ByteArray) : run (spec_l5Text.E k) Try.f194 [.val .str] [.str, .str, .bool] true false (a0, ()) = spec_l5Text.t k a0 := by kernel_rfl
theorem spec_l5Text.eq (k : Nat) (a0 : ByteArray) : run (spec_l5Text.E k) Try.f194 [.val .str] [.str, .str, .bool] true false (a0, ()) = spec_l5Text.f k a0 := by
  rw [spec_l5Text.q]
  rfl
theorem spec_l5Text.ctr (k : Nat) : Ctr Try.prog 194 ⟨[.val .str], [.str, .str, .bool], true, false, fun x => spec_l5Text.f k x.1⟩ :=
  run_ctr (E := spec_l5Text.E k) mixed tb_ok (eqOk_of tb_eqs) (Cts.cons (spec_ReadVar.ctr k) Cts.nil) (by kernel_rfl) Try.func194 (by kernel_rfl) rfl (fun ⟨a0, _⟩ r h => (spec_l5Text.eq k a0).trans h)
def spec_ReadFixed.E (k : Nat) : Env := ⟨tb, [(86, ⟨[.val (.int .i64), .val (.int .i64), .val (.int .i64)], [.bool], true, false, fun x => spec_l1In.f k x.1 x.2.1 x.2.2.1⟩)], [(5, [0, 1, 6, 7])], k, 0, []⟩
noncomputable def spec_ReadFixed.K0 (k : Nat) (a0 : ByteArray) (a1 : Int) : Ex → St → Option (Int × Bool × Unit) := runK (spec_ReadFixed.E k) (endK (spec_ReadFixed.E k) Try.f195.results.toList [.val .str, .val (.int .i64)] (a0, a1, ()) [(.int .i64), .bool] true false) [.blk 0, .code (at_ [true, true, true, true] (body Try.f195))]
noncomputable def spec_ReadFixed.B0 (k : Nat) (a0 : ByteArray) (a1 : Int) (n0 : Nat) : Ex → St → Option (Int × Bool × Unit) := fun e st => match e with
  | .normal => loopN (exec (spec_ReadFixed.E k) (at_ [true, true, true, false, true, false, false] (body Try.f195))) (canon 0 [0, 1, 6, 7]) (spec_ReadFixed.K0 k a0 a1) n0 (canon 0 [0, 1, 6, 7] st)
  | .ret => spec_ReadFixed.K0 k a0 a1 .ret st
  | .exit j => spec_ReadFixed.K0 k a0 a1 (.exit j) st
noncomputable def spec_ReadFixed.V0 (k : Nat) (a0 : ByteArray) (a1 : Int) (n0 : Nat) (x0_0 : ByteArray) (x0_1 : Int) (x0_2 : Int) (x0_3 : Int) : Option (Int × Bool × Unit) := loopN (exec (spec_ReadFixed.E k) (at_ [true, true, true, false, true, false, false] (body Try.f195))) (canon 0 [0, 1, 6, 7]) (spec_ReadFixed.K0 k a0 a1) n0 (mk 30 0 [(0, .str x0_0), (1, .int .i64 x0_1), (6, .int .i64 x0_2), (7, .int .i64 x0_3)] [])
theorem spec_ReadFixed.s0 (k : Nat) (a0 : ByteArray) (a1 : Int) (n0 : Nat) (x0_0 : ByteArray) (x0_1 : Int) (x0_2 : Int) (x0_3 : Int) : spec_ReadFixed.V0 k a0 a1 (n0 + 1) x0_0 x0_1 x0_2 x0_3 = spec_ReadFixed.b0 k (spec_ReadFixed.V0 k a0 a1 n0) x0_0 x0_1 x0_2 x0_3 := by kernel_rfl
theorem spec_ReadFixed.e0 (k : Nat) (a0 : ByteArray) (a1 : Int) (n0 : Nat) : spec_ReadFixed.V0 k a0 a1 n0 = spec_ReadFixed.l0 k n0 := by
  induction n0 with
  | zero => rfl
  | succ n0 ih =>
    have h : spec_ReadFixed.V0 k a0 a1 (n0 + 1) = spec_ReadFixed.b0 k (spec_ReadFixed.V0 k a0 a1 n0) := funext fun x0_0 => funext fun x0_1 => funext fun x0_2 => funext fun x0_3 => spec_ReadFixed.s0 k a0 a1 n0 x0_0 x0_1 x0_2 x0_3
    rw [h, ih]
    rfl
theorem spec_ReadFixed.q (k : Nat) (a0 : ByteArray) (a1 : Int) : run (spec_ReadFixed.E k) Try.f195 [.val .str, .val (.int .i64)] [(.int .i64), .bool] true false (a0, a1, ()) = spec_ReadFixed.t k (spec_ReadFixed.V0 k a0 a1 k) a0 a1 := by kernel_rfl
theorem spec_ReadFixed.eq (k : Nat) (a0 : ByteArray) (a1 : Int) : run (spec_ReadFixed.E k) Try.f195 [.val .str, .val (.int .i64)] [(.int .i64), .bool] true false (a0, a1, ()) = spec_ReadFixed.f k a0 a1 := by
  rw [spec_ReadFixed.q, spec_ReadFixed.e0]
  rfl
theorem spec_ReadFixed.ctr (k : Nat) : Ctr Try.prog 195 ⟨[.val .str, .val (.int .i64)], [(.int .i64), .bool], true, false, fun x => spec_ReadFixed.f k x.1 x.2.1⟩ :=
  run_ctr (E := spec_ReadFixed.E k) mixed tb_ok (eqOk_of tb_eqs) (Cts.cons (spec_l1In.ctr k) Cts.nil) (by kernel_rfl) Try.func195 (by kernel_rfl) rfl (fun ⟨a0, a1, _⟩ r h => (spec_ReadFixed.eq k a0 a1).trans h)
def spec_ReadRec.E (k : Nat) : Env := ⟨tb, [(193, ⟨[.val .str], [(.int .i64), (.int .i64)], true, false, fun x => spec_ReadVar.f k x.1⟩), (194, ⟨[.val .str], [.str, .str, .bool], true, false, fun x => spec_l5Text.f k x.1⟩), (89, ⟨[.val TRec], [.str], true, false, fun x => spec_ShowRec.f k x.1⟩), (195, ⟨[.val .str, .val (.int .i64)], [(.int .i64), .bool], true, false, fun x => spec_ReadFixed.f k x.1 x.2.1⟩)], [], k, 0, []⟩
theorem spec_ReadRec.q (k : Nat) (a0 : ByteArray) : run (spec_ReadRec.E k) Try.f172 [.val .str] [TRec, .bool] true false (a0, ()) = spec_ReadRec.t k a0 := by kernel_rfl
theorem spec_ReadRec.eq (k : Nat) (a0 : ByteArray) : run (spec_ReadRec.E k) Try.f172 [.val .str] [TRec, .bool] true false (a0, ()) = spec_ReadRec.f k a0 := by
  rw [spec_ReadRec.q]
  rfl
theorem spec_ReadRec.ctr (k : Nat) : Ctr Try.prog 172 ⟨[.val .str], [TRec, .bool], true, false, fun x => spec_ReadRec.f k x.1⟩ :=
  run_ctr (E := spec_ReadRec.E k) mixed tb_ok (eqOk_of tb_eqs) (Cts.cons (spec_ReadVar.ctr k) (Cts.cons (spec_l5Text.ctr k) (Cts.cons (spec_ShowRec.ctr k) (Cts.cons (spec_ReadFixed.ctr k) Cts.nil)))) (by kernel_rfl) Try.func172 (by kernel_rfl) rfl (fun ⟨a0, _⟩ r h => (spec_ReadRec.eq k a0).trans h)
def spec_ScanRecs.E (k : Nat) : Env := ⟨tb, [(171, ⟨[.val .str], [.str, (.int .i64)], true, false, fun x => spec_Unframe.f k x.1⟩), (172, ⟨[.val .str], [TRec, .bool], true, false, fun x => spec_ReadRec.f k x.1⟩)], [(3, [0, 4, 5])], k, 0, []⟩
noncomputable def spec_ScanRecs.K0 (k : Nat) (a0 : ByteArray) : Ex → St → Option ((List (Ty.den TSpot)) × Int × Unit) := runK (spec_ScanRecs.E k) (endK (spec_ScanRecs.E k) Try.f101.results.toList [.val .str] (a0, ()) [(.slice TSpot), (.int .i64)] true false) [.blk 0, .code (at_ [true, true, true, true] (body Try.f101))]
noncomputable def spec_ScanRecs.B0 (k : Nat) (a0 : ByteArray) (n0 : Nat) : Ex → St → Option ((List (Ty.den TSpot)) × Int × Unit) := fun e st => match e with
  | .normal => loopN (exec (spec_ScanRecs.E k) (at_ [true, true, true, false, false, false] (body Try.f101))) (canon 0 [0, 4, 5]) (spec_ScanRecs.K0 k a0) n0 (canon 0 [0, 4, 5] st)
  | .ret => spec_ScanRecs.K0 k a0 .ret st
  | .exit j => spec_ScanRecs.K0 k a0 (.exit j) st
noncomputable def spec_ScanRecs.V0 (k : Nat) (a0 : ByteArray) (n0 : Nat) (x0_0 : ByteArray) (x0_1 : Int) (x0_2 : List (Ty.den TSpot)) : Option ((List (Ty.den TSpot)) × Int × Unit) := loopN (exec (spec_ScanRecs.E k) (at_ [true, true, true, false, false, false] (body Try.f101))) (canon 0 [0, 4, 5]) (spec_ScanRecs.K0 k a0) n0 (mk 47 1 [(0, .str x0_0), (4, .ref 0), (5, .int .i64 x0_1)] [(0, .own false TSpot x0_2)])
theorem spec_ScanRecs.s0 (k : Nat) (a0 : ByteArray) (n0 : Nat) (x0_0 : ByteArray) (x0_1 : Int) (x0_2 : List (Ty.den TSpot)) : spec_ScanRecs.V0 k a0 (n0 + 1) x0_0 x0_1 x0_2 = spec_ScanRecs.b0 k (spec_ScanRecs.V0 k a0 n0) x0_0 x0_1 x0_2 := by kernel_rfl
theorem spec_ScanRecs.e0 (k : Nat) (a0 : ByteArray) (n0 : Nat) : spec_ScanRecs.V0 k a0 n0 = spec_ScanRecs.l0 k n0 := by
  induction n0 with
  | zero => rfl
  | succ n0 ih =>
    have h : spec_ScanRecs.V0 k a0 (n0 + 1) = spec_ScanRecs.b0 k (spec_ScanRecs.V0 k a0 n0) := funext fun x0_0 => funext fun x0_1 => funext fun x0_2 => spec_ScanRecs.s0 k a0 n0 x0_0 x0_1 x0_2
    rw [h, ih]
    rfl
theorem spec_ScanRecs.q (k : Nat) (a0 : ByteArray) : run (spec_ScanRecs.E k) Try.f101 [.val .str] [(.slice TSpot), (.int .i64)] true false (a0, ()) = spec_ScanRecs.t k (spec_ScanRecs.V0 k a0 k) a0 := by kernel_rfl
theorem spec_ScanRecs.eq (k : Nat) (a0 : ByteArray) : run (spec_ScanRecs.E k) Try.f101 [.val .str] [(.slice TSpot), (.int .i64)] true false (a0, ()) = spec_ScanRecs.f k a0 := by
  rw [spec_ScanRecs.q, spec_ScanRecs.e0]
  rfl
theorem spec_ScanRecs.ctr (k : Nat) : Ctr Try.prog 101 ⟨[.val .str], [(.slice TSpot), (.int .i64)], true, false, fun x => spec_ScanRecs.f k x.1⟩ :=
  run_ctr (E := spec_ScanRecs.E k) mixed tb_ok (eqOk_of tb_eqs) (Cts.cons (spec_Unframe.ctr k) (Cts.cons (spec_ReadRec.ctr k) Cts.nil)) (by kernel_rfl) Try.func101 (by kernel_rfl) rfl (fun ⟨a0, _⟩ r h => (spec_ScanRecs.eq k a0).trans h)
def spec_PairsOk.E (k : Nat) : Env := ⟨tb, [(153, ⟨[.val .str], [.bool], true, false, fun x => spec_KeyOk.f k x.1⟩), (86, ⟨[.val (.int .i64), .val (.int .i64), .val (.int .i64)], [.bool], true, false, fun x => spec_l1In.f k x.1 x.2.1 x.2.2.1⟩)], [(4, [0, 3])], k, 0, []⟩
noncomputable def spec_PairsOk.K0 (k : Nat) (a0 : List (Ty.den TPair)) : Ex → St → Option (Bool × Unit) := runK (spec_PairsOk.E k) (endK (spec_PairsOk.E k) Try.f173.results.toList [.val (.slice TPair)] (a0, ()) [.bool] true false) [.blk 0, .code (at_ [true, true, true] (body Try.f173))]
noncomputable def spec_PairsOk.B0 (k : Nat) (a0 : List (Ty.den TPair)) (n0 : Nat) : Ex → St → Option (Bool × Unit) := fun e st => match e with
  | .normal => loopN (exec (spec_PairsOk.E k) (at_ [true, true, false, true, false, false] (body Try.f173))) (canon 0 [0, 3]) (spec_PairsOk.K0 k a0) n0 (canon 0 [0, 3] st)
  | .ret => spec_PairsOk.K0 k a0 .ret st
  | .exit j => spec_PairsOk.K0 k a0 (.exit j) st
noncomputable def spec_PairsOk.V0 (k : Nat) (a0 : List (Ty.den TPair)) (n0 : Nat) (x0_0 : List (Ty.den TPair)) (x0_1 : Int) : Option (Bool × Unit) := loopN (exec (spec_PairsOk.E k) (at_ [true, true, false, true, false, false] (body Try.f173))) (canon 0 [0, 3]) (spec_PairsOk.K0 k a0) n0 (mk 56 0 [(0, .sl true TPair x0_0), (3, .int .i64 x0_1)] [])
theorem spec_PairsOk.s0 (k : Nat) (a0 : List (Ty.den TPair)) (n0 : Nat) (x0_0 : List (Ty.den TPair)) (x0_1 : Int) : spec_PairsOk.V0 k a0 (n0 + 1) x0_0 x0_1 = spec_PairsOk.b0 k (spec_PairsOk.V0 k a0 n0) x0_0 x0_1 := by kernel_rfl
theorem spec_PairsOk.e0 (k : Nat) (a0 : List (Ty.den TPair)) (n0 : Nat) : spec_PairsOk.V0 k a0 n0 = spec_PairsOk.l0 k n0 := by
  induction n0 with
  | zero => rfl
  | succ n0 ih =>
    have h : spec_PairsOk.V0 k a0 (n0 + 1) = spec_PairsOk.b0 k (spec_PairsOk.V0 k a0 n0) := funext fun x0_0 => funext fun x0_1 => spec_PairsOk.s0 k a0 n0 x0_0 x0_1
    rw [h, ih]
    rfl
theorem spec_PairsOk.q (k : Nat) (a0 : List (Ty.den TPair)) : run (spec_PairsOk.E k) Try.f173 [.val (.slice TPair)] [.bool] true false (a0, ()) = spec_PairsOk.t k (spec_PairsOk.V0 k a0 k) a0 := by kernel_rfl
theorem spec_PairsOk.eq (k : Nat) (a0 : List (Ty.den TPair)) : run (spec_PairsOk.E k) Try.f173 [.val (.slice TPair)] [.bool] true false (a0, ()) = spec_PairsOk.f k a0 := by
  rw [spec_PairsOk.q, spec_PairsOk.e0]
  rfl
theorem spec_PairsOk.ctr (k : Nat) : Ctr Try.prog 173 ⟨[.val (.slice TPair)], [.bool], true, false, fun x => spec_PairsOk.f k x.1⟩ :=
  run_ctr (E := spec_PairsOk.E k) mixed tb_ok (eqOk_of tb_eqs) (Cts.cons (spec_KeyOk.ctr k) (Cts.cons (spec_l1In.ctr k) Cts.nil)) (by kernel_rfl) Try.func173 (by kernel_rfl) rfl (fun ⟨a0, _⟩ r h => (spec_PairsOk.eq k a0).trans h)
def spec_l14Keep.E (k : Nat) : Env := ⟨tb, [], [], k, 0, []⟩
theorem spec_l14Keep.q (k : Nat) (a0 : Ty.den TPair) : run (spec_l14Keep.E k) Try.f174 [.val TPair] [TRec] true false (a0, ()) = spec_l14Keep.t k a0 := by kernel_rfl
theorem spec_l14Keep.eq (k : Nat) (a0 : Ty.den TPair) : run (spec_l14Keep.E k) Try.f174 [.val TPair] [TRec] true false (a0, ()) = spec_l14Keep.f k a0 := by
  rw [spec_l14Keep.q]
  rfl
theorem spec_l14Keep.ctr (k : Nat) : Ctr Try.prog 174 ⟨[.val TPair], [TRec], true, false, fun x => spec_l14Keep.f k x.1⟩ :=
  run_ctr (E := spec_l14Keep.E k) mixed tb_ok (eqOk_of tb_eqs) Cts.nil (by kernel_rfl) Try.func174 (by kernel_rfl) rfl (fun ⟨a0, _⟩ r h => (spec_l14Keep.eq k a0).trans h)
def spec_ShowPairs.E (k : Nat) : Env := ⟨tb, [(173, ⟨[.val (.slice TPair)], [.bool], true, false, fun x => spec_PairsOk.f k x.1⟩), (174, ⟨[.val TPair], [TRec], true, false, fun x => spec_l14Keep.f k x.1⟩), (89, ⟨[.val TRec], [.str], true, false, fun x => spec_ShowRec.f k x.1⟩), (88, ⟨[.val .str], [.str], true, false, fun x => spec_Frame.f k x.1⟩), (87, ⟨[.val (.slice TRec), .val (.int .i64), .val (.int .i64)], [TRec], true, false, fun x => spec_l9Seal.f k x.1 x.2.1 x.2.2.1⟩)], [(6, [0, 3, 4, 5])], k, 0, []⟩
noncomputable def spec_ShowPairs.K0 (k : Nat) (a0 : List (Ty.den TPair)) : Ex → St → Option (ByteArray × Unit) := runK (spec_ShowPairs.E k) (endK (spec_ShowPairs.E k) Try.f102.results.toList [.val (.slice TPair)] (a0, ()) [.str] true false) [.blk 0, .code (at_ [true, true, true, true, true] (body Try.f102))]
noncomputable def spec_ShowPairs.B0 (k : Nat) (a0 : List (Ty.den TPair)) (n0 : Nat) : Ex → St → Option (ByteArray × Unit) := fun e st => match e with
  | .normal => loopN (exec (spec_ShowPairs.E k) (at_ [true, true, true, true, false, true, false, false] (body Try.f102))) (canon 0 [0, 3, 4, 5]) (spec_ShowPairs.K0 k a0) n0 (canon 0 [0, 3, 4, 5] st)
  | .ret => spec_ShowPairs.K0 k a0 .ret st
  | .exit j => spec_ShowPairs.K0 k a0 (.exit j) st
noncomputable def spec_ShowPairs.V0 (k : Nat) (a0 : List (Ty.den TPair)) (n0 : Nat) (x0_0 : List (Ty.den TPair)) (x0_1 : ByteArray) (x0_2 : Int) (x0_3 : List (Ty.den TRec)) : Option (ByteArray × Unit) := loopN (exec (spec_ShowPairs.E k) (at_ [true, true, true, true, false, true, false, false] (body Try.f102))) (canon 0 [0, 3, 4, 5]) (spec_ShowPairs.K0 k a0) n0 (mk 39 1 [(0, .sl true TPair x0_0), (3, .str x0_1), (4, .ref 0), (5, .int .i64 x0_2)] [(0, .own false TRec x0_3)])
theorem spec_ShowPairs.s0 (k : Nat) (a0 : List (Ty.den TPair)) (n0 : Nat) (x0_0 : List (Ty.den TPair)) (x0_1 : ByteArray) (x0_2 : Int) (x0_3 : List (Ty.den TRec)) : spec_ShowPairs.V0 k a0 (n0 + 1) x0_0 x0_1 x0_2 x0_3 = spec_ShowPairs.b0 k (spec_ShowPairs.V0 k a0 n0) x0_0 x0_1 x0_2 x0_3 := by kernel_rfl
theorem spec_ShowPairs.e0 (k : Nat) (a0 : List (Ty.den TPair)) (n0 : Nat) : spec_ShowPairs.V0 k a0 n0 = spec_ShowPairs.l0 k n0 := by
  induction n0 with
  | zero => rfl
  | succ n0 ih =>
    have h : spec_ShowPairs.V0 k a0 (n0 + 1) = spec_ShowPairs.b0 k (spec_ShowPairs.V0 k a0 n0) := funext fun x0_0 => funext fun x0_1 => funext fun x0_2 => funext fun x0_3 => spec_ShowPairs.s0 k a0 n0 x0_0 x0_1 x0_2 x0_3
    rw [h, ih]
    rfl
theorem spec_ShowPairs.q (k : Nat) (a0 : List (Ty.den TPair)) : run (spec_ShowPairs.E k) Try.f102 [.val (.slice TPair)] [.str] true false (a0, ()) = spec_ShowPairs.t k (spec_ShowPairs.V0 k a0 k) a0 := by kernel_rfl
theorem spec_ShowPairs.eq (k : Nat) (a0 : List (Ty.den TPair)) : run (spec_ShowPairs.E k) Try.f102 [.val (.slice TPair)] [.str] true false (a0, ()) = spec_ShowPairs.f k a0 := by
  rw [spec_ShowPairs.q, spec_ShowPairs.e0]
  rfl
theorem spec_ShowPairs.ctr (k : Nat) : Ctr Try.prog 102 ⟨[.val (.slice TPair)], [.str], true, false, fun x => spec_ShowPairs.f k x.1⟩ :=
  run_ctr (E := spec_ShowPairs.E k) mixed tb_ok (eqOk_of tb_eqs) (Cts.cons (spec_PairsOk.ctr k) (Cts.cons (spec_l14Keep.ctr k) (Cts.cons (spec_ShowRec.ctr k) (Cts.cons (spec_Frame.ctr k) (Cts.cons (spec_l9Seal.ctr k) Cts.nil))))) (by kernel_rfl) Try.func102 (by kernel_rfl) rfl (fun ⟨a0, _⟩ r h => (spec_ShowPairs.eq k a0).trans h)
def spec_ReadPairs.E (k : Nat) : Env := ⟨tb, [(101, ⟨[.val .str], [(.slice TSpot), (.int .i64)], true, false, fun x => spec_ScanRecs.f k x.1⟩), (102, ⟨[.val (.slice TPair)], [.str], true, false, fun x => spec_ShowPairs.f k x.1⟩)], [(4, [0, 4, 5, 7])], k, 0, []⟩
noncomputable def spec_ReadPairs.K0 (k : Nat) (a0 : ByteArray) : Ex → St → Option ((List (Ty.den TPair)) × Bool × Unit) := runK (spec_ReadPairs.E k) (endK (spec_ReadPairs.E k) Try.f36.results.toList [.val .str] (a0, ()) [(.slice TPair), .bool] true false) [.blk 0, .code (at_ [true, true, true, true] (body Try.f36))]
noncomputable def spec_ReadPairs.B0 (k : Nat) (a0 : ByteArray) (n0 : Nat) : Ex → St → Option ((List (Ty.den TPair)) × Bool × Unit) := fun e st => match e with
  | .normal => loopN (exec (spec_ReadPairs.E k) (at_ [true, true, true, false, true, false, false] (body Try.f36))) (canon 0 [0, 4, 5, 7]) (spec_ReadPairs.K0 k a0) n0 (canon 0 [0, 4, 5, 7] st)
  | .ret => spec_ReadPairs.K0 k a0 .ret st
  | .exit j => spec_ReadPairs.K0 k a0 (.exit j) st
noncomputable def spec_ReadPairs.V0 (k : Nat) (a0 : ByteArray) (n0 : Nat) (x0_0 : ByteArray) (x0_1 : Int) (x0_2 : List (Ty.den TPair)) (x0_3 : List (Ty.den TSpot)) : Option ((List (Ty.den TPair)) × Bool × Unit) := loopN (exec (spec_ReadPairs.E k) (at_ [true, true, true, false, true, false, false] (body Try.f36))) (canon 0 [0, 4, 5, 7]) (spec_ReadPairs.K0 k a0) n0 (mk 53 2 [(0, .str x0_0), (4, .ref 0), (5, .ref 1), (7, .int .i64 x0_1)] [(0, .own false TPair x0_2), (1, .own false TSpot x0_3)])
theorem spec_ReadPairs.s0 (k : Nat) (a0 : ByteArray) (n0 : Nat) (x0_0 : ByteArray) (x0_1 : Int) (x0_2 : List (Ty.den TPair)) (x0_3 : List (Ty.den TSpot)) : spec_ReadPairs.V0 k a0 (n0 + 1) x0_0 x0_1 x0_2 x0_3 = spec_ReadPairs.b0 k (spec_ReadPairs.V0 k a0 n0) x0_0 x0_1 x0_2 x0_3 := by kernel_rfl
theorem spec_ReadPairs.e0 (k : Nat) (a0 : ByteArray) (n0 : Nat) : spec_ReadPairs.V0 k a0 n0 = spec_ReadPairs.l0 k n0 := by
  induction n0 with
  | zero => rfl
  | succ n0 ih =>
    have h : spec_ReadPairs.V0 k a0 (n0 + 1) = spec_ReadPairs.b0 k (spec_ReadPairs.V0 k a0 n0) := funext fun x0_0 => funext fun x0_1 => funext fun x0_2 => funext fun x0_3 => spec_ReadPairs.s0 k a0 n0 x0_0 x0_1 x0_2 x0_3
    rw [h, ih]
    rfl
theorem spec_ReadPairs.q (k : Nat) (a0 : ByteArray) : run (spec_ReadPairs.E k) Try.f36 [.val .str] [(.slice TPair), .bool] true false (a0, ()) = spec_ReadPairs.t k (spec_ReadPairs.V0 k a0 k) a0 := by kernel_rfl
theorem spec_ReadPairs.eq (k : Nat) (a0 : ByteArray) : run (spec_ReadPairs.E k) Try.f36 [.val .str] [(.slice TPair), .bool] true false (a0, ()) = spec_ReadPairs.f k a0 := by
  rw [spec_ReadPairs.q, spec_ReadPairs.e0]
  rfl
theorem spec_ReadPairs.ctr (k : Nat) : Ctr Try.prog 36 ⟨[.val .str], [(.slice TPair), .bool], true, false, fun x => spec_ReadPairs.f k x.1⟩ :=
  run_ctr (E := spec_ReadPairs.E k) mixed tb_ok (eqOk_of tb_eqs) (Cts.cons (spec_ScanRecs.ctr k) (Cts.cons (spec_ShowPairs.ctr k) Cts.nil)) (by kernel_rfl) Try.func36 (by kernel_rfl) rfl (fun ⟨a0, _⟩ r h => (spec_ReadPairs.eq k a0).trans h)
def impl_ReadVar.E (k : Nat) : Env := ⟨tb, [], [(3, [0, 4, 5])], k, 0, []⟩
noncomputable def impl_ReadVar.K0 (k : Nat) (a0 : ByteArray) : Ex → St → Option (Int × Int × Unit) := runK (impl_ReadVar.E k) (endK (impl_ReadVar.E k) Try.f196.results.toList [.val .str] (a0, ()) [(.int .i64), (.int .i64)] true false) [.blk 0, .code (at_ [true, true, true] (body Try.f196))]
noncomputable def impl_ReadVar.B0 (k : Nat) (a0 : ByteArray) (n0 : Nat) : Ex → St → Option (Int × Int × Unit) := fun e st => match e with
  | .normal => loopN (exec (impl_ReadVar.E k) (at_ [true, true, false, true, false, false] (body Try.f196))) (canon 0 [0, 4, 5]) (impl_ReadVar.K0 k a0) n0 (canon 0 [0, 4, 5] st)
  | .ret => impl_ReadVar.K0 k a0 .ret st
  | .exit j => impl_ReadVar.K0 k a0 (.exit j) st
noncomputable def impl_ReadVar.V0 (k : Nat) (a0 : ByteArray) (n0 : Nat) (x0_0 : ByteArray) (x0_1 : Int) (x0_2 : Int) : Option (Int × Int × Unit) := loopN (exec (impl_ReadVar.E k) (at_ [true, true, false, true, false, false] (body Try.f196))) (canon 0 [0, 4, 5]) (impl_ReadVar.K0 k a0) n0 (mk 39 0 [(0, .str x0_0), (4, .int .i64 x0_1), (5, .int .i64 x0_2)] [])
theorem impl_ReadVar.s0 (k : Nat) (a0 : ByteArray) (n0 : Nat) (x0_0 : ByteArray) (x0_1 : Int) (x0_2 : Int) : impl_ReadVar.V0 k a0 (n0 + 1) x0_0 x0_1 x0_2 = impl_ReadVar.b0 k (impl_ReadVar.V0 k a0 n0) x0_0 x0_1 x0_2 := by kernel_rfl
theorem impl_ReadVar.e0 (k : Nat) (a0 : ByteArray) (n0 : Nat) : impl_ReadVar.V0 k a0 n0 = impl_ReadVar.l0 k n0 := by
  induction n0 with
  | zero => rfl
  | succ n0 ih =>
    have h : impl_ReadVar.V0 k a0 (n0 + 1) = impl_ReadVar.b0 k (impl_ReadVar.V0 k a0 n0) := funext fun x0_0 => funext fun x0_1 => funext fun x0_2 => impl_ReadVar.s0 k a0 n0 x0_0 x0_1 x0_2
    rw [h, ih]
    rfl
theorem impl_ReadVar.q (k : Nat) (a0 : ByteArray) : run (impl_ReadVar.E k) Try.f196 [.val .str] [(.int .i64), (.int .i64)] true false (a0, ()) = impl_ReadVar.t k (impl_ReadVar.V0 k a0 k) a0 := by kernel_rfl
theorem impl_ReadVar.eq (k : Nat) (a0 : ByteArray) : run (impl_ReadVar.E k) Try.f196 [.val .str] [(.int .i64), (.int .i64)] true false (a0, ()) = impl_ReadVar.f k a0 := by
  rw [impl_ReadVar.q, impl_ReadVar.e0]
  rfl
theorem impl_ReadVar.ctr (k : Nat) : Ctr Try.prog 196 ⟨[.val .str], [(.int .i64), (.int .i64)], true, false, fun x => impl_ReadVar.f k x.1⟩ :=
  run_ctr (E := impl_ReadVar.E k) mixed tb_ok (eqOk_of tb_eqs) Cts.nil (by kernel_rfl) Try.func196 (by kernel_rfl) rfl (fun ⟨a0, _⟩ r h => (impl_ReadVar.eq k a0).trans h)
def impl_Unframe.E (k : Nat) : Env := ⟨tb, [(196, ⟨[.val .str], [(.int .i64), (.int .i64)], true, false, fun x => impl_ReadVar.f k x.1⟩), (96, ⟨[.val .str], [.str], true, false, fun x => impl_Frame.f k x.1⟩)], [], k, 0, []⟩
theorem impl_Unframe.q (k : Nat) (a0 : ByteArray) : run (impl_Unframe.E k) Try.f175 [.val .str] [.str, (.int .i64)] true false (a0, ()) = impl_Unframe.t k a0 := by kernel_rfl
theorem impl_Unframe.eq (k : Nat) (a0 : ByteArray) : run (impl_Unframe.E k) Try.f175 [.val .str] [.str, (.int .i64)] true false (a0, ()) = impl_Unframe.f k a0 := by
  rw [impl_Unframe.q]
  rfl
theorem impl_Unframe.ctr (k : Nat) : Ctr Try.prog 175 ⟨[.val .str], [.str, (.int .i64)], true, false, fun x => impl_Unframe.f k x.1⟩ :=
  run_ctr (E := impl_Unframe.E k) mixed tb_ok (eqOk_of tb_eqs) (Cts.cons (impl_ReadVar.ctr k) (Cts.cons (impl_Frame.ctr k) Cts.nil)) (by kernel_rfl) Try.func175 (by kernel_rfl) rfl (fun ⟨a0, _⟩ r h => (impl_Unframe.eq k a0).trans h)
def impl_scanner__num.E (k : Nat) : Env := ⟨tb, [(196, ⟨[.val .str], [(.int .i64), (.int .i64)], true, false, fun x => impl_ReadVar.f k x.1⟩)], [], k, 1, []⟩
theorem impl_scanner__num.q (k : Nat) (a0 : Ty.den Tscanner) : run (impl_scanner__num.E k) Try.f197 [.io true Tscanner] [(.int .i64)] true false (a0, ()) = impl_scanner__num.t k a0 := by kernel_rfl
theorem impl_scanner__num.eq (k : Nat) (a0 : Ty.den Tscanner) : run (impl_scanner__num.E k) Try.f197 [.io true Tscanner] [(.int .i64)] true false (a0, ()) = impl_scanner__num.f k a0 := by
  rw [impl_scanner__num.q]
  rfl
theorem impl_scanner__num.ctr (k : Nat) : Ctr Try.prog 197 ⟨[.io true Tscanner], [(.int .i64)], true, false, fun x => impl_scanner__num.f k x.1⟩ :=
  run_ctr (E := impl_scanner__num.E k) mixed tb_ok (eqOk_of tb_eqs) (Cts.cons (impl_ReadVar.ctr k) Cts.nil) (by kernel_rfl) Try.func197 (by kernel_rfl) rfl (fun ⟨a0, _⟩ r h => (impl_scanner__num.eq k a0).trans h)
def impl_scanner__bytes.E (k : Nat) : Env := ⟨tb, [], [], k, 1, []⟩
theorem impl_scanner__bytes.q (k : Nat) (a0 : Ty.den Tscanner) (a1 : Int) : run (impl_scanner__bytes.E k) Try.f200 [.io true Tscanner, .val (.int .i64)] [.str] true false (a0, a1, ()) = impl_scanner__bytes.t k a0 a1 := by kernel_rfl
theorem impl_scanner__bytes.eq (k : Nat) (a0 : Ty.den Tscanner) (a1 : Int) : run (impl_scanner__bytes.E k) Try.f200 [.io true Tscanner, .val (.int .i64)] [.str] true false (a0, a1, ()) = impl_scanner__bytes.f k a0 a1 := by
  rw [impl_scanner__bytes.q]
  rfl
theorem impl_scanner__bytes.ctr (k : Nat) : Ctr Try.prog 200 ⟨[.io true Tscanner, .val (.int .i64)], [.str], true, false, fun x => impl_scanner__bytes.f k x.1 x.2.1⟩ :=
  run_ctr (E := impl_scanner__bytes.E k) mixed tb_ok (eqOk_of tb_eqs) Cts.nil (by kernel_rfl) Try.func200 (by kernel_rfl) rfl (fun ⟨a0, a1, _⟩ r h => (impl_scanner__bytes.eq k a0 a1).trans h)
def impl_scanner__text.E (k : Nat) : Env := ⟨tb, [(197, ⟨[.io true Tscanner], [(.int .i64)], true, false, fun x => impl_scanner__num.f k x.1⟩), (200, ⟨[.io true Tscanner, .val (.int .i64)], [.str], true, false, fun x => impl_scanner__bytes.f k x.1 x.2.1⟩)], [], k, 1, []⟩
theorem impl_scanner__text.q (k : Nat) (a0 : Ty.den Tscanner) : run (impl_scanner__text.E k) Try.f198 [.io true Tscanner] [.str] true false (a0, ()) = impl_scanner__text.t k a0 := by kernel_rfl
theorem impl_scanner__text.eq (k : Nat) (a0 : Ty.den Tscanner) : run (impl_scanner__text.E k) Try.f198 [.io true Tscanner] [.str] true false (a0, ()) = impl_scanner__text.f k a0 := by
  rw [impl_scanner__text.q]
  rfl
theorem impl_scanner__text.ctr (k : Nat) : Ctr Try.prog 198 ⟨[.io true Tscanner], [.str], true, false, fun x => impl_scanner__text.f k x.1⟩ :=
  run_ctr (E := impl_scanner__text.E k) mixed tb_ok (eqOk_of tb_eqs) (Cts.cons (impl_scanner__num.ctr k) (Cts.cons (impl_scanner__bytes.ctr k) Cts.nil)) (by kernel_rfl) Try.func198 (by kernel_rfl) rfl (fun ⟨a0, _⟩ r h => (impl_scanner__text.eq k a0).trans h)
def impl_ReadFixed.E (k : Nat) : Env := ⟨tb, [(94, ⟨[.val (.int .i64), .val (.int .i64), .val (.int .i64)], [.bool], true, false, fun x => impl_in.f k x.1 x.2.1 x.2.2.1⟩)], [(5, [0, 6, 17, 18])], k, 0, []⟩
noncomputable def impl_ReadFixed.K0 (k : Nat) (a0 : ByteArray) (a1 : Int) : Ex → St → Option (Int × Bool × Unit) := runK (impl_ReadFixed.E k) (endK (impl_ReadFixed.E k) Try.f199.results.toList [.val .str, .val (.int .i64)] (a0, a1, ()) [(.int .i64), .bool] true false) [.blk 0, .code (at_ [true, true, true, true] (body Try.f199))]
noncomputable def impl_ReadFixed.B0 (k : Nat) (a0 : ByteArray) (a1 : Int) (n0 : Nat) : Ex → St → Option (Int × Bool × Unit) := fun e st => match e with
  | .normal => loopN (exec (impl_ReadFixed.E k) (at_ [true, true, true, false, true, false, false] (body Try.f199))) (canon 0 [0, 6, 17, 18]) (impl_ReadFixed.K0 k a0 a1) n0 (canon 0 [0, 6, 17, 18] st)
  | .ret => impl_ReadFixed.K0 k a0 a1 .ret st
  | .exit j => impl_ReadFixed.K0 k a0 a1 (.exit j) st
noncomputable def impl_ReadFixed.V0 (k : Nat) (a0 : ByteArray) (a1 : Int) (n0 : Nat) (x0_0 : ByteArray) (x0_1 : Int) (x0_2 : Int) (x0_3 : Int) : Option (Int × Bool × Unit) := loopN (exec (impl_ReadFixed.E k) (at_ [true, true, true, false, true, false, false] (body Try.f199))) (canon 0 [0, 6, 17, 18]) (impl_ReadFixed.K0 k a0 a1) n0 (mk 30 0 [(0, .str x0_0), (6, .int .i64 x0_1), (17, .int .i64 x0_2), (18, .int .i64 x0_3)] [])
theorem impl_ReadFixed.s0 (k : Nat) (a0 : ByteArray) (a1 : Int) (n0 : Nat) (x0_0 : ByteArray) (x0_1 : Int) (x0_2 : Int) (x0_3 : Int) : impl_ReadFixed.V0 k a0 a1 (n0 + 1) x0_0 x0_1 x0_2 x0_3 = impl_ReadFixed.b0 k (impl_ReadFixed.V0 k a0 a1 n0) x0_0 x0_1 x0_2 x0_3 := by kernel_rfl
theorem impl_ReadFixed.e0 (k : Nat) (a0 : ByteArray) (a1 : Int) (n0 : Nat) : impl_ReadFixed.V0 k a0 a1 n0 = impl_ReadFixed.l0 k n0 := by
  induction n0 with
  | zero => rfl
  | succ n0 ih =>
    have h : impl_ReadFixed.V0 k a0 a1 (n0 + 1) = impl_ReadFixed.b0 k (impl_ReadFixed.V0 k a0 a1 n0) := funext fun x0_0 => funext fun x0_1 => funext fun x0_2 => funext fun x0_3 => impl_ReadFixed.s0 k a0 a1 n0 x0_0 x0_1 x0_2 x0_3
    rw [h, ih]
    rfl
theorem impl_ReadFixed.q (k : Nat) (a0 : ByteArray) (a1 : Int) : run (impl_ReadFixed.E k) Try.f199 [.val .str, .val (.int .i64)] [(.int .i64), .bool] true false (a0, a1, ()) = impl_ReadFixed.t k (impl_ReadFixed.V0 k a0 a1 k) a0 a1 := by kernel_rfl
theorem impl_ReadFixed.eq (k : Nat) (a0 : ByteArray) (a1 : Int) : run (impl_ReadFixed.E k) Try.f199 [.val .str, .val (.int .i64)] [(.int .i64), .bool] true false (a0, a1, ()) = impl_ReadFixed.f k a0 a1 := by
  rw [impl_ReadFixed.q, impl_ReadFixed.e0]
  rfl
theorem impl_ReadFixed.ctr (k : Nat) : Ctr Try.prog 199 ⟨[.val .str, .val (.int .i64)], [(.int .i64), .bool], true, false, fun x => impl_ReadFixed.f k x.1 x.2.1⟩ :=
  run_ctr (E := impl_ReadFixed.E k) mixed tb_ok (eqOk_of tb_eqs) (Cts.cons (impl_in.ctr k) Cts.nil) (by kernel_rfl) Try.func199 (by kernel_rfl) rfl (fun ⟨a0, a1, _⟩ r h => (impl_ReadFixed.eq k a0 a1).trans h)
def impl_ReadRec.E (k : Nat) : Env := ⟨tb, [(197, ⟨[.io true Tscanner], [(.int .i64)], true, false, fun x => impl_scanner__num.f k x.1⟩), (198, ⟨[.io true Tscanner], [.str], true, false, fun x => impl_scanner__text.f k x.1⟩), (166, ⟨[.val TRec], [.bool], true, false, fun x => impl_RecOk.f k x.1⟩), (200, ⟨[.io true Tscanner, .val (.int .i64)], [.str], true, false, fun x => impl_scanner__bytes.f k x.1 x.2.1⟩), (199, ⟨[.val .str, .val (.int .i64)], [(.int .i64), .bool], true, false, fun x => impl_ReadFixed.f k x.1 x.2.1⟩)], [], k, 0, []⟩
theorem impl_ReadRec.q (k : Nat) (a0 : ByteArray) : run (impl_ReadRec.E k) Try.f176 [.val .str] [TRec, .bool] true false (a0, ()) = impl_ReadRec.t k a0 := by kernel_rfl
theorem impl_ReadRec.eq (k : Nat) (a0 : ByteArray) : run (impl_ReadRec.E k) Try.f176 [.val .str] [TRec, .bool] true false (a0, ()) = impl_ReadRec.f k a0 := by
  rw [impl_ReadRec.q]
  rfl
theorem impl_ReadRec.ctr (k : Nat) : Ctr Try.prog 176 ⟨[.val .str], [TRec, .bool], true, false, fun x => impl_ReadRec.f k x.1⟩ :=
  run_ctr (E := impl_ReadRec.E k) mixed tb_ok (eqOk_of tb_eqs) (Cts.cons (impl_scanner__num.ctr k) (Cts.cons (impl_scanner__text.ctr k) (Cts.cons (impl_RecOk.ctr k) (Cts.cons (impl_scanner__bytes.ctr k) (Cts.cons (impl_ReadFixed.ctr k) Cts.nil))))) (by kernel_rfl) Try.func176 (by kernel_rfl) rfl (fun ⟨a0, _⟩ r h => (impl_ReadRec.eq k a0).trans h)
def impl_ScanRecs.E (k : Nat) : Env := ⟨tb, [(175, ⟨[.val .str], [.str, (.int .i64)], true, false, fun x => impl_Unframe.f k x.1⟩), (176, ⟨[.val .str], [TRec, .bool], true, false, fun x => impl_ReadRec.f k x.1⟩)], [(3, [0, 4, 5])], k, 0, []⟩
noncomputable def impl_ScanRecs.K0 (k : Nat) (a0 : ByteArray) : Ex → St → Option ((List (Ty.den TSpot)) × Int × Unit) := runK (impl_ScanRecs.E k) (endK (impl_ScanRecs.E k) Try.f103.results.toList [.val .str] (a0, ()) [(.slice TSpot), (.int .i64)] true false) [.blk 0]
noncomputable def impl_ScanRecs.B0 (k : Nat) (a0 : ByteArray) (n0 : Nat) : Ex → St → Option ((List (Ty.den TSpot)) × Int × Unit) := fun e st => match e with
  | .normal => loopN (exec (impl_ScanRecs.E k) (at_ [true, true, true, false, false] (body Try.f103))) (canon 0 [0, 4, 5]) (impl_ScanRecs.K0 k a0) n0 (canon 0 [0, 4, 5] st)
  | .ret => impl_ScanRecs.K0 k a0 .ret st
  | .exit j => impl_ScanRecs.K0 k a0 (.exit j) st
noncomputable def impl_ScanRecs.V0 (k : Nat) (a0 : ByteArray) (n0 : Nat) (x0_0 : ByteArray) (x0_1 : Int) (x0_2 : List (Ty.den TSpot)) : Option ((List (Ty.den TSpot)) × Int × Unit) := loopN (exec (impl_ScanRecs.E k) (at_ [true, true, true, false, false] (body Try.f103))) (canon 0 [0, 4, 5]) (impl_ScanRecs.K0 k a0) n0 (mk 40 1 [(0, .str x0_0), (4, .ref 0), (5, .int .i64 x0_1)] [(0, .own false TSpot x0_2)])
theorem impl_ScanRecs.s0 (k : Nat) (a0 : ByteArray) (n0 : Nat) (x0_0 : ByteArray) (x0_1 : Int) (x0_2 : List (Ty.den TSpot)) : impl_ScanRecs.V0 k a0 (n0 + 1) x0_0 x0_1 x0_2 = impl_ScanRecs.b0 k (impl_ScanRecs.V0 k a0 n0) x0_0 x0_1 x0_2 := by kernel_rfl
theorem impl_ScanRecs.e0 (k : Nat) (a0 : ByteArray) (n0 : Nat) : impl_ScanRecs.V0 k a0 n0 = impl_ScanRecs.l0 k n0 := by
  induction n0 with
  | zero => rfl
  | succ n0 ih =>
    have h : impl_ScanRecs.V0 k a0 (n0 + 1) = impl_ScanRecs.b0 k (impl_ScanRecs.V0 k a0 n0) := funext fun x0_0 => funext fun x0_1 => funext fun x0_2 => impl_ScanRecs.s0 k a0 n0 x0_0 x0_1 x0_2
    rw [h, ih]
    rfl
theorem impl_ScanRecs.q (k : Nat) (a0 : ByteArray) : run (impl_ScanRecs.E k) Try.f103 [.val .str] [(.slice TSpot), (.int .i64)] true false (a0, ()) = impl_ScanRecs.t k (impl_ScanRecs.V0 k a0 k) a0 := by kernel_rfl
theorem impl_ScanRecs.eq (k : Nat) (a0 : ByteArray) : run (impl_ScanRecs.E k) Try.f103 [.val .str] [(.slice TSpot), (.int .i64)] true false (a0, ()) = impl_ScanRecs.f k a0 := by
  rw [impl_ScanRecs.q, impl_ScanRecs.e0]
  rfl
theorem impl_ScanRecs.ctr (k : Nat) : Ctr Try.prog 103 ⟨[.val .str], [(.slice TSpot), (.int .i64)], true, false, fun x => impl_ScanRecs.f k x.1⟩ :=
  run_ctr (E := impl_ScanRecs.E k) mixed tb_ok (eqOk_of tb_eqs) (Cts.cons (impl_Unframe.ctr k) (Cts.cons (impl_ReadRec.ctr k) Cts.nil)) (by kernel_rfl) Try.func103 (by kernel_rfl) rfl (fun ⟨a0, _⟩ r h => (impl_ScanRecs.eq k a0).trans h)
def impl_PairsOk.E (k : Nat) : Env := ⟨tb, [(192, ⟨[.val .str], [.bool], true, false, fun x => impl_KeyOk.f k x.1⟩), (94, ⟨[.val (.int .i64), .val (.int .i64), .val (.int .i64)], [.bool], true, false, fun x => impl_in.f k x.1 x.2.1 x.2.2.1⟩)], [(2, [0, 5, 6, 7])], k, 0, []⟩
noncomputable def impl_PairsOk.K0 (k : Nat) (a0 : List (Ty.den TPair)) : Ex → St → Option (Bool × Unit) := runK (impl_PairsOk.E k) (endK (impl_PairsOk.E k) Try.f177.results.toList [.val (.slice TPair)] (a0, ()) [.bool] true false) [.blk 0, .code (at_ [true, true] (body Try.f177))]
noncomputable def impl_PairsOk.B0 (k : Nat) (a0 : List (Ty.den TPair)) (n0 : Nat) : Ex → St → Option (Bool × Unit) := fun e st => match e with
  | .normal => loopN (exec (impl_PairsOk.E k) (at_ [true, false, true, false, false] (body Try.f177))) (canon 0 [0, 5, 6, 7]) (impl_PairsOk.K0 k a0) n0 (canon 0 [0, 5, 6, 7] st)
  | .ret => impl_PairsOk.K0 k a0 .ret st
  | .exit j => impl_PairsOk.K0 k a0 (.exit j) st
noncomputable def impl_PairsOk.V0 (k : Nat) (a0 : List (Ty.den TPair)) (n0 : Nat) (x0_0 : List (Ty.den TPair)) (x0_1 : List (Ty.den TPair)) (x0_2 : Int) (x0_3 : Int) : Option (Bool × Unit) := loopN (exec (impl_PairsOk.E k) (at_ [true, false, true, false, false] (body Try.f177))) (canon 0 [0, 5, 6, 7]) (impl_PairsOk.K0 k a0) n0 (mk 47 0 [(0, .sl true TPair x0_0), (5, .sl true TPair x0_1), (6, .int .i64 x0_2), (7, .int .i64 x0_3)] [])
theorem impl_PairsOk.s0 (k : Nat) (a0 : List (Ty.den TPair)) (n0 : Nat) (x0_0 : List (Ty.den TPair)) (x0_1 : List (Ty.den TPair)) (x0_2 : Int) (x0_3 : Int) : impl_PairsOk.V0 k a0 (n0 + 1) x0_0 x0_1 x0_2 x0_3 = impl_PairsOk.b0 k (impl_PairsOk.V0 k a0 n0) x0_0 x0_1 x0_2 x0_3 := by kernel_rfl
theorem impl_PairsOk.e0 (k : Nat) (a0 : List (Ty.den TPair)) (n0 : Nat) : impl_PairsOk.V0 k a0 n0 = impl_PairsOk.l0 k n0 := by
  induction n0 with
  | zero => rfl
  | succ n0 ih =>
    have h : impl_PairsOk.V0 k a0 (n0 + 1) = impl_PairsOk.b0 k (impl_PairsOk.V0 k a0 n0) := funext fun x0_0 => funext fun x0_1 => funext fun x0_2 => funext fun x0_3 => impl_PairsOk.s0 k a0 n0 x0_0 x0_1 x0_2 x0_3
    rw [h, ih]
    rfl
theorem impl_PairsOk.q (k : Nat) (a0 : List (Ty.den TPair)) : run (impl_PairsOk.E k) Try.f177 [.val (.slice TPair)] [.bool] true false (a0, ()) = impl_PairsOk.t k (impl_PairsOk.V0 k a0 k) a0 := by kernel_rfl
theorem impl_PairsOk.eq (k : Nat) (a0 : List (Ty.den TPair)) : run (impl_PairsOk.E k) Try.f177 [.val (.slice TPair)] [.bool] true false (a0, ()) = impl_PairsOk.f k a0 := by
  rw [impl_PairsOk.q, impl_PairsOk.e0]
  rfl
theorem impl_PairsOk.ctr (k : Nat) : Ctr Try.prog 177 ⟨[.val (.slice TPair)], [.bool], true, false, fun x => impl_PairsOk.f k x.1⟩ :=
  run_ctr (E := impl_PairsOk.E k) mixed tb_ok (eqOk_of tb_eqs) (Cts.cons (impl_KeyOk.ctr k) (Cts.cons (impl_in.ctr k) Cts.nil)) (by kernel_rfl) Try.func177 (by kernel_rfl) rfl (fun ⟨a0, _⟩ r h => (impl_PairsOk.eq k a0).trans h)
def impl_keeps.E (k : Nat) : Env := ⟨tb, [(162, ⟨[.val (.slice TRec)], [(.int .i64)], true, false, fun x => impl_SumOf.f k x.1⟩)], [(3, [0, 1, 5, 8, 9, 10])], k, 0, []⟩
noncomputable def impl_keeps.K0 (k : Nat) (a0 : List (Ty.den TPair)) (a1 : Int) : Ex → St → Option ((List (Ty.den TRec)) × Unit) := runK (impl_keeps.E k) (endK (impl_keeps.E k) Try.f178.results.toList [.val (.slice TPair), .val (.int .i64)] (a0, a1, ()) [(.slice TRec)] true false) [.blk 0, .code (at_ [true, true, true] (body Try.f178))]
noncomputable def impl_keeps.B0 (k : Nat) (a0 : List (Ty.den TPair)) (a1 : Int) (n0 : Nat) : Ex → St → Option ((List (Ty.den TRec)) × Unit) := fun e st => match e with
  | .normal => loopN (exec (impl_keeps.E k) (at_ [true, true, false, true, false, false] (body Try.f178))) (canon 0 [0, 1, 5, 8, 9, 10]) (impl_keeps.K0 k a0 a1) n0 (canon 0 [0, 1, 5, 8, 9, 10] st)
  | .ret => impl_keeps.K0 k a0 a1 .ret st
  | .exit j => impl_keeps.K0 k a0 a1 (.exit j) st
noncomputable def impl_keeps.V0 (k : Nat) (a0 : List (Ty.den TPair)) (a1 : Int) (n0 : Nat) (x0_0 : List (Ty.den TPair)) (x0_1 : Int) (x0_2 : List (Ty.den TPair)) (x0_3 : Int) (x0_4 : Int) (x0_5 : List (Ty.den TRec)) : Option ((List (Ty.den TRec)) × Unit) := loopN (exec (impl_keeps.E k) (at_ [true, true, false, true, false, false] (body Try.f178))) (canon 0 [0, 1, 5, 8, 9, 10]) (impl_keeps.K0 k a0 a1) n0 (mk 34 1 [(0, .sl true TPair x0_0), (1, .int .i64 x0_1), (5, .ref 0), (8, .sl true TPair x0_2), (9, .int .i64 x0_3), (10, .int .i64 x0_4)] [(0, .own false TRec x0_5)])
theorem impl_keeps.s0 (k : Nat) (a0 : List (Ty.den TPair)) (a1 : Int) (n0 : Nat) (x0_0 : List (Ty.den TPair)) (x0_1 : Int) (x0_2 : List (Ty.den TPair)) (x0_3 : Int) (x0_4 : Int) (x0_5 : List (Ty.den TRec)) : impl_keeps.V0 k a0 a1 (n0 + 1) x0_0 x0_1 x0_2 x0_3 x0_4 x0_5 = impl_keeps.b0 k (impl_keeps.V0 k a0 a1 n0) x0_0 x0_1 x0_2 x0_3 x0_4 x0_5 := by kernel_rfl
theorem impl_keeps.e0 (k : Nat) (a0 : List (Ty.den TPair)) (a1 : Int) (n0 : Nat) : impl_keeps.V0 k a0 a1 n0 = impl_keeps.l0 k n0 := by
  induction n0 with
  | zero => rfl
  | succ n0 ih =>
    have h : impl_keeps.V0 k a0 a1 (n0 + 1) = impl_keeps.b0 k (impl_keeps.V0 k a0 a1 n0) := funext fun x0_0 => funext fun x0_1 => funext fun x0_2 => funext fun x0_3 => funext fun x0_4 => funext fun x0_5 => impl_keeps.s0 k a0 a1 n0 x0_0 x0_1 x0_2 x0_3 x0_4 x0_5
    rw [h, ih]
    rfl
theorem impl_keeps.q (k : Nat) (a0 : List (Ty.den TPair)) (a1 : Int) : run (impl_keeps.E k) Try.f178 [.val (.slice TPair), .val (.int .i64)] [(.slice TRec)] true false (a0, a1, ()) = impl_keeps.t k (impl_keeps.V0 k a0 a1 k) a0 a1 := by kernel_rfl
theorem impl_keeps.eq (k : Nat) (a0 : List (Ty.den TPair)) (a1 : Int) : run (impl_keeps.E k) Try.f178 [.val (.slice TPair), .val (.int .i64)] [(.slice TRec)] true false (a0, a1, ()) = impl_keeps.f k a0 a1 := by
  rw [impl_keeps.q, impl_keeps.e0]
  rfl
theorem impl_keeps.ctr (k : Nat) : Ctr Try.prog 178 ⟨[.val (.slice TPair), .val (.int .i64)], [(.slice TRec)], true, false, fun x => impl_keeps.f k x.1 x.2.1⟩ :=
  run_ctr (E := impl_keeps.E k) mixed tb_ok (eqOk_of tb_eqs) (Cts.cons (impl_SumOf.ctr k) Cts.nil) (by kernel_rfl) Try.func178 (by kernel_rfl) rfl (fun ⟨a0, a1, _⟩ r h => (impl_keeps.eq k a0 a1).trans h)
def impl_ShowPairs.E (k : Nat) : Env := ⟨tb, [(177, ⟨[.val (.slice TPair)], [.bool], true, false, fun x => impl_PairsOk.f k x.1⟩), (178, ⟨[.val (.slice TPair), .val (.int .i64)], [(.slice TRec)], true, false, fun x => impl_keeps.f k x.1 x.2.1⟩), (97, ⟨[.val TRec], [.str], true, false, fun x => impl_ShowRec.f k x.1⟩), (96, ⟨[.val .str], [.str], true, false, fun x => impl_Frame.f k x.1⟩)], [(5, [3, 10, 11, 12])], k, 0, []⟩
noncomputable def impl_ShowPairs.K0 (k : Nat) (a0 : List (Ty.den TPair)) : Ex → St → Option (ByteArray × Unit) := runK (impl_ShowPairs.E k) (endK (impl_ShowPairs.E k) Try.f104.results.toList [.val (.slice TPair)] (a0, ()) [.str] true false) [.blk 0, .code (at_ [true, true, true, true] (body Try.f104))]
noncomputable def impl_ShowPairs.B0 (k : Nat) (a0 : List (Ty.den TPair)) (n0 : Nat) : Ex → St → Option (ByteArray × Unit) := fun e st => match e with
  | .normal => loopN (exec (impl_ShowPairs.E k) (at_ [true, true, true, false, true, false, false] (body Try.f104))) (canon 0 [3, 10, 11, 12]) (impl_ShowPairs.K0 k a0) n0 (canon 0 [3, 10, 11, 12] st)
  | .ret => impl_ShowPairs.K0 k a0 .ret st
  | .exit j => impl_ShowPairs.K0 k a0 (.exit j) st
noncomputable def impl_ShowPairs.V0 (k : Nat) (a0 : List (Ty.den TPair)) (n0 : Nat) (x0_0 : ByteArray) (x0_1 : Int) (x0_2 : Int) (x0_3 : List (Ty.den TRec)) : Option (ByteArray × Unit) := loopN (exec (impl_ShowPairs.E k) (at_ [true, true, true, false, true, false, false] (body Try.f104))) (canon 0 [3, 10, 11, 12]) (impl_ShowPairs.K0 k a0) n0 (mk 23 1 [(3, .str x0_0), (10, .ref 0), (11, .int .i64 x0_1), (12, .int .i64 x0_2)] [(0, .own false TRec x0_3)])
theorem impl_ShowPairs.s0 (k : Nat) (a0 : List (Ty.den TPair)) (n0 : Nat) (x0_0 : ByteArray) (x0_1 : Int) (x0_2 : Int) (x0_3 : List (Ty.den TRec)) : impl_ShowPairs.V0 k a0 (n0 + 1) x0_0 x0_1 x0_2 x0_3 = impl_ShowPairs.b0 k (impl_ShowPairs.V0 k a0 n0) x0_0 x0_1 x0_2 x0_3 := by kernel_rfl
theorem impl_ShowPairs.e0 (k : Nat) (a0 : List (Ty.den TPair)) (n0 : Nat) : impl_ShowPairs.V0 k a0 n0 = impl_ShowPairs.l0 k n0 := by
  induction n0 with
  | zero => rfl
  | succ n0 ih =>
    have h : impl_ShowPairs.V0 k a0 (n0 + 1) = impl_ShowPairs.b0 k (impl_ShowPairs.V0 k a0 n0) := funext fun x0_0 => funext fun x0_1 => funext fun x0_2 => funext fun x0_3 => impl_ShowPairs.s0 k a0 n0 x0_0 x0_1 x0_2 x0_3
    rw [h, ih]
    rfl
theorem impl_ShowPairs.q (k : Nat) (a0 : List (Ty.den TPair)) : run (impl_ShowPairs.E k) Try.f104 [.val (.slice TPair)] [.str] true false (a0, ()) = impl_ShowPairs.t k (impl_ShowPairs.V0 k a0 k) a0 := by kernel_rfl
theorem impl_ShowPairs.eq (k : Nat) (a0 : List (Ty.den TPair)) : run (impl_ShowPairs.E k) Try.f104 [.val (.slice TPair)] [.str] true false (a0, ()) = impl_ShowPairs.f k a0 := by
  rw [impl_ShowPairs.q, impl_ShowPairs.e0]
  rfl
theorem impl_ShowPairs.ctr (k : Nat) : Ctr Try.prog 104 ⟨[.val (.slice TPair)], [.str], true, false, fun x => impl_ShowPairs.f k x.1⟩ :=
  run_ctr (E := impl_ShowPairs.E k) mixed tb_ok (eqOk_of tb_eqs) (Cts.cons (impl_PairsOk.ctr k) (Cts.cons (impl_keeps.ctr k) (Cts.cons (impl_ShowRec.ctr k) (Cts.cons (impl_Frame.ctr k) Cts.nil)))) (by kernel_rfl) Try.func104 (by kernel_rfl) rfl (fun ⟨a0, _⟩ r h => (impl_ShowPairs.eq k a0).trans h)
def impl_ReadPairs.E (k : Nat) : Env := ⟨tb, [(103, ⟨[.val .str], [(.slice TSpot), (.int .i64)], true, false, fun x => impl_ScanRecs.f k x.1⟩), (104, ⟨[.val (.slice TPair)], [.str], true, false, fun x => impl_ShowPairs.f k x.1⟩)], [(4, [0, 6, 15, 16, 17])], k, 0, []⟩
noncomputable def impl_ReadPairs.K0 (k : Nat) (a0 : ByteArray) : Ex → St → Option ((List (Ty.den TPair)) × Bool × Unit) := runK (impl_ReadPairs.E k) (endK (impl_ReadPairs.E k) Try.f37.results.toList [.val .str] (a0, ()) [(.slice TPair), .bool] true false) [.blk 0, .code (at_ [true, true, true, true] (body Try.f37))]
noncomputable def impl_ReadPairs.B0 (k : Nat) (a0 : ByteArray) (n0 : Nat) : Ex → St → Option ((List (Ty.den TPair)) × Bool × Unit) := fun e st => match e with
  | .normal => loopN (exec (impl_ReadPairs.E k) (at_ [true, true, true, false, true, false, false] (body Try.f37))) (canon 0 [0, 6, 15, 16, 17]) (impl_ReadPairs.K0 k a0) n0 (canon 0 [0, 6, 15, 16, 17] st)
  | .ret => impl_ReadPairs.K0 k a0 .ret st
  | .exit j => impl_ReadPairs.K0 k a0 (.exit j) st
noncomputable def impl_ReadPairs.V0 (k : Nat) (a0 : ByteArray) (n0 : Nat) (x0_0 : ByteArray) (x0_1 : Int) (x0_2 : Int) (x0_3 : List (Ty.den TPair)) (x0_4 : List (Ty.den TSpot)) : Option ((List (Ty.den TPair)) × Bool × Unit) := loopN (exec (impl_ReadPairs.E k) (at_ [true, true, true, false, true, false, false] (body Try.f37))) (canon 0 [0, 6, 15, 16, 17]) (impl_ReadPairs.K0 k a0) n0 (mk 49 2 [(0, .str x0_0), (6, .ref 0), (15, .ref 1), (16, .int .i64 x0_1), (17, .int .i64 x0_2)] [(0, .own false TPair x0_3), (1, .own false TSpot x0_4)])
theorem impl_ReadPairs.s0 (k : Nat) (a0 : ByteArray) (n0 : Nat) (x0_0 : ByteArray) (x0_1 : Int) (x0_2 : Int) (x0_3 : List (Ty.den TPair)) (x0_4 : List (Ty.den TSpot)) : impl_ReadPairs.V0 k a0 (n0 + 1) x0_0 x0_1 x0_2 x0_3 x0_4 = impl_ReadPairs.b0 k (impl_ReadPairs.V0 k a0 n0) x0_0 x0_1 x0_2 x0_3 x0_4 := by kernel_rfl
theorem impl_ReadPairs.e0 (k : Nat) (a0 : ByteArray) (n0 : Nat) : impl_ReadPairs.V0 k a0 n0 = impl_ReadPairs.l0 k n0 := by
  induction n0 with
  | zero => rfl
  | succ n0 ih =>
    have h : impl_ReadPairs.V0 k a0 (n0 + 1) = impl_ReadPairs.b0 k (impl_ReadPairs.V0 k a0 n0) := funext fun x0_0 => funext fun x0_1 => funext fun x0_2 => funext fun x0_3 => funext fun x0_4 => impl_ReadPairs.s0 k a0 n0 x0_0 x0_1 x0_2 x0_3 x0_4
    rw [h, ih]
    rfl
theorem impl_ReadPairs.q (k : Nat) (a0 : ByteArray) : run (impl_ReadPairs.E k) Try.f37 [.val .str] [(.slice TPair), .bool] true false (a0, ()) = impl_ReadPairs.t k (impl_ReadPairs.V0 k a0 k) a0 := by kernel_rfl
theorem impl_ReadPairs.eq (k : Nat) (a0 : ByteArray) : run (impl_ReadPairs.E k) Try.f37 [.val .str] [(.slice TPair), .bool] true false (a0, ()) = impl_ReadPairs.f k a0 := by
  rw [impl_ReadPairs.q, impl_ReadPairs.e0]
  rfl
theorem impl_ReadPairs.ctr (k : Nat) : Ctr Try.prog 37 ⟨[.val .str], [(.slice TPair), .bool], true, false, fun x => impl_ReadPairs.f k x.1⟩ :=
  run_ctr (E := impl_ReadPairs.E k) mixed tb_ok (eqOk_of tb_eqs) (Cts.cons (impl_ScanRecs.ctr k) (Cts.cons (impl_ShowPairs.ctr k) Cts.nil)) (by kernel_rfl) Try.func37 (by kernel_rfl) rfl (fun ⟨a0, _⟩ r h => (impl_ReadPairs.eq k a0).trans h)
def laws_eqPair.E (k : Nat) : Env := ⟨tb, [], [], k, 0, []⟩
theorem laws_eqPair.q (k : Nat) (a0 : Ty.den TPair) (a1 : Ty.den TPair) : run (laws_eqPair.E k) Try.f78 [.val TPair, .val TPair] [.bool] true false (a0, a1, ()) = laws_eqPair.t k a0 a1 := by kernel_rfl
theorem laws_eqPair.eq (k : Nat) (a0 : Ty.den TPair) (a1 : Ty.den TPair) : run (laws_eqPair.E k) Try.f78 [.val TPair, .val TPair] [.bool] true false (a0, a1, ()) = laws_eqPair.f k a0 a1 := by
  rw [laws_eqPair.q]
  rfl
theorem laws_eqPair.ctr (k : Nat) : Ctr Try.prog 78 ⟨[.val TPair, .val TPair], [.bool], true, false, fun x => laws_eqPair.f k x.1 x.2.1⟩ :=
  run_ctr (E := laws_eqPair.E k) mixed tb_ok (eqOk_of tb_eqs) Cts.nil (by kernel_rfl) Try.func78 (by kernel_rfl) rfl (fun ⟨a0, a1, _⟩ r h => (laws_eqPair.eq k a0 a1).trans h)
def laws_eqPairS.E (k : Nat) : Env := ⟨tb, [(78, ⟨[.val TPair, .val TPair], [.bool], true, false, fun x => laws_eqPair.f k x.1 x.2.1⟩)], [(4, [0, 1, 5])], k, 0, []⟩
noncomputable def laws_eqPairS.K0 (k : Nat) (a0 : List (Ty.den TPair)) (a1 : List (Ty.den TPair)) : Ex → St → Option (Bool × Unit) := runK (laws_eqPairS.E k) (endK (laws_eqPairS.E k) Try.f23.results.toList [.val (.slice TPair), .val (.slice TPair)] (a0, a1, ()) [.bool] true false) [.blk 0, .code (at_ [true, true, true] (body Try.f23))]
noncomputable def laws_eqPairS.B0 (k : Nat) (a0 : List (Ty.den TPair)) (a1 : List (Ty.den TPair)) (n0 : Nat) : Ex → St → Option (Bool × Unit) := fun e st => match e with
  | .normal => loopN (exec (laws_eqPairS.E k) (at_ [true, true, false, true, false, false] (body Try.f23))) (canon 0 [0, 1, 5]) (laws_eqPairS.K0 k a0 a1) n0 (canon 0 [0, 1, 5] st)
  | .ret => laws_eqPairS.K0 k a0 a1 .ret st
  | .exit j => laws_eqPairS.K0 k a0 a1 (.exit j) st
noncomputable def laws_eqPairS.V0 (k : Nat) (a0 : List (Ty.den TPair)) (a1 : List (Ty.den TPair)) (n0 : Nat) (x0_0 : List (Ty.den TPair)) (x0_1 : List (Ty.den TPair)) (x0_2 : Int) : Option (Bool × Unit) := loopN (exec (laws_eqPairS.E k) (at_ [true, true, false, true, false, false] (body Try.f23))) (canon 0 [0, 1, 5]) (laws_eqPairS.K0 k a0 a1) n0 (mk 27 0 [(0, .sl true TPair x0_0), (1, .sl true TPair x0_1), (5, .int .i64 x0_2)] [])
theorem laws_eqPairS.s0 (k : Nat) (a0 : List (Ty.den TPair)) (a1 : List (Ty.den TPair)) (n0 : Nat) (x0_0 : List (Ty.den TPair)) (x0_1 : List (Ty.den TPair)) (x0_2 : Int) : laws_eqPairS.V0 k a0 a1 (n0 + 1) x0_0 x0_1 x0_2 = laws_eqPairS.b0 k (laws_eqPairS.V0 k a0 a1 n0) x0_0 x0_1 x0_2 := by kernel_rfl
theorem laws_eqPairS.e0 (k : Nat) (a0 : List (Ty.den TPair)) (a1 : List (Ty.den TPair)) (n0 : Nat) : laws_eqPairS.V0 k a0 a1 n0 = laws_eqPairS.l0 k n0 := by
  induction n0 with
  | zero => rfl
  | succ n0 ih =>
    have h : laws_eqPairS.V0 k a0 a1 (n0 + 1) = laws_eqPairS.b0 k (laws_eqPairS.V0 k a0 a1 n0) := funext fun x0_0 => funext fun x0_1 => funext fun x0_2 => laws_eqPairS.s0 k a0 a1 n0 x0_0 x0_1 x0_2
    rw [h, ih]
    rfl
theorem laws_eqPairS.q (k : Nat) (a0 : List (Ty.den TPair)) (a1 : List (Ty.den TPair)) : run (laws_eqPairS.E k) Try.f23 [.val (.slice TPair), .val (.slice TPair)] [.bool] true false (a0, a1, ()) = laws_eqPairS.t k (laws_eqPairS.V0 k a0 a1 k) a0 a1 := by kernel_rfl
theorem laws_eqPairS.eq (k : Nat) (a0 : List (Ty.den TPair)) (a1 : List (Ty.den TPair)) : run (laws_eqPairS.E k) Try.f23 [.val (.slice TPair), .val (.slice TPair)] [.bool] true false (a0, a1, ()) = laws_eqPairS.f k a0 a1 := by
  rw [laws_eqPairS.q, laws_eqPairS.e0]
  rfl
theorem laws_eqPairS.ctr (k : Nat) : Ctr Try.prog 23 ⟨[.val (.slice TPair), .val (.slice TPair)], [.bool], true, false, fun x => laws_eqPairS.f k x.1 x.2.1⟩ :=
  run_ctr (E := laws_eqPairS.E k) mixed tb_ok (eqOk_of tb_eqs) (Cts.cons (laws_eqPair.ctr k) Cts.nil) (by kernel_rfl) Try.func23 (by kernel_rfl) rfl (fun ⟨a0, a1, _⟩ r h => (laws_eqPairS.eq k a0 a1).trans h)
def laws_markText.E (k : Nat) : Env := ⟨tb, [], [(4, [0, 3])], k, 0, []⟩
noncomputable def laws_markText.K0 (k : Nat) (a0 : Int) : Ex → St → Option (ByteArray × Unit) := runK (laws_markText.E k) (endK (laws_markText.E k) Try.f81.results.toList [.val (.int .i64)] (a0, ()) [.str] true false) [.blk 0, .code (at_ [true, true, true, true] (body Try.f81))]
noncomputable def laws_markText.B0 (k : Nat) (a0 : Int) (n0 : Nat) : Ex → St → Option (ByteArray × Unit) := fun e st => match e with
  | .normal => loopN (exec (laws_markText.E k) (at_ [true, true, true, false, false, false] (body Try.f81))) (canon 0 [0, 3]) (laws_markText.K0 k a0) n0 (canon 0 [0, 3] st)
  | .ret => laws_markText.K0 k a0 .ret st
  | .exit j => laws_markText.K0 k a0 (.exit j) st
noncomputable def laws_markText.V0 (k : Nat) (a0 : Int) (n0 : Nat) (x0_0 : Int) (x0_1 : ByteArray) : Option (ByteArray × Unit) := loopN (exec (laws_markText.E k) (at_ [true, true, true, false, false, false] (body Try.f81))) (canon 0 [0, 3]) (laws_markText.K0 k a0) n0 (mk 20 0 [(0, .int .i64 x0_0), (3, .str x0_1)] [])
theorem laws_markText.s0 (k : Nat) (a0 : Int) (n0 : Nat) (x0_0 : Int) (x0_1 : ByteArray) : laws_markText.V0 k a0 (n0 + 1) x0_0 x0_1 = laws_markText.b0 k (laws_markText.V0 k a0 n0) x0_0 x0_1 := by kernel_rfl
theorem laws_markText.e0 (k : Nat) (a0 : Int) (n0 : Nat) : laws_markText.V0 k a0 n0 = laws_markText.l0 k n0 := by
  induction n0 with
  | zero => rfl
  | succ n0 ih =>
    have h : laws_markText.V0 k a0 (n0 + 1) = laws_markText.b0 k (laws_markText.V0 k a0 n0) := funext fun x0_0 => funext fun x0_1 => laws_markText.s0 k a0 n0 x0_0 x0_1
    rw [h, ih]
    rfl
theorem laws_markText.q (k : Nat) (a0 : Int) : run (laws_markText.E k) Try.f81 [.val (.int .i64)] [.str] true false (a0, ()) = laws_markText.t k (laws_markText.V0 k a0 k) a0 := by kernel_rfl
theorem laws_markText.eq (k : Nat) (a0 : Int) : run (laws_markText.E k) Try.f81 [.val (.int .i64)] [.str] true false (a0, ()) = laws_markText.f k a0 := by
  rw [laws_markText.q, laws_markText.e0]
  rfl
theorem laws_markText.ctr (k : Nat) : Ctr Try.prog 81 ⟨[.val (.int .i64)], [.str], true, false, fun x => laws_markText.f k x.1⟩ :=
  run_ctr (E := laws_markText.E k) mixed tb_ok (eqOk_of tb_eqs) Cts.nil (by kernel_rfl) Try.func81 (by kernel_rfl) rfl (fun ⟨a0, _⟩ r h => (laws_markText.eq k a0).trans h)
def laws_markPairS.E (k : Nat) : Env := ⟨tb, [(81, ⟨[.val (.int .i64)], [.str], true, false, fun x => laws_markText.f k x.1⟩)], [(2, [0, 1, 5])], k, 1, []⟩
noncomputable def laws_markPairS.K0 (k : Nat) (a0 : List (Ty.den TPair)) (a1 : Int) : Ex → St → Option ((List (Ty.den TPair)) × Int × Unit) := runK (laws_markPairS.E k) (endK (laws_markPairS.E k) Try.f25.results.toList [.lend (.slice TPair), .val (.int .i64)] (a0, a1, ()) [(.int .i64)] true false) [.blk 0, .code (at_ [true, true] (body Try.f25))]
noncomputable def laws_markPairS.B0 (k : Nat) (a0 : List (Ty.den TPair)) (a1 : Int) (n0 : Nat) : Ex → St → Option ((List (Ty.den TPair)) × Int × Unit) := fun e st => match e with
  | .normal => loopN (exec (laws_markPairS.E k) (at_ [true, false, true, false, false] (body Try.f25))) (canon 1 [0, 1, 5]) (laws_markPairS.K0 k a0 a1) n0 (canon 1 [0, 1, 5] st)
  | .ret => laws_markPairS.K0 k a0 a1 .ret st
  | .exit j => laws_markPairS.K0 k a0 a1 (.exit j) st
noncomputable def laws_markPairS.V0 (k : Nat) (a0 : List (Ty.den TPair)) (a1 : Int) (n0 : Nat) (x0_0 : Int) (x0_1 : Int) (x0_2 : List (Ty.den TPair)) : Option ((List (Ty.den TPair)) × Int × Unit) := loopN (exec (laws_markPairS.E k) (at_ [true, false, true, false, false] (body Try.f25))) (canon 1 [0, 1, 5]) (laws_markPairS.K0 k a0 a1) n0 (mk 36 1 [(0, .ref 0), (1, .int .i64 x0_0), (5, .int .i64 x0_1)] [(0, .own false TPair x0_2)])
theorem laws_markPairS.s0 (k : Nat) (a0 : List (Ty.den TPair)) (a1 : Int) (n0 : Nat) (x0_0 : Int) (x0_1 : Int) (x0_2 : List (Ty.den TPair)) : laws_markPairS.V0 k a0 a1 (n0 + 1) x0_0 x0_1 x0_2 = laws_markPairS.b0 k a0 a1 (laws_markPairS.V0 k a0 a1 n0) x0_0 x0_1 x0_2 := by kernel_rfl
theorem laws_markPairS.e0 (k : Nat) (a0 : List (Ty.den TPair)) (a1 : Int) (n0 : Nat) : laws_markPairS.V0 k a0 a1 n0 = laws_markPairS.l0 k a0 a1 n0 := by
  induction n0 with
  | zero => rfl
  | succ n0 ih =>
    have h : laws_markPairS.V0 k a0 a1 (n0 + 1) = laws_markPairS.b0 k a0 a1 (laws_markPairS.V0 k a0 a1 n0) := funext fun x0_0 => funext fun x0_1 => funext fun x0_2 => laws_markPairS.s0 k a0 a1 n0 x0_0 x0_1 x0_2
    rw [h, ih]
    rfl
theorem laws_markPairS.q (k : Nat) (a0 : List (Ty.den TPair)) (a1 : Int) : run (laws_markPairS.E k) Try.f25 [.lend (.slice TPair), .val (.int .i64)] [(.int .i64)] true false (a0, a1, ()) = laws_markPairS.t k (laws_markPairS.V0 k a0 a1 k) a0 a1 := by kernel_rfl
theorem laws_markPairS.eq (k : Nat) (a0 : List (Ty.den TPair)) (a1 : Int) : run (laws_markPairS.E k) Try.f25 [.lend (.slice TPair), .val (.int .i64)] [(.int .i64)] true false (a0, a1, ()) = laws_markPairS.f k a0 a1 := by
  rw [laws_markPairS.q, laws_markPairS.e0]
  rfl
theorem laws_markPairS.ctr (k : Nat) : Ctr Try.prog 25 ⟨[.lend (.slice TPair), .val (.int .i64)], [(.int .i64)], true, false, fun x => laws_markPairS.f k x.1 x.2.1⟩ :=
  run_ctr (E := laws_markPairS.E k) mixed tb_ok (eqOk_of tb_eqs) (Cts.cons (laws_markText.ctr k) Cts.nil) (by kernel_rfl) Try.func25 (by kernel_rfl) rfl (fun ⟨a0, a1, _⟩ r h => (laws_markPairS.eq k a0 a1).trans h)
def laws_heldPairS.E (k : Nat) : Env := ⟨tb, [(81, ⟨[.val (.int .i64)], [.str], true, false, fun x => laws_markText.f k x.1⟩)], [(2, [0, 1, 5])], k, 0, []⟩
noncomputable def laws_heldPairS.K0 (k : Nat) (a0 : List (Ty.den TPair)) (a1 : Int) : Ex → St → Option (Int × Unit) := runK (laws_heldPairS.E k) (endK (laws_heldPairS.E k) Try.f26.results.toList [.val (.slice TPair), .val (.int .i64)] (a0, a1, ()) [(.int .i64)] true false) [.blk 0, .code (at_ [true, true] (body Try.f26))]
noncomputable def laws_heldPairS.B0 (k : Nat) (a0 : List (Ty.den TPair)) (a1 : Int) (n0 : Nat) : Ex → St → Option (Int × Unit) := fun e st => match e with
  | .normal => loopN (exec (laws_heldPairS.E k) (at_ [true, false, true, false, false] (body Try.f26))) (canon 0 [0, 1, 5]) (laws_heldPairS.K0 k a0 a1) n0 (canon 0 [0, 1, 5] st)
  | .ret => laws_heldPairS.K0 k a0 a1 .ret st
  | .exit j => laws_heldPairS.K0 k a0 a1 (.exit j) st
noncomputable def laws_heldPairS.V0 (k : Nat) (a0 : List (Ty.den TPair)) (a1 : Int) (n0 : Nat) (x0_0 : List (Ty.den TPair)) (x0_1 : Int) (x0_2 : Int) : Option (Int × Unit) := loopN (exec (laws_heldPairS.E k) (at_ [true, false, true, false, false] (body Try.f26))) (canon 0 [0, 1, 5]) (laws_heldPairS.K0 k a0 a1) n0 (mk 42 0 [(0, .sl true TPair x0_0), (1, .int .i64 x0_1), (5, .int .i64 x0_2)] [])
theorem laws_heldPairS.s0 (k : Nat) (a0 : List (Ty.den TPair)) (a1 : Int) (n0 : Nat) (x0_0 : List (Ty.den TPair)) (x0_1 : Int) (x0_2 : Int) : laws_heldPairS.V0 k a0 a1 (n0 + 1) x0_0 x0_1 x0_2 = laws_heldPairS.b0 k (laws_heldPairS.V0 k a0 a1 n0) x0_0 x0_1 x0_2 := by kernel_rfl
theorem laws_heldPairS.e0 (k : Nat) (a0 : List (Ty.den TPair)) (a1 : Int) (n0 : Nat) : laws_heldPairS.V0 k a0 a1 n0 = laws_heldPairS.l0 k n0 := by
  induction n0 with
  | zero => rfl
  | succ n0 ih =>
    have h : laws_heldPairS.V0 k a0 a1 (n0 + 1) = laws_heldPairS.b0 k (laws_heldPairS.V0 k a0 a1 n0) := funext fun x0_0 => funext fun x0_1 => funext fun x0_2 => laws_heldPairS.s0 k a0 a1 n0 x0_0 x0_1 x0_2
    rw [h, ih]
    rfl
theorem laws_heldPairS.q (k : Nat) (a0 : List (Ty.den TPair)) (a1 : Int) : run (laws_heldPairS.E k) Try.f26 [.val (.slice TPair), .val (.int .i64)] [(.int .i64)] true false (a0, a1, ()) = laws_heldPairS.t k (laws_heldPairS.V0 k a0 a1 k) a0 a1 := by kernel_rfl
theorem laws_heldPairS.eq (k : Nat) (a0 : List (Ty.den TPair)) (a1 : Int) : run (laws_heldPairS.E k) Try.f26 [.val (.slice TPair), .val (.int .i64)] [(.int .i64)] true false (a0, a1, ()) = laws_heldPairS.f k a0 a1 := by
  rw [laws_heldPairS.q, laws_heldPairS.e0]
  rfl
theorem laws_heldPairS.ctr (k : Nat) : Ctr Try.prog 26 ⟨[.val (.slice TPair), .val (.int .i64)], [(.int .i64)], true, false, fun x => laws_heldPairS.f k x.1 x.2.1⟩ :=
  run_ctr (E := laws_heldPairS.E k) mixed tb_ok (eqOk_of tb_eqs) (Cts.cons (laws_markText.ctr k) Cts.nil) (by kernel_rfl) Try.func26 (by kernel_rfl) rfl (fun ⟨a0, a1, _⟩ r h => (laws_heldPairS.eq k a0 a1).trans h)
def laws_FnExactReadPairs.E (k : Nat) : Env := ⟨tb, [(36, ⟨[.val .str], [(.slice TPair), .bool], true, false, fun x => spec_ReadPairs.f k x.1⟩), (37, ⟨[.val .str], [(.slice TPair), .bool], true, false, fun x => impl_ReadPairs.f k x.1⟩), (23, ⟨[.val (.slice TPair), .val (.slice TPair)], [.bool], true, false, fun x => laws_eqPairS.f k x.1 x.2.1⟩), (25, ⟨[.lend (.slice TPair), .val (.int .i64)], [(.int .i64)], true, false, fun x => laws_markPairS.f k x.1 x.2.1⟩), (26, ⟨[.val (.slice TPair), .val (.int .i64)], [(.int .i64)], true, false, fun x => laws_heldPairS.f k x.1 x.2.1⟩)], [], k, 0, []⟩
theorem laws_FnExactReadPairs.q (k : Nat) (a0 : ByteArray) : run (laws_FnExactReadPairs.E k) Try.f7 [.val .str] [.bool] true false (a0, ()) = laws_FnExactReadPairs.t k a0 := by kernel_rfl
theorem laws_FnExactReadPairs.eq (k : Nat) (a0 : ByteArray) : run (laws_FnExactReadPairs.E k) Try.f7 [.val .str] [.bool] true false (a0, ()) = laws_FnExactReadPairs.f k a0 := by
  rw [laws_FnExactReadPairs.q]
  rfl
theorem laws_FnExactReadPairs.ctr (k : Nat) : Ctr Try.prog 7 ⟨[.val .str], [.bool], true, false, fun x => laws_FnExactReadPairs.f k x.1⟩ :=
  run_ctr (E := laws_FnExactReadPairs.E k) mixed tb_ok (eqOk_of tb_eqs) (Cts.cons (spec_ReadPairs.ctr k) (Cts.cons (impl_ReadPairs.ctr k) (Cts.cons (laws_eqPairS.ctr k) (Cts.cons (laws_markPairS.ctr k) (Cts.cons (laws_heldPairS.ctr k) Cts.nil))))) (by kernel_rfl) Try.func7 (by kernel_rfl) rfl (fun ⟨a0, _⟩ r h => (laws_FnExactReadPairs.eq k a0).trans h)
def laws_szPiece.E (k : Nat) : Env := ⟨tb, [], [], k, 0, []⟩
theorem laws_szPiece.q (k : Nat) (a0 : Ty.den TPiece) (a1 : Int) : run (laws_szPiece.E k) Try.f181 [.val TPiece, .val (.int .i64)] [(.int .i64)] true false (a0, a1, ()) = laws_szPiece.t k a0 a1 := by kernel_rfl
theorem laws_szPiece.eq (k : Nat) (a0 : Ty.den TPiece) (a1 : Int) : run (laws_szPiece.E k) Try.f181 [.val TPiece, .val (.int .i64)] [(.int .i64)] true false (a0, a1, ()) = laws_szPiece.f k a0 a1 := by
  rw [laws_szPiece.q]
  rfl
theorem laws_szPiece.ctr (k : Nat) : Ctr Try.prog 181 ⟨[.val TPiece, .val (.int .i64)], [(.int .i64)], true, false, fun x => laws_szPiece.f k x.1 x.2.1⟩ :=
  run_ctr (E := laws_szPiece.E k) mixed tb_ok (eqOk_of tb_eqs) Cts.nil (by kernel_rfl) Try.func181 (by kernel_rfl) rfl (fun ⟨a0, a1, _⟩ r h => (laws_szPiece.eq k a0 a1).trans h)
def laws_szPieceS.E (k : Nat) : Env := ⟨tb, [(181, ⟨[.val TPiece, .val (.int .i64)], [(.int .i64)], true, false, fun x => laws_szPiece.f k x.1 x.2.1⟩)], [(5, [0, 1, 5])], k, 0, []⟩
noncomputable def laws_szPieceS.K0 (k : Nat) (a0 : List (Ty.den TPiece)) (a1 : Int) : Ex → St → Option (Int × Unit) := runK (laws_szPieceS.E k) (endK (laws_szPieceS.E k) Try.f117.results.toList [.val (.slice TPiece), .val (.int .i64)] (a0, a1, ()) [(.int .i64)] true false) [.blk 0, .code (at_ [true, true, true, true] (body Try.f117))]
noncomputable def laws_szPieceS.B0 (k : Nat) (a0 : List (Ty.den TPiece)) (a1 : Int) (n0 : Nat) : Ex → St → Option (Int × Unit) := fun e st => match e with
  | .normal => loopN (exec (laws_szPieceS.E k) (at_ [true, true, true, false, true, false, false] (body Try.f117))) (canon 0 [0, 1, 5]) (laws_szPieceS.K0 k a0 a1) n0 (canon 0 [0, 1, 5] st)
  | .ret => laws_szPieceS.K0 k a0 a1 .ret st
  | .exit j => laws_szPieceS.K0 k a0 a1 (.exit j) st
noncomputable def laws_szPieceS.V0 (k : Nat) (a0 : List (Ty.den TPiece)) (a1 : Int) (n0 : Nat) (x0_0 : List (Ty.den TPiece)) (x0_1 : Int) (x0_2 : Int) : Option (Int × Unit) := loopN (exec (laws_szPieceS.E k) (at_ [true, true, true, false, true, false, false] (body Try.f117))) (canon 0 [0, 1, 5]) (laws_szPieceS.K0 k a0 a1) n0 (mk 27 0 [(0, .sl true TPiece x0_0), (1, .int .i64 x0_1), (5, .int .i64 x0_2)] [])
theorem laws_szPieceS.s0 (k : Nat) (a0 : List (Ty.den TPiece)) (a1 : Int) (n0 : Nat) (x0_0 : List (Ty.den TPiece)) (x0_1 : Int) (x0_2 : Int) : laws_szPieceS.V0 k a0 a1 (n0 + 1) x0_0 x0_1 x0_2 = laws_szPieceS.b0 k (laws_szPieceS.V0 k a0 a1 n0) x0_0 x0_1 x0_2 := by kernel_rfl
theorem laws_szPieceS.e0 (k : Nat) (a0 : List (Ty.den TPiece)) (a1 : Int) (n0 : Nat) : laws_szPieceS.V0 k a0 a1 n0 = laws_szPieceS.l0 k n0 := by
  induction n0 with
  | zero => rfl
  | succ n0 ih =>
    have h : laws_szPieceS.V0 k a0 a1 (n0 + 1) = laws_szPieceS.b0 k (laws_szPieceS.V0 k a0 a1 n0) := funext fun x0_0 => funext fun x0_1 => funext fun x0_2 => laws_szPieceS.s0 k a0 a1 n0 x0_0 x0_1 x0_2
    rw [h, ih]
    rfl
theorem laws_szPieceS.q (k : Nat) (a0 : List (Ty.den TPiece)) (a1 : Int) : run (laws_szPieceS.E k) Try.f117 [.val (.slice TPiece), .val (.int .i64)] [(.int .i64)] true false (a0, a1, ()) = laws_szPieceS.t k (laws_szPieceS.V0 k a0 a1 k) a0 a1 := by kernel_rfl
theorem laws_szPieceS.eq (k : Nat) (a0 : List (Ty.den TPiece)) (a1 : Int) : run (laws_szPieceS.E k) Try.f117 [.val (.slice TPiece), .val (.int .i64)] [(.int .i64)] true false (a0, a1, ()) = laws_szPieceS.f k a0 a1 := by
  rw [laws_szPieceS.q, laws_szPieceS.e0]
  rfl
theorem laws_szPieceS.ctr (k : Nat) : Ctr Try.prog 117 ⟨[.val (.slice TPiece), .val (.int .i64)], [(.int .i64)], true, false, fun x => laws_szPieceS.f k x.1 x.2.1⟩ :=
  run_ctr (E := laws_szPieceS.E k) mixed tb_ok (eqOk_of tb_eqs) (Cts.cons (laws_szPiece.ctr k) Cts.nil) (by kernel_rfl) Try.func117 (by kernel_rfl) rfl (fun ⟨a0, a1, _⟩ r h => (laws_szPieceS.eq k a0 a1).trans h)
def laws_szFollower.E (k : Nat) : Env := ⟨tb, [(117, ⟨[.val (.slice TPiece), .val (.int .i64)], [(.int .i64)], true, false, fun x => laws_szPieceS.f k x.1 x.2.1⟩)], [], k, 0, []⟩
theorem laws_szFollower.q (k : Nat) (a0 : Ty.den TFollower) (a1 : Int) : run (laws_szFollower.E k) Try.f49 [.val TFollower, .val (.int .i64)] [(.int .i64)] true false (a0, a1, ()) = laws_szFollower.t k a0 a1 := by kernel_rfl
theorem laws_szFollower.eq (k : Nat) (a0 : Ty.den TFollower) (a1 : Int) : run (laws_szFollower.E k) Try.f49 [.val TFollower, .val (.int .i64)] [(.int .i64)] true false (a0, a1, ()) = laws_szFollower.f k a0 a1 := by
  rw [laws_szFollower.q]
  rfl
theorem laws_szFollower.ctr (k : Nat) : Ctr Try.prog 49 ⟨[.val TFollower, .val (.int .i64)], [(.int .i64)], true, false, fun x => laws_szFollower.f k x.1 x.2.1⟩ :=
  run_ctr (E := laws_szFollower.E k) mixed tb_ok (eqOk_of tb_eqs) (Cts.cons (laws_szPieceS.ctr k) Cts.nil) (by kernel_rfl) Try.func49 (by kernel_rfl) rfl (fun ⟨a0, a1, _⟩ r h => (laws_szFollower.eq k a0 a1).trans h)
def laws_toPiece.E (k : Nat) : Env := ⟨tb, [], [], k, 0, []⟩
theorem laws_toPiece.q (k : Nat) (a0 : Ty.den TPiece) : run (laws_toPiece.E k) Try.f182 [.val TPiece] [TPiece] true false (a0, ()) = laws_toPiece.t k a0 := by kernel_rfl
theorem laws_toPiece.eq (k : Nat) (a0 : Ty.den TPiece) : run (laws_toPiece.E k) Try.f182 [.val TPiece] [TPiece] true false (a0, ()) = laws_toPiece.f k a0 := by
  rw [laws_toPiece.q]
  rfl
theorem laws_toPiece.ctr (k : Nat) : Ctr Try.prog 182 ⟨[.val TPiece], [TPiece], true, false, fun x => laws_toPiece.f k x.1⟩ :=
  run_ctr (E := laws_toPiece.E k) mixed tb_ok (eqOk_of tb_eqs) Cts.nil (by kernel_rfl) Try.func182 (by kernel_rfl) rfl (fun ⟨a0, _⟩ r h => (laws_toPiece.eq k a0).trans h)
def laws_toPieceS.E (k : Nat) : Env := ⟨tb, [(182, ⟨[.val TPiece], [TPiece], true, false, fun x => laws_toPiece.f k x.1⟩)], [(3, [0, 3, 4])], k, 0, []⟩
noncomputable def laws_toPieceS.K0 (k : Nat) (a0 : List (Ty.den TPiece)) : Ex → St → Option ((List (Ty.den TPiece)) × Unit) := runK (laws_toPieceS.E k) (endK (laws_toPieceS.E k) Try.f121.results.toList [.val (.slice TPiece)] (a0, ()) [(.slice TPiece)] true false) [.blk 0, .code (at_ [true, true, true] (body Try.f121))]
noncomputable def laws_toPieceS.B0 (k : Nat) (a0 : List (Ty.den TPiece)) (n0 : Nat) : Ex → St → Option ((List (Ty.den TPiece)) × Unit) := fun e st => match e with
  | .normal => loopN (exec (laws_toPieceS.E k) (at_ [true, true, false, true, false, false] (body Try.f121))) (canon 0 [0, 3, 4]) (laws_toPieceS.K0 k a0) n0 (canon 0 [0, 3, 4] st)
  | .ret => laws_toPieceS.K0 k a0 .ret st
  | .exit j => laws_toPieceS.K0 k a0 (.exit j) st
noncomputable def laws_toPieceS.V0 (k : Nat) (a0 : List (Ty.den TPiece)) (n0 : Nat) (x0_0 : List (Ty.den TPiece)) (x0_1 : Int) (x0_2 : List (Ty.den TPiece)) : Option ((List (Ty.den TPiece)) × Unit) := loopN (exec (laws_toPieceS.E k) (at_ [true, true, false, true, false, false] (body Try.f121))) (canon 0 [0, 3, 4]) (laws_toPieceS.K0 k a0) n0 (mk 23 1 [(0, .sl true TPiece x0_0), (3, .ref 0), (4, .int .i64 x0_1)] [(0, .own false TPiece x0_2)])
theorem laws_toPieceS.s0 (k : Nat) (a0 : List (Ty.den TPiece)) (n0 : Nat) (x0_0 : List (Ty.den TPiece)) (x0_1 : Int) (x0_2 : List (Ty.den TPiece)) : laws_toPieceS.V0 k a0 (n0 + 1) x0_0 x0_1 x0_2 = laws_toPieceS.b0 k (laws_toPieceS.V0 k a0 n0) x0_0 x0_1 x0_2 := by kernel_rfl
theorem laws_toPieceS.e0 (k : Nat) (a0 : List (Ty.den TPiece)) (n0 : Nat) : laws_toPieceS.V0 k a0 n0 = laws_toPieceS.l0 k n0 := by
  induction n0 with
  | zero => rfl
  | succ n0 ih =>
    have h : laws_toPieceS.V0 k a0 (n0 + 1) = laws_toPieceS.b0 k (laws_toPieceS.V0 k a0 n0) := funext fun x0_0 => funext fun x0_1 => funext fun x0_2 => laws_toPieceS.s0 k a0 n0 x0_0 x0_1 x0_2
    rw [h, ih]
    rfl
theorem laws_toPieceS.q (k : Nat) (a0 : List (Ty.den TPiece)) : run (laws_toPieceS.E k) Try.f121 [.val (.slice TPiece)] [(.slice TPiece)] true false (a0, ()) = laws_toPieceS.t k (laws_toPieceS.V0 k a0 k) a0 := by kernel_rfl
theorem laws_toPieceS.eq (k : Nat) (a0 : List (Ty.den TPiece)) : run (laws_toPieceS.E k) Try.f121 [.val (.slice TPiece)] [(.slice TPiece)] true false (a0, ()) = laws_toPieceS.f k a0 := by
  rw [laws_toPieceS.q, laws_toPieceS.e0]
  rfl
theorem laws_toPieceS.ctr (k : Nat) : Ctr Try.prog 121 ⟨[.val (.slice TPiece)], [(.slice TPiece)], true, false, fun x => laws_toPieceS.f k x.1⟩ :=
  run_ctr (E := laws_toPieceS.E k) mixed tb_ok (eqOk_of tb_eqs) (Cts.cons (laws_toPiece.ctr k) Cts.nil) (by kernel_rfl) Try.func121 (by kernel_rfl) rfl (fun ⟨a0, _⟩ r h => (laws_toPieceS.eq k a0).trans h)
def laws_toFollower.E (k : Nat) : Env := ⟨tb, [(121, ⟨[.val (.slice TPiece)], [(.slice TPiece)], true, false, fun x => laws_toPieceS.f k x.1⟩)], [], k, 0, []⟩
theorem laws_toFollower.q (k : Nat) (a0 : Ty.den TFollower) : run (laws_toFollower.E k) Try.f51 [.val TFollower] [TFollower] true false (a0, ()) = laws_toFollower.t k a0 := by kernel_rfl
theorem laws_toFollower.eq (k : Nat) (a0 : Ty.den TFollower) : run (laws_toFollower.E k) Try.f51 [.val TFollower] [TFollower] true false (a0, ()) = laws_toFollower.f k a0 := by
  rw [laws_toFollower.q]
  rfl
theorem laws_toFollower.ctr (k : Nat) : Ctr Try.prog 51 ⟨[.val TFollower], [TFollower], true, false, fun x => laws_toFollower.f k x.1⟩ :=
  run_ctr (E := laws_toFollower.E k) mixed tb_ok (eqOk_of tb_eqs) (Cts.cons (laws_toPieceS.ctr k) Cts.nil) (by kernel_rfl) Try.func51 (by kernel_rfl) rfl (fun ⟨a0, _⟩ r h => (laws_toFollower.eq k a0).trans h)
def spec_l11Places.E (k : Nat) : Env := ⟨tb, [(101, ⟨[.val .str], [(.slice TSpot), (.int .i64)], true, false, fun x => spec_ScanRecs.f k x.1⟩)], [(4, [0, 5, 6, 8])], k, 0, []⟩
noncomputable def spec_l11Places.K0 (k : Nat) (a0 : Int) (a1 : ByteArray) : Ex → St → Option ((List (Ty.den TPlace)) × Unit) := runK (spec_l11Places.E k) (endK (spec_l11Places.E k) Try.f118.results.toList [.val (.int .i64), .val .str] (a0, a1, ()) [(.slice TPlace)] true false) [.blk 0, .code (at_ [true, true, true, true] (body Try.f118))]
noncomputable def spec_l11Places.B0 (k : Nat) (a0 : Int) (a1 : ByteArray) (n0 : Nat) : Ex → St → Option ((List (Ty.den TPlace)) × Unit) := fun e st => match e with
  | .normal => loopN (exec (spec_l11Places.E k) (at_ [true, true, true, false, true, false, false] (body Try.f118))) (canon 0 [0, 5, 6, 8]) (spec_l11Places.K0 k a0 a1) n0 (canon 0 [0, 5, 6, 8] st)
  | .ret => spec_l11Places.K0 k a0 a1 .ret st
  | .exit j => spec_l11Places.K0 k a0 a1 (.exit j) st
noncomputable def spec_l11Places.V0 (k : Nat) (a0 : Int) (a1 : ByteArray) (n0 : Nat) (x0_0 : Int) (x0_1 : Int) (x0_2 : List (Ty.den TPlace)) (x0_3 : List (Ty.den TSpot)) : Option ((List (Ty.den TPlace)) × Unit) := loopN (exec (spec_l11Places.E k) (at_ [true, true, true, false, true, false, false] (body Try.f118))) (canon 0 [0, 5, 6, 8]) (spec_l11Places.K0 k a0 a1) n0 (mk 42 2 [(0, .int .i64 x0_0), (5, .ref 0), (6, .ref 1), (8, .int .i64 x0_1)] [(0, .own false TPlace x0_2), (1, .own false TSpot x0_3)])
theorem spec_l11Places.s0 (k : Nat) (a0 : Int) (a1 : ByteArray) (n0 : Nat) (x0_0 : Int) (x0_1 : Int) (x0_2 : List (Ty.den TPlace)) (x0_3 : List (Ty.den TSpot)) : spec_l11Places.V0 k a0 a1 (n0 + 1) x0_0 x0_1 x0_2 x0_3 = spec_l11Places.b0 k (spec_l11Places.V0 k a0 a1 n0) x0_0 x0_1 x0_2 x0_3 := by kernel_rfl
theorem spec_l11Places.e0 (k : Nat) (a0 : Int) (a1 : ByteArray) (n0 : Nat) : spec_l11Places.V0 k a0 a1 n0 = spec_l11Places.l0 k n0 := by
  induction n0 with
  | zero => rfl
  | succ n0 ih =>
    have h : spec_l11Places.V0 k a0 a1 (n0 + 1) = spec_l11Places.b0 k (spec_l11Places.V0 k a0 a1 n0) := funext fun x0_0 => funext fun x0_1 => funext fun x0_2 => funext fun x0_3 => spec_l11Places.s0 k a0 a1 n0 x0_0 x0_1 x0_2 x0_3
    rw [h, ih]
    rfl
theorem spec_l11Places.q (k : Nat) (a0 : Int) (a1 : ByteArray) : run (spec_l11Places.E k) Try.f118 [.val (.int .i64), .val .str] [(.slice TPlace)] true false (a0, a1, ()) = spec_l11Places.t k (spec_l11Places.V0 k a0 a1 k) a0 a1 := by kernel_rfl
theorem spec_l11Places.eq (k : Nat) (a0 : Int) (a1 : ByteArray) : run (spec_l11Places.E k) Try.f118 [.val (.int .i64), .val .str] [(.slice TPlace)] true false (a0, a1, ()) = spec_l11Places.f k a0 a1 := by
  rw [spec_l11Places.q, spec_l11Places.e0]
  rfl
theorem spec_l11Places.ctr (k : Nat) : Ctr Try.prog 118 ⟨[.val (.int .i64), .val .str], [(.slice TPlace)], true, false, fun x => spec_l11Places.f k x.1 x.2.1⟩ :=
  run_ctr (E := spec_l11Places.E k) mixed tb_ok (eqOk_of tb_eqs) (Cts.cons (spec_ScanRecs.ctr k) Cts.nil) (by kernel_rfl) Try.func118 (by kernel_rfl) rfl (fun ⟨a0, a1, _⟩ r h => (spec_l11Places.eq k a0 a1).trans h)
def spec_l9Of.E (k : Nat) : Env := ⟨tb, [], [(3, [0, 1, 2, 7, 8])], k, 0, []⟩
noncomputable def spec_l9Of.K0 (k : Nat) (a0 : List (Ty.den TPlace)) (a1 : Int) (a2 : Int) : Ex → St → Option ((List (Ty.den TPlace)) × Unit) := runK (spec_l9Of.E k) (endK (spec_l9Of.E k) Try.f135.results.toList [.val (.slice TPlace), .val (.int .i64), .val (.int .i64)] (a0, a1, a2, ()) [(.slice TPlace)] true false) [.blk 0, .code (at_ [true, true, true] (body Try.f135))]
noncomputable def spec_l9Of.B0 (k : Nat) (a0 : List (Ty.den TPlace)) (a1 : Int) (a2 : Int) (n0 : Nat) : Ex → St → Option ((List (Ty.den TPlace)) × Unit) := fun e st => match e with
  | .normal => loopN (exec (spec_l9Of.E k) (at_ [true, true, false, true, false, false] (body Try.f135))) (canon 0 [0, 1, 2, 7, 8]) (spec_l9Of.K0 k a0 a1 a2) n0 (canon 0 [0, 1, 2, 7, 8] st)
  | .ret => spec_l9Of.K0 k a0 a1 a2 .ret st
  | .exit j => spec_l9Of.K0 k a0 a1 a2 (.exit j) st
noncomputable def spec_l9Of.V0 (k : Nat) (a0 : List (Ty.den TPlace)) (a1 : Int) (a2 : Int) (n0 : Nat) (x0_0 : List (Ty.den TPlace)) (x0_1 : Int) (x0_2 : Int) (x0_3 : Int) (x0_4 : List (Ty.den TPlace)) : Option ((List (Ty.den TPlace)) × Unit) := loopN (exec (spec_l9Of.E k) (at_ [true, true, false, true, false, false] (body Try.f135))) (canon 0 [0, 1, 2, 7, 8]) (spec_l9Of.K0 k a0 a1 a2) n0 (mk 53 1 [(0, .sl true TPlace x0_0), (1, .int .i64 x0_1), (2, .int .i64 x0_2), (7, .ref 0), (8, .int .i64 x0_3)] [(0, .own false TPlace x0_4)])
theorem spec_l9Of.s0 (k : Nat) (a0 : List (Ty.den TPlace)) (a1 : Int) (a2 : Int) (n0 : Nat) (x0_0 : List (Ty.den TPlace)) (x0_1 : Int) (x0_2 : Int) (x0_3 : Int) (x0_4 : List (Ty.den TPlace)) : spec_l9Of.V0 k a0 a1 a2 (n0 + 1) x0_0 x0_1 x0_2 x0_3 x0_4 = spec_l9Of.b0 k (spec_l9Of.V0 k a0 a1 a2 n0) x0_0 x0_1 x0_2 x0_3 x0_4 := by kernel_rfl
theorem spec_l9Of.e0 (k : Nat) (a0 : List (Ty.den TPlace)) (a1 : Int) (a2 : Int) (n0 : Nat) : spec_l9Of.V0 k a0 a1 a2 n0 = spec_l9Of.l0 k n0 := by
  induction n0 with
  | zero => rfl
  | succ n0 ih =>
    have h : spec_l9Of.V0 k a0 a1 a2 (n0 + 1) = spec_l9Of.b0 k (spec_l9Of.V0 k a0 a1 a2 n0) := funext fun x0_0 => funext fun x0_1 => funext fun x0_2 => funext fun x0_3 => funext fun x0_4 => spec_l9Of.s0 k a0 a1 a2 n0 x0_0 x0_1 x0_2 x0_3 x0_4
    rw [h, ih]
    rfl
theorem spec_l9Of.q (k : Nat) (a0 : List (Ty.den TPlace)) (a1 : Int) (a2 : Int) : run (spec_l9Of.E k) Try.f135 [.val (.slice TPlace), .val (.int .i64), .val (.int .i64)] [(.slice TPlace)] true false (a0, a1, a2, ()) = spec_l9Of.t k (spec_l9Of.V0 k a0 a1 a2 k) a0 a1 a2 := by kernel_rfl
theorem spec_l9Of.eq (k : Nat) (a0 : List (Ty.den TPlace)) (a1 : Int) (a2 : Int) : run (spec_l9Of.E k) Try.f135 [.val (.slice TPlace), .val (.int .i64), .val (.int .i64)] [(.slice TPlace)] true false (a0, a1, a2, ()) = spec_l9Of.f k a0 a1 a2 := by
  rw [spec_l9Of.q, spec_l9Of.e0]
  rfl
theorem spec_l9Of.ctr (k : Nat) : Ctr Try.prog 135 ⟨[.val (.slice TPlace), .val (.int .i64), .val (.int .i64)], [(.slice TPlace)], true, false, fun x => spec_l9Of.f k x.1 x.2.1 x.2.2.1⟩ :=
  run_ctr (E := spec_l9Of.E k) mixed tb_ok (eqOk_of tb_eqs) Cts.nil (by kernel_rfl) Try.func135 (by kernel_rfl) rfl (fun ⟨a0, a1, a2, _⟩ r h => (spec_l9Of.eq k a0 a1 a2).trans h)
def spec_l9Recs.E (k : Nat) : Env := ⟨tb, [], [(3, [0, 3, 4])], k, 0, []⟩
noncomputable def spec_l9Recs.K0 (k : Nat) (a0 : List (Ty.den TPlace)) : Ex → St → Option ((List (Ty.den TRec)) × Unit) := runK (spec_l9Recs.E k) (endK (spec_l9Recs.E k) Try.f189.results.toList [.val (.slice TPlace)] (a0, ()) [(.slice TRec)] true false) [.blk 0, .code (at_ [true, true, true] (body Try.f189))]
noncomputable def spec_l9Recs.B0 (k : Nat) (a0 : List (Ty.den TPlace)) (n0 : Nat) : Ex → St → Option ((List (Ty.den TRec)) × Unit) := fun e st => match e with
  | .normal => loopN (exec (spec_l9Recs.E k) (at_ [true, true, false, true, false, false] (body Try.f189))) (canon 0 [0, 3, 4]) (spec_l9Recs.K0 k a0) n0 (canon 0 [0, 3, 4] st)
  | .ret => spec_l9Recs.K0 k a0 .ret st
  | .exit j => spec_l9Recs.K0 k a0 (.exit j) st
noncomputable def spec_l9Recs.V0 (k : Nat) (a0 : List (Ty.den TPlace)) (n0 : Nat) (x0_0 : List (Ty.den TPlace)) (x0_1 : Int) (x0_2 : List (Ty.den TRec)) : Option ((List (Ty.den TRec)) × Unit) := loopN (exec (spec_l9Recs.E k) (at_ [true, true, false, true, false, false] (body Try.f189))) (canon 0 [0, 3, 4]) (spec_l9Recs.K0 k a0) n0 (mk 21 1 [(0, .sl true TPlace x0_0), (3, .ref 0), (4, .int .i64 x0_1)] [(0, .own false TRec x0_2)])
theorem spec_l9Recs.s0 (k : Nat) (a0 : List (Ty.den TPlace)) (n0 : Nat) (x0_0 : List (Ty.den TPlace)) (x0_1 : Int) (x0_2 : List (Ty.den TRec)) : spec_l9Recs.V0 k a0 (n0 + 1) x0_0 x0_1 x0_2 = spec_l9Recs.b0 k (spec_l9Recs.V0 k a0 n0) x0_0 x0_1 x0_2 := by kernel_rfl
theorem spec_l9Recs.e0 (k : Nat) (a0 : List (Ty.den TPlace)) (n0 : Nat) : spec_l9Recs.V0 k a0 n0 = spec_l9Recs.l0 k n0 := by
  induction n0 with
  | zero => rfl
  | succ n0 ih =>
    have h : spec_l9Recs.V0 k a0 (n0 + 1) = spec_l9Recs.b0 k (spec_l9Recs.V0 k a0 n0) := funext fun x0_0 => funext fun x0_1 => funext fun x0_2 => spec_l9Recs.s0 k a0 n0 x0_0 x0_1 x0_2
    rw [h, ih]
    rfl
theorem spec_l9Recs.q (k : Nat) (a0 : List (Ty.den TPlace)) : run (spec_l9Recs.E k) Try.f189 [.val (.slice TPlace)] [(.slice TRec)] true false (a0, ()) = spec_l9Recs.t k (spec_l9Recs.V0 k a0 k) a0 := by kernel_rfl
theorem spec_l9Recs.eq (k : Nat) (a0 : List (Ty.den TPlace)) : run (spec_l9Recs.E k) Try.f189 [.val (.slice TPlace)] [(.slice TRec)] true false (a0, ()) = spec_l9Recs.f k a0 := by
  rw [spec_l9Recs.q, spec_l9Recs.e0]
  rfl
theorem spec_l9Recs.ctr (k : Nat) : Ctr Try.prog 189 ⟨[.val (.slice TPlace)], [(.slice TRec)], true, false, fun x => spec_l9Recs.f k x.1⟩ :=
  run_ctr (E := spec_l9Recs.E k) mixed tb_ok (eqOk_of tb_eqs) Cts.nil (by kernel_rfl) Try.func189 (by kernel_rfl) rfl (fun ⟨a0, _⟩ r h => (spec_l9Recs.eq k a0).trans h)
def spec_l9Fits.E (k : Nat) : Env := ⟨tb, [(189, ⟨[.val (.slice TPlace)], [(.slice TRec)], true, false, fun x => spec_l9Recs.f k x.1⟩), (154, ⟨[.val (.slice TRec)], [(.int .i64)], true, false, fun x => spec_SumOf.f k x.1⟩)], [], k, 0, []⟩
theorem spec_l9Fits.q (k : Nat) (a0 : Ty.den TRec) (a1 : List (Ty.den TPlace)) : run (spec_l9Fits.E k) Try.f136 [.val TRec, .val (.slice TPlace)] [.bool] true false (a0, a1, ()) = spec_l9Fits.t k a0 a1 := by kernel_rfl
theorem spec_l9Fits.eq (k : Nat) (a0 : Ty.den TRec) (a1 : List (Ty.den TPlace)) : run (spec_l9Fits.E k) Try.f136 [.val TRec, .val (.slice TPlace)] [.bool] true false (a0, a1, ()) = spec_l9Fits.f k a0 a1 := by
  rw [spec_l9Fits.q]
  rfl
theorem spec_l9Fits.ctr (k : Nat) : Ctr Try.prog 136 ⟨[.val TRec, .val (.slice TPlace)], [.bool], true, false, fun x => spec_l9Fits.f k x.1 x.2.1⟩ :=
  run_ctr (E := spec_l9Fits.E k) mixed tb_ok (eqOk_of tb_eqs) (Cts.cons (spec_l9Recs.ctr k) (Cts.cons (spec_SumOf.ctr k) Cts.nil)) (by kernel_rfl) Try.func136 (by kernel_rfl) rfl (fun ⟨a0, a1, _⟩ r h => (spec_l9Fits.eq k a0 a1).trans h)
def spec_DirDrop.E (k : Nat) : Env := ⟨tb, [], [(3, [0, 1, 5, 6])], k, 0, []⟩
noncomputable def spec_DirDrop.K0 (k : Nat) (a0 : List (Ty.den TEntry)) (a1 : ByteArray) : Ex → St → Option ((List (Ty.den TEntry)) × Unit) := runK (spec_DirDrop.E k) (endK (spec_DirDrop.E k) Try.f190.results.toList [.val (.slice TEntry), .val .str] (a0, a1, ()) [(.slice TEntry)] true false) [.blk 0, .code (at_ [true, true, true] (body Try.f190))]
noncomputable def spec_DirDrop.B0 (k : Nat) (a0 : List (Ty.den TEntry)) (a1 : ByteArray) (n0 : Nat) : Ex → St → Option ((List (Ty.den TEntry)) × Unit) := fun e st => match e with
  | .normal => loopN (exec (spec_DirDrop.E k) (at_ [true, true, false, true, false, false] (body Try.f190))) (canon 0 [0, 1, 5, 6]) (spec_DirDrop.K0 k a0 a1) n0 (canon 0 [0, 1, 5, 6] st)
  | .ret => spec_DirDrop.K0 k a0 a1 .ret st
  | .exit j => spec_DirDrop.K0 k a0 a1 (.exit j) st
noncomputable def spec_DirDrop.V0 (k : Nat) (a0 : List (Ty.den TEntry)) (a1 : ByteArray) (n0 : Nat) (x0_0 : List (Ty.den TEntry)) (x0_1 : ByteArray) (x0_2 : Int) (x0_3 : List (Ty.den TEntry)) : Option ((List (Ty.den TEntry)) × Unit) := loopN (exec (spec_DirDrop.E k) (at_ [true, true, false, true, false, false] (body Try.f190))) (canon 0 [0, 1, 5, 6]) (spec_DirDrop.K0 k a0 a1) n0 (mk 29 1 [(0, .sl true TEntry x0_0), (1, .str x0_1), (5, .ref 0), (6, .int .i64 x0_2)] [(0, .own false TEntry x0_3)])
theorem spec_DirDrop.s0 (k : Nat) (a0 : List (Ty.den TEntry)) (a1 : ByteArray) (n0 : Nat) (x0_0 : List (Ty.den TEntry)) (x0_1 : ByteArray) (x0_2 : Int) (x0_3 : List (Ty.den TEntry)) : spec_DirDrop.V0 k a0 a1 (n0 + 1) x0_0 x0_1 x0_2 x0_3 = spec_DirDrop.b0 k (spec_DirDrop.V0 k a0 a1 n0) x0_0 x0_1 x0_2 x0_3 := by kernel_rfl
theorem spec_DirDrop.e0 (k : Nat) (a0 : List (Ty.den TEntry)) (a1 : ByteArray) (n0 : Nat) : spec_DirDrop.V0 k a0 a1 n0 = spec_DirDrop.l0 k n0 := by
  induction n0 with
  | zero => rfl
  | succ n0 ih =>
    have h : spec_DirDrop.V0 k a0 a1 (n0 + 1) = spec_DirDrop.b0 k (spec_DirDrop.V0 k a0 a1 n0) := funext fun x0_0 => funext fun x0_1 => funext fun x0_2 => funext fun x0_3 => spec_DirDrop.s0 k a0 a1 n0 x0_0 x0_1 x0_2 x0_3
    rw [h, ih]
    rfl
theorem spec_DirDrop.q (k : Nat) (a0 : List (Ty.den TEntry)) (a1 : ByteArray) : run (spec_DirDrop.E k) Try.f190 [.val (.slice TEntry), .val .str] [(.slice TEntry)] true false (a0, a1, ()) = spec_DirDrop.t k (spec_DirDrop.V0 k a0 a1 k) a0 a1 := by kernel_rfl
theorem spec_DirDrop.eq (k : Nat) (a0 : List (Ty.den TEntry)) (a1 : ByteArray) : run (spec_DirDrop.E k) Try.f190 [.val (.slice TEntry), .val .str] [(.slice TEntry)] true false (a0, a1, ()) = spec_DirDrop.f k a0 a1 := by
  rw [spec_DirDrop.q, spec_DirDrop.e0]
  rfl
theorem spec_DirDrop.ctr (k : Nat) : Ctr Try.prog 190 ⟨[.val (.slice TEntry), .val .str], [(.slice TEntry)], true, false, fun x => spec_DirDrop.f k x.1 x.2.1⟩ :=
  run_ctr (E := spec_DirDrop.E k) mixed tb_ok (eqOk_of tb_eqs) Cts.nil (by kernel_rfl) Try.func190 (by kernel_rfl) rfl (fun ⟨a0, a1, _⟩ r h => (spec_DirDrop.eq k a0 a1).trans h)
def spec_DirPut.E (k : Nat) : Env := ⟨tb, [], [(4, [0, 3, 5, 6, 7])], k, 0, []⟩
noncomputable def spec_DirPut.K0 (k : Nat) (a0 : List (Ty.den TEntry)) (a1 : Ty.den TEntry) : Ex → St → Option ((List (Ty.den TEntry)) × Unit) := runK (spec_DirPut.E k) (endK (spec_DirPut.E k) Try.f191.results.toList [.val (.slice TEntry), .val TEntry] (a0, a1, ()) [(.slice TEntry)] true false) [.blk 0, .code (at_ [true, true, true, true] (body Try.f191))]
noncomputable def spec_DirPut.B0 (k : Nat) (a0 : List (Ty.den TEntry)) (a1 : Ty.den TEntry) (n0 : Nat) : Ex → St → Option ((List (Ty.den TEntry)) × Unit) := fun e st => match e with
  | .normal => loopN (exec (spec_DirPut.E k) (at_ [true, true, true, false, true, false, false] (body Try.f191))) (canon 0 [0, 3, 5, 6, 7]) (spec_DirPut.K0 k a0 a1) n0 (canon 0 [0, 3, 5, 6, 7] st)
  | .ret => spec_DirPut.K0 k a0 a1 .ret st
  | .exit j => spec_DirPut.K0 k a0 a1 (.exit j) st
noncomputable def spec_DirPut.V0 (k : Nat) (a0 : List (Ty.den TEntry)) (a1 : Ty.den TEntry) (n0 : Nat) (x0_0 : List (Ty.den TEntry)) (x0_1 : Bool) (x0_2 : Int) (x0_3 : ByteArray) (x0_4 : Int) (x0_5 : Int) (x0_6 : Int) (x0_7 : Int) (x0_8 : List (Ty.den TEntry)) : Option ((List (Ty.den TEntry)) × Unit) := loopN (exec (spec_DirPut.E k) (at_ [true, true, true, false, true, false, false] (body Try.f191))) (canon 0 [0, 3, 5, 6, 7]) (spec_DirPut.K0 k a0 a1) n0 (mk 53 2 [(0, .sl true TEntry x0_0), (3, .ptr 0 0 0), (5, .ref 1), (6, .bool x0_1), (7, .int .i64 x0_2)] [(0, .box [.str x0_3, .int .i64 x0_4, .int .i64 x0_5, .int .i64 x0_6, .int .i64 x0_7]), (1, .own false TEntry x0_8)])
theorem spec_DirPut.s0 (k : Nat) (a0 : List (Ty.den TEntry)) (a1 : Ty.den TEntry) (n0 : Nat) (x0_0 : List (Ty.den TEntry)) (x0_1 : Bool) (x0_2 : Int) (x0_3 : ByteArray) (x0_4 : Int) (x0_5 : Int) (x0_6 : Int) (x0_7 : Int) (x0_8 : List (Ty.den TEntry)) : spec_DirPut.V0 k a0 a1 (n0 + 1) x0_0 x0_1 x0_2 x0_3 x0_4 x0_5 x0_6 x0_7 x0_8 = spec_DirPut.b0 k (spec_DirPut.V0 k a0 a1 n0) x0_0 x0_1 x0_2 x0_3 x0_4 x0_5 x0_6 x0_7 x0_8 := by kernel_rfl
theorem spec_DirPut.e0 (k : Nat) (a0 : List (Ty.den TEntry)) (a1 : Ty.den TEntry) (n0 : Nat) : spec_DirPut.V0 k a0 a1 n0 = spec_DirPut.l0 k n0 := by
  induction n0 with
  | zero => rfl
  | succ n0 ih =>
    have h : spec_DirPut.V0 k a0 a1 (n0 + 1) = spec_DirPut.b0 k (spec_DirPut.V0 k a0 a1 n0) := funext fun x0_0 => funext fun x0_1 => funext fun x0_2 => funext fun x0_3 => funext fun x0_4 => funext fun x0_5 => funext fun x0_6 => funext fun x0_7 => funext fun x0_8 => spec_DirPut.s0 k a0 a1 n0 x0_0 x0_1 x0_2 x0_3 x0_4 x0_5 x0_6 x0_7 x0_8
    rw [h, ih]
    rfl
theorem spec_DirPut.q (k : Nat) (a0 : List (Ty.den TEntry)) (a1 : Ty.den TEntry) : run (spec_DirPut.E k) Try.f191 [.val (.slice TEntry), .val TEntry] [(.slice TEntry)] true false (a0, a1, ()) = spec_DirPut.t k (spec_DirPut.V0 k a0 a1 k) a0 a1 := by kernel_rfl
theorem spec_DirPut.eq (k : Nat) (a0 : List (Ty.den TEntry)) (a1 : Ty.den TEntry) : run (spec_DirPut.E k) Try.f191 [.val (.slice TEntry), .val TEntry] [(.slice TEntry)] true false (a0, a1, ()) = spec_DirPut.f k a0 a1 := by
  rw [spec_DirPut.q, spec_DirPut.e0]
  rfl
theorem spec_DirPut.ctr (k : Nat) : Ctr Try.prog 191 ⟨[.val (.slice TEntry), .val TEntry], [(.slice TEntry)], true, false, fun x => spec_DirPut.f k x.1 x.2.1⟩ :=
  run_ctr (E := spec_DirPut.E k) mixed tb_ok (eqOk_of tb_eqs) Cts.nil (by kernel_rfl) Try.func191 (by kernel_rfl) rfl (fun ⟨a0, a1, _⟩ r h => (spec_DirPut.eq k a0 a1).trans h)
def spec_l9Put.E (k : Nat) : Env := ⟨tb, [(190, ⟨[.val (.slice TEntry), .val .str], [(.slice TEntry)], true, false, fun x => spec_DirDrop.f k x.1 x.2.1⟩), (191, ⟨[.val (.slice TEntry), .val TEntry], [(.slice TEntry)], true, false, fun x => spec_DirPut.f k x.1 x.2.1⟩)], [], k, 0, []⟩
theorem spec_l9Put.q (k : Nat) (a0 : List (Ty.den TEntry)) (a1 : Ty.den TPlace) : run (spec_l9Put.E k) Try.f138 [.val (.slice TEntry), .val TPlace] [(.slice TEntry)] true false (a0, a1, ()) = spec_l9Put.t k a0 a1 := by kernel_rfl
theorem spec_l9Put.eq (k : Nat) (a0 : List (Ty.den TEntry)) (a1 : Ty.den TPlace) : run (spec_l9Put.E k) Try.f138 [.val (.slice TEntry), .val TPlace] [(.slice TEntry)] true false (a0, a1, ()) = spec_l9Put.f k a0 a1 := by
  rw [spec_l9Put.q]
  rfl
theorem spec_l9Put.ctr (k : Nat) : Ctr Try.prog 138 ⟨[.val (.slice TEntry), .val TPlace], [(.slice TEntry)], true, false, fun x => spec_l9Put.f k x.1 x.2.1⟩ :=
  run_ctr (E := spec_l9Put.E k) mixed tb_ok (eqOk_of tb_eqs) (Cts.cons (spec_DirDrop.ctr k) (Cts.cons (spec_DirPut.ctr k) Cts.nil)) (by kernel_rfl) Try.func138 (by kernel_rfl) rfl (fun ⟨a0, a1, _⟩ r h => (spec_l9Put.eq k a0 a1).trans h)
def spec_l9Kept.E (k : Nat) : Env := ⟨tb, [], [(3, [0, 1, 5, 6])], k, 0, []⟩
noncomputable def spec_l9Kept.K0 (k : Nat) (a0 : List (Ty.den TPlace)) (a1 : Int) : Ex → St → Option ((List (Ty.den TPlace)) × Unit) := runK (spec_l9Kept.E k) (endK (spec_l9Kept.E k) Try.f137.results.toList [.val (.slice TPlace), .val (.int .i64)] (a0, a1, ()) [(.slice TPlace)] true false) [.blk 0, .code (at_ [true, true, true] (body Try.f137))]
noncomputable def spec_l9Kept.B0 (k : Nat) (a0 : List (Ty.den TPlace)) (a1 : Int) (n0 : Nat) : Ex → St → Option ((List (Ty.den TPlace)) × Unit) := fun e st => match e with
  | .normal => loopN (exec (spec_l9Kept.E k) (at_ [true, true, false, true, false, false] (body Try.f137))) (canon 0 [0, 1, 5, 6]) (spec_l9Kept.K0 k a0 a1) n0 (canon 0 [0, 1, 5, 6] st)
  | .ret => spec_l9Kept.K0 k a0 a1 .ret st
  | .exit j => spec_l9Kept.K0 k a0 a1 (.exit j) st
noncomputable def spec_l9Kept.V0 (k : Nat) (a0 : List (Ty.den TPlace)) (a1 : Int) (n0 : Nat) (x0_0 : List (Ty.den TPlace)) (x0_1 : Int) (x0_2 : Int) (x0_3 : List (Ty.den TPlace)) : Option ((List (Ty.den TPlace)) × Unit) := loopN (exec (spec_l9Kept.E k) (at_ [true, true, false, true, false, false] (body Try.f137))) (canon 0 [0, 1, 5, 6]) (spec_l9Kept.K0 k a0 a1) n0 (mk 36 1 [(0, .sl true TPlace x0_0), (1, .int .i64 x0_1), (5, .ref 0), (6, .int .i64 x0_2)] [(0, .own false TPlace x0_3)])
theorem spec_l9Kept.s0 (k : Nat) (a0 : List (Ty.den TPlace)) (a1 : Int) (n0 : Nat) (x0_0 : List (Ty.den TPlace)) (x0_1 : Int) (x0_2 : Int) (x0_3 : List (Ty.den TPlace)) : spec_l9Kept.V0 k a0 a1 (n0 + 1) x0_0 x0_1 x0_2 x0_3 = spec_l9Kept.b0 k (spec_l9Kept.V0 k a0 a1 n0) x0_0 x0_1 x0_2 x0_3 := by kernel_rfl
theorem spec_l9Kept.e0 (k : Nat) (a0 : List (Ty.den TPlace)) (a1 : Int) (n0 : Nat) : spec_l9Kept.V0 k a0 a1 n0 = spec_l9Kept.l0 k n0 := by
  induction n0 with
  | zero => rfl
  | succ n0 ih =>
    have h : spec_l9Kept.V0 k a0 a1 (n0 + 1) = spec_l9Kept.b0 k (spec_l9Kept.V0 k a0 a1 n0) := funext fun x0_0 => funext fun x0_1 => funext fun x0_2 => funext fun x0_3 => spec_l9Kept.s0 k a0 a1 n0 x0_0 x0_1 x0_2 x0_3
    rw [h, ih]
    rfl
theorem spec_l9Kept.q (k : Nat) (a0 : List (Ty.den TPlace)) (a1 : Int) : run (spec_l9Kept.E k) Try.f137 [.val (.slice TPlace), .val (.int .i64)] [(.slice TPlace)] true false (a0, a1, ()) = spec_l9Kept.t k (spec_l9Kept.V0 k a0 a1 k) a0 a1 := by kernel_rfl
theorem spec_l9Kept.eq (k : Nat) (a0 : List (Ty.den TPlace)) (a1 : Int) : run (spec_l9Kept.E k) Try.f137 [.val (.slice TPlace), .val (.int .i64)] [(.slice TPlace)] true false (a0, a1, ()) = spec_l9Kept.f k a0 a1 := by
  rw [spec_l9Kept.q, spec_l9Kept.e0]
  rfl
theorem spec_l9Kept.ctr (k : Nat) : Ctr Try.prog 137 ⟨[.val (.slice TPlace), .val (.int .i64)], [(.slice TPlace)], true, false, fun x => spec_l9Kept.f k x.1 x.2.1⟩ :=
  run_ctr (E := spec_l9Kept.E k) mixed tb_ok (eqOk_of tb_eqs) Cts.nil (by kernel_rfl) Try.func137 (by kernel_rfl) rfl (fun ⟨a0, a1, _⟩ r h => (spec_l9Kept.eq k a0 a1).trans h)
def spec_Regroup.E (k : Nat) : Env := ⟨tb, [(135, ⟨[.val (.slice TPlace), .val (.int .i64), .val (.int .i64)], [(.slice TPlace)], true, false, fun x => spec_l9Of.f k x.1 x.2.1 x.2.2.1⟩), (136, ⟨[.val TRec, .val (.slice TPlace)], [.bool], true, false, fun x => spec_l9Fits.f k x.1 x.2.1⟩), (138, ⟨[.val (.slice TEntry), .val TPlace], [(.slice TEntry)], true, false, fun x => spec_l9Put.f k x.1 x.2.1⟩), (137, ⟨[.val (.slice TPlace), .val (.int .i64)], [(.slice TPlace)], true, false, fun x => spec_l9Kept.f k x.1 x.2.1⟩)], [(3, [1, 4, 5, 6]), (17, [1, 4, 5, 6, 8, 9])], k, 0, []⟩
noncomputable def spec_Regroup.K0 (k : Nat) (a0 : Ty.den TGroup) (a1 : List (Ty.den TPlace)) : Ex → St → Option ((Ty.den TGroup) × Unit) := runK (spec_Regroup.E k) (endK (spec_Regroup.E k) Try.f58.results.toList [.val TGroup, .val (.slice TPlace)] (a0, a1, ()) [TGroup] true false) [.blk 0, .code (at_ [true, true, true] (body Try.f58))]
noncomputable def spec_Regroup.B0 (k : Nat) (a0 : Ty.den TGroup) (a1 : List (Ty.den TPlace)) (n0 : Nat) : Ex → St → Option ((Ty.den TGroup) × Unit) := fun e st => match e with
  | .normal => loopN (exec (spec_Regroup.E k) (at_ [true, true, false, true, false, false] (body Try.f58))) (canon 0 [1, 4, 5, 6]) (spec_Regroup.K0 k a0 a1) n0 (canon 0 [1, 4, 5, 6] st)
  | .ret => spec_Regroup.K0 k a0 a1 .ret st
  | .exit j => spec_Regroup.K0 k a0 a1 (.exit j) st
noncomputable def spec_Regroup.K1 (k : Nat) (a0 : Ty.den TGroup) (a1 : List (Ty.den TPlace)) (n0 : Nat) : Ex → St → Option ((Ty.den TGroup) × Unit) := runK (spec_Regroup.E k) (spec_Regroup.B0 k a0 a1 n0) [.blk 3, .code (at_ [true, true, false, true, false, false, true, false, false, true, true, true, true, true] (body Try.f58)), .blk 1, .code (at_ [true, true, false, true, false, false, true, true] (body Try.f58))]
noncomputable def spec_Regroup.B1 (k : Nat) (a0 : Ty.den TGroup) (a1 : List (Ty.den TPlace)) (n0 n1 : Nat) : Ex → St → Option ((Ty.den TGroup) × Unit) := fun e st => match e with
  | .normal => loopN (exec (spec_Regroup.E k) (at_ [true, true, false, true, false, false, true, false, false, true, true, true, true, false, true, false, false] (body Try.f58))) (canon 0 [1, 4, 5, 6, 8, 9]) (spec_Regroup.K1 k a0 a1 n0) n1 (canon 0 [1, 4, 5, 6, 8, 9] st)
  | .ret => spec_Regroup.K1 k a0 a1 n0 .ret st
  | .exit j => spec_Regroup.K1 k a0 a1 n0 (.exit j) st
noncomputable def spec_Regroup.V0 (k : Nat) (a0 : Ty.den TGroup) (a1 : List (Ty.den TPlace)) (n0 : Nat) (x0_0 : List (Ty.den TPlace)) (x0_1 : Int) (x0_2 : List (Ty.den TEntry)) (x0_3 : Int) (x0_4 : Int) (x0_5 : List (Ty.den TEntry)) (x0_6 : Int) (x0_7 : Int) : Option ((Ty.den TGroup) × Unit) := loopN (exec (spec_Regroup.E k) (at_ [true, true, false, true, false, false] (body Try.f58))) (canon 0 [1, 4, 5, 6]) (spec_Regroup.K0 k a0 a1) n0 (mk 97 4 [(1, .sl true TPlace x0_0), (4, .ptr 0 0 0), (5, .ptr 2 0 0), (6, .int .i64 x0_1)] [(1, .own false TEntry x0_2), (0, .box [.ref 1, .int .i64 x0_3, .int .i64 x0_4]), (3, .own false TEntry x0_5), (2, .box [.ref 3, .int .i64 x0_6, .int .i64 x0_7])])
noncomputable def spec_Regroup.V1 (k : Nat) (a0 : Ty.den TGroup) (a1 : List (Ty.den TPlace)) (n0 n1 : Nat) (x1_0 : List (Ty.den TPlace)) (x1_1 : Int) (x1_2 : Int) (x1_3 : List (Ty.den TEntry)) (x1_4 : Int) (x1_5 : Int) (x1_6 : List (Ty.den TEntry)) (x1_7 : Int) (x1_8 : Int) (x1_9 : List (Ty.den TPlace)) : Option ((Ty.den TGroup) × Unit) := loopN (exec (spec_Regroup.E k) (at_ [true, true, false, true, false, false, true, false, false, true, true, true, true, false, true, false, false] (body Try.f58))) (canon 0 [1, 4, 5, 6, 8, 9]) (spec_Regroup.K1 k a0 a1 n0) n1 (mk 97 5 [(1, .sl true TPlace x1_0), (4, .ptr 0 0 0), (5, .ptr 2 0 0), (6, .int .i64 x1_1), (8, .ref 4), (9, .int .i64 x1_2)] [(1, .own false TEntry x1_3), (0, .box [.ref 1, .int .i64 x1_4, .int .i64 x1_5]), (3, .own false TEntry x1_6), (2, .box [.ref 3, .int .i64 x1_7, .int .i64 x1_8]), (4, .own false TPlace x1_9)])
theorem spec_Regroup.s0 (k : Nat) (a0 : Ty.den TGroup) (a1 : List (Ty.den TPlace)) (n0 : Nat) (x0_0 : List (Ty.den TPlace)) (x0_1 : Int) (x0_2 : List (Ty.den TEntry)) (x0_3 : Int) (x0_4 : Int) (x0_5 : List (Ty.den TEntry)) (x0_6 : Int) (x0_7 : Int) : spec_Regroup.V0 k a0 a1 (n0 + 1) x0_0 x0_1 x0_2 x0_3 x0_4 x0_5 x0_6 x0_7 = spec_Regroup.b0 k (spec_Regroup.V1 k a0 a1 n0 k) (spec_Regroup.V0 k a0 a1 n0) x0_0 x0_1 x0_2 x0_3 x0_4 x0_5 x0_6 x0_7 := by kernel_rfl
theorem spec_Regroup.s1 (k : Nat) (a0 : Ty.den TGroup) (a1 : List (Ty.den TPlace)) (n0 n1 : Nat) (x1_0 : List (Ty.den TPlace)) (x1_1 : Int) (x1_2 : Int) (x1_3 : List (Ty.den TEntry)) (x1_4 : Int) (x1_5 : Int) (x1_6 : List (Ty.den TEntry)) (x1_7 : Int) (x1_8 : Int) (x1_9 : List (Ty.den TPlace)) : spec_Regroup.V1 k a0 a1 n0 (n1 + 1) x1_0 x1_1 x1_2 x1_3 x1_4 x1_5 x1_6 x1_7 x1_8 x1_9 = spec_Regroup.b1 k (spec_Regroup.V0 k a0 a1 n0) (spec_Regroup.V1 k a0 a1 n0 n1) x1_0 x1_1 x1_2 x1_3 x1_4 x1_5 x1_6 x1_7 x1_8 x1_9 := by kernel_rfl
theorem spec_Regroup.e1 (k : Nat) (a0 : Ty.den TGroup) (a1 : List (Ty.den TPlace)) (n0 n1 : Nat) : spec_Regroup.V1 k a0 a1 n0 n1 = spec_Regroup.l1 k (spec_Regroup.V0 k a0 a1 n0) n1 := by
  induction n1 with
  | zero => rfl
  | succ n1 ih =>
    have h : spec_Regroup.V1 k a0 a1 n0 (n1 + 1) = spec_Regroup.b1 k (spec_Regroup.V0 k a0 a1 n0) (spec_Regroup.V1 k a0 a1 n0 n1) := funext fun x1_0 => funext fun x1_1 => funext fun x1_2 => funext fun x1_3 => funext fun x1_4 => funext fun x1_5 => funext fun x1_6 => funext fun x1_7 => funext fun x1_8 => funext fun x1_9 => spec_Regroup.s1 k a0 a1 n0 n1 x1_0 x1_1 x1_2 x1_3 x1_4 x1_5 x1_6 x1_7 x1_8 x1_9
    rw [h, ih]
    rfl
theorem spec_Regroup.e0 (k : Nat) (a0 : Ty.den TGroup) (a1 : List (Ty.den TPlace)) (n0 : Nat) : spec_Regroup.V0 k a0 a1 n0 = spec_Regroup.l0 k n0 := by
  induction n0 with
  | zero => rfl
  | succ n0 ih =>
    have h : spec_Regroup.V0 k a0 a1 (n0 + 1) = spec_Regroup.b0 k (spec_Regroup.V1 k a0 a1 n0 k) (spec_Regroup.V0 k a0 a1 n0) := funext fun x0_0 => funext fun x0_1 => funext fun x0_2 => funext fun x0_3 => funext fun x0_4 => funext fun x0_5 => funext fun x0_6 => funext fun x0_7 => spec_Regroup.s0 k a0 a1 n0 x0_0 x0_1 x0_2 x0_3 x0_4 x0_5 x0_6 x0_7
    rw [h, spec_Regroup.e1, ih]
    rfl
theorem spec_Regroup.q (k : Nat) (a0 : Ty.den TGroup) (a1 : List (Ty.den TPlace)) : run (spec_Regroup.E k) Try.f58 [.val TGroup, .val (.slice TPlace)] [TGroup] true false (a0, a1, ()) = spec_Regroup.t k (spec_Regroup.V0 k a0 a1 k) a0 a1 := by kernel_rfl
theorem spec_Regroup.eq (k : Nat) (a0 : Ty.den TGroup) (a1 : List (Ty.den TPlace)) : run (spec_Regroup.E k) Try.f58 [.val TGroup, .val (.slice TPlace)] [TGroup] true false (a0, a1, ()) = spec_Regroup.f k a0 a1 := by
  rw [spec_Regroup.q, spec_Regroup.e0]
  rfl
theorem spec_Regroup.ctr (k : Nat) : Ctr Try.prog 58 ⟨[.val TGroup, .val (.slice TPlace)], [TGroup], true, false, fun x => spec_Regroup.f k x.1 x.2.1⟩ :=
  run_ctr (E := spec_Regroup.E k) mixed tb_ok (eqOk_of tb_eqs) (Cts.cons (spec_l9Of.ctr k) (Cts.cons (spec_l9Fits.ctr k) (Cts.cons (spec_l9Put.ctr k) (Cts.cons (spec_l9Kept.ctr k) Cts.nil)))) (by kernel_rfl) Try.func58 (by kernel_rfl) rfl (fun ⟨a0, a1, _⟩ r h => (spec_Regroup.eq k a0 a1).trans h)
def spec_l27Text.E (k : Nat) : Env := ⟨tb, [], [(2, [1, 2, 5])], k, 0, []⟩
noncomputable def spec_l27Text.K0 (k : Nat) (a0 : Ty.den TFollower) (a1 : Int) : Ex → St → Option (ByteArray × Unit) := runK (spec_l27Text.E k) (endK (spec_l27Text.E k) Try.f120.results.toList [.val TFollower, .val (.int .i64)] (a0, a1, ()) [.str] true false) [.blk 0, .code (at_ [true, true] (body Try.f120))]
noncomputable def spec_l27Text.B0 (k : Nat) (a0 : Ty.den TFollower) (a1 : Int) (n0 : Nat) : Ex → St → Option (ByteArray × Unit) := fun e st => match e with
  | .normal => loopN (exec (spec_l27Text.E k) (at_ [true, false, true, false, false] (body Try.f120))) (canon 0 [1, 2, 5]) (spec_l27Text.K0 k a0 a1) n0 (canon 0 [1, 2, 5] st)
  | .ret => spec_l27Text.K0 k a0 a1 .ret st
  | .exit j => spec_l27Text.K0 k a0 a1 (.exit j) st
noncomputable def spec_l27Text.V0 (k : Nat) (a0 : Ty.den TFollower) (a1 : Int) (n0 : Nat) (x0_0 : Int) (x0_1 : Int) (x0_2 : Int) (x0_3 : List (Ty.den TPiece)) : Option (ByteArray × Unit) := loopN (exec (spec_l27Text.E k) (at_ [true, false, true, false, false] (body Try.f120))) (canon 0 [1, 2, 5]) (spec_l27Text.K0 k a0 a1) n0 (mk 27 1 [(1, .int .i64 x0_0), (2, .ptr 0 0 0), (5, .int .i64 x0_1)] [(0, .box [.int .i64 x0_2, .sl true TPiece x0_3])])
theorem spec_l27Text.s0 (k : Nat) (a0 : Ty.den TFollower) (a1 : Int) (n0 : Nat) (x0_0 : Int) (x0_1 : Int) (x0_2 : Int) (x0_3 : List (Ty.den TPiece)) : spec_l27Text.V0 k a0 a1 (n0 + 1) x0_0 x0_1 x0_2 x0_3 = spec_l27Text.b0 k (spec_l27Text.V0 k a0 a1 n0) x0_0 x0_1 x0_2 x0_3 := by kernel_rfl
theorem spec_l27Text.e0 (k : Nat) (a0 : Ty.den TFollower) (a1 : Int) (n0 : Nat) : spec_l27Text.V0 k a0 a1 n0 = spec_l27Text.l0 k n0 := by
  induction n0 with
  | zero => rfl
  | succ n0 ih =>
    have h : spec_l27Text.V0 k a0 a1 (n0 + 1) = spec_l27Text.b0 k (spec_l27Text.V0 k a0 a1 n0) := funext fun x0_0 => funext fun x0_1 => funext fun x0_2 => funext fun x0_3 => spec_l27Text.s0 k a0 a1 n0 x0_0 x0_1 x0_2 x0_3
    rw [h, ih]
    rfl
theorem spec_l27Text.q (k : Nat) (a0 : Ty.den TFollower) (a1 : Int) : run (spec_l27Text.E k) Try.f120 [.val TFollower, .val (.int .i64)] [.str] true false (a0, a1, ()) = spec_l27Text.t k (spec_l27Text.V0 k a0 a1 k) a0 a1 := by kernel_rfl
theorem spec_l27Text.eq (k : Nat) (a0 : Ty.den TFollower) (a1 : Int) : run (spec_l27Text.E k) Try.f120 [.val TFollower, .val (.int .i64)] [.str] true false (a0, a1, ()) = spec_l27Text.f k a0 a1 := by
  rw [spec_l27Text.q, spec_l27Text.e0]
  rfl
theorem spec_l27Text.ctr (k : Nat) : Ctr Try.prog 120 ⟨[.val TFollower, .val (.int .i64)], [.str], true, false, fun x => spec_l27Text.f k x.1 x.2.1⟩ :=
  run_ctr (E := spec_l27Text.E k) mixed tb_ok (eqOk_of tb_eqs) Cts.nil (by kernel_rfl) Try.func120 (by kernel_rfl) rfl (fun ⟨a0, a1, _⟩ r h => (spec_l27Text.eq k a0 a1).trans h)
def spec_RecAt.E (k : Nat) : Env := ⟨tb, [(86, ⟨[.val (.int .i64), .val (.int .i64), .val (.int .i64)], [.bool], true, false, fun x => spec_l1In.f k x.1 x.2.1 x.2.2.1⟩), (171, ⟨[.val .str], [.str, (.int .i64)], true, false, fun x => spec_Unframe.f k x.1⟩), (172, ⟨[.val .str], [TRec, .bool], true, false, fun x => spec_ReadRec.f k x.1⟩)], [], k, 0, []⟩
theorem spec_RecAt.q (k : Nat) (a0 : ByteArray) (a1 : Int) (a2 : Int) : run (spec_RecAt.E k) Try.f119 [.val .str, .val (.int .i64), .val (.int .i64)] [TRec, .bool] true false (a0, a1, a2, ()) = spec_RecAt.t k a0 a1 a2 := by kernel_rfl
theorem spec_RecAt.eq (k : Nat) (a0 : ByteArray) (a1 : Int) (a2 : Int) : run (spec_RecAt.E k) Try.f119 [.val .str, .val (.int .i64), .val (.int .i64)] [TRec, .bool] true false (a0, a1, a2, ()) = spec_RecAt.f k a0 a1 a2 := by
  rw [spec_RecAt.q]
  rfl
theorem spec_RecAt.ctr (k : Nat) : Ctr Try.prog 119 ⟨[.val .str, .val (.int .i64), .val (.int .i64)], [TRec, .bool], true, false, fun x => spec_RecAt.f k x.1 x.2.1 x.2.2.1⟩ :=
  run_ctr (E := spec_RecAt.E k) mixed tb_ok (eqOk_of tb_eqs) (Cts.cons (spec_l1In.ctr k) (Cts.cons (spec_Unframe.ctr k) (Cts.cons (spec_ReadRec.ctr k) Cts.nil))) (by kernel_rfl) Try.func119 (by kernel_rfl) rfl (fun ⟨a0, a1, a2, _⟩ r h => (spec_RecAt.eq k a0 a1 a2).trans h)
def spec_FollowMap.E (k : Nat) : Env := ⟨tb, [(101, ⟨[.val .str], [(.slice TSpot), (.int .i64)], true, false, fun x => spec_ScanRecs.f k x.1⟩), (118, ⟨[.val (.int .i64), .val .str], [(.slice TPlace)], true, false, fun x => spec_l11Places.f k x.1 x.2.1⟩), (58, ⟨[.val TGroup, .val (.slice TPlace)], [TGroup], true, false, fun x => spec_Regroup.f k x.1 x.2.1⟩), (120, ⟨[.val TFollower, .val (.int .i64)], [.str], true, false, fun x => spec_l27Text.f k x.1 x.2.1⟩), (119, ⟨[.val .str, .val (.int .i64), .val (.int .i64)], [TRec, .bool], true, false, fun x => spec_RecAt.f k x.1 x.2.1 x.2.2.1⟩)], [(4, [1, 4, 5, 6]), (15, [1, 4, 9, 10, 11])], k, 0, []⟩
noncomputable def spec_FollowMap.K0 (k : Nat) (a0 : Ty.den TFollower) : Ex → St → Option ((List (Ty.den TPair)) × Bool × Unit) := runK (spec_FollowMap.E k) (endK (spec_FollowMap.E k) Try.f50.results.toList [.val TFollower] (a0, ()) [(.slice TPair), .bool] true false) [.blk 0, .code (at_ [true, true, true, true] (body Try.f50))]
noncomputable def spec_FollowMap.B0 (k : Nat) (a0 : Ty.den TFollower) (n0 : Nat) : Ex → St → Option ((List (Ty.den TPair)) × Bool × Unit) := fun e st => match e with
  | .normal => loopN (exec (spec_FollowMap.E k) (at_ [true, true, true, false, true, false, false] (body Try.f50))) (canon 0 [1, 4, 5, 6]) (spec_FollowMap.K0 k a0) n0 (canon 0 [1, 4, 5, 6] st)
  | .ret => spec_FollowMap.K0 k a0 .ret st
  | .exit j => spec_FollowMap.K0 k a0 (.exit j) st
noncomputable def spec_FollowMap.K1 (k : Nat) (a0 : Ty.den TFollower) : Ex → St → Option ((List (Ty.den TPair)) × Bool × Unit) := runK (spec_FollowMap.E k) (endK (spec_FollowMap.E k) Try.f50.results.toList [.val TFollower] (a0, ()) [(.slice TPair), .bool] true false) [.blk 2, .code (at_ [true, true, true, true, true, true, true, true] (body Try.f50))]
noncomputable def spec_FollowMap.B1 (k : Nat) (a0 : Ty.den TFollower) (n1 : Nat) : Ex → St → Option ((List (Ty.den TPair)) × Bool × Unit) := fun e st => match e with
  | .normal => loopN (exec (spec_FollowMap.E k) (at_ [true, true, true, true, true, true, true, false, true, false, false] (body Try.f50))) (canon 0 [1, 4, 9, 10, 11]) (spec_FollowMap.K1 k a0) n1 (canon 0 [1, 4, 9, 10, 11] st)
  | .ret => spec_FollowMap.K1 k a0 .ret st
  | .exit j => spec_FollowMap.K1 k a0 (.exit j) st
noncomputable def spec_FollowMap.V0 (k : Nat) (a0 : Ty.den TFollower) (n0 : Nat) (x0_0 : Int) (x0_1 : Int) (x0_2 : List (Ty.den TPiece)) (x0_3 : List (Ty.den TPair)) (x0_4 : List (Ty.den TPlace)) : Option ((List (Ty.den TPair)) × Bool × Unit) := loopN (exec (spec_FollowMap.E k) (at_ [true, true, true, false, true, false, false] (body Try.f50))) (canon 0 [1, 4, 5, 6]) (spec_FollowMap.K0 k a0) n0 (mk 111 3 [(1, .ptr 0 0 0), (4, .ref 1), (5, .ref 2), (6, .int .i64 x0_0)] [(0, .box [.int .i64 x0_1, .sl true TPiece x0_2]), (1, .own false TPair x0_3), (2, .own false TPlace x0_4)])
noncomputable def spec_FollowMap.V1 (k : Nat) (a0 : Ty.den TFollower) (n1 : Nat) (x1_0 : Int) (x1_1 : Int) (x1_2 : List (Ty.den TPiece)) (x1_3 : List (Ty.den TPair)) (x1_4 : List (Ty.den TEntry)) (x1_5 : Int) (x1_6 : Int) (x1_7 : List (Ty.den TPair)) : Option ((List (Ty.den TPair)) × Bool × Unit) := loopN (exec (spec_FollowMap.E k) (at_ [true, true, true, true, true, true, true, false, true, false, false] (body Try.f50))) (canon 0 [1, 4, 9, 10, 11]) (spec_FollowMap.K1 k a0) n1 (mk 111 5 [(1, .ptr 0 0 0), (4, .ref 1), (9, .ptr 2 0 0), (10, .ref 4), (11, .int .i64 x1_0)] [(0, .box [.int .i64 x1_1, .sl true TPiece x1_2]), (1, .own false TPair x1_3), (3, .own false TEntry x1_4), (2, .box [.ref 3, .int .i64 x1_5, .int .i64 x1_6]), (4, .own false TPair x1_7)])
theorem spec_FollowMap.s0 (k : Nat) (a0 : Ty.den TFollower) (n0 : Nat) (x0_0 : Int) (x0_1 : Int) (x0_2 : List (Ty.den TPiece)) (x0_3 : List (Ty.den TPair)) (x0_4 : List (Ty.den TPlace)) : spec_FollowMap.V0 k a0 (n0 + 1) x0_0 x0_1 x0_2 x0_3 x0_4 = spec_FollowMap.b0 k (spec_FollowMap.V1 k a0 k) (spec_FollowMap.V0 k a0 n0) x0_0 x0_1 x0_2 x0_3 x0_4 := by kernel_rfl
theorem spec_FollowMap.s1 (k : Nat) (a0 : Ty.den TFollower) (n1 : Nat) (x1_0 : Int) (x1_1 : Int) (x1_2 : List (Ty.den TPiece)) (x1_3 : List (Ty.den TPair)) (x1_4 : List (Ty.den TEntry)) (x1_5 : Int) (x1_6 : Int) (x1_7 : List (Ty.den TPair)) : spec_FollowMap.V1 k a0 (n1 + 1) x1_0 x1_1 x1_2 x1_3 x1_4 x1_5 x1_6 x1_7 = spec_FollowMap.b1 k (spec_FollowMap.V1 k a0 n1) x1_0 x1_1 x1_2 x1_3 x1_4 x1_5 x1_6 x1_7 := by kernel_rfl
theorem spec_FollowMap.e1 (k : Nat) (a0 : Ty.den TFollower) (n1 : Nat) : spec_FollowMap.V1 k a0 n1 = spec_FollowMap.l1 k n1 := by
  induction n1 with
  | zero => rfl
  | succ n1 ih =>
    have h : spec_FollowMap.V1 k a0 (n1 + 1) = spec_FollowMap.b1 k (spec_FollowMap.V1 k a0 n1) := funext fun x1_0 => funext fun x1_1 => funext fun x1_2 => funext fun x1_3 => funext fun x1_4 => funext fun x1_5 => funext fun x1_6 => funext fun x1_7 => spec_FollowMap.s1 k a0 n1 x1_0 x1_1 x1_2 x1_3 x1_4 x1_5 x1_6 x1_7
    rw [h, ih]
    rfl
theorem spec_FollowMap.e0 (k : Nat) (a0 : Ty.den TFollower) (n0 : Nat) : spec_FollowMap.V0 k a0 n0 = spec_FollowMap.l0 k n0 := by
  induction n0 with
  | zero => rfl
  | succ n0 ih =>
    have h : spec_FollowMap.V0 k a0 (n0 + 1) = spec_FollowMap.b0 k (spec_FollowMap.V1 k a0 k) (spec_FollowMap.V0 k a0 n0) := funext fun x0_0 => funext fun x0_1 => funext fun x0_2 => funext fun x0_3 => funext fun x0_4 => spec_FollowMap.s0 k a0 n0 x0_0 x0_1 x0_2 x0_3 x0_4
    rw [h, spec_FollowMap.e1, ih]
    rfl
theorem spec_FollowMap.q (k : Nat) (a0 : Ty.den TFollower) : run (spec_FollowMap.E k) Try.f50 [.val TFollower] [(.slice TPair), .bool] true false (a0, ()) = spec_FollowMap.t k (spec_FollowMap.V0 k a0 k) a0 := by kernel_rfl
theorem spec_FollowMap.eq (k : Nat) (a0 : Ty.den TFollower) : run (spec_FollowMap.E k) Try.f50 [.val TFollower] [(.slice TPair), .bool] true false (a0, ()) = spec_FollowMap.f k a0 := by
  rw [spec_FollowMap.q, spec_FollowMap.e0]
  rfl
theorem spec_FollowMap.ctr (k : Nat) : Ctr Try.prog 50 ⟨[.val TFollower], [(.slice TPair), .bool], true, false, fun x => spec_FollowMap.f k x.1⟩ :=
  run_ctr (E := spec_FollowMap.E k) mixed tb_ok (eqOk_of tb_eqs) (Cts.cons (spec_ScanRecs.ctr k) (Cts.cons (spec_l11Places.ctr k) (Cts.cons (spec_Regroup.ctr k) (Cts.cons (spec_l27Text.ctr k) (Cts.cons (spec_RecAt.ctr k) Cts.nil))))) (by kernel_rfl) Try.func50 (by kernel_rfl) rfl (fun ⟨a0, _⟩ r h => (spec_FollowMap.eq k a0).trans h)
def impl_placed.E (k : Nat) : Env := ⟨tb, [], [(3, [0, 5, 8, 9, 10])], k, 0, []⟩
noncomputable def impl_placed.K0 (k : Nat) (a0 : Int) (a1 : List (Ty.den TSpot)) : Ex → St → Option ((List (Ty.den TPlace)) × Unit) := runK (impl_placed.E k) (endK (impl_placed.E k) Try.f122.results.toList [.val (.int .i64), .val (.slice TSpot)] (a0, a1, ()) [(.slice TPlace)] true false) [.blk 0, .code (at_ [true, true, true] (body Try.f122))]
noncomputable def impl_placed.B0 (k : Nat) (a0 : Int) (a1 : List (Ty.den TSpot)) (n0 : Nat) : Ex → St → Option ((List (Ty.den TPlace)) × Unit) := fun e st => match e with
  | .normal => loopN (exec (impl_placed.E k) (at_ [true, true, false, true, false, false] (body Try.f122))) (canon 0 [0, 5, 8, 9, 10]) (impl_placed.K0 k a0 a1) n0 (canon 0 [0, 5, 8, 9, 10] st)
  | .ret => impl_placed.K0 k a0 a1 .ret st
  | .exit j => impl_placed.K0 k a0 a1 (.exit j) st
noncomputable def impl_placed.V0 (k : Nat) (a0 : Int) (a1 : List (Ty.den TSpot)) (n0 : Nat) (x0_0 : Int) (x0_1 : List (Ty.den TSpot)) (x0_2 : Int) (x0_3 : Int) (x0_4 : List (Ty.den TPlace)) : Option ((List (Ty.den TPlace)) × Unit) := loopN (exec (impl_placed.E k) (at_ [true, true, false, true, false, false] (body Try.f122))) (canon 0 [0, 5, 8, 9, 10]) (impl_placed.K0 k a0 a1) n0 (mk 27 1 [(0, .int .i64 x0_0), (5, .ref 0), (8, .sl true TSpot x0_1), (9, .int .i64 x0_2), (10, .int .i64 x0_3)] [(0, .own false TPlace x0_4)])
theorem impl_placed.s0 (k : Nat) (a0 : Int) (a1 : List (Ty.den TSpot)) (n0 : Nat) (x0_0 : Int) (x0_1 : List (Ty.den TSpot)) (x0_2 : Int) (x0_3 : Int) (x0_4 : List (Ty.den TPlace)) : impl_placed.V0 k a0 a1 (n0 + 1) x0_0 x0_1 x0_2 x0_3 x0_4 = impl_placed.b0 k (impl_placed.V0 k a0 a1 n0) x0_0 x0_1 x0_2 x0_3 x0_4 := by kernel_rfl
theorem impl_placed.e0 (k : Nat) (a0 : Int) (a1 : List (Ty.den TSpot)) (n0 : Nat) : impl_placed.V0 k a0 a1 n0 = impl_placed.l0 k n0 := by
  induction n0 with
  | zero => rfl
  | succ n0 ih =>
    have h : impl_placed.V0 k a0 a1 (n0 + 1) = impl_placed.b0 k (impl_placed.V0 k a0 a1 n0) := funext fun x0_0 => funext fun x0_1 => funext fun x0_2 => funext fun x0_3 => funext fun x0_4 => impl_placed.s0 k a0 a1 n0 x0_0 x0_1 x0_2 x0_3 x0_4
    rw [h, ih]
    rfl
theorem impl_placed.q (k : Nat) (a0 : Int) (a1 : List (Ty.den TSpot)) : run (impl_placed.E k) Try.f122 [.val (.int .i64), .val (.slice TSpot)] [(.slice TPlace)] true false (a0, a1, ()) = impl_placed.t k (impl_placed.V0 k a0 a1 k) a0 a1 := by kernel_rfl
theorem impl_placed.eq (k : Nat) (a0 : Int) (a1 : List (Ty.den TSpot)) : run (impl_placed.E k) Try.f122 [.val (.int .i64), .val (.slice TSpot)] [(.slice TPlace)] true false (a0, a1, ()) = impl_placed.f k a0 a1 := by
  rw [impl_placed.q, impl_placed.e0]
  rfl
theorem impl_placed.ctr (k : Nat) : Ctr Try.prog 122 ⟨[.val (.int .i64), .val (.slice TSpot)], [(.slice TPlace)], true, false, fun x => impl_placed.f k x.1 x.2.1⟩ :=
  run_ctr (E := impl_placed.E k) mixed tb_ok (eqOk_of tb_eqs) Cts.nil (by kernel_rfl) Try.func122 (by kernel_rfl) rfl (fun ⟨a0, a1, _⟩ r h => (impl_placed.eq k a0 a1).trans h)
def impl_copyDir.E (k : Nat) : Env := ⟨tb, [], [], k, 0, []⟩
theorem impl_copyDir.q (k : Nat) (a0 : List (Ty.den TEntry)) : run (impl_copyDir.E k) Try.f131 [.val (.slice TEntry)] [(.slice TEntry)] true false (a0, ()) = impl_copyDir.t k a0 := by kernel_rfl
theorem impl_copyDir.eq (k : Nat) (a0 : List (Ty.den TEntry)) : run (impl_copyDir.E k) Try.f131 [.val (.slice TEntry)] [(.slice TEntry)] true false (a0, ()) = impl_copyDir.f k a0 := by
  rw [impl_copyDir.q]
  rfl
theorem impl_copyDir.ctr (k : Nat) : Ctr Try.prog 131 ⟨[.val (.slice TEntry)], [(.slice TEntry)], true, false, fun x => impl_copyDir.f k x.1⟩ :=
  run_ctr (E := impl_copyDir.E k) mixed tb_ok (eqOk_of tb_eqs) Cts.nil (by kernel_rfl) Try.func131 (by kernel_rfl) rfl (fun ⟨a0, _⟩ r h => (impl_copyDir.eq k a0).trans h)
def impl_ownOf.E (k : Nat) : Env := ⟨tb, [], [(3, [3, 5, 9, 10, 11])], k, 0, []⟩
noncomputable def impl_ownOf.K0 (k : Nat) (a0 : List (Ty.den TPlace)) (a1 : Ty.den TRec) : Ex → St → Option ((List (Ty.den TPlace)) × Unit) := runK (impl_ownOf.E k) (endK (impl_ownOf.E k) Try.f132.results.toList [.val (.slice TPlace), .val TRec] (a0, a1, ()) [(.slice TPlace)] true false) [.blk 0, .code (at_ [true, true, true] (body Try.f132))]
noncomputable def impl_ownOf.B0 (k : Nat) (a0 : List (Ty.den TPlace)) (a1 : Ty.den TRec) (n0 : Nat) : Ex → St → Option ((List (Ty.den TPlace)) × Unit) := fun e st => match e with
  | .normal => loopN (exec (impl_ownOf.E k) (at_ [true, true, false, true, false, false] (body Try.f132))) (canon 0 [3, 5, 9, 10, 11]) (impl_ownOf.K0 k a0 a1) n0 (canon 0 [3, 5, 9, 10, 11] st)
  | .ret => impl_ownOf.K0 k a0 a1 .ret st
  | .exit j => impl_ownOf.K0 k a0 a1 (.exit j) st
noncomputable def impl_ownOf.V0 (k : Nat) (a0 : List (Ty.den TPlace)) (a1 : Ty.den TRec) (n0 : Nat) (x0_0 : List (Ty.den TPlace)) (x0_1 : Int) (x0_2 : Int) (x0_3 : Int) (x0_4 : Int) (x0_5 : ByteArray) (x0_6 : ByteArray) (x0_7 : Int) (x0_8 : Int) (x0_9 : List (Ty.den TPlace)) : Option ((List (Ty.den TPlace)) × Unit) := loopN (exec (impl_ownOf.E k) (at_ [true, true, false, true, false, false] (body Try.f132))) (canon 0 [3, 5, 9, 10, 11]) (impl_ownOf.K0 k a0 a1) n0 (mk 62 2 [(3, .ptr 0 0 0), (5, .ref 1), (9, .sl true TPlace x0_0), (10, .int .i64 x0_1), (11, .int .i64 x0_2)] [(0, .box [.int .i64 x0_3, .int .i64 x0_4, .str x0_5, .str x0_6, .int .i64 x0_7, .int .i64 x0_8]), (1, .own false TPlace x0_9)])
theorem impl_ownOf.s0 (k : Nat) (a0 : List (Ty.den TPlace)) (a1 : Ty.den TRec) (n0 : Nat) (x0_0 : List (Ty.den TPlace)) (x0_1 : Int) (x0_2 : Int) (x0_3 : Int) (x0_4 : Int) (x0_5 : ByteArray) (x0_6 : ByteArray) (x0_7 : Int) (x0_8 : Int) (x0_9 : List (Ty.den TPlace)) : impl_ownOf.V0 k a0 a1 (n0 + 1) x0_0 x0_1 x0_2 x0_3 x0_4 x0_5 x0_6 x0_7 x0_8 x0_9 = impl_ownOf.b0 k (impl_ownOf.V0 k a0 a1 n0) x0_0 x0_1 x0_2 x0_3 x0_4 x0_5 x0_6 x0_7 x0_8 x0_9 := by kernel_rfl
theorem impl_ownOf.e0 (k : Nat) (a0 : List (Ty.den TPlace)) (a1 : Ty.den TRec) (n0 : Nat) : impl_ownOf.V0 k a0 a1 n0 = impl_ownOf.l0 k n0 := by
  induction n0 with
  | zero => rfl
  | succ n0 ih =>
    have h : impl_ownOf.V0 k a0 a1 (n0 + 1) = impl_ownOf.b0 k (impl_ownOf.V0 k a0 a1 n0) := funext fun x0_0 => funext fun x0_1 => funext fun x0_2 => funext fun x0_3 => funext fun x0_4 => funext fun x0_5 => funext fun x0_6 => funext fun x0_7 => funext fun x0_8 => funext fun x0_9 => impl_ownOf.s0 k a0 a1 n0 x0_0 x0_1 x0_2 x0_3 x0_4 x0_5 x0_6 x0_7 x0_8 x0_9
    rw [h, ih]
    rfl
theorem impl_ownOf.q (k : Nat) (a0 : List (Ty.den TPlace)) (a1 : Ty.den TRec) : run (impl_ownOf.E k) Try.f132 [.val (.slice TPlace), .val TRec] [(.slice TPlace)] true false (a0, a1, ()) = impl_ownOf.t k (impl_ownOf.V0 k a0 a1 k) a0 a1 := by kernel_rfl
theorem impl_ownOf.eq (k : Nat) (a0 : List (Ty.den TPlace)) (a1 : Ty.den TRec) : run (impl_ownOf.E k) Try.f132 [.val (.slice TPlace), .val TRec] [(.slice TPlace)] true false (a0, a1, ()) = impl_ownOf.f k a0 a1 := by
  rw [impl_ownOf.q, impl_ownOf.e0]
  rfl
theorem impl_ownOf.ctr (k : Nat) : Ctr Try.prog 132 ⟨[.val (.slice TPlace), .val TRec], [(.slice TPlace)], true, false, fun x => impl_ownOf.f k x.1 x.2.1⟩ :=
  run_ctr (E := impl_ownOf.E k) mixed tb_ok (eqOk_of tb_eqs) Cts.nil (by kernel_rfl) Try.func132 (by kernel_rfl) rfl (fun ⟨a0, a1, _⟩ r h => (impl_ownOf.eq k a0 a1).trans h)
def impl_fits.E (k : Nat) : Env := ⟨tb, [(162, ⟨[.val (.slice TRec)], [(.int .i64)], true, false, fun x => impl_SumOf.f k x.1⟩)], [(3, [2, 5, 8, 9, 10])], k, 0, []⟩
noncomputable def impl_fits.K0 (k : Nat) (a0 : Ty.den TRec) (a1 : List (Ty.den TPlace)) : Ex → St → Option (Bool × Unit) := runK (impl_fits.E k) (endK (impl_fits.E k) Try.f133.results.toList [.val TRec, .val (.slice TPlace)] (a0, a1, ()) [.bool] true false) [.blk 0, .code (at_ [true, true, true] (body Try.f133))]
noncomputable def impl_fits.B0 (k : Nat) (a0 : Ty.den TRec) (a1 : List (Ty.den TPlace)) (n0 : Nat) : Ex → St → Option (Bool × Unit) := fun e st => match e with
  | .normal => loopN (exec (impl_fits.E k) (at_ [true, true, false, true, false, false] (body Try.f133))) (canon 0 [2, 5, 8, 9, 10]) (impl_fits.K0 k a0 a1) n0 (canon 0 [2, 5, 8, 9, 10] st)
  | .ret => impl_fits.K0 k a0 a1 .ret st
  | .exit j => impl_fits.K0 k a0 a1 (.exit j) st
noncomputable def impl_fits.V0 (k : Nat) (a0 : Ty.den TRec) (a1 : List (Ty.den TPlace)) (n0 : Nat) (x0_0 : List (Ty.den TPlace)) (x0_1 : Int) (x0_2 : Int) (x0_3 : Int) (x0_4 : Int) (x0_5 : ByteArray) (x0_6 : ByteArray) (x0_7 : Int) (x0_8 : Int) (x0_9 : List (Ty.den TRec)) : Option (Bool × Unit) := loopN (exec (impl_fits.E k) (at_ [true, true, false, true, false, false] (body Try.f133))) (canon 0 [2, 5, 8, 9, 10]) (impl_fits.K0 k a0 a1) n0 (mk 32 2 [(2, .ptr 0 0 0), (5, .ref 1), (8, .sl true TPlace x0_0), (9, .int .i64 x0_1), (10, .int .i64 x0_2)] [(0, .box [.int .i64 x0_3, .int .i64 x0_4, .str x0_5, .str x0_6, .int .i64 x0_7, .int .i64 x0_8]), (1, .own false TRec x0_9)])
theorem impl_fits.s0 (k : Nat) (a0 : Ty.den TRec) (a1 : List (Ty.den TPlace)) (n0 : Nat) (x0_0 : List (Ty.den TPlace)) (x0_1 : Int) (x0_2 : Int) (x0_3 : Int) (x0_4 : Int) (x0_5 : ByteArray) (x0_6 : ByteArray) (x0_7 : Int) (x0_8 : Int) (x0_9 : List (Ty.den TRec)) : impl_fits.V0 k a0 a1 (n0 + 1) x0_0 x0_1 x0_2 x0_3 x0_4 x0_5 x0_6 x0_7 x0_8 x0_9 = impl_fits.b0 k (impl_fits.V0 k a0 a1 n0) x0_0 x0_1 x0_2 x0_3 x0_4 x0_5 x0_6 x0_7 x0_8 x0_9 := by kernel_rfl
theorem impl_fits.e0 (k : Nat) (a0 : Ty.den TRec) (a1 : List (Ty.den TPlace)) (n0 : Nat) : impl_fits.V0 k a0 a1 n0 = impl_fits.l0 k n0 := by
  induction n0 with
  | zero => rfl
  | succ n0 ih =>
    have h : impl_fits.V0 k a0 a1 (n0 + 1) = impl_fits.b0 k (impl_fits.V0 k a0 a1 n0) := funext fun x0_0 => funext fun x0_1 => funext fun x0_2 => funext fun x0_3 => funext fun x0_4 => funext fun x0_5 => funext fun x0_6 => funext fun x0_7 => funext fun x0_8 => funext fun x0_9 => impl_fits.s0 k a0 a1 n0 x0_0 x0_1 x0_2 x0_3 x0_4 x0_5 x0_6 x0_7 x0_8 x0_9
    rw [h, ih]
    rfl
theorem impl_fits.q (k : Nat) (a0 : Ty.den TRec) (a1 : List (Ty.den TPlace)) : run (impl_fits.E k) Try.f133 [.val TRec, .val (.slice TPlace)] [.bool] true false (a0, a1, ()) = impl_fits.t k (impl_fits.V0 k a0 a1 k) a0 a1 := by kernel_rfl
theorem impl_fits.eq (k : Nat) (a0 : Ty.den TRec) (a1 : List (Ty.den TPlace)) : run (impl_fits.E k) Try.f133 [.val TRec, .val (.slice TPlace)] [.bool] true false (a0, a1, ()) = impl_fits.f k a0 a1 := by
  rw [impl_fits.q, impl_fits.e0]
  rfl
theorem impl_fits.ctr (k : Nat) : Ctr Try.prog 133 ⟨[.val TRec, .val (.slice TPlace)], [.bool], true, false, fun x => impl_fits.f k x.1 x.2.1⟩ :=
  run_ctr (E := impl_fits.E k) mixed tb_ok (eqOk_of tb_eqs) (Cts.cons (impl_SumOf.ctr k) Cts.nil) (by kernel_rfl) Try.func133 (by kernel_rfl) rfl (fun ⟨a0, a1, _⟩ r h => (impl_fits.eq k a0 a1).trans h)
def impl_DirDrop.E (k : Nat) : Env := ⟨tb, [], [(3, [1, 5, 8, 9, 10])], k, 0, []⟩
noncomputable def impl_DirDrop.K0 (k : Nat) (a0 : List (Ty.den TEntry)) (a1 : ByteArray) : Ex → St → Option ((List (Ty.den TEntry)) × Unit) := runK (impl_DirDrop.E k) (endK (impl_DirDrop.E k) Try.f187.results.toList [.val (.slice TEntry), .val .str] (a0, a1, ()) [(.slice TEntry)] true false) [.blk 0, .code (at_ [true, true, true] (body Try.f187))]
noncomputable def impl_DirDrop.B0 (k : Nat) (a0 : List (Ty.den TEntry)) (a1 : ByteArray) (n0 : Nat) : Ex → St → Option ((List (Ty.den TEntry)) × Unit) := fun e st => match e with
  | .normal => loopN (exec (impl_DirDrop.E k) (at_ [true, true, false, true, false, false] (body Try.f187))) (canon 0 [1, 5, 8, 9, 10]) (impl_DirDrop.K0 k a0 a1) n0 (canon 0 [1, 5, 8, 9, 10] st)
  | .ret => impl_DirDrop.K0 k a0 a1 .ret st
  | .exit j => impl_DirDrop.K0 k a0 a1 (.exit j) st
noncomputable def impl_DirDrop.V0 (k : Nat) (a0 : List (Ty.den TEntry)) (a1 : ByteArray) (n0 : Nat) (x0_0 : ByteArray) (x0_1 : List (Ty.den TEntry)) (x0_2 : Int) (x0_3 : Int) (x0_4 : List (Ty.den TEntry)) : Option ((List (Ty.den TEntry)) × Unit) := loopN (exec (impl_DirDrop.E k) (at_ [true, true, false, true, false, false] (body Try.f187))) (canon 0 [1, 5, 8, 9, 10]) (impl_DirDrop.K0 k a0 a1) n0 (mk 24 1 [(1, .str x0_0), (5, .ref 0), (8, .sl true TEntry x0_1), (9, .int .i64 x0_2), (10, .int .i64 x0_3)] [(0, .own false TEntry x0_4)])
theorem impl_DirDrop.s0 (k : Nat) (a0 : List (Ty.den TEntry)) (a1 : ByteArray) (n0 : Nat) (x0_0 : ByteArray) (x0_1 : List (Ty.den TEntry)) (x0_2 : Int) (x0_3 : Int) (x0_4 : List (Ty.den TEntry)) : impl_DirDrop.V0 k a0 a1 (n0 + 1) x0_0 x0_1 x0_2 x0_3 x0_4 = impl_DirDrop.b0 k (impl_DirDrop.V0 k a0 a1 n0) x0_0 x0_1 x0_2 x0_3 x0_4 := by kernel_rfl
theorem impl_DirDrop.e0 (k : Nat) (a0 : List (Ty.den TEntry)) (a1 : ByteArray) (n0 : Nat) : impl_DirDrop.V0 k a0 a1 n0 = impl_DirDrop.l0 k n0 := by
  induction n0 with
  | zero => rfl
  | succ n0 ih =>
    have h : impl_DirDrop.V0 k a0 a1 (n0 + 1) = impl_DirDrop.b0 k (impl_DirDrop.V0 k a0 a1 n0) := funext fun x0_0 => funext fun x0_1 => funext fun x0_2 => funext fun x0_3 => funext fun x0_4 => impl_DirDrop.s0 k a0 a1 n0 x0_0 x0_1 x0_2 x0_3 x0_4
    rw [h, ih]
    rfl
theorem impl_DirDrop.q (k : Nat) (a0 : List (Ty.den TEntry)) (a1 : ByteArray) : run (impl_DirDrop.E k) Try.f187 [.val (.slice TEntry), .val .str] [(.slice TEntry)] true false (a0, a1, ()) = impl_DirDrop.t k (impl_DirDrop.V0 k a0 a1 k) a0 a1 := by kernel_rfl
theorem impl_DirDrop.eq (k : Nat) (a0 : List (Ty.den TEntry)) (a1 : ByteArray) : run (impl_DirDrop.E k) Try.f187 [.val (.slice TEntry), .val .str] [(.slice TEntry)] true false (a0, a1, ()) = impl_DirDrop.f k a0 a1 := by
  rw [impl_DirDrop.q, impl_DirDrop.e0]
  rfl
theorem impl_DirDrop.ctr (k : Nat) : Ctr Try.prog 187 ⟨[.val (.slice TEntry), .val .str], [(.slice TEntry)], true, false, fun x => impl_DirDrop.f k x.1 x.2.1⟩ :=
  run_ctr (E := impl_DirDrop.E k) mixed tb_ok (eqOk_of tb_eqs) Cts.nil (by kernel_rfl) Try.func187 (by kernel_rfl) rfl (fun ⟨a0, a1, _⟩ r h => (impl_DirDrop.eq k a0 a1).trans h)
def impl_DirPut.E (k : Nat) : Env := ⟨tb, [(187, ⟨[.val (.slice TEntry), .val .str], [(.slice TEntry)], true, false, fun x => impl_DirDrop.f k x.1 x.2.1⟩), (131, ⟨[.val (.slice TEntry)], [(.slice TEntry)], true, false, fun x => impl_copyDir.f k x.1⟩)], [(3, [3, 5, 6])], k, 0, []⟩
noncomputable def impl_DirPut.K0 (k : Nat) (a0 : List (Ty.den TEntry)) (a1 : Ty.den TEntry) : Ex → St → Option ((List (Ty.den TEntry)) × Unit) := runK (impl_DirPut.E k) (endK (impl_DirPut.E k) Try.f188.results.toList [.val (.slice TEntry), .val TEntry] (a0, a1, ()) [(.slice TEntry)] true false) [.blk 0, .code (at_ [true, true, true, true] (body Try.f188))]
noncomputable def impl_DirPut.B0 (k : Nat) (a0 : List (Ty.den TEntry)) (a1 : Ty.den TEntry) (n0 : Nat) : Ex → St → Option ((List (Ty.den TEntry)) × Unit) := fun e st => match e with
  | .normal => loopN (exec (impl_DirPut.E k) (at_ [true, true, true, false, false, false] (body Try.f188))) (canon 0 [3, 5, 6]) (impl_DirPut.K0 k a0 a1) n0 (canon 0 [3, 5, 6] st)
  | .ret => impl_DirPut.K0 k a0 a1 .ret st
  | .exit j => impl_DirPut.K0 k a0 a1 (.exit j) st
noncomputable def impl_DirPut.V0 (k : Nat) (a0 : List (Ty.den TEntry)) (a1 : Ty.den TEntry) (n0 : Nat) (x0_0 : Int) (x0_1 : ByteArray) (x0_2 : Int) (x0_3 : Int) (x0_4 : Int) (x0_5 : Int) (x0_6 : List (Ty.den TEntry)) : Option ((List (Ty.den TEntry)) × Unit) := loopN (exec (impl_DirPut.E k) (at_ [true, true, true, false, false, false] (body Try.f188))) (canon 0 [3, 5, 6]) (impl_DirPut.K0 k a0 a1) n0 (mk 38 2 [(3, .ptr 0 0 0), (5, .ref 1), (6, .int .i64 x0_0)] [(0, .box [.str x0_1, .int .i64 x0_2, .int .i64 x0_3, .int .i64 x0_4, .int .i64 x0_5]), (1, .own false TEntry x0_6)])
theorem impl_DirPut.s0 (k : Nat) (a0 : List (Ty.den TEntry)) (a1 : Ty.den TEntry) (n0 : Nat) (x0_0 : Int) (x0_1 : ByteArray) (x0_2 : Int) (x0_3 : Int) (x0_4 : Int) (x0_5 : Int) (x0_6 : List (Ty.den TEntry)) : impl_DirPut.V0 k a0 a1 (n0 + 1) x0_0 x0_1 x0_2 x0_3 x0_4 x0_5 x0_6 = impl_DirPut.b0 k (impl_DirPut.V0 k a0 a1 n0) x0_0 x0_1 x0_2 x0_3 x0_4 x0_5 x0_6 := by kernel_rfl
theorem impl_DirPut.e0 (k : Nat) (a0 : List (Ty.den TEntry)) (a1 : Ty.den TEntry) (n0 : Nat) : impl_DirPut.V0 k a0 a1 n0 = impl_DirPut.l0 k n0 := by
  induction n0 with
  | zero => rfl
  | succ n0 ih =>
    have h : impl_DirPut.V0 k a0 a1 (n0 + 1) = impl_DirPut.b0 k (impl_DirPut.V0 k a0 a1 n0) := funext fun x0_0 => funext fun x0_1 => funext fun x0_2 => funext fun x0_3 => funext fun x0_4 => funext fun x0_5 => funext fun x0_6 => impl_DirPut.s0 k a0 a1 n0 x0_0 x0_1 x0_2 x0_3 x0_4 x0_5 x0_6
    rw [h, ih]
    rfl
theorem impl_DirPut.q (k : Nat) (a0 : List (Ty.den TEntry)) (a1 : Ty.den TEntry) : run (impl_DirPut.E k) Try.f188 [.val (.slice TEntry), .val TEntry] [(.slice TEntry)] true false (a0, a1, ()) = impl_DirPut.t k (impl_DirPut.V0 k a0 a1 k) a0 a1 := by kernel_rfl
theorem impl_DirPut.eq (k : Nat) (a0 : List (Ty.den TEntry)) (a1 : Ty.den TEntry) : run (impl_DirPut.E k) Try.f188 [.val (.slice TEntry), .val TEntry] [(.slice TEntry)] true false (a0, a1, ()) = impl_DirPut.f k a0 a1 := by
  rw [impl_DirPut.q, impl_DirPut.e0]
  rfl
theorem impl_DirPut.ctr (k : Nat) : Ctr Try.prog 188 ⟨[.val (.slice TEntry), .val TEntry], [(.slice TEntry)], true, false, fun x => impl_DirPut.f k x.1 x.2.1⟩ :=
  run_ctr (E := impl_DirPut.E k) mixed tb_ok (eqOk_of tb_eqs) (Cts.cons (impl_DirDrop.ctr k) (Cts.cons (impl_copyDir.ctr k) Cts.nil)) (by kernel_rfl) Try.func188 (by kernel_rfl) rfl (fun ⟨a0, a1, _⟩ r h => (impl_DirPut.eq k a0 a1).trans h)
def impl_Group__apply.E (k : Nat) : Env := ⟨tb, [(187, ⟨[.val (.slice TEntry), .val .str], [(.slice TEntry)], true, false, fun x => impl_DirDrop.f k x.1 x.2.1⟩), (188, ⟨[.val (.slice TEntry), .val TEntry], [(.slice TEntry)], true, false, fun x => impl_DirPut.f k x.1 x.2.1⟩)], [(1, [0, 6, 7, 8])], k, 1, []⟩
noncomputable def impl_Group__apply.K0 (k : Nat) (a0 : Ty.den TGroup) (a1 : List (Ty.den TPlace)) : Ex → St → Option ((Ty.den TGroup) × Unit) := runK (impl_Group__apply.E k) (endK (impl_Group__apply.E k) Try.f134.results.toList [.io true TGroup, .val (.slice TPlace)] (a0, a1, ()) [] true false) [.blk 0, .code (at_ [true] (body Try.f134))]
noncomputable def impl_Group__apply.B0 (k : Nat) (a0 : Ty.den TGroup) (a1 : List (Ty.den TPlace)) (n0 : Nat) : Ex → St → Option ((Ty.den TGroup) × Unit) := fun e st => match e with
  | .normal => loopN (exec (impl_Group__apply.E k) (at_ [false, true, false, false] (body Try.f134))) (canon 1 [0, 6, 7, 8]) (impl_Group__apply.K0 k a0 a1) n0 (canon 1 [0, 6, 7, 8] st)
  | .ret => impl_Group__apply.K0 k a0 a1 .ret st
  | .exit j => impl_Group__apply.K0 k a0 a1 (.exit j) st
noncomputable def impl_Group__apply.V0 (k : Nat) (a0 : Ty.den TGroup) (a1 : List (Ty.den TPlace)) (n0 : Nat) (x0_0 : List (Ty.den TPlace)) (x0_1 : Int) (x0_2 : Int) (x0_3 : List (Ty.den TEntry)) (x0_4 : Int) (x0_5 : Int) : Option ((Ty.den TGroup) × Unit) := loopN (exec (impl_Group__apply.E k) (at_ [false, true, false, false] (body Try.f134))) (canon 1 [0, 6, 7, 8]) (impl_Group__apply.K0 k a0 a1) n0 (mk 58 2 [(0, .ptr 0 0 0), (6, .sl true TPlace x0_0), (7, .int .i64 x0_1), (8, .int .i64 x0_2)] [(1, .own false TEntry x0_3), (0, .box [.ref 1, .int .i64 x0_4, .int .i64 x0_5])])
theorem impl_Group__apply.s0 (k : Nat) (a0 : Ty.den TGroup) (a1 : List (Ty.den TPlace)) (n0 : Nat) (x0_0 : List (Ty.den TPlace)) (x0_1 : Int) (x0_2 : Int) (x0_3 : List (Ty.den TEntry)) (x0_4 : Int) (x0_5 : Int) : impl_Group__apply.V0 k a0 a1 (n0 + 1) x0_0 x0_1 x0_2 x0_3 x0_4 x0_5 = impl_Group__apply.b0 k (impl_Group__apply.V0 k a0 a1 n0) x0_0 x0_1 x0_2 x0_3 x0_4 x0_5 := by kernel_rfl
theorem impl_Group__apply.e0 (k : Nat) (a0 : Ty.den TGroup) (a1 : List (Ty.den TPlace)) (n0 : Nat) : impl_Group__apply.V0 k a0 a1 n0 = impl_Group__apply.l0 k n0 := by
  induction n0 with
  | zero => rfl
  | succ n0 ih =>
    have h : impl_Group__apply.V0 k a0 a1 (n0 + 1) = impl_Group__apply.b0 k (impl_Group__apply.V0 k a0 a1 n0) := funext fun x0_0 => funext fun x0_1 => funext fun x0_2 => funext fun x0_3 => funext fun x0_4 => funext fun x0_5 => impl_Group__apply.s0 k a0 a1 n0 x0_0 x0_1 x0_2 x0_3 x0_4 x0_5
    rw [h, ih]
    rfl
theorem impl_Group__apply.q (k : Nat) (a0 : Ty.den TGroup) (a1 : List (Ty.den TPlace)) : run (impl_Group__apply.E k) Try.f134 [.io true TGroup, .val (.slice TPlace)] [] true false (a0, a1, ()) = impl_Group__apply.t k (impl_Group__apply.V0 k a0 a1 k) a0 a1 := by kernel_rfl
theorem impl_Group__apply.eq (k : Nat) (a0 : Ty.den TGroup) (a1 : List (Ty.den TPlace)) : run (impl_Group__apply.E k) Try.f134 [.io true TGroup, .val (.slice TPlace)] [] true false (a0, a1, ()) = impl_Group__apply.f k a0 a1 := by
  rw [impl_Group__apply.q, impl_Group__apply.e0]
  rfl
theorem impl_Group__apply.ctr (k : Nat) : Ctr Try.prog 134 ⟨[.io true TGroup, .val (.slice TPlace)], [], true, false, fun x => impl_Group__apply.f k x.1 x.2.1⟩ :=
  run_ctr (E := impl_Group__apply.E k) mixed tb_ok (eqOk_of tb_eqs) (Cts.cons (impl_DirDrop.ctr k) (Cts.cons (impl_DirPut.ctr k) Cts.nil)) (by kernel_rfl) Try.func134 (by kernel_rfl) rfl (fun ⟨a0, a1, _⟩ r h => (impl_Group__apply.eq k a0 a1).trans h)
def impl_Regroup.E (k : Nat) : Env := ⟨tb, [(131, ⟨[.val (.slice TEntry)], [(.slice TEntry)], true, false, fun x => impl_copyDir.f k x.1⟩), (132, ⟨[.val (.slice TPlace), .val TRec], [(.slice TPlace)], true, false, fun x => impl_ownOf.f k x.1 x.2.1⟩), (133, ⟨[.val TRec, .val (.slice TPlace)], [.bool], true, false, fun x => impl_fits.f k x.1 x.2.1⟩), (134, ⟨[.io true TGroup, .val (.slice TPlace)], [], true, false, fun x => impl_Group__apply.f k x.1 x.2.1⟩)], [(3, [1, 4, 5, 17, 18, 19])], k, 0, []⟩
noncomputable def impl_Regroup.K0 (k : Nat) (a0 : Ty.den TGroup) (a1 : List (Ty.den TPlace)) : Ex → St → Option ((Ty.den TGroup) × Unit) := runK (impl_Regroup.E k) (endK (impl_Regroup.E k) Try.f57.results.toList [.val TGroup, .val (.slice TPlace)] (a0, a1, ()) [TGroup] true false) [.blk 0, .code (at_ [true, true, true] (body Try.f57))]
noncomputable def impl_Regroup.B0 (k : Nat) (a0 : Ty.den TGroup) (a1 : List (Ty.den TPlace)) (n0 : Nat) : Ex → St → Option ((Ty.den TGroup) × Unit) := fun e st => match e with
  | .normal => loopN (exec (impl_Regroup.E k) (at_ [true, true, false, true, false, false] (body Try.f57))) (canon 0 [1, 4, 5, 17, 18, 19]) (impl_Regroup.K0 k a0 a1) n0 (canon 0 [1, 4, 5, 17, 18, 19] st)
  | .ret => impl_Regroup.K0 k a0 a1 .ret st
  | .exit j => impl_Regroup.K0 k a0 a1 (.exit j) st
noncomputable def impl_Regroup.V0 (k : Nat) (a0 : Ty.den TGroup) (a1 : List (Ty.den TPlace)) (n0 : Nat) (x0_0 : List (Ty.den TPlace)) (x0_1 : List (Ty.den TPlace)) (x0_2 : Int) (x0_3 : Int) (x0_4 : List (Ty.den TEntry)) (x0_5 : Int) (x0_6 : Int) (x0_7 : List (Ty.den TEntry)) (x0_8 : Int) (x0_9 : Int) : Option ((Ty.den TGroup) × Unit) := loopN (exec (impl_Regroup.E k) (at_ [true, true, false, true, false, false] (body Try.f57))) (canon 0 [1, 4, 5, 17, 18, 19]) (impl_Regroup.K0 k a0 a1) n0 (mk 77 4 [(1, .sl true TPlace x0_0), (4, .ptr 0 0 0), (5, .ptr 2 0 0), (17, .sl true TPlace x0_1), (18, .int .i64 x0_2), (19, .int .i64 x0_3)] [(1, .own false TEntry x0_4), (0, .box [.ref 1, .int .i64 x0_5, .int .i64 x0_6]), (3, .own false TEntry x0_7), (2, .box [.ref 3, .int .i64 x0_8, .int .i64 x0_9])])
theorem impl_Regroup.s0 (k : Nat) (a0 : Ty.den TGroup) (a1 : List (Ty.den TPlace)) (n0 : Nat) (x0_0 : List (Ty.den TPlace)) (x0_1 : List (Ty.den TPlace)) (x0_2 : Int) (x0_3 : Int) (x0_4 : List (Ty.den TEntry)) (x0_5 : Int) (x0_6 : Int) (x0_7 : List (Ty.den TEntry)) (x0_8 : Int) (x0_9 : Int) : impl_Regroup.V0 k a0 a1 (n0 + 1) x0_0 x0_1 x0_2 x0_3 x0_4 x0_5 x0_6 x0_7 x0_8 x0_9 = impl_Regroup.b0 k (impl_Regroup.V0 k a0 a1 n0) x0_0 x0_1 x0_2 x0_3 x0_4 x0_5 x0_6 x0_7 x0_8 x0_9 := by kernel_rfl
theorem impl_Regroup.e0 (k : Nat) (a0 : Ty.den TGroup) (a1 : List (Ty.den TPlace)) (n0 : Nat) : impl_Regroup.V0 k a0 a1 n0 = impl_Regroup.l0 k n0 := by
  induction n0 with
  | zero => rfl
  | succ n0 ih =>
    have h : impl_Regroup.V0 k a0 a1 (n0 + 1) = impl_Regroup.b0 k (impl_Regroup.V0 k a0 a1 n0) := funext fun x0_0 => funext fun x0_1 => funext fun x0_2 => funext fun x0_3 => funext fun x0_4 => funext fun x0_5 => funext fun x0_6 => funext fun x0_7 => funext fun x0_8 => funext fun x0_9 => impl_Regroup.s0 k a0 a1 n0 x0_0 x0_1 x0_2 x0_3 x0_4 x0_5 x0_6 x0_7 x0_8 x0_9
    rw [h, ih]
    rfl
theorem impl_Regroup.q (k : Nat) (a0 : Ty.den TGroup) (a1 : List (Ty.den TPlace)) : run (impl_Regroup.E k) Try.f57 [.val TGroup, .val (.slice TPlace)] [TGroup] true false (a0, a1, ()) = impl_Regroup.t k (impl_Regroup.V0 k a0 a1 k) a0 a1 := by kernel_rfl
theorem impl_Regroup.eq (k : Nat) (a0 : Ty.den TGroup) (a1 : List (Ty.den TPlace)) : run (impl_Regroup.E k) Try.f57 [.val TGroup, .val (.slice TPlace)] [TGroup] true false (a0, a1, ()) = impl_Regroup.f k a0 a1 := by
  rw [impl_Regroup.q, impl_Regroup.e0]
  rfl
theorem impl_Regroup.ctr (k : Nat) : Ctr Try.prog 57 ⟨[.val TGroup, .val (.slice TPlace)], [TGroup], true, false, fun x => impl_Regroup.f k x.1 x.2.1⟩ :=
  run_ctr (E := impl_Regroup.E k) mixed tb_ok (eqOk_of tb_eqs) (Cts.cons (impl_copyDir.ctr k) (Cts.cons (impl_ownOf.ctr k) (Cts.cons (impl_fits.ctr k) (Cts.cons (impl_Group__apply.ctr k) Cts.nil)))) (by kernel_rfl) Try.func57 (by kernel_rfl) rfl (fun ⟨a0, a1, _⟩ r h => (impl_Regroup.eq k a0 a1).trans h)
def impl_has.E (k : Nat) : Env := ⟨tb, [], [(2, [1, 8, 9, 10])], k, 0, []⟩
noncomputable def impl_has.K0 (k : Nat) (a0 : Ty.den TFollower) (a1 : Int) : Ex → St → Option (ByteArray × Unit) := runK (impl_has.E k) (endK (impl_has.E k) Try.f124.results.toList [.val TFollower, .val (.int .i64)] (a0, a1, ()) [.str] true false) [.blk 0, .code (at_ [true, true] (body Try.f124))]
noncomputable def impl_has.B0 (k : Nat) (a0 : Ty.den TFollower) (a1 : Int) (n0 : Nat) : Ex → St → Option (ByteArray × Unit) := fun e st => match e with
  | .normal => loopN (exec (impl_has.E k) (at_ [true, false, true, false, false] (body Try.f124))) (canon 0 [1, 8, 9, 10]) (impl_has.K0 k a0 a1) n0 (canon 0 [1, 8, 9, 10] st)
  | .ret => impl_has.K0 k a0 a1 .ret st
  | .exit j => impl_has.K0 k a0 a1 (.exit j) st
noncomputable def impl_has.V0 (k : Nat) (a0 : Ty.den TFollower) (a1 : Int) (n0 : Nat) (x0_0 : Int) (x0_1 : List (Ty.den TPiece)) (x0_2 : Int) (x0_3 : Int) : Option (ByteArray × Unit) := loopN (exec (impl_has.E k) (at_ [true, false, true, false, false] (body Try.f124))) (canon 0 [1, 8, 9, 10]) (impl_has.K0 k a0 a1) n0 (mk 21 0 [(1, .int .i64 x0_0), (8, .sl true TPiece x0_1), (9, .int .i64 x0_2), (10, .int .i64 x0_3)] [])
theorem impl_has.s0 (k : Nat) (a0 : Ty.den TFollower) (a1 : Int) (n0 : Nat) (x0_0 : Int) (x0_1 : List (Ty.den TPiece)) (x0_2 : Int) (x0_3 : Int) : impl_has.V0 k a0 a1 (n0 + 1) x0_0 x0_1 x0_2 x0_3 = impl_has.b0 k (impl_has.V0 k a0 a1 n0) x0_0 x0_1 x0_2 x0_3 := by kernel_rfl
theorem impl_has.e0 (k : Nat) (a0 : Ty.den TFollower) (a1 : Int) (n0 : Nat) : impl_has.V0 k a0 a1 n0 = impl_has.l0 k n0 := by
  induction n0 with
  | zero => rfl
  | succ n0 ih =>
    have h : impl_has.V0 k a0 a1 (n0 + 1) = impl_has.b0 k (impl_has.V0 k a0 a1 n0) := funext fun x0_0 => funext fun x0_1 => funext fun x0_2 => funext fun x0_3 => impl_has.s0 k a0 a1 n0 x0_0 x0_1 x0_2 x0_3
    rw [h, ih]
    rfl
theorem impl_has.q (k : Nat) (a0 : Ty.den TFollower) (a1 : Int) : run (impl_has.E k) Try.f124 [.val TFollower, .val (.int .i64)] [.str] true false (a0, a1, ()) = impl_has.t k (impl_has.V0 k a0 a1 k) a0 a1 := by kernel_rfl
theorem impl_has.eq (k : Nat) (a0 : Ty.den TFollower) (a1 : Int) : run (impl_has.E k) Try.f124 [.val TFollower, .val (.int .i64)] [.str] true false (a0, a1, ()) = impl_has.f k a0 a1 := by
  rw [impl_has.q, impl_has.e0]
  rfl
theorem impl_has.ctr (k : Nat) : Ctr Try.prog 124 ⟨[.val TFollower, .val (.int .i64)], [.str], true, false, fun x => impl_has.f k x.1 x.2.1⟩ :=
  run_ctr (E := impl_has.E k) mixed tb_ok (eqOk_of tb_eqs) Cts.nil (by kernel_rfl) Try.func124 (by kernel_rfl) rfl (fun ⟨a0, a1, _⟩ r h => (impl_has.eq k a0 a1).trans h)
def impl_RecAt.E (k : Nat) : Env := ⟨tb, [(94, ⟨[.val (.int .i64), .val (.int .i64), .val (.int .i64)], [.bool], true, false, fun x => impl_in.f k x.1 x.2.1 x.2.2.1⟩), (175, ⟨[.val .str], [.str, (.int .i64)], true, false, fun x => impl_Unframe.f k x.1⟩), (176, ⟨[.val .str], [TRec, .bool], true, false, fun x => impl_ReadRec.f k x.1⟩)], [], k, 0, []⟩
theorem impl_RecAt.q (k : Nat) (a0 : ByteArray) (a1 : Int) (a2 : Int) : run (impl_RecAt.E k) Try.f123 [.val .str, .val (.int .i64), .val (.int .i64)] [TRec, .bool] true false (a0, a1, a2, ()) = impl_RecAt.t k a0 a1 a2 := by kernel_rfl
theorem impl_RecAt.eq (k : Nat) (a0 : ByteArray) (a1 : Int) (a2 : Int) : run (impl_RecAt.E k) Try.f123 [.val .str, .val (.int .i64), .val (.int .i64)] [TRec, .bool] true false (a0, a1, a2, ()) = impl_RecAt.f k a0 a1 a2 := by
  rw [impl_RecAt.q]
  rfl
theorem impl_RecAt.ctr (k : Nat) : Ctr Try.prog 123 ⟨[.val .str, .val (.int .i64), .val (.int .i64)], [TRec, .bool], true, false, fun x => impl_RecAt.f k x.1 x.2.1 x.2.2.1⟩ :=
  run_ctr (E := impl_RecAt.E k) mixed tb_ok (eqOk_of tb_eqs) (Cts.cons (impl_in.ctr k) (Cts.cons (impl_Unframe.ctr k) (Cts.cons (impl_ReadRec.ctr k) Cts.nil))) (by kernel_rfl) Try.func123 (by kernel_rfl) rfl (fun ⟨a0, a1, a2, _⟩ r h => (impl_RecAt.eq k a0 a1 a2).trans h)
def impl_FollowMap.E (k : Nat) : Env := ⟨tb, [(103, ⟨[.val .str], [(.slice TSpot), (.int .i64)], true, false, fun x => impl_ScanRecs.f k x.1⟩), (122, ⟨[.val (.int .i64), .val (.slice TSpot)], [(.slice TPlace)], true, false, fun x => impl_placed.f k x.1 x.2.1⟩), (57, ⟨[.val TGroup, .val (.slice TPlace)], [TGroup], true, false, fun x => impl_Regroup.f k x.1 x.2.1⟩), (124, ⟨[.val TFollower, .val (.int .i64)], [.str], true, false, fun x => impl_has.f k x.1 x.2.1⟩), (123, ⟨[.val .str, .val (.int .i64), .val (.int .i64)], [TRec, .bool], true, false, fun x => impl_RecAt.f k x.1 x.2.1 x.2.2.1⟩)], [(3, [1, 4, 16, 17, 18]), (15, [1, 10, 47, 48, 49])], k, 0, []⟩
noncomputable def impl_FollowMap.K0 (k : Nat) (a0 : Ty.den TFollower) : Ex → St → Option ((List (Ty.den TPair)) × Bool × Unit) := runK (impl_FollowMap.E k) (endK (impl_FollowMap.E k) Try.f52.results.toList [.val TFollower] (a0, ()) [(.slice TPair), .bool] true false) [.blk 0, .code (at_ [true, true, true] (body Try.f52))]
noncomputable def impl_FollowMap.B0 (k : Nat) (a0 : Ty.den TFollower) (n0 : Nat) : Ex → St → Option ((List (Ty.den TPair)) × Bool × Unit) := fun e st => match e with
  | .normal => loopN (exec (impl_FollowMap.E k) (at_ [true, true, false, true, false, false] (body Try.f52))) (canon 0 [1, 4, 16, 17, 18]) (impl_FollowMap.K0 k a0) n0 (canon 0 [1, 4, 16, 17, 18] st)
  | .ret => impl_FollowMap.K0 k a0 .ret st
  | .exit j => impl_FollowMap.K0 k a0 (.exit j) st
noncomputable def impl_FollowMap.K1 (k : Nat) (a0 : Ty.den TFollower) : Ex → St → Option ((List (Ty.den TPair)) × Bool × Unit) := runK (impl_FollowMap.E k) (endK (impl_FollowMap.E k) Try.f52.results.toList [.val TFollower] (a0, ()) [(.slice TPair), .bool] true false) [.blk 2, .code (at_ [true, true, true, true, true, true, true] (body Try.f52))]
noncomputable def impl_FollowMap.B1 (k : Nat) (a0 : Ty.den TFollower) (n1 : Nat) : Ex → St → Option ((List (Ty.den TPair)) × Bool × Unit) := fun e st => match e with
  | .normal => loopN (exec (impl_FollowMap.E k) (at_ [true, true, true, true, true, true, false, true, false, false] (body Try.f52))) (canon 0 [1, 10, 47, 48, 49]) (impl_FollowMap.K1 k a0) n1 (canon 0 [1, 10, 47, 48, 49] st)
  | .ret => impl_FollowMap.K1 k a0 .ret st
  | .exit j => impl_FollowMap.K1 k a0 (.exit j) st
noncomputable def impl_FollowMap.V0 (k : Nat) (a0 : Ty.den TFollower) (n0 : Nat) (x0_0 : List (Ty.den TPiece)) (x0_1 : Int) (x0_2 : Int) (x0_3 : Int) (x0_4 : List (Ty.den TPiece)) (x0_5 : List (Ty.den TPlace)) : Option ((List (Ty.den TPair)) × Bool × Unit) := loopN (exec (impl_FollowMap.E k) (at_ [true, true, false, true, false, false] (body Try.f52))) (canon 0 [1, 4, 16, 17, 18]) (impl_FollowMap.K0 k a0) n0 (mk 79 2 [(1, .ptr 0 0 0), (4, .ref 1), (16, .sl true TPiece x0_0), (17, .int .i64 x0_1), (18, .int .i64 x0_2)] [(0, .box [.int .i64 x0_3, .sl true TPiece x0_4]), (1, .own false TPlace x0_5)])
noncomputable def impl_FollowMap.V1 (k : Nat) (a0 : Ty.den TFollower) (n1 : Nat) (x1_0 : Int) (x1_1 : Int) (x1_2 : Int) (x1_3 : List (Ty.den TPiece)) (x1_4 : List (Ty.den TPair)) (x1_5 : List (Ty.den TEntry)) : Option ((List (Ty.den TPair)) × Bool × Unit) := loopN (exec (impl_FollowMap.E k) (at_ [true, true, true, true, true, true, false, true, false, false] (body Try.f52))) (canon 0 [1, 10, 47, 48, 49]) (impl_FollowMap.K1 k a0) n1 (mk 79 3 [(1, .ptr 0 0 0), (10, .ref 1), (47, .ref 2), (48, .int .i64 x1_0), (49, .int .i64 x1_1)] [(0, .box [.int .i64 x1_2, .sl true TPiece x1_3]), (1, .own false TPair x1_4), (2, .own false TEntry x1_5)])
theorem impl_FollowMap.s0 (k : Nat) (a0 : Ty.den TFollower) (n0 : Nat) (x0_0 : List (Ty.den TPiece)) (x0_1 : Int) (x0_2 : Int) (x0_3 : Int) (x0_4 : List (Ty.den TPiece)) (x0_5 : List (Ty.den TPlace)) : impl_FollowMap.V0 k a0 (n0 + 1) x0_0 x0_1 x0_2 x0_3 x0_4 x0_5 = impl_FollowMap.b0 k (impl_FollowMap.V1 k a0 k) (impl_FollowMap.V0 k a0 n0) x0_0 x0_1 x0_2 x0_3 x0_4 x0_5 := by kernel_rfl
theorem impl_FollowMap.s1 (k : Nat) (a0 : Ty.den TFollower) (n1 : Nat) (x1_0 : Int) (x1_1 : Int) (x1_2 : Int) (x1_3 : List (Ty.den TPiece)) (x1_4 : List (Ty.den TPair)) (x1_5 : List (Ty.den TEntry)) : impl_FollowMap.V1 k a0 (n1 + 1) x1_0 x1_1 x1_2 x1_3 x1_4 x1_5 = impl_FollowMap.b1 k (impl_FollowMap.V1 k a0 n1) x1_0 x1_1 x1_2 x1_3 x1_4 x1_5 := by kernel_rfl
theorem impl_FollowMap.e1 (k : Nat) (a0 : Ty.den TFollower) (n1 : Nat) : impl_FollowMap.V1 k a0 n1 = impl_FollowMap.l1 k n1 := by
  induction n1 with
  | zero => rfl
  | succ n1 ih =>
    have h : impl_FollowMap.V1 k a0 (n1 + 1) = impl_FollowMap.b1 k (impl_FollowMap.V1 k a0 n1) := funext fun x1_0 => funext fun x1_1 => funext fun x1_2 => funext fun x1_3 => funext fun x1_4 => funext fun x1_5 => impl_FollowMap.s1 k a0 n1 x1_0 x1_1 x1_2 x1_3 x1_4 x1_5
    rw [h, ih]
    rfl
theorem impl_FollowMap.e0 (k : Nat) (a0 : Ty.den TFollower) (n0 : Nat) : impl_FollowMap.V0 k a0 n0 = impl_FollowMap.l0 k n0 := by
  induction n0 with
  | zero => rfl
  | succ n0 ih =>
    have h : impl_FollowMap.V0 k a0 (n0 + 1) = impl_FollowMap.b0 k (impl_FollowMap.V1 k a0 k) (impl_FollowMap.V0 k a0 n0) := funext fun x0_0 => funext fun x0_1 => funext fun x0_2 => funext fun x0_3 => funext fun x0_4 => funext fun x0_5 => impl_FollowMap.s0 k a0 n0 x0_0 x0_1 x0_2 x0_3 x0_4 x0_5
    rw [h, impl_FollowMap.e1, ih]
    rfl
theorem impl_FollowMap.q (k : Nat) (a0 : Ty.den TFollower) : run (impl_FollowMap.E k) Try.f52 [.val TFollower] [(.slice TPair), .bool] true false (a0, ()) = impl_FollowMap.t k (impl_FollowMap.V0 k a0 k) a0 := by kernel_rfl
theorem impl_FollowMap.eq (k : Nat) (a0 : Ty.den TFollower) : run (impl_FollowMap.E k) Try.f52 [.val TFollower] [(.slice TPair), .bool] true false (a0, ()) = impl_FollowMap.f k a0 := by
  rw [impl_FollowMap.q, impl_FollowMap.e0]
  rfl
theorem impl_FollowMap.ctr (k : Nat) : Ctr Try.prog 52 ⟨[.val TFollower], [(.slice TPair), .bool], true, false, fun x => impl_FollowMap.f k x.1⟩ :=
  run_ctr (E := impl_FollowMap.E k) mixed tb_ok (eqOk_of tb_eqs) (Cts.cons (impl_ScanRecs.ctr k) (Cts.cons (impl_placed.ctr k) (Cts.cons (impl_Regroup.ctr k) (Cts.cons (impl_has.ctr k) (Cts.cons (impl_RecAt.ctr k) Cts.nil))))) (by kernel_rfl) Try.func52 (by kernel_rfl) rfl (fun ⟨a0, _⟩ r h => (impl_FollowMap.eq k a0).trans h)
def laws_eqPiece.E (k : Nat) : Env := ⟨tb, [], [], k, 0, []⟩
theorem laws_eqPiece.q (k : Nat) (a0 : Ty.den TPiece) (a1 : Ty.den TPiece) : run (laws_eqPiece.E k) Try.f183 [.val TPiece, .val TPiece] [.bool] true false (a0, a1, ()) = laws_eqPiece.t k a0 a1 := by kernel_rfl
theorem laws_eqPiece.eq (k : Nat) (a0 : Ty.den TPiece) (a1 : Ty.den TPiece) : run (laws_eqPiece.E k) Try.f183 [.val TPiece, .val TPiece] [.bool] true false (a0, a1, ()) = laws_eqPiece.f k a0 a1 := by
  rw [laws_eqPiece.q]
  rfl
theorem laws_eqPiece.ctr (k : Nat) : Ctr Try.prog 183 ⟨[.val TPiece, .val TPiece], [.bool], true, false, fun x => laws_eqPiece.f k x.1 x.2.1⟩ :=
  run_ctr (E := laws_eqPiece.E k) mixed tb_ok (eqOk_of tb_eqs) Cts.nil (by kernel_rfl) Try.func183 (by kernel_rfl) rfl (fun ⟨a0, a1, _⟩ r h => (laws_eqPiece.eq k a0 a1).trans h)
def laws_eqPieceS.E (k : Nat) : Env := ⟨tb, [(183, ⟨[.val TPiece, .val TPiece], [.bool], true, false, fun x => laws_eqPiece.f k x.1 x.2.1⟩)], [(4, [0, 1, 5])], k, 0, []⟩
noncomputable def laws_eqPieceS.K0 (k : Nat) (a0 : List (Ty.den TPiece)) (a1 : List (Ty.den TPiece)) : Ex → St → Option (Bool × Unit) := runK (laws_eqPieceS.E k) (endK (laws_eqPieceS.E k) Try.f125.results.toList [.val (.slice TPiece), .val (.slice TPiece)] (a0, a1, ()) [.bool] true false) [.blk 0, .code (at_ [true, true, true] (body Try.f125))]
noncomputable def laws_eqPieceS.B0 (k : Nat) (a0 : List (Ty.den TPiece)) (a1 : List (Ty.den TPiece)) (n0 : Nat) : Ex → St → Option (Bool × Unit) := fun e st => match e with
  | .normal => loopN (exec (laws_eqPieceS.E k) (at_ [true, true, false, true, false, false] (body Try.f125))) (canon 0 [0, 1, 5]) (laws_eqPieceS.K0 k a0 a1) n0 (canon 0 [0, 1, 5] st)
  | .ret => laws_eqPieceS.K0 k a0 a1 .ret st
  | .exit j => laws_eqPieceS.K0 k a0 a1 (.exit j) st
noncomputable def laws_eqPieceS.V0 (k : Nat) (a0 : List (Ty.den TPiece)) (a1 : List (Ty.den TPiece)) (n0 : Nat) (x0_0 : List (Ty.den TPiece)) (x0_1 : List (Ty.den TPiece)) (x0_2 : Int) : Option (Bool × Unit) := loopN (exec (laws_eqPieceS.E k) (at_ [true, true, false, true, false, false] (body Try.f125))) (canon 0 [0, 1, 5]) (laws_eqPieceS.K0 k a0 a1) n0 (mk 27 0 [(0, .sl true TPiece x0_0), (1, .sl true TPiece x0_1), (5, .int .i64 x0_2)] [])
theorem laws_eqPieceS.s0 (k : Nat) (a0 : List (Ty.den TPiece)) (a1 : List (Ty.den TPiece)) (n0 : Nat) (x0_0 : List (Ty.den TPiece)) (x0_1 : List (Ty.den TPiece)) (x0_2 : Int) : laws_eqPieceS.V0 k a0 a1 (n0 + 1) x0_0 x0_1 x0_2 = laws_eqPieceS.b0 k (laws_eqPieceS.V0 k a0 a1 n0) x0_0 x0_1 x0_2 := by kernel_rfl
theorem laws_eqPieceS.e0 (k : Nat) (a0 : List (Ty.den TPiece)) (a1 : List (Ty.den TPiece)) (n0 : Nat) : laws_eqPieceS.V0 k a0 a1 n0 = laws_eqPieceS.l0 k n0 := by
  induction n0 with
  | zero => rfl
  | succ n0 ih =>
    have h : laws_eqPieceS.V0 k a0 a1 (n0 + 1) = laws_eqPieceS.b0 k (laws_eqPieceS.V0 k a0 a1 n0) := funext fun x0_0 => funext fun x0_1 => funext fun x0_2 => laws_eqPieceS.s0 k a0 a1 n0 x0_0 x0_1 x0_2
    rw [h, ih]
    rfl
theorem laws_eqPieceS.q (k : Nat) (a0 : List (Ty.den TPiece)) (a1 : List (Ty.den TPiece)) : run (laws_eqPieceS.E k) Try.f125 [.val (.slice TPiece), .val (.slice TPiece)] [.bool] true false (a0, a1, ()) = laws_eqPieceS.t k (laws_eqPieceS.V0 k a0 a1 k) a0 a1 := by kernel_rfl
theorem laws_eqPieceS.eq (k : Nat) (a0 : List (Ty.den TPiece)) (a1 : List (Ty.den TPiece)) : run (laws_eqPieceS.E k) Try.f125 [.val (.slice TPiece), .val (.slice TPiece)] [.bool] true false (a0, a1, ()) = laws_eqPieceS.f k a0 a1 := by
  rw [laws_eqPieceS.q, laws_eqPieceS.e0]
  rfl
theorem laws_eqPieceS.ctr (k : Nat) : Ctr Try.prog 125 ⟨[.val (.slice TPiece), .val (.slice TPiece)], [.bool], true, false, fun x => laws_eqPieceS.f k x.1 x.2.1⟩ :=
  run_ctr (E := laws_eqPieceS.E k) mixed tb_ok (eqOk_of tb_eqs) (Cts.cons (laws_eqPiece.ctr k) Cts.nil) (by kernel_rfl) Try.func125 (by kernel_rfl) rfl (fun ⟨a0, a1, _⟩ r h => (laws_eqPieceS.eq k a0 a1).trans h)
def laws_eqFollower.E (k : Nat) : Env := ⟨tb, [(125, ⟨[.val (.slice TPiece), .val (.slice TPiece)], [.bool], true, false, fun x => laws_eqPieceS.f k x.1 x.2.1⟩)], [], k, 0, []⟩
theorem laws_eqFollower.q (k : Nat) (a0 : Ty.den TFollower) (a1 : Ty.den TFollower) : run (laws_eqFollower.E k) Try.f53 [.val TFollower, .val TFollower] [.bool] true false (a0, a1, ()) = laws_eqFollower.t k a0 a1 := by kernel_rfl
theorem laws_eqFollower.eq (k : Nat) (a0 : Ty.den TFollower) (a1 : Ty.den TFollower) : run (laws_eqFollower.E k) Try.f53 [.val TFollower, .val TFollower] [.bool] true false (a0, a1, ()) = laws_eqFollower.f k a0 a1 := by
  rw [laws_eqFollower.q]
  rfl
theorem laws_eqFollower.ctr (k : Nat) : Ctr Try.prog 53 ⟨[.val TFollower, .val TFollower], [.bool], true, false, fun x => laws_eqFollower.f k x.1 x.2.1⟩ :=
  run_ctr (E := laws_eqFollower.E k) mixed tb_ok (eqOk_of tb_eqs) (Cts.cons (laws_eqPieceS.ctr k) Cts.nil) (by kernel_rfl) Try.func53 (by kernel_rfl) rfl (fun ⟨a0, a1, _⟩ r h => (laws_eqFollower.eq k a0 a1).trans h)
def laws_markPieceS.E (k : Nat) : Env := ⟨tb, [(81, ⟨[.val (.int .i64)], [.str], true, false, fun x => laws_markText.f k x.1⟩)], [(2, [0, 1, 5])], k, 1, []⟩
noncomputable def laws_markPieceS.K0 (k : Nat) (a0 : List (Ty.den TPiece)) (a1 : Int) : Ex → St → Option ((List (Ty.den TPiece)) × Int × Unit) := runK (laws_markPieceS.E k) (endK (laws_markPieceS.E k) Try.f126.results.toList [.lend (.slice TPiece), .val (.int .i64)] (a0, a1, ()) [(.int .i64)] true false) [.blk 0, .code (at_ [true, true] (body Try.f126))]
noncomputable def laws_markPieceS.B0 (k : Nat) (a0 : List (Ty.den TPiece)) (a1 : Int) (n0 : Nat) : Ex → St → Option ((List (Ty.den TPiece)) × Int × Unit) := fun e st => match e with
  | .normal => loopN (exec (laws_markPieceS.E k) (at_ [true, false, true, false, false] (body Try.f126))) (canon 1 [0, 1, 5]) (laws_markPieceS.K0 k a0 a1) n0 (canon 1 [0, 1, 5] st)
  | .ret => laws_markPieceS.K0 k a0 a1 .ret st
  | .exit j => laws_markPieceS.K0 k a0 a1 (.exit j) st
noncomputable def laws_markPieceS.V0 (k : Nat) (a0 : List (Ty.den TPiece)) (a1 : Int) (n0 : Nat) (x0_0 : Int) (x0_1 : Int) (x0_2 : List (Ty.den TPiece)) : Option ((List (Ty.den TPiece)) × Int × Unit) := loopN (exec (laws_markPieceS.E k) (at_ [true, false, true, false, false] (body Try.f126))) (canon 1 [0, 1, 5]) (laws_markPieceS.K0 k a0 a1) n0 (mk 28 1 [(0, .ref 0), (1, .int .i64 x0_0), (5, .int .i64 x0_1)] [(0, .own false TPiece x0_2)])
theorem laws_markPieceS.s0 (k : Nat) (a0 : List (Ty.den TPiece)) (a1 : Int) (n0 : Nat) (x0_0 : Int) (x0_1 : Int) (x0_2 : List (Ty.den TPiece)) : laws_markPieceS.V0 k a0 a1 (n0 + 1) x0_0 x0_1 x0_2 = laws_markPieceS.b0 k a0 a1 (laws_markPieceS.V0 k a0 a1 n0) x0_0 x0_1 x0_2 := by kernel_rfl
theorem laws_markPieceS.e0 (k : Nat) (a0 : List (Ty.den TPiece)) (a1 : Int) (n0 : Nat) : laws_markPieceS.V0 k a0 a1 n0 = laws_markPieceS.l0 k a0 a1 n0 := by
  induction n0 with
  | zero => rfl
  | succ n0 ih =>
    have h : laws_markPieceS.V0 k a0 a1 (n0 + 1) = laws_markPieceS.b0 k a0 a1 (laws_markPieceS.V0 k a0 a1 n0) := funext fun x0_0 => funext fun x0_1 => funext fun x0_2 => laws_markPieceS.s0 k a0 a1 n0 x0_0 x0_1 x0_2
    rw [h, ih]
    rfl
theorem laws_markPieceS.q (k : Nat) (a0 : List (Ty.den TPiece)) (a1 : Int) : run (laws_markPieceS.E k) Try.f126 [.lend (.slice TPiece), .val (.int .i64)] [(.int .i64)] true false (a0, a1, ()) = laws_markPieceS.t k (laws_markPieceS.V0 k a0 a1 k) a0 a1 := by kernel_rfl
theorem laws_markPieceS.eq (k : Nat) (a0 : List (Ty.den TPiece)) (a1 : Int) : run (laws_markPieceS.E k) Try.f126 [.lend (.slice TPiece), .val (.int .i64)] [(.int .i64)] true false (a0, a1, ()) = laws_markPieceS.f k a0 a1 := by
  rw [laws_markPieceS.q, laws_markPieceS.e0]
  rfl
theorem laws_markPieceS.ctr (k : Nat) : Ctr Try.prog 126 ⟨[.lend (.slice TPiece), .val (.int .i64)], [(.int .i64)], true, false, fun x => laws_markPieceS.f k x.1 x.2.1⟩ :=
  run_ctr (E := laws_markPieceS.E k) mixed tb_ok (eqOk_of tb_eqs) (Cts.cons (laws_markText.ctr k) Cts.nil) (by kernel_rfl) Try.func126 (by kernel_rfl) rfl (fun ⟨a0, a1, _⟩ r h => (laws_markPieceS.eq k a0 a1).trans h)
def laws_markFollower.E (k : Nat) : Env := ⟨tb, [(126, ⟨[.lend (.slice TPiece), .val (.int .i64)], [(.int .i64)], true, false, fun x => laws_markPieceS.f k x.1 x.2.1⟩)], [], k, 1, []⟩
theorem laws_markFollower.q (k : Nat) (a0 : Ty.den TFollower) (a1 : Int) : run (laws_markFollower.E k) Try.f54 [.lend TFollower, .val (.int .i64)] [(.int .i64)] true false (a0, a1, ()) = laws_markFollower.t k a0 a1 := by kernel_rfl
theorem laws_markFollower.eq (k : Nat) (a0 : Ty.den TFollower) (a1 : Int) : run (laws_markFollower.E k) Try.f54 [.lend TFollower, .val (.int .i64)] [(.int .i64)] true false (a0, a1, ()) = laws_markFollower.f k a0 a1 := by
  rw [laws_markFollower.q]
  rfl
theorem laws_markFollower.ctr (k : Nat) : Ctr Try.prog 54 ⟨[.lend TFollower, .val (.int .i64)], [(.int .i64)], true, false, fun x => laws_markFollower.f k x.1 x.2.1⟩ :=
  run_ctr (E := laws_markFollower.E k) mixed tb_ok (eqOk_of tb_eqs) (Cts.cons (laws_markPieceS.ctr k) Cts.nil) (by kernel_rfl) Try.func54 (by kernel_rfl) rfl (fun ⟨a0, a1, _⟩ r h => (laws_markFollower.eq k a0 a1).trans h)
def laws_FnExactFollowMap.E (k : Nat) : Env := ⟨tb, [(49, ⟨[.val TFollower, .val (.int .i64)], [(.int .i64)], true, false, fun x => laws_szFollower.f k x.1 x.2.1⟩), (51, ⟨[.val TFollower], [TFollower], true, false, fun x => laws_toFollower.f k x.1⟩), (50, ⟨[.val TFollower], [(.slice TPair), .bool], true, false, fun x => spec_FollowMap.f k x.1⟩), (52, ⟨[.val TFollower], [(.slice TPair), .bool], true, false, fun x => impl_FollowMap.f k x.1⟩), (23, ⟨[.val (.slice TPair), .val (.slice TPair)], [.bool], true, false, fun x => laws_eqPairS.f k x.1 x.2.1⟩), (53, ⟨[.val TFollower, .val TFollower], [.bool], true, false, fun x => laws_eqFollower.f k x.1 x.2.1⟩), (54, ⟨[.lend TFollower, .val (.int .i64)], [(.int .i64)], true, false, fun x => laws_markFollower.f k x.1 x.2.1⟩), (25, ⟨[.lend (.slice TPair), .val (.int .i64)], [(.int .i64)], true, false, fun x => laws_markPairS.f k x.1 x.2.1⟩), (26, ⟨[.val (.slice TPair), .val (.int .i64)], [(.int .i64)], true, false, fun x => laws_heldPairS.f k x.1 x.2.1⟩)], [], k, 0, []⟩
theorem laws_FnExactFollowMap.q (k : Nat) (a0 : Ty.den TFollower) : run (laws_FnExactFollowMap.E k) Try.f9 [.val TFollower] [.bool] true false (a0, ()) = laws_FnExactFollowMap.t k a0 := by kernel_rfl
theorem laws_FnExactFollowMap.eq (k : Nat) (a0 : Ty.den TFollower) : run (laws_FnExactFollowMap.E k) Try.f9 [.val TFollower] [.bool] true false (a0, ()) = laws_FnExactFollowMap.f k a0 := by
  rw [laws_FnExactFollowMap.q]
  rfl
theorem laws_FnExactFollowMap.ctr (k : Nat) : Ctr Try.prog 9 ⟨[.val TFollower], [.bool], true, false, fun x => laws_FnExactFollowMap.f k x.1⟩ :=
  run_ctr (E := laws_FnExactFollowMap.E k) mixed tb_ok (eqOk_of tb_eqs) (Cts.cons (laws_szFollower.ctr k) (Cts.cons (laws_toFollower.ctr k) (Cts.cons (spec_FollowMap.ctr k) (Cts.cons (impl_FollowMap.ctr k) (Cts.cons (laws_eqPairS.ctr k) (Cts.cons (laws_eqFollower.ctr k) (Cts.cons (laws_markFollower.ctr k) (Cts.cons (laws_markPairS.ctr k) (Cts.cons (laws_heldPairS.ctr k) Cts.nil))))))))) (by kernel_rfl) Try.func9 (by kernel_rfl) rfl (fun ⟨a0, _⟩ r h => (laws_FnExactFollowMap.eq k a0).trans h)
end Go.Proofs.Ytiigjojchlplpaa.G

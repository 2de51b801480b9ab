/- Functions keep their contracts. -/
import Derived.Test.YtiigjojchlplpaaVTab
import Derived.Test.YtiigjojchlplpaaFA
set_option linter.unusedVariables false
set_option maxRecDepth 100000
namespace Go.Proofs.Ytiigjojchlplpaa.G
open Go.V
def laws_szPair.E (k : Nat) : Env := ⟨tb, [], [], k, 0, []⟩
theorem laws_szPair.q (k : Nat) (a0 : Ty.den TPair) (a1 : Int) : run (laws_szPair.E k) Try.f143 [.val TPair, .val (.int .i64)] [(.int .i64)] true false (a0, a1, ()) = laws_szPair.t k a0 a1 := by kernel_rfl
theorem laws_szPair.eq (k : Nat) (a0 : Ty.den TPair) (a1 : Int) : run (laws_szPair.E k) Try.f143 [.val TPair, .val (.int .i64)] [(.int .i64)] true false (a0, a1, ()) = laws_szPair.f k a0 a1 := by
  rw [laws_szPair.q]
  rfl
theorem laws_szPair.ctr (k : Nat) : Ctr Try.prog 143 ⟨[.val TPair, .val (.int .i64)], [(.int .i64)], true, false, fun x => laws_szPair.f k x.1 x.2.1⟩ :=
  run_ctr (E := laws_szPair.E k) mixed tb_ok (eqOk_of tb_eqs) Cts.nil (by kernel_rfl) Try.func143 (by kernel_rfl) rfl (fun ⟨a0, a1, _⟩ r h => (laws_szPair.eq k a0 a1).trans h)
def laws_szPairS.E (k : Nat) : Env := ⟨tb, [(143, ⟨[.val TPair, .val (.int .i64)], [(.int .i64)], true, false, fun x => laws_szPair.f k x.1 x.2.1⟩)], [(5, [0, 1, 5])], k, 0, []⟩
noncomputable def laws_szPairS.K0 (k : Nat) (a0 : List (Ty.den TPair)) (a1 : Int) : Ex → St → Option (Int × Unit) := runK (laws_szPairS.E k) (endK (laws_szPairS.E k) Try.f67.results.toList [.val (.slice TPair), .val (.int .i64)] (a0, a1, ()) [(.int .i64)] true false) [.blk 0, .code (at_ [true, true, true, true] (body Try.f67))]
noncomputable def laws_szPairS.B0 (k : Nat) (a0 : List (Ty.den TPair)) (a1 : Int) (n0 : Nat) : Ex → St → Option (Int × Unit) := fun e st => match e with
  | .normal => loopN (exec (laws_szPairS.E k) (at_ [true, true, true, false, true, false, false] (body Try.f67))) (canon 0 [0, 1, 5]) (laws_szPairS.K0 k a0 a1) n0 (canon 0 [0, 1, 5] st)
  | .ret => laws_szPairS.K0 k a0 a1 .ret st
  | .exit j => laws_szPairS.K0 k a0 a1 (.exit j) st
noncomputable def laws_szPairS.V0 (k : Nat) (a0 : List (Ty.den TPair)) (a1 : Int) (n0 : Nat) (x0_0 : List (Ty.den TPair)) (x0_1 : Int) (x0_2 : Int) : Option (Int × Unit) := loopN (exec (laws_szPairS.E k) (at_ [true, true, true, false, true, false, false] (body Try.f67))) (canon 0 [0, 1, 5]) (laws_szPairS.K0 k a0 a1) n0 (mk 27 0 [(0, .sl true TPair x0_0), (1, .int .i64 x0_1), (5, .int .i64 x0_2)] [])
theorem laws_szPairS.s0 (k : Nat) (a0 : List (Ty.den TPair)) (a1 : Int) (n0 : Nat) (x0_0 : List (Ty.den TPair)) (x0_1 : Int) (x0_2 : Int) : laws_szPairS.V0 k a0 a1 (n0 + 1) x0_0 x0_1 x0_2 = laws_szPairS.b0 k (laws_szPairS.V0 k a0 a1 n0) x0_0 x0_1 x0_2 := by kernel_rfl
theorem laws_szPairS.e0 (k : Nat) (a0 : List (Ty.den TPair)) (a1 : Int) (n0 : Nat) : laws_szPairS.V0 k a0 a1 n0 = laws_szPairS.l0 k n0 := by
  induction n0 with
  | zero => rfl
  | succ n0 ih =>
    have h : laws_szPairS.V0 k a0 a1 (n0 + 1) = laws_szPairS.b0 k (laws_szPairS.V0 k a0 a1 n0) := funext fun x0_0 => funext fun x0_1 => funext fun x0_2 => laws_szPairS.s0 k a0 a1 n0 x0_0 x0_1 x0_2
    rw [h, ih]
    rfl
theorem laws_szPairS.q (k : Nat) (a0 : List (Ty.den TPair)) (a1 : Int) : run (laws_szPairS.E k) Try.f67 [.val (.slice TPair), .val (.int .i64)] [(.int .i64)] true false (a0, a1, ()) = laws_szPairS.t k (laws_szPairS.V0 k a0 a1 k) a0 a1 := by kernel_rfl
theorem laws_szPairS.eq (k : Nat) (a0 : List (Ty.den TPair)) (a1 : Int) : run (laws_szPairS.E k) Try.f67 [.val (.slice TPair), .val (.int .i64)] [(.int .i64)] true false (a0, a1, ()) = laws_szPairS.f k a0 a1 := by
  rw [laws_szPairS.q, laws_szPairS.e0]
  rfl
theorem laws_szPairS.ctr (k : Nat) : Ctr Try.prog 67 ⟨[.val (.slice TPair), .val (.int .i64)], [(.int .i64)], true, false, fun x => laws_szPairS.f k x.1 x.2.1⟩ :=
  run_ctr (E := laws_szPairS.E k) mixed tb_ok (eqOk_of tb_eqs) (Cts.cons (laws_szPair.ctr k) Cts.nil) (by kernel_rfl) Try.func67 (by kernel_rfl) rfl (fun ⟨a0, a1, _⟩ r h => (laws_szPairS.eq k a0 a1).trans h)
def laws_szStringS.E (k : Nat) : Env := ⟨tb, [], [(5, [0, 1, 5])], k, 0, []⟩
noncomputable def laws_szStringS.K0 (k : Nat) (a0 : List ByteArray) (a1 : Int) : Ex → St → Option (Int × Unit) := runK (laws_szStringS.E k) (endK (laws_szStringS.E k) Try.f139.results.toList [.val (.slice .str), .val (.int .i64)] (a0, a1, ()) [(.int .i64)] true false) [.blk 0, .code (at_ [true, true, true, true] (body Try.f139))]
noncomputable def laws_szStringS.B0 (k : Nat) (a0 : List ByteArray) (a1 : Int) (n0 : Nat) : Ex → St → Option (Int × Unit) := fun e st => match e with
  | .normal => loopN (exec (laws_szStringS.E k) (at_ [true, true, true, false, true, false, false] (body Try.f139))) (canon 0 [0, 1, 5]) (laws_szStringS.K0 k a0 a1) n0 (canon 0 [0, 1, 5] st)
  | .ret => laws_szStringS.K0 k a0 a1 .ret st
  | .exit j => laws_szStringS.K0 k a0 a1 (.exit j) st
noncomputable def laws_szStringS.V0 (k : Nat) (a0 : List ByteArray) (a1 : Int) (n0 : Nat) (x0_0 : List ByteArray) (x0_1 : Int) (x0_2 : Int) : Option (Int × Unit) := loopN (exec (laws_szStringS.E k) (at_ [true, true, true, false, true, false, false] (body Try.f139))) (canon 0 [0, 1, 5]) (laws_szStringS.K0 k a0 a1) n0 (mk 28 0 [(0, .sl true .str x0_0), (1, .int .i64 x0_1), (5, .int .i64 x0_2)] [])
theorem laws_szStringS.s0 (k : Nat) (a0 : List ByteArray) (a1 : Int) (n0 : Nat) (x0_0 : List ByteArray) (x0_1 : Int) (x0_2 : Int) : laws_szStringS.V0 k a0 a1 (n0 + 1) x0_0 x0_1 x0_2 = laws_szStringS.b0 k (laws_szStringS.V0 k a0 a1 n0) x0_0 x0_1 x0_2 := by kernel_rfl
theorem laws_szStringS.e0 (k : Nat) (a0 : List ByteArray) (a1 : Int) (n0 : Nat) : laws_szStringS.V0 k a0 a1 n0 = laws_szStringS.l0 k n0 := by
  induction n0 with
  | zero => rfl
  | succ n0 ih =>
    have h : laws_szStringS.V0 k a0 a1 (n0 + 1) = laws_szStringS.b0 k (laws_szStringS.V0 k a0 a1 n0) := funext fun x0_0 => funext fun x0_1 => funext fun x0_2 => laws_szStringS.s0 k a0 a1 n0 x0_0 x0_1 x0_2
    rw [h, ih]
    rfl
theorem laws_szStringS.q (k : Nat) (a0 : List ByteArray) (a1 : Int) : run (laws_szStringS.E k) Try.f139 [.val (.slice .str), .val (.int .i64)] [(.int .i64)] true false (a0, a1, ()) = laws_szStringS.t k (laws_szStringS.V0 k a0 a1 k) a0 a1 := by kernel_rfl
theorem laws_szStringS.eq (k : Nat) (a0 : List ByteArray) (a1 : Int) : run (laws_szStringS.E k) Try.f139 [.val (.slice .str), .val (.int .i64)] [(.int .i64)] true false (a0, a1, ()) = laws_szStringS.f k a0 a1 := by
  rw [laws_szStringS.q, laws_szStringS.e0]
  rfl
theorem laws_szStringS.ctr (k : Nat) : Ctr Try.prog 139 ⟨[.val (.slice .str), .val (.int .i64)], [(.int .i64)], true, false, fun x => laws_szStringS.f k x.1 x.2.1⟩ :=
  run_ctr (E := laws_szStringS.E k) mixed tb_ok (eqOk_of tb_eqs) Cts.nil (by kernel_rfl) Try.func139 (by kernel_rfl) rfl (fun ⟨a0, a1, _⟩ r h => (laws_szStringS.eq k a0 a1).trans h)
def laws_szPut.E (k : Nat) : Env := ⟨tb, [], [], k, 0, []⟩
theorem laws_szPut.q (k : Nat) (a0 : Ty.den TPut) (a1 : Int) : run (laws_szPut.E k) Try.f84 [.val TPut, .val (.int .i64)] [(.int .i64)] true false (a0, a1, ()) = laws_szPut.t k a0 a1 := by kernel_rfl
theorem laws_szPut.eq (k : Nat) (a0 : Ty.den TPut) (a1 : Int) : run (laws_szPut.E k) Try.f84 [.val TPut, .val (.int .i64)] [(.int .i64)] true false (a0, a1, ()) = laws_szPut.f k a0 a1 := by
  rw [laws_szPut.q]
  rfl
theorem laws_szPut.ctr (k : Nat) : Ctr Try.prog 84 ⟨[.val TPut, .val (.int .i64)], [(.int .i64)], true, false, fun x => laws_szPut.f k x.1 x.2.1⟩ :=
  run_ctr (E := laws_szPut.E k) mixed tb_ok (eqOk_of tb_eqs) Cts.nil (by kernel_rfl) Try.func84 (by kernel_rfl) rfl (fun ⟨a0, a1, _⟩ r h => (laws_szPut.eq k a0 a1).trans h)
def laws_szPutS.E (k : Nat) : Env := ⟨tb, [(84, ⟨[.val TPut, .val (.int .i64)], [(.int .i64)], true, false, fun x => laws_szPut.f k x.1 x.2.1⟩)], [(5, [0, 1, 5])], k, 0, []⟩
noncomputable def laws_szPutS.K0 (k : Nat) (a0 : List (Ty.den TPut)) (a1 : Int) : Ex → St → Option (Int × Unit) := runK (laws_szPutS.E k) (endK (laws_szPutS.E k) Try.f28.results.toList [.val (.slice TPut), .val (.int .i64)] (a0, a1, ()) [(.int .i64)] true false) [.blk 0, .code (at_ [true, true, true, true] (body Try.f28))]
noncomputable def laws_szPutS.B0 (k : Nat) (a0 : List (Ty.den TPut)) (a1 : Int) (n0 : Nat) : Ex → St → Option (Int × Unit) := fun e st => match e with
  | .normal => loopN (exec (laws_szPutS.E k) (at_ [true, true, true, false, true, false, false] (body Try.f28))) (canon 0 [0, 1, 5]) (laws_szPutS.K0 k a0 a1) n0 (canon 0 [0, 1, 5] st)
  | .ret => laws_szPutS.K0 k a0 a1 .ret st
  | .exit j => laws_szPutS.K0 k a0 a1 (.exit j) st
noncomputable def laws_szPutS.V0 (k : Nat) (a0 : List (Ty.den TPut)) (a1 : Int) (n0 : Nat) (x0_0 : List (Ty.den TPut)) (x0_1 : Int) (x0_2 : Int) : Option (Int × Unit) := loopN (exec (laws_szPutS.E k) (at_ [true, true, true, false, true, false, false] (body Try.f28))) (canon 0 [0, 1, 5]) (laws_szPutS.K0 k a0 a1) n0 (mk 27 0 [(0, .sl true TPut x0_0), (1, .int .i64 x0_1), (5, .int .i64 x0_2)] [])
theorem laws_szPutS.s0 (k : Nat) (a0 : List (Ty.den TPut)) (a1 : Int) (n0 : Nat) (x0_0 : List (Ty.den TPut)) (x0_1 : Int) (x0_2 : Int) : laws_szPutS.V0 k a0 a1 (n0 + 1) x0_0 x0_1 x0_2 = laws_szPutS.b0 k (laws_szPutS.V0 k a0 a1 n0) x0_0 x0_1 x0_2 := by kernel_rfl
theorem laws_szPutS.e0 (k : Nat) (a0 : List (Ty.den TPut)) (a1 : Int) (n0 : Nat) : laws_szPutS.V0 k a0 a1 n0 = laws_szPutS.l0 k n0 := by
  induction n0 with
  | zero => rfl
  | succ n0 ih =>
    have h : laws_szPutS.V0 k a0 a1 (n0 + 1) = laws_szPutS.b0 k (laws_szPutS.V0 k a0 a1 n0) := funext fun x0_0 => funext fun x0_1 => funext fun x0_2 => laws_szPutS.s0 k a0 a1 n0 x0_0 x0_1 x0_2
    rw [h, ih]
    rfl
theorem laws_szPutS.q (k : Nat) (a0 : List (Ty.den TPut)) (a1 : Int) : run (laws_szPutS.E k) Try.f28 [.val (.slice TPut), .val (.int .i64)] [(.int .i64)] true false (a0, a1, ()) = laws_szPutS.t k (laws_szPutS.V0 k a0 a1 k) a0 a1 := by kernel_rfl
theorem laws_szPutS.eq (k : Nat) (a0 : List (Ty.den TPut)) (a1 : Int) : run (laws_szPutS.E k) Try.f28 [.val (.slice TPut), .val (.int .i64)] [(.int .i64)] true false (a0, a1, ()) = laws_szPutS.f k a0 a1 := by
  rw [laws_szPutS.q, laws_szPutS.e0]
  rfl
theorem laws_szPutS.ctr (k : Nat) : Ctr Try.prog 28 ⟨[.val (.slice TPut), .val (.int .i64)], [(.int .i64)], true, false, fun x => laws_szPutS.f k x.1 x.2.1⟩ :=
  run_ctr (E := laws_szPutS.E k) mixed tb_ok (eqOk_of tb_eqs) (Cts.cons (laws_szPut.ctr k) Cts.nil) (by kernel_rfl) Try.func28 (by kernel_rfl) rfl (fun ⟨a0, a1, _⟩ r h => (laws_szPutS.eq k a0 a1).trans h)
def laws_szHist.E (k : Nat) : Env := ⟨tb, [(67, ⟨[.val (.slice TPair), .val (.int .i64)], [(.int .i64)], true, false, fun x => laws_szPairS.f k x.1 x.2.1⟩), (139, ⟨[.val (.slice .str), .val (.int .i64)], [(.int .i64)], true, false, fun x => laws_szStringS.f k x.1 x.2.1⟩), (28, ⟨[.val (.slice TPut), .val (.int .i64)], [(.int .i64)], true, false, fun x => laws_szPutS.f k x.1 x.2.1⟩)], [], k, 0, []⟩
theorem laws_szHist.q (k : Nat) (a0 : Ty.den THist) (a1 : Int) : run (laws_szHist.E k) Try.f62 [.val THist, .val (.int .i64)] [(.int .i64)] true false (a0, a1, ()) = laws_szHist.t k a0 a1 := by kernel_rfl
theorem laws_szHist.eq (k : Nat) (a0 : Ty.den THist) (a1 : Int) : run (laws_szHist.E k) Try.f62 [.val THist, .val (.int .i64)] [(.int .i64)] true false (a0, a1, ()) = laws_szHist.f k a0 a1 := by
  rw [laws_szHist.q]
  rfl
theorem laws_szHist.ctr (k : Nat) : Ctr Try.prog 62 ⟨[.val THist, .val (.int .i64)], [(.int .i64)], true, false, fun x => laws_szHist.f k x.1 x.2.1⟩ :=
  run_ctr (E := laws_szHist.E k) mixed tb_ok (eqOk_of tb_eqs) (Cts.cons (laws_szPairS.ctr k) (Cts.cons (laws_szStringS.ctr k) (Cts.cons (laws_szPutS.ctr k) Cts.nil))) (by kernel_rfl) Try.func62 (by kernel_rfl) rfl (fun ⟨a0, a1, _⟩ r h => (laws_szHist.eq k a0 a1).trans h)
def laws_szHistS.E (k : Nat) : Env := ⟨tb, [(62, ⟨[.val THist, .val (.int .i64)], [(.int .i64)], true, false, fun x => laws_szHist.f k x.1 x.2.1⟩)], [(5, [0, 1, 5])], k, 0, []⟩
noncomputable def laws_szHistS.K0 (k : Nat) (a0 : List (Ty.den THist)) (a1 : Int) : Ex → St → Option (Int × Unit) := runK (laws_szHistS.E k) (endK (laws_szHistS.E k) Try.f11.results.toList [.val (.slice THist), .val (.int .i64)] (a0, a1, ()) [(.int .i64)] true false) [.blk 0, .code (at_ [true, true, true, true] (body Try.f11))]
noncomputable def laws_szHistS.B0 (k : Nat) (a0 : List (Ty.den THist)) (a1 : Int) (n0 : Nat) : Ex → St → Option (Int × Unit) := fun e st => match e with
  | .normal => loopN (exec (laws_szHistS.E k) (at_ [true, true, true, false, true, false, false] (body Try.f11))) (canon 0 [0, 1, 5]) (laws_szHistS.K0 k a0 a1) n0 (canon 0 [0, 1, 5] st)
  | .ret => laws_szHistS.K0 k a0 a1 .ret st
  | .exit j => laws_szHistS.K0 k a0 a1 (.exit j) st
noncomputable def laws_szHistS.V0 (k : Nat) (a0 : List (Ty.den THist)) (a1 : Int) (n0 : Nat) (x0_0 : List (Ty.den THist)) (x0_1 : Int) (x0_2 : Int) : Option (Int × Unit) := loopN (exec (laws_szHistS.E k) (at_ [true, true, true, false, true, false, false] (body Try.f11))) (canon 0 [0, 1, 5]) (laws_szHistS.K0 k a0 a1) n0 (mk 27 0 [(0, .sl true THist x0_0), (1, .int .i64 x0_1), (5, .int .i64 x0_2)] [])
theorem laws_szHistS.s0 (k : Nat) (a0 : List (Ty.den THist)) (a1 : Int) (n0 : Nat) (x0_0 : List (Ty.den THist)) (x0_1 : Int) (x0_2 : Int) : laws_szHistS.V0 k a0 a1 (n0 + 1) x0_0 x0_1 x0_2 = laws_szHistS.b0 k (laws_szHistS.V0 k a0 a1 n0) x0_0 x0_1 x0_2 := by kernel_rfl
theorem laws_szHistS.e0 (k : Nat) (a0 : List (Ty.den THist)) (a1 : Int) (n0 : Nat) : laws_szHistS.V0 k a0 a1 n0 = laws_szHistS.l0 k n0 := by
  induction n0 with
  | zero => rfl
  | succ n0 ih =>
    have h : laws_szHistS.V0 k a0 a1 (n0 + 1) = laws_szHistS.b0 k (laws_szHistS.V0 k a0 a1 n0) := funext fun x0_0 => funext fun x0_1 => funext fun x0_2 => laws_szHistS.s0 k a0 a1 n0 x0_0 x0_1 x0_2
    rw [h, ih]
    rfl
theorem laws_szHistS.q (k : Nat) (a0 : List (Ty.den THist)) (a1 : Int) : run (laws_szHistS.E k) Try.f11 [.val (.slice THist), .val (.int .i64)] [(.int .i64)] true false (a0, a1, ()) = laws_szHistS.t k (laws_szHistS.V0 k a0 a1 k) a0 a1 := by kernel_rfl
theorem laws_szHistS.eq (k : Nat) (a0 : List (Ty.den THist)) (a1 : Int) : run (laws_szHistS.E k) Try.f11 [.val (.slice THist), .val (.int .i64)] [(.int .i64)] true false (a0, a1, ()) = laws_szHistS.f k a0 a1 := by
  rw [laws_szHistS.q, laws_szHistS.e0]
  rfl
theorem laws_szHistS.ctr (k : Nat) : Ctr Try.prog 11 ⟨[.val (.slice THist), .val (.int .i64)], [(.int .i64)], true, false, fun x => laws_szHistS.f k x.1 x.2.1⟩ :=
  run_ctr (E := laws_szHistS.E k) mixed tb_ok (eqOk_of tb_eqs) (Cts.cons (laws_szHist.ctr k) Cts.nil) (by kernel_rfl) Try.func11 (by kernel_rfl) rfl (fun ⟨a0, a1, _⟩ r h => (laws_szHistS.eq k a0 a1).trans h)
def laws_toPair.E (k : Nat) : Env := ⟨tb, [], [], k, 0, []⟩
theorem laws_toPair.q (k : Nat) (a0 : Ty.den TPair) : run (laws_toPair.E k) Try.f146 [.val TPair] [TPair] true false (a0, ()) = laws_toPair.t k a0 := by kernel_rfl
theorem laws_toPair.eq (k : Nat) (a0 : Ty.den TPair) : run (laws_toPair.E k) Try.f146 [.val TPair] [TPair] true false (a0, ()) = laws_toPair.f k a0 := by
  rw [laws_toPair.q]
  rfl
theorem laws_toPair.ctr (k : Nat) : Ctr Try.prog 146 ⟨[.val TPair], [TPair], true, false, fun x => laws_toPair.f k x.1⟩ :=
  run_ctr (E := laws_toPair.E k) mixed tb_ok (eqOk_of tb_eqs) Cts.nil (by kernel_rfl) Try.func146 (by kernel_rfl) rfl (fun ⟨a0, _⟩ r h => (laws_toPair.eq k a0).trans h)
def laws_toPairS.E (k : Nat) : Env := ⟨tb, [(146, ⟨[.val TPair], [TPair], true, false, fun x => laws_toPair.f k x.1⟩)], [(3, [0, 3, 4])], k, 0, []⟩
noncomputable def laws_toPairS.K0 (k : Nat) (a0 : List (Ty.den TPair)) : Ex → St → Option ((List (Ty.den TPair)) × Unit) := runK (laws_toPairS.E k) (endK (laws_toPairS.E k) Try.f72.results.toList [.val (.slice TPair)] (a0, ()) [(.slice TPair)] true false) [.blk 0, .code (at_ [true, true, true] (body Try.f72))]
noncomputable def laws_toPairS.B0 (k : Nat) (a0 : List (Ty.den TPair)) (n0 : Nat) : Ex → St → Option ((List (Ty.den TPair)) × Unit) := fun e st => match e with
  | .normal => loopN (exec (laws_toPairS.E k) (at_ [true, true, false, true, false, false] (body Try.f72))) (canon 0 [0, 3, 4]) (laws_toPairS.K0 k a0) n0 (canon 0 [0, 3, 4] st)
  | .ret => laws_toPairS.K0 k a0 .ret st
  | .exit j => laws_toPairS.K0 k a0 (.exit j) st
noncomputable def laws_toPairS.V0 (k : Nat) (a0 : List (Ty.den TPair)) (n0 : Nat) (x0_0 : List (Ty.den TPair)) (x0_1 : Int) (x0_2 : List (Ty.den TPair)) : Option ((List (Ty.den TPair)) × Unit) := loopN (exec (laws_toPairS.E k) (at_ [true, true, false, true, false, false] (body Try.f72))) (canon 0 [0, 3, 4]) (laws_toPairS.K0 k a0) n0 (mk 23 1 [(0, .sl true TPair x0_0), (3, .ref 0), (4, .int .i64 x0_1)] [(0, .own false TPair x0_2)])
theorem laws_toPairS.s0 (k : Nat) (a0 : List (Ty.den TPair)) (n0 : Nat) (x0_0 : List (Ty.den TPair)) (x0_1 : Int) (x0_2 : List (Ty.den TPair)) : laws_toPairS.V0 k a0 (n0 + 1) x0_0 x0_1 x0_2 = laws_toPairS.b0 k (laws_toPairS.V0 k a0 n0) x0_0 x0_1 x0_2 := by kernel_rfl
theorem laws_toPairS.e0 (k : Nat) (a0 : List (Ty.den TPair)) (n0 : Nat) : laws_toPairS.V0 k a0 n0 = laws_toPairS.l0 k n0 := by
  induction n0 with
  | zero => rfl
  | succ n0 ih =>
    have h : laws_toPairS.V0 k a0 (n0 + 1) = laws_toPairS.b0 k (laws_toPairS.V0 k a0 n0) := funext fun x0_0 => funext fun x0_1 => funext fun x0_2 => laws_toPairS.s0 k a0 n0 x0_0 x0_1 x0_2
    rw [h, ih]
    rfl
theorem laws_toPairS.q (k : Nat) (a0 : List (Ty.den TPair)) : run (laws_toPairS.E k) Try.f72 [.val (.slice TPair)] [(.slice TPair)] true false (a0, ()) = laws_toPairS.t k (laws_toPairS.V0 k a0 k) a0 := by kernel_rfl
theorem laws_toPairS.eq (k : Nat) (a0 : List (Ty.den TPair)) : run (laws_toPairS.E k) Try.f72 [.val (.slice TPair)] [(.slice TPair)] true false (a0, ()) = laws_toPairS.f k a0 := by
  rw [laws_toPairS.q, laws_toPairS.e0]
  rfl
theorem laws_toPairS.ctr (k : Nat) : Ctr Try.prog 72 ⟨[.val (.slice TPair)], [(.slice TPair)], true, false, fun x => laws_toPairS.f k x.1⟩ :=
  run_ctr (E := laws_toPairS.E k) mixed tb_ok (eqOk_of tb_eqs) (Cts.cons (laws_toPair.ctr k) Cts.nil) (by kernel_rfl) Try.func72 (by kernel_rfl) rfl (fun ⟨a0, _⟩ r h => (laws_toPairS.eq k a0).trans h)
def laws_toStringS.E (k : Nat) : Env := ⟨tb, [], [(3, [0, 3, 4])], k, 0, []⟩
noncomputable def laws_toStringS.K0 (k : Nat) (a0 : List ByteArray) : Ex → St → Option ((List ByteArray) × Unit) := runK (laws_toStringS.E k) (endK (laws_toStringS.E k) Try.f140.results.toList [.val (.slice .str)] (a0, ()) [(.slice .str)] true false) [.blk 0, .code (at_ [true, true, true] (body Try.f140))]
noncomputable def laws_toStringS.B0 (k : Nat) (a0 : List ByteArray) (n0 : Nat) : Ex → St → Option ((List ByteArray) × Unit) := fun e st => match e with
  | .normal => loopN (exec (laws_toStringS.E k) (at_ [true, true, false, true, false, false] (body Try.f140))) (canon 0 [0, 3, 4]) (laws_toStringS.K0 k a0) n0 (canon 0 [0, 3, 4] st)
  | .ret => laws_toStringS.K0 k a0 .ret st
  | .exit j => laws_toStringS.K0 k a0 (.exit j) st
noncomputable def laws_toStringS.V0 (k : Nat) (a0 : List ByteArray) (n0 : Nat) (x0_0 : List ByteArray) (x0_1 : Int) (x0_2 : List ByteArray) : Option ((List ByteArray) × Unit) := loopN (exec (laws_toStringS.E k) (at_ [true, true, false, true, false, false] (body Try.f140))) (canon 0 [0, 3, 4]) (laws_toStringS.K0 k a0) n0 (mk 22 1 [(0, .sl true .str x0_0), (3, .ref 0), (4, .int .i64 x0_1)] [(0, .own false .str x0_2)])
theorem laws_toStringS.s0 (k : Nat) (a0 : List ByteArray) (n0 : Nat) (x0_0 : List ByteArray) (x0_1 : Int) (x0_2 : List ByteArray) : laws_toStringS.V0 k a0 (n0 + 1) x0_0 x0_1 x0_2 = laws_toStringS.b0 k (laws_toStringS.V0 k a0 n0) x0_0 x0_1 x0_2 := by kernel_rfl
theorem laws_toStringS.e0 (k : Nat) (a0 : List ByteArray) (n0 : Nat) : laws_toStringS.V0 k a0 n0 = laws_toStringS.l0 k n0 := by
  induction n0 with
  | zero => rfl
  | succ n0 ih =>
    have h : laws_toStringS.V0 k a0 (n0 + 1) = laws_toStringS.b0 k (laws_toStringS.V0 k a0 n0) := funext fun x0_0 => funext fun x0_1 => funext fun x0_2 => laws_toStringS.s0 k a0 n0 x0_0 x0_1 x0_2
    rw [h, ih]
    rfl
theorem laws_toStringS.q (k : Nat) (a0 : List ByteArray) : run (laws_toStringS.E k) Try.f140 [.val (.slice .str)] [(.slice .str)] true false (a0, ()) = laws_toStringS.t k (laws_toStringS.V0 k a0 k) a0 := by kernel_rfl
theorem laws_toStringS.eq (k : Nat) (a0 : List ByteArray) : run (laws_toStringS.E k) Try.f140 [.val (.slice .str)] [(.slice .str)] true false (a0, ()) = laws_toStringS.f k a0 := by
  rw [laws_toStringS.q, laws_toStringS.e0]
  rfl
theorem laws_toStringS.ctr (k : Nat) : Ctr Try.prog 140 ⟨[.val (.slice .str)], [(.slice .str)], true, false, fun x => laws_toStringS.f k x.1⟩ :=
  run_ctr (E := laws_toStringS.E k) mixed tb_ok (eqOk_of tb_eqs) Cts.nil (by kernel_rfl) Try.func140 (by kernel_rfl) rfl (fun ⟨a0, _⟩ r h => (laws_toStringS.eq k a0).trans h)
def laws_toPut.E (k : Nat) : Env := ⟨tb, [], [], k, 0, []⟩
theorem laws_toPut.q (k : Nat) (a0 : Ty.den TPut) : run (laws_toPut.E k) Try.f92 [.val TPut] [TPut] true false (a0, ()) = laws_toPut.t k a0 := by kernel_rfl
theorem laws_toPut.eq (k : Nat) (a0 : Ty.den TPut) : run (laws_toPut.E k) Try.f92 [.val TPut] [TPut] true false (a0, ()) = laws_toPut.f k a0 := by
  rw [laws_toPut.q]
  rfl
theorem laws_toPut.ctr (k : Nat) : Ctr Try.prog 92 ⟨[.val TPut], [TPut], true, false, fun x => laws_toPut.f k x.1⟩ :=
  run_ctr (E := laws_toPut.E k) mixed tb_ok (eqOk_of tb_eqs) Cts.nil (by kernel_rfl) Try.func92 (by kernel_rfl) rfl (fun ⟨a0, _⟩ r h => (laws_toPut.eq k a0).trans h)
def laws_toPutS.E (k : Nat) : Env := ⟨tb, [(92, ⟨[.val TPut], [TPut], true, false, fun x => laws_toPut.f k x.1⟩)], [(3, [0, 3, 4])], k, 0, []⟩
noncomputable def laws_toPutS.K0 (k : Nat) (a0 : List (Ty.den TPut)) : Ex → St → Option ((List (Ty.den TPut)) × Unit) := runK (laws_toPutS.E k) (endK (laws_toPutS.E k) Try.f31.results.toList [.val (.slice TPut)] (a0, ()) [(.slice TPut)] true false) [.blk 0, .code (at_ [true, true, true] (body Try.f31))]
noncomputable def laws_toPutS.B0 (k : Nat) (a0 : List (Ty.den TPut)) (n0 : Nat) : Ex → St → Option ((List (Ty.den TPut)) × Unit) := fun e st => match e with
  | .normal => loopN (exec (laws_toPutS.E k) (at_ [true, true, false, true, false, false] (body Try.f31))) (canon 0 [0, 3, 4]) (laws_toPutS.K0 k a0) n0 (canon 0 [0, 3, 4] st)
  | .ret => laws_toPutS.K0 k a0 .ret st
  | .exit j => laws_toPutS.K0 k a0 (.exit j) st
noncomputable def laws_toPutS.V0 (k : Nat) (a0 : List (Ty.den TPut)) (n0 : Nat) (x0_0 : List (Ty.den TPut)) (x0_1 : Int) (x0_2 : List (Ty.den TPut)) : Option ((List (Ty.den TPut)) × Unit) := loopN (exec (laws_toPutS.E k) (at_ [true, true, false, true, false, false] (body Try.f31))) (canon 0 [0, 3, 4]) (laws_toPutS.K0 k a0) n0 (mk 23 1 [(0, .sl true TPut x0_0), (3, .ref 0), (4, .int .i64 x0_1)] [(0, .own false TPut x0_2)])
theorem laws_toPutS.s0 (k : Nat) (a0 : List (Ty.den TPut)) (n0 : Nat) (x0_0 : List (Ty.den TPut)) (x0_1 : Int) (x0_2 : List (Ty.den TPut)) : laws_toPutS.V0 k a0 (n0 + 1) x0_0 x0_1 x0_2 = laws_toPutS.b0 k (laws_toPutS.V0 k a0 n0) x0_0 x0_1 x0_2 := by kernel_rfl
theorem laws_toPutS.e0 (k : Nat) (a0 : List (Ty.den TPut)) (n0 : Nat) : laws_toPutS.V0 k a0 n0 = laws_toPutS.l0 k n0 := by
  induction n0 with
  | zero => rfl
  | succ n0 ih =>
    have h : laws_toPutS.V0 k a0 (n0 + 1) = laws_toPutS.b0 k (laws_toPutS.V0 k a0 n0) := funext fun x0_0 => funext fun x0_1 => funext fun x0_2 => laws_toPutS.s0 k a0 n0 x0_0 x0_1 x0_2
    rw [h, ih]
    rfl
theorem laws_toPutS.q (k : Nat) (a0 : List (Ty.den TPut)) : run (laws_toPutS.E k) Try.f31 [.val (.slice TPut)] [(.slice TPut)] true false (a0, ()) = laws_toPutS.t k (laws_toPutS.V0 k a0 k) a0 := by kernel_rfl
theorem laws_toPutS.eq (k : Nat) (a0 : List (Ty.den TPut)) : run (laws_toPutS.E k) Try.f31 [.val (.slice TPut)] [(.slice TPut)] true false (a0, ()) = laws_toPutS.f k a0 := by
  rw [laws_toPutS.q, laws_toPutS.e0]
  rfl
theorem laws_toPutS.ctr (k : Nat) : Ctr Try.prog 31 ⟨[.val (.slice TPut)], [(.slice TPut)], true, false, fun x => laws_toPutS.f k x.1⟩ :=
  run_ctr (E := laws_toPutS.E k) mixed tb_ok (eqOk_of tb_eqs) (Cts.cons (laws_toPut.ctr k) Cts.nil) (by kernel_rfl) Try.func31 (by kernel_rfl) rfl (fun ⟨a0, _⟩ r h => (laws_toPutS.eq k a0).trans h)
def laws_toHist.E (k : Nat) : Env := ⟨tb, [(72, ⟨[.val (.slice TPair)], [(.slice TPair)], true, false, fun x => laws_toPairS.f k x.1⟩), (140, ⟨[.val (.slice .str)], [(.slice .str)], true, false, fun x => laws_toStringS.f k x.1⟩), (31, ⟨[.val (.slice TPut)], [(.slice TPut)], true, false, fun x => laws_toPutS.f k x.1⟩)], [], k, 0, []⟩
theorem laws_toHist.q (k : Nat) (a0 : Ty.den THist) : run (laws_toHist.E k) Try.f64 [.val THist] [THist] true false (a0, ()) = laws_toHist.t k a0 := by kernel_rfl
theorem laws_toHist.eq (k : Nat) (a0 : Ty.den THist) : run (laws_toHist.E k) Try.f64 [.val THist] [THist] true false (a0, ()) = laws_toHist.f k a0 := by
  rw [laws_toHist.q]
  rfl
theorem laws_toHist.ctr (k : Nat) : Ctr Try.prog 64 ⟨[.val THist], [THist], true, false, fun x => laws_toHist.f k x.1⟩ :=
  run_ctr (E := laws_toHist.E k) mixed tb_ok (eqOk_of tb_eqs) (Cts.cons (laws_toPairS.ctr k) (Cts.cons (laws_toStringS.ctr k) (Cts.cons (laws_toPutS.ctr k) Cts.nil))) (by kernel_rfl) Try.func64 (by kernel_rfl) rfl (fun ⟨a0, _⟩ r h => (laws_toHist.eq k a0).trans h)
def laws_toHistS.E (k : Nat) : Env := ⟨tb, [(64, ⟨[.val THist], [THist], true, false, fun x => laws_toHist.f k x.1⟩)], [(3, [0, 3, 4])], k, 0, []⟩
noncomputable def laws_toHistS.K0 (k : Nat) (a0 : List (Ty.den THist)) : Ex → St → Option ((List (Ty.den THist)) × Unit) := runK (laws_toHistS.E k) (endK (laws_toHistS.E k) Try.f13.results.toList [.val (.slice THist)] (a0, ()) [(.slice THist)] true false) [.blk 0, .code (at_ [true, true, true] (body Try.f13))]
noncomputable def laws_toHistS.B0 (k : Nat) (a0 : List (Ty.den THist)) (n0 : Nat) : Ex → St → Option ((List (Ty.den THist)) × Unit) := fun e st => match e with
  | .normal => loopN (exec (laws_toHistS.E k) (at_ [true, true, false, true, false, false] (body Try.f13))) (canon 0 [0, 3, 4]) (laws_toHistS.K0 k a0) n0 (canon 0 [0, 3, 4] st)
  | .ret => laws_toHistS.K0 k a0 .ret st
  | .exit j => laws_toHistS.K0 k a0 (.exit j) st
noncomputable def laws_toHistS.V0 (k : Nat) (a0 : List (Ty.den THist)) (n0 : Nat) (x0_0 : List (Ty.den THist)) (x0_1 : Int) (x0_2 : List (Ty.den THist)) : Option ((List (Ty.den THist)) × Unit) := loopN (exec (laws_toHistS.E k) (at_ [true, true, false, true, false, false] (body Try.f13))) (canon 0 [0, 3, 4]) (laws_toHistS.K0 k a0) n0 (mk 23 1 [(0, .sl true THist x0_0), (3, .ref 0), (4, .int .i64 x0_1)] [(0, .own false THist x0_2)])
theorem laws_toHistS.s0 (k : Nat) (a0 : List (Ty.den THist)) (n0 : Nat) (x0_0 : List (Ty.den THist)) (x0_1 : Int) (x0_2 : List (Ty.den THist)) : laws_toHistS.V0 k a0 (n0 + 1) x0_0 x0_1 x0_2 = laws_toHistS.b0 k (laws_toHistS.V0 k a0 n0) x0_0 x0_1 x0_2 := by kernel_rfl
theorem laws_toHistS.e0 (k : Nat) (a0 : List (Ty.den THist)) (n0 : Nat) : laws_toHistS.V0 k a0 n0 = laws_toHistS.l0 k n0 := by
  induction n0 with
  | zero => rfl
  | succ n0 ih =>
    have h : laws_toHistS.V0 k a0 (n0 + 1) = laws_toHistS.b0 k (laws_toHistS.V0 k a0 n0) := funext fun x0_0 => funext fun x0_1 => funext fun x0_2 => laws_toHistS.s0 k a0 n0 x0_0 x0_1 x0_2
    rw [h, ih]
    rfl
theorem laws_toHistS.q (k : Nat) (a0 : List (Ty.den THist)) : run (laws_toHistS.E k) Try.f13 [.val (.slice THist)] [(.slice THist)] true false (a0, ()) = laws_toHistS.t k (laws_toHistS.V0 k a0 k) a0 := by kernel_rfl
theorem laws_toHistS.eq (k : Nat) (a0 : List (Ty.den THist)) : run (laws_toHistS.E k) Try.f13 [.val (.slice THist)] [(.slice THist)] true false (a0, ()) = laws_toHistS.f k a0 := by
  rw [laws_toHistS.q, laws_toHistS.e0]
  rfl
theorem laws_toHistS.ctr (k : Nat) : Ctr Try.prog 13 ⟨[.val (.slice THist)], [(.slice THist)], true, false, fun x => laws_toHistS.f k x.1⟩ :=
  run_ctr (E := laws_toHistS.E k) mixed tb_ok (eqOk_of tb_eqs) (Cts.cons (laws_toHist.ctr k) Cts.nil) (by kernel_rfl) Try.func13 (by kernel_rfl) rfl (fun ⟨a0, _⟩ r h => (laws_toHistS.eq k a0).trans h)
def spec_l13Set.E (k : Nat) : Env := ⟨tb, [], [(4, [0, 4, 7, 8, 9])], k, 0, []⟩
noncomputable def spec_l13Set.K0 (k : Nat) (a0 : List (Ty.den TPair)) (a1 : Ty.den TPair) (a2 : Bool) : Ex → St → Option ((List (Ty.den TPair)) × Unit) := runK (spec_l13Set.E k) (endK (spec_l13Set.E k) Try.f145.results.toList [.val (.slice TPair), .val TPair, .val .bool] (a0, a1, a2, ()) [(.slice TPair)] true false) [.blk 0, .code (at_ [true, true, true, true] (body Try.f145))]
noncomputable def spec_l13Set.B0 (k : Nat) (a0 : List (Ty.den TPair)) (a1 : Ty.den TPair) (a2 : Bool) (n0 : Nat) : Ex → St → Option ((List (Ty.den TPair)) × Unit) := fun e st => match e with
  | .normal => loopN (exec (spec_l13Set.E k) (at_ [true, true, true, false, true, false, false] (body Try.f145))) (canon 0 [0, 4, 7, 8, 9]) (spec_l13Set.K0 k a0 a1 a2) n0 (canon 0 [0, 4, 7, 8, 9] st)
  | .ret => spec_l13Set.K0 k a0 a1 a2 .ret st
  | .exit j => spec_l13Set.K0 k a0 a1 a2 (.exit j) st
noncomputable def spec_l13Set.V0 (k : Nat) (a0 : List (Ty.den TPair)) (a1 : Ty.den TPair) (a2 : Bool) (n0 : Nat) (x0_0 : List (Ty.den TPair)) (x0_1 : Bool) (x0_2 : Int) (x0_3 : ByteArray) (x0_4 : ByteArray) (x0_5 : Int) (x0_6 : List (Ty.den TPair)) : Option ((List (Ty.den TPair)) × Unit) := loopN (exec (spec_l13Set.E k) (at_ [true, true, true, false, true, false, false] (body Try.f145))) (canon 0 [0, 4, 7, 8, 9]) (spec_l13Set.K0 k a0 a1 a2) n0 (mk 56 2 [(0, .sl true TPair x0_0), (4, .ptr 0 0 0), (7, .ref 1), (8, .bool x0_1), (9, .int .i64 x0_2)] [(0, .box [.str x0_3, .str x0_4, .int .i64 x0_5]), (1, .own false TPair x0_6)])
theorem spec_l13Set.s0 (k : Nat) (a0 : List (Ty.den TPair)) (a1 : Ty.den TPair) (a2 : Bool) (n0 : Nat) (x0_0 : List (Ty.den TPair)) (x0_1 : Bool) (x0_2 : Int) (x0_3 : ByteArray) (x0_4 : ByteArray) (x0_5 : Int) (x0_6 : List (Ty.den TPair)) : spec_l13Set.V0 k a0 a1 a2 (n0 + 1) x0_0 x0_1 x0_2 x0_3 x0_4 x0_5 x0_6 = spec_l13Set.b0 k (spec_l13Set.V0 k a0 a1 a2 n0) x0_0 x0_1 x0_2 x0_3 x0_4 x0_5 x0_6 := by kernel_rfl
theorem spec_l13Set.e0 (k : Nat) (a0 : List (Ty.den TPair)) (a1 : Ty.den TPair) (a2 : Bool) (n0 : Nat) : spec_l13Set.V0 k a0 a1 a2 n0 = spec_l13Set.l0 k n0 := by
  induction n0 with
  | zero => rfl
  | succ n0 ih =>
    have h : spec_l13Set.V0 k a0 a1 a2 (n0 + 1) = spec_l13Set.b0 k (spec_l13Set.V0 k a0 a1 a2 n0) := funext fun x0_0 => funext fun x0_1 => funext fun x0_2 => funext fun x0_3 => funext fun x0_4 => funext fun x0_5 => funext fun x0_6 => spec_l13Set.s0 k a0 a1 a2 n0 x0_0 x0_1 x0_2 x0_3 x0_4 x0_5 x0_6
    rw [h, ih]
    rfl
theorem spec_l13Set.q (k : Nat) (a0 : List (Ty.den TPair)) (a1 : Ty.den TPair) (a2 : Bool) : run (spec_l13Set.E k) Try.f145 [.val (.slice TPair), .val TPair, .val .bool] [(.slice TPair)] true false (a0, a1, a2, ()) = spec_l13Set.t k (spec_l13Set.V0 k a0 a1 a2 k) a0 a1 a2 := by kernel_rfl
theorem spec_l13Set.eq (k : Nat) (a0 : List (Ty.den TPair)) (a1 : Ty.den TPair) (a2 : Bool) : run (spec_l13Set.E k) Try.f145 [.val (.slice TPair), .val TPair, .val .bool] [(.slice TPair)] true false (a0, a1, a2, ()) = spec_l13Set.f k a0 a1 a2 := by
  rw [spec_l13Set.q, spec_l13Set.e0]
  rfl
theorem spec_l13Set.ctr (k : Nat) : Ctr Try.prog 145 ⟨[.val (.slice TPair), .val TPair, .val .bool], [(.slice TPair)], true, false, fun x => spec_l13Set.f k x.1 x.2.1 x.2.2.1⟩ :=
  run_ctr (E := spec_l13Set.E k) mixed tb_ok (eqOk_of tb_eqs) Cts.nil (by kernel_rfl) Try.func145 (by kernel_rfl) rfl (fun ⟨a0, a1, a2, _⟩ r h => (spec_l13Set.eq k a0 a1 a2).trans h)
def spec_Fold.E (k : Nat) : Env := ⟨tb, [(145, ⟨[.val (.slice TPair), .val TPair, .val .bool], [(.slice TPair)], true, false, fun x => spec_l13Set.f k x.1 x.2.1 x.2.2.1⟩)], [(3, [1, 2, 7, 8])], k, 0, []⟩
noncomputable def spec_Fold.K0 (k : Nat) (a0 : List (Ty.den TPair)) (a1 : List (Ty.den TPut)) (a2 : Int) : Ex → St → Option ((List (Ty.den TPair)) × Unit) := runK (spec_Fold.E k) (endK (spec_Fold.E k) Try.f71.results.toList [.val (.slice TPair), .val (.slice TPut), .val (.int .i64)] (a0, a1, a2, ()) [(.slice TPair)] true false) [.blk 0, .code (at_ [true, true, true] (body Try.f71))]
noncomputable def spec_Fold.B0 (k : Nat) (a0 : List (Ty.den TPair)) (a1 : List (Ty.den TPut)) (a2 : Int) (n0 : Nat) : Ex → St → Option ((List (Ty.den TPair)) × Unit) := fun e st => match e with
  | .normal => loopN (exec (spec_Fold.E k) (at_ [true, true, false, true, false, false] (body Try.f71))) (canon 0 [1, 2, 7, 8]) (spec_Fold.K0 k a0 a1 a2) n0 (canon 0 [1, 2, 7, 8] st)
  | .ret => spec_Fold.K0 k a0 a1 a2 .ret st
  | .exit j => spec_Fold.K0 k a0 a1 a2 (.exit j) st
noncomputable def spec_Fold.V0 (k : Nat) (a0 : List (Ty.den TPair)) (a1 : List (Ty.den TPut)) (a2 : Int) (n0 : Nat) (x0_0 : List (Ty.den TPut)) (x0_1 : Int) (x0_2 : Int) (x0_3 : List (Ty.den TPair)) : Option ((List (Ty.den TPair)) × Unit) := loopN (exec (spec_Fold.E k) (at_ [true, true, false, true, false, false] (body Try.f71))) (canon 0 [1, 2, 7, 8]) (spec_Fold.K0 k a0 a1 a2) n0 (mk 38 1 [(1, .sl true TPut x0_0), (2, .int .i64 x0_1), (7, .ref 0), (8, .int .i64 x0_2)] [(0, .own false TPair x0_3)])
theorem spec_Fold.s0 (k : Nat) (a0 : List (Ty.den TPair)) (a1 : List (Ty.den TPut)) (a2 : Int) (n0 : Nat) (x0_0 : List (Ty.den TPut)) (x0_1 : Int) (x0_2 : Int) (x0_3 : List (Ty.den TPair)) : spec_Fold.V0 k a0 a1 a2 (n0 + 1) x0_0 x0_1 x0_2 x0_3 = spec_Fold.b0 k (spec_Fold.V0 k a0 a1 a2 n0) x0_0 x0_1 x0_2 x0_3 := by kernel_rfl
theorem spec_Fold.e0 (k : Nat) (a0 : List (Ty.den TPair)) (a1 : List (Ty.den TPut)) (a2 : Int) (n0 : Nat) : spec_Fold.V0 k a0 a1 a2 n0 = spec_Fold.l0 k n0 := by
  induction n0 with
  | zero => rfl
  | succ n0 ih =>
    have h : spec_Fold.V0 k a0 a1 a2 (n0 + 1) = spec_Fold.b0 k (spec_Fold.V0 k a0 a1 a2 n0) := funext fun x0_0 => funext fun x0_1 => funext fun x0_2 => funext fun x0_3 => spec_Fold.s0 k a0 a1 a2 n0 x0_0 x0_1 x0_2 x0_3
    rw [h, ih]
    rfl
theorem spec_Fold.q (k : Nat) (a0 : List (Ty.den TPair)) (a1 : List (Ty.den TPut)) (a2 : Int) : run (spec_Fold.E k) Try.f71 [.val (.slice TPair), .val (.slice TPut), .val (.int .i64)] [(.slice TPair)] true false (a0, a1, a2, ()) = spec_Fold.t k (spec_Fold.V0 k a0 a1 a2 k) a0 a1 a2 := by kernel_rfl
theorem spec_Fold.eq (k : Nat) (a0 : List (Ty.den TPair)) (a1 : List (Ty.den TPut)) (a2 : Int) : run (spec_Fold.E k) Try.f71 [.val (.slice TPair), .val (.slice TPut), .val (.int .i64)] [(.slice TPair)] true false (a0, a1, a2, ()) = spec_Fold.f k a0 a1 a2 := by
  rw [spec_Fold.q, spec_Fold.e0]
  rfl
theorem spec_Fold.ctr (k : Nat) : Ctr Try.prog 71 ⟨[.val (.slice TPair), .val (.slice TPut), .val (.int .i64)], [(.slice TPair)], true, false, fun x => spec_Fold.f k x.1 x.2.1 x.2.2.1⟩ :=
  run_ctr (E := spec_Fold.E k) mixed tb_ok (eqOk_of tb_eqs) (Cts.cons (spec_l13Set.ctr k) Cts.nil) (by kernel_rfl) Try.func71 (by kernel_rfl) rfl (fun ⟨a0, a1, a2, _⟩ r h => (spec_Fold.eq k a0 a1 a2).trans h)
def spec_SerialMap.E (k : Nat) : Env := ⟨tb, [(71, ⟨[.val (.slice TPair), .val (.slice TPut), .val (.int .i64)], [(.slice TPair)], true, false, fun x => spec_Fold.f k x.1 x.2.1 x.2.2.1⟩)], [(3, [0, 3, 4])], k, 0, []⟩
noncomputable def spec_SerialMap.K0 (k : Nat) (a0 : List (Ty.den THist)) : Ex → St → Option ((List (Ty.den TPair)) × Unit) := runK (spec_SerialMap.E k) (endK (spec_SerialMap.E k) Try.f21.results.toList [.val (.slice THist)] (a0, ()) [(.slice TPair)] true false) [.blk 0, .code (at_ [true, true, true] (body Try.f21))]
noncomputable def spec_SerialMap.B0 (k : Nat) (a0 : List (Ty.den THist)) (n0 : Nat) : Ex → St → Option ((List (Ty.den TPair)) × Unit) := fun e st => match e with
  | .normal => loopN (exec (spec_SerialMap.E k) (at_ [true, true, false, true, false, false] (body Try.f21))) (canon 0 [0, 3, 4]) (spec_SerialMap.K0 k a0) n0 (canon 0 [0, 3, 4] st)
  | .ret => spec_SerialMap.K0 k a0 .ret st
  | .exit j => spec_SerialMap.K0 k a0 (.exit j) st
noncomputable def spec_SerialMap.V0 (k : Nat) (a0 : List (Ty.den THist)) (n0 : Nat) (x0_0 : List (Ty.den THist)) (x0_1 : Int) (x0_2 : List (Ty.den TPair)) : Option ((List (Ty.den TPair)) × Unit) := loopN (exec (spec_SerialMap.E k) (at_ [true, true, false, true, false, false] (body Try.f21))) (canon 0 [0, 3, 4]) (spec_SerialMap.K0 k a0) n0 (mk 20 1 [(0, .sl true THist x0_0), (3, .ref 0), (4, .int .i64 x0_1)] [(0, .own false TPair x0_2)])
theorem spec_SerialMap.s0 (k : Nat) (a0 : List (Ty.den THist)) (n0 : Nat) (x0_0 : List (Ty.den THist)) (x0_1 : Int) (x0_2 : List (Ty.den TPair)) : spec_SerialMap.V0 k a0 (n0 + 1) x0_0 x0_1 x0_2 = spec_SerialMap.b0 k (spec_SerialMap.V0 k a0 n0) x0_0 x0_1 x0_2 := by kernel_rfl
theorem spec_SerialMap.e0 (k : Nat) (a0 : List (Ty.den THist)) (n0 : Nat) : spec_SerialMap.V0 k a0 n0 = spec_SerialMap.l0 k n0 := by
  induction n0 with
  | zero => rfl
  | succ n0 ih =>
    have h : spec_SerialMap.V0 k a0 (n0 + 1) = spec_SerialMap.b0 k (spec_SerialMap.V0 k a0 n0) := funext fun x0_0 => funext fun x0_1 => funext fun x0_2 => spec_SerialMap.s0 k a0 n0 x0_0 x0_1 x0_2
    rw [h, ih]
    rfl
theorem spec_SerialMap.q (k : Nat) (a0 : List (Ty.den THist)) : run (spec_SerialMap.E k) Try.f21 [.val (.slice THist)] [(.slice TPair)] true false (a0, ()) = spec_SerialMap.t k (spec_SerialMap.V0 k a0 k) a0 := by kernel_rfl
theorem spec_SerialMap.eq (k : Nat) (a0 : List (Ty.den THist)) : run (spec_SerialMap.E k) Try.f21 [.val (.slice THist)] [(.slice TPair)] true false (a0, ()) = spec_SerialMap.f k a0 := by
  rw [spec_SerialMap.q, spec_SerialMap.e0]
  rfl
theorem spec_SerialMap.ctr (k : Nat) : Ctr Try.prog 21 ⟨[.val (.slice THist)], [(.slice TPair)], true, false, fun x => spec_SerialMap.f k x.1⟩ :=
  run_ctr (E := spec_SerialMap.E k) mixed tb_ok (eqOk_of tb_eqs) (Cts.cons (spec_Fold.ctr k) Cts.nil) (by kernel_rfl) Try.func21 (by kernel_rfl) rfl (fun ⟨a0, _⟩ r h => (spec_SerialMap.eq k a0).trans h)
def spec_l17Find.E (k : Nat) : Env := ⟨tb, [], [(2, [0, 1, 4, 6])], k, 0, []⟩
noncomputable def spec_l17Find.K0 (k : Nat) (a0 : List (Ty.den TPair)) (a1 : ByteArray) : Ex → St → Option ((Ty.den TPair) × Int × Unit) := runK (spec_l17Find.E k) (endK (spec_l17Find.E k) Try.f63.results.toList [.val (.slice TPair), .val .str] (a0, a1, ()) [TPair, (.int .i64)] true false) [.blk 0, .code (at_ [true, true] (body Try.f63))]
noncomputable def spec_l17Find.B0 (k : Nat) (a0 : List (Ty.den TPair)) (a1 : ByteArray) (n0 : Nat) : Ex → St → Option ((Ty.den TPair) × Int × Unit) := fun e st => match e with
  | .normal => loopN (exec (spec_l17Find.E k) (at_ [true, false, true, false, false] (body Try.f63))) (canon 0 [0, 1, 4, 6]) (spec_l17Find.K0 k a0 a1) n0 (canon 0 [0, 1, 4, 6] st)
  | .ret => spec_l17Find.K0 k a0 a1 .ret st
  | .exit j => spec_l17Find.K0 k a0 a1 (.exit j) st
noncomputable def spec_l17Find.V0 (k : Nat) (a0 : List (Ty.den TPair)) (a1 : ByteArray) (n0 : Nat) (x0_0 : List (Ty.den TPair)) (x0_1 : ByteArray) (x0_2 : Int) (x0_3 : ByteArray) (x0_4 : ByteArray) (x0_5 : Int) : Option ((Ty.den TPair) × Int × Unit) := loopN (exec (spec_l17Find.E k) (at_ [true, false, true, false, false] (body Try.f63))) (canon 0 [0, 1, 4, 6]) (spec_l17Find.K0 k a0 a1) n0 (mk 25 1 [(0, .sl true TPair x0_0), (1, .str x0_1), (4, .ptr 0 0 0), (6, .int .i64 x0_2)] [(0, .box [.str x0_3, .str x0_4, .int .i64 x0_5])])
theorem spec_l17Find.s0 (k : Nat) (a0 : List (Ty.den TPair)) (a1 : ByteArray) (n0 : Nat) (x0_0 : List (Ty.den TPair)) (x0_1 : ByteArray) (x0_2 : Int) (x0_3 : ByteArray) (x0_4 : ByteArray) (x0_5 : Int) : spec_l17Find.V0 k a0 a1 (n0 + 1) x0_0 x0_1 x0_2 x0_3 x0_4 x0_5 = spec_l17Find.b0 k (spec_l17Find.V0 k a0 a1 n0) x0_0 x0_1 x0_2 x0_3 x0_4 x0_5 := by kernel_rfl
theorem spec_l17Find.e0 (k : Nat) (a0 : List (Ty.den TPair)) (a1 : ByteArray) (n0 : Nat) : spec_l17Find.V0 k a0 a1 n0 = spec_l17Find.l0 k n0 := by
  induction n0 with
  | zero => rfl
  | succ n0 ih =>
    have h : spec_l17Find.V0 k a0 a1 (n0 + 1) = spec_l17Find.b0 k (spec_l17Find.V0 k a0 a1 n0) := funext fun x0_0 => funext fun x0_1 => funext fun x0_2 => funext fun x0_3 => funext fun x0_4 => funext fun x0_5 => spec_l17Find.s0 k a0 a1 n0 x0_0 x0_1 x0_2 x0_3 x0_4 x0_5
    rw [h, ih]
    rfl
theorem spec_l17Find.q (k : Nat) (a0 : List (Ty.den TPair)) (a1 : ByteArray) : run (spec_l17Find.E k) Try.f63 [.val (.slice TPair), .val .str] [TPair, (.int .i64)] true false (a0, a1, ()) = spec_l17Find.t k (spec_l17Find.V0 k a0 a1 k) a0 a1 := by kernel_rfl
theorem spec_l17Find.eq (k : Nat) (a0 : List (Ty.den TPair)) (a1 : ByteArray) : run (spec_l17Find.E k) Try.f63 [.val (.slice TPair), .val .str] [TPair, (.int .i64)] true false (a0, a1, ()) = spec_l17Find.f k a0 a1 := by
  rw [spec_l17Find.q, spec_l17Find.e0]
  rfl
theorem spec_l17Find.ctr (k : Nat) : Ctr Try.prog 63 ⟨[.val (.slice TPair), .val .str], [TPair, (.int .i64)], true, false, fun x => spec_l17Find.f k x.1 x.2.1⟩ :=
  run_ctr (E := spec_l17Find.E k) mixed tb_ok (eqOk_of tb_eqs) Cts.nil (by kernel_rfl) Try.func63 (by kernel_rfl) rfl (fun ⟨a0, a1, _⟩ r h => (spec_l17Find.eq k a0 a1).trans h)
def spec_SerialOk.E (k : Nat) : Env := ⟨tb, [(21, ⟨[.val (.slice THist)], [(.slice TPair)], true, false, fun x => spec_SerialMap.f k x.1⟩), (63, ⟨[.val (.slice TPair), .val .str], [TPair, (.int .i64)], true, false, fun x => spec_l17Find.f k x.1 x.2.1⟩)], [(2, [0, 3]), (6, [0, 3, 4, 5]), (12, [0, 3, 4, 8])], k, 0, []⟩
noncomputable def spec_SerialOk.K0 (k : Nat) (a0 : List (Ty.den THist)) : Ex → St → Option (Bool × Unit) := runK (spec_SerialOk.E k) (endK (spec_SerialOk.E k) Try.f12.results.toList [.val (.slice THist)] (a0, ()) [.bool] true false) [.blk 0, .code (at_ [true, true] (body Try.f12))]
noncomputable def spec_SerialOk.B0 (k : Nat) (a0 : List (Ty.den THist)) (n0 : Nat) : Ex → St → Option (Bool × Unit) := fun e st => match e with
  | .normal => loopN (exec (spec_SerialOk.E k) (at_ [true, false, true, false, false] (body Try.f12))) (canon 0 [0, 3]) (spec_SerialOk.K0 k a0) n0 (canon 0 [0, 3] st)
  | .ret => spec_SerialOk.K0 k a0 .ret st
  | .exit j => spec_SerialOk.K0 k a0 (.exit j) st
noncomputable def spec_SerialOk.K1 (k : Nat) (a0 : List (Ty.den THist)) (n0 : Nat) : Ex → St → Option (Bool × Unit) := runK (spec_SerialOk.E k) (spec_SerialOk.B0 k a0 n0) [.blk 2, .code (at_ [true, false, true, false, false, true, false, false, true, true] (body Try.f12)), .blk 1, .code (at_ [true, false, true, false, false, true, true] (body Try.f12))]
noncomputable def spec_SerialOk.B1 (k : Nat) (a0 : List (Ty.den THist)) (n0 n1 : Nat) : Ex → St → Option (Bool × Unit) := fun e st => match e with
  | .normal => loopN (exec (spec_SerialOk.E k) (at_ [true, false, true, false, false, true, false, false, true, false, true, false, false] (body Try.f12))) (canon 0 [0, 3, 4, 5]) (spec_SerialOk.K1 k a0 n0) n1 (canon 0 [0, 3, 4, 5] st)
  | .ret => spec_SerialOk.K1 k a0 n0 .ret st
  | .exit j => spec_SerialOk.K1 k a0 n0 (.exit j) st
noncomputable def spec_SerialOk.K2 (k : Nat) (a0 : List (Ty.den THist)) (n0 : Nat) : Ex → St → Option (Bool × Unit) := runK (spec_SerialOk.E k) (spec_SerialOk.B0 k a0 n0) [.blk 4, .blk 1, .code (at_ [true, false, true, false, false, true, true] (body Try.f12))]
noncomputable def spec_SerialOk.B2 (k : Nat) (a0 : List (Ty.den THist)) (n0 n2 : Nat) : Ex → St → Option (Bool × Unit) := fun e st => match e with
  | .normal => loopN (exec (spec_SerialOk.E k) (at_ [true, false, true, false, false, true, false, false, true, true, true, false, false] (body Try.f12))) (canon 0 [0, 3, 4, 8]) (spec_SerialOk.K2 k a0 n0) n2 (canon 0 [0, 3, 4, 8] st)
  | .ret => spec_SerialOk.K2 k a0 n0 .ret st
  | .exit j => spec_SerialOk.K2 k a0 n0 (.exit j) st
noncomputable def spec_SerialOk.V0 (k : Nat) (a0 : List (Ty.den THist)) (n0 : Nat) (x0_0 : List (Ty.den THist)) (x0_1 : Int) : Option (Bool × Unit) := loopN (exec (spec_SerialOk.E k) (at_ [true, false, true, false, false] (body Try.f12))) (canon 0 [0, 3]) (spec_SerialOk.K0 k a0) n0 (mk 86 0 [(0, .sl true THist x0_0), (3, .int .i64 x0_1)] [])
noncomputable def spec_SerialOk.V1 (k : Nat) (a0 : List (Ty.den THist)) (n0 n1 : Nat) (x1_0 : List (Ty.den THist)) (x1_1 : Int) (x1_2 : Int) (x1_3 : List (Ty.den TPair)) : Option (Bool × Unit) := loopN (exec (spec_SerialOk.E k) (at_ [true, false, true, false, false, true, false, false, true, false, true, false, false] (body Try.f12))) (canon 0 [0, 3, 4, 5]) (spec_SerialOk.K1 k a0 n0) n1 (mk 86 1 [(0, .sl true THist x1_0), (3, .int .i64 x1_1), (4, .ref 0), (5, .int .i64 x1_2)] [(0, .own false TPair x1_3)])
noncomputable def spec_SerialOk.V2 (k : Nat) (a0 : List (Ty.den THist)) (n0 n2 : Nat) (x2_0 : List (Ty.den THist)) (x2_1 : Int) (x2_2 : Int) (x2_3 : List (Ty.den TPair)) : Option (Bool × Unit) := loopN (exec (spec_SerialOk.E k) (at_ [true, false, true, false, false, true, false, false, true, true, true, false, false] (body Try.f12))) (canon 0 [0, 3, 4, 8]) (spec_SerialOk.K2 k a0 n0) n2 (mk 86 1 [(0, .sl true THist x2_0), (3, .int .i64 x2_1), (4, .ref 0), (8, .int .i64 x2_2)] [(0, .own false TPair x2_3)])
theorem spec_SerialOk.s0 (k : Nat) (a0 : List (Ty.den THist)) (n0 : Nat) (x0_0 : List (Ty.den THist)) (x0_1 : Int) : spec_SerialOk.V0 k a0 (n0 + 1) x0_0 x0_1 = spec_SerialOk.b0 k (spec_SerialOk.V1 k a0 n0 k) (spec_SerialOk.V0 k a0 n0) x0_0 x0_1 := by kernel_rfl
theorem spec_SerialOk.s1 (k : Nat) (a0 : List (Ty.den THist)) (n0 n1 : Nat) (x1_0 : List (Ty.den THist)) (x1_1 : Int) (x1_2 : Int) (x1_3 : List (Ty.den TPair)) : spec_SerialOk.V1 k a0 n0 (n1 + 1) x1_0 x1_1 x1_2 x1_3 = spec_SerialOk.b1 k (spec_SerialOk.V2 k a0 n0 k) (spec_SerialOk.V0 k a0 n0) (spec_SerialOk.V1 k a0 n0 n1) x1_0 x1_1 x1_2 x1_3 := by kernel_rfl
theorem spec_SerialOk.s2 (k : Nat) (a0 : List (Ty.den THist)) (n0 n2 : Nat) (x2_0 : List (Ty.den THist)) (x2_1 : Int) (x2_2 : Int) (x2_3 : List (Ty.den TPair)) : spec_SerialOk.V2 k a0 n0 (n2 + 1) x2_0 x2_1 x2_2 x2_3 = spec_SerialOk.b2 k (spec_SerialOk.V0 k a0 n0) (spec_SerialOk.V2 k a0 n0 n2) x2_0 x2_1 x2_2 x2_3 := by kernel_rfl
theorem spec_SerialOk.e2 (k : Nat) (a0 : List (Ty.den THist)) (n0 n2 : Nat) : spec_SerialOk.V2 k a0 n0 n2 = spec_SerialOk.l2 k (spec_SerialOk.V0 k a0 n0) n2 := by
  induction n2 with
  | zero => rfl
  | succ n2 ih =>
    have h : spec_SerialOk.V2 k a0 n0 (n2 + 1) = spec_SerialOk.b2 k (spec_SerialOk.V0 k a0 n0) (spec_SerialOk.V2 k a0 n0 n2) := funext fun x2_0 => funext fun x2_1 => funext fun x2_2 => funext fun x2_3 => spec_SerialOk.s2 k a0 n0 n2 x2_0 x2_1 x2_2 x2_3
    rw [h, ih]
    rfl
theorem spec_SerialOk.e1 (k : Nat) (a0 : List (Ty.den THist)) (n0 n1 : Nat) : spec_SerialOk.V1 k a0 n0 n1 = spec_SerialOk.l1 k (spec_SerialOk.V0 k a0 n0) n1 := by
  induction n1 with
  | zero => rfl
  | succ n1 ih =>
    have h : spec_SerialOk.V1 k a0 n0 (n1 + 1) = spec_SerialOk.b1 k (spec_SerialOk.V2 k a0 n0 k) (spec_SerialOk.V0 k a0 n0) (spec_SerialOk.V1 k a0 n0 n1) := funext fun x1_0 => funext fun x1_1 => funext fun x1_2 => funext fun x1_3 => spec_SerialOk.s1 k a0 n0 n1 x1_0 x1_1 x1_2 x1_3
    rw [h, spec_SerialOk.e2, ih]
    rfl
theorem spec_SerialOk.e0 (k : Nat) (a0 : List (Ty.den THist)) (n0 : Nat) : spec_SerialOk.V0 k a0 n0 = spec_SerialOk.l0 k n0 := by
  induction n0 with
  | zero => rfl
  | succ n0 ih =>
    have h : spec_SerialOk.V0 k a0 (n0 + 1) = spec_SerialOk.b0 k (spec_SerialOk.V1 k a0 n0 k) (spec_SerialOk.V0 k a0 n0) := funext fun x0_0 => funext fun x0_1 => spec_SerialOk.s0 k a0 n0 x0_0 x0_1
    rw [h, spec_SerialOk.e1, ih]
    rfl
theorem spec_SerialOk.q (k : Nat) (a0 : List (Ty.den THist)) : run (spec_SerialOk.E k) Try.f12 [.val (.slice THist)] [.bool] true false (a0, ()) = spec_SerialOk.t k (spec_SerialOk.V0 k a0 k) a0 := by kernel_rfl
theorem spec_SerialOk.eq (k : Nat) (a0 : List (Ty.den THist)) : run (spec_SerialOk.E k) Try.f12 [.val (.slice THist)] [.bool] true false (a0, ()) = spec_SerialOk.f k a0 := by
  rw [spec_SerialOk.q, spec_SerialOk.e0]
  rfl
theorem spec_SerialOk.ctr (k : Nat) : Ctr Try.prog 12 ⟨[.val (.slice THist)], [.bool], true, false, fun x => spec_SerialOk.f k x.1⟩ :=
  run_ctr (E := spec_SerialOk.E k) mixed tb_ok (eqOk_of tb_eqs) (Cts.cons (spec_SerialMap.ctr k) (Cts.cons (spec_l17Find.ctr k) Cts.nil)) (by kernel_rfl) Try.func12 (by kernel_rfl) rfl (fun ⟨a0, _⟩ r h => (spec_SerialOk.eq k a0).trans h)
def impl_copyPairs.E (k : Nat) : Env := ⟨tb, [], [], k, 0, []⟩
theorem impl_copyPairs.q (k : Nat) (a0 : List (Ty.den TPair)) : run (impl_copyPairs.E k) Try.f148 [.val (.slice TPair)] [(.slice TPair)] true false (a0, ()) = impl_copyPairs.t k a0 := by kernel_rfl
theorem impl_copyPairs.eq (k : Nat) (a0 : List (Ty.den TPair)) : run (impl_copyPairs.E k) Try.f148 [.val (.slice TPair)] [(.slice TPair)] true false (a0, ()) = impl_copyPairs.f k a0 := by
  rw [impl_copyPairs.q]
  rfl
theorem impl_copyPairs.ctr (k : Nat) : Ctr Try.prog 148 ⟨[.val (.slice TPair)], [(.slice TPair)], true, false, fun x => impl_copyPairs.f k x.1⟩ :=
  run_ctr (E := impl_copyPairs.E k) mixed tb_ok (eqOk_of tb_eqs) Cts.nil (by kernel_rfl) Try.func148 (by kernel_rfl) rfl (fun ⟨a0, _⟩ r h => (impl_copyPairs.eq k a0).trans h)
def impl_without.E (k : Nat) : Env := ⟨tb, [], [(3, [1, 5, 8, 9, 10])], k, 0, []⟩
noncomputable def impl_without.K0 (k : Nat) (a0 : List (Ty.den TPair)) (a1 : ByteArray) : Ex → St → Option ((List (Ty.den TPair)) × Unit) := runK (impl_without.E k) (endK (impl_without.E k) Try.f149.results.toList [.val (.slice TPair), .val .str] (a0, a1, ()) [(.slice TPair)] true false) [.blk 0, .code (at_ [true, true, true] (body Try.f149))]
noncomputable def impl_without.B0 (k : Nat) (a0 : List (Ty.den TPair)) (a1 : ByteArray) (n0 : Nat) : Ex → St → Option ((List (Ty.den TPair)) × Unit) := fun e st => match e with
  | .normal => loopN (exec (impl_without.E k) (at_ [true, true, false, true, false, false] (body Try.f149))) (canon 0 [1, 5, 8, 9, 10]) (impl_without.K0 k a0 a1) n0 (canon 0 [1, 5, 8, 9, 10] st)
  | .ret => impl_without.K0 k a0 a1 .ret st
  | .exit j => impl_without.K0 k a0 a1 (.exit j) st
noncomputable def impl_without.V0 (k : Nat) (a0 : List (Ty.den TPair)) (a1 : ByteArray) (n0 : Nat) (x0_0 : ByteArray) (x0_1 : List (Ty.den TPair)) (x0_2 : Int) (x0_3 : Int) (x0_4 : List (Ty.den TPair)) : Option ((List (Ty.den TPair)) × Unit) := loopN (exec (impl_without.E k) (at_ [true, true, false, true, false, false] (body Try.f149))) (canon 0 [1, 5, 8, 9, 10]) (impl_without.K0 k a0 a1) n0 (mk 24 1 [(1, .str x0_0), (5, .ref 0), (8, .sl true TPair x0_1), (9, .int .i64 x0_2), (10, .int .i64 x0_3)] [(0, .own false TPair x0_4)])
theorem impl_without.s0 (k : Nat) (a0 : List (Ty.den TPair)) (a1 : ByteArray) (n0 : Nat) (x0_0 : ByteArray) (x0_1 : List (Ty.den TPair)) (x0_2 : Int) (x0_3 : Int) (x0_4 : List (Ty.den TPair)) : impl_without.V0 k a0 a1 (n0 + 1) x0_0 x0_1 x0_2 x0_3 x0_4 = impl_without.b0 k (impl_without.V0 k a0 a1 n0) x0_0 x0_1 x0_2 x0_3 x0_4 := by kernel_rfl
theorem impl_without.e0 (k : Nat) (a0 : List (Ty.den TPair)) (a1 : ByteArray) (n0 : Nat) : impl_without.V0 k a0 a1 n0 = impl_without.l0 k n0 := by
  induction n0 with
  | zero => rfl
  | succ n0 ih =>
    have h : impl_without.V0 k a0 a1 (n0 + 1) = impl_without.b0 k (impl_without.V0 k a0 a1 n0) := funext fun x0_0 => funext fun x0_1 => funext fun x0_2 => funext fun x0_3 => funext fun x0_4 => impl_without.s0 k a0 a1 n0 x0_0 x0_1 x0_2 x0_3 x0_4
    rw [h, ih]
    rfl
theorem impl_without.q (k : Nat) (a0 : List (Ty.den TPair)) (a1 : ByteArray) : run (impl_without.E k) Try.f149 [.val (.slice TPair), .val .str] [(.slice TPair)] true false (a0, a1, ()) = impl_without.t k (impl_without.V0 k a0 a1 k) a0 a1 := by kernel_rfl
theorem impl_without.eq (k : Nat) (a0 : List (Ty.den TPair)) (a1 : ByteArray) : run (impl_without.E k) Try.f149 [.val (.slice TPair), .val .str] [(.slice TPair)] true false (a0, a1, ()) = impl_without.f k a0 a1 := by
  rw [impl_without.q, impl_without.e0]
  rfl
theorem impl_without.ctr (k : Nat) : Ctr Try.prog 149 ⟨[.val (.slice TPair), .val .str], [(.slice TPair)], true, false, fun x => impl_without.f k x.1 x.2.1⟩ :=
  run_ctr (E := impl_without.E k) mixed tb_ok (eqOk_of tb_eqs) Cts.nil (by kernel_rfl) Try.func149 (by kernel_rfl) rfl (fun ⟨a0, a1, _⟩ r h => (impl_without.eq k a0 a1).trans h)
def impl_Fold.E (k : Nat) : Env := ⟨tb, [(148, ⟨[.val (.slice TPair)], [(.slice TPair)], true, false, fun x => impl_copyPairs.f k x.1⟩), (149, ⟨[.val (.slice TPair), .val .str], [(.slice TPair)], true, false, fun x => impl_without.f k x.1 x.2.1⟩)], [(3, [2, 7, 13, 14, 15]), (8, [2, 7, 9, 10, 13, 14, 15])], k, 0, []⟩
noncomputable def impl_Fold.K0 (k : Nat) (a0 : List (Ty.den TPair)) (a1 : List (Ty.den TPut)) (a2 : Int) : Ex → St → Option ((List (Ty.den TPair)) × Unit) := runK (impl_Fold.E k) (endK (impl_Fold.E k) Try.f76.results.toList [.val (.slice TPair), .val (.slice TPut), .val (.int .i64)] (a0, a1, a2, ()) [(.slice TPair)] true false) [.blk 0, .code (at_ [true, true, true] (body Try.f76))]
noncomputable def impl_Fold.B0 (k : Nat) (a0 : List (Ty.den TPair)) (a1 : List (Ty.den TPut)) (a2 : Int) (n0 : Nat) : Ex → St → Option ((List (Ty.den TPair)) × Unit) := fun e st => match e with
  | .normal => loopN (exec (impl_Fold.E k) (at_ [true, true, false, true, false, false] (body Try.f76))) (canon 0 [2, 7, 13, 14, 15]) (impl_Fold.K0 k a0 a1 a2) n0 (canon 0 [2, 7, 13, 14, 15] st)
  | .ret => impl_Fold.K0 k a0 a1 a2 .ret st
  | .exit j => impl_Fold.K0 k a0 a1 a2 (.exit j) st
noncomputable def impl_Fold.K1 (k : Nat) (a0 : List (Ty.den TPair)) (a1 : List (Ty.den TPut)) (a2 : Int) (n0 : Nat) : Ex → St → Option ((List (Ty.den TPair)) × Unit) := runK (impl_Fold.E k) (impl_Fold.B0 k a0 a1 a2 n0) [.blk 2, .code (at_ [true, true, false, true, false, false, true, true, false, false, true, true, true, true, true] (body Try.f76)), .blk 1, .code (at_ [true, true, false, true, false, false, true, true, true] (body Try.f76))]
noncomputable def impl_Fold.B1 (k : Nat) (a0 : List (Ty.den TPair)) (a1 : List (Ty.den TPut)) (a2 : Int) (n0 n1 : Nat) : Ex → St → Option ((List (Ty.den TPair)) × Unit) := fun e st => match e with
  | .normal => loopN (exec (impl_Fold.E k) (at_ [true, true, false, true, false, false, true, true, false, false, true, true, true, true, false, false, false] (body Try.f76))) (canon 0 [2, 7, 9, 10, 13, 14, 15]) (impl_Fold.K1 k a0 a1 a2 n0) n1 (canon 0 [2, 7, 9, 10, 13, 14, 15] st)
  | .ret => impl_Fold.K1 k a0 a1 a2 n0 .ret st
  | .exit j => impl_Fold.K1 k a0 a1 a2 n0 (.exit j) st
noncomputable def impl_Fold.V0 (k : Nat) (a0 : List (Ty.den TPair)) (a1 : List (Ty.den TPut)) (a2 : Int) (n0 : Nat) (x0_0 : Int) (x0_1 : List (Ty.den TPut)) (x0_2 : Int) (x0_3 : Int) (x0_4 : List (Ty.den TPair)) : Option ((List (Ty.den TPair)) × Unit) := loopN (exec (impl_Fold.E k) (at_ [true, true, false, true, false, false] (body Try.f76))) (canon 0 [2, 7, 13, 14, 15]) (impl_Fold.K0 k a0 a1 a2) n0 (mk 59 1 [(2, .int .i64 x0_0), (7, .ref 0), (13, .sl true TPut x0_1), (14, .int .i64 x0_2), (15, .int .i64 x0_3)] [(0, .own false TPair x0_4)])
noncomputable def impl_Fold.V1 (k : Nat) (a0 : List (Ty.den TPair)) (a1 : List (Ty.den TPut)) (a2 : Int) (n0 n1 : Nat) (x1_0 : Int) (x1_1 : Int) (x1_2 : List (Ty.den TPut)) (x1_3 : Int) (x1_4 : Int) (x1_5 : List (Ty.den TPair)) (x1_6 : ByteArray) (x1_7 : Bool) (x1_8 : ByteArray) : Option ((List (Ty.den TPair)) × Unit) := loopN (exec (impl_Fold.E k) (at_ [true, true, false, true, false, false, true, true, false, false, true, true, true, true, false, false, false] (body Try.f76))) (canon 0 [2, 7, 9, 10, 13, 14, 15]) (impl_Fold.K1 k a0 a1 a2 n0) n1 (mk 59 2 [(2, .int .i64 x1_0), (7, .ref 0), (9, .ptr 1 0 0), (10, .int .i64 x1_1), (13, .sl true TPut x1_2), (14, .int .i64 x1_3), (15, .int .i64 x1_4)] [(0, .own false TPair x1_5), (1, .box [.str x1_6, .bool x1_7, .str x1_8])])
theorem impl_Fold.s0 (k : Nat) (a0 : List (Ty.den TPair)) (a1 : List (Ty.den TPut)) (a2 : Int) (n0 : Nat) (x0_0 : Int) (x0_1 : List (Ty.den TPut)) (x0_2 : Int) (x0_3 : Int) (x0_4 : List (Ty.den TPair)) : impl_Fold.V0 k a0 a1 a2 (n0 + 1) x0_0 x0_1 x0_2 x0_3 x0_4 = impl_Fold.b0 k (impl_Fold.V1 k a0 a1 a2 n0 k) (impl_Fold.V0 k a0 a1 a2 n0) x0_0 x0_1 x0_2 x0_3 x0_4 := by kernel_rfl
theorem impl_Fold.s1 (k : Nat) (a0 : List (Ty.den TPair)) (a1 : List (Ty.den TPut)) (a2 : Int) (n0 n1 : Nat) (x1_0 : Int) (x1_1 : Int) (x1_2 : List (Ty.den TPut)) (x1_3 : Int) (x1_4 : Int) (x1_5 : List (Ty.den TPair)) (x1_6 : ByteArray) (x1_7 : Bool) (x1_8 : ByteArray) : impl_Fold.V1 k a0 a1 a2 n0 (n1 + 1) x1_0 x1_1 x1_2 x1_3 x1_4 x1_5 x1_6 x1_7 x1_8 = impl_Fold.b1 k (impl_Fold.V0 k a0 a1 a2 n0) (impl_Fold.V1 k a0 a1 a2 n0 n1) x1_0 x1_1 x1_2 x1_3 x1_4 x1_5 x1_6 x1_7 x1_8 := by kernel_rfl
theorem impl_Fold.e1 (k : Nat) (a0 : List (Ty.den TPair)) (a1 : List (Ty.den TPut)) (a2 : Int) (n0 n1 : Nat) : impl_Fold.V1 k a0 a1 a2 n0 n1 = impl_Fold.l1 k (impl_Fold.V0 k a0 a1 a2 n0) n1 := by
  induction n1 with
  | zero => rfl
  | succ n1 ih =>
    have h : impl_Fold.V1 k a0 a1 a2 n0 (n1 + 1) = impl_Fold.b1 k (impl_Fold.V0 k a0 a1 a2 n0) (impl_Fold.V1 k a0 a1 a2 n0 n1) := funext fun x1_0 => funext fun x1_1 => funext fun x1_2 => funext fun x1_3 => funext fun x1_4 => funext fun x1_5 => funext fun x1_6 => funext fun x1_7 => funext fun x1_8 => impl_Fold.s1 k a0 a1 a2 n0 n1 x1_0 x1_1 x1_2 x1_3 x1_4 x1_5 x1_6 x1_7 x1_8
    rw [h, ih]
    rfl
theorem impl_Fold.e0 (k : Nat) (a0 : List (Ty.den TPair)) (a1 : List (Ty.den TPut)) (a2 : Int) (n0 : Nat) : impl_Fold.V0 k a0 a1 a2 n0 = impl_Fold.l0 k n0 := by
  induction n0 with
  | zero => rfl
  | succ n0 ih =>
    have h : impl_Fold.V0 k a0 a1 a2 (n0 + 1) = impl_Fold.b0 k (impl_Fold.V1 k a0 a1 a2 n0 k) (impl_Fold.V0 k a0 a1 a2 n0) := funext fun x0_0 => funext fun x0_1 => funext fun x0_2 => funext fun x0_3 => funext fun x0_4 => impl_Fold.s0 k a0 a1 a2 n0 x0_0 x0_1 x0_2 x0_3 x0_4
    rw [h, impl_Fold.e1, ih]
    rfl
theorem impl_Fold.q (k : Nat) (a0 : List (Ty.den TPair)) (a1 : List (Ty.den TPut)) (a2 : Int) : run (impl_Fold.E k) Try.f76 [.val (.slice TPair), .val (.slice TPut), .val (.int .i64)] [(.slice TPair)] true false (a0, a1, a2, ()) = impl_Fold.t k (impl_Fold.V0 k a0 a1 a2 k) a0 a1 a2 := by kernel_rfl
theorem impl_Fold.eq (k : Nat) (a0 : List (Ty.den TPair)) (a1 : List (Ty.den TPut)) (a2 : Int) : run (impl_Fold.E k) Try.f76 [.val (.slice TPair), .val (.slice TPut), .val (.int .i64)] [(.slice TPair)] true false (a0, a1, a2, ()) = impl_Fold.f k a0 a1 a2 := by
  rw [impl_Fold.q, impl_Fold.e0]
  rfl
theorem impl_Fold.ctr (k : Nat) : Ctr Try.prog 76 ⟨[.val (.slice TPair), .val (.slice TPut), .val (.int .i64)], [(.slice TPair)], true, false, fun x => impl_Fold.f k x.1 x.2.1 x.2.2.1⟩ :=
  run_ctr (E := impl_Fold.E k) mixed tb_ok (eqOk_of tb_eqs) (Cts.cons (impl_copyPairs.ctr k) (Cts.cons (impl_without.ctr k) Cts.nil)) (by kernel_rfl) Try.func76 (by kernel_rfl) rfl (fun ⟨a0, a1, a2, _⟩ r h => (impl_Fold.eq k a0 a1 a2).trans h)
def impl_SerialMap.E (k : Nat) : Env := ⟨tb, [(76, ⟨[.val (.slice TPair), .val (.slice TPut), .val (.int .i64)], [(.slice TPair)], true, false, fun x => impl_Fold.f k x.1 x.2.1 x.2.2.1⟩)], [(3, [3, 6, 7, 8])], k, 0, []⟩
noncomputable def impl_SerialMap.K0 (k : Nat) (a0 : List (Ty.den THist)) : Ex → St → Option ((List (Ty.den TPair)) × Unit) := runK (impl_SerialMap.E k) (endK (impl_SerialMap.E k) Try.f22.results.toList [.val (.slice THist)] (a0, ()) [(.slice TPair)] true false) [.blk 0, .code (at_ [true, true, true] (body Try.f22))]
noncomputable def impl_SerialMap.B0 (k : Nat) (a0 : List (Ty.den THist)) (n0 : Nat) : Ex → St → Option ((List (Ty.den TPair)) × Unit) := fun e st => match e with
  | .normal => loopN (exec (impl_SerialMap.E k) (at_ [true, true, false, true, false, false] (body Try.f22))) (canon 0 [3, 6, 7, 8]) (impl_SerialMap.K0 k a0) n0 (canon 0 [3, 6, 7, 8] st)
  | .ret => impl_SerialMap.K0 k a0 .ret st
  | .exit j => impl_SerialMap.K0 k a0 (.exit j) st
noncomputable def impl_SerialMap.V0 (k : Nat) (a0 : List (Ty.den THist)) (n0 : Nat) (x0_0 : List (Ty.den THist)) (x0_1 : Int) (x0_2 : Int) (x0_3 : List (Ty.den TPair)) : Option ((List (Ty.den TPair)) × Unit) := loopN (exec (impl_SerialMap.E k) (at_ [true, true, false, true, false, false] (body Try.f22))) (canon 0 [3, 6, 7, 8]) (impl_SerialMap.K0 k a0) n0 (mk 18 1 [(3, .ref 0), (6, .sl true THist x0_0), (7, .int .i64 x0_1), (8, .int .i64 x0_2)] [(0, .own false TPair x0_3)])
theorem impl_SerialMap.s0 (k : Nat) (a0 : List (Ty.den THist)) (n0 : Nat) (x0_0 : List (Ty.den THist)) (x0_1 : Int) (x0_2 : Int) (x0_3 : List (Ty.den TPair)) : impl_SerialMap.V0 k a0 (n0 + 1) x0_0 x0_1 x0_2 x0_3 = impl_SerialMap.b0 k (impl_SerialMap.V0 k a0 n0) x0_0 x0_1 x0_2 x0_3 := by kernel_rfl
theorem impl_SerialMap.e0 (k : Nat) (a0 : List (Ty.den THist)) (n0 : Nat) : impl_SerialMap.V0 k a0 n0 = impl_SerialMap.l0 k n0 := by
  induction n0 with
  | zero => rfl
  | succ n0 ih =>
    have h : impl_SerialMap.V0 k a0 (n0 + 1) = impl_SerialMap.b0 k (impl_SerialMap.V0 k a0 n0) := funext fun x0_0 => funext fun x0_1 => funext fun x0_2 => funext fun x0_3 => impl_SerialMap.s0 k a0 n0 x0_0 x0_1 x0_2 x0_3
    rw [h, ih]
    rfl
theorem impl_SerialMap.q (k : Nat) (a0 : List (Ty.den THist)) : run (impl_SerialMap.E k) Try.f22 [.val (.slice THist)] [(.slice TPair)] true false (a0, ()) = impl_SerialMap.t k (impl_SerialMap.V0 k a0 k) a0 := by kernel_rfl
theorem impl_SerialMap.eq (k : Nat) (a0 : List (Ty.den THist)) : run (impl_SerialMap.E k) Try.f22 [.val (.slice THist)] [(.slice TPair)] true false (a0, ()) = impl_SerialMap.f k a0 := by
  rw [impl_SerialMap.q, impl_SerialMap.e0]
  rfl
theorem impl_SerialMap.ctr (k : Nat) : Ctr Try.prog 22 ⟨[.val (.slice THist)], [(.slice TPair)], true, false, fun x => impl_SerialMap.f k x.1⟩ :=
  run_ctr (E := impl_SerialMap.E k) mixed tb_ok (eqOk_of tb_eqs) (Cts.cons (impl_Fold.ctr k) Cts.nil) (by kernel_rfl) Try.func22 (by kernel_rfl) rfl (fun ⟨a0, _⟩ r h => (impl_SerialMap.eq k a0).trans h)
def impl_pairAt.E (k : Nat) : Env := ⟨tb, [], [(2, [1, 4, 8, 9, 10])], k, 0, []⟩
noncomputable def impl_pairAt.K0 (k : Nat) (a0 : List (Ty.den TPair)) (a1 : ByteArray) : Ex → St → Option ((Ty.den TPair) × Bool × Unit) := runK (impl_pairAt.E k) (endK (impl_pairAt.E k) Try.f141.results.toList [.val (.slice TPair), .val .str] (a0, a1, ()) [TPair, .bool] true false) [.blk 0, .code (at_ [true, true] (body Try.f141))]
noncomputable def impl_pairAt.B0 (k : Nat) (a0 : List (Ty.den TPair)) (a1 : ByteArray) (n0 : Nat) : Ex → St → Option ((Ty.den TPair) × Bool × Unit) := fun e st => match e with
  | .normal => loopN (exec (impl_pairAt.E k) (at_ [true, false, true, false, false] (body Try.f141))) (canon 0 [1, 4, 8, 9, 10]) (impl_pairAt.K0 k a0 a1) n0 (canon 0 [1, 4, 8, 9, 10] st)
  | .ret => impl_pairAt.K0 k a0 a1 .ret st
  | .exit j => impl_pairAt.K0 k a0 a1 (.exit j) st
noncomputable def impl_pairAt.V0 (k : Nat) (a0 : List (Ty.den TPair)) (a1 : ByteArray) (n0 : Nat) (x0_0 : ByteArray) (x0_1 : List (Ty.den TPair)) (x0_2 : Int) (x0_3 : Int) (x0_4 : ByteArray) (x0_5 : ByteArray) (x0_6 : Int) : Option ((Ty.den TPair) × Bool × Unit) := loopN (exec (impl_pairAt.E k) (at_ [true, false, true, false, false] (body Try.f141))) (canon 0 [1, 4, 8, 9, 10]) (impl_pairAt.K0 k a0 a1) n0 (mk 21 1 [(1, .str x0_0), (4, .ptr 0 0 0), (8, .sl true TPair x0_1), (9, .int .i64 x0_2), (10, .int .i64 x0_3)] [(0, .box [.str x0_4, .str x0_5, .int .i64 x0_6])])
theorem impl_pairAt.s0 (k : Nat) (a0 : List (Ty.den TPair)) (a1 : ByteArray) (n0 : Nat) (x0_0 : ByteArray) (x0_1 : List (Ty.den TPair)) (x0_2 : Int) (x0_3 : Int) (x0_4 : ByteArray) (x0_5 : ByteArray) (x0_6 : Int) : impl_pairAt.V0 k a0 a1 (n0 + 1) x0_0 x0_1 x0_2 x0_3 x0_4 x0_5 x0_6 = impl_pairAt.b0 k (impl_pairAt.V0 k a0 a1 n0) x0_0 x0_1 x0_2 x0_3 x0_4 x0_5 x0_6 := by kernel_rfl
theorem impl_pairAt.e0 (k : Nat) (a0 : List (Ty.den TPair)) (a1 : ByteArray) (n0 : Nat) : impl_pairAt.V0 k a0 a1 n0 = impl_pairAt.l0 k n0 := by
  induction n0 with
  | zero => rfl
  | succ n0 ih =>
    have h : impl_pairAt.V0 k a0 a1 (n0 + 1) = impl_pairAt.b0 k (impl_pairAt.V0 k a0 a1 n0) := funext fun x0_0 => funext fun x0_1 => funext fun x0_2 => funext fun x0_3 => funext fun x0_4 => funext fun x0_5 => funext fun x0_6 => impl_pairAt.s0 k a0 a1 n0 x0_0 x0_1 x0_2 x0_3 x0_4 x0_5 x0_6
    rw [h, ih]
    rfl
theorem impl_pairAt.q (k : Nat) (a0 : List (Ty.den TPair)) (a1 : ByteArray) : run (impl_pairAt.E k) Try.f141 [.val (.slice TPair), .val .str] [TPair, .bool] true false (a0, a1, ()) = impl_pairAt.t k (impl_pairAt.V0 k a0 a1 k) a0 a1 := by kernel_rfl
theorem impl_pairAt.eq (k : Nat) (a0 : List (Ty.den TPair)) (a1 : ByteArray) : run (impl_pairAt.E k) Try.f141 [.val (.slice TPair), .val .str] [TPair, .bool] true false (a0, a1, ()) = impl_pairAt.f k a0 a1 := by
  rw [impl_pairAt.q, impl_pairAt.e0]
  rfl
theorem impl_pairAt.ctr (k : Nat) : Ctr Try.prog 141 ⟨[.val (.slice TPair), .val .str], [TPair, .bool], true, false, fun x => impl_pairAt.f k x.1 x.2.1⟩ :=
  run_ctr (E := impl_pairAt.E k) mixed tb_ok (eqOk_of tb_eqs) Cts.nil (by kernel_rfl) Try.func141 (by kernel_rfl) rfl (fun ⟨a0, a1, _⟩ r h => (impl_pairAt.eq k a0 a1).trans h)
def impl_sees.E (k : Nat) : Env := ⟨tb, [(141, ⟨[.val (.slice TPair), .val .str], [TPair, .bool], true, false, fun x => impl_pairAt.f k x.1 x.2.1⟩)], [(2, [0, 3, 14, 15, 16]), (9, [0, 38, 39, 40])], k, 0, []⟩
noncomputable def impl_sees.K0 (k : Nat) (a0 : List (Ty.den TPair)) (a1 : Ty.den THist) : Ex → St → Option (Bool × Unit) := runK (impl_sees.E k) (endK (impl_sees.E k) Try.f65.results.toList [.val (.slice TPair), .val THist] (a0, a1, ()) [.bool] true false) [.blk 0, .code (at_ [true, true] (body Try.f65))]
noncomputable def impl_sees.B0 (k : Nat) (a0 : List (Ty.den TPair)) (a1 : Ty.den THist) (n0 : Nat) : Ex → St → Option (Bool × Unit) := fun e st => match e with
  | .normal => loopN (exec (impl_sees.E k) (at_ [true, false, true, false, false] (body Try.f65))) (canon 0 [0, 3, 14, 15, 16]) (impl_sees.K0 k a0 a1) n0 (canon 0 [0, 3, 14, 15, 16] st)
  | .ret => impl_sees.K0 k a0 a1 .ret st
  | .exit j => impl_sees.K0 k a0 a1 (.exit j) st
noncomputable def impl_sees.K1 (k : Nat) (a0 : List (Ty.den TPair)) (a1 : Ty.den THist) : Ex → St → Option (Bool × Unit) := runK (impl_sees.E k) (endK (impl_sees.E k) Try.f65.results.toList [.val (.slice TPair), .val THist] (a0, a1, ()) [.bool] true false) [.blk 2, .code (at_ [true, true, true] (body Try.f65))]
noncomputable def impl_sees.B1 (k : Nat) (a0 : List (Ty.den TPair)) (a1 : Ty.den THist) (n1 : Nat) : Ex → St → Option (Bool × Unit) := fun e st => match e with
  | .normal => loopN (exec (impl_sees.E k) (at_ [true, true, false, true, false, false] (body Try.f65))) (canon 0 [0, 38, 39, 40]) (impl_sees.K1 k a0 a1) n1 (canon 0 [0, 38, 39, 40] st)
  | .ret => impl_sees.K1 k a0 a1 .ret st
  | .exit j => impl_sees.K1 k a0 a1 (.exit j) st
noncomputable def impl_sees.V0 (k : Nat) (a0 : List (Ty.den TPair)) (a1 : Ty.den THist) (n0 : Nat) (x0_0 : List (Ty.den TPair)) (x0_1 : List (Ty.den TPair)) (x0_2 : Int) (x0_3 : Int) (x0_4 : Int) (x0_5 : List (Ty.den TPair)) (x0_6 : List ByteArray) (x0_7 : List (Ty.den TPut)) : Option (Bool × Unit) := loopN (exec (impl_sees.E k) (at_ [true, false, true, false, false] (body Try.f65))) (canon 0 [0, 3, 14, 15, 16]) (impl_sees.K0 k a0 a1) n0 (mk 52 1 [(0, .sl true TPair x0_0), (3, .ptr 0 0 0), (14, .sl true TPair x0_1), (15, .int .i64 x0_2), (16, .int .i64 x0_3)] [(0, .box [.int .i64 x0_4, .sl true TPair x0_5, .sl true .str x0_6, .sl true TPut x0_7])])
noncomputable def impl_sees.V1 (k : Nat) (a0 : List (Ty.den TPair)) (a1 : Ty.den THist) (n1 : Nat) (x1_0 : List (Ty.den TPair)) (x1_1 : List ByteArray) (x1_2 : Int) (x1_3 : Int) : Option (Bool × Unit) := loopN (exec (impl_sees.E k) (at_ [true, true, false, true, false, false] (body Try.f65))) (canon 0 [0, 38, 39, 40]) (impl_sees.K1 k a0 a1) n1 (mk 52 0 [(0, .sl true TPair x1_0), (38, .sl true .str x1_1), (39, .int .i64 x1_2), (40, .int .i64 x1_3)] [])
theorem impl_sees.s0 (k : Nat) (a0 : List (Ty.den TPair)) (a1 : Ty.den THist) (n0 : Nat) (x0_0 : List (Ty.den TPair)) (x0_1 : List (Ty.den TPair)) (x0_2 : Int) (x0_3 : Int) (x0_4 : Int) (x0_5 : List (Ty.den TPair)) (x0_6 : List ByteArray) (x0_7 : List (Ty.den TPut)) : impl_sees.V0 k a0 a1 (n0 + 1) x0_0 x0_1 x0_2 x0_3 x0_4 x0_5 x0_6 x0_7 = impl_sees.b0 k (impl_sees.V1 k a0 a1 k) (impl_sees.V0 k a0 a1 n0) x0_0 x0_1 x0_2 x0_3 x0_4 x0_5 x0_6 x0_7 := by kernel_rfl
theorem impl_sees.s1 (k : Nat) (a0 : List (Ty.den TPair)) (a1 : Ty.den THist) (n1 : Nat) (x1_0 : List (Ty.den TPair)) (x1_1 : List ByteArray) (x1_2 : Int) (x1_3 : Int) : impl_sees.V1 k a0 a1 (n1 + 1) x1_0 x1_1 x1_2 x1_3 = impl_sees.b1 k (impl_sees.V1 k a0 a1 n1) x1_0 x1_1 x1_2 x1_3 := by kernel_rfl
theorem impl_sees.e1 (k : Nat) (a0 : List (Ty.den TPair)) (a1 : Ty.den THist) (n1 : Nat) : impl_sees.V1 k a0 a1 n1 = impl_sees.l1 k n1 := by
  induction n1 with
  | zero => rfl
  | succ n1 ih =>
    have h : impl_sees.V1 k a0 a1 (n1 + 1) = impl_sees.b1 k (impl_sees.V1 k a0 a1 n1) := funext fun x1_0 => funext fun x1_1 => funext fun x1_2 => funext fun x1_3 => impl_sees.s1 k a0 a1 n1 x1_0 x1_1 x1_2 x1_3
    rw [h, ih]
    rfl
theorem impl_sees.e0 (k : Nat) (a0 : List (Ty.den TPair)) (a1 : Ty.den THist) (n0 : Nat) : impl_sees.V0 k a0 a1 n0 = impl_sees.l0 k n0 := by
  induction n0 with
  | zero => rfl
  | succ n0 ih =>
    have h : impl_sees.V0 k a0 a1 (n0 + 1) = impl_sees.b0 k (impl_sees.V1 k a0 a1 k) (impl_sees.V0 k a0 a1 n0) := funext fun x0_0 => funext fun x0_1 => funext fun x0_2 => funext fun x0_3 => funext fun x0_4 => funext fun x0_5 => funext fun x0_6 => funext fun x0_7 => impl_sees.s0 k a0 a1 n0 x0_0 x0_1 x0_2 x0_3 x0_4 x0_5 x0_6 x0_7
    rw [h, impl_sees.e1, ih]
    rfl
theorem impl_sees.q (k : Nat) (a0 : List (Ty.den TPair)) (a1 : Ty.den THist) : run (impl_sees.E k) Try.f65 [.val (.slice TPair), .val THist] [.bool] true false (a0, a1, ()) = impl_sees.t k (impl_sees.V0 k a0 a1 k) a0 a1 := by kernel_rfl
theorem impl_sees.eq (k : Nat) (a0 : List (Ty.den TPair)) (a1 : Ty.den THist) : run (impl_sees.E k) Try.f65 [.val (.slice TPair), .val THist] [.bool] true false (a0, a1, ()) = impl_sees.f k a0 a1 := by
  rw [impl_sees.q, impl_sees.e0]
  rfl
theorem impl_sees.ctr (k : Nat) : Ctr Try.prog 65 ⟨[.val (.slice TPair), .val THist], [.bool], true, false, fun x => impl_sees.f k x.1 x.2.1⟩ :=
  run_ctr (E := impl_sees.E k) mixed tb_ok (eqOk_of tb_eqs) (Cts.cons (impl_pairAt.ctr k) Cts.nil) (by kernel_rfl) Try.func65 (by kernel_rfl) rfl (fun ⟨a0, a1, _⟩ r h => (impl_sees.eq k a0 a1).trans h)
def impl_SerialOk.E (k : Nat) : Env := ⟨tb, [(22, ⟨[.val (.slice THist)], [(.slice TPair)], true, false, fun x => impl_SerialMap.f k x.1⟩), (65, ⟨[.val (.slice TPair), .val THist], [.bool], true, false, fun x => impl_sees.f k x.1 x.2.1⟩)], [(2, [0, 5, 6, 7])], k, 0, []⟩
noncomputable def impl_SerialOk.K0 (k : Nat) (a0 : List (Ty.den THist)) : Ex → St → Option (Bool × Unit) := runK (impl_SerialOk.E k) (endK (impl_SerialOk.E k) Try.f14.results.toList [.val (.slice THist)] (a0, ()) [.bool] true false) [.blk 0, .code (at_ [true, true] (body Try.f14))]
noncomputable def impl_SerialOk.B0 (k : Nat) (a0 : List (Ty.den THist)) (n0 : Nat) : Ex → St → Option (Bool × Unit) := fun e st => match e with
  | .normal => loopN (exec (impl_SerialOk.E k) (at_ [true, false, true, false, false] (body Try.f14))) (canon 0 [0, 5, 6, 7]) (impl_SerialOk.K0 k a0) n0 (canon 0 [0, 5, 6, 7] st)
  | .ret => impl_SerialOk.K0 k a0 .ret st
  | .exit j => impl_SerialOk.K0 k a0 (.exit j) st
noncomputable def impl_SerialOk.V0 (k : Nat) (a0 : List (Ty.den THist)) (n0 : Nat) (x0_0 : List (Ty.den THist)) (x0_1 : List (Ty.den THist)) (x0_2 : Int) (x0_3 : Int) : Option (Bool × Unit) := loopN (exec (impl_SerialOk.E k) (at_ [true, false, true, false, false] (body Try.f14))) (canon 0 [0, 5, 6, 7]) (impl_SerialOk.K0 k a0) n0 (mk 20 0 [(0, .sl true THist x0_0), (5, .sl true THist x0_1), (6, .int .i64 x0_2), (7, .int .i64 x0_3)] [])
theorem impl_SerialOk.s0 (k : Nat) (a0 : List (Ty.den THist)) (n0 : Nat) (x0_0 : List (Ty.den THist)) (x0_1 : List (Ty.den THist)) (x0_2 : Int) (x0_3 : Int) : impl_SerialOk.V0 k a0 (n0 + 1) x0_0 x0_1 x0_2 x0_3 = impl_SerialOk.b0 k (impl_SerialOk.V0 k a0 n0) x0_0 x0_1 x0_2 x0_3 := by kernel_rfl
theorem impl_SerialOk.e0 (k : Nat) (a0 : List (Ty.den THist)) (n0 : Nat) : impl_SerialOk.V0 k a0 n0 = impl_SerialOk.l0 k n0 := by
  induction n0 with
  | zero => rfl
  | succ n0 ih =>
    have h : impl_SerialOk.V0 k a0 (n0 + 1) = impl_SerialOk.b0 k (impl_SerialOk.V0 k a0 n0) := funext fun x0_0 => funext fun x0_1 => funext fun x0_2 => funext fun x0_3 => impl_SerialOk.s0 k a0 n0 x0_0 x0_1 x0_2 x0_3
    rw [h, ih]
    rfl
theorem impl_SerialOk.q (k : Nat) (a0 : List (Ty.den THist)) : run (impl_SerialOk.E k) Try.f14 [.val (.slice THist)] [.bool] true false (a0, ()) = impl_SerialOk.t k (impl_SerialOk.V0 k a0 k) a0 := by kernel_rfl
theorem impl_SerialOk.eq (k : Nat) (a0 : List (Ty.den THist)) : run (impl_SerialOk.E k) Try.f14 [.val (.slice THist)] [.bool] true false (a0, ()) = impl_SerialOk.f k a0 := by
  rw [impl_SerialOk.q, impl_SerialOk.e0]
  rfl
theorem impl_SerialOk.ctr (k : Nat) : Ctr Try.prog 14 ⟨[.val (.slice THist)], [.bool], true, false, fun x => impl_SerialOk.f k x.1⟩ :=
  run_ctr (E := impl_SerialOk.E k) mixed tb_ok (eqOk_of tb_eqs) (Cts.cons (impl_SerialMap.ctr k) (Cts.cons (impl_sees.ctr k) Cts.nil)) (by kernel_rfl) Try.func14 (by kernel_rfl) rfl (fun ⟨a0, _⟩ r h => (impl_SerialOk.eq k a0).trans h)
def laws_eqPair.E (k : Nat) : Env := ⟨tb, [], [], k, 0, []⟩
theorem laws_eqPair.q (k : Nat) (a0 : Ty.den TPair) (a1 : Ty.den TPair) : run (laws_eqPair.E k) Try.f78 [.val TPair, .val TPair] [.bool] true false (a0, a1, ()) = laws_eqPair.t k a0 a1 := by kernel_rfl
theorem laws_eqPair.eq (k : Nat) (a0 : Ty.den TPair) (a1 : Ty.den TPair) : run (laws_eqPair.E k) Try.f78 [.val TPair, .val TPair] [.bool] true false (a0, a1, ()) = laws_eqPair.f k a0 a1 := by
  rw [laws_eqPair.q]
  rfl
theorem laws_eqPair.ctr (k : Nat) : Ctr Try.prog 78 ⟨[.val TPair, .val TPair], [.bool], true, false, fun x => laws_eqPair.f k x.1 x.2.1⟩ :=
  run_ctr (E := laws_eqPair.E k) mixed tb_ok (eqOk_of tb_eqs) Cts.nil (by kernel_rfl) Try.func78 (by kernel_rfl) rfl (fun ⟨a0, a1, _⟩ r h => (laws_eqPair.eq k a0 a1).trans h)
def laws_eqPairS.E (k : Nat) : Env := ⟨tb, [(78, ⟨[.val TPair, .val TPair], [.bool], true, false, fun x => laws_eqPair.f k x.1 x.2.1⟩)], [(4, [0, 1, 5])], k, 0, []⟩
noncomputable def laws_eqPairS.K0 (k : Nat) (a0 : List (Ty.den TPair)) (a1 : List (Ty.den TPair)) : Ex → St → Option (Bool × Unit) := runK (laws_eqPairS.E k) (endK (laws_eqPairS.E k) Try.f23.results.toList [.val (.slice TPair), .val (.slice TPair)] (a0, a1, ()) [.bool] true false) [.blk 0, .code (at_ [true, true, true] (body Try.f23))]
noncomputable def laws_eqPairS.B0 (k : Nat) (a0 : List (Ty.den TPair)) (a1 : List (Ty.den TPair)) (n0 : Nat) : Ex → St → Option (Bool × Unit) := fun e st => match e with
  | .normal => loopN (exec (laws_eqPairS.E k) (at_ [true, true, false, true, false, false] (body Try.f23))) (canon 0 [0, 1, 5]) (laws_eqPairS.K0 k a0 a1) n0 (canon 0 [0, 1, 5] st)
  | .ret => laws_eqPairS.K0 k a0 a1 .ret st
  | .exit j => laws_eqPairS.K0 k a0 a1 (.exit j) st
noncomputable def laws_eqPairS.V0 (k : Nat) (a0 : List (Ty.den TPair)) (a1 : List (Ty.den TPair)) (n0 : Nat) (x0_0 : List (Ty.den TPair)) (x0_1 : List (Ty.den TPair)) (x0_2 : Int) : Option (Bool × Unit) := loopN (exec (laws_eqPairS.E k) (at_ [true, true, false, true, false, false] (body Try.f23))) (canon 0 [0, 1, 5]) (laws_eqPairS.K0 k a0 a1) n0 (mk 27 0 [(0, .sl true TPair x0_0), (1, .sl true TPair x0_1), (5, .int .i64 x0_2)] [])
theorem laws_eqPairS.s0 (k : Nat) (a0 : List (Ty.den TPair)) (a1 : List (Ty.den TPair)) (n0 : Nat) (x0_0 : List (Ty.den TPair)) (x0_1 : List (Ty.den TPair)) (x0_2 : Int) : laws_eqPairS.V0 k a0 a1 (n0 + 1) x0_0 x0_1 x0_2 = laws_eqPairS.b0 k (laws_eqPairS.V0 k a0 a1 n0) x0_0 x0_1 x0_2 := by kernel_rfl
theorem laws_eqPairS.e0 (k : Nat) (a0 : List (Ty.den TPair)) (a1 : List (Ty.den TPair)) (n0 : Nat) : laws_eqPairS.V0 k a0 a1 n0 = laws_eqPairS.l0 k n0 := by
  induction n0 with
  | zero => rfl
  | succ n0 ih =>
    have h : laws_eqPairS.V0 k a0 a1 (n0 + 1) = laws_eqPairS.b0 k (laws_eqPairS.V0 k a0 a1 n0) := funext fun x0_0 => funext fun x0_1 => funext fun x0_2 => laws_eqPairS.s0 k a0 a1 n0 x0_0 x0_1 x0_2
    rw [h, ih]
    rfl
theorem laws_eqPairS.q (k : Nat) (a0 : List (Ty.den TPair)) (a1 : List (Ty.den TPair)) : run (laws_eqPairS.E k) Try.f23 [.val (.slice TPair), .val (.slice TPair)] [.bool] true false (a0, a1, ()) = laws_eqPairS.t k (laws_eqPairS.V0 k a0 a1 k) a0 a1 := by kernel_rfl
theorem laws_eqPairS.eq (k : Nat) (a0 : List (Ty.den TPair)) (a1 : List (Ty.den TPair)) : run (laws_eqPairS.E k) Try.f23 [.val (.slice TPair), .val (.slice TPair)] [.bool] true false (a0, a1, ()) = laws_eqPairS.f k a0 a1 := by
  rw [laws_eqPairS.q, laws_eqPairS.e0]
  rfl
theorem laws_eqPairS.ctr (k : Nat) : Ctr Try.prog 23 ⟨[.val (.slice TPair), .val (.slice TPair)], [.bool], true, false, fun x => laws_eqPairS.f k x.1 x.2.1⟩ :=
  run_ctr (E := laws_eqPairS.E k) mixed tb_ok (eqOk_of tb_eqs) (Cts.cons (laws_eqPair.ctr k) Cts.nil) (by kernel_rfl) Try.func23 (by kernel_rfl) rfl (fun ⟨a0, a1, _⟩ r h => (laws_eqPairS.eq k a0 a1).trans h)
def laws_eqStringS.E (k : Nat) : Env := ⟨tb, [], [(4, [0, 1, 5])], k, 0, []⟩
noncomputable def laws_eqStringS.K0 (k : Nat) (a0 : List ByteArray) (a1 : List ByteArray) : Ex → St → Option (Bool × Unit) := runK (laws_eqStringS.E k) (endK (laws_eqStringS.E k) Try.f142.results.toList [.val (.slice .str), .val (.slice .str)] (a0, a1, ()) [.bool] true false) [.blk 0, .code (at_ [true, true, true] (body Try.f142))]
noncomputable def laws_eqStringS.B0 (k : Nat) (a0 : List ByteArray) (a1 : List ByteArray) (n0 : Nat) : Ex → St → Option (Bool × Unit) := fun e st => match e with
  | .normal => loopN (exec (laws_eqStringS.E k) (at_ [true, true, false, true, false, false] (body Try.f142))) (canon 0 [0, 1, 5]) (laws_eqStringS.K0 k a0 a1) n0 (canon 0 [0, 1, 5] st)
  | .ret => laws_eqStringS.K0 k a0 a1 .ret st
  | .exit j => laws_eqStringS.K0 k a0 a1 (.exit j) st
noncomputable def laws_eqStringS.V0 (k : Nat) (a0 : List ByteArray) (a1 : List ByteArray) (n0 : Nat) (x0_0 : List ByteArray) (x0_1 : List ByteArray) (x0_2 : Int) : Option (Bool × Unit) := loopN (exec (laws_eqStringS.E k) (at_ [true, true, false, true, false, false] (body Try.f142))) (canon 0 [0, 1, 5]) (laws_eqStringS.K0 k a0 a1) n0 (mk 26 0 [(0, .sl true .str x0_0), (1, .sl true .str x0_1), (5, .int .i64 x0_2)] [])
theorem laws_eqStringS.s0 (k : Nat) (a0 : List ByteArray) (a1 : List ByteArray) (n0 : Nat) (x0_0 : List ByteArray) (x0_1 : List ByteArray) (x0_2 : Int) : laws_eqStringS.V0 k a0 a1 (n0 + 1) x0_0 x0_1 x0_2 = laws_eqStringS.b0 k (laws_eqStringS.V0 k a0 a1 n0) x0_0 x0_1 x0_2 := by kernel_rfl
theorem laws_eqStringS.e0 (k : Nat) (a0 : List ByteArray) (a1 : List ByteArray) (n0 : Nat) : laws_eqStringS.V0 k a0 a1 n0 = laws_eqStringS.l0 k n0 := by
  induction n0 with
  | zero => rfl
  | succ n0 ih =>
    have h : laws_eqStringS.V0 k a0 a1 (n0 + 1) = laws_eqStringS.b0 k (laws_eqStringS.V0 k a0 a1 n0) := funext fun x0_0 => funext fun x0_1 => funext fun x0_2 => laws_eqStringS.s0 k a0 a1 n0 x0_0 x0_1 x0_2
    rw [h, ih]
    rfl
theorem laws_eqStringS.q (k : Nat) (a0 : List ByteArray) (a1 : List ByteArray) : run (laws_eqStringS.E k) Try.f142 [.val (.slice .str), .val (.slice .str)] [.bool] true false (a0, a1, ()) = laws_eqStringS.t k (laws_eqStringS.V0 k a0 a1 k) a0 a1 := by kernel_rfl
theorem laws_eqStringS.eq (k : Nat) (a0 : List ByteArray) (a1 : List ByteArray) : run (laws_eqStringS.E k) Try.f142 [.val (.slice .str), .val (.slice .str)] [.bool] true false (a0, a1, ()) = laws_eqStringS.f k a0 a1 := by
  rw [laws_eqStringS.q, laws_eqStringS.e0]
  rfl
theorem laws_eqStringS.ctr (k : Nat) : Ctr Try.prog 142 ⟨[.val (.slice .str), .val (.slice .str)], [.bool], true, false, fun x => laws_eqStringS.f k x.1 x.2.1⟩ :=
  run_ctr (E := laws_eqStringS.E k) mixed tb_ok (eqOk_of tb_eqs) Cts.nil (by kernel_rfl) Try.func142 (by kernel_rfl) rfl (fun ⟨a0, a1, _⟩ r h => (laws_eqStringS.eq k a0 a1).trans h)
def laws_eqPut.E (k : Nat) : Env := ⟨tb, [], [], k, 0, []⟩
theorem laws_eqPut.q (k : Nat) (a0 : Ty.den TPut) (a1 : Ty.den TPut) : run (laws_eqPut.E k) Try.f100 [.val TPut, .val TPut] [.bool] true false (a0, a1, ()) = laws_eqPut.t k a0 a1 := by kernel_rfl
theorem laws_eqPut.eq (k : Nat) (a0 : Ty.den TPut) (a1 : Ty.den TPut) : run (laws_eqPut.E k) Try.f100 [.val TPut, .val TPut] [.bool] true false (a0, a1, ()) = laws_eqPut.f k a0 a1 := by
  rw [laws_eqPut.q]
  rfl
theorem laws_eqPut.ctr (k : Nat) : Ctr Try.prog 100 ⟨[.val TPut, .val TPut], [.bool], true, false, fun x => laws_eqPut.f k x.1 x.2.1⟩ :=
  run_ctr (E := laws_eqPut.E k) mixed tb_ok (eqOk_of tb_eqs) Cts.nil (by kernel_rfl) Try.func100 (by kernel_rfl) rfl (fun ⟨a0, a1, _⟩ r h => (laws_eqPut.eq k a0 a1).trans h)
def laws_eqPutS.E (k : Nat) : Env := ⟨tb, [(100, ⟨[.val TPut, .val TPut], [.bool], true, false, fun x => laws_eqPut.f k x.1 x.2.1⟩)], [(4, [0, 1, 5])], k, 0, []⟩
noncomputable def laws_eqPutS.K0 (k : Nat) (a0 : List (Ty.den TPut)) (a1 : List (Ty.den TPut)) : Ex → St → Option (Bool × Unit) := runK (laws_eqPutS.E k) (endK (laws_eqPutS.E k) Try.f35.results.toList [.val (.slice TPut), .val (.slice TPut)] (a0, a1, ()) [.bool] true false) [.blk 0, .code (at_ [true, true, true] (body Try.f35))]
noncomputable def laws_eqPutS.B0 (k : Nat) (a0 : List (Ty.den TPut)) (a1 : List (Ty.den TPut)) (n0 : Nat) : Ex → St → Option (Bool × Unit) := fun e st => match e with
  | .normal => loopN (exec (laws_eqPutS.E k) (at_ [true, true, false, true, false, false] (body Try.f35))) (canon 0 [0, 1, 5]) (laws_eqPutS.K0 k a0 a1) n0 (canon 0 [0, 1, 5] st)
  | .ret => laws_eqPutS.K0 k a0 a1 .ret st
  | .exit j => laws_eqPutS.K0 k a0 a1 (.exit j) st
noncomputable def laws_eqPutS.V0 (k : Nat) (a0 : List (Ty.den TPut)) (a1 : List (Ty.den TPut)) (n0 : Nat) (x0_0 : List (Ty.den TPut)) (x0_1 : List (Ty.den TPut)) (x0_2 : Int) : Option (Bool × Unit) := loopN (exec (laws_eqPutS.E k) (at_ [true, true, false, true, false, false] (body Try.f35))) (canon 0 [0, 1, 5]) (laws_eqPutS.K0 k a0 a1) n0 (mk 27 0 [(0, .sl true TPut x0_0), (1, .sl true TPut x0_1), (5, .int .i64 x0_2)] [])
theorem laws_eqPutS.s0 (k : Nat) (a0 : List (Ty.den TPut)) (a1 : List (Ty.den TPut)) (n0 : Nat) (x0_0 : List (Ty.den TPut)) (x0_1 : List (Ty.den TPut)) (x0_2 : Int) : laws_eqPutS.V0 k a0 a1 (n0 + 1) x0_0 x0_1 x0_2 = laws_eqPutS.b0 k (laws_eqPutS.V0 k a0 a1 n0) x0_0 x0_1 x0_2 := by kernel_rfl
theorem laws_eqPutS.e0 (k : Nat) (a0 : List (Ty.den TPut)) (a1 : List (Ty.den TPut)) (n0 : Nat) : laws_eqPutS.V0 k a0 a1 n0 = laws_eqPutS.l0 k n0 := by
  induction n0 with
  | zero => rfl
  | succ n0 ih =>
    have h : laws_eqPutS.V0 k a0 a1 (n0 + 1) = laws_eqPutS.b0 k (laws_eqPutS.V0 k a0 a1 n0) := funext fun x0_0 => funext fun x0_1 => funext fun x0_2 => laws_eqPutS.s0 k a0 a1 n0 x0_0 x0_1 x0_2
    rw [h, ih]
    rfl
theorem laws_eqPutS.q (k : Nat) (a0 : List (Ty.den TPut)) (a1 : List (Ty.den TPut)) : run (laws_eqPutS.E k) Try.f35 [.val (.slice TPut), .val (.slice TPut)] [.bool] true false (a0, a1, ()) = laws_eqPutS.t k (laws_eqPutS.V0 k a0 a1 k) a0 a1 := by kernel_rfl
theorem laws_eqPutS.eq (k : Nat) (a0 : List (Ty.den TPut)) (a1 : List (Ty.den TPut)) : run (laws_eqPutS.E k) Try.f35 [.val (.slice TPut), .val (.slice TPut)] [.bool] true false (a0, a1, ()) = laws_eqPutS.f k a0 a1 := by
  rw [laws_eqPutS.q, laws_eqPutS.e0]
  rfl
theorem laws_eqPutS.ctr (k : Nat) : Ctr Try.prog 35 ⟨[.val (.slice TPut), .val (.slice TPut)], [.bool], true, false, fun x => laws_eqPutS.f k x.1 x.2.1⟩ :=
  run_ctr (E := laws_eqPutS.E k) mixed tb_ok (eqOk_of tb_eqs) (Cts.cons (laws_eqPut.ctr k) Cts.nil) (by kernel_rfl) Try.func35 (by kernel_rfl) rfl (fun ⟨a0, a1, _⟩ r h => (laws_eqPutS.eq k a0 a1).trans h)
def laws_eqHist.E (k : Nat) : Env := ⟨tb, [(23, ⟨[.val (.slice TPair), .val (.slice TPair)], [.bool], true, false, fun x => laws_eqPairS.f k x.1 x.2.1⟩), (142, ⟨[.val (.slice .str), .val (.slice .str)], [.bool], true, false, fun x => laws_eqStringS.f k x.1 x.2.1⟩), (35, ⟨[.val (.slice TPut), .val (.slice TPut)], [.bool], true, false, fun x => laws_eqPutS.f k x.1 x.2.1⟩)], [], k, 0, []⟩
theorem laws_eqHist.q (k : Nat) (a0 : Ty.den THist) (a1 : Ty.den THist) : run (laws_eqHist.E k) Try.f66 [.val THist, .val THist] [.bool] true false (a0, a1, ()) = laws_eqHist.t k a0 a1 := by kernel_rfl
theorem laws_eqHist.eq (k : Nat) (a0 : Ty.den THist) (a1 : Ty.den THist) : run (laws_eqHist.E k) Try.f66 [.val THist, .val THist] [.bool] true false (a0, a1, ()) = laws_eqHist.f k a0 a1 := by
  rw [laws_eqHist.q]
  rfl
theorem laws_eqHist.ctr (k : Nat) : Ctr Try.prog 66 ⟨[.val THist, .val THist], [.bool], true, false, fun x => laws_eqHist.f k x.1 x.2.1⟩ :=
  run_ctr (E := laws_eqHist.E k) mixed tb_ok (eqOk_of tb_eqs) (Cts.cons (laws_eqPairS.ctr k) (Cts.cons (laws_eqStringS.ctr k) (Cts.cons (laws_eqPutS.ctr k) Cts.nil))) (by kernel_rfl) Try.func66 (by kernel_rfl) rfl (fun ⟨a0, a1, _⟩ r h => (laws_eqHist.eq k a0 a1).trans h)
def laws_eqHistS.E (k : Nat) : Env := ⟨tb, [(66, ⟨[.val THist, .val THist], [.bool], true, false, fun x => laws_eqHist.f k x.1 x.2.1⟩)], [(4, [0, 1, 5])], k, 0, []⟩
noncomputable def laws_eqHistS.K0 (k : Nat) (a0 : List (Ty.den THist)) (a1 : List (Ty.den THist)) : Ex → St → Option (Bool × Unit) := runK (laws_eqHistS.E k) (endK (laws_eqHistS.E k) Try.f15.results.toList [.val (.slice THist), .val (.slice THist)] (a0, a1, ()) [.bool] true false) [.blk 0, .code (at_ [true, true, true] (body Try.f15))]
noncomputable def laws_eqHistS.B0 (k : Nat) (a0 : List (Ty.den THist)) (a1 : List (Ty.den THist)) (n0 : Nat) : Ex → St → Option (Bool × Unit) := fun e st => match e with
  | .normal => loopN (exec (laws_eqHistS.E k) (at_ [true, true, false, true, false, false] (body Try.f15))) (canon 0 [0, 1, 5]) (laws_eqHistS.K0 k a0 a1) n0 (canon 0 [0, 1, 5] st)
  | .ret => laws_eqHistS.K0 k a0 a1 .ret st
  | .exit j => laws_eqHistS.K0 k a0 a1 (.exit j) st
noncomputable def laws_eqHistS.V0 (k : Nat) (a0 : List (Ty.den THist)) (a1 : List (Ty.den THist)) (n0 : Nat) (x0_0 : List (Ty.den THist)) (x0_1 : List (Ty.den THist)) (x0_2 : Int) : Option (Bool × Unit) := loopN (exec (laws_eqHistS.E k) (at_ [true, true, false, true, false, false] (body Try.f15))) (canon 0 [0, 1, 5]) (laws_eqHistS.K0 k a0 a1) n0 (mk 27 0 [(0, .sl true THist x0_0), (1, .sl true THist x0_1), (5, .int .i64 x0_2)] [])
theorem laws_eqHistS.s0 (k : Nat) (a0 : List (Ty.den THist)) (a1 : List (Ty.den THist)) (n0 : Nat) (x0_0 : List (Ty.den THist)) (x0_1 : List (Ty.den THist)) (x0_2 : Int) : laws_eqHistS.V0 k a0 a1 (n0 + 1) x0_0 x0_1 x0_2 = laws_eqHistS.b0 k (laws_eqHistS.V0 k a0 a1 n0) x0_0 x0_1 x0_2 := by kernel_rfl
theorem laws_eqHistS.e0 (k : Nat) (a0 : List (Ty.den THist)) (a1 : List (Ty.den THist)) (n0 : Nat) : laws_eqHistS.V0 k a0 a1 n0 = laws_eqHistS.l0 k n0 := by
  induction n0 with
  | zero => rfl
  | succ n0 ih =>
    have h : laws_eqHistS.V0 k a0 a1 (n0 + 1) = laws_eqHistS.b0 k (laws_eqHistS.V0 k a0 a1 n0) := funext fun x0_0 => funext fun x0_1 => funext fun x0_2 => laws_eqHistS.s0 k a0 a1 n0 x0_0 x0_1 x0_2
    rw [h, ih]
    rfl
theorem laws_eqHistS.q (k : Nat) (a0 : List (Ty.den THist)) (a1 : List (Ty.den THist)) : run (laws_eqHistS.E k) Try.f15 [.val (.slice THist), .val (.slice THist)] [.bool] true false (a0, a1, ()) = laws_eqHistS.t k (laws_eqHistS.V0 k a0 a1 k) a0 a1 := by kernel_rfl
theorem laws_eqHistS.eq (k : Nat) (a0 : List (Ty.den THist)) (a1 : List (Ty.den THist)) : run (laws_eqHistS.E k) Try.f15 [.val (.slice THist), .val (.slice THist)] [.bool] true false (a0, a1, ()) = laws_eqHistS.f k a0 a1 := by
  rw [laws_eqHistS.q, laws_eqHistS.e0]
  rfl
theorem laws_eqHistS.ctr (k : Nat) : Ctr Try.prog 15 ⟨[.val (.slice THist), .val (.slice THist)], [.bool], true, false, fun x => laws_eqHistS.f k x.1 x.2.1⟩ :=
  run_ctr (E := laws_eqHistS.E k) mixed tb_ok (eqOk_of tb_eqs) (Cts.cons (laws_eqHist.ctr k) Cts.nil) (by kernel_rfl) Try.func15 (by kernel_rfl) rfl (fun ⟨a0, a1, _⟩ r h => (laws_eqHistS.eq k a0 a1).trans h)
def laws_FnExactSerialOk.E (k : Nat) : Env := ⟨tb, [(11, ⟨[.val (.slice THist), .val (.int .i64)], [(.int .i64)], true, false, fun x => laws_szHistS.f k x.1 x.2.1⟩), (13, ⟨[.val (.slice THist)], [(.slice THist)], true, false, fun x => laws_toHistS.f k x.1⟩), (12, ⟨[.val (.slice THist)], [.bool], true, false, fun x => spec_SerialOk.f k x.1⟩), (14, ⟨[.val (.slice THist)], [.bool], true, false, fun x => impl_SerialOk.f k x.1⟩), (15, ⟨[.val (.slice THist), .val (.slice THist)], [.bool], true, false, fun x => laws_eqHistS.f k x.1 x.2.1⟩)], [], k, 0, []⟩
theorem laws_FnExactSerialOk.q (k : Nat) (a0 : List (Ty.den THist)) : run (laws_FnExactSerialOk.E k) Try.f3 [.val (.slice THist)] [.bool] true false (a0, ()) = laws_FnExactSerialOk.t k a0 := by kernel_rfl
theorem laws_FnExactSerialOk.eq (k : Nat) (a0 : List (Ty.den THist)) : run (laws_FnExactSerialOk.E k) Try.f3 [.val (.slice THist)] [.bool] true false (a0, ()) = laws_FnExactSerialOk.f k a0 := by
  rw [laws_FnExactSerialOk.q]
  rfl
theorem laws_FnExactSerialOk.ctr (k : Nat) : Ctr Try.prog 3 ⟨[.val (.slice THist)], [.bool], true, false, fun x => laws_FnExactSerialOk.f k x.1⟩ :=
  run_ctr (E := laws_FnExactSerialOk.E k) mixed tb_ok (eqOk_of tb_eqs) (Cts.cons (laws_szHistS.ctr k) (Cts.cons (laws_toHistS.ctr k) (Cts.cons (spec_SerialOk.ctr k) (Cts.cons (impl_SerialOk.ctr k) (Cts.cons (laws_eqHistS.ctr k) Cts.nil))))) (by kernel_rfl) Try.func3 (by kernel_rfl) rfl (fun ⟨a0, _⟩ r h => (laws_FnExactSerialOk.eq k a0).trans h)
def laws_szAck.E (k : Nat) : Env := ⟨tb, [(28, ⟨[.val (.slice TPut), .val (.int .i64)], [(.int .i64)], true, false, fun x => laws_szPutS.f k x.1 x.2.1⟩)], [], k, 0, []⟩
theorem laws_szAck.q (k : Nat) (a0 : Ty.den TAck) (a1 : Int) : run (laws_szAck.E k) Try.f144 [.val TAck, .val (.int .i64)] [(.int .i64)] true false (a0, a1, ()) = laws_szAck.t k a0 a1 := by kernel_rfl
theorem laws_szAck.eq (k : Nat) (a0 : Ty.den TAck) (a1 : Int) : run (laws_szAck.E k) Try.f144 [.val TAck, .val (.int .i64)] [(.int .i64)] true false (a0, a1, ()) = laws_szAck.f k a0 a1 := by
  rw [laws_szAck.q]
  rfl
theorem laws_szAck.ctr (k : Nat) : Ctr Try.prog 144 ⟨[.val TAck, .val (.int .i64)], [(.int .i64)], true, false, fun x => laws_szAck.f k x.1 x.2.1⟩ :=
  run_ctr (E := laws_szAck.E k) mixed tb_ok (eqOk_of tb_eqs) (Cts.cons (laws_szPutS.ctr k) Cts.nil) (by kernel_rfl) Try.func144 (by kernel_rfl) rfl (fun ⟨a0, a1, _⟩ r h => (laws_szAck.eq k a0 a1).trans h)
def laws_szAckS.E (k : Nat) : Env := ⟨tb, [(144, ⟨[.val TAck, .val (.int .i64)], [(.int .i64)], true, false, fun x => laws_szAck.f k x.1 x.2.1⟩)], [(5, [0, 1, 5])], k, 0, []⟩
noncomputable def laws_szAckS.K0 (k : Nat) (a0 : List (Ty.den TAck)) (a1 : Int) : Ex → St → Option (Int × Unit) := runK (laws_szAckS.E k) (endK (laws_szAckS.E k) Try.f68.results.toList [.val (.slice TAck), .val (.int .i64)] (a0, a1, ()) [(.int .i64)] true false) [.blk 0, .code (at_ [true, true, true, true] (body Try.f68))]
noncomputable def laws_szAckS.B0 (k : Nat) (a0 : List (Ty.den TAck)) (a1 : Int) (n0 : Nat) : Ex → St → Option (Int × Unit) := fun e st => match e with
  | .normal => loopN (exec (laws_szAckS.E k) (at_ [true, true, true, false, true, false, false] (body Try.f68))) (canon 0 [0, 1, 5]) (laws_szAckS.K0 k a0 a1) n0 (canon 0 [0, 1, 5] st)
  | .ret => laws_szAckS.K0 k a0 a1 .ret st
  | .exit j => laws_szAckS.K0 k a0 a1 (.exit j) st
noncomputable def laws_szAckS.V0 (k : Nat) (a0 : List (Ty.den TAck)) (a1 : Int) (n0 : Nat) (x0_0 : List (Ty.den TAck)) (x0_1 : Int) (x0_2 : Int) : Option (Int × Unit) := loopN (exec (laws_szAckS.E k) (at_ [true, true, true, false, true, false, false] (body Try.f68))) (canon 0 [0, 1, 5]) (laws_szAckS.K0 k a0 a1) n0 (mk 27 0 [(0, .sl true TAck x0_0), (1, .int .i64 x0_1), (5, .int .i64 x0_2)] [])
theorem laws_szAckS.s0 (k : Nat) (a0 : List (Ty.den TAck)) (a1 : Int) (n0 : Nat) (x0_0 : List (Ty.den TAck)) (x0_1 : Int) (x0_2 : Int) : laws_szAckS.V0 k a0 a1 (n0 + 1) x0_0 x0_1 x0_2 = laws_szAckS.b0 k (laws_szAckS.V0 k a0 a1 n0) x0_0 x0_1 x0_2 := by kernel_rfl
theorem laws_szAckS.e0 (k : Nat) (a0 : List (Ty.den TAck)) (a1 : Int) (n0 : Nat) : laws_szAckS.V0 k a0 a1 n0 = laws_szAckS.l0 k n0 := by
  induction n0 with
  | zero => rfl
  | succ n0 ih =>
    have h : laws_szAckS.V0 k a0 a1 (n0 + 1) = laws_szAckS.b0 k (laws_szAckS.V0 k a0 a1 n0) := funext fun x0_0 => funext fun x0_1 => funext fun x0_2 => laws_szAckS.s0 k a0 a1 n0 x0_0 x0_1 x0_2
    rw [h, ih]
    rfl
theorem laws_szAckS.q (k : Nat) (a0 : List (Ty.den TAck)) (a1 : Int) : run (laws_szAckS.E k) Try.f68 [.val (.slice TAck), .val (.int .i64)] [(.int .i64)] true false (a0, a1, ()) = laws_szAckS.t k (laws_szAckS.V0 k a0 a1 k) a0 a1 := by kernel_rfl
theorem laws_szAckS.eq (k : Nat) (a0 : List (Ty.den TAck)) (a1 : Int) : run (laws_szAckS.E k) Try.f68 [.val (.slice TAck), .val (.int .i64)] [(.int .i64)] true false (a0, a1, ()) = laws_szAckS.f k a0 a1 := by
  rw [laws_szAckS.q, laws_szAckS.e0]
  rfl
theorem laws_szAckS.ctr (k : Nat) : Ctr Try.prog 68 ⟨[.val (.slice TAck), .val (.int .i64)], [(.int .i64)], true, false, fun x => laws_szAckS.f k x.1 x.2.1⟩ :=
  run_ctr (E := laws_szAckS.E k) mixed tb_ok (eqOk_of tb_eqs) (Cts.cons (laws_szAck.ctr k) Cts.nil) (by kernel_rfl) Try.func68 (by kernel_rfl) rfl (fun ⟨a0, a1, _⟩ r h => (laws_szAckS.eq k a0 a1).trans h)
def laws_szEnd.E (k : Nat) : Env := ⟨tb, [(67, ⟨[.val (.slice TPair), .val (.int .i64)], [(.int .i64)], true, false, fun x => laws_szPairS.f k x.1 x.2.1⟩), (68, ⟨[.val (.slice TAck), .val (.int .i64)], [(.int .i64)], true, false, fun x => laws_szAckS.f k x.1 x.2.1⟩), (28, ⟨[.val (.slice TPut), .val (.int .i64)], [(.int .i64)], true, false, fun x => laws_szPutS.f k x.1 x.2.1⟩)], [], k, 0, []⟩
theorem laws_szEnd.q (k : Nat) (a0 : Ty.den TEnd) (a1 : Int) : run (laws_szEnd.E k) Try.f16 [.val TEnd, .val (.int .i64)] [(.int .i64)] true false (a0, a1, ()) = laws_szEnd.t k a0 a1 := by kernel_rfl
theorem laws_szEnd.eq (k : Nat) (a0 : Ty.den TEnd) (a1 : Int) : run (laws_szEnd.E k) Try.f16 [.val TEnd, .val (.int .i64)] [(.int .i64)] true false (a0, a1, ()) = laws_szEnd.f k a0 a1 := by
  rw [laws_szEnd.q]
  rfl
theorem laws_szEnd.ctr (k : Nat) : Ctr Try.prog 16 ⟨[.val TEnd, .val (.int .i64)], [(.int .i64)], true, false, fun x => laws_szEnd.f k x.1 x.2.1⟩ :=
  run_ctr (E := laws_szEnd.E k) mixed tb_ok (eqOk_of tb_eqs) (Cts.cons (laws_szPairS.ctr k) (Cts.cons (laws_szAckS.ctr k) (Cts.cons (laws_szPutS.ctr k) Cts.nil))) (by kernel_rfl) Try.func16 (by kernel_rfl) rfl (fun ⟨a0, a1, _⟩ r h => (laws_szEnd.eq k a0 a1).trans h)
def laws_toAck.E (k : Nat) : Env := ⟨tb, [(31, ⟨[.val (.slice TPut)], [(.slice TPut)], true, false, fun x => laws_toPutS.f k x.1⟩)], [], k, 0, []⟩
theorem laws_toAck.q (k : Nat) (a0 : Ty.den TAck) : run (laws_toAck.E k) Try.f147 [.val TAck] [TAck] true false (a0, ()) = laws_toAck.t k a0 := by kernel_rfl
theorem laws_toAck.eq (k : Nat) (a0 : Ty.den TAck) : run (laws_toAck.E k) Try.f147 [.val TAck] [TAck] true false (a0, ()) = laws_toAck.f k a0 := by
  rw [laws_toAck.q]
  rfl
theorem laws_toAck.ctr (k : Nat) : Ctr Try.prog 147 ⟨[.val TAck], [TAck], true, false, fun x => laws_toAck.f k x.1⟩ :=
  run_ctr (E := laws_toAck.E k) mixed tb_ok (eqOk_of tb_eqs) (Cts.cons (laws_toPutS.ctr k) Cts.nil) (by kernel_rfl) Try.func147 (by kernel_rfl) rfl (fun ⟨a0, _⟩ r h => (laws_toAck.eq k a0).trans h)
def laws_toAckS.E (k : Nat) : Env := ⟨tb, [(147, ⟨[.val TAck], [TAck], true, false, fun x => laws_toAck.f k x.1⟩)], [(3, [0, 3, 4])], k, 0, []⟩
noncomputable def laws_toAckS.K0 (k : Nat) (a0 : List (Ty.den TAck)) : Ex → St → Option ((List (Ty.den TAck)) × Unit) := runK (laws_toAckS.E k) (endK (laws_toAckS.E k) Try.f73.results.toList [.val (.slice TAck)] (a0, ()) [(.slice TAck)] true false) [.blk 0, .code (at_ [true, true, true] (body Try.f73))]
noncomputable def laws_toAckS.B0 (k : Nat) (a0 : List (Ty.den TAck)) (n0 : Nat) : Ex → St → Option ((List (Ty.den TAck)) × Unit) := fun e st => match e with
  | .normal => loopN (exec (laws_toAckS.E k) (at_ [true, true, false, true, false, false] (body Try.f73))) (canon 0 [0, 3, 4]) (laws_toAckS.K0 k a0) n0 (canon 0 [0, 3, 4] st)
  | .ret => laws_toAckS.K0 k a0 .ret st
  | .exit j => laws_toAckS.K0 k a0 (.exit j) st
noncomputable def laws_toAckS.V0 (k : Nat) (a0 : List (Ty.den TAck)) (n0 : Nat) (x0_0 : List (Ty.den TAck)) (x0_1 : Int) (x0_2 : List (Ty.den TAck)) : Option ((List (Ty.den TAck)) × Unit) := loopN (exec (laws_toAckS.E k) (at_ [true, true, false, true, false, false] (body Try.f73))) (canon 0 [0, 3, 4]) (laws_toAckS.K0 k a0) n0 (mk 23 1 [(0, .sl true TAck x0_0), (3, .ref 0), (4, .int .i64 x0_1)] [(0, .own false TAck x0_2)])
theorem laws_toAckS.s0 (k : Nat) (a0 : List (Ty.den TAck)) (n0 : Nat) (x0_0 : List (Ty.den TAck)) (x0_1 : Int) (x0_2 : List (Ty.den TAck)) : laws_toAckS.V0 k a0 (n0 + 1) x0_0 x0_1 x0_2 = laws_toAckS.b0 k (laws_toAckS.V0 k a0 n0) x0_0 x0_1 x0_2 := by kernel_rfl
theorem laws_toAckS.e0 (k : Nat) (a0 : List (Ty.den TAck)) (n0 : Nat) : laws_toAckS.V0 k a0 n0 = laws_toAckS.l0 k n0 := by
  induction n0 with
  | zero => rfl
  | succ n0 ih =>
    have h : laws_toAckS.V0 k a0 (n0 + 1) = laws_toAckS.b0 k (laws_toAckS.V0 k a0 n0) := funext fun x0_0 => funext fun x0_1 => funext fun x0_2 => laws_toAckS.s0 k a0 n0 x0_0 x0_1 x0_2
    rw [h, ih]
    rfl
theorem laws_toAckS.q (k : Nat) (a0 : List (Ty.den TAck)) : run (laws_toAckS.E k) Try.f73 [.val (.slice TAck)] [(.slice TAck)] true false (a0, ()) = laws_toAckS.t k (laws_toAckS.V0 k a0 k) a0 := by kernel_rfl
theorem laws_toAckS.eq (k : Nat) (a0 : List (Ty.den TAck)) : run (laws_toAckS.E k) Try.f73 [.val (.slice TAck)] [(.slice TAck)] true false (a0, ()) = laws_toAckS.f k a0 := by
  rw [laws_toAckS.q, laws_toAckS.e0]
  rfl
theorem laws_toAckS.ctr (k : Nat) : Ctr Try.prog 73 ⟨[.val (.slice TAck)], [(.slice TAck)], true, false, fun x => laws_toAckS.f k x.1⟩ :=
  run_ctr (E := laws_toAckS.E k) mixed tb_ok (eqOk_of tb_eqs) (Cts.cons (laws_toAck.ctr k) Cts.nil) (by kernel_rfl) Try.func73 (by kernel_rfl) rfl (fun ⟨a0, _⟩ r h => (laws_toAckS.eq k a0).trans h)
def laws_toEnd.E (k : Nat) : Env := ⟨tb, [(72, ⟨[.val (.slice TPair)], [(.slice TPair)], true, false, fun x => laws_toPairS.f k x.1⟩), (73, ⟨[.val (.slice TAck)], [(.slice TAck)], true, false, fun x => laws_toAckS.f k x.1⟩), (31, ⟨[.val (.slice TPut)], [(.slice TPut)], true, false, fun x => laws_toPutS.f k x.1⟩)], [], k, 0, []⟩
theorem laws_toEnd.q (k : Nat) (a0 : Ty.den TEnd) : run (laws_toEnd.E k) Try.f18 [.val TEnd] [TEnd] true false (a0, ()) = laws_toEnd.t k a0 := by kernel_rfl
theorem laws_toEnd.eq (k : Nat) (a0 : Ty.den TEnd) : run (laws_toEnd.E k) Try.f18 [.val TEnd] [TEnd] true false (a0, ()) = laws_toEnd.f k a0 := by
  rw [laws_toEnd.q]
  rfl
theorem laws_toEnd.ctr (k : Nat) : Ctr Try.prog 18 ⟨[.val TEnd], [TEnd], true, false, fun x => laws_toEnd.f k x.1⟩ :=
  run_ctr (E := laws_toEnd.E k) mixed tb_ok (eqOk_of tb_eqs) (Cts.cons (laws_toPairS.ctr k) (Cts.cons (laws_toAckS.ctr k) (Cts.cons (laws_toPutS.ctr k) Cts.nil))) (by kernel_rfl) Try.func18 (by kernel_rfl) rfl (fun ⟨a0, _⟩ r h => (laws_toEnd.eq k a0).trans h)
def spec_FoldAcks.E (k : Nat) : Env := ⟨tb, [(71, ⟨[.val (.slice TPair), .val (.slice TPut), .val (.int .i64)], [(.slice TPair)], true, false, fun x => spec_Fold.f k x.1 x.2.1 x.2.2.1⟩)], [(3, [1, 5, 6])], k, 0, []⟩
noncomputable def spec_FoldAcks.K0 (k : Nat) (a0 : List (Ty.den TPair)) (a1 : List (Ty.den TAck)) : Ex → St → Option ((List (Ty.den TPair)) × Unit) := runK (spec_FoldAcks.E k) (endK (spec_FoldAcks.E k) Try.f69.results.toList [.val (.slice TPair), .val (.slice TAck)] (a0, a1, ()) [(.slice TPair)] true false) [.blk 0, .code (at_ [true, true, true] (body Try.f69))]
noncomputable def spec_FoldAcks.B0 (k : Nat) (a0 : List (Ty.den TPair)) (a1 : List (Ty.den TAck)) (n0 : Nat) : Ex → St → Option ((List (Ty.den TPair)) × Unit) := fun e st => match e with
  | .normal => loopN (exec (spec_FoldAcks.E k) (at_ [true, true, false, true, false, false] (body Try.f69))) (canon 0 [1, 5, 6]) (spec_FoldAcks.K0 k a0 a1) n0 (canon 0 [1, 5, 6] st)
  | .ret => spec_FoldAcks.K0 k a0 a1 .ret st
  | .exit j => spec_FoldAcks.K0 k a0 a1 (.exit j) st
noncomputable def spec_FoldAcks.V0 (k : Nat) (a0 : List (Ty.den TPair)) (a1 : List (Ty.den TAck)) (n0 : Nat) (x0_0 : List (Ty.den TAck)) (x0_1 : Int) (x0_2 : List (Ty.den TPair)) : Option ((List (Ty.den TPair)) × Unit) := loopN (exec (spec_FoldAcks.E k) (at_ [true, true, false, true, false, false] (body Try.f69))) (canon 0 [1, 5, 6]) (spec_FoldAcks.K0 k a0 a1) n0 (mk 29 1 [(1, .sl true TAck x0_0), (5, .ref 0), (6, .int .i64 x0_1)] [(0, .own false TPair x0_2)])
theorem spec_FoldAcks.s0 (k : Nat) (a0 : List (Ty.den TPair)) (a1 : List (Ty.den TAck)) (n0 : Nat) (x0_0 : List (Ty.den TAck)) (x0_1 : Int) (x0_2 : List (Ty.den TPair)) : spec_FoldAcks.V0 k a0 a1 (n0 + 1) x0_0 x0_1 x0_2 = spec_FoldAcks.b0 k (spec_FoldAcks.V0 k a0 a1 n0) x0_0 x0_1 x0_2 := by kernel_rfl
theorem spec_FoldAcks.e0 (k : Nat) (a0 : List (Ty.den TPair)) (a1 : List (Ty.den TAck)) (n0 : Nat) : spec_FoldAcks.V0 k a0 a1 n0 = spec_FoldAcks.l0 k n0 := by
  induction n0 with
  | zero => rfl
  | succ n0 ih =>
    have h : spec_FoldAcks.V0 k a0 a1 (n0 + 1) = spec_FoldAcks.b0 k (spec_FoldAcks.V0 k a0 a1 n0) := funext fun x0_0 => funext fun x0_1 => funext fun x0_2 => spec_FoldAcks.s0 k a0 a1 n0 x0_0 x0_1 x0_2
    rw [h, ih]
    rfl
theorem spec_FoldAcks.q (k : Nat) (a0 : List (Ty.den TPair)) (a1 : List (Ty.den TAck)) : run (spec_FoldAcks.E k) Try.f69 [.val (.slice TPair), .val (.slice TAck)] [(.slice TPair)] true false (a0, a1, ()) = spec_FoldAcks.t k (spec_FoldAcks.V0 k a0 a1 k) a0 a1 := by kernel_rfl
theorem spec_FoldAcks.eq (k : Nat) (a0 : List (Ty.den TPair)) (a1 : List (Ty.den TAck)) : run (spec_FoldAcks.E k) Try.f69 [.val (.slice TPair), .val (.slice TAck)] [(.slice TPair)] true false (a0, a1, ()) = spec_FoldAcks.f k a0 a1 := by
  rw [spec_FoldAcks.q, spec_FoldAcks.e0]
  rfl
theorem spec_FoldAcks.ctr (k : Nat) : Ctr Try.prog 69 ⟨[.val (.slice TPair), .val (.slice TAck)], [(.slice TPair)], true, false, fun x => spec_FoldAcks.f k x.1 x.2.1⟩ :=
  run_ctr (E := spec_FoldAcks.E k) mixed tb_ok (eqOk_of tb_eqs) (Cts.cons (spec_Fold.ctr k) Cts.nil) (by kernel_rfl) Try.func69 (by kernel_rfl) rfl (fun ⟨a0, a1, _⟩ r h => (spec_FoldAcks.eq k a0 a1).trans h)
def spec_SamePairs.E (k : Nat) : Env := ⟨tb, [], [(4, [0, 1, 5])], k, 0, []⟩
noncomputable def spec_SamePairs.K0 (k : Nat) (a0 : List (Ty.den TPair)) (a1 : List (Ty.den TPair)) : Ex → St → Option (Bool × Unit) := runK (spec_SamePairs.E k) (endK (spec_SamePairs.E k) Try.f70.results.toList [.val (.slice TPair), .val (.slice TPair)] (a0, a1, ()) [.bool] true false) [.blk 0, .code (at_ [true, true, true] (body Try.f70))]
noncomputable def spec_SamePairs.B0 (k : Nat) (a0 : List (Ty.den TPair)) (a1 : List (Ty.den TPair)) (n0 : Nat) : Ex → St → Option (Bool × Unit) := fun e st => match e with
  | .normal => loopN (exec (spec_SamePairs.E k) (at_ [true, true, false, true, false, false] (body Try.f70))) (canon 0 [0, 1, 5]) (spec_SamePairs.K0 k a0 a1) n0 (canon 0 [0, 1, 5] st)
  | .ret => spec_SamePairs.K0 k a0 a1 .ret st
  | .exit j => spec_SamePairs.K0 k a0 a1 (.exit j) st
noncomputable def spec_SamePairs.V0 (k : Nat) (a0 : List (Ty.den TPair)) (a1 : List (Ty.den TPair)) (n0 : Nat) (x0_0 : List (Ty.den TPair)) (x0_1 : List (Ty.den TPair)) (x0_2 : Int) : Option (Bool × Unit) := loopN (exec (spec_SamePairs.E k) (at_ [true, true, false, true, false, false] (body Try.f70))) (canon 0 [0, 1, 5]) (spec_SamePairs.K0 k a0 a1) n0 (mk 26 0 [(0, .sl true TPair x0_0), (1, .sl true TPair x0_1), (5, .int .i64 x0_2)] [])
theorem spec_SamePairs.s0 (k : Nat) (a0 : List (Ty.den TPair)) (a1 : List (Ty.den TPair)) (n0 : Nat) (x0_0 : List (Ty.den TPair)) (x0_1 : List (Ty.den TPair)) (x0_2 : Int) : spec_SamePairs.V0 k a0 a1 (n0 + 1) x0_0 x0_1 x0_2 = spec_SamePairs.b0 k (spec_SamePairs.V0 k a0 a1 n0) x0_0 x0_1 x0_2 := by kernel_rfl
theorem spec_SamePairs.e0 (k : Nat) (a0 : List (Ty.den TPair)) (a1 : List (Ty.den TPair)) (n0 : Nat) : spec_SamePairs.V0 k a0 a1 n0 = spec_SamePairs.l0 k n0 := by
  induction n0 with
  | zero => rfl
  | succ n0 ih =>
    have h : spec_SamePairs.V0 k a0 a1 (n0 + 1) = spec_SamePairs.b0 k (spec_SamePairs.V0 k a0 a1 n0) := funext fun x0_0 => funext fun x0_1 => funext fun x0_2 => spec_SamePairs.s0 k a0 a1 n0 x0_0 x0_1 x0_2
    rw [h, ih]
    rfl
theorem spec_SamePairs.q (k : Nat) (a0 : List (Ty.den TPair)) (a1 : List (Ty.den TPair)) : run (spec_SamePairs.E k) Try.f70 [.val (.slice TPair), .val (.slice TPair)] [.bool] true false (a0, a1, ()) = spec_SamePairs.t k (spec_SamePairs.V0 k a0 a1 k) a0 a1 := by kernel_rfl
theorem spec_SamePairs.eq (k : Nat) (a0 : List (Ty.den TPair)) (a1 : List (Ty.den TPair)) : run (spec_SamePairs.E k) Try.f70 [.val (.slice TPair), .val (.slice TPair)] [.bool] true false (a0, a1, ()) = spec_SamePairs.f k a0 a1 := by
  rw [spec_SamePairs.q, spec_SamePairs.e0]
  rfl
theorem spec_SamePairs.ctr (k : Nat) : Ctr Try.prog 70 ⟨[.val (.slice TPair), .val (.slice TPair)], [.bool], true, false, fun x => spec_SamePairs.f k x.1 x.2.1⟩ :=
  run_ctr (E := spec_SamePairs.E k) mixed tb_ok (eqOk_of tb_eqs) Cts.nil (by kernel_rfl) Try.func70 (by kernel_rfl) rfl (fun ⟨a0, a1, _⟩ r h => (spec_SamePairs.eq k a0 a1).trans h)
def spec_EndOk.E (k : Nat) : Env := ⟨tb, [(69, ⟨[.val (.slice TPair), .val (.slice TAck)], [(.slice TPair)], true, false, fun x => spec_FoldAcks.f k x.1 x.2.1⟩), (70, ⟨[.val (.slice TPair), .val (.slice TPair)], [.bool], true, false, fun x => spec_SamePairs.f k x.1 x.2.1⟩), (71, ⟨[.val (.slice TPair), .val (.slice TPut), .val (.int .i64)], [(.slice TPair)], true, false, fun x => spec_Fold.f k x.1 x.2.1 x.2.2.1⟩)], [(7, [1, 3, 4])], k, 0, []⟩
noncomputable def spec_EndOk.K0 (k : Nat) (a0 : Ty.den TEnd) : Ex → St → Option (Bool × Unit) := runK (spec_EndOk.E k) (endK (spec_EndOk.E k) Try.f17.results.toList [.val TEnd] (a0, ()) [.bool] true false) [.blk 0, .code (at_ [true, true, true, true, true] (body Try.f17))]
noncomputable def spec_EndOk.B0 (k : Nat) (a0 : Ty.den TEnd) (n0 : Nat) : Ex → St → Option (Bool × Unit) := fun e st => match e with
  | .normal => loopN (exec (spec_EndOk.E k) (at_ [true, true, true, true, false, true, false, false] (body Try.f17))) (canon 0 [1, 3, 4]) (spec_EndOk.K0 k a0) n0 (canon 0 [1, 3, 4] st)
  | .ret => spec_EndOk.K0 k a0 .ret st
  | .exit j => spec_EndOk.K0 k a0 (.exit j) st
noncomputable def spec_EndOk.V0 (k : Nat) (a0 : Ty.den TEnd) (n0 : Nat) (x0_0 : Int) (x0_1 : List (Ty.den TPair)) (x0_2 : List (Ty.den TAck)) (x0_3 : List (Ty.den TPut)) (x0_4 : List (Ty.den TPair)) (x0_5 : Int) (x0_6 : List (Ty.den TPair)) : Option (Bool × Unit) := loopN (exec (spec_EndOk.E k) (at_ [true, true, true, true, false, true, false, false] (body Try.f17))) (canon 0 [1, 3, 4]) (spec_EndOk.K0 k a0) n0 (mk 56 2 [(1, .ptr 0 0 0), (3, .ref 1), (4, .int .i64 x0_0)] [(0, .box [.sl true TPair x0_1, .sl true TAck x0_2, .sl true TPut x0_3, .sl true TPair x0_4, .int .i64 x0_5]), (1, .own false TPair x0_6)])
theorem spec_EndOk.s0 (k : Nat) (a0 : Ty.den TEnd) (n0 : Nat) (x0_0 : Int) (x0_1 : List (Ty.den TPair)) (x0_2 : List (Ty.den TAck)) (x0_3 : List (Ty.den TPut)) (x0_4 : List (Ty.den TPair)) (x0_5 : Int) (x0_6 : List (Ty.den TPair)) : spec_EndOk.V0 k a0 (n0 + 1) x0_0 x0_1 x0_2 x0_3 x0_4 x0_5 x0_6 = spec_EndOk.b0 k (spec_EndOk.V0 k a0 n0) x0_0 x0_1 x0_2 x0_3 x0_4 x0_5 x0_6 := by kernel_rfl
theorem spec_EndOk.e0 (k : Nat) (a0 : Ty.den TEnd) (n0 : Nat) : spec_EndOk.V0 k a0 n0 = spec_EndOk.l0 k n0 := by
  induction n0 with
  | zero => rfl
  | succ n0 ih =>
    have h : spec_EndOk.V0 k a0 (n0 + 1) = spec_EndOk.b0 k (spec_EndOk.V0 k a0 n0) := funext fun x0_0 => funext fun x0_1 => funext fun x0_2 => funext fun x0_3 => funext fun x0_4 => funext fun x0_5 => funext fun x0_6 => spec_EndOk.s0 k a0 n0 x0_0 x0_1 x0_2 x0_3 x0_4 x0_5 x0_6
    rw [h, ih]
    rfl
theorem spec_EndOk.q (k : Nat) (a0 : Ty.den TEnd) : run (spec_EndOk.E k) Try.f17 [.val TEnd] [.bool] true false (a0, ()) = spec_EndOk.t k (spec_EndOk.V0 k a0 k) a0 := by kernel_rfl
theorem spec_EndOk.eq (k : Nat) (a0 : Ty.den TEnd) : run (spec_EndOk.E k) Try.f17 [.val TEnd] [.bool] true false (a0, ()) = spec_EndOk.f k a0 := by
  rw [spec_EndOk.q, spec_EndOk.e0]
  rfl
theorem spec_EndOk.ctr (k : Nat) : Ctr Try.prog 17 ⟨[.val TEnd], [.bool], true, false, fun x => spec_EndOk.f k x.1⟩ :=
  run_ctr (E := spec_EndOk.E k) mixed tb_ok (eqOk_of tb_eqs) (Cts.cons (spec_FoldAcks.ctr k) (Cts.cons (spec_SamePairs.ctr k) (Cts.cons (spec_Fold.ctr k) Cts.nil))) (by kernel_rfl) Try.func17 (by kernel_rfl) rfl (fun ⟨a0, _⟩ r h => (spec_EndOk.eq k a0).trans h)
def impl_FoldAcks.E (k : Nat) : Env := ⟨tb, [(148, ⟨[.val (.slice TPair)], [(.slice TPair)], true, false, fun x => impl_copyPairs.f k x.1⟩), (76, ⟨[.val (.slice TPair), .val (.slice TPut), .val (.int .i64)], [(.slice TPair)], true, false, fun x => impl_Fold.f k x.1 x.2.1 x.2.2.1⟩)], [(3, [5, 10, 11, 12])], k, 0, []⟩
noncomputable def impl_FoldAcks.K0 (k : Nat) (a0 : List (Ty.den TPair)) (a1 : List (Ty.den TAck)) : Ex → St → Option ((List (Ty.den TPair)) × Unit) := runK (impl_FoldAcks.E k) (endK (impl_FoldAcks.E k) Try.f74.results.toList [.val (.slice TPair), .val (.slice TAck)] (a0, a1, ()) [(.slice TPair)] true false) [.blk 0, .code (at_ [true, true, true] (body Try.f74))]
noncomputable def impl_FoldAcks.B0 (k : Nat) (a0 : List (Ty.den TPair)) (a1 : List (Ty.den TAck)) (n0 : Nat) : Ex → St → Option ((List (Ty.den TPair)) × Unit) := fun e st => match e with
  | .normal => loopN (exec (impl_FoldAcks.E k) (at_ [true, true, false, true, false, false] (body Try.f74))) (canon 0 [5, 10, 11, 12]) (impl_FoldAcks.K0 k a0 a1) n0 (canon 0 [5, 10, 11, 12] st)
  | .ret => impl_FoldAcks.K0 k a0 a1 .ret st
  | .exit j => impl_FoldAcks.K0 k a0 a1 (.exit j) st
noncomputable def impl_FoldAcks.V0 (k : Nat) (a0 : List (Ty.den TPair)) (a1 : List (Ty.den TAck)) (n0 : Nat) (x0_0 : List (Ty.den TAck)) (x0_1 : Int) (x0_2 : Int) (x0_3 : List (Ty.den TPair)) : Option ((List (Ty.den TPair)) × Unit) := loopN (exec (impl_FoldAcks.E k) (at_ [true, true, false, true, false, false] (body Try.f74))) (canon 0 [5, 10, 11, 12]) (impl_FoldAcks.K0 k a0 a1) n0 (mk 24 1 [(5, .ref 0), (10, .sl true TAck x0_0), (11, .int .i64 x0_1), (12, .int .i64 x0_2)] [(0, .own false TPair x0_3)])
theorem impl_FoldAcks.s0 (k : Nat) (a0 : List (Ty.den TPair)) (a1 : List (Ty.den TAck)) (n0 : Nat) (x0_0 : List (Ty.den TAck)) (x0_1 : Int) (x0_2 : Int) (x0_3 : List (Ty.den TPair)) : impl_FoldAcks.V0 k a0 a1 (n0 + 1) x0_0 x0_1 x0_2 x0_3 = impl_FoldAcks.b0 k (impl_FoldAcks.V0 k a0 a1 n0) x0_0 x0_1 x0_2 x0_3 := by kernel_rfl
theorem impl_FoldAcks.e0 (k : Nat) (a0 : List (Ty.den TPair)) (a1 : List (Ty.den TAck)) (n0 : Nat) : impl_FoldAcks.V0 k a0 a1 n0 = impl_FoldAcks.l0 k n0 := by
  induction n0 with
  | zero => rfl
  | succ n0 ih =>
    have h : impl_FoldAcks.V0 k a0 a1 (n0 + 1) = impl_FoldAcks.b0 k (impl_FoldAcks.V0 k a0 a1 n0) := funext fun x0_0 => funext fun x0_1 => funext fun x0_2 => funext fun x0_3 => impl_FoldAcks.s0 k a0 a1 n0 x0_0 x0_1 x0_2 x0_3
    rw [h, ih]
    rfl
theorem impl_FoldAcks.q (k : Nat) (a0 : List (Ty.den TPair)) (a1 : List (Ty.den TAck)) : run (impl_FoldAcks.E k) Try.f74 [.val (.slice TPair), .val (.slice TAck)] [(.slice TPair)] true false (a0, a1, ()) = impl_FoldAcks.t k (impl_FoldAcks.V0 k a0 a1 k) a0 a1 := by kernel_rfl
theorem impl_FoldAcks.eq (k : Nat) (a0 : List (Ty.den TPair)) (a1 : List (Ty.den TAck)) : run (impl_FoldAcks.E k) Try.f74 [.val (.slice TPair), .val (.slice TAck)] [(.slice TPair)] true false (a0, a1, ()) = impl_FoldAcks.f k a0 a1 := by
  rw [impl_FoldAcks.q, impl_FoldAcks.e0]
  rfl
theorem impl_FoldAcks.ctr (k : Nat) : Ctr Try.prog 74 ⟨[.val (.slice TPair), .val (.slice TAck)], [(.slice TPair)], true, false, fun x => impl_FoldAcks.f k x.1 x.2.1⟩ :=
  run_ctr (E := impl_FoldAcks.E k) mixed tb_ok (eqOk_of tb_eqs) (Cts.cons (impl_copyPairs.ctr k) (Cts.cons (impl_Fold.ctr k) Cts.nil)) (by kernel_rfl) Try.func74 (by kernel_rfl) rfl (fun ⟨a0, a1, _⟩ r h => (impl_FoldAcks.eq k a0 a1).trans h)
def impl_SamePairs.E (k : Nat) : Env := ⟨tb, [], [(4, [0, 1, 12, 13])], k, 0, []⟩
noncomputable def impl_SamePairs.K0 (k : Nat) (a0 : List (Ty.den TPair)) (a1 : List (Ty.den TPair)) : Ex → St → Option (Bool × Unit) := runK (impl_SamePairs.E k) (endK (impl_SamePairs.E k) Try.f75.results.toList [.val (.slice TPair), .val (.slice TPair)] (a0, a1, ()) [.bool] true false) [.blk 0, .code (at_ [true, true, true] (body Try.f75))]
noncomputable def impl_SamePairs.B0 (k : Nat) (a0 : List (Ty.den TPair)) (a1 : List (Ty.den TPair)) (n0 : Nat) : Ex → St → Option (Bool × Unit) := fun e st => match e with
  | .normal => loopN (exec (impl_SamePairs.E k) (at_ [true, true, false, true, false, false] (body Try.f75))) (canon 0 [0, 1, 12, 13]) (impl_SamePairs.K0 k a0 a1) n0 (canon 0 [0, 1, 12, 13] st)
  | .ret => impl_SamePairs.K0 k a0 a1 .ret st
  | .exit j => impl_SamePairs.K0 k a0 a1 (.exit j) st
noncomputable def impl_SamePairs.V0 (k : Nat) (a0 : List (Ty.den TPair)) (a1 : List (Ty.den TPair)) (n0 : Nat) (x0_0 : List (Ty.den TPair)) (x0_1 : List (Ty.den TPair)) (x0_2 : Int) (x0_3 : Int) : Option (Bool × Unit) := loopN (exec (impl_SamePairs.E k) (at_ [true, true, false, true, false, false] (body Try.f75))) (canon 0 [0, 1, 12, 13]) (impl_SamePairs.K0 k a0 a1) n0 (mk 26 0 [(0, .sl true TPair x0_0), (1, .sl true TPair x0_1), (12, .int .i64 x0_2), (13, .int .i64 x0_3)] [])
theorem impl_SamePairs.s0 (k : Nat) (a0 : List (Ty.den TPair)) (a1 : List (Ty.den TPair)) (n0 : Nat) (x0_0 : List (Ty.den TPair)) (x0_1 : List (Ty.den TPair)) (x0_2 : Int) (x0_3 : Int) : impl_SamePairs.V0 k a0 a1 (n0 + 1) x0_0 x0_1 x0_2 x0_3 = impl_SamePairs.b0 k (impl_SamePairs.V0 k a0 a1 n0) x0_0 x0_1 x0_2 x0_3 := by kernel_rfl
theorem impl_SamePairs.e0 (k : Nat) (a0 : List (Ty.den TPair)) (a1 : List (Ty.den TPair)) (n0 : Nat) : impl_SamePairs.V0 k a0 a1 n0 = impl_SamePairs.l0 k n0 := by
  induction n0 with
  | zero => rfl
  | succ n0 ih =>
    have h : impl_SamePairs.V0 k a0 a1 (n0 + 1) = impl_SamePairs.b0 k (impl_SamePairs.V0 k a0 a1 n0) := funext fun x0_0 => funext fun x0_1 => funext fun x0_2 => funext fun x0_3 => impl_SamePairs.s0 k a0 a1 n0 x0_0 x0_1 x0_2 x0_3
    rw [h, ih]
    rfl
theorem impl_SamePairs.q (k : Nat) (a0 : List (Ty.den TPair)) (a1 : List (Ty.den TPair)) : run (impl_SamePairs.E k) Try.f75 [.val (.slice TPair), .val (.slice TPair)] [.bool] true false (a0, a1, ()) = impl_SamePairs.t k (impl_SamePairs.V0 k a0 a1 k) a0 a1 := by kernel_rfl
theorem impl_SamePairs.eq (k : Nat) (a0 : List (Ty.den TPair)) (a1 : List (Ty.den TPair)) : run (impl_SamePairs.E k) Try.f75 [.val (.slice TPair), .val (.slice TPair)] [.bool] true false (a0, a1, ()) = impl_SamePairs.f k a0 a1 := by
  rw [impl_SamePairs.q, impl_SamePairs.e0]
  rfl
theorem impl_SamePairs.ctr (k : Nat) : Ctr Try.prog 75 ⟨[.val (.slice TPair), .val (.slice TPair)], [.bool], true, false, fun x => impl_SamePairs.f k x.1 x.2.1⟩ :=
  run_ctr (E := impl_SamePairs.E k) mixed tb_ok (eqOk_of tb_eqs) Cts.nil (by kernel_rfl) Try.func75 (by kernel_rfl) rfl (fun ⟨a0, a1, _⟩ r h => (impl_SamePairs.eq k a0 a1).trans h)
def impl_EndOk.E (k : Nat) : Env := ⟨tb, [(74, ⟨[.val (.slice TPair), .val (.slice TAck)], [(.slice TPair)], true, false, fun x => impl_FoldAcks.f k x.1 x.2.1⟩), (75, ⟨[.val (.slice TPair), .val (.slice TPair)], [.bool], true, false, fun x => impl_SamePairs.f k x.1 x.2.1⟩), (76, ⟨[.val (.slice TPair), .val (.slice TPut), .val (.int .i64)], [(.slice TPair)], true, false, fun x => impl_Fold.f k x.1 x.2.1 x.2.2.1⟩)], [(10, [1, 3, 4, 27, 28, 29]), (15, [1, 3, 39, 40, 41])], k, 0, []⟩
noncomputable def impl_EndOk.K0 (k : Nat) (a0 : Ty.den TEnd) : Ex → St → Option (Bool × Unit) := runK (impl_EndOk.E k) (endK (impl_EndOk.E k) Try.f19.results.toList [.val TEnd] (a0, ()) [.bool] true false) [.blk 0, .code (at_ [true, true, true, true, true, true, true] (body Try.f19))]
noncomputable def impl_EndOk.B0 (k : Nat) (a0 : Ty.den TEnd) (n0 : Nat) : Ex → St → Option (Bool × Unit) := fun e st => match e with
  | .normal => loopN (exec (impl_EndOk.E k) (at_ [true, true, true, true, true, true, false, true, false, false] (body Try.f19))) (canon 0 [1, 3, 4, 27, 28, 29]) (impl_EndOk.K0 k a0) n0 (canon 0 [1, 3, 4, 27, 28, 29] st)
  | .ret => impl_EndOk.K0 k a0 .ret st
  | .exit j => impl_EndOk.K0 k a0 (.exit j) st
noncomputable def impl_EndOk.K1 (k : Nat) (a0 : Ty.den TEnd) : Ex → St → Option (Bool × Unit) := runK (impl_EndOk.E k) (endK (impl_EndOk.E k) Try.f19.results.toList [.val TEnd] (a0, ()) [.bool] true false) [.blk 2, .code (at_ [true, true, true, true, true, true, true, true] (body Try.f19))]
noncomputable def impl_EndOk.B1 (k : Nat) (a0 : Ty.den TEnd) (n1 : Nat) : Ex → St → Option (Bool × Unit) := fun e st => match e with
  | .normal => loopN (exec (impl_EndOk.E k) (at_ [true, true, true, true, true, true, true, false, true, false, false] (body Try.f19))) (canon 0 [1, 3, 39, 40, 41]) (impl_EndOk.K1 k a0) n1 (canon 0 [1, 3, 39, 40, 41] st)
  | .ret => impl_EndOk.K1 k a0 .ret st
  | .exit j => impl_EndOk.K1 k a0 (.exit j) st
noncomputable def impl_EndOk.V0 (k : Nat) (a0 : Ty.den TEnd) (n0 : Nat) (x0_0 : List (Ty.den TPair)) (x0_1 : Int) (x0_2 : Int) (x0_3 : List (Ty.den TPair)) (x0_4 : List (Ty.den TAck)) (x0_5 : List (Ty.den TPut)) (x0_6 : List (Ty.den TPair)) (x0_7 : Int) (x0_8 : List (Ty.den TPair)) (x0_9 : List Int) : Option (Bool × Unit) := loopN (exec (impl_EndOk.E k) (at_ [true, true, true, true, true, true, false, true, false, false] (body Try.f19))) (canon 0 [1, 3, 4, 27, 28, 29]) (impl_EndOk.K0 k a0) n0 (mk 54 3 [(1, .ptr 0 0 0), (3, .ref 1), (4, .ref 2), (27, .sl true TPair x0_0), (28, .int .i64 x0_1), (29, .int .i64 x0_2)] [(0, .box [.sl true TPair x0_3, .sl true TAck x0_4, .sl true TPut x0_5, .sl true TPair x0_6, .int .i64 x0_7]), (1, .own false TPair x0_8), (2, .own false (.int .i64) x0_9)])
noncomputable def impl_EndOk.V1 (k : Nat) (a0 : Ty.den TEnd) (n1 : Nat) (x1_0 : Int) (x1_1 : Int) (x1_2 : List (Ty.den TPair)) (x1_3 : List (Ty.den TAck)) (x1_4 : List (Ty.den TPut)) (x1_5 : List (Ty.den TPair)) (x1_6 : Int) (x1_7 : List (Ty.den TPair)) (x1_8 : List Int) : Option (Bool × Unit) := loopN (exec (impl_EndOk.E k) (at_ [true, true, true, true, true, true, true, false, true, false, false] (body Try.f19))) (canon 0 [1, 3, 39, 40, 41]) (impl_EndOk.K1 k a0) n1 (mk 54 3 [(1, .ptr 0 0 0), (3, .ref 1), (39, .ref 2), (40, .int .i64 x1_0), (41, .int .i64 x1_1)] [(0, .box [.sl true TPair x1_2, .sl true TAck x1_3, .sl true TPut x1_4, .sl true TPair x1_5, .int .i64 x1_6]), (1, .own false TPair x1_7), (2, .own false (.int .i64) x1_8)])
theorem impl_EndOk.s0 (k : Nat) (a0 : Ty.den TEnd) (n0 : Nat) (x0_0 : List (Ty.den TPair)) (x0_1 : Int) (x0_2 : Int) (x0_3 : List (Ty.den TPair)) (x0_4 : List (Ty.den TAck)) (x0_5 : List (Ty.den TPut)) (x0_6 : List (Ty.den TPair)) (x0_7 : Int) (x0_8 : List (Ty.den TPair)) (x0_9 : List Int) : impl_EndOk.V0 k a0 (n0 + 1) x0_0 x0_1 x0_2 x0_3 x0_4 x0_5 x0_6 x0_7 x0_8 x0_9 = impl_EndOk.b0 k (impl_EndOk.V1 k a0 k) (impl_EndOk.V0 k a0 n0) x0_0 x0_1 x0_2 x0_3 x0_4 x0_5 x0_6 x0_7 x0_8 x0_9 := by kernel_rfl
theorem impl_EndOk.s1 (k : Nat) (a0 : Ty.den TEnd) (n1 : Nat) (x1_0 : Int) (x1_1 : Int) (x1_2 : List (Ty.den TPair)) (x1_3 : List (Ty.den TAck)) (x1_4 : List (Ty.den TPut)) (x1_5 : List (Ty.den TPair)) (x1_6 : Int) (x1_7 : List (Ty.den TPair)) (x1_8 : List Int) : impl_EndOk.V1 k a0 (n1 + 1) x1_0 x1_1 x1_2 x1_3 x1_4 x1_5 x1_6 x1_7 x1_8 = impl_EndOk.b1 k (impl_EndOk.V1 k a0 n1) x1_0 x1_1 x1_2 x1_3 x1_4 x1_5 x1_6 x1_7 x1_8 := by kernel_rfl
theorem impl_EndOk.e1 (k : Nat) (a0 : Ty.den TEnd) (n1 : Nat) : impl_EndOk.V1 k a0 n1 = impl_EndOk.l1 k n1 := by
  induction n1 with
  | zero => rfl
  | succ n1 ih =>
    have h : impl_EndOk.V1 k a0 (n1 + 1) = impl_EndOk.b1 k (impl_EndOk.V1 k a0 n1) := funext fun x1_0 => funext fun x1_1 => funext fun x1_2 => funext fun x1_3 => funext fun x1_4 => funext fun x1_5 => funext fun x1_6 => funext fun x1_7 => funext fun x1_8 => impl_EndOk.s1 k a0 n1 x1_0 x1_1 x1_2 x1_3 x1_4 x1_5 x1_6 x1_7 x1_8
    rw [h, ih]
    rfl
theorem impl_EndOk.e0 (k : Nat) (a0 : Ty.den TEnd) (n0 : Nat) : impl_EndOk.V0 k a0 n0 = impl_EndOk.l0 k n0 := by
  induction n0 with
  | zero => rfl
  | succ n0 ih =>
    have h : impl_EndOk.V0 k a0 (n0 + 1) = impl_EndOk.b0 k (impl_EndOk.V1 k a0 k) (impl_EndOk.V0 k a0 n0) := funext fun x0_0 => funext fun x0_1 => funext fun x0_2 => funext fun x0_3 => funext fun x0_4 => funext fun x0_5 => funext fun x0_6 => funext fun x0_7 => funext fun x0_8 => funext fun x0_9 => impl_EndOk.s0 k a0 n0 x0_0 x0_1 x0_2 x0_3 x0_4 x0_5 x0_6 x0_7 x0_8 x0_9
    rw [h, impl_EndOk.e1, ih]
    rfl
theorem impl_EndOk.q (k : Nat) (a0 : Ty.den TEnd) : run (impl_EndOk.E k) Try.f19 [.val TEnd] [.bool] true false (a0, ()) = impl_EndOk.t k (impl_EndOk.V0 k a0 k) a0 := by kernel_rfl
theorem impl_EndOk.eq (k : Nat) (a0 : Ty.den TEnd) : run (impl_EndOk.E k) Try.f19 [.val TEnd] [.bool] true false (a0, ()) = impl_EndOk.f k a0 := by
  rw [impl_EndOk.q, impl_EndOk.e0]
  rfl
theorem impl_EndOk.ctr (k : Nat) : Ctr Try.prog 19 ⟨[.val TEnd], [.bool], true, false, fun x => impl_EndOk.f k x.1⟩ :=
  run_ctr (E := impl_EndOk.E k) mixed tb_ok (eqOk_of tb_eqs) (Cts.cons (impl_FoldAcks.ctr k) (Cts.cons (impl_SamePairs.ctr k) (Cts.cons (impl_Fold.ctr k) Cts.nil))) (by kernel_rfl) Try.func19 (by kernel_rfl) rfl (fun ⟨a0, _⟩ r h => (impl_EndOk.eq k a0).trans h)
def laws_eqAck.E (k : Nat) : Env := ⟨tb, [(35, ⟨[.val (.slice TPut), .val (.slice TPut)], [.bool], true, false, fun x => laws_eqPutS.f k x.1 x.2.1⟩)], [], k, 0, []⟩
theorem laws_eqAck.q (k : Nat) (a0 : Ty.den TAck) (a1 : Ty.den TAck) : run (laws_eqAck.E k) Try.f150 [.val TAck, .val TAck] [.bool] true false (a0, a1, ()) = laws_eqAck.t k a0 a1 := by kernel_rfl
theorem laws_eqAck.eq (k : Nat) (a0 : Ty.den TAck) (a1 : Ty.den TAck) : run (laws_eqAck.E k) Try.f150 [.val TAck, .val TAck] [.bool] true false (a0, a1, ()) = laws_eqAck.f k a0 a1 := by
  rw [laws_eqAck.q]
  rfl
theorem laws_eqAck.ctr (k : Nat) : Ctr Try.prog 150 ⟨[.val TAck, .val TAck], [.bool], true, false, fun x => laws_eqAck.f k x.1 x.2.1⟩ :=
  run_ctr (E := laws_eqAck.E k) mixed tb_ok (eqOk_of tb_eqs) (Cts.cons (laws_eqPutS.ctr k) Cts.nil) (by kernel_rfl) Try.func150 (by kernel_rfl) rfl (fun ⟨a0, a1, _⟩ r h => (laws_eqAck.eq k a0 a1).trans h)
def laws_eqAckS.E (k : Nat) : Env := ⟨tb, [(150, ⟨[.val TAck, .val TAck], [.bool], true, false, fun x => laws_eqAck.f k x.1 x.2.1⟩)], [(4, [0, 1, 5])], k, 0, []⟩
noncomputable def laws_eqAckS.K0 (k : Nat) (a0 : List (Ty.den TAck)) (a1 : List (Ty.den TAck)) : Ex → St → Option (Bool × Unit) := runK (laws_eqAckS.E k) (endK (laws_eqAckS.E k) Try.f77.results.toList [.val (.slice TAck), .val (.slice TAck)] (a0, a1, ()) [.bool] true false) [.blk 0, .code (at_ [true, true, true] (body Try.f77))]
noncomputable def laws_eqAckS.B0 (k : Nat) (a0 : List (Ty.den TAck)) (a1 : List (Ty.den TAck)) (n0 : Nat) : Ex → St → Option (Bool × Unit) := fun e st => match e with
  | .normal => loopN (exec (laws_eqAckS.E k) (at_ [true, true, false, true, false, false] (body Try.f77))) (canon 0 [0, 1, 5]) (laws_eqAckS.K0 k a0 a1) n0 (canon 0 [0, 1, 5] st)
  | .ret => laws_eqAckS.K0 k a0 a1 .ret st
  | .exit j => laws_eqAckS.K0 k a0 a1 (.exit j) st
noncomputable def laws_eqAckS.V0 (k : Nat) (a0 : List (Ty.den TAck)) (a1 : List (Ty.den TAck)) (n0 : Nat) (x0_0 : List (Ty.den TAck)) (x0_1 : List (Ty.den TAck)) (x0_2 : Int) : Option (Bool × Unit) := loopN (exec (laws_eqAckS.E k) (at_ [true, true, false, true, false, false] (body Try.f77))) (canon 0 [0, 1, 5]) (laws_eqAckS.K0 k a0 a1) n0 (mk 27 0 [(0, .sl true TAck x0_0), (1, .sl true TAck x0_1), (5, .int .i64 x0_2)] [])
theorem laws_eqAckS.s0 (k : Nat) (a0 : List (Ty.den TAck)) (a1 : List (Ty.den TAck)) (n0 : Nat) (x0_0 : List (Ty.den TAck)) (x0_1 : List (Ty.den TAck)) (x0_2 : Int) : laws_eqAckS.V0 k a0 a1 (n0 + 1) x0_0 x0_1 x0_2 = laws_eqAckS.b0 k (laws_eqAckS.V0 k a0 a1 n0) x0_0 x0_1 x0_2 := by kernel_rfl
theorem laws_eqAckS.e0 (k : Nat) (a0 : List (Ty.den TAck)) (a1 : List (Ty.den TAck)) (n0 : Nat) : laws_eqAckS.V0 k a0 a1 n0 = laws_eqAckS.l0 k n0 := by
  induction n0 with
  | zero => rfl
  | succ n0 ih =>
    have h : laws_eqAckS.V0 k a0 a1 (n0 + 1) = laws_eqAckS.b0 k (laws_eqAckS.V0 k a0 a1 n0) := funext fun x0_0 => funext fun x0_1 => funext fun x0_2 => laws_eqAckS.s0 k a0 a1 n0 x0_0 x0_1 x0_2
    rw [h, ih]
    rfl
theorem laws_eqAckS.q (k : Nat) (a0 : List (Ty.den TAck)) (a1 : List (Ty.den TAck)) : run (laws_eqAckS.E k) Try.f77 [.val (.slice TAck), .val (.slice TAck)] [.bool] true false (a0, a1, ()) = laws_eqAckS.t k (laws_eqAckS.V0 k a0 a1 k) a0 a1 := by kernel_rfl
theorem laws_eqAckS.eq (k : Nat) (a0 : List (Ty.den TAck)) (a1 : List (Ty.den TAck)) : run (laws_eqAckS.E k) Try.f77 [.val (.slice TAck), .val (.slice TAck)] [.bool] true false (a0, a1, ()) = laws_eqAckS.f k a0 a1 := by
  rw [laws_eqAckS.q, laws_eqAckS.e0]
  rfl
theorem laws_eqAckS.ctr (k : Nat) : Ctr Try.prog 77 ⟨[.val (.slice TAck), .val (.slice TAck)], [.bool], true, false, fun x => laws_eqAckS.f k x.1 x.2.1⟩ :=
  run_ctr (E := laws_eqAckS.E k) mixed tb_ok (eqOk_of tb_eqs) (Cts.cons (laws_eqAck.ctr k) Cts.nil) (by kernel_rfl) Try.func77 (by kernel_rfl) rfl (fun ⟨a0, a1, _⟩ r h => (laws_eqAckS.eq k a0 a1).trans h)
def laws_eqEnd.E (k : Nat) : Env := ⟨tb, [(23, ⟨[.val (.slice TPair), .val (.slice TPair)], [.bool], true, false, fun x => laws_eqPairS.f k x.1 x.2.1⟩), (77, ⟨[.val (.slice TAck), .val (.slice TAck)], [.bool], true, false, fun x => laws_eqAckS.f k x.1 x.2.1⟩), (35, ⟨[.val (.slice TPut), .val (.slice TPut)], [.bool], true, false, fun x => laws_eqPutS.f k x.1 x.2.1⟩)], [], k, 0, []⟩
theorem laws_eqEnd.q (k : Nat) (a0 : Ty.den TEnd) (a1 : Ty.den TEnd) : run (laws_eqEnd.E k) Try.f20 [.val TEnd, .val TEnd] [.bool] true false (a0, a1, ()) = laws_eqEnd.t k a0 a1 := by kernel_rfl
theorem laws_eqEnd.eq (k : Nat) (a0 : Ty.den TEnd) (a1 : Ty.den TEnd) : run (laws_eqEnd.E k) Try.f20 [.val TEnd, .val TEnd] [.bool] true false (a0, a1, ()) = laws_eqEnd.f k a0 a1 := by
  rw [laws_eqEnd.q]
  rfl
theorem laws_eqEnd.ctr (k : Nat) : Ctr Try.prog 20 ⟨[.val TEnd, .val TEnd], [.bool], true, false, fun x => laws_eqEnd.f k x.1 x.2.1⟩ :=
  run_ctr (E := laws_eqEnd.E k) mixed tb_ok (eqOk_of tb_eqs) (Cts.cons (laws_eqPairS.ctr k) (Cts.cons (laws_eqAckS.ctr k) (Cts.cons (laws_eqPutS.ctr k) Cts.nil))) (by kernel_rfl) Try.func20 (by kernel_rfl) rfl (fun ⟨a0, a1, _⟩ r h => (laws_eqEnd.eq k a0 a1).trans h)
def laws_FnExactEndOk.E (k : Nat) : Env := ⟨tb, [(16, ⟨[.val TEnd, .val (.int .i64)], [(.int .i64)], true, false, fun x => laws_szEnd.f k x.1 x.2.1⟩), (18, ⟨[.val TEnd], [TEnd], true, false, fun x => laws_toEnd.f k x.1⟩), (17, ⟨[.val TEnd], [.bool], true, false, fun x => spec_EndOk.f k x.1⟩), (19, ⟨[.val TEnd], [.bool], true, false, fun x => impl_EndOk.f k x.1⟩), (20, ⟨[.val TEnd, .val TEnd], [.bool], true, false, fun x => laws_eqEnd.f k x.1 x.2.1⟩)], [], k, 0, []⟩
theorem laws_FnExactEndOk.q (k : Nat) (a0 : Ty.den TEnd) : run (laws_FnExactEndOk.E k) Try.f4 [.val TEnd] [.bool] true false (a0, ()) = laws_FnExactEndOk.t k a0 := by kernel_rfl
theorem laws_FnExactEndOk.eq (k : Nat) (a0 : Ty.den TEnd) : run (laws_FnExactEndOk.E k) Try.f4 [.val TEnd] [.bool] true false (a0, ()) = laws_FnExactEndOk.f k a0 := by
  rw [laws_FnExactEndOk.q]
  rfl
theorem laws_FnExactEndOk.ctr (k : Nat) : Ctr Try.prog 4 ⟨[.val TEnd], [.bool], true, false, fun x => laws_FnExactEndOk.f k x.1⟩ :=
  run_ctr (E := laws_FnExactEndOk.E k) mixed tb_ok (eqOk_of tb_eqs) (Cts.cons (laws_szEnd.ctr k) (Cts.cons (laws_toEnd.ctr k) (Cts.cons (spec_EndOk.ctr k) (Cts.cons (impl_EndOk.ctr k) (Cts.cons (laws_eqEnd.ctr k) Cts.nil))))) (by kernel_rfl) Try.func4 (by kernel_rfl) rfl (fun ⟨a0, _⟩ r h => (laws_FnExactEndOk.eq k a0).trans h)
end Go.Proofs.Ytiigjojchlplpaa.G

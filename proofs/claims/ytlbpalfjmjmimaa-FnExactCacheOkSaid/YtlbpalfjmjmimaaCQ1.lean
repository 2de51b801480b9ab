/- Functions keep their contracts. -/
import Derived.Test.YtlbpalfjmjmimaaVTab
import Derived.Test.YtlbpalfjmjmimaaFQ1
set_option linter.unusedVariables false
set_option maxRecDepth 100000
namespace Go.Proofs.Ytlbpalfjmjmimaa.G
open Go.V
def laws_szPair.E (k : Nat) : Env := ⟨tb, [], [], k⟩
theorem laws_szPair.q (k : Nat) (a0 : Ty.den TPair) (a1 : Int) : run (laws_szPair.E k) Try.f72 [TPair, (.int .i64)] [(.int .i64)] true (a0, a1, ()) = laws_szPair.t k a0 a1 := by kernel_rfl
theorem laws_szPair.eq (k : Nat) (a0 : Ty.den TPair) (a1 : Int) : run (laws_szPair.E k) Try.f72 [TPair, (.int .i64)] [(.int .i64)] true (a0, a1, ()) = laws_szPair.f k a0 a1 := by
  rw [laws_szPair.q]
  rfl
theorem laws_szPair.ctr (k : Nat) : Ctr Try.prog 72 ⟨[TPair, (.int .i64)], [(.int .i64)], true, fun x => laws_szPair.f k x.1 x.2.1⟩ :=
  run_ctr (E := laws_szPair.E k) mixed tb_ok (eqOk_of tb_eqs) Cts.nil Try.func72 (by kernel_rfl) rfl (fun ⟨a0, a1, _⟩ r h => (laws_szPair.eq k a0 a1).trans h)
def laws_szPairS.E (k : Nat) : Env := ⟨tb, [(72, ⟨[TPair, (.int .i64)], [(.int .i64)], true, fun x => laws_szPair.f k x.1 x.2.1⟩)], [(5, [0, 1, 5])], k⟩
noncomputable def laws_szPairS.K0 (k : Nat) : Ex → St → Option (Int × Unit) := runK (laws_szPairS.E k) (endK (laws_szPairS.E k) Try.f15.results.toList [(.int .i64)] true) [.blk 0, .code (at_ [true, true, true, true] (body Try.f15))]
noncomputable def laws_szPairS.B0 (k : Nat) (n0 : Nat) : Ex → St → Option (Int × Unit) := fun e st => match e with
  | .normal => loopN (exec (laws_szPairS.E k) (at_ [true, true, true, false, true, false, false] (body Try.f15))) (canon [0, 1, 5]) (laws_szPairS.K0 k) n0 (canon [0, 1, 5] st)
  | .ret => laws_szPairS.K0 k .ret st
  | .exit j => laws_szPairS.K0 k (.exit j) st
noncomputable def laws_szPairS.V0 (k : Nat) (n0 : Nat) (x0_0 : List (Ty.den TPair)) (x0_1 : Int) (x0_2 : Int) : Option (Int × Unit) := loopN (exec (laws_szPairS.E k) (at_ [true, true, true, false, true, false, false] (body Try.f15))) (canon [0, 1, 5]) (laws_szPairS.K0 k) n0 (mk 27 [(0, .sl true TPair x0_0), (1, .int .i64 x0_1), (5, .int .i64 x0_2)] [])
theorem laws_szPairS.s0 (k : Nat) (n0 : Nat) (x0_0 : List (Ty.den TPair)) (x0_1 : Int) (x0_2 : Int) : laws_szPairS.V0 k (n0 + 1) x0_0 x0_1 x0_2 = laws_szPairS.b0 k (laws_szPairS.V0 k n0) x0_0 x0_1 x0_2 := by kernel_rfl
theorem laws_szPairS.e0 (k : Nat) (n0 : Nat) : laws_szPairS.V0 k n0 = laws_szPairS.l0 k n0 := by
  induction n0 with
  | zero => rfl
  | succ n0 ih =>
    have h : laws_szPairS.V0 k (n0 + 1) = laws_szPairS.b0 k (laws_szPairS.V0 k n0) := funext fun x0_0 => funext fun x0_1 => funext fun x0_2 => laws_szPairS.s0 k n0 x0_0 x0_1 x0_2
    rw [h, ih]
    rfl
theorem laws_szPairS.q (k : Nat) (a0 : List (Ty.den TPair)) (a1 : Int) : run (laws_szPairS.E k) Try.f15 [(.slice TPair), (.int .i64)] [(.int .i64)] true (a0, a1, ()) = laws_szPairS.t k (laws_szPairS.V0 k k) a0 a1 := by kernel_rfl
theorem laws_szPairS.eq (k : Nat) (a0 : List (Ty.den TPair)) (a1 : Int) : run (laws_szPairS.E k) Try.f15 [(.slice TPair), (.int .i64)] [(.int .i64)] true (a0, a1, ()) = laws_szPairS.f k a0 a1 := by
  rw [laws_szPairS.q, laws_szPairS.e0]
  rfl
theorem laws_szPairS.ctr (k : Nat) : Ctr Try.prog 15 ⟨[(.slice TPair), (.int .i64)], [(.int .i64)], true, fun x => laws_szPairS.f k x.1 x.2.1⟩ :=
  run_ctr (E := laws_szPairS.E k) mixed tb_ok (eqOk_of tb_eqs) (Cts.cons (laws_szPair.ctr k) Cts.nil) Try.func15 (by kernel_rfl) rfl (fun ⟨a0, a1, _⟩ r h => (laws_szPairS.eq k a0 a1).trans h)
def laws_toPair.E (k : Nat) : Env := ⟨tb, [], [], k⟩
theorem laws_toPair.q (k : Nat) (a0 : Ty.den TPair) : run (laws_toPair.E k) Try.f75 [TPair] [TPair] true (a0, ()) = laws_toPair.t k a0 := by kernel_rfl
theorem laws_toPair.eq (k : Nat) (a0 : Ty.den TPair) : run (laws_toPair.E k) Try.f75 [TPair] [TPair] true (a0, ()) = laws_toPair.f k a0 := by
  rw [laws_toPair.q]
  rfl
theorem laws_toPair.ctr (k : Nat) : Ctr Try.prog 75 ⟨[TPair], [TPair], true, fun x => laws_toPair.f k x.1⟩ :=
  run_ctr (E := laws_toPair.E k) mixed tb_ok (eqOk_of tb_eqs) Cts.nil Try.func75 (by kernel_rfl) rfl (fun ⟨a0, _⟩ r h => (laws_toPair.eq k a0).trans h)
def laws_toPairS.E (k : Nat) : Env := ⟨tb, [(75, ⟨[TPair], [TPair], true, fun x => laws_toPair.f k x.1⟩)], [(3, [0, 3, 4])], k⟩
noncomputable def laws_toPairS.K0 (k : Nat) : Ex → St → Option ((List (Ty.den TPair)) × Unit) := runK (laws_toPairS.E k) (endK (laws_toPairS.E k) Try.f17.results.toList [(.slice TPair)] true) [.blk 0, .code (at_ [true, true, true] (body Try.f17))]
noncomputable def laws_toPairS.B0 (k : Nat) (n0 : Nat) : Ex → St → Option ((List (Ty.den TPair)) × Unit) := fun e st => match e with
  | .normal => loopN (exec (laws_toPairS.E k) (at_ [true, true, false, true, false, false] (body Try.f17))) (canon [0, 3, 4]) (laws_toPairS.K0 k) n0 (canon [0, 3, 4] st)
  | .ret => laws_toPairS.K0 k .ret st
  | .exit j => laws_toPairS.K0 k (.exit j) st
noncomputable def laws_toPairS.V0 (k : Nat) (n0 : Nat) (x0_0 : List (Ty.den TPair)) (x0_1 : Int) (x0_2 : List (Ty.den TPair)) : Option ((List (Ty.den TPair)) × Unit) := loopN (exec (laws_toPairS.E k) (at_ [true, true, false, true, false, false] (body Try.f17))) (canon [0, 3, 4]) (laws_toPairS.K0 k) n0 (mk 23 [(0, .sl true TPair x0_0), (3, .ref 0), (4, .int .i64 x0_1)] [(0, .own false TPair x0_2)])
theorem laws_toPairS.s0 (k : Nat) (n0 : Nat) (x0_0 : List (Ty.den TPair)) (x0_1 : Int) (x0_2 : List (Ty.den TPair)) : laws_toPairS.V0 k (n0 + 1) x0_0 x0_1 x0_2 = laws_toPairS.b0 k (laws_toPairS.V0 k n0) x0_0 x0_1 x0_2 := by kernel_rfl
theorem laws_toPairS.e0 (k : Nat) (n0 : Nat) : laws_toPairS.V0 k n0 = laws_toPairS.l0 k n0 := by
  induction n0 with
  | zero => rfl
  | succ n0 ih =>
    have h : laws_toPairS.V0 k (n0 + 1) = laws_toPairS.b0 k (laws_toPairS.V0 k n0) := funext fun x0_0 => funext fun x0_1 => funext fun x0_2 => laws_toPairS.s0 k n0 x0_0 x0_1 x0_2
    rw [h, ih]
    rfl
theorem laws_toPairS.q (k : Nat) (a0 : List (Ty.den TPair)) : run (laws_toPairS.E k) Try.f17 [(.slice TPair)] [(.slice TPair)] true (a0, ()) = laws_toPairS.t k (laws_toPairS.V0 k k) a0 := by kernel_rfl
theorem laws_toPairS.eq (k : Nat) (a0 : List (Ty.den TPair)) : run (laws_toPairS.E k) Try.f17 [(.slice TPair)] [(.slice TPair)] true (a0, ()) = laws_toPairS.f k a0 := by
  rw [laws_toPairS.q, laws_toPairS.e0]
  rfl
theorem laws_toPairS.ctr (k : Nat) : Ctr Try.prog 17 ⟨[(.slice TPair)], [(.slice TPair)], true, fun x => laws_toPairS.f k x.1⟩ :=
  run_ctr (E := laws_toPairS.E k) mixed tb_ok (eqOk_of tb_eqs) (Cts.cons (laws_toPair.ctr k) Cts.nil) Try.func17 (by kernel_rfl) rfl (fun ⟨a0, _⟩ r h => (laws_toPairS.eq k a0).trans h)
def spec_l1In.E (k : Nat) : Env := ⟨tb, [], [], k⟩
theorem spec_l1In.q (k : Nat) (a0 : Int) (a1 : Int) (a2 : Int) : run (spec_l1In.E k) Try.f74 [(.int .i64), (.int .i64), (.int .i64)] [.bool] true (a0, a1, a2, ()) = spec_l1In.t k a0 a1 a2 := by kernel_rfl
theorem spec_l1In.eq (k : Nat) (a0 : Int) (a1 : Int) (a2 : Int) : run (spec_l1In.E k) Try.f74 [(.int .i64), (.int .i64), (.int .i64)] [.bool] true (a0, a1, a2, ()) = spec_l1In.f k a0 a1 a2 := by
  rw [spec_l1In.q]
  rfl
theorem spec_l1In.ctr (k : Nat) : Ctr Try.prog 74 ⟨[(.int .i64), (.int .i64), (.int .i64)], [.bool], true, fun x => spec_l1In.f k x.1 x.2.1 x.2.2.1⟩ :=
  run_ctr (E := spec_l1In.E k) mixed tb_ok (eqOk_of tb_eqs) Cts.nil Try.func74 (by kernel_rfl) rfl (fun ⟨a0, a1, a2, _⟩ r h => (spec_l1In.eq k a0 a1 a2).trans h)
def spec_KeyOk.E (k : Nat) : Env := ⟨tb, [(74, ⟨[(.int .i64), (.int .i64), (.int .i64)], [.bool], true, fun x => spec_l1In.f k x.1 x.2.1 x.2.2.1⟩)], [], k⟩
theorem spec_KeyOk.q (k : Nat) (a0 : ByteArray) : run (spec_KeyOk.E k) Try.f73 [.str] [.bool] true (a0, ()) = spec_KeyOk.t k a0 := by kernel_rfl
theorem spec_KeyOk.eq (k : Nat) (a0 : ByteArray) : run (spec_KeyOk.E k) Try.f73 [.str] [.bool] true (a0, ()) = spec_KeyOk.f k a0 := by
  rw [spec_KeyOk.q]
  rfl
theorem spec_KeyOk.ctr (k : Nat) : Ctr Try.prog 73 ⟨[.str], [.bool], true, fun x => spec_KeyOk.f k x.1⟩ :=
  run_ctr (E := spec_KeyOk.E k) mixed tb_ok (eqOk_of tb_eqs) (Cts.cons (spec_l1In.ctr k) Cts.nil) Try.func73 (by kernel_rfl) rfl (fun ⟨a0, _⟩ r h => (spec_KeyOk.eq k a0).trans h)
def spec_PairsOk.E (k : Nat) : Env := ⟨tb, [(73, ⟨[.str], [.bool], true, fun x => spec_KeyOk.f k x.1⟩), (74, ⟨[(.int .i64), (.int .i64), (.int .i64)], [.bool], true, fun x => spec_l1In.f k x.1 x.2.1 x.2.2.1⟩)], [(4, [0, 3])], k⟩
noncomputable def spec_PairsOk.K0 (k : Nat) : Ex → St → Option (Bool × Unit) := runK (spec_PairsOk.E k) (endK (spec_PairsOk.E k) Try.f16.results.toList [.bool] true) [.blk 0, .code (at_ [true, true, true] (body Try.f16))]
noncomputable def spec_PairsOk.B0 (k : Nat) (n0 : Nat) : Ex → St → Option (Bool × Unit) := fun e st => match e with
  | .normal => loopN (exec (spec_PairsOk.E k) (at_ [true, true, false, true, false, false] (body Try.f16))) (canon [0, 3]) (spec_PairsOk.K0 k) n0 (canon [0, 3] st)
  | .ret => spec_PairsOk.K0 k .ret st
  | .exit j => spec_PairsOk.K0 k (.exit j) st
noncomputable def spec_PairsOk.V0 (k : Nat) (n0 : Nat) (x0_0 : List (Ty.den TPair)) (x0_1 : Int) : Option (Bool × Unit) := loopN (exec (spec_PairsOk.E k) (at_ [true, true, false, true, false, false] (body Try.f16))) (canon [0, 3]) (spec_PairsOk.K0 k) n0 (mk 56 [(0, .sl true TPair x0_0), (3, .int .i64 x0_1)] [])
theorem spec_PairsOk.s0 (k : Nat) (n0 : Nat) (x0_0 : List (Ty.den TPair)) (x0_1 : Int) : spec_PairsOk.V0 k (n0 + 1) x0_0 x0_1 = spec_PairsOk.b0 k (spec_PairsOk.V0 k n0) x0_0 x0_1 := by kernel_rfl
theorem spec_PairsOk.e0 (k : Nat) (n0 : Nat) : spec_PairsOk.V0 k n0 = spec_PairsOk.l0 k n0 := by
  induction n0 with
  | zero => rfl
  | succ n0 ih =>
    have h : spec_PairsOk.V0 k (n0 + 1) = spec_PairsOk.b0 k (spec_PairsOk.V0 k n0) := funext fun x0_0 => funext fun x0_1 => spec_PairsOk.s0 k n0 x0_0 x0_1
    rw [h, ih]
    rfl
theorem spec_PairsOk.q (k : Nat) (a0 : List (Ty.den TPair)) : run (spec_PairsOk.E k) Try.f16 [(.slice TPair)] [.bool] true (a0, ()) = spec_PairsOk.t k (spec_PairsOk.V0 k k) a0 := by kernel_rfl
theorem spec_PairsOk.eq (k : Nat) (a0 : List (Ty.den TPair)) : run (spec_PairsOk.E k) Try.f16 [(.slice TPair)] [.bool] true (a0, ()) = spec_PairsOk.f k a0 := by
  rw [spec_PairsOk.q, spec_PairsOk.e0]
  rfl
theorem spec_PairsOk.ctr (k : Nat) : Ctr Try.prog 16 ⟨[(.slice TPair)], [.bool], true, fun x => spec_PairsOk.f k x.1⟩ :=
  run_ctr (E := spec_PairsOk.E k) mixed tb_ok (eqOk_of tb_eqs) (Cts.cons (spec_KeyOk.ctr k) (Cts.cons (spec_l1In.ctr k) Cts.nil)) Try.func16 (by kernel_rfl) rfl (fun ⟨a0, _⟩ r h => (spec_PairsOk.eq k a0).trans h)
def impl_in.E (k : Nat) : Env := ⟨tb, [], [], k⟩
theorem impl_in.q (k : Nat) (a0 : Int) (a1 : Int) (a2 : Int) : run (impl_in.E k) Try.f77 [(.int .i64), (.int .i64), (.int .i64)] [.bool] true (a0, a1, a2, ()) = impl_in.t k a0 a1 a2 := by kernel_rfl
theorem impl_in.eq (k : Nat) (a0 : Int) (a1 : Int) (a2 : Int) : run (impl_in.E k) Try.f77 [(.int .i64), (.int .i64), (.int .i64)] [.bool] true (a0, a1, a2, ()) = impl_in.f k a0 a1 a2 := by
  rw [impl_in.q]
  rfl
theorem impl_in.ctr (k : Nat) : Ctr Try.prog 77 ⟨[(.int .i64), (.int .i64), (.int .i64)], [.bool], true, fun x => impl_in.f k x.1 x.2.1 x.2.2.1⟩ :=
  run_ctr (E := impl_in.E k) mixed tb_ok (eqOk_of tb_eqs) Cts.nil Try.func77 (by kernel_rfl) rfl (fun ⟨a0, a1, a2, _⟩ r h => (impl_in.eq k a0 a1 a2).trans h)
def impl_KeyOk.E (k : Nat) : Env := ⟨tb, [(77, ⟨[(.int .i64), (.int .i64), (.int .i64)], [.bool], true, fun x => impl_in.f k x.1 x.2.1 x.2.2.1⟩)], [], k⟩
theorem impl_KeyOk.q (k : Nat) (a0 : ByteArray) : run (impl_KeyOk.E k) Try.f76 [.str] [.bool] true (a0, ()) = impl_KeyOk.t k a0 := by kernel_rfl
theorem impl_KeyOk.eq (k : Nat) (a0 : ByteArray) : run (impl_KeyOk.E k) Try.f76 [.str] [.bool] true (a0, ()) = impl_KeyOk.f k a0 := by
  rw [impl_KeyOk.q]
  rfl
theorem impl_KeyOk.ctr (k : Nat) : Ctr Try.prog 76 ⟨[.str], [.bool], true, fun x => impl_KeyOk.f k x.1⟩ :=
  run_ctr (E := impl_KeyOk.E k) mixed tb_ok (eqOk_of tb_eqs) (Cts.cons (impl_in.ctr k) Cts.nil) Try.func76 (by kernel_rfl) rfl (fun ⟨a0, _⟩ r h => (impl_KeyOk.eq k a0).trans h)
def impl_PairsOk.E (k : Nat) : Env := ⟨tb, [(76, ⟨[.str], [.bool], true, fun x => impl_KeyOk.f k x.1⟩), (77, ⟨[(.int .i64), (.int .i64), (.int .i64)], [.bool], true, fun x => impl_in.f k x.1 x.2.1 x.2.2.1⟩)], [(2, [0, 5, 6, 7])], k⟩
noncomputable def impl_PairsOk.K0 (k : Nat) : Ex → St → Option (Bool × Unit) := runK (impl_PairsOk.E k) (endK (impl_PairsOk.E k) Try.f18.results.toList [.bool] true) [.blk 0, .code (at_ [true, true] (body Try.f18))]
noncomputable def impl_PairsOk.B0 (k : Nat) (n0 : Nat) : Ex → St → Option (Bool × Unit) := fun e st => match e with
  | .normal => loopN (exec (impl_PairsOk.E k) (at_ [true, false, true, false, false] (body Try.f18))) (canon [0, 5, 6, 7]) (impl_PairsOk.K0 k) n0 (canon [0, 5, 6, 7] st)
  | .ret => impl_PairsOk.K0 k .ret st
  | .exit j => impl_PairsOk.K0 k (.exit j) st
noncomputable def impl_PairsOk.V0 (k : Nat) (n0 : Nat) (x0_0 : List (Ty.den TPair)) (x0_1 : List (Ty.den TPair)) (x0_2 : Int) (x0_3 : Int) : Option (Bool × Unit) := loopN (exec (impl_PairsOk.E k) (at_ [true, false, true, false, false] (body Try.f18))) (canon [0, 5, 6, 7]) (impl_PairsOk.K0 k) n0 (mk 47 [(0, .sl true TPair x0_0), (5, .sl true TPair x0_1), (6, .int .i64 x0_2), (7, .int .i64 x0_3)] [])
theorem impl_PairsOk.s0 (k : Nat) (n0 : Nat) (x0_0 : List (Ty.den TPair)) (x0_1 : List (Ty.den TPair)) (x0_2 : Int) (x0_3 : Int) : impl_PairsOk.V0 k (n0 + 1) x0_0 x0_1 x0_2 x0_3 = impl_PairsOk.b0 k (impl_PairsOk.V0 k n0) x0_0 x0_1 x0_2 x0_3 := by kernel_rfl
theorem impl_PairsOk.e0 (k : Nat) (n0 : Nat) : impl_PairsOk.V0 k n0 = impl_PairsOk.l0 k n0 := by
  induction n0 with
  | zero => rfl
  | succ n0 ih =>
    have h : impl_PairsOk.V0 k (n0 + 1) = impl_PairsOk.b0 k (impl_PairsOk.V0 k n0) := funext fun x0_0 => funext fun x0_1 => funext fun x0_2 => funext fun x0_3 => impl_PairsOk.s0 k n0 x0_0 x0_1 x0_2 x0_3
    rw [h, ih]
    rfl
theorem impl_PairsOk.q (k : Nat) (a0 : List (Ty.den TPair)) : run (impl_PairsOk.E k) Try.f18 [(.slice TPair)] [.bool] true (a0, ()) = impl_PairsOk.t k (impl_PairsOk.V0 k k) a0 := by kernel_rfl
theorem impl_PairsOk.eq (k : Nat) (a0 : List (Ty.den TPair)) : run (impl_PairsOk.E k) Try.f18 [(.slice TPair)] [.bool] true (a0, ()) = impl_PairsOk.f k a0 := by
  rw [impl_PairsOk.q, impl_PairsOk.e0]
  rfl
theorem impl_PairsOk.ctr (k : Nat) : Ctr Try.prog 18 ⟨[(.slice TPair)], [.bool], true, fun x => impl_PairsOk.f k x.1⟩ :=
  run_ctr (E := impl_PairsOk.E k) mixed tb_ok (eqOk_of tb_eqs) (Cts.cons (impl_KeyOk.ctr k) (Cts.cons (impl_in.ctr k) Cts.nil)) Try.func18 (by kernel_rfl) rfl (fun ⟨a0, _⟩ r h => (impl_PairsOk.eq k a0).trans h)
def laws_eqPair.E (k : Nat) : Env := ⟨tb, [], [], k⟩
theorem laws_eqPair.q (k : Nat) (a0 : Ty.den TPair) (a1 : Ty.den TPair) : run (laws_eqPair.E k) Try.f78 [TPair, TPair] [.bool] true (a0, a1, ()) = laws_eqPair.t k a0 a1 := by kernel_rfl
theorem laws_eqPair.eq (k : Nat) (a0 : Ty.den TPair) (a1 : Ty.den TPair) : run (laws_eqPair.E k) Try.f78 [TPair, TPair] [.bool] true (a0, a1, ()) = laws_eqPair.f k a0 a1 := by
  rw [laws_eqPair.q]
  rfl
theorem laws_eqPair.ctr (k : Nat) : Ctr Try.prog 78 ⟨[TPair, TPair], [.bool], true, fun x => laws_eqPair.f k x.1 x.2.1⟩ :=
  run_ctr (E := laws_eqPair.E k) mixed tb_ok (eqOk_of tb_eqs) Cts.nil Try.func78 (by kernel_rfl) rfl (fun ⟨a0, a1, _⟩ r h => (laws_eqPair.eq k a0 a1).trans h)
def laws_eqPairS.E (k : Nat) : Env := ⟨tb, [(78, ⟨[TPair, TPair], [.bool], true, fun x => laws_eqPair.f k x.1 x.2.1⟩)], [(4, [0, 1, 5])], k⟩
noncomputable def laws_eqPairS.K0 (k : Nat) : Ex → St → Option (Bool × Unit) := runK (laws_eqPairS.E k) (endK (laws_eqPairS.E k) Try.f19.results.toList [.bool] true) [.blk 0, .code (at_ [true, true, true] (body Try.f19))]
noncomputable def laws_eqPairS.B0 (k : Nat) (n0 : Nat) : Ex → St → Option (Bool × Unit) := fun e st => match e with
  | .normal => loopN (exec (laws_eqPairS.E k) (at_ [true, true, false, true, false, false] (body Try.f19))) (canon [0, 1, 5]) (laws_eqPairS.K0 k) n0 (canon [0, 1, 5] st)
  | .ret => laws_eqPairS.K0 k .ret st
  | .exit j => laws_eqPairS.K0 k (.exit j) st
noncomputable def laws_eqPairS.V0 (k : Nat) (n0 : Nat) (x0_0 : List (Ty.den TPair)) (x0_1 : List (Ty.den TPair)) (x0_2 : Int) : Option (Bool × Unit) := loopN (exec (laws_eqPairS.E k) (at_ [true, true, false, true, false, false] (body Try.f19))) (canon [0, 1, 5]) (laws_eqPairS.K0 k) n0 (mk 27 [(0, .sl true TPair x0_0), (1, .sl true TPair x0_1), (5, .int .i64 x0_2)] [])
theorem laws_eqPairS.s0 (k : Nat) (n0 : Nat) (x0_0 : List (Ty.den TPair)) (x0_1 : List (Ty.den TPair)) (x0_2 : Int) : laws_eqPairS.V0 k (n0 + 1) x0_0 x0_1 x0_2 = laws_eqPairS.b0 k (laws_eqPairS.V0 k n0) x0_0 x0_1 x0_2 := by kernel_rfl
theorem laws_eqPairS.e0 (k : Nat) (n0 : Nat) : laws_eqPairS.V0 k n0 = laws_eqPairS.l0 k n0 := by
  induction n0 with
  | zero => rfl
  | succ n0 ih =>
    have h : laws_eqPairS.V0 k (n0 + 1) = laws_eqPairS.b0 k (laws_eqPairS.V0 k n0) := funext fun x0_0 => funext fun x0_1 => funext fun x0_2 => laws_eqPairS.s0 k n0 x0_0 x0_1 x0_2
    rw [h, ih]
    rfl
theorem laws_eqPairS.q (k : Nat) (a0 : List (Ty.den TPair)) (a1 : List (Ty.den TPair)) : run (laws_eqPairS.E k) Try.f19 [(.slice TPair), (.slice TPair)] [.bool] true (a0, a1, ()) = laws_eqPairS.t k (laws_eqPairS.V0 k k) a0 a1 := by kernel_rfl
theorem laws_eqPairS.eq (k : Nat) (a0 : List (Ty.den TPair)) (a1 : List (Ty.den TPair)) : run (laws_eqPairS.E k) Try.f19 [(.slice TPair), (.slice TPair)] [.bool] true (a0, a1, ()) = laws_eqPairS.f k a0 a1 := by
  rw [laws_eqPairS.q, laws_eqPairS.e0]
  rfl
theorem laws_eqPairS.ctr (k : Nat) : Ctr Try.prog 19 ⟨[(.slice TPair), (.slice TPair)], [.bool], true, fun x => laws_eqPairS.f k x.1 x.2.1⟩ :=
  run_ctr (E := laws_eqPairS.E k) mixed tb_ok (eqOk_of tb_eqs) (Cts.cons (laws_eqPair.ctr k) Cts.nil) Try.func19 (by kernel_rfl) rfl (fun ⟨a0, a1, _⟩ r h => (laws_eqPairS.eq k a0 a1).trans h)
def laws_FnExactPairsOk.E (k : Nat) : Env := ⟨tb, [(15, ⟨[(.slice TPair), (.int .i64)], [(.int .i64)], true, fun x => laws_szPairS.f k x.1 x.2.1⟩), (17, ⟨[(.slice TPair)], [(.slice TPair)], true, fun x => laws_toPairS.f k x.1⟩), (16, ⟨[(.slice TPair)], [.bool], true, fun x => spec_PairsOk.f k x.1⟩), (18, ⟨[(.slice TPair)], [.bool], true, fun x => impl_PairsOk.f k x.1⟩), (19, ⟨[(.slice TPair), (.slice TPair)], [.bool], true, fun x => laws_eqPairS.f k x.1 x.2.1⟩)], [], k⟩
theorem laws_FnExactPairsOk.q (k : Nat) (a0 : List (Ty.den TPair)) : run (laws_FnExactPairsOk.E k) Try.f3 [(.slice TPair)] [.bool] true (a0, ()) = laws_FnExactPairsOk.t k a0 := by kernel_rfl
theorem laws_FnExactPairsOk.eq (k : Nat) (a0 : List (Ty.den TPair)) : run (laws_FnExactPairsOk.E k) Try.f3 [(.slice TPair)] [.bool] true (a0, ()) = laws_FnExactPairsOk.f k a0 := by
  rw [laws_FnExactPairsOk.q]
  rfl
theorem laws_FnExactPairsOk.ctr (k : Nat) : Ctr Try.prog 3 ⟨[(.slice TPair)], [.bool], true, fun x => laws_FnExactPairsOk.f k x.1⟩ :=
  run_ctr (E := laws_FnExactPairsOk.E k) mixed tb_ok (eqOk_of tb_eqs) (Cts.cons (laws_szPairS.ctr k) (Cts.cons (laws_toPairS.ctr k) (Cts.cons (spec_PairsOk.ctr k) (Cts.cons (impl_PairsOk.ctr k) (Cts.cons (laws_eqPairS.ctr k) Cts.nil))))) Try.func3 (by kernel_rfl) rfl (fun ⟨a0, _⟩ r h => (laws_FnExactPairsOk.eq k a0).trans h)
def laws_szBit.E (k : Nat) : Env := ⟨tb, [], [], k⟩
theorem laws_szBit.q (k : Nat) (a0 : Ty.den TBit) (a1 : Int) : run (laws_szBit.E k) Try.f115 [TBit, (.int .i64)] [(.int .i64)] true (a0, a1, ()) = laws_szBit.t k a0 a1 := by kernel_rfl
theorem laws_szBit.eq (k : Nat) (a0 : Ty.den TBit) (a1 : Int) : run (laws_szBit.E k) Try.f115 [TBit, (.int .i64)] [(.int .i64)] true (a0, a1, ()) = laws_szBit.f k a0 a1 := by
  rw [laws_szBit.q]
  rfl
theorem laws_szBit.ctr (k : Nat) : Ctr Try.prog 115 ⟨[TBit, (.int .i64)], [(.int .i64)], true, fun x => laws_szBit.f k x.1 x.2.1⟩ :=
  run_ctr (E := laws_szBit.E k) mixed tb_ok (eqOk_of tb_eqs) Cts.nil Try.func115 (by kernel_rfl) rfl (fun ⟨a0, a1, _⟩ r h => (laws_szBit.eq k a0 a1).trans h)
def laws_szBitS.E (k : Nat) : Env := ⟨tb, [(115, ⟨[TBit, (.int .i64)], [(.int .i64)], true, fun x => laws_szBit.f k x.1 x.2.1⟩)], [(5, [0, 1, 5])], k⟩
noncomputable def laws_szBitS.K0 (k : Nat) : Ex → St → Option (Int × Unit) := runK (laws_szBitS.E k) (endK (laws_szBitS.E k) Try.f79.results.toList [(.int .i64)] true) [.blk 0, .code (at_ [true, true, true, true] (body Try.f79))]
noncomputable def laws_szBitS.B0 (k : Nat) (n0 : Nat) : Ex → St → Option (Int × Unit) := fun e st => match e with
  | .normal => loopN (exec (laws_szBitS.E k) (at_ [true, true, true, false, true, false, false] (body Try.f79))) (canon [0, 1, 5]) (laws_szBitS.K0 k) n0 (canon [0, 1, 5] st)
  | .ret => laws_szBitS.K0 k .ret st
  | .exit j => laws_szBitS.K0 k (.exit j) st
noncomputable def laws_szBitS.V0 (k : Nat) (n0 : Nat) (x0_0 : List (Ty.den TBit)) (x0_1 : Int) (x0_2 : Int) : Option (Int × Unit) := loopN (exec (laws_szBitS.E k) (at_ [true, true, true, false, true, false, false] (body Try.f79))) (canon [0, 1, 5]) (laws_szBitS.K0 k) n0 (mk 27 [(0, .sl true TBit x0_0), (1, .int .i64 x0_1), (5, .int .i64 x0_2)] [])
theorem laws_szBitS.s0 (k : Nat) (n0 : Nat) (x0_0 : List (Ty.den TBit)) (x0_1 : Int) (x0_2 : Int) : laws_szBitS.V0 k (n0 + 1) x0_0 x0_1 x0_2 = laws_szBitS.b0 k (laws_szBitS.V0 k n0) x0_0 x0_1 x0_2 := by kernel_rfl
theorem laws_szBitS.e0 (k : Nat) (n0 : Nat) : laws_szBitS.V0 k n0 = laws_szBitS.l0 k n0 := by
  induction n0 with
  | zero => rfl
  | succ n0 ih =>
    have h : laws_szBitS.V0 k (n0 + 1) = laws_szBitS.b0 k (laws_szBitS.V0 k n0) := funext fun x0_0 => funext fun x0_1 => funext fun x0_2 => laws_szBitS.s0 k n0 x0_0 x0_1 x0_2
    rw [h, ih]
    rfl
theorem laws_szBitS.q (k : Nat) (a0 : List (Ty.den TBit)) (a1 : Int) : run (laws_szBitS.E k) Try.f79 [(.slice TBit), (.int .i64)] [(.int .i64)] true (a0, a1, ()) = laws_szBitS.t k (laws_szBitS.V0 k k) a0 a1 := by kernel_rfl
theorem laws_szBitS.eq (k : Nat) (a0 : List (Ty.den TBit)) (a1 : Int) : run (laws_szBitS.E k) Try.f79 [(.slice TBit), (.int .i64)] [(.int .i64)] true (a0, a1, ()) = laws_szBitS.f k a0 a1 := by
  rw [laws_szBitS.q, laws_szBitS.e0]
  rfl
theorem laws_szBitS.ctr (k : Nat) : Ctr Try.prog 79 ⟨[(.slice TBit), (.int .i64)], [(.int .i64)], true, fun x => laws_szBitS.f k x.1 x.2.1⟩ :=
  run_ctr (E := laws_szBitS.E k) mixed tb_ok (eqOk_of tb_eqs) (Cts.cons (laws_szBit.ctr k) Cts.nil) Try.func79 (by kernel_rfl) rfl (fun ⟨a0, a1, _⟩ r h => (laws_szBitS.eq k a0 a1).trans h)
def laws_szParcel.E (k : Nat) : Env := ⟨tb, [(79, ⟨[(.slice TBit), (.int .i64)], [(.int .i64)], true, fun x => laws_szBitS.f k x.1 x.2.1⟩)], [], k⟩
theorem laws_szParcel.q (k : Nat) (a0 : Ty.den TParcel) (a1 : Int) : run (laws_szParcel.E k) Try.f20 [TParcel, (.int .i64)] [(.int .i64)] true (a0, a1, ()) = laws_szParcel.t k a0 a1 := by kernel_rfl
theorem laws_szParcel.eq (k : Nat) (a0 : Ty.den TParcel) (a1 : Int) : run (laws_szParcel.E k) Try.f20 [TParcel, (.int .i64)] [(.int .i64)] true (a0, a1, ()) = laws_szParcel.f k a0 a1 := by
  rw [laws_szParcel.q]
  rfl
theorem laws_szParcel.ctr (k : Nat) : Ctr Try.prog 20 ⟨[TParcel, (.int .i64)], [(.int .i64)], true, fun x => laws_szParcel.f k x.1 x.2.1⟩ :=
  run_ctr (E := laws_szParcel.E k) mixed tb_ok (eqOk_of tb_eqs) (Cts.cons (laws_szBitS.ctr k) Cts.nil) Try.func20 (by kernel_rfl) rfl (fun ⟨a0, a1, _⟩ r h => (laws_szParcel.eq k a0 a1).trans h)
def laws_toBit.E (k : Nat) : Env := ⟨tb, [], [], k⟩
theorem laws_toBit.q (k : Nat) (a0 : Ty.den TBit) : run (laws_toBit.E k) Try.f116 [TBit] [TBit] true (a0, ()) = laws_toBit.t k a0 := by kernel_rfl
theorem laws_toBit.eq (k : Nat) (a0 : Ty.den TBit) : run (laws_toBit.E k) Try.f116 [TBit] [TBit] true (a0, ()) = laws_toBit.f k a0 := by
  rw [laws_toBit.q]
  rfl
theorem laws_toBit.ctr (k : Nat) : Ctr Try.prog 116 ⟨[TBit], [TBit], true, fun x => laws_toBit.f k x.1⟩ :=
  run_ctr (E := laws_toBit.E k) mixed tb_ok (eqOk_of tb_eqs) Cts.nil Try.func116 (by kernel_rfl) rfl (fun ⟨a0, _⟩ r h => (laws_toBit.eq k a0).trans h)
def laws_toBitS.E (k : Nat) : Env := ⟨tb, [(116, ⟨[TBit], [TBit], true, fun x => laws_toBit.f k x.1⟩)], [(3, [0, 3, 4])], k⟩
noncomputable def laws_toBitS.K0 (k : Nat) : Ex → St → Option ((List (Ty.den TBit)) × Unit) := runK (laws_toBitS.E k) (endK (laws_toBitS.E k) Try.f80.results.toList [(.slice TBit)] true) [.blk 0, .code (at_ [true, true, true] (body Try.f80))]
noncomputable def laws_toBitS.B0 (k : Nat) (n0 : Nat) : Ex → St → Option ((List (Ty.den TBit)) × Unit) := fun e st => match e with
  | .normal => loopN (exec (laws_toBitS.E k) (at_ [true, true, false, true, false, false] (body Try.f80))) (canon [0, 3, 4]) (laws_toBitS.K0 k) n0 (canon [0, 3, 4] st)
  | .ret => laws_toBitS.K0 k .ret st
  | .exit j => laws_toBitS.K0 k (.exit j) st
noncomputable def laws_toBitS.V0 (k : Nat) (n0 : Nat) (x0_0 : List (Ty.den TBit)) (x0_1 : Int) (x0_2 : List (Ty.den TBit)) : Option ((List (Ty.den TBit)) × Unit) := loopN (exec (laws_toBitS.E k) (at_ [true, true, false, true, false, false] (body Try.f80))) (canon [0, 3, 4]) (laws_toBitS.K0 k) n0 (mk 23 [(0, .sl true TBit x0_0), (3, .ref 0), (4, .int .i64 x0_1)] [(0, .own false TBit x0_2)])
theorem laws_toBitS.s0 (k : Nat) (n0 : Nat) (x0_0 : List (Ty.den TBit)) (x0_1 : Int) (x0_2 : List (Ty.den TBit)) : laws_toBitS.V0 k (n0 + 1) x0_0 x0_1 x0_2 = laws_toBitS.b0 k (laws_toBitS.V0 k n0) x0_0 x0_1 x0_2 := by kernel_rfl
theorem laws_toBitS.e0 (k : Nat) (n0 : Nat) : laws_toBitS.V0 k n0 = laws_toBitS.l0 k n0 := by
  induction n0 with
  | zero => rfl
  | succ n0 ih =>
    have h : laws_toBitS.V0 k (n0 + 1) = laws_toBitS.b0 k (laws_toBitS.V0 k n0) := funext fun x0_0 => funext fun x0_1 => funext fun x0_2 => laws_toBitS.s0 k n0 x0_0 x0_1 x0_2
    rw [h, ih]
    rfl
theorem laws_toBitS.q (k : Nat) (a0 : List (Ty.den TBit)) : run (laws_toBitS.E k) Try.f80 [(.slice TBit)] [(.slice TBit)] true (a0, ()) = laws_toBitS.t k (laws_toBitS.V0 k k) a0 := by kernel_rfl
theorem laws_toBitS.eq (k : Nat) (a0 : List (Ty.den TBit)) : run (laws_toBitS.E k) Try.f80 [(.slice TBit)] [(.slice TBit)] true (a0, ()) = laws_toBitS.f k a0 := by
  rw [laws_toBitS.q, laws_toBitS.e0]
  rfl
theorem laws_toBitS.ctr (k : Nat) : Ctr Try.prog 80 ⟨[(.slice TBit)], [(.slice TBit)], true, fun x => laws_toBitS.f k x.1⟩ :=
  run_ctr (E := laws_toBitS.E k) mixed tb_ok (eqOk_of tb_eqs) (Cts.cons (laws_toBit.ctr k) Cts.nil) Try.func80 (by kernel_rfl) rfl (fun ⟨a0, _⟩ r h => (laws_toBitS.eq k a0).trans h)
def laws_toParcel.E (k : Nat) : Env := ⟨tb, [(80, ⟨[(.slice TBit)], [(.slice TBit)], true, fun x => laws_toBitS.f k x.1⟩)], [], k⟩
theorem laws_toParcel.q (k : Nat) (a0 : Ty.den TParcel) : run (laws_toParcel.E k) Try.f22 [TParcel] [TParcel] true (a0, ()) = laws_toParcel.t k a0 := by kernel_rfl
theorem laws_toParcel.eq (k : Nat) (a0 : Ty.den TParcel) : run (laws_toParcel.E k) Try.f22 [TParcel] [TParcel] true (a0, ()) = laws_toParcel.f k a0 := by
  rw [laws_toParcel.q]
  rfl
theorem laws_toParcel.ctr (k : Nat) : Ctr Try.prog 22 ⟨[TParcel], [TParcel], true, fun x => laws_toParcel.f k x.1⟩ :=
  run_ctr (E := laws_toParcel.E k) mixed tb_ok (eqOk_of tb_eqs) (Cts.cons (laws_toBitS.ctr k) Cts.nil) Try.func22 (by kernel_rfl) rfl (fun ⟨a0, _⟩ r h => (laws_toParcel.eq k a0).trans h)
def spec_ParcelBytes.E (k : Nat) : Env := ⟨tb, [], [(3, [1, 3, 4])], k⟩
noncomputable def spec_ParcelBytes.K0 (k : Nat) : Ex → St → Option (Int × Unit) := runK (spec_ParcelBytes.E k) (endK (spec_ParcelBytes.E k) Try.f21.results.toList [(.int .i64)] true) [.blk 0, .code (at_ [true, true, true] (body Try.f21))]
noncomputable def spec_ParcelBytes.B0 (k : Nat) (n0 : Nat) : Ex → St → Option (Int × Unit) := fun e st => match e with
  | .normal => loopN (exec (spec_ParcelBytes.E k) (at_ [true, true, false, true, false, false] (body Try.f21))) (canon [1, 3, 4]) (spec_ParcelBytes.K0 k) n0 (canon [1, 3, 4] st)
  | .ret => spec_ParcelBytes.K0 k .ret st
  | .exit j => spec_ParcelBytes.K0 k (.exit j) st
noncomputable def spec_ParcelBytes.V0 (k : Nat) (n0 : Nat) (x0_0 : Int) (x0_1 : Int) (x0_2 : Int) (x0_3 : List (Ty.den TBit)) : Option (Int × Unit) := loopN (exec (spec_ParcelBytes.E k) (at_ [true, true, false, true, false, false] (body Try.f21))) (canon [1, 3, 4]) (spec_ParcelBytes.K0 k) n0 (mk 22 [(1, .ptr 0 0 0), (3, .int .i64 x0_0), (4, .int .i64 x0_1)] [(0, .box [.int .i64 x0_2, .sl true TBit x0_3])])
theorem spec_ParcelBytes.s0 (k : Nat) (n0 : Nat) (x0_0 : Int) (x0_1 : Int) (x0_2 : Int) (x0_3 : List (Ty.den TBit)) : spec_ParcelBytes.V0 k (n0 + 1) x0_0 x0_1 x0_2 x0_3 = spec_ParcelBytes.b0 k (spec_ParcelBytes.V0 k n0) x0_0 x0_1 x0_2 x0_3 := by kernel_rfl
theorem spec_ParcelBytes.e0 (k : Nat) (n0 : Nat) : spec_ParcelBytes.V0 k n0 = spec_ParcelBytes.l0 k n0 := by
  induction n0 with
  | zero => rfl
  | succ n0 ih =>
    have h : spec_ParcelBytes.V0 k (n0 + 1) = spec_ParcelBytes.b0 k (spec_ParcelBytes.V0 k n0) := funext fun x0_0 => funext fun x0_1 => funext fun x0_2 => funext fun x0_3 => spec_ParcelBytes.s0 k n0 x0_0 x0_1 x0_2 x0_3
    rw [h, ih]
    rfl
theorem spec_ParcelBytes.q (k : Nat) (a0 : Ty.den TParcel) : run (spec_ParcelBytes.E k) Try.f21 [TParcel] [(.int .i64)] true (a0, ()) = spec_ParcelBytes.t k (spec_ParcelBytes.V0 k k) a0 := by kernel_rfl
theorem spec_ParcelBytes.eq (k : Nat) (a0 : Ty.den TParcel) : run (spec_ParcelBytes.E k) Try.f21 [TParcel] [(.int .i64)] true (a0, ()) = spec_ParcelBytes.f k a0 := by
  rw [spec_ParcelBytes.q, spec_ParcelBytes.e0]
  rfl
theorem spec_ParcelBytes.ctr (k : Nat) : Ctr Try.prog 21 ⟨[TParcel], [(.int .i64)], true, fun x => spec_ParcelBytes.f k x.1⟩ :=
  run_ctr (E := spec_ParcelBytes.E k) mixed tb_ok (eqOk_of tb_eqs) Cts.nil Try.func21 (by kernel_rfl) rfl (fun ⟨a0, _⟩ r h => (spec_ParcelBytes.eq k a0).trans h)
def impl_ParcelBytes.E (k : Nat) : Env := ⟨tb, [], [(3, [3, 7, 8, 9])], k⟩
noncomputable def impl_ParcelBytes.K0 (k : Nat) : Ex → St → Option (Int × Unit) := runK (impl_ParcelBytes.E k) (endK (impl_ParcelBytes.E k) Try.f23.results.toList [(.int .i64)] true) [.blk 0, .code (at_ [true, true, true] (body Try.f23))]
noncomputable def impl_ParcelBytes.B0 (k : Nat) (n0 : Nat) : Ex → St → Option (Int × Unit) := fun e st => match e with
  | .normal => loopN (exec (impl_ParcelBytes.E k) (at_ [true, true, false, true, false, false] (body Try.f23))) (canon [3, 7, 8, 9]) (impl_ParcelBytes.K0 k) n0 (canon [3, 7, 8, 9] st)
  | .ret => impl_ParcelBytes.K0 k .ret st
  | .exit j => impl_ParcelBytes.K0 k (.exit j) st
noncomputable def impl_ParcelBytes.V0 (k : Nat) (n0 : Nat) (x0_0 : Int) (x0_1 : List (Ty.den TBit)) (x0_2 : Int) (x0_3 : Int) : Option (Int × Unit) := loopN (exec (impl_ParcelBytes.E k) (at_ [true, true, false, true, false, false] (body Try.f23))) (canon [3, 7, 8, 9]) (impl_ParcelBytes.K0 k) n0 (mk 20 [(3, .int .i64 x0_0), (7, .sl true TBit x0_1), (8, .int .i64 x0_2), (9, .int .i64 x0_3)] [])
theorem impl_ParcelBytes.s0 (k : Nat) (n0 : Nat) (x0_0 : Int) (x0_1 : List (Ty.den TBit)) (x0_2 : Int) (x0_3 : Int) : impl_ParcelBytes.V0 k (n0 + 1) x0_0 x0_1 x0_2 x0_3 = impl_ParcelBytes.b0 k (impl_ParcelBytes.V0 k n0) x0_0 x0_1 x0_2 x0_3 := by kernel_rfl
theorem impl_ParcelBytes.e0 (k : Nat) (n0 : Nat) : impl_ParcelBytes.V0 k n0 = impl_ParcelBytes.l0 k n0 := by
  induction n0 with
  | zero => rfl
  | succ n0 ih =>
    have h : impl_ParcelBytes.V0 k (n0 + 1) = impl_ParcelBytes.b0 k (impl_ParcelBytes.V0 k n0) := funext fun x0_0 => funext fun x0_1 => funext fun x0_2 => funext fun x0_3 => impl_ParcelBytes.s0 k n0 x0_0 x0_1 x0_2 x0_3
    rw [h, ih]
    rfl
theorem impl_ParcelBytes.q (k : Nat) (a0 : Ty.den TParcel) : run (impl_ParcelBytes.E k) Try.f23 [TParcel] [(.int .i64)] true (a0, ()) = impl_ParcelBytes.t k (impl_ParcelBytes.V0 k k) a0 := by kernel_rfl
theorem impl_ParcelBytes.eq (k : Nat) (a0 : Ty.den TParcel) : run (impl_ParcelBytes.E k) Try.f23 [TParcel] [(.int .i64)] true (a0, ()) = impl_ParcelBytes.f k a0 := by
  rw [impl_ParcelBytes.q, impl_ParcelBytes.e0]
  rfl
theorem impl_ParcelBytes.ctr (k : Nat) : Ctr Try.prog 23 ⟨[TParcel], [(.int .i64)], true, fun x => impl_ParcelBytes.f k x.1⟩ :=
  run_ctr (E := impl_ParcelBytes.E k) mixed tb_ok (eqOk_of tb_eqs) Cts.nil Try.func23 (by kernel_rfl) rfl (fun ⟨a0, _⟩ r h => (impl_ParcelBytes.eq k a0).trans h)
def laws_eqBit.E (k : Nat) : Env := ⟨tb, [], [], k⟩
theorem laws_eqBit.q (k : Nat) (a0 : Ty.den TBit) (a1 : Ty.den TBit) : run (laws_eqBit.E k) Try.f117 [TBit, TBit] [.bool] true (a0, a1, ()) = laws_eqBit.t k a0 a1 := by kernel_rfl
theorem laws_eqBit.eq (k : Nat) (a0 : Ty.den TBit) (a1 : Ty.den TBit) : run (laws_eqBit.E k) Try.f117 [TBit, TBit] [.bool] true (a0, a1, ()) = laws_eqBit.f k a0 a1 := by
  rw [laws_eqBit.q]
  rfl
theorem laws_eqBit.ctr (k : Nat) : Ctr Try.prog 117 ⟨[TBit, TBit], [.bool], true, fun x => laws_eqBit.f k x.1 x.2.1⟩ :=
  run_ctr (E := laws_eqBit.E k) mixed tb_ok (eqOk_of tb_eqs) Cts.nil Try.func117 (by kernel_rfl) rfl (fun ⟨a0, a1, _⟩ r h => (laws_eqBit.eq k a0 a1).trans h)
def laws_eqBitS.E (k : Nat) : Env := ⟨tb, [(117, ⟨[TBit, TBit], [.bool], true, fun x => laws_eqBit.f k x.1 x.2.1⟩)], [(4, [0, 1, 5])], k⟩
noncomputable def laws_eqBitS.K0 (k : Nat) : Ex → St → Option (Bool × Unit) := runK (laws_eqBitS.E k) (endK (laws_eqBitS.E k) Try.f81.results.toList [.bool] true) [.blk 0, .code (at_ [true, true, true] (body Try.f81))]
noncomputable def laws_eqBitS.B0 (k : Nat) (n0 : Nat) : Ex → St → Option (Bool × Unit) := fun e st => match e with
  | .normal => loopN (exec (laws_eqBitS.E k) (at_ [true, true, false, true, false, false] (body Try.f81))) (canon [0, 1, 5]) (laws_eqBitS.K0 k) n0 (canon [0, 1, 5] st)
  | .ret => laws_eqBitS.K0 k .ret st
  | .exit j => laws_eqBitS.K0 k (.exit j) st
noncomputable def laws_eqBitS.V0 (k : Nat) (n0 : Nat) (x0_0 : List (Ty.den TBit)) (x0_1 : List (Ty.den TBit)) (x0_2 : Int) : Option (Bool × Unit) := loopN (exec (laws_eqBitS.E k) (at_ [true, true, false, true, false, false] (body Try.f81))) (canon [0, 1, 5]) (laws_eqBitS.K0 k) n0 (mk 27 [(0, .sl true TBit x0_0), (1, .sl true TBit x0_1), (5, .int .i64 x0_2)] [])
theorem laws_eqBitS.s0 (k : Nat) (n0 : Nat) (x0_0 : List (Ty.den TBit)) (x0_1 : List (Ty.den TBit)) (x0_2 : Int) : laws_eqBitS.V0 k (n0 + 1) x0_0 x0_1 x0_2 = laws_eqBitS.b0 k (laws_eqBitS.V0 k n0) x0_0 x0_1 x0_2 := by kernel_rfl
theorem laws_eqBitS.e0 (k : Nat) (n0 : Nat) : laws_eqBitS.V0 k n0 = laws_eqBitS.l0 k n0 := by
  induction n0 with
  | zero => rfl
  | succ n0 ih =>
    have h : laws_eqBitS.V0 k (n0 + 1) = laws_eqBitS.b0 k (laws_eqBitS.V0 k n0) := funext fun x0_0 => funext fun x0_1 => funext fun x0_2 => laws_eqBitS.s0 k n0 x0_0 x0_1 x0_2
    rw [h, ih]
    rfl
theorem laws_eqBitS.q (k : Nat) (a0 : List (Ty.den TBit)) (a1 : List (Ty.den TBit)) : run (laws_eqBitS.E k) Try.f81 [(.slice TBit), (.slice TBit)] [.bool] true (a0, a1, ()) = laws_eqBitS.t k (laws_eqBitS.V0 k k) a0 a1 := by kernel_rfl
theorem laws_eqBitS.eq (k : Nat) (a0 : List (Ty.den TBit)) (a1 : List (Ty.den TBit)) : run (laws_eqBitS.E k) Try.f81 [(.slice TBit), (.slice TBit)] [.bool] true (a0, a1, ()) = laws_eqBitS.f k a0 a1 := by
  rw [laws_eqBitS.q, laws_eqBitS.e0]
  rfl
theorem laws_eqBitS.ctr (k : Nat) : Ctr Try.prog 81 ⟨[(.slice TBit), (.slice TBit)], [.bool], true, fun x => laws_eqBitS.f k x.1 x.2.1⟩ :=
  run_ctr (E := laws_eqBitS.E k) mixed tb_ok (eqOk_of tb_eqs) (Cts.cons (laws_eqBit.ctr k) Cts.nil) Try.func81 (by kernel_rfl) rfl (fun ⟨a0, a1, _⟩ r h => (laws_eqBitS.eq k a0 a1).trans h)
def laws_eqParcel.E (k : Nat) : Env := ⟨tb, [(81, ⟨[(.slice TBit), (.slice TBit)], [.bool], true, fun x => laws_eqBitS.f k x.1 x.2.1⟩)], [], k⟩
theorem laws_eqParcel.q (k : Nat) (a0 : Ty.den TParcel) (a1 : Ty.den TParcel) : run (laws_eqParcel.E k) Try.f24 [TParcel, TParcel] [.bool] true (a0, a1, ()) = laws_eqParcel.t k a0 a1 := by kernel_rfl
theorem laws_eqParcel.eq (k : Nat) (a0 : Ty.den TParcel) (a1 : Ty.den TParcel) : run (laws_eqParcel.E k) Try.f24 [TParcel, TParcel] [.bool] true (a0, a1, ()) = laws_eqParcel.f k a0 a1 := by
  rw [laws_eqParcel.q]
  rfl
theorem laws_eqParcel.ctr (k : Nat) : Ctr Try.prog 24 ⟨[TParcel, TParcel], [.bool], true, fun x => laws_eqParcel.f k x.1 x.2.1⟩ :=
  run_ctr (E := laws_eqParcel.E k) mixed tb_ok (eqOk_of tb_eqs) (Cts.cons (laws_eqBitS.ctr k) Cts.nil) Try.func24 (by kernel_rfl) rfl (fun ⟨a0, a1, _⟩ r h => (laws_eqParcel.eq k a0 a1).trans h)
def laws_FnExactParcelBytes.E (k : Nat) : Env := ⟨tb, [(20, ⟨[TParcel, (.int .i64)], [(.int .i64)], true, fun x => laws_szParcel.f k x.1 x.2.1⟩), (22, ⟨[TParcel], [TParcel], true, fun x => laws_toParcel.f k x.1⟩), (21, ⟨[TParcel], [(.int .i64)], true, fun x => spec_ParcelBytes.f k x.1⟩), (23, ⟨[TParcel], [(.int .i64)], true, fun x => impl_ParcelBytes.f k x.1⟩), (24, ⟨[TParcel, TParcel], [.bool], true, fun x => laws_eqParcel.f k x.1 x.2.1⟩)], [], k⟩
theorem laws_FnExactParcelBytes.q (k : Nat) (a0 : Ty.den TParcel) : run (laws_FnExactParcelBytes.E k) Try.f4 [TParcel] [.bool] true (a0, ()) = laws_FnExactParcelBytes.t k a0 := by kernel_rfl
theorem laws_FnExactParcelBytes.eq (k : Nat) (a0 : Ty.den TParcel) : run (laws_FnExactParcelBytes.E k) Try.f4 [TParcel] [.bool] true (a0, ()) = laws_FnExactParcelBytes.f k a0 := by
  rw [laws_FnExactParcelBytes.q]
  rfl
theorem laws_FnExactParcelBytes.ctr (k : Nat) : Ctr Try.prog 4 ⟨[TParcel], [.bool], true, fun x => laws_FnExactParcelBytes.f k x.1⟩ :=
  run_ctr (E := laws_FnExactParcelBytes.E k) mixed tb_ok (eqOk_of tb_eqs) (Cts.cons (laws_szParcel.ctr k) (Cts.cons (laws_toParcel.ctr k) (Cts.cons (spec_ParcelBytes.ctr k) (Cts.cons (impl_ParcelBytes.ctr k) (Cts.cons (laws_eqParcel.ctr k) Cts.nil))))) Try.func4 (by kernel_rfl) rfl (fun ⟨a0, _⟩ r h => (laws_FnExactParcelBytes.eq k a0).trans h)
def laws_szPiece.E (k : Nat) : Env := ⟨tb, [], [], k⟩
theorem laws_szPiece.q (k : Nat) (a0 : Ty.den TPiece) (a1 : Int) : run (laws_szPiece.E k) Try.f118 [TPiece, (.int .i64)] [(.int .i64)] true (a0, a1, ()) = laws_szPiece.t k a0 a1 := by kernel_rfl
theorem laws_szPiece.eq (k : Nat) (a0 : Ty.den TPiece) (a1 : Int) : run (laws_szPiece.E k) Try.f118 [TPiece, (.int .i64)] [(.int .i64)] true (a0, a1, ()) = laws_szPiece.f k a0 a1 := by
  rw [laws_szPiece.q]
  rfl
theorem laws_szPiece.ctr (k : Nat) : Ctr Try.prog 118 ⟨[TPiece, (.int .i64)], [(.int .i64)], true, fun x => laws_szPiece.f k x.1 x.2.1⟩ :=
  run_ctr (E := laws_szPiece.E k) mixed tb_ok (eqOk_of tb_eqs) Cts.nil Try.func118 (by kernel_rfl) rfl (fun ⟨a0, a1, _⟩ r h => (laws_szPiece.eq k a0 a1).trans h)
def laws_szPieceS.E (k : Nat) : Env := ⟨tb, [(118, ⟨[TPiece, (.int .i64)], [(.int .i64)], true, fun x => laws_szPiece.f k x.1 x.2.1⟩)], [(5, [0, 1, 5])], k⟩
noncomputable def laws_szPieceS.K0 (k : Nat) : Ex → St → Option (Int × Unit) := runK (laws_szPieceS.E k) (endK (laws_szPieceS.E k) Try.f82.results.toList [(.int .i64)] true) [.blk 0, .code (at_ [true, true, true, true] (body Try.f82))]
noncomputable def laws_szPieceS.B0 (k : Nat) (n0 : Nat) : Ex → St → Option (Int × Unit) := fun e st => match e with
  | .normal => loopN (exec (laws_szPieceS.E k) (at_ [true, true, true, false, true, false, false] (body Try.f82))) (canon [0, 1, 5]) (laws_szPieceS.K0 k) n0 (canon [0, 1, 5] st)
  | .ret => laws_szPieceS.K0 k .ret st
  | .exit j => laws_szPieceS.K0 k (.exit j) st
noncomputable def laws_szPieceS.V0 (k : Nat) (n0 : Nat) (x0_0 : List (Ty.den TPiece)) (x0_1 : Int) (x0_2 : Int) : Option (Int × Unit) := loopN (exec (laws_szPieceS.E k) (at_ [true, true, true, false, true, false, false] (body Try.f82))) (canon [0, 1, 5]) (laws_szPieceS.K0 k) n0 (mk 27 [(0, .sl true TPiece x0_0), (1, .int .i64 x0_1), (5, .int .i64 x0_2)] [])
theorem laws_szPieceS.s0 (k : Nat) (n0 : Nat) (x0_0 : List (Ty.den TPiece)) (x0_1 : Int) (x0_2 : Int) : laws_szPieceS.V0 k (n0 + 1) x0_0 x0_1 x0_2 = laws_szPieceS.b0 k (laws_szPieceS.V0 k n0) x0_0 x0_1 x0_2 := by kernel_rfl
theorem laws_szPieceS.e0 (k : Nat) (n0 : Nat) : laws_szPieceS.V0 k n0 = laws_szPieceS.l0 k n0 := by
  induction n0 with
  | zero => rfl
  | succ n0 ih =>
    have h : laws_szPieceS.V0 k (n0 + 1) = laws_szPieceS.b0 k (laws_szPieceS.V0 k n0) := funext fun x0_0 => funext fun x0_1 => funext fun x0_2 => laws_szPieceS.s0 k n0 x0_0 x0_1 x0_2
    rw [h, ih]
    rfl
theorem laws_szPieceS.q (k : Nat) (a0 : List (Ty.den TPiece)) (a1 : Int) : run (laws_szPieceS.E k) Try.f82 [(.slice TPiece), (.int .i64)] [(.int .i64)] true (a0, a1, ()) = laws_szPieceS.t k (laws_szPieceS.V0 k k) a0 a1 := by kernel_rfl
theorem laws_szPieceS.eq (k : Nat) (a0 : List (Ty.den TPiece)) (a1 : Int) : run (laws_szPieceS.E k) Try.f82 [(.slice TPiece), (.int .i64)] [(.int .i64)] true (a0, a1, ()) = laws_szPieceS.f k a0 a1 := by
  rw [laws_szPieceS.q, laws_szPieceS.e0]
  rfl
theorem laws_szPieceS.ctr (k : Nat) : Ctr Try.prog 82 ⟨[(.slice TPiece), (.int .i64)], [(.int .i64)], true, fun x => laws_szPieceS.f k x.1 x.2.1⟩ :=
  run_ctr (E := laws_szPieceS.E k) mixed tb_ok (eqOk_of tb_eqs) (Cts.cons (laws_szPiece.ctr k) Cts.nil) Try.func82 (by kernel_rfl) rfl (fun ⟨a0, a1, _⟩ r h => (laws_szPieceS.eq k a0 a1).trans h)
def laws_szFollower.E (k : Nat) : Env := ⟨tb, [(82, ⟨[(.slice TPiece), (.int .i64)], [(.int .i64)], true, fun x => laws_szPieceS.f k x.1 x.2.1⟩)], [], k⟩
theorem laws_szFollower.q (k : Nat) (a0 : Ty.den TFollower) (a1 : Int) : run (laws_szFollower.E k) Try.f25 [TFollower, (.int .i64)] [(.int .i64)] true (a0, a1, ()) = laws_szFollower.t k a0 a1 := by kernel_rfl
theorem laws_szFollower.eq (k : Nat) (a0 : Ty.den TFollower) (a1 : Int) : run (laws_szFollower.E k) Try.f25 [TFollower, (.int .i64)] [(.int .i64)] true (a0, a1, ()) = laws_szFollower.f k a0 a1 := by
  rw [laws_szFollower.q]
  rfl
theorem laws_szFollower.ctr (k : Nat) : Ctr Try.prog 25 ⟨[TFollower, (.int .i64)], [(.int .i64)], true, fun x => laws_szFollower.f k x.1 x.2.1⟩ :=
  run_ctr (E := laws_szFollower.E k) mixed tb_ok (eqOk_of tb_eqs) (Cts.cons (laws_szPieceS.ctr k) Cts.nil) Try.func25 (by kernel_rfl) rfl (fun ⟨a0, a1, _⟩ r h => (laws_szFollower.eq k a0 a1).trans h)
def laws_toPiece.E (k : Nat) : Env := ⟨tb, [], [], k⟩
theorem laws_toPiece.q (k : Nat) (a0 : Ty.den TPiece) : run (laws_toPiece.E k) Try.f119 [TPiece] [TPiece] true (a0, ()) = laws_toPiece.t k a0 := by kernel_rfl
theorem laws_toPiece.eq (k : Nat) (a0 : Ty.den TPiece) : run (laws_toPiece.E k) Try.f119 [TPiece] [TPiece] true (a0, ()) = laws_toPiece.f k a0 := by
  rw [laws_toPiece.q]
  rfl
theorem laws_toPiece.ctr (k : Nat) : Ctr Try.prog 119 ⟨[TPiece], [TPiece], true, fun x => laws_toPiece.f k x.1⟩ :=
  run_ctr (E := laws_toPiece.E k) mixed tb_ok (eqOk_of tb_eqs) Cts.nil Try.func119 (by kernel_rfl) rfl (fun ⟨a0, _⟩ r h => (laws_toPiece.eq k a0).trans h)
def laws_toPieceS.E (k : Nat) : Env := ⟨tb, [(119, ⟨[TPiece], [TPiece], true, fun x => laws_toPiece.f k x.1⟩)], [(3, [0, 3, 4])], k⟩
noncomputable def laws_toPieceS.K0 (k : Nat) : Ex → St → Option ((List (Ty.den TPiece)) × Unit) := runK (laws_toPieceS.E k) (endK (laws_toPieceS.E k) Try.f83.results.toList [(.slice TPiece)] true) [.blk 0, .code (at_ [true, true, true] (body Try.f83))]
noncomputable def laws_toPieceS.B0 (k : Nat) (n0 : Nat) : Ex → St → Option ((List (Ty.den TPiece)) × Unit) := fun e st => match e with
  | .normal => loopN (exec (laws_toPieceS.E k) (at_ [true, true, false, true, false, false] (body Try.f83))) (canon [0, 3, 4]) (laws_toPieceS.K0 k) n0 (canon [0, 3, 4] st)
  | .ret => laws_toPieceS.K0 k .ret st
  | .exit j => laws_toPieceS.K0 k (.exit j) st
noncomputable def laws_toPieceS.V0 (k : Nat) (n0 : Nat) (x0_0 : List (Ty.den TPiece)) (x0_1 : Int) (x0_2 : List (Ty.den TPiece)) : Option ((List (Ty.den TPiece)) × Unit) := loopN (exec (laws_toPieceS.E k) (at_ [true, true, false, true, false, false] (body Try.f83))) (canon [0, 3, 4]) (laws_toPieceS.K0 k) n0 (mk 23 [(0, .sl true TPiece x0_0), (3, .ref 0), (4, .int .i64 x0_1)] [(0, .own false TPiece x0_2)])
theorem laws_toPieceS.s0 (k : Nat) (n0 : Nat) (x0_0 : List (Ty.den TPiece)) (x0_1 : Int) (x0_2 : List (Ty.den TPiece)) : laws_toPieceS.V0 k (n0 + 1) x0_0 x0_1 x0_2 = laws_toPieceS.b0 k (laws_toPieceS.V0 k n0) x0_0 x0_1 x0_2 := by kernel_rfl
theorem laws_toPieceS.e0 (k : Nat) (n0 : Nat) : laws_toPieceS.V0 k n0 = laws_toPieceS.l0 k n0 := by
  induction n0 with
  | zero => rfl
  | succ n0 ih =>
    have h : laws_toPieceS.V0 k (n0 + 1) = laws_toPieceS.b0 k (laws_toPieceS.V0 k n0) := funext fun x0_0 => funext fun x0_1 => funext fun x0_2 => laws_toPieceS.s0 k n0 x0_0 x0_1 x0_2
    rw [h, ih]
    rfl
theorem laws_toPieceS.q (k : Nat) (a0 : List (Ty.den TPiece)) : run (laws_toPieceS.E k) Try.f83 [(.slice TPiece)] [(.slice TPiece)] true (a0, ()) = laws_toPieceS.t k (laws_toPieceS.V0 k k) a0 := by kernel_rfl
theorem laws_toPieceS.eq (k : Nat) (a0 : List (Ty.den TPiece)) : run (laws_toPieceS.E k) Try.f83 [(.slice TPiece)] [(.slice TPiece)] true (a0, ()) = laws_toPieceS.f k a0 := by
  rw [laws_toPieceS.q, laws_toPieceS.e0]
  rfl
theorem laws_toPieceS.ctr (k : Nat) : Ctr Try.prog 83 ⟨[(.slice TPiece)], [(.slice TPiece)], true, fun x => laws_toPieceS.f k x.1⟩ :=
  run_ctr (E := laws_toPieceS.E k) mixed tb_ok (eqOk_of tb_eqs) (Cts.cons (laws_toPiece.ctr k) Cts.nil) Try.func83 (by kernel_rfl) rfl (fun ⟨a0, _⟩ r h => (laws_toPieceS.eq k a0).trans h)
def laws_toFollower.E (k : Nat) : Env := ⟨tb, [(83, ⟨[(.slice TPiece)], [(.slice TPiece)], true, fun x => laws_toPieceS.f k x.1⟩)], [], k⟩
theorem laws_toFollower.q (k : Nat) (a0 : Ty.den TFollower) : run (laws_toFollower.E k) Try.f27 [TFollower] [TFollower] true (a0, ()) = laws_toFollower.t k a0 := by kernel_rfl
theorem laws_toFollower.eq (k : Nat) (a0 : Ty.den TFollower) : run (laws_toFollower.E k) Try.f27 [TFollower] [TFollower] true (a0, ()) = laws_toFollower.f k a0 := by
  rw [laws_toFollower.q]
  rfl
theorem laws_toFollower.ctr (k : Nat) : Ctr Try.prog 27 ⟨[TFollower], [TFollower], true, fun x => laws_toFollower.f k x.1⟩ :=
  run_ctr (E := laws_toFollower.E k) mixed tb_ok (eqOk_of tb_eqs) (Cts.cons (laws_toPieceS.ctr k) Cts.nil) Try.func27 (by kernel_rfl) rfl (fun ⟨a0, _⟩ r h => (laws_toFollower.eq k a0).trans h)
def spec_SameFollower.E (k : Nat) : Env := ⟨tb, [], [(4, [2, 3, 5])], k⟩
noncomputable def spec_SameFollower.K0 (k : Nat) : Ex → St → Option (Bool × Unit) := runK (spec_SameFollower.E k) (endK (spec_SameFollower.E k) Try.f26.results.toList [.bool] true) [.blk 0, .code (at_ [true, true, true] (body Try.f26))]
noncomputable def spec_SameFollower.B0 (k : Nat) (n0 : Nat) : Ex → St → Option (Bool × Unit) := fun e st => match e with
  | .normal => loopN (exec (spec_SameFollower.E k) (at_ [true, true, false, true, false, false] (body Try.f26))) (canon [2, 3, 5]) (spec_SameFollower.K0 k) n0 (canon [2, 3, 5] st)
  | .ret => spec_SameFollower.K0 k .ret st
  | .exit j => spec_SameFollower.K0 k (.exit j) st
noncomputable def spec_SameFollower.V0 (k : Nat) (n0 : Nat) (x0_0 : Int) (x0_1 : Int) (x0_2 : List (Ty.den TPiece)) (x0_3 : Int) (x0_4 : List (Ty.den TPiece)) : Option (Bool × Unit) := loopN (exec (spec_SameFollower.E k) (at_ [true, true, false, true, false, false] (body Try.f26))) (canon [2, 3, 5]) (spec_SameFollower.K0 k) n0 (mk 38 [(2, .ptr 0 0 0), (3, .ptr 1 0 0), (5, .int .i64 x0_0)] [(0, .box [.int .i64 x0_1, .sl true TPiece x0_2]), (1, .box [.int .i64 x0_3, .sl true TPiece x0_4])])
theorem spec_SameFollower.s0 (k : Nat) (n0 : Nat) (x0_0 : Int) (x0_1 : Int) (x0_2 : List (Ty.den TPiece)) (x0_3 : Int) (x0_4 : List (Ty.den TPiece)) : spec_SameFollower.V0 k (n0 + 1) x0_0 x0_1 x0_2 x0_3 x0_4 = spec_SameFollower.b0 k (spec_SameFollower.V0 k n0) x0_0 x0_1 x0_2 x0_3 x0_4 := by kernel_rfl
theorem spec_SameFollower.e0 (k : Nat) (n0 : Nat) : spec_SameFollower.V0 k n0 = spec_SameFollower.l0 k n0 := by
  induction n0 with
  | zero => rfl
  | succ n0 ih =>
    have h : spec_SameFollower.V0 k (n0 + 1) = spec_SameFollower.b0 k (spec_SameFollower.V0 k n0) := funext fun x0_0 => funext fun x0_1 => funext fun x0_2 => funext fun x0_3 => funext fun x0_4 => spec_SameFollower.s0 k n0 x0_0 x0_1 x0_2 x0_3 x0_4
    rw [h, ih]
    rfl
theorem spec_SameFollower.q (k : Nat) (a0 : Ty.den TFollower) (a1 : Ty.den TFollower) : run (spec_SameFollower.E k) Try.f26 [TFollower, TFollower] [.bool] true (a0, a1, ()) = spec_SameFollower.t k (spec_SameFollower.V0 k k) a0 a1 := by kernel_rfl
theorem spec_SameFollower.eq (k : Nat) (a0 : Ty.den TFollower) (a1 : Ty.den TFollower) : run (spec_SameFollower.E k) Try.f26 [TFollower, TFollower] [.bool] true (a0, a1, ()) = spec_SameFollower.f k a0 a1 := by
  rw [spec_SameFollower.q, spec_SameFollower.e0]
  rfl
theorem spec_SameFollower.ctr (k : Nat) : Ctr Try.prog 26 ⟨[TFollower, TFollower], [.bool], true, fun x => spec_SameFollower.f k x.1 x.2.1⟩ :=
  run_ctr (E := spec_SameFollower.E k) mixed tb_ok (eqOk_of tb_eqs) Cts.nil Try.func26 (by kernel_rfl) rfl (fun ⟨a0, a1, _⟩ r h => (spec_SameFollower.eq k a0 a1).trans h)
def impl_SameFollower.E (k : Nat) : Env := ⟨tb, [], [(4, [2, 3, 22, 23])], k⟩
noncomputable def impl_SameFollower.K0 (k : Nat) : Ex → St → Option (Bool × Unit) := runK (impl_SameFollower.E k) (endK (impl_SameFollower.E k) Try.f28.results.toList [.bool] true) [.blk 0, .code (at_ [true, true, true] (body Try.f28))]
noncomputable def impl_SameFollower.B0 (k : Nat) (n0 : Nat) : Ex → St → Option (Bool × Unit) := fun e st => match e with
  | .normal => loopN (exec (impl_SameFollower.E k) (at_ [true, true, false, true, false, false] (body Try.f28))) (canon [2, 3, 22, 23]) (impl_SameFollower.K0 k) n0 (canon [2, 3, 22, 23] st)
  | .ret => impl_SameFollower.K0 k .ret st
  | .exit j => impl_SameFollower.K0 k (.exit j) st
noncomputable def impl_SameFollower.V0 (k : Nat) (n0 : Nat) (x0_0 : Int) (x0_1 : Int) (x0_2 : Int) (x0_3 : List (Ty.den TPiece)) (x0_4 : Int) (x0_5 : List (Ty.den TPiece)) : Option (Bool × Unit) := loopN (exec (impl_SameFollower.E k) (at_ [true, true, false, true, false, false] (body Try.f28))) (canon [2, 3, 22, 23]) (impl_SameFollower.K0 k) n0 (mk 38 [(2, .ptr 0 0 0), (3, .ptr 1 0 0), (22, .int .i64 x0_0), (23, .int .i64 x0_1)] [(0, .box [.int .i64 x0_2, .sl true TPiece x0_3]), (1, .box [.int .i64 x0_4, .sl true TPiece x0_5])])
theorem impl_SameFollower.s0 (k : Nat) (n0 : Nat) (x0_0 : Int) (x0_1 : Int) (x0_2 : Int) (x0_3 : List (Ty.den TPiece)) (x0_4 : Int) (x0_5 : List (Ty.den TPiece)) : impl_SameFollower.V0 k (n0 + 1) x0_0 x0_1 x0_2 x0_3 x0_4 x0_5 = impl_SameFollower.b0 k (impl_SameFollower.V0 k n0) x0_0 x0_1 x0_2 x0_3 x0_4 x0_5 := by kernel_rfl
theorem impl_SameFollower.e0 (k : Nat) (n0 : Nat) : impl_SameFollower.V0 k n0 = impl_SameFollower.l0 k n0 := by
  induction n0 with
  | zero => rfl
  | succ n0 ih =>
    have h : impl_SameFollower.V0 k (n0 + 1) = impl_SameFollower.b0 k (impl_SameFollower.V0 k n0) := funext fun x0_0 => funext fun x0_1 => funext fun x0_2 => funext fun x0_3 => funext fun x0_4 => funext fun x0_5 => impl_SameFollower.s0 k n0 x0_0 x0_1 x0_2 x0_3 x0_4 x0_5
    rw [h, ih]
    rfl
theorem impl_SameFollower.q (k : Nat) (a0 : Ty.den TFollower) (a1 : Ty.den TFollower) : run (impl_SameFollower.E k) Try.f28 [TFollower, TFollower] [.bool] true (a0, a1, ()) = impl_SameFollower.t k (impl_SameFollower.V0 k k) a0 a1 := by kernel_rfl
theorem impl_SameFollower.eq (k : Nat) (a0 : Ty.den TFollower) (a1 : Ty.den TFollower) : run (impl_SameFollower.E k) Try.f28 [TFollower, TFollower] [.bool] true (a0, a1, ()) = impl_SameFollower.f k a0 a1 := by
  rw [impl_SameFollower.q, impl_SameFollower.e0]
  rfl
theorem impl_SameFollower.ctr (k : Nat) : Ctr Try.prog 28 ⟨[TFollower, TFollower], [.bool], true, fun x => impl_SameFollower.f k x.1 x.2.1⟩ :=
  run_ctr (E := impl_SameFollower.E k) mixed tb_ok (eqOk_of tb_eqs) Cts.nil Try.func28 (by kernel_rfl) rfl (fun ⟨a0, a1, _⟩ r h => (impl_SameFollower.eq k a0 a1).trans h)
def laws_eqPiece.E (k : Nat) : Env := ⟨tb, [], [], k⟩
theorem laws_eqPiece.q (k : Nat) (a0 : Ty.den TPiece) (a1 : Ty.den TPiece) : run (laws_eqPiece.E k) Try.f120 [TPiece, TPiece] [.bool] true (a0, a1, ()) = laws_eqPiece.t k a0 a1 := by kernel_rfl
theorem laws_eqPiece.eq (k : Nat) (a0 : Ty.den TPiece) (a1 : Ty.den TPiece) : run (laws_eqPiece.E k) Try.f120 [TPiece, TPiece] [.bool] true (a0, a1, ()) = laws_eqPiece.f k a0 a1 := by
  rw [laws_eqPiece.q]
  rfl
theorem laws_eqPiece.ctr (k : Nat) : Ctr Try.prog 120 ⟨[TPiece, TPiece], [.bool], true, fun x => laws_eqPiece.f k x.1 x.2.1⟩ :=
  run_ctr (E := laws_eqPiece.E k) mixed tb_ok (eqOk_of tb_eqs) Cts.nil Try.func120 (by kernel_rfl) rfl (fun ⟨a0, a1, _⟩ r h => (laws_eqPiece.eq k a0 a1).trans h)
def laws_eqPieceS.E (k : Nat) : Env := ⟨tb, [(120, ⟨[TPiece, TPiece], [.bool], true, fun x => laws_eqPiece.f k x.1 x.2.1⟩)], [(4, [0, 1, 5])], k⟩
noncomputable def laws_eqPieceS.K0 (k : Nat) : Ex → St → Option (Bool × Unit) := runK (laws_eqPieceS.E k) (endK (laws_eqPieceS.E k) Try.f84.results.toList [.bool] true) [.blk 0, .code (at_ [true, true, true] (body Try.f84))]
noncomputable def laws_eqPieceS.B0 (k : Nat) (n0 : Nat) : Ex → St → Option (Bool × Unit) := fun e st => match e with
  | .normal => loopN (exec (laws_eqPieceS.E k) (at_ [true, true, false, true, false, false] (body Try.f84))) (canon [0, 1, 5]) (laws_eqPieceS.K0 k) n0 (canon [0, 1, 5] st)
  | .ret => laws_eqPieceS.K0 k .ret st
  | .exit j => laws_eqPieceS.K0 k (.exit j) st
noncomputable def laws_eqPieceS.V0 (k : Nat) (n0 : Nat) (x0_0 : List (Ty.den TPiece)) (x0_1 : List (Ty.den TPiece)) (x0_2 : Int) : Option (Bool × Unit) := loopN (exec (laws_eqPieceS.E k) (at_ [true, true, false, true, false, false] (body Try.f84))) (canon [0, 1, 5]) (laws_eqPieceS.K0 k) n0 (mk 27 [(0, .sl true TPiece x0_0), (1, .sl true TPiece x0_1), (5, .int .i64 x0_2)] [])
theorem laws_eqPieceS.s0 (k : Nat) (n0 : Nat) (x0_0 : List (Ty.den TPiece)) (x0_1 : List (Ty.den TPiece)) (x0_2 : Int) : laws_eqPieceS.V0 k (n0 + 1) x0_0 x0_1 x0_2 = laws_eqPieceS.b0 k (laws_eqPieceS.V0 k n0) x0_0 x0_1 x0_2 := by kernel_rfl
theorem laws_eqPieceS.e0 (k : Nat) (n0 : Nat) : laws_eqPieceS.V0 k n0 = laws_eqPieceS.l0 k n0 := by
  induction n0 with
  | zero => rfl
  | succ n0 ih =>
    have h : laws_eqPieceS.V0 k (n0 + 1) = laws_eqPieceS.b0 k (laws_eqPieceS.V0 k n0) := funext fun x0_0 => funext fun x0_1 => funext fun x0_2 => laws_eqPieceS.s0 k n0 x0_0 x0_1 x0_2
    rw [h, ih]
    rfl
theorem laws_eqPieceS.q (k : Nat) (a0 : List (Ty.den TPiece)) (a1 : List (Ty.den TPiece)) : run (laws_eqPieceS.E k) Try.f84 [(.slice TPiece), (.slice TPiece)] [.bool] true (a0, a1, ()) = laws_eqPieceS.t k (laws_eqPieceS.V0 k k) a0 a1 := by kernel_rfl
theorem laws_eqPieceS.eq (k : Nat) (a0 : List (Ty.den TPiece)) (a1 : List (Ty.den TPiece)) : run (laws_eqPieceS.E k) Try.f84 [(.slice TPiece), (.slice TPiece)] [.bool] true (a0, a1, ()) = laws_eqPieceS.f k a0 a1 := by
  rw [laws_eqPieceS.q, laws_eqPieceS.e0]
  rfl
theorem laws_eqPieceS.ctr (k : Nat) : Ctr Try.prog 84 ⟨[(.slice TPiece), (.slice TPiece)], [.bool], true, fun x => laws_eqPieceS.f k x.1 x.2.1⟩ :=
  run_ctr (E := laws_eqPieceS.E k) mixed tb_ok (eqOk_of tb_eqs) (Cts.cons (laws_eqPiece.ctr k) Cts.nil) Try.func84 (by kernel_rfl) rfl (fun ⟨a0, a1, _⟩ r h => (laws_eqPieceS.eq k a0 a1).trans h)
def laws_eqFollower.E (k : Nat) : Env := ⟨tb, [(84, ⟨[(.slice TPiece), (.slice TPiece)], [.bool], true, fun x => laws_eqPieceS.f k x.1 x.2.1⟩)], [], k⟩
theorem laws_eqFollower.q (k : Nat) (a0 : Ty.den TFollower) (a1 : Ty.den TFollower) : run (laws_eqFollower.E k) Try.f29 [TFollower, TFollower] [.bool] true (a0, a1, ()) = laws_eqFollower.t k a0 a1 := by kernel_rfl
theorem laws_eqFollower.eq (k : Nat) (a0 : Ty.den TFollower) (a1 : Ty.den TFollower) : run (laws_eqFollower.E k) Try.f29 [TFollower, TFollower] [.bool] true (a0, a1, ()) = laws_eqFollower.f k a0 a1 := by
  rw [laws_eqFollower.q]
  rfl
theorem laws_eqFollower.ctr (k : Nat) : Ctr Try.prog 29 ⟨[TFollower, TFollower], [.bool], true, fun x => laws_eqFollower.f k x.1 x.2.1⟩ :=
  run_ctr (E := laws_eqFollower.E k) mixed tb_ok (eqOk_of tb_eqs) (Cts.cons (laws_eqPieceS.ctr k) Cts.nil) Try.func29 (by kernel_rfl) rfl (fun ⟨a0, a1, _⟩ r h => (laws_eqFollower.eq k a0 a1).trans h)
def laws_FnExactSameFollower.E (k : Nat) : Env := ⟨tb, [(25, ⟨[TFollower, (.int .i64)], [(.int .i64)], true, fun x => laws_szFollower.f k x.1 x.2.1⟩), (27, ⟨[TFollower], [TFollower], true, fun x => laws_toFollower.f k x.1⟩), (26, ⟨[TFollower, TFollower], [.bool], true, fun x => spec_SameFollower.f k x.1 x.2.1⟩), (28, ⟨[TFollower, TFollower], [.bool], true, fun x => impl_SameFollower.f k x.1 x.2.1⟩), (29, ⟨[TFollower, TFollower], [.bool], true, fun x => laws_eqFollower.f k x.1 x.2.1⟩)], [], k⟩
theorem laws_FnExactSameFollower.q (k : Nat) (a0 : Ty.den TFollower) (a1 : Ty.den TFollower) : run (laws_FnExactSameFollower.E k) Try.f5 [TFollower, TFollower] [.bool] true (a0, a1, ()) = laws_FnExactSameFollower.t k a0 a1 := by kernel_rfl
theorem laws_FnExactSameFollower.eq (k : Nat) (a0 : Ty.den TFollower) (a1 : Ty.den TFollower) : run (laws_FnExactSameFollower.E k) Try.f5 [TFollower, TFollower] [.bool] true (a0, a1, ()) = laws_FnExactSameFollower.f k a0 a1 := by
  rw [laws_FnExactSameFollower.q]
  rfl
theorem laws_FnExactSameFollower.ctr (k : Nat) : Ctr Try.prog 5 ⟨[TFollower, TFollower], [.bool], true, fun x => laws_FnExactSameFollower.f k x.1 x.2.1⟩ :=
  run_ctr (E := laws_FnExactSameFollower.E k) mixed tb_ok (eqOk_of tb_eqs) (Cts.cons (laws_szFollower.ctr k) (Cts.cons (laws_toFollower.ctr k) (Cts.cons (spec_SameFollower.ctr k) (Cts.cons (impl_SameFollower.ctr k) (Cts.cons (laws_eqFollower.ctr k) Cts.nil))))) Try.func5 (by kernel_rfl) rfl (fun ⟨a0, a1, _⟩ r h => (laws_FnExactSameFollower.eq k a0 a1).trans h)
def laws_szSlot.E (k : Nat) : Env := ⟨tb, [], [], k⟩
theorem laws_szSlot.q (k : Nat) (a0 : Ty.den TSlot) (a1 : Int) : run (laws_szSlot.E k) Try.f122 [TSlot, (.int .i64)] [(.int .i64)] true (a0, a1, ()) = laws_szSlot.t k a0 a1 := by kernel_rfl
theorem laws_szSlot.eq (k : Nat) (a0 : Ty.den TSlot) (a1 : Int) : run (laws_szSlot.E k) Try.f122 [TSlot, (.int .i64)] [(.int .i64)] true (a0, a1, ()) = laws_szSlot.f k a0 a1 := by
  rw [laws_szSlot.q]
  rfl
theorem laws_szSlot.ctr (k : Nat) : Ctr Try.prog 122 ⟨[TSlot, (.int .i64)], [(.int .i64)], true, fun x => laws_szSlot.f k x.1 x.2.1⟩ :=
  run_ctr (E := laws_szSlot.E k) mixed tb_ok (eqOk_of tb_eqs) Cts.nil Try.func122 (by kernel_rfl) rfl (fun ⟨a0, a1, _⟩ r h => (laws_szSlot.eq k a0 a1).trans h)
def laws_szSlotS.E (k : Nat) : Env := ⟨tb, [(122, ⟨[TSlot, (.int .i64)], [(.int .i64)], true, fun x => laws_szSlot.f k x.1 x.2.1⟩)], [(5, [0, 1, 5])], k⟩
noncomputable def laws_szSlotS.K0 (k : Nat) : Ex → St → Option (Int × Unit) := runK (laws_szSlotS.E k) (endK (laws_szSlotS.E k) Try.f88.results.toList [(.int .i64)] true) [.blk 0, .code (at_ [true, true, true, true] (body Try.f88))]
noncomputable def laws_szSlotS.B0 (k : Nat) (n0 : Nat) : Ex → St → Option (Int × Unit) := fun e st => match e with
  | .normal => loopN (exec (laws_szSlotS.E k) (at_ [true, true, true, false, true, false, false] (body Try.f88))) (canon [0, 1, 5]) (laws_szSlotS.K0 k) n0 (canon [0, 1, 5] st)
  | .ret => laws_szSlotS.K0 k .ret st
  | .exit j => laws_szSlotS.K0 k (.exit j) st
noncomputable def laws_szSlotS.V0 (k : Nat) (n0 : Nat) (x0_0 : List (Ty.den TSlot)) (x0_1 : Int) (x0_2 : Int) : Option (Int × Unit) := loopN (exec (laws_szSlotS.E k) (at_ [true, true, true, false, true, false, false] (body Try.f88))) (canon [0, 1, 5]) (laws_szSlotS.K0 k) n0 (mk 27 [(0, .sl true TSlot x0_0), (1, .int .i64 x0_1), (5, .int .i64 x0_2)] [])
theorem laws_szSlotS.s0 (k : Nat) (n0 : Nat) (x0_0 : List (Ty.den TSlot)) (x0_1 : Int) (x0_2 : Int) : laws_szSlotS.V0 k (n0 + 1) x0_0 x0_1 x0_2 = laws_szSlotS.b0 k (laws_szSlotS.V0 k n0) x0_0 x0_1 x0_2 := by kernel_rfl
theorem laws_szSlotS.e0 (k : Nat) (n0 : Nat) : laws_szSlotS.V0 k n0 = laws_szSlotS.l0 k n0 := by
  induction n0 with
  | zero => rfl
  | succ n0 ih =>
    have h : laws_szSlotS.V0 k (n0 + 1) = laws_szSlotS.b0 k (laws_szSlotS.V0 k n0) := funext fun x0_0 => funext fun x0_1 => funext fun x0_2 => laws_szSlotS.s0 k n0 x0_0 x0_1 x0_2
    rw [h, ih]
    rfl
theorem laws_szSlotS.q (k : Nat) (a0 : List (Ty.den TSlot)) (a1 : Int) : run (laws_szSlotS.E k) Try.f88 [(.slice TSlot), (.int .i64)] [(.int .i64)] true (a0, a1, ()) = laws_szSlotS.t k (laws_szSlotS.V0 k k) a0 a1 := by kernel_rfl
theorem laws_szSlotS.eq (k : Nat) (a0 : List (Ty.den TSlot)) (a1 : Int) : run (laws_szSlotS.E k) Try.f88 [(.slice TSlot), (.int .i64)] [(.int .i64)] true (a0, a1, ()) = laws_szSlotS.f k a0 a1 := by
  rw [laws_szSlotS.q, laws_szSlotS.e0]
  rfl
theorem laws_szSlotS.ctr (k : Nat) : Ctr Try.prog 88 ⟨[(.slice TSlot), (.int .i64)], [(.int .i64)], true, fun x => laws_szSlotS.f k x.1 x.2.1⟩ :=
  run_ctr (E := laws_szSlotS.E k) mixed tb_ok (eqOk_of tb_eqs) (Cts.cons (laws_szSlot.ctr k) Cts.nil) Try.func88 (by kernel_rfl) rfl (fun ⟨a0, a1, _⟩ r h => (laws_szSlotS.eq k a0 a1).trans h)
def laws_szCache.E (k : Nat) : Env := ⟨tb, [(88, ⟨[(.slice TSlot), (.int .i64)], [(.int .i64)], true, fun x => laws_szSlotS.f k x.1 x.2.1⟩)], [], k⟩
theorem laws_szCache.q (k : Nat) (a0 : Ty.den TCache) (a1 : Int) : run (laws_szCache.E k) Try.f35 [TCache, (.int .i64)] [(.int .i64)] true (a0, a1, ()) = laws_szCache.t k a0 a1 := by kernel_rfl
theorem laws_szCache.eq (k : Nat) (a0 : Ty.den TCache) (a1 : Int) : run (laws_szCache.E k) Try.f35 [TCache, (.int .i64)] [(.int .i64)] true (a0, a1, ()) = laws_szCache.f k a0 a1 := by
  rw [laws_szCache.q]
  rfl
theorem laws_szCache.ctr (k : Nat) : Ctr Try.prog 35 ⟨[TCache, (.int .i64)], [(.int .i64)], true, fun x => laws_szCache.f k x.1 x.2.1⟩ :=
  run_ctr (E := laws_szCache.E k) mixed tb_ok (eqOk_of tb_eqs) (Cts.cons (laws_szSlotS.ctr k) Cts.nil) Try.func35 (by kernel_rfl) rfl (fun ⟨a0, a1, _⟩ r h => (laws_szCache.eq k a0 a1).trans h)
def laws_toSlot.E (k : Nat) : Env := ⟨tb, [], [], k⟩
theorem laws_toSlot.q (k : Nat) (a0 : Ty.den TSlot) : run (laws_toSlot.E k) Try.f123 [TSlot] [TSlot] true (a0, ()) = laws_toSlot.t k a0 := by kernel_rfl
theorem laws_toSlot.eq (k : Nat) (a0 : Ty.den TSlot) : run (laws_toSlot.E k) Try.f123 [TSlot] [TSlot] true (a0, ()) = laws_toSlot.f k a0 := by
  rw [laws_toSlot.q]
  rfl
theorem laws_toSlot.ctr (k : Nat) : Ctr Try.prog 123 ⟨[TSlot], [TSlot], true, fun x => laws_toSlot.f k x.1⟩ :=
  run_ctr (E := laws_toSlot.E k) mixed tb_ok (eqOk_of tb_eqs) Cts.nil Try.func123 (by kernel_rfl) rfl (fun ⟨a0, _⟩ r h => (laws_toSlot.eq k a0).trans h)
def laws_toSlotS.E (k : Nat) : Env := ⟨tb, [(123, ⟨[TSlot], [TSlot], true, fun x => laws_toSlot.f k x.1⟩)], [(3, [0, 3, 4])], k⟩
noncomputable def laws_toSlotS.K0 (k : Nat) : Ex → St → Option ((List (Ty.den TSlot)) × Unit) := runK (laws_toSlotS.E k) (endK (laws_toSlotS.E k) Try.f89.results.toList [(.slice TSlot)] true) [.blk 0, .code (at_ [true, true, true] (body Try.f89))]
noncomputable def laws_toSlotS.B0 (k : Nat) (n0 : Nat) : Ex → St → Option ((List (Ty.den TSlot)) × Unit) := fun e st => match e with
  | .normal => loopN (exec (laws_toSlotS.E k) (at_ [true, true, false, true, false, false] (body Try.f89))) (canon [0, 3, 4]) (laws_toSlotS.K0 k) n0 (canon [0, 3, 4] st)
  | .ret => laws_toSlotS.K0 k .ret st
  | .exit j => laws_toSlotS.K0 k (.exit j) st
noncomputable def laws_toSlotS.V0 (k : Nat) (n0 : Nat) (x0_0 : List (Ty.den TSlot)) (x0_1 : Int) (x0_2 : List (Ty.den TSlot)) : Option ((List (Ty.den TSlot)) × Unit) := loopN (exec (laws_toSlotS.E k) (at_ [true, true, false, true, false, false] (body Try.f89))) (canon [0, 3, 4]) (laws_toSlotS.K0 k) n0 (mk 23 [(0, .sl true TSlot x0_0), (3, .ref 0), (4, .int .i64 x0_1)] [(0, .own false TSlot x0_2)])
theorem laws_toSlotS.s0 (k : Nat) (n0 : Nat) (x0_0 : List (Ty.den TSlot)) (x0_1 : Int) (x0_2 : List (Ty.den TSlot)) : laws_toSlotS.V0 k (n0 + 1) x0_0 x0_1 x0_2 = laws_toSlotS.b0 k (laws_toSlotS.V0 k n0) x0_0 x0_1 x0_2 := by kernel_rfl
theorem laws_toSlotS.e0 (k : Nat) (n0 : Nat) : laws_toSlotS.V0 k n0 = laws_toSlotS.l0 k n0 := by
  induction n0 with
  | zero => rfl
  | succ n0 ih =>
    have h : laws_toSlotS.V0 k (n0 + 1) = laws_toSlotS.b0 k (laws_toSlotS.V0 k n0) := funext fun x0_0 => funext fun x0_1 => funext fun x0_2 => laws_toSlotS.s0 k n0 x0_0 x0_1 x0_2
    rw [h, ih]
    rfl
theorem laws_toSlotS.q (k : Nat) (a0 : List (Ty.den TSlot)) : run (laws_toSlotS.E k) Try.f89 [(.slice TSlot)] [(.slice TSlot)] true (a0, ()) = laws_toSlotS.t k (laws_toSlotS.V0 k k) a0 := by kernel_rfl
theorem laws_toSlotS.eq (k : Nat) (a0 : List (Ty.den TSlot)) : run (laws_toSlotS.E k) Try.f89 [(.slice TSlot)] [(.slice TSlot)] true (a0, ()) = laws_toSlotS.f k a0 := by
  rw [laws_toSlotS.q, laws_toSlotS.e0]
  rfl
theorem laws_toSlotS.ctr (k : Nat) : Ctr Try.prog 89 ⟨[(.slice TSlot)], [(.slice TSlot)], true, fun x => laws_toSlotS.f k x.1⟩ :=
  run_ctr (E := laws_toSlotS.E k) mixed tb_ok (eqOk_of tb_eqs) (Cts.cons (laws_toSlot.ctr k) Cts.nil) Try.func89 (by kernel_rfl) rfl (fun ⟨a0, _⟩ r h => (laws_toSlotS.eq k a0).trans h)
def laws_toCache.E (k : Nat) : Env := ⟨tb, [(89, ⟨[(.slice TSlot)], [(.slice TSlot)], true, fun x => laws_toSlotS.f k x.1⟩)], [], k⟩
theorem laws_toCache.q (k : Nat) (a0 : Ty.den TCache) : run (laws_toCache.E k) Try.f37 [TCache] [TCache] true (a0, ()) = laws_toCache.t k a0 := by kernel_rfl
theorem laws_toCache.eq (k : Nat) (a0 : Ty.den TCache) : run (laws_toCache.E k) Try.f37 [TCache] [TCache] true (a0, ()) = laws_toCache.f k a0 := by
  rw [laws_toCache.q]
  rfl
theorem laws_toCache.ctr (k : Nat) : Ctr Try.prog 37 ⟨[TCache], [TCache], true, fun x => laws_toCache.f k x.1⟩ :=
  run_ctr (E := laws_toCache.E k) mixed tb_ok (eqOk_of tb_eqs) (Cts.cons (laws_toSlotS.ctr k) Cts.nil) Try.func37 (by kernel_rfl) rfl (fun ⟨a0, _⟩ r h => (laws_toCache.eq k a0).trans h)
def spec_CacheOk.E (k : Nat) : Env := ⟨tb, [(74, ⟨[(.int .i64), (.int .i64), (.int .i64)], [.bool], true, fun x => spec_l1In.f k x.1 x.2.1 x.2.2.1⟩)], [(4, [1, 3]), (7, [1, 3, 4])], k⟩
noncomputable def spec_CacheOk.K0 (k : Nat) : Ex → St → Option (Bool × Unit) := runK (spec_CacheOk.E k) (endK (spec_CacheOk.E k) Try.f36.results.toList [.bool] true) [.blk 0, .code (at_ [true, true, true] (body Try.f36))]
noncomputable def spec_CacheOk.B0 (k : Nat) (n0 : Nat) : Ex → St → Option (Bool × Unit) := fun e st => match e with
  | .normal => loopN (exec (spec_CacheOk.E k) (at_ [true, true, false, true, false, false] (body Try.f36))) (canon [1, 3]) (spec_CacheOk.K0 k) n0 (canon [1, 3] st)
  | .ret => spec_CacheOk.K0 k .ret st
  | .exit j => spec_CacheOk.K0 k (.exit j) st
noncomputable def spec_CacheOk.V0 (k : Nat) (n0 : Nat) (x0_0 : Int) (x0_1 : Int) (x0_2 : List (Ty.den TSlot)) (x0_3 : Int) : Option (Bool × Unit) := loopN (exec (spec_CacheOk.E k) (at_ [true, true, false, true, false, false] (body Try.f36))) (canon [1, 3]) (spec_CacheOk.K0 k) n0 (mk 47 [(1, .ptr 0 0 0), (3, .int .i64 x0_0)] [(0, .box [.int .i64 x0_1, .sl true TSlot x0_2, .int .i64 x0_3])])
noncomputable def spec_CacheOk.K1 (k : Nat) (n0 : Nat) : Ex → St → Option (Bool × Unit) := runK (spec_CacheOk.E k) (spec_CacheOk.B0 k n0) [.blk 2, .blk 1, .code (at_ [true, true, false, true, false, false, true, true] (body Try.f36))]
noncomputable def spec_CacheOk.B1 (k : Nat) (n0 n1 : Nat) : Ex → St → Option (Bool × Unit) := fun e st => match e with
  | .normal => loopN (exec (spec_CacheOk.E k) (at_ [true, true, false, true, false, false, true, false, false, true, false, false] (body Try.f36))) (canon [1, 3, 4]) (spec_CacheOk.K1 k n0) n1 (canon [1, 3, 4] st)
  | .ret => spec_CacheOk.K1 k n0 .ret st
  | .exit j => spec_CacheOk.K1 k n0 (.exit j) st
noncomputable def spec_CacheOk.V1 (k : Nat) (n0 n1 : Nat) (x1_0 : Int) (x1_1 : Int) (x1_2 : Int) (x1_3 : List (Ty.den TSlot)) (x1_4 : Int) : Option (Bool × Unit) := loopN (exec (spec_CacheOk.E k) (at_ [true, true, false, true, false, false, true, false, false, true, false, false] (body Try.f36))) (canon [1, 3, 4]) (spec_CacheOk.K1 k n0) n1 (mk 47 [(1, .ptr 0 0 0), (3, .int .i64 x1_0), (4, .int .i64 x1_1)] [(0, .box [.int .i64 x1_2, .sl true TSlot x1_3, .int .i64 x1_4])])
theorem spec_CacheOk.s0 (k : Nat) (n0 : Nat) (x0_0 : Int) (x0_1 : Int) (x0_2 : List (Ty.den TSlot)) (x0_3 : Int) : spec_CacheOk.V0 k (n0 + 1) x0_0 x0_1 x0_2 x0_3 = spec_CacheOk.b0 k (spec_CacheOk.V1 k n0 k) (spec_CacheOk.V0 k n0) x0_0 x0_1 x0_2 x0_3 := by kernel_rfl
theorem spec_CacheOk.s1 (k : Nat) (n0 n1 : Nat) (x1_0 : Int) (x1_1 : Int) (x1_2 : Int) (x1_3 : List (Ty.den TSlot)) (x1_4 : Int) : spec_CacheOk.V1 k n0 (n1 + 1) x1_0 x1_1 x1_2 x1_3 x1_4 = spec_CacheOk.b1 k (spec_CacheOk.V0 k n0) (spec_CacheOk.V1 k n0 n1) x1_0 x1_1 x1_2 x1_3 x1_4 := by kernel_rfl
theorem spec_CacheOk.e1 (k : Nat) (n0 n1 : Nat) : spec_CacheOk.V1 k n0 n1 = spec_CacheOk.l1 k (spec_CacheOk.V0 k n0) n1 := by
  induction n1 with
  | zero => rfl
  | succ n1 ih =>
    have h : spec_CacheOk.V1 k n0 (n1 + 1) = spec_CacheOk.b1 k (spec_CacheOk.V0 k n0) (spec_CacheOk.V1 k n0 n1) := funext fun x1_0 => funext fun x1_1 => funext fun x1_2 => funext fun x1_3 => funext fun x1_4 => spec_CacheOk.s1 k n0 n1 x1_0 x1_1 x1_2 x1_3 x1_4
    rw [h, ih]
    rfl
theorem spec_CacheOk.e0 (k : Nat) (n0 : Nat) : spec_CacheOk.V0 k n0 = spec_CacheOk.l0 k n0 := by
  induction n0 with
  | zero => rfl
  | succ n0 ih =>
    have h : spec_CacheOk.V0 k (n0 + 1) = spec_CacheOk.b0 k (spec_CacheOk.V1 k n0 k) (spec_CacheOk.V0 k n0) := funext fun x0_0 => funext fun x0_1 => funext fun x0_2 => funext fun x0_3 => spec_CacheOk.s0 k n0 x0_0 x0_1 x0_2 x0_3
    rw [h, spec_CacheOk.e1, ih]
    rfl
theorem spec_CacheOk.q (k : Nat) (a0 : Ty.den TCache) : run (spec_CacheOk.E k) Try.f36 [TCache] [.bool] true (a0, ()) = spec_CacheOk.t k (spec_CacheOk.V0 k k) a0 := by kernel_rfl
theorem spec_CacheOk.eq (k : Nat) (a0 : Ty.den TCache) : run (spec_CacheOk.E k) Try.f36 [TCache] [.bool] true (a0, ()) = spec_CacheOk.f k a0 := by
  rw [spec_CacheOk.q, spec_CacheOk.e0]
  rfl
theorem spec_CacheOk.ctr (k : Nat) : Ctr Try.prog 36 ⟨[TCache], [.bool], true, fun x => spec_CacheOk.f k x.1⟩ :=
  run_ctr (E := spec_CacheOk.E k) mixed tb_ok (eqOk_of tb_eqs) (Cts.cons (spec_l1In.ctr k) Cts.nil) Try.func36 (by kernel_rfl) rfl (fun ⟨a0, _⟩ r h => (spec_CacheOk.eq k a0).trans h)
def impl_slotAt.E (k : Nat) : Env := ⟨tb, [], [(2, [1, 7, 8, 9])], k⟩
noncomputable def impl_slotAt.K0 (k : Nat) : Ex → St → Option (Int × Unit) := runK (impl_slotAt.E k) (endK (impl_slotAt.E k) Try.f90.results.toList [(.int .i64)] true) [.blk 0, .code (at_ [true, true] (body Try.f90))]
noncomputable def impl_slotAt.B0 (k : Nat) (n0 : Nat) : Ex → St → Option (Int × Unit) := fun e st => match e with
  | .normal => loopN (exec (impl_slotAt.E k) (at_ [true, false, true, false, false] (body Try.f90))) (canon [1, 7, 8, 9]) (impl_slotAt.K0 k) n0 (canon [1, 7, 8, 9] st)
  | .ret => impl_slotAt.K0 k .ret st
  | .exit j => impl_slotAt.K0 k (.exit j) st
noncomputable def impl_slotAt.V0 (k : Nat) (n0 : Nat) (x0_0 : ByteArray) (x0_1 : List (Ty.den TSlot)) (x0_2 : Int) (x0_3 : Int) : Option (Int × Unit) := loopN (exec (impl_slotAt.E k) (at_ [true, false, true, false, false] (body Try.f90))) (canon [1, 7, 8, 9]) (impl_slotAt.K0 k) n0 (mk 20 [(1, .str x0_0), (7, .sl true TSlot x0_1), (8, .int .i64 x0_2), (9, .int .i64 x0_3)] [])
theorem impl_slotAt.s0 (k : Nat) (n0 : Nat) (x0_0 : ByteArray) (x0_1 : List (Ty.den TSlot)) (x0_2 : Int) (x0_3 : Int) : impl_slotAt.V0 k (n0 + 1) x0_0 x0_1 x0_2 x0_3 = impl_slotAt.b0 k (impl_slotAt.V0 k n0) x0_0 x0_1 x0_2 x0_3 := by kernel_rfl
theorem impl_slotAt.e0 (k : Nat) (n0 : Nat) : impl_slotAt.V0 k n0 = impl_slotAt.l0 k n0 := by
  induction n0 with
  | zero => rfl
  | succ n0 ih =>
    have h : impl_slotAt.V0 k (n0 + 1) = impl_slotAt.b0 k (impl_slotAt.V0 k n0) := funext fun x0_0 => funext fun x0_1 => funext fun x0_2 => funext fun x0_3 => impl_slotAt.s0 k n0 x0_0 x0_1 x0_2 x0_3
    rw [h, ih]
    rfl
theorem impl_slotAt.q (k : Nat) (a0 : List (Ty.den TSlot)) (a1 : ByteArray) : run (impl_slotAt.E k) Try.f90 [(.slice TSlot), .str] [(.int .i64)] true (a0, a1, ()) = impl_slotAt.t k (impl_slotAt.V0 k k) a0 a1 := by kernel_rfl
theorem impl_slotAt.eq (k : Nat) (a0 : List (Ty.den TSlot)) (a1 : ByteArray) : run (impl_slotAt.E k) Try.f90 [(.slice TSlot), .str] [(.int .i64)] true (a0, a1, ()) = impl_slotAt.f k a0 a1 := by
  rw [impl_slotAt.q, impl_slotAt.e0]
  rfl
theorem impl_slotAt.ctr (k : Nat) : Ctr Try.prog 90 ⟨[(.slice TSlot), .str], [(.int .i64)], true, fun x => impl_slotAt.f k x.1 x.2.1⟩ :=
  run_ctr (E := impl_slotAt.E k) mixed tb_ok (eqOk_of tb_eqs) Cts.nil Try.func90 (by kernel_rfl) rfl (fun ⟨a0, a1, _⟩ r h => (impl_slotAt.eq k a0 a1).trans h)
def impl_CacheOk.E (k : Nat) : Env := ⟨tb, [(90, ⟨[(.slice TSlot), .str], [(.int .i64)], true, fun x => impl_slotAt.f k x.1 x.2.1⟩), (77, ⟨[(.int .i64), (.int .i64), (.int .i64)], [.bool], true, fun x => impl_in.f k x.1 x.2.1 x.2.2.1⟩)], [(2, [1, 6, 7, 8])], k⟩
noncomputable def impl_CacheOk.K0 (k : Nat) : Ex → St → Option (Bool × Unit) := runK (impl_CacheOk.E k) (endK (impl_CacheOk.E k) Try.f38.results.toList [.bool] true) [.blk 0, .code (at_ [true, true] (body Try.f38))]
noncomputable def impl_CacheOk.B0 (k : Nat) (n0 : Nat) : Ex → St → Option (Bool × Unit) := fun e st => match e with
  | .normal => loopN (exec (impl_CacheOk.E k) (at_ [true, false, true, false, false] (body Try.f38))) (canon [1, 6, 7, 8]) (impl_CacheOk.K0 k) n0 (canon [1, 6, 7, 8] st)
  | .ret => impl_CacheOk.K0 k .ret st
  | .exit j => impl_CacheOk.K0 k (.exit j) st
noncomputable def impl_CacheOk.V0 (k : Nat) (n0 : Nat) (x0_0 : List (Ty.den TSlot)) (x0_1 : Int) (x0_2 : Int) (x0_3 : Int) (x0_4 : List (Ty.den TSlot)) (x0_5 : Int) : Option (Bool × Unit) := loopN (exec (impl_CacheOk.E k) (at_ [true, false, true, false, false] (body Try.f38))) (canon [1, 6, 7, 8]) (impl_CacheOk.K0 k) n0 (mk 38 [(1, .ptr 0 0 0), (6, .sl true TSlot x0_0), (7, .int .i64 x0_1), (8, .int .i64 x0_2)] [(0, .box [.int .i64 x0_3, .sl true TSlot x0_4, .int .i64 x0_5])])
theorem impl_CacheOk.s0 (k : Nat) (n0 : Nat) (x0_0 : List (Ty.den TSlot)) (x0_1 : Int) (x0_2 : Int) (x0_3 : Int) (x0_4 : List (Ty.den TSlot)) (x0_5 : Int) : impl_CacheOk.V0 k (n0 + 1) x0_0 x0_1 x0_2 x0_3 x0_4 x0_5 = impl_CacheOk.b0 k (impl_CacheOk.V0 k n0) x0_0 x0_1 x0_2 x0_3 x0_4 x0_5 := by kernel_rfl
theorem impl_CacheOk.e0 (k : Nat) (n0 : Nat) : impl_CacheOk.V0 k n0 = impl_CacheOk.l0 k n0 := by
  induction n0 with
  | zero => rfl
  | succ n0 ih =>
    have h : impl_CacheOk.V0 k (n0 + 1) = impl_CacheOk.b0 k (impl_CacheOk.V0 k n0) := funext fun x0_0 => funext fun x0_1 => funext fun x0_2 => funext fun x0_3 => funext fun x0_4 => funext fun x0_5 => impl_CacheOk.s0 k n0 x0_0 x0_1 x0_2 x0_3 x0_4 x0_5
    rw [h, ih]
    rfl
theorem impl_CacheOk.q (k : Nat) (a0 : Ty.den TCache) : run (impl_CacheOk.E k) Try.f38 [TCache] [.bool] true (a0, ()) = impl_CacheOk.t k (impl_CacheOk.V0 k k) a0 := by kernel_rfl
theorem impl_CacheOk.eq (k : Nat) (a0 : Ty.den TCache) : run (impl_CacheOk.E k) Try.f38 [TCache] [.bool] true (a0, ()) = impl_CacheOk.f k a0 := by
  rw [impl_CacheOk.q, impl_CacheOk.e0]
  rfl
theorem impl_CacheOk.ctr (k : Nat) : Ctr Try.prog 38 ⟨[TCache], [.bool], true, fun x => impl_CacheOk.f k x.1⟩ :=
  run_ctr (E := impl_CacheOk.E k) mixed tb_ok (eqOk_of tb_eqs) (Cts.cons (impl_slotAt.ctr k) (Cts.cons (impl_in.ctr k) Cts.nil)) Try.func38 (by kernel_rfl) rfl (fun ⟨a0, _⟩ r h => (impl_CacheOk.eq k a0).trans h)
def laws_eqSlot.E (k : Nat) : Env := ⟨tb, [], [], k⟩
theorem laws_eqSlot.q (k : Nat) (a0 : Ty.den TSlot) (a1 : Ty.den TSlot) : run (laws_eqSlot.E k) Try.f121 [TSlot, TSlot] [.bool] true (a0, a1, ()) = laws_eqSlot.t k a0 a1 := by kernel_rfl
theorem laws_eqSlot.eq (k : Nat) (a0 : Ty.den TSlot) (a1 : Ty.den TSlot) : run (laws_eqSlot.E k) Try.f121 [TSlot, TSlot] [.bool] true (a0, a1, ()) = laws_eqSlot.f k a0 a1 := by
  rw [laws_eqSlot.q]
  rfl
theorem laws_eqSlot.ctr (k : Nat) : Ctr Try.prog 121 ⟨[TSlot, TSlot], [.bool], true, fun x => laws_eqSlot.f k x.1 x.2.1⟩ :=
  run_ctr (E := laws_eqSlot.E k) mixed tb_ok (eqOk_of tb_eqs) Cts.nil Try.func121 (by kernel_rfl) rfl (fun ⟨a0, a1, _⟩ r h => (laws_eqSlot.eq k a0 a1).trans h)
def laws_eqSlotS.E (k : Nat) : Env := ⟨tb, [(121, ⟨[TSlot, TSlot], [.bool], true, fun x => laws_eqSlot.f k x.1 x.2.1⟩)], [(4, [0, 1, 5])], k⟩
noncomputable def laws_eqSlotS.K0 (k : Nat) : Ex → St → Option (Bool × Unit) := runK (laws_eqSlotS.E k) (endK (laws_eqSlotS.E k) Try.f85.results.toList [.bool] true) [.blk 0, .code (at_ [true, true, true] (body Try.f85))]
noncomputable def laws_eqSlotS.B0 (k : Nat) (n0 : Nat) : Ex → St → Option (Bool × Unit) := fun e st => match e with
  | .normal => loopN (exec (laws_eqSlotS.E k) (at_ [true, true, false, true, false, false] (body Try.f85))) (canon [0, 1, 5]) (laws_eqSlotS.K0 k) n0 (canon [0, 1, 5] st)
  | .ret => laws_eqSlotS.K0 k .ret st
  | .exit j => laws_eqSlotS.K0 k (.exit j) st
noncomputable def laws_eqSlotS.V0 (k : Nat) (n0 : Nat) (x0_0 : List (Ty.den TSlot)) (x0_1 : List (Ty.den TSlot)) (x0_2 : Int) : Option (Bool × Unit) := loopN (exec (laws_eqSlotS.E k) (at_ [true, true, false, true, false, false] (body Try.f85))) (canon [0, 1, 5]) (laws_eqSlotS.K0 k) n0 (mk 27 [(0, .sl true TSlot x0_0), (1, .sl true TSlot x0_1), (5, .int .i64 x0_2)] [])
theorem laws_eqSlotS.s0 (k : Nat) (n0 : Nat) (x0_0 : List (Ty.den TSlot)) (x0_1 : List (Ty.den TSlot)) (x0_2 : Int) : laws_eqSlotS.V0 k (n0 + 1) x0_0 x0_1 x0_2 = laws_eqSlotS.b0 k (laws_eqSlotS.V0 k n0) x0_0 x0_1 x0_2 := by kernel_rfl
theorem laws_eqSlotS.e0 (k : Nat) (n0 : Nat) : laws_eqSlotS.V0 k n0 = laws_eqSlotS.l0 k n0 := by
  induction n0 with
  | zero => rfl
  | succ n0 ih =>
    have h : laws_eqSlotS.V0 k (n0 + 1) = laws_eqSlotS.b0 k (laws_eqSlotS.V0 k n0) := funext fun x0_0 => funext fun x0_1 => funext fun x0_2 => laws_eqSlotS.s0 k n0 x0_0 x0_1 x0_2
    rw [h, ih]
    rfl
theorem laws_eqSlotS.q (k : Nat) (a0 : List (Ty.den TSlot)) (a1 : List (Ty.den TSlot)) : run (laws_eqSlotS.E k) Try.f85 [(.slice TSlot), (.slice TSlot)] [.bool] true (a0, a1, ()) = laws_eqSlotS.t k (laws_eqSlotS.V0 k k) a0 a1 := by kernel_rfl
theorem laws_eqSlotS.eq (k : Nat) (a0 : List (Ty.den TSlot)) (a1 : List (Ty.den TSlot)) : run (laws_eqSlotS.E k) Try.f85 [(.slice TSlot), (.slice TSlot)] [.bool] true (a0, a1, ()) = laws_eqSlotS.f k a0 a1 := by
  rw [laws_eqSlotS.q, laws_eqSlotS.e0]
  rfl
theorem laws_eqSlotS.ctr (k : Nat) : Ctr Try.prog 85 ⟨[(.slice TSlot), (.slice TSlot)], [.bool], true, fun x => laws_eqSlotS.f k x.1 x.2.1⟩ :=
  run_ctr (E := laws_eqSlotS.E k) mixed tb_ok (eqOk_of tb_eqs) (Cts.cons (laws_eqSlot.ctr k) Cts.nil) Try.func85 (by kernel_rfl) rfl (fun ⟨a0, a1, _⟩ r h => (laws_eqSlotS.eq k a0 a1).trans h)
def laws_eqCache.E (k : Nat) : Env := ⟨tb, [(85, ⟨[(.slice TSlot), (.slice TSlot)], [.bool], true, fun x => laws_eqSlotS.f k x.1 x.2.1⟩)], [], k⟩
theorem laws_eqCache.q (k : Nat) (a0 : Ty.den TCache) (a1 : Ty.den TCache) : run (laws_eqCache.E k) Try.f32 [TCache, TCache] [.bool] true (a0, a1, ()) = laws_eqCache.t k a0 a1 := by kernel_rfl
theorem laws_eqCache.eq (k : Nat) (a0 : Ty.den TCache) (a1 : Ty.den TCache) : run (laws_eqCache.E k) Try.f32 [TCache, TCache] [.bool] true (a0, a1, ()) = laws_eqCache.f k a0 a1 := by
  rw [laws_eqCache.q]
  rfl
theorem laws_eqCache.ctr (k : Nat) : Ctr Try.prog 32 ⟨[TCache, TCache], [.bool], true, fun x => laws_eqCache.f k x.1 x.2.1⟩ :=
  run_ctr (E := laws_eqCache.E k) mixed tb_ok (eqOk_of tb_eqs) (Cts.cons (laws_eqSlotS.ctr k) Cts.nil) Try.func32 (by kernel_rfl) rfl (fun ⟨a0, a1, _⟩ r h => (laws_eqCache.eq k a0 a1).trans h)
def laws_FnExactCacheOk.E (k : Nat) : Env := ⟨tb, [(35, ⟨[TCache, (.int .i64)], [(.int .i64)], true, fun x => laws_szCache.f k x.1 x.2.1⟩), (37, ⟨[TCache], [TCache], true, fun x => laws_toCache.f k x.1⟩), (36, ⟨[TCache], [.bool], true, fun x => spec_CacheOk.f k x.1⟩), (38, ⟨[TCache], [.bool], true, fun x => impl_CacheOk.f k x.1⟩), (32, ⟨[TCache, TCache], [.bool], true, fun x => laws_eqCache.f k x.1 x.2.1⟩)], [], k⟩
theorem laws_FnExactCacheOk.q (k : Nat) (a0 : Ty.den TCache) : run (laws_FnExactCacheOk.E k) Try.f7 [TCache] [.bool] true (a0, ()) = laws_FnExactCacheOk.t k a0 := by kernel_rfl
theorem laws_FnExactCacheOk.eq (k : Nat) (a0 : Ty.den TCache) : run (laws_FnExactCacheOk.E k) Try.f7 [TCache] [.bool] true (a0, ()) = laws_FnExactCacheOk.f k a0 := by
  rw [laws_FnExactCacheOk.q]
  rfl
theorem laws_FnExactCacheOk.ctr (k : Nat) : Ctr Try.prog 7 ⟨[TCache], [.bool], true, fun x => laws_FnExactCacheOk.f k x.1⟩ :=
  run_ctr (E := laws_FnExactCacheOk.E k) mixed tb_ok (eqOk_of tb_eqs) (Cts.cons (laws_szCache.ctr k) (Cts.cons (laws_toCache.ctr k) (Cts.cons (spec_CacheOk.ctr k) (Cts.cons (impl_CacheOk.ctr k) (Cts.cons (laws_eqCache.ctr k) Cts.nil))))) Try.func7 (by kernel_rfl) rfl (fun ⟨a0, _⟩ r h => (laws_FnExactCacheOk.eq k a0).trans h)
def spec_l14Keep.E (k : Nat) : Env := ⟨tb, [], [], k⟩
theorem spec_l14Keep.q (k : Nat) (a0 : Ty.den TPair) : run (spec_l14Keep.E k) Try.f108 [TPair] [TRec] true (a0, ()) = spec_l14Keep.t k a0 := by kernel_rfl
theorem spec_l14Keep.eq (k : Nat) (a0 : Ty.den TPair) : run (spec_l14Keep.E k) Try.f108 [TPair] [TRec] true (a0, ()) = spec_l14Keep.f k a0 := by
  rw [spec_l14Keep.q]
  rfl
theorem spec_l14Keep.ctr (k : Nat) : Ctr Try.prog 108 ⟨[TPair], [TRec], true, fun x => spec_l14Keep.f k x.1⟩ :=
  run_ctr (E := spec_l14Keep.E k) mixed tb_ok (eqOk_of tb_eqs) Cts.nil Try.func108 (by kernel_rfl) rfl (fun ⟨a0, _⟩ r h => (spec_l14Keep.eq k a0).trans h)
def spec_RecOk.E (k : Nat) : Env := ⟨tb, [(74, ⟨[(.int .i64), (.int .i64), (.int .i64)], [.bool], true, fun x => spec_l1In.f k x.1 x.2.1 x.2.2.1⟩), (73, ⟨[.str], [.bool], true, fun x => spec_KeyOk.f k x.1⟩)], [], k⟩
theorem spec_RecOk.q (k : Nat) (a0 : Ty.den TRec) : run (spec_RecOk.E k) Try.f132 [TRec] [.bool] true (a0, ()) = spec_RecOk.t k a0 := by kernel_rfl
theorem spec_RecOk.eq (k : Nat) (a0 : Ty.den TRec) : run (spec_RecOk.E k) Try.f132 [TRec] [.bool] true (a0, ()) = spec_RecOk.f k a0 := by
  rw [spec_RecOk.q]
  rfl
theorem spec_RecOk.ctr (k : Nat) : Ctr Try.prog 132 ⟨[TRec], [.bool], true, fun x => spec_RecOk.f k x.1⟩ :=
  run_ctr (E := spec_RecOk.E k) mixed tb_ok (eqOk_of tb_eqs) (Cts.cons (spec_l1In.ctr k) (Cts.cons (spec_KeyOk.ctr k) Cts.nil)) Try.func132 (by kernel_rfl) rfl (fun ⟨a0, _⟩ r h => (spec_RecOk.eq k a0).trans h)
def spec_Var.E (k : Nat) : Env := ⟨tb, [(74, ⟨[(.int .i64), (.int .i64), (.int .i64)], [.bool], true, fun x => spec_l1In.f k x.1 x.2.1 x.2.2.1⟩)], [(4, [0, 3])], k⟩
noncomputable def spec_Var.K0 (k : Nat) : Ex → St → Option (ByteArray × Unit) := runK (spec_Var.E k) (endK (spec_Var.E k) Try.f129.results.toList [.str] true) [.blk 0, .code (at_ [true, true, true, true] (body Try.f129))]
noncomputable def spec_Var.B0 (k : Nat) (n0 : Nat) : Ex → St → Option (ByteArray × Unit) := fun e st => match e with
  | .normal => loopN (exec (spec_Var.E k) (at_ [true, true, true, false, false, false] (body Try.f129))) (canon [0, 3]) (spec_Var.K0 k) n0 (canon [0, 3] st)
  | .ret => spec_Var.K0 k .ret st
  | .exit j => spec_Var.K0 k (.exit j) st
noncomputable def spec_Var.V0 (k : Nat) (n0 : Nat) (x0_0 : Int) (x0_1 : List Int) : Option (ByteArray × Unit) := loopN (exec (spec_Var.E k) (at_ [true, true, true, false, false, false] (body Try.f129))) (canon [0, 3]) (spec_Var.K0 k) n0 (mk 25 [(0, .int .i64 x0_0), (3, .ref 0)] [(0, .own false (.int .u8) x0_1)])
theorem spec_Var.s0 (k : Nat) (n0 : Nat) (x0_0 : Int) (x0_1 : List Int) : spec_Var.V0 k (n0 + 1) x0_0 x0_1 = spec_Var.b0 k (spec_Var.V0 k n0) x0_0 x0_1 := by kernel_rfl
theorem spec_Var.e0 (k : Nat) (n0 : Nat) : spec_Var.V0 k n0 = spec_Var.l0 k n0 := by
  induction n0 with
  | zero => rfl
  | succ n0 ih =>
    have h : spec_Var.V0 k (n0 + 1) = spec_Var.b0 k (spec_Var.V0 k n0) := funext fun x0_0 => funext fun x0_1 => spec_Var.s0 k n0 x0_0 x0_1
    rw [h, ih]
    rfl
theorem spec_Var.q (k : Nat) (a0 : Int) : run (spec_Var.E k) Try.f129 [(.int .i64)] [.str] true (a0, ()) = spec_Var.t k (spec_Var.V0 k k) a0 := by kernel_rfl
theorem spec_Var.eq (k : Nat) (a0 : Int) : run (spec_Var.E k) Try.f129 [(.int .i64)] [.str] true (a0, ()) = spec_Var.f k a0 := by
  rw [spec_Var.q, spec_Var.e0]
  rfl
theorem spec_Var.ctr (k : Nat) : Ctr Try.prog 129 ⟨[(.int .i64)], [.str], true, fun x => spec_Var.f k x.1⟩ :=
  run_ctr (E := spec_Var.E k) mixed tb_ok (eqOk_of tb_eqs) (Cts.cons (spec_l1In.ctr k) Cts.nil) Try.func129 (by kernel_rfl) rfl (fun ⟨a0, _⟩ r h => (spec_Var.eq k a0).trans h)
def spec_Fixed.E (k : Nat) : Env := ⟨tb, [(74, ⟨[(.int .i64), (.int .i64), (.int .i64)], [.bool], true, fun x => spec_l1In.f k x.1 x.2.1 x.2.2.1⟩)], [(5, [0, 1, 5, 6])], k⟩
noncomputable def spec_Fixed.K0 (k : Nat) : Ex → St → Option (ByteArray × Unit) := runK (spec_Fixed.E k) (endK (spec_Fixed.E k) Try.f130.results.toList [.str] true) [.blk 0, .code (at_ [true, true, true, true] (body Try.f130))]
noncomputable def spec_Fixed.B0 (k : Nat) (n0 : Nat) : Ex → St → Option (ByteArray × Unit) := fun e st => match e with
  | .normal => loopN (exec (spec_Fixed.E k) (at_ [true, true, true, false, true, false, false] (body Try.f130))) (canon [0, 1, 5, 6]) (spec_Fixed.K0 k) n0 (canon [0, 1, 5, 6] st)
  | .ret => spec_Fixed.K0 k .ret st
  | .exit j => spec_Fixed.K0 k (.exit j) st
noncomputable def spec_Fixed.V0 (k : Nat) (n0 : Nat) (x0_0 : Int) (x0_1 : Int) (x0_2 : ByteArray) (x0_3 : Int) : Option (ByteArray × Unit) := loopN (exec (spec_Fixed.E k) (at_ [true, true, true, false, true, false, false] (body Try.f130))) (canon [0, 1, 5, 6]) (spec_Fixed.K0 k) n0 (mk 31 [(0, .int .i64 x0_0), (1, .int .i64 x0_1), (5, .str x0_2), (6, .int .i64 x0_3)] [])
theorem spec_Fixed.s0 (k : Nat) (n0 : Nat) (x0_0 : Int) (x0_1 : Int) (x0_2 : ByteArray) (x0_3 : Int) : spec_Fixed.V0 k (n0 + 1) x0_0 x0_1 x0_2 x0_3 = spec_Fixed.b0 k (spec_Fixed.V0 k n0) x0_0 x0_1 x0_2 x0_3 := by kernel_rfl
theorem spec_Fixed.e0 (k : Nat) (n0 : Nat) : spec_Fixed.V0 k n0 = spec_Fixed.l0 k n0 := by
  induction n0 with
  | zero => rfl
  | succ n0 ih =>
    have h : spec_Fixed.V0 k (n0 + 1) = spec_Fixed.b0 k (spec_Fixed.V0 k n0) := funext fun x0_0 => funext fun x0_1 => funext fun x0_2 => funext fun x0_3 => spec_Fixed.s0 k n0 x0_0 x0_1 x0_2 x0_3
    rw [h, ih]
    rfl
theorem spec_Fixed.q (k : Nat) (a0 : Int) (a1 : Int) : run (spec_Fixed.E k) Try.f130 [(.int .i64), (.int .i64)] [.str] true (a0, a1, ()) = spec_Fixed.t k (spec_Fixed.V0 k k) a0 a1 := by kernel_rfl
theorem spec_Fixed.eq (k : Nat) (a0 : Int) (a1 : Int) : run (spec_Fixed.E k) Try.f130 [(.int .i64), (.int .i64)] [.str] true (a0, a1, ()) = spec_Fixed.f k a0 a1 := by
  rw [spec_Fixed.q, spec_Fixed.e0]
  rfl
theorem spec_Fixed.ctr (k : Nat) : Ctr Try.prog 130 ⟨[(.int .i64), (.int .i64)], [.str], true, fun x => spec_Fixed.f k x.1 x.2.1⟩ :=
  run_ctr (E := spec_Fixed.E k) mixed tb_ok (eqOk_of tb_eqs) (Cts.cons (spec_l1In.ctr k) Cts.nil) Try.func130 (by kernel_rfl) rfl (fun ⟨a0, a1, _⟩ r h => (spec_Fixed.eq k a0 a1).trans h)
def spec_ShowRec.E (k : Nat) : Env := ⟨tb, [(132, ⟨[TRec], [.bool], true, fun x => spec_RecOk.f k x.1⟩), (129, ⟨[(.int .i64)], [.str], true, fun x => spec_Var.f k x.1⟩), (130, ⟨[(.int .i64), (.int .i64)], [.str], true, fun x => spec_Fixed.f k x.1 x.2.1⟩)], [], k⟩
theorem spec_ShowRec.q (k : Nat) (a0 : Ty.den TRec) : run (spec_ShowRec.E k) Try.f110 [TRec] [.str] true (a0, ()) = spec_ShowRec.t k a0 := by kernel_rfl
theorem spec_ShowRec.eq (k : Nat) (a0 : Ty.den TRec) : run (spec_ShowRec.E k) Try.f110 [TRec] [.str] true (a0, ()) = spec_ShowRec.f k a0 := by
  rw [spec_ShowRec.q]
  rfl
theorem spec_ShowRec.ctr (k : Nat) : Ctr Try.prog 110 ⟨[TRec], [.str], true, fun x => spec_ShowRec.f k x.1⟩ :=
  run_ctr (E := spec_ShowRec.E k) mixed tb_ok (eqOk_of tb_eqs) (Cts.cons (spec_RecOk.ctr k) (Cts.cons (spec_Var.ctr k) (Cts.cons (spec_Fixed.ctr k) Cts.nil))) Try.func110 (by kernel_rfl) rfl (fun ⟨a0, _⟩ r h => (spec_ShowRec.eq k a0).trans h)
def spec_Crc.E (k : Nat) : Env := ⟨tb, [], [(3, [0, 3, 4]), (7, [0, 3, 4, 5])], k⟩
noncomputable def spec_Crc.K0 (k : Nat) : Ex → St → Option (Int × Unit) := runK (spec_Crc.E k) (endK (spec_Crc.E k) Try.f131.results.toList [(.int .i64)] true) [.blk 0, .code (at_ [true, true, true] (body Try.f131))]
noncomputable def spec_Crc.B0 (k : Nat) (n0 : Nat) : Ex → St → Option (Int × Unit) := fun e st => match e with
  | .normal => loopN (exec (spec_Crc.E k) (at_ [true, true, false, true, false, false] (body Try.f131))) (canon [0, 3, 4]) (spec_Crc.K0 k) n0 (canon [0, 3, 4] st)
  | .ret => spec_Crc.K0 k .ret st
  | .exit j => spec_Crc.K0 k (.exit j) st
noncomputable def spec_Crc.V0 (k : Nat) (n0 : Nat) (x0_0 : ByteArray) (x0_1 : Int) (x0_2 : Int) : Option (Int × Unit) := loopN (exec (spec_Crc.E k) (at_ [true, true, false, true, false, false] (body Try.f131))) (canon [0, 3, 4]) (spec_Crc.K0 k) n0 (mk 33 [(0, .str x0_0), (3, .int .i64 x0_1), (4, .int .i64 x0_2)] [])
noncomputable def spec_Crc.K1 (k : Nat) (n0 : Nat) : Ex → St → Option (Int × Unit) := runK (spec_Crc.E k) (spec_Crc.B0 k n0) [.blk 2, .blk 1, .code (at_ [true, true, false, true, false, false, true, true] (body Try.f131))]
noncomputable def spec_Crc.B1 (k : Nat) (n0 n1 : Nat) : Ex → St → Option (Int × Unit) := fun e st => match e with
  | .normal => loopN (exec (spec_Crc.E k) (at_ [true, true, false, true, false, false, true, false, false, true, true, false, false] (body Try.f131))) (canon [0, 3, 4, 5]) (spec_Crc.K1 k n0) n1 (canon [0, 3, 4, 5] st)
  | .ret => spec_Crc.K1 k n0 .ret st
  | .exit j => spec_Crc.K1 k n0 (.exit j) st
noncomputable def spec_Crc.V1 (k : Nat) (n0 n1 : Nat) (x1_0 : ByteArray) (x1_1 : Int) (x1_2 : Int) (x1_3 : Int) : Option (Int × Unit) := loopN (exec (spec_Crc.E k) (at_ [true, true, false, true, false, false, true, false, false, true, true, false, false] (body Try.f131))) (canon [0, 3, 4, 5]) (spec_Crc.K1 k n0) n1 (mk 33 [(0, .str x1_0), (3, .int .i64 x1_1), (4, .int .i64 x1_2), (5, .int .i64 x1_3)] [])
theorem spec_Crc.s0 (k : Nat) (n0 : Nat) (x0_0 : ByteArray) (x0_1 : Int) (x0_2 : Int) : spec_Crc.V0 k (n0 + 1) x0_0 x0_1 x0_2 = spec_Crc.b0 k (spec_Crc.V1 k n0 k) (spec_Crc.V0 k n0) x0_0 x0_1 x0_2 := by kernel_rfl
theorem spec_Crc.s1 (k : Nat) (n0 n1 : Nat) (x1_0 : ByteArray) (x1_1 : Int) (x1_2 : Int) (x1_3 : Int) : spec_Crc.V1 k n0 (n1 + 1) x1_0 x1_1 x1_2 x1_3 = spec_Crc.b1 k (spec_Crc.V0 k n0) (spec_Crc.V1 k n0 n1) x1_0 x1_1 x1_2 x1_3 := by kernel_rfl
theorem spec_Crc.e1 (k : Nat) (n0 n1 : Nat) : spec_Crc.V1 k n0 n1 = spec_Crc.l1 k (spec_Crc.V0 k n0) n1 := by
  induction n1 with
  | zero => rfl
  | succ n1 ih =>
    have h : spec_Crc.V1 k n0 (n1 + 1) = spec_Crc.b1 k (spec_Crc.V0 k n0) (spec_Crc.V1 k n0 n1) := funext fun x1_0 => funext fun x1_1 => funext fun x1_2 => funext fun x1_3 => spec_Crc.s1 k n0 n1 x1_0 x1_1 x1_2 x1_3
    rw [h, ih]
    rfl
theorem spec_Crc.e0 (k : Nat) (n0 : Nat) : spec_Crc.V0 k n0 = spec_Crc.l0 k n0 := by
  induction n0 with
  | zero => rfl
  | succ n0 ih =>
    have h : spec_Crc.V0 k (n0 + 1) = spec_Crc.b0 k (spec_Crc.V1 k n0 k) (spec_Crc.V0 k n0) := funext fun x0_0 => funext fun x0_1 => funext fun x0_2 => spec_Crc.s0 k n0 x0_0 x0_1 x0_2
    rw [h, spec_Crc.e1, ih]
    rfl
theorem spec_Crc.q (k : Nat) (a0 : ByteArray) : run (spec_Crc.E k) Try.f131 [.str] [(.int .i64)] true (a0, ()) = spec_Crc.t k (spec_Crc.V0 k k) a0 := by kernel_rfl
theorem spec_Crc.eq (k : Nat) (a0 : ByteArray) : run (spec_Crc.E k) Try.f131 [.str] [(.int .i64)] true (a0, ()) = spec_Crc.f k a0 := by
  rw [spec_Crc.q, spec_Crc.e0]
  rfl
theorem spec_Crc.ctr (k : Nat) : Ctr Try.prog 131 ⟨[.str], [(.int .i64)], true, fun x => spec_Crc.f k x.1⟩ :=
  run_ctr (E := spec_Crc.E k) mixed tb_ok (eqOk_of tb_eqs) Cts.nil Try.func131 (by kernel_rfl) rfl (fun ⟨a0, _⟩ r h => (spec_Crc.eq k a0).trans h)
def spec_Frame.E (k : Nat) : Env := ⟨tb, [(129, ⟨[(.int .i64)], [.str], true, fun x => spec_Var.f k x.1⟩), (131, ⟨[.str], [(.int .i64)], true, fun x => spec_Crc.f k x.1⟩), (130, ⟨[(.int .i64), (.int .i64)], [.str], true, fun x => spec_Fixed.f k x.1 x.2.1⟩)], [], k⟩
theorem spec_Frame.q (k : Nat) (a0 : ByteArray) : run (spec_Frame.E k) Try.f109 [.str] [.str] true (a0, ()) = spec_Frame.t k a0 := by kernel_rfl
theorem spec_Frame.eq (k : Nat) (a0 : ByteArray) : run (spec_Frame.E k) Try.f109 [.str] [.str] true (a0, ()) = spec_Frame.f k a0 := by
  rw [spec_Frame.q]
  rfl
theorem spec_Frame.ctr (k : Nat) : Ctr Try.prog 109 ⟨[.str], [.str], true, fun x => spec_Frame.f k x.1⟩ :=
  run_ctr (E := spec_Frame.E k) mixed tb_ok (eqOk_of tb_eqs) (Cts.cons (spec_Var.ctr k) (Cts.cons (spec_Crc.ctr k) (Cts.cons (spec_Fixed.ctr k) Cts.nil))) Try.func109 (by kernel_rfl) rfl (fun ⟨a0, _⟩ r h => (spec_Frame.eq k a0).trans h)
def spec_SumOf.E (k : Nat) : Env := ⟨tb, [(110, ⟨[TRec], [.str], true, fun x => spec_ShowRec.f k x.1⟩), (131, ⟨[.str], [(.int .i64)], true, fun x => spec_Crc.f k x.1⟩)], [(3, [0, 3, 4])], k⟩
noncomputable def spec_SumOf.K0 (k : Nat) : Ex → St → Option (Int × Unit) := runK (spec_SumOf.E k) (endK (spec_SumOf.E k) Try.f133.results.toList [(.int .i64)] true) [.blk 0, .code (at_ [true, true, true] (body Try.f133))]
noncomputable def spec_SumOf.B0 (k : Nat) (n0 : Nat) : Ex → St → Option (Int × Unit) := fun e st => match e with
  | .normal => loopN (exec (spec_SumOf.E k) (at_ [true, true, false, true, false, false] (body Try.f133))) (canon [0, 3, 4]) (spec_SumOf.K0 k) n0 (canon [0, 3, 4] st)
  | .ret => spec_SumOf.K0 k .ret st
  | .exit j => spec_SumOf.K0 k (.exit j) st
noncomputable def spec_SumOf.V0 (k : Nat) (n0 : Nat) (x0_0 : List (Ty.den TRec)) (x0_1 : ByteArray) (x0_2 : Int) : Option (Int × Unit) := loopN (exec (spec_SumOf.E k) (at_ [true, true, false, true, false, false] (body Try.f133))) (canon [0, 3, 4]) (spec_SumOf.K0 k) n0 (mk 20 [(0, .sl true TRec x0_0), (3, .str x0_1), (4, .int .i64 x0_2)] [])
theorem spec_SumOf.s0 (k : Nat) (n0 : Nat) (x0_0 : List (Ty.den TRec)) (x0_1 : ByteArray) (x0_2 : Int) : spec_SumOf.V0 k (n0 + 1) x0_0 x0_1 x0_2 = spec_SumOf.b0 k (spec_SumOf.V0 k n0) x0_0 x0_1 x0_2 := by kernel_rfl
theorem spec_SumOf.e0 (k : Nat) (n0 : Nat) : spec_SumOf.V0 k n0 = spec_SumOf.l0 k n0 := by
  induction n0 with
  | zero => rfl
  | succ n0 ih =>
    have h : spec_SumOf.V0 k (n0 + 1) = spec_SumOf.b0 k (spec_SumOf.V0 k n0) := funext fun x0_0 => funext fun x0_1 => funext fun x0_2 => spec_SumOf.s0 k n0 x0_0 x0_1 x0_2
    rw [h, ih]
    rfl
theorem spec_SumOf.q (k : Nat) (a0 : List (Ty.den TRec)) : run (spec_SumOf.E k) Try.f133 [(.slice TRec)] [(.int .i64)] true (a0, ()) = spec_SumOf.t k (spec_SumOf.V0 k k) a0 := by kernel_rfl
theorem spec_SumOf.eq (k : Nat) (a0 : List (Ty.den TRec)) : run (spec_SumOf.E k) Try.f133 [(.slice TRec)] [(.int .i64)] true (a0, ()) = spec_SumOf.f k a0 := by
  rw [spec_SumOf.q, spec_SumOf.e0]
  rfl
theorem spec_SumOf.ctr (k : Nat) : Ctr Try.prog 133 ⟨[(.slice TRec)], [(.int .i64)], true, fun x => spec_SumOf.f k x.1⟩ :=
  run_ctr (E := spec_SumOf.E k) mixed tb_ok (eqOk_of tb_eqs) (Cts.cons (spec_ShowRec.ctr k) (Cts.cons (spec_Crc.ctr k) Cts.nil)) Try.func133 (by kernel_rfl) rfl (fun ⟨a0, _⟩ r h => (spec_SumOf.eq k a0).trans h)
def spec_l9Seal.E (k : Nat) : Env := ⟨tb, [(133, ⟨[(.slice TRec)], [(.int .i64)], true, fun x => spec_SumOf.f k x.1⟩)], [], k⟩
theorem spec_l9Seal.q (k : Nat) (a0 : List (Ty.den TRec)) (a1 : Int) (a2 : Int) : run (spec_l9Seal.E k) Try.f111 [(.slice TRec), (.int .i64), (.int .i64)] [TRec] true (a0, a1, a2, ()) = spec_l9Seal.t k a0 a1 a2 := by kernel_rfl
theorem spec_l9Seal.eq (k : Nat) (a0 : List (Ty.den TRec)) (a1 : Int) (a2 : Int) : run (spec_l9Seal.E k) Try.f111 [(.slice TRec), (.int .i64), (.int .i64)] [TRec] true (a0, a1, a2, ()) = spec_l9Seal.f k a0 a1 a2 := by
  rw [spec_l9Seal.q]
  rfl
theorem spec_l9Seal.ctr (k : Nat) : Ctr Try.prog 111 ⟨[(.slice TRec), (.int .i64), (.int .i64)], [TRec], true, fun x => spec_l9Seal.f k x.1 x.2.1 x.2.2.1⟩ :=
  run_ctr (E := spec_l9Seal.E k) mixed tb_ok (eqOk_of tb_eqs) (Cts.cons (spec_SumOf.ctr k) Cts.nil) Try.func111 (by kernel_rfl) rfl (fun ⟨a0, a1, a2, _⟩ r h => (spec_l9Seal.eq k a0 a1 a2).trans h)
def spec_ShowPairs.E (k : Nat) : Env := ⟨tb, [(16, ⟨[(.slice TPair)], [.bool], true, fun x => spec_PairsOk.f k x.1⟩), (108, ⟨[TPair], [TRec], true, fun x => spec_l14Keep.f k x.1⟩), (110, ⟨[TRec], [.str], true, fun x => spec_ShowRec.f k x.1⟩), (109, ⟨[.str], [.str], true, fun x => spec_Frame.f k x.1⟩), (111, ⟨[(.slice TRec), (.int .i64), (.int .i64)], [TRec], true, fun x => spec_l9Seal.f k x.1 x.2.1 x.2.2.1⟩)], [(6, [0, 3, 4, 5])], k⟩
noncomputable def spec_ShowPairs.K0 (k : Nat) : Ex → St → Option (ByteArray × Unit) := runK (spec_ShowPairs.E k) (endK (spec_ShowPairs.E k) Try.f70.results.toList [.str] true) [.blk 0, .code (at_ [true, true, true, true, true] (body Try.f70))]
noncomputable def spec_ShowPairs.B0 (k : Nat) (n0 : Nat) : Ex → St → Option (ByteArray × Unit) := fun e st => match e with
  | .normal => loopN (exec (spec_ShowPairs.E k) (at_ [true, true, true, true, false, true, false, false] (body Try.f70))) (canon [0, 3, 4, 5]) (spec_ShowPairs.K0 k) n0 (canon [0, 3, 4, 5] st)
  | .ret => spec_ShowPairs.K0 k .ret st
  | .exit j => spec_ShowPairs.K0 k (.exit j) st
noncomputable def spec_ShowPairs.V0 (k : Nat) (n0 : Nat) (x0_0 : List (Ty.den TPair)) (x0_1 : ByteArray) (x0_2 : Int) (x0_3 : List (Ty.den TRec)) : Option (ByteArray × Unit) := loopN (exec (spec_ShowPairs.E k) (at_ [true, true, true, true, false, true, false, false] (body Try.f70))) (canon [0, 3, 4, 5]) (spec_ShowPairs.K0 k) n0 (mk 39 [(0, .sl true TPair x0_0), (3, .str x0_1), (4, .ref 0), (5, .int .i64 x0_2)] [(0, .own false TRec x0_3)])
theorem spec_ShowPairs.s0 (k : Nat) (n0 : Nat) (x0_0 : List (Ty.den TPair)) (x0_1 : ByteArray) (x0_2 : Int) (x0_3 : List (Ty.den TRec)) : spec_ShowPairs.V0 k (n0 + 1) x0_0 x0_1 x0_2 x0_3 = spec_ShowPairs.b0 k (spec_ShowPairs.V0 k n0) x0_0 x0_1 x0_2 x0_3 := by kernel_rfl
theorem spec_ShowPairs.e0 (k : Nat) (n0 : Nat) : spec_ShowPairs.V0 k n0 = spec_ShowPairs.l0 k n0 := by
  induction n0 with
  | zero => rfl
  | succ n0 ih =>
    have h : spec_ShowPairs.V0 k (n0 + 1) = spec_ShowPairs.b0 k (spec_ShowPairs.V0 k n0) := funext fun x0_0 => funext fun x0_1 => funext fun x0_2 => funext fun x0_3 => spec_ShowPairs.s0 k n0 x0_0 x0_1 x0_2 x0_3
    rw [h, ih]
    rfl
theorem spec_ShowPairs.q (k : Nat) (a0 : List (Ty.den TPair)) : run (spec_ShowPairs.E k) Try.f70 [(.slice TPair)] [.str] true (a0, ()) = spec_ShowPairs.t k (spec_ShowPairs.V0 k k) a0 := by kernel_rfl
theorem spec_ShowPairs.eq (k : Nat) (a0 : List (Ty.den TPair)) : run (spec_ShowPairs.E k) Try.f70 [(.slice TPair)] [.str] true (a0, ()) = spec_ShowPairs.f k a0 := by
  rw [spec_ShowPairs.q, spec_ShowPairs.e0]
  rfl
theorem spec_ShowPairs.ctr (k : Nat) : Ctr Try.prog 70 ⟨[(.slice TPair)], [.str], true, fun x => spec_ShowPairs.f k x.1⟩ :=
  run_ctr (E := spec_ShowPairs.E k) mixed tb_ok (eqOk_of tb_eqs) (Cts.cons (spec_PairsOk.ctr k) (Cts.cons (spec_l14Keep.ctr k) (Cts.cons (spec_ShowRec.ctr k) (Cts.cons (spec_Frame.ctr k) (Cts.cons (spec_l9Seal.ctr k) Cts.nil))))) Try.func70 (by kernel_rfl) rfl (fun ⟨a0, _⟩ r h => (spec_ShowPairs.eq k a0).trans h)
def impl_RecOk.E (k : Nat) : Env := ⟨tb, [(76, ⟨[.str], [.bool], true, fun x => impl_KeyOk.f k x.1⟩), (77, ⟨[(.int .i64), (.int .i64), (.int .i64)], [.bool], true, fun x => impl_in.f k x.1 x.2.1 x.2.2.1⟩)], [], k⟩
theorem impl_RecOk.q (k : Nat) (a0 : Ty.den TRec) : run (impl_RecOk.E k) Try.f138 [TRec] [.bool] true (a0, ()) = impl_RecOk.t k a0 := by kernel_rfl
theorem impl_RecOk.eq (k : Nat) (a0 : Ty.den TRec) : run (impl_RecOk.E k) Try.f138 [TRec] [.bool] true (a0, ()) = impl_RecOk.f k a0 := by
  rw [impl_RecOk.q]
  rfl
theorem impl_RecOk.ctr (k : Nat) : Ctr Try.prog 138 ⟨[TRec], [.bool], true, fun x => impl_RecOk.f k x.1⟩ :=
  run_ctr (E := impl_RecOk.E k) mixed tb_ok (eqOk_of tb_eqs) (Cts.cons (impl_KeyOk.ctr k) (Cts.cons (impl_in.ctr k) Cts.nil)) Try.func138 (by kernel_rfl) rfl (fun ⟨a0, _⟩ r h => (impl_RecOk.eq k a0).trans h)
def impl_Var.E (k : Nat) : Env := ⟨tb, [(77, ⟨[(.int .i64), (.int .i64), (.int .i64)], [.bool], true, fun x => impl_in.f k x.1 x.2.1 x.2.2.1⟩)], [(4, [0, 3])], k⟩
noncomputable def impl_Var.K0 (k : Nat) : Ex → St → Option (ByteArray × Unit) := runK (impl_Var.E k) (endK (impl_Var.E k) Try.f140.results.toList [.str] true) [.blk 0, .code (at_ [true, true, true, true] (body Try.f140))]
noncomputable def impl_Var.B0 (k : Nat) (n0 : Nat) : Ex → St → Option (ByteArray × Unit) := fun e st => match e with
  | .normal => loopN (exec (impl_Var.E k) (at_ [true, true, true, false, false, false] (body Try.f140))) (canon [0, 3]) (impl_Var.K0 k) n0 (canon [0, 3] st)
  | .ret => impl_Var.K0 k .ret st
  | .exit j => impl_Var.K0 k (.exit j) st
noncomputable def impl_Var.V0 (k : Nat) (n0 : Nat) (x0_0 : Int) (x0_1 : List Int) : Option (ByteArray × Unit) := loopN (exec (impl_Var.E k) (at_ [true, true, true, false, false, false] (body Try.f140))) (canon [0, 3]) (impl_Var.K0 k) n0 (mk 24 [(0, .int .i64 x0_0), (3, .ref 0)] [(0, .own false (.int .u8) x0_1)])
theorem impl_Var.s0 (k : Nat) (n0 : Nat) (x0_0 : Int) (x0_1 : List Int) : impl_Var.V0 k (n0 + 1) x0_0 x0_1 = impl_Var.b0 k (impl_Var.V0 k n0) x0_0 x0_1 := by kernel_rfl
theorem impl_Var.e0 (k : Nat) (n0 : Nat) : impl_Var.V0 k n0 = impl_Var.l0 k n0 := by
  induction n0 with
  | zero => rfl
  | succ n0 ih =>
    have h : impl_Var.V0 k (n0 + 1) = impl_Var.b0 k (impl_Var.V0 k n0) := funext fun x0_0 => funext fun x0_1 => impl_Var.s0 k n0 x0_0 x0_1
    rw [h, ih]
    rfl
theorem impl_Var.q (k : Nat) (a0 : Int) : run (impl_Var.E k) Try.f140 [(.int .i64)] [.str] true (a0, ()) = impl_Var.t k (impl_Var.V0 k k) a0 := by kernel_rfl
theorem impl_Var.eq (k : Nat) (a0 : Int) : run (impl_Var.E k) Try.f140 [(.int .i64)] [.str] true (a0, ()) = impl_Var.f k a0 := by
  rw [impl_Var.q, impl_Var.e0]
  rfl
theorem impl_Var.ctr (k : Nat) : Ctr Try.prog 140 ⟨[(.int .i64)], [.str], true, fun x => impl_Var.f k x.1⟩ :=
  run_ctr (E := impl_Var.E k) mixed tb_ok (eqOk_of tb_eqs) (Cts.cons (impl_in.ctr k) Cts.nil) Try.func140 (by kernel_rfl) rfl (fun ⟨a0, _⟩ r h => (impl_Var.eq k a0).trans h)
def impl_vars.E (k : Nat) : Env := ⟨tb, [(140, ⟨[(.int .i64)], [.str], true, fun x => impl_Var.f k x.1⟩)], [(3, [3, 6, 7, 8])], k⟩
noncomputable def impl_vars.K0 (k : Nat) : Ex → St → Option (ByteArray × Unit) := runK (impl_vars.E k) (endK (impl_vars.E k) Try.f139.results.toList [.str] true) [.blk 0, .code (at_ [true, true, true] (body Try.f139))]
noncomputable def impl_vars.B0 (k : Nat) (n0 : Nat) : Ex → St → Option (ByteArray × Unit) := fun e st => match e with
  | .normal => loopN (exec (impl_vars.E k) (at_ [true, true, false, true, false, false] (body Try.f139))) (canon [3, 6, 7, 8]) (impl_vars.K0 k) n0 (canon [3, 6, 7, 8] st)
  | .ret => impl_vars.K0 k .ret st
  | .exit j => impl_vars.K0 k (.exit j) st
noncomputable def impl_vars.V0 (k : Nat) (n0 : Nat) (x0_0 : ByteArray) (x0_1 : List Int) (x0_2 : Int) (x0_3 : Int) : Option (ByteArray × Unit) := loopN (exec (impl_vars.E k) (at_ [true, true, false, true, false, false] (body Try.f139))) (canon [3, 6, 7, 8]) (impl_vars.K0 k) n0 (mk 18 [(3, .str x0_0), (6, .sl true (.int .i64) x0_1), (7, .int .i64 x0_2), (8, .int .i64 x0_3)] [])
theorem impl_vars.s0 (k : Nat) (n0 : Nat) (x0_0 : ByteArray) (x0_1 : List Int) (x0_2 : Int) (x0_3 : Int) : impl_vars.V0 k (n0 + 1) x0_0 x0_1 x0_2 x0_3 = impl_vars.b0 k (impl_vars.V0 k n0) x0_0 x0_1 x0_2 x0_3 := by kernel_rfl
theorem impl_vars.e0 (k : Nat) (n0 : Nat) : impl_vars.V0 k n0 = impl_vars.l0 k n0 := by
  induction n0 with
  | zero => rfl
  | succ n0 ih =>
    have h : impl_vars.V0 k (n0 + 1) = impl_vars.b0 k (impl_vars.V0 k n0) := funext fun x0_0 => funext fun x0_1 => funext fun x0_2 => funext fun x0_3 => impl_vars.s0 k n0 x0_0 x0_1 x0_2 x0_3
    rw [h, ih]
    rfl
theorem impl_vars.q (k : Nat) (a0 : List Int) : run (impl_vars.E k) Try.f139 [(.slice (.int .i64))] [.str] true (a0, ()) = impl_vars.t k (impl_vars.V0 k k) a0 := by kernel_rfl
theorem impl_vars.eq (k : Nat) (a0 : List Int) : run (impl_vars.E k) Try.f139 [(.slice (.int .i64))] [.str] true (a0, ()) = impl_vars.f k a0 := by
  rw [impl_vars.q, impl_vars.e0]
  rfl
theorem impl_vars.ctr (k : Nat) : Ctr Try.prog 139 ⟨[(.slice (.int .i64))], [.str], true, fun x => impl_vars.f k x.1⟩ :=
  run_ctr (E := impl_vars.E k) mixed tb_ok (eqOk_of tb_eqs) (Cts.cons (impl_Var.ctr k) Cts.nil) Try.func139 (by kernel_rfl) rfl (fun ⟨a0, _⟩ r h => (impl_vars.eq k a0).trans h)
def impl_textOf.E (k : Nat) : Env := ⟨tb, [(140, ⟨[(.int .i64)], [.str], true, fun x => impl_Var.f k x.1⟩)], [], k⟩
theorem impl_textOf.q (k : Nat) (a0 : ByteArray) : run (impl_textOf.E k) Try.f135 [.str] [.str] true (a0, ()) = impl_textOf.t k a0 := by kernel_rfl
theorem impl_textOf.eq (k : Nat) (a0 : ByteArray) : run (impl_textOf.E k) Try.f135 [.str] [.str] true (a0, ()) = impl_textOf.f k a0 := by
  rw [impl_textOf.q]
  rfl
theorem impl_textOf.ctr (k : Nat) : Ctr Try.prog 135 ⟨[.str], [.str], true, fun x => impl_textOf.f k x.1⟩ :=
  run_ctr (E := impl_textOf.E k) mixed tb_ok (eqOk_of tb_eqs) (Cts.cons (impl_Var.ctr k) Cts.nil) Try.func135 (by kernel_rfl) rfl (fun ⟨a0, _⟩ r h => (impl_textOf.eq k a0).trans h)
def impl_Fixed.E (k : Nat) : Env := ⟨tb, [(77, ⟨[(.int .i64), (.int .i64), (.int .i64)], [.bool], true, fun x => impl_in.f k x.1 x.2.1 x.2.2.1⟩)], [(5, [0, 5, 6])], k⟩
noncomputable def impl_Fixed.K0 (k : Nat) : Ex → St → Option (ByteArray × Unit) := runK (impl_Fixed.E k) (endK (impl_Fixed.E k) Try.f136.results.toList [.str] true) [.blk 0, .code (at_ [true, true, true, true] (body Try.f136))]
noncomputable def impl_Fixed.B0 (k : Nat) (n0 : Nat) : Ex → St → Option (ByteArray × Unit) := fun e st => match e with
  | .normal => loopN (exec (impl_Fixed.E k) (at_ [true, true, true, false, true, false, false] (body Try.f136))) (canon [0, 5, 6]) (impl_Fixed.K0 k) n0 (canon [0, 5, 6] st)
  | .ret => impl_Fixed.K0 k .ret st
  | .exit j => impl_Fixed.K0 k (.exit j) st
noncomputable def impl_Fixed.V0 (k : Nat) (n0 : Nat) (x0_0 : Int) (x0_1 : Int) (x0_2 : List Int) : Option (ByteArray × Unit) := loopN (exec (impl_Fixed.E k) (at_ [true, true, true, false, true, false, false] (body Try.f136))) (canon [0, 5, 6]) (impl_Fixed.K0 k) n0 (mk 35 [(0, .int .i64 x0_0), (5, .ref 0), (6, .int .i64 x0_1)] [(0, .own false (.int .u8) x0_2)])
theorem impl_Fixed.s0 (k : Nat) (n0 : Nat) (x0_0 : Int) (x0_1 : Int) (x0_2 : List Int) : impl_Fixed.V0 k (n0 + 1) x0_0 x0_1 x0_2 = impl_Fixed.b0 k (impl_Fixed.V0 k n0) x0_0 x0_1 x0_2 := by kernel_rfl
theorem impl_Fixed.e0 (k : Nat) (n0 : Nat) : impl_Fixed.V0 k n0 = impl_Fixed.l0 k n0 := by
  induction n0 with
  | zero => rfl
  | succ n0 ih =>
    have h : impl_Fixed.V0 k (n0 + 1) = impl_Fixed.b0 k (impl_Fixed.V0 k n0) := funext fun x0_0 => funext fun x0_1 => funext fun x0_2 => impl_Fixed.s0 k n0 x0_0 x0_1 x0_2
    rw [h, ih]
    rfl
theorem impl_Fixed.q (k : Nat) (a0 : Int) (a1 : Int) : run (impl_Fixed.E k) Try.f136 [(.int .i64), (.int .i64)] [.str] true (a0, a1, ()) = impl_Fixed.t k (impl_Fixed.V0 k k) a0 a1 := by kernel_rfl
theorem impl_Fixed.eq (k : Nat) (a0 : Int) (a1 : Int) : run (impl_Fixed.E k) Try.f136 [(.int .i64), (.int .i64)] [.str] true (a0, a1, ()) = impl_Fixed.f k a0 a1 := by
  rw [impl_Fixed.q, impl_Fixed.e0]
  rfl
theorem impl_Fixed.ctr (k : Nat) : Ctr Try.prog 136 ⟨[(.int .i64), (.int .i64)], [.str], true, fun x => impl_Fixed.f k x.1 x.2.1⟩ :=
  run_ctr (E := impl_Fixed.E k) mixed tb_ok (eqOk_of tb_eqs) (Cts.cons (impl_in.ctr k) Cts.nil) Try.func136 (by kernel_rfl) rfl (fun ⟨a0, a1, _⟩ r h => (impl_Fixed.eq k a0 a1).trans h)
def impl_ShowRec.E (k : Nat) : Env := ⟨tb, [(138, ⟨[TRec], [.bool], true, fun x => impl_RecOk.f k x.1⟩), (139, ⟨[(.slice (.int .i64))], [.str], true, fun x => impl_vars.f k x.1⟩), (135, ⟨[.str], [.str], true, fun x => impl_textOf.f k x.1⟩), (140, ⟨[(.int .i64)], [.str], true, fun x => impl_Var.f k x.1⟩), (136, ⟨[(.int .i64), (.int .i64)], [.str], true, fun x => impl_Fixed.f k x.1 x.2.1⟩)], [], k⟩
theorem impl_ShowRec.q (k : Nat) (a0 : Ty.den TRec) : run (impl_ShowRec.E k) Try.f114 [TRec] [.str] true (a0, ()) = impl_ShowRec.t k a0 := by kernel_rfl
theorem impl_ShowRec.eq (k : Nat) (a0 : Ty.den TRec) : run (impl_ShowRec.E k) Try.f114 [TRec] [.str] true (a0, ()) = impl_ShowRec.f k a0 := by
  rw [impl_ShowRec.q]
  rfl
theorem impl_ShowRec.ctr (k : Nat) : Ctr Try.prog 114 ⟨[TRec], [.str], true, fun x => impl_ShowRec.f k x.1⟩ :=
  run_ctr (E := impl_ShowRec.E k) mixed tb_ok (eqOk_of tb_eqs) (Cts.cons (impl_RecOk.ctr k) (Cts.cons (impl_vars.ctr k) (Cts.cons (impl_textOf.ctr k) (Cts.cons (impl_Var.ctr k) (Cts.cons (impl_Fixed.ctr k) Cts.nil))))) Try.func114 (by kernel_rfl) rfl (fun ⟨a0, _⟩ r h => (impl_ShowRec.eq k a0).trans h)
def impl_Crc.E (k : Nat) : Env := ⟨tb, [], [(3, [0, 3, 4]), (7, [0, 3, 4, 18])], k⟩
noncomputable def impl_Crc.K0 (k : Nat) : Ex → St → Option (Int × Unit) := runK (impl_Crc.E k) (endK (impl_Crc.E k) Try.f137.results.toList [(.int .i64)] true) [.blk 0, .code (at_ [true, true, true] (body Try.f137))]
noncomputable def impl_Crc.B0 (k : Nat) (n0 : Nat) : Ex → St → Option (Int × Unit) := fun e st => match e with
  | .normal => loopN (exec (impl_Crc.E k) (at_ [true, true, false, true, false, false] (body Try.f137))) (canon [0, 3, 4]) (impl_Crc.K0 k) n0 (canon [0, 3, 4] st)
  | .ret => impl_Crc.K0 k .ret st
  | .exit j => impl_Crc.K0 k (.exit j) st
noncomputable def impl_Crc.V0 (k : Nat) (n0 : Nat) (x0_0 : ByteArray) (x0_1 : Int) (x0_2 : Int) : Option (Int × Unit) := loopN (exec (impl_Crc.E k) (at_ [true, true, false, true, false, false] (body Try.f137))) (canon [0, 3, 4]) (impl_Crc.K0 k) n0 (mk 32 [(0, .str x0_0), (3, .int .u32 x0_1), (4, .int .i64 x0_2)] [])
noncomputable def impl_Crc.K1 (k : Nat) (n0 : Nat) : Ex → St → Option (Int × Unit) := runK (impl_Crc.E k) (impl_Crc.B0 k n0) [.blk 2, .blk 1, .code (at_ [true, true, false, true, false, false, true, true] (body Try.f137))]
noncomputable def impl_Crc.B1 (k : Nat) (n0 n1 : Nat) : Ex → St → Option (Int × Unit) := fun e st => match e with
  | .normal => loopN (exec (impl_Crc.E k) (at_ [true, true, false, true, false, false, true, false, false, true, true, false, false] (body Try.f137))) (canon [0, 3, 4, 18]) (impl_Crc.K1 k n0) n1 (canon [0, 3, 4, 18] st)
  | .ret => impl_Crc.K1 k n0 .ret st
  | .exit j => impl_Crc.K1 k n0 (.exit j) st
noncomputable def impl_Crc.V1 (k : Nat) (n0 n1 : Nat) (x1_0 : ByteArray) (x1_1 : Int) (x1_2 : Int) (x1_3 : Int) : Option (Int × Unit) := loopN (exec (impl_Crc.E k) (at_ [true, true, false, true, false, false, true, false, false, true, true, false, false] (body Try.f137))) (canon [0, 3, 4, 18]) (impl_Crc.K1 k n0) n1 (mk 32 [(0, .str x1_0), (3, .int .u32 x1_1), (4, .int .i64 x1_2), (18, .int .i64 x1_3)] [])
theorem impl_Crc.s0 (k : Nat) (n0 : Nat) (x0_0 : ByteArray) (x0_1 : Int) (x0_2 : Int) : impl_Crc.V0 k (n0 + 1) x0_0 x0_1 x0_2 = impl_Crc.b0 k (impl_Crc.V1 k n0 k) (impl_Crc.V0 k n0) x0_0 x0_1 x0_2 := by kernel_rfl
theorem impl_Crc.s1 (k : Nat) (n0 n1 : Nat) (x1_0 : ByteArray) (x1_1 : Int) (x1_2 : Int) (x1_3 : Int) : impl_Crc.V1 k n0 (n1 + 1) x1_0 x1_1 x1_2 x1_3 = impl_Crc.b1 k (impl_Crc.V0 k n0) (impl_Crc.V1 k n0 n1) x1_0 x1_1 x1_2 x1_3 := by kernel_rfl
theorem impl_Crc.e1 (k : Nat) (n0 n1 : Nat) : impl_Crc.V1 k n0 n1 = impl_Crc.l1 k (impl_Crc.V0 k n0) n1 := by
  induction n1 with
  | zero => rfl
  | succ n1 ih =>
    have h : impl_Crc.V1 k n0 (n1 + 1) = impl_Crc.b1 k (impl_Crc.V0 k n0) (impl_Crc.V1 k n0 n1) := funext fun x1_0 => funext fun x1_1 => funext fun x1_2 => funext fun x1_3 => impl_Crc.s1 k n0 n1 x1_0 x1_1 x1_2 x1_3
    rw [h, ih]
    rfl
theorem impl_Crc.e0 (k : Nat) (n0 : Nat) : impl_Crc.V0 k n0 = impl_Crc.l0 k n0 := by
  induction n0 with
  | zero => rfl
  | succ n0 ih =>
    have h : impl_Crc.V0 k (n0 + 1) = impl_Crc.b0 k (impl_Crc.V1 k n0 k) (impl_Crc.V0 k n0) := funext fun x0_0 => funext fun x0_1 => funext fun x0_2 => impl_Crc.s0 k n0 x0_0 x0_1 x0_2
    rw [h, impl_Crc.e1, ih]
    rfl
theorem impl_Crc.q (k : Nat) (a0 : ByteArray) : run (impl_Crc.E k) Try.f137 [.str] [(.int .i64)] true (a0, ()) = impl_Crc.t k (impl_Crc.V0 k k) a0 := by kernel_rfl
theorem impl_Crc.eq (k : Nat) (a0 : ByteArray) : run (impl_Crc.E k) Try.f137 [.str] [(.int .i64)] true (a0, ()) = impl_Crc.f k a0 := by
  rw [impl_Crc.q, impl_Crc.e0]
  rfl
theorem impl_Crc.ctr (k : Nat) : Ctr Try.prog 137 ⟨[.str], [(.int .i64)], true, fun x => impl_Crc.f k x.1⟩ :=
  run_ctr (E := impl_Crc.E k) mixed tb_ok (eqOk_of tb_eqs) Cts.nil Try.func137 (by kernel_rfl) rfl (fun ⟨a0, _⟩ r h => (impl_Crc.eq k a0).trans h)
def impl_SumOf.E (k : Nat) : Env := ⟨tb, [(114, ⟨[TRec], [.str], true, fun x => impl_ShowRec.f k x.1⟩), (137, ⟨[.str], [(.int .i64)], true, fun x => impl_Crc.f k x.1⟩)], [(3, [3, 6, 7, 8])], k⟩
noncomputable def impl_SumOf.K0 (k : Nat) : Ex → St → Option (Int × Unit) := runK (impl_SumOf.E k) (endK (impl_SumOf.E k) Try.f134.results.toList [(.int .i64)] true) [.blk 0, .code (at_ [true, true, true] (body Try.f134))]
noncomputable def impl_SumOf.B0 (k : Nat) (n0 : Nat) : Ex → St → Option (Int × Unit) := fun e st => match e with
  | .normal => loopN (exec (impl_SumOf.E k) (at_ [true, true, false, true, false, false] (body Try.f134))) (canon [3, 6, 7, 8]) (impl_SumOf.K0 k) n0 (canon [3, 6, 7, 8] st)
  | .ret => impl_SumOf.K0 k .ret st
  | .exit j => impl_SumOf.K0 k (.exit j) st
noncomputable def impl_SumOf.V0 (k : Nat) (n0 : Nat) (x0_0 : ByteArray) (x0_1 : List (Ty.den TRec)) (x0_2 : Int) (x0_3 : Int) : Option (Int × Unit) := loopN (exec (impl_SumOf.E k) (at_ [true, true, false, true, false, false] (body Try.f134))) (canon [3, 6, 7, 8]) (impl_SumOf.K0 k) n0 (mk 19 [(3, .str x0_0), (6, .sl true TRec x0_1), (7, .int .i64 x0_2), (8, .int .i64 x0_3)] [])
theorem impl_SumOf.s0 (k : Nat) (n0 : Nat) (x0_0 : ByteArray) (x0_1 : List (Ty.den TRec)) (x0_2 : Int) (x0_3 : Int) : impl_SumOf.V0 k (n0 + 1) x0_0 x0_1 x0_2 x0_3 = impl_SumOf.b0 k (impl_SumOf.V0 k n0) x0_0 x0_1 x0_2 x0_3 := by kernel_rfl
theorem impl_SumOf.e0 (k : Nat) (n0 : Nat) : impl_SumOf.V0 k n0 = impl_SumOf.l0 k n0 := by
  induction n0 with
  | zero => rfl
  | succ n0 ih =>
    have h : impl_SumOf.V0 k (n0 + 1) = impl_SumOf.b0 k (impl_SumOf.V0 k n0) := funext fun x0_0 => funext fun x0_1 => funext fun x0_2 => funext fun x0_3 => impl_SumOf.s0 k n0 x0_0 x0_1 x0_2 x0_3
    rw [h, ih]
    rfl
theorem impl_SumOf.q (k : Nat) (a0 : List (Ty.den TRec)) : run (impl_SumOf.E k) Try.f134 [(.slice TRec)] [(.int .i64)] true (a0, ()) = impl_SumOf.t k (impl_SumOf.V0 k k) a0 := by kernel_rfl
theorem impl_SumOf.eq (k : Nat) (a0 : List (Ty.den TRec)) : run (impl_SumOf.E k) Try.f134 [(.slice TRec)] [(.int .i64)] true (a0, ()) = impl_SumOf.f k a0 := by
  rw [impl_SumOf.q, impl_SumOf.e0]
  rfl
theorem impl_SumOf.ctr (k : Nat) : Ctr Try.prog 134 ⟨[(.slice TRec)], [(.int .i64)], true, fun x => impl_SumOf.f k x.1⟩ :=
  run_ctr (E := impl_SumOf.E k) mixed tb_ok (eqOk_of tb_eqs) (Cts.cons (impl_ShowRec.ctr k) (Cts.cons (impl_Crc.ctr k) Cts.nil)) Try.func134 (by kernel_rfl) rfl (fun ⟨a0, _⟩ r h => (impl_SumOf.eq k a0).trans h)
def impl_keeps.E (k : Nat) : Env := ⟨tb, [(134, ⟨[(.slice TRec)], [(.int .i64)], true, fun x => impl_SumOf.f k x.1⟩)], [(3, [0, 1, 5, 8, 9, 10])], k⟩
noncomputable def impl_keeps.K0 (k : Nat) : Ex → St → Option ((List (Ty.den TRec)) × Unit) := runK (impl_keeps.E k) (endK (impl_keeps.E k) Try.f112.results.toList [(.slice TRec)] true) [.blk 0, .code (at_ [true, true, true] (body Try.f112))]
noncomputable def impl_keeps.B0 (k : Nat) (n0 : Nat) : Ex → St → Option ((List (Ty.den TRec)) × Unit) := fun e st => match e with
  | .normal => loopN (exec (impl_keeps.E k) (at_ [true, true, false, true, false, false] (body Try.f112))) (canon [0, 1, 5, 8, 9, 10]) (impl_keeps.K0 k) n0 (canon [0, 1, 5, 8, 9, 10] st)
  | .ret => impl_keeps.K0 k .ret st
  | .exit j => impl_keeps.K0 k (.exit j) st
noncomputable def impl_keeps.V0 (k : Nat) (n0 : Nat) (x0_0 : List (Ty.den TPair)) (x0_1 : Int) (x0_2 : List (Ty.den TPair)) (x0_3 : Int) (x0_4 : Int) (x0_5 : List (Ty.den TRec)) : Option ((List (Ty.den TRec)) × Unit) := loopN (exec (impl_keeps.E k) (at_ [true, true, false, true, false, false] (body Try.f112))) (canon [0, 1, 5, 8, 9, 10]) (impl_keeps.K0 k) n0 (mk 34 [(0, .sl true TPair x0_0), (1, .int .i64 x0_1), (5, .ref 0), (8, .sl true TPair x0_2), (9, .int .i64 x0_3), (10, .int .i64 x0_4)] [(0, .own false TRec x0_5)])
theorem impl_keeps.s0 (k : Nat) (n0 : Nat) (x0_0 : List (Ty.den TPair)) (x0_1 : Int) (x0_2 : List (Ty.den TPair)) (x0_3 : Int) (x0_4 : Int) (x0_5 : List (Ty.den TRec)) : impl_keeps.V0 k (n0 + 1) x0_0 x0_1 x0_2 x0_3 x0_4 x0_5 = impl_keeps.b0 k (impl_keeps.V0 k n0) x0_0 x0_1 x0_2 x0_3 x0_4 x0_5 := by kernel_rfl
theorem impl_keeps.e0 (k : Nat) (n0 : Nat) : impl_keeps.V0 k n0 = impl_keeps.l0 k n0 := by
  induction n0 with
  | zero => rfl
  | succ n0 ih =>
    have h : impl_keeps.V0 k (n0 + 1) = impl_keeps.b0 k (impl_keeps.V0 k n0) := funext fun x0_0 => funext fun x0_1 => funext fun x0_2 => funext fun x0_3 => funext fun x0_4 => funext fun x0_5 => impl_keeps.s0 k n0 x0_0 x0_1 x0_2 x0_3 x0_4 x0_5
    rw [h, ih]
    rfl
theorem impl_keeps.q (k : Nat) (a0 : List (Ty.den TPair)) (a1 : Int) : run (impl_keeps.E k) Try.f112 [(.slice TPair), (.int .i64)] [(.slice TRec)] true (a0, a1, ()) = impl_keeps.t k (impl_keeps.V0 k k) a0 a1 := by kernel_rfl
theorem impl_keeps.eq (k : Nat) (a0 : List (Ty.den TPair)) (a1 : Int) : run (impl_keeps.E k) Try.f112 [(.slice TPair), (.int .i64)] [(.slice TRec)] true (a0, a1, ()) = impl_keeps.f k a0 a1 := by
  rw [impl_keeps.q, impl_keeps.e0]
  rfl
theorem impl_keeps.ctr (k : Nat) : Ctr Try.prog 112 ⟨[(.slice TPair), (.int .i64)], [(.slice TRec)], true, fun x => impl_keeps.f k x.1 x.2.1⟩ :=
  run_ctr (E := impl_keeps.E k) mixed tb_ok (eqOk_of tb_eqs) (Cts.cons (impl_SumOf.ctr k) Cts.nil) Try.func112 (by kernel_rfl) rfl (fun ⟨a0, a1, _⟩ r h => (impl_keeps.eq k a0 a1).trans h)
def impl_Frame.E (k : Nat) : Env := ⟨tb, [(135, ⟨[.str], [.str], true, fun x => impl_textOf.f k x.1⟩), (137, ⟨[.str], [(.int .i64)], true, fun x => impl_Crc.f k x.1⟩), (136, ⟨[(.int .i64), (.int .i64)], [.str], true, fun x => impl_Fixed.f k x.1 x.2.1⟩)], [], k⟩
theorem impl_Frame.q (k : Nat) (a0 : ByteArray) : run (impl_Frame.E k) Try.f113 [.str] [.str] true (a0, ()) = impl_Frame.t k a0 := by kernel_rfl
theorem impl_Frame.eq (k : Nat) (a0 : ByteArray) : run (impl_Frame.E k) Try.f113 [.str] [.str] true (a0, ()) = impl_Frame.f k a0 := by
  rw [impl_Frame.q]
  rfl
theorem impl_Frame.ctr (k : Nat) : Ctr Try.prog 113 ⟨[.str], [.str], true, fun x => impl_Frame.f k x.1⟩ :=
  run_ctr (E := impl_Frame.E k) mixed tb_ok (eqOk_of tb_eqs) (Cts.cons (impl_textOf.ctr k) (Cts.cons (impl_Crc.ctr k) (Cts.cons (impl_Fixed.ctr k) Cts.nil))) Try.func113 (by kernel_rfl) rfl (fun ⟨a0, _⟩ r h => (impl_Frame.eq k a0).trans h)
def impl_ShowPairs.E (k : Nat) : Env := ⟨tb, [(18, ⟨[(.slice TPair)], [.bool], true, fun x => impl_PairsOk.f k x.1⟩), (112, ⟨[(.slice TPair), (.int .i64)], [(.slice TRec)], true, fun x => impl_keeps.f k x.1 x.2.1⟩), (114, ⟨[TRec], [.str], true, fun x => impl_ShowRec.f k x.1⟩), (113, ⟨[.str], [.str], true, fun x => impl_Frame.f k x.1⟩)], [(5, [3, 10, 11, 12])], k⟩
noncomputable def impl_ShowPairs.K0 (k : Nat) : Ex → St → Option (ByteArray × Unit) := runK (impl_ShowPairs.E k) (endK (impl_ShowPairs.E k) Try.f71.results.toList [.str] true) [.blk 0, .code (at_ [true, true, true, true] (body Try.f71))]
noncomputable def impl_ShowPairs.B0 (k : Nat) (n0 : Nat) : Ex → St → Option (ByteArray × Unit) := fun e st => match e with
  | .normal => loopN (exec (impl_ShowPairs.E k) (at_ [true, true, true, false, true, false, false] (body Try.f71))) (canon [3, 10, 11, 12]) (impl_ShowPairs.K0 k) n0 (canon [3, 10, 11, 12] st)
  | .ret => impl_ShowPairs.K0 k .ret st
  | .exit j => impl_ShowPairs.K0 k (.exit j) st
noncomputable def impl_ShowPairs.V0 (k : Nat) (n0 : Nat) (x0_0 : ByteArray) (x0_1 : Int) (x0_2 : Int) (x0_3 : List (Ty.den TRec)) : Option (ByteArray × Unit) := loopN (exec (impl_ShowPairs.E k) (at_ [true, true, true, false, true, false, false] (body Try.f71))) (canon [3, 10, 11, 12]) (impl_ShowPairs.K0 k) n0 (mk 23 [(3, .str x0_0), (10, .ref 0), (11, .int .i64 x0_1), (12, .int .i64 x0_2)] [(0, .own false TRec x0_3)])
theorem impl_ShowPairs.s0 (k : Nat) (n0 : Nat) (x0_0 : ByteArray) (x0_1 : Int) (x0_2 : Int) (x0_3 : List (Ty.den TRec)) : impl_ShowPairs.V0 k (n0 + 1) x0_0 x0_1 x0_2 x0_3 = impl_ShowPairs.b0 k (impl_ShowPairs.V0 k n0) x0_0 x0_1 x0_2 x0_3 := by kernel_rfl
theorem impl_ShowPairs.e0 (k : Nat) (n0 : Nat) : impl_ShowPairs.V0 k n0 = impl_ShowPairs.l0 k n0 := by
  induction n0 with
  | zero => rfl
  | succ n0 ih =>
    have h : impl_ShowPairs.V0 k (n0 + 1) = impl_ShowPairs.b0 k (impl_ShowPairs.V0 k n0) := funext fun x0_0 => funext fun x0_1 => funext fun x0_2 => funext fun x0_3 => impl_ShowPairs.s0 k n0 x0_0 x0_1 x0_2 x0_3
    rw [h, ih]
    rfl
theorem impl_ShowPairs.q (k : Nat) (a0 : List (Ty.den TPair)) : run (impl_ShowPairs.E k) Try.f71 [(.slice TPair)] [.str] true (a0, ()) = impl_ShowPairs.t k (impl_ShowPairs.V0 k k) a0 := by kernel_rfl
theorem impl_ShowPairs.eq (k : Nat) (a0 : List (Ty.den TPair)) : run (impl_ShowPairs.E k) Try.f71 [(.slice TPair)] [.str] true (a0, ()) = impl_ShowPairs.f k a0 := by
  rw [impl_ShowPairs.q, impl_ShowPairs.e0]
  rfl
theorem impl_ShowPairs.ctr (k : Nat) : Ctr Try.prog 71 ⟨[(.slice TPair)], [.str], true, fun x => impl_ShowPairs.f k x.1⟩ :=
  run_ctr (E := impl_ShowPairs.E k) mixed tb_ok (eqOk_of tb_eqs) (Cts.cons (impl_PairsOk.ctr k) (Cts.cons (impl_keeps.ctr k) (Cts.cons (impl_ShowRec.ctr k) (Cts.cons (impl_Frame.ctr k) Cts.nil)))) Try.func71 (by kernel_rfl) rfl (fun ⟨a0, _⟩ r h => (impl_ShowPairs.eq k a0).trans h)
def laws_FnExactShowPairs.E (k : Nat) : Env := ⟨tb, [(15, ⟨[(.slice TPair), (.int .i64)], [(.int .i64)], true, fun x => laws_szPairS.f k x.1 x.2.1⟩), (17, ⟨[(.slice TPair)], [(.slice TPair)], true, fun x => laws_toPairS.f k x.1⟩), (70, ⟨[(.slice TPair)], [.str], true, fun x => spec_ShowPairs.f k x.1⟩), (71, ⟨[(.slice TPair)], [.str], true, fun x => impl_ShowPairs.f k x.1⟩), (19, ⟨[(.slice TPair), (.slice TPair)], [.bool], true, fun x => laws_eqPairS.f k x.1 x.2.1⟩)], [], k⟩
theorem laws_FnExactShowPairs.q (k : Nat) (a0 : List (Ty.den TPair)) : run (laws_FnExactShowPairs.E k) Try.f14 [(.slice TPair)] [.bool] true (a0, ()) = laws_FnExactShowPairs.t k a0 := by kernel_rfl
theorem laws_FnExactShowPairs.eq (k : Nat) (a0 : List (Ty.den TPair)) : run (laws_FnExactShowPairs.E k) Try.f14 [(.slice TPair)] [.bool] true (a0, ()) = laws_FnExactShowPairs.f k a0 := by
  rw [laws_FnExactShowPairs.q]
  rfl
theorem laws_FnExactShowPairs.ctr (k : Nat) : Ctr Try.prog 14 ⟨[(.slice TPair)], [.bool], true, fun x => laws_FnExactShowPairs.f k x.1⟩ :=
  run_ctr (E := laws_FnExactShowPairs.E k) mixed tb_ok (eqOk_of tb_eqs) (Cts.cons (laws_szPairS.ctr k) (Cts.cons (laws_toPairS.ctr k) (Cts.cons (spec_ShowPairs.ctr k) (Cts.cons (impl_ShowPairs.ctr k) (Cts.cons (laws_eqPairS.ctr k) Cts.nil))))) Try.func14 (by kernel_rfl) rfl (fun ⟨a0, _⟩ r h => (laws_FnExactShowPairs.eq k a0).trans h)
end Go.Proofs.Ytlbpalfjmjmimaa.G

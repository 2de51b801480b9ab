/- Functions keep their contracts. -/
import Derived.Test.YtlbpalfjmjmimaaVTab
import Derived.Test.YtlbpalfjmjmimaaFQ2
set_option linter.unusedVariables false
set_option maxRecDepth 100000
namespace Go.Proofs.Ytlbpalfjmjmimaa.G
open Go.V
def laws_szEntry.E (k : Nat) : Env := ⟨tb, [], [], k, 0, []⟩
theorem laws_szEntry.q (k : Nat) (a0 : Ty.den TEntry) (a1 : Int) : run (laws_szEntry.E k) Try.f91 [.val TEntry, .val (.int .i64)] [(.int .i64)] true false (a0, a1, ()) = laws_szEntry.t k a0 a1 := by kernel_rfl
theorem laws_szEntry.eq (k : Nat) (a0 : Ty.den TEntry) (a1 : Int) : run (laws_szEntry.E k) Try.f91 [.val TEntry, .val (.int .i64)] [(.int .i64)] true false (a0, a1, ()) = laws_szEntry.f k a0 a1 := by
  rw [laws_szEntry.q]
  rfl
theorem laws_szEntry.ctr (k : Nat) : Ctr Try.prog 91 ⟨[.val TEntry, .val (.int .i64)], [(.int .i64)], true, false, fun x => laws_szEntry.f k x.1 x.2.1⟩ :=
  run_ctr (E := laws_szEntry.E k) mixed tb_ok (eqOk_of tb_eqs) Cts.nil (by kernel_rfl) Try.func91 (by kernel_rfl) rfl (fun ⟨a0, a1, _⟩ r h => (laws_szEntry.eq k a0 a1).trans h)
def laws_szEntryS.E (k : Nat) : Env := ⟨tb, [(91, ⟨[.val TEntry, .val (.int .i64)], [(.int .i64)], true, false, fun x => laws_szEntry.f k x.1 x.2.1⟩)], [(5, [0, 1, 5])], k, 0, []⟩
noncomputable def laws_szEntryS.K0 (k : Nat) (a0 : List (Ty.den TEntry)) (a1 : Int) : Ex → St → Option (Int × Unit) := runK (laws_szEntryS.E k) (endK (laws_szEntryS.E k) Try.f39.results.toList [.val (.slice TEntry), .val (.int .i64)] (a0, a1, ()) [(.int .i64)] true false) [.blk 0, .code (at_ [true, true, true, true] (body Try.f39))]
noncomputable def laws_szEntryS.B0 (k : Nat) (a0 : List (Ty.den TEntry)) (a1 : Int) (n0 : Nat) : Ex → St → Option (Int × Unit) := fun e st => match e with
  | .normal => loopN (exec (laws_szEntryS.E k) (at_ [true, true, true, false, true, false, false] (body Try.f39))) (canon 0 [0, 1, 5]) (laws_szEntryS.K0 k a0 a1) n0 (canon 0 [0, 1, 5] st)
  | .ret => laws_szEntryS.K0 k a0 a1 .ret st
  | .exit j => laws_szEntryS.K0 k a0 a1 (.exit j) st
noncomputable def laws_szEntryS.V0 (k : Nat) (a0 : List (Ty.den TEntry)) (a1 : Int) (n0 : Nat) (x0_0 : List (Ty.den TEntry)) (x0_1 : Int) (x0_2 : Int) : Option (Int × Unit) := loopN (exec (laws_szEntryS.E k) (at_ [true, true, true, false, true, false, false] (body Try.f39))) (canon 0 [0, 1, 5]) (laws_szEntryS.K0 k a0 a1) n0 (mk 27 0 [(0, .sl true TEntry x0_0), (1, .int .i64 x0_1), (5, .int .i64 x0_2)] [])
theorem laws_szEntryS.s0 (k : Nat) (a0 : List (Ty.den TEntry)) (a1 : Int) (n0 : Nat) (x0_0 : List (Ty.den TEntry)) (x0_1 : Int) (x0_2 : Int) : laws_szEntryS.V0 k a0 a1 (n0 + 1) x0_0 x0_1 x0_2 = laws_szEntryS.b0 k (laws_szEntryS.V0 k a0 a1 n0) x0_0 x0_1 x0_2 := by kernel_rfl
theorem laws_szEntryS.e0 (k : Nat) (a0 : List (Ty.den TEntry)) (a1 : Int) (n0 : Nat) : laws_szEntryS.V0 k a0 a1 n0 = laws_szEntryS.l0 k n0 := by
  induction n0 with
  | zero => rfl
  | succ n0 ih =>
    have h : laws_szEntryS.V0 k a0 a1 (n0 + 1) = laws_szEntryS.b0 k (laws_szEntryS.V0 k a0 a1 n0) := funext fun x0_0 => funext fun x0_1 => funext fun x0_2 => laws_szEntryS.s0 k a0 a1 n0 x0_0 x0_1 x0_2
    rw [h, ih]
    rfl
theorem laws_szEntryS.q (k : Nat) (a0 : List (Ty.den TEntry)) (a1 : Int) : run (laws_szEntryS.E k) Try.f39 [.val (.slice TEntry), .val (.int .i64)] [(.int .i64)] true false (a0, a1, ()) = laws_szEntryS.t k (laws_szEntryS.V0 k a0 a1 k) a0 a1 := by kernel_rfl
theorem laws_szEntryS.eq (k : Nat) (a0 : List (Ty.den TEntry)) (a1 : Int) : run (laws_szEntryS.E k) Try.f39 [.val (.slice TEntry), .val (.int .i64)] [(.int .i64)] true false (a0, a1, ()) = laws_szEntryS.f k a0 a1 := by
  rw [laws_szEntryS.q, laws_szEntryS.e0]
  rfl
theorem laws_szEntryS.ctr (k : Nat) : Ctr Try.prog 39 ⟨[.val (.slice TEntry), .val (.int .i64)], [(.int .i64)], true, false, fun x => laws_szEntryS.f k x.1 x.2.1⟩ :=
  run_ctr (E := laws_szEntryS.E k) mixed tb_ok (eqOk_of tb_eqs) (Cts.cons (laws_szEntry.ctr k) Cts.nil) (by kernel_rfl) Try.func39 (by kernel_rfl) rfl (fun ⟨a0, a1, _⟩ r h => (laws_szEntryS.eq k a0 a1).trans h)
def laws_toEntry.E (k : Nat) : Env := ⟨tb, [], [], k, 0, []⟩
theorem laws_toEntry.q (k : Nat) (a0 : Ty.den TEntry) : run (laws_toEntry.E k) Try.f92 [.val TEntry] [TEntry] true false (a0, ()) = laws_toEntry.t k a0 := by kernel_rfl
theorem laws_toEntry.eq (k : Nat) (a0 : Ty.den TEntry) : run (laws_toEntry.E k) Try.f92 [.val TEntry] [TEntry] true false (a0, ()) = laws_toEntry.f k a0 := by
  rw [laws_toEntry.q]
  rfl
theorem laws_toEntry.ctr (k : Nat) : Ctr Try.prog 92 ⟨[.val TEntry], [TEntry], true, false, fun x => laws_toEntry.f k x.1⟩ :=
  run_ctr (E := laws_toEntry.E k) mixed tb_ok (eqOk_of tb_eqs) Cts.nil (by kernel_rfl) Try.func92 (by kernel_rfl) rfl (fun ⟨a0, _⟩ r h => (laws_toEntry.eq k a0).trans h)
def laws_toEntryS.E (k : Nat) : Env := ⟨tb, [(92, ⟨[.val TEntry], [TEntry], true, false, fun x => laws_toEntry.f k x.1⟩)], [(3, [0, 3, 4])], k, 0, []⟩
noncomputable def laws_toEntryS.K0 (k : Nat) (a0 : List (Ty.den TEntry)) : Ex → St → Option ((List (Ty.den TEntry)) × Unit) := runK (laws_toEntryS.E k) (endK (laws_toEntryS.E k) Try.f41.results.toList [.val (.slice TEntry)] (a0, ()) [(.slice TEntry)] true false) [.blk 0, .code (at_ [true, true, true] (body Try.f41))]
noncomputable def laws_toEntryS.B0 (k : Nat) (a0 : List (Ty.den TEntry)) (n0 : Nat) : Ex → St → Option ((List (Ty.den TEntry)) × Unit) := fun e st => match e with
  | .normal => loopN (exec (laws_toEntryS.E k) (at_ [true, true, false, true, false, false] (body Try.f41))) (canon 0 [0, 3, 4]) (laws_toEntryS.K0 k a0) n0 (canon 0 [0, 3, 4] st)
  | .ret => laws_toEntryS.K0 k a0 .ret st
  | .exit j => laws_toEntryS.K0 k a0 (.exit j) st
noncomputable def laws_toEntryS.V0 (k : Nat) (a0 : List (Ty.den TEntry)) (n0 : Nat) (x0_0 : List (Ty.den TEntry)) (x0_1 : Int) (x0_2 : List (Ty.den TEntry)) : Option ((List (Ty.den TEntry)) × Unit) := loopN (exec (laws_toEntryS.E k) (at_ [true, true, false, true, false, false] (body Try.f41))) (canon 0 [0, 3, 4]) (laws_toEntryS.K0 k a0) n0 (mk 23 1 [(0, .sl true TEntry x0_0), (3, .ref 0), (4, .int .i64 x0_1)] [(0, .own false TEntry x0_2)])
theorem laws_toEntryS.s0 (k : Nat) (a0 : List (Ty.den TEntry)) (n0 : Nat) (x0_0 : List (Ty.den TEntry)) (x0_1 : Int) (x0_2 : List (Ty.den TEntry)) : laws_toEntryS.V0 k a0 (n0 + 1) x0_0 x0_1 x0_2 = laws_toEntryS.b0 k (laws_toEntryS.V0 k a0 n0) x0_0 x0_1 x0_2 := by kernel_rfl
theorem laws_toEntryS.e0 (k : Nat) (a0 : List (Ty.den TEntry)) (n0 : Nat) : laws_toEntryS.V0 k a0 n0 = laws_toEntryS.l0 k n0 := by
  induction n0 with
  | zero => rfl
  | succ n0 ih =>
    have h : laws_toEntryS.V0 k a0 (n0 + 1) = laws_toEntryS.b0 k (laws_toEntryS.V0 k a0 n0) := funext fun x0_0 => funext fun x0_1 => funext fun x0_2 => laws_toEntryS.s0 k a0 n0 x0_0 x0_1 x0_2
    rw [h, ih]
    rfl
theorem laws_toEntryS.q (k : Nat) (a0 : List (Ty.den TEntry)) : run (laws_toEntryS.E k) Try.f41 [.val (.slice TEntry)] [(.slice TEntry)] true false (a0, ()) = laws_toEntryS.t k (laws_toEntryS.V0 k a0 k) a0 := by kernel_rfl
theorem laws_toEntryS.eq (k : Nat) (a0 : List (Ty.den TEntry)) : run (laws_toEntryS.E k) Try.f41 [.val (.slice TEntry)] [(.slice TEntry)] true false (a0, ()) = laws_toEntryS.f k a0 := by
  rw [laws_toEntryS.q, laws_toEntryS.e0]
  rfl
theorem laws_toEntryS.ctr (k : Nat) : Ctr Try.prog 41 ⟨[.val (.slice TEntry)], [(.slice TEntry)], true, false, fun x => laws_toEntryS.f k x.1⟩ :=
  run_ctr (E := laws_toEntryS.E k) mixed tb_ok (eqOk_of tb_eqs) (Cts.cons (laws_toEntry.ctr k) Cts.nil) (by kernel_rfl) Try.func41 (by kernel_rfl) rfl (fun ⟨a0, _⟩ r h => (laws_toEntryS.eq k a0).trans h)
def spec_RangeOf.E (k : Nat) : Env := ⟨tb, [], [(3, [0, 1, 2, 7, 8])], k, 0, []⟩
noncomputable def spec_RangeOf.K0 (k : Nat) (a0 : List (Ty.den TEntry)) (a1 : ByteArray) (a2 : ByteArray) : Ex → St → Option ((List ByteArray) × Unit) := runK (spec_RangeOf.E k) (endK (spec_RangeOf.E k) Try.f40.results.toList [.val (.slice TEntry), .val .str, .val .str] (a0, a1, a2, ()) [(.slice .str)] true false) [.blk 0, .code (at_ [true, true, true] (body Try.f40))]
noncomputable def spec_RangeOf.B0 (k : Nat) (a0 : List (Ty.den TEntry)) (a1 : ByteArray) (a2 : ByteArray) (n0 : Nat) : Ex → St → Option ((List ByteArray) × Unit) := fun e st => match e with
  | .normal => loopN (exec (spec_RangeOf.E k) (at_ [true, true, false, true, false, false] (body Try.f40))) (canon 0 [0, 1, 2, 7, 8]) (spec_RangeOf.K0 k a0 a1 a2) n0 (canon 0 [0, 1, 2, 7, 8] st)
  | .ret => spec_RangeOf.K0 k a0 a1 a2 .ret st
  | .exit j => spec_RangeOf.K0 k a0 a1 a2 (.exit j) st
noncomputable def spec_RangeOf.V0 (k : Nat) (a0 : List (Ty.den TEntry)) (a1 : ByteArray) (a2 : ByteArray) (n0 : Nat) (x0_0 : List (Ty.den TEntry)) (x0_1 : ByteArray) (x0_2 : ByteArray) (x0_3 : Int) (x0_4 : List ByteArray) : Option ((List ByteArray) × Unit) := loopN (exec (spec_RangeOf.E k) (at_ [true, true, false, true, false, false] (body Try.f40))) (canon 0 [0, 1, 2, 7, 8]) (spec_RangeOf.K0 k a0 a1 a2) n0 (mk 45 1 [(0, .sl true TEntry x0_0), (1, .str x0_1), (2, .str x0_2), (7, .ref 0), (8, .int .i64 x0_3)] [(0, .own false .str x0_4)])
theorem spec_RangeOf.s0 (k : Nat) (a0 : List (Ty.den TEntry)) (a1 : ByteArray) (a2 : ByteArray) (n0 : Nat) (x0_0 : List (Ty.den TEntry)) (x0_1 : ByteArray) (x0_2 : ByteArray) (x0_3 : Int) (x0_4 : List ByteArray) : spec_RangeOf.V0 k a0 a1 a2 (n0 + 1) x0_0 x0_1 x0_2 x0_3 x0_4 = spec_RangeOf.b0 k (spec_RangeOf.V0 k a0 a1 a2 n0) x0_0 x0_1 x0_2 x0_3 x0_4 := by kernel_rfl
theorem spec_RangeOf.e0 (k : Nat) (a0 : List (Ty.den TEntry)) (a1 : ByteArray) (a2 : ByteArray) (n0 : Nat) : spec_RangeOf.V0 k a0 a1 a2 n0 = spec_RangeOf.l0 k n0 := by
  induction n0 with
  | zero => rfl
  | succ n0 ih =>
    have h : spec_RangeOf.V0 k a0 a1 a2 (n0 + 1) = spec_RangeOf.b0 k (spec_RangeOf.V0 k a0 a1 a2 n0) := funext fun x0_0 => funext fun x0_1 => funext fun x0_2 => funext fun x0_3 => funext fun x0_4 => spec_RangeOf.s0 k a0 a1 a2 n0 x0_0 x0_1 x0_2 x0_3 x0_4
    rw [h, ih]
    rfl
theorem spec_RangeOf.q (k : Nat) (a0 : List (Ty.den TEntry)) (a1 : ByteArray) (a2 : ByteArray) : run (spec_RangeOf.E k) Try.f40 [.val (.slice TEntry), .val .str, .val .str] [(.slice .str)] true false (a0, a1, a2, ()) = spec_RangeOf.t k (spec_RangeOf.V0 k a0 a1 a2 k) a0 a1 a2 := by kernel_rfl
theorem spec_RangeOf.eq (k : Nat) (a0 : List (Ty.den TEntry)) (a1 : ByteArray) (a2 : ByteArray) : run (spec_RangeOf.E k) Try.f40 [.val (.slice TEntry), .val .str, .val .str] [(.slice .str)] true false (a0, a1, a2, ()) = spec_RangeOf.f k a0 a1 a2 := by
  rw [spec_RangeOf.q, spec_RangeOf.e0]
  rfl
theorem spec_RangeOf.ctr (k : Nat) : Ctr Try.prog 40 ⟨[.val (.slice TEntry), .val .str, .val .str], [(.slice .str)], true, false, fun x => spec_RangeOf.f k x.1 x.2.1 x.2.2.1⟩ :=
  run_ctr (E := spec_RangeOf.E k) mixed tb_ok (eqOk_of tb_eqs) Cts.nil (by kernel_rfl) Try.func40 (by kernel_rfl) rfl (fun ⟨a0, a1, a2, _⟩ r h => (spec_RangeOf.eq k a0 a1 a2).trans h)
def impl_RangeOf.E (k : Nat) : Env := ⟨tb, [], [(3, [1, 2, 7, 10, 11, 12])], k, 0, []⟩
noncomputable def impl_RangeOf.K0 (k : Nat) (a0 : List (Ty.den TEntry)) (a1 : ByteArray) (a2 : ByteArray) : Ex → St → Option ((List ByteArray) × Unit) := runK (impl_RangeOf.E k) (endK (impl_RangeOf.E k) Try.f42.results.toList [.val (.slice TEntry), .val .str, .val .str] (a0, a1, a2, ()) [(.slice .str)] true false) [.blk 0, .code (at_ [true, true, true] (body Try.f42))]
noncomputable def impl_RangeOf.B0 (k : Nat) (a0 : List (Ty.den TEntry)) (a1 : ByteArray) (a2 : ByteArray) (n0 : Nat) : Ex → St → Option ((List ByteArray) × Unit) := fun e st => match e with
  | .normal => loopN (exec (impl_RangeOf.E k) (at_ [true, true, false, true, false, false] (body Try.f42))) (canon 0 [1, 2, 7, 10, 11, 12]) (impl_RangeOf.K0 k a0 a1 a2) n0 (canon 0 [1, 2, 7, 10, 11, 12] st)
  | .ret => impl_RangeOf.K0 k a0 a1 a2 .ret st
  | .exit j => impl_RangeOf.K0 k a0 a1 a2 (.exit j) st
noncomputable def impl_RangeOf.V0 (k : Nat) (a0 : List (Ty.den TEntry)) (a1 : ByteArray) (a2 : ByteArray) (n0 : Nat) (x0_0 : ByteArray) (x0_1 : ByteArray) (x0_2 : List (Ty.den TEntry)) (x0_3 : Int) (x0_4 : Int) (x0_5 : List ByteArray) : Option ((List ByteArray) × Unit) := loopN (exec (impl_RangeOf.E k) (at_ [true, true, false, true, false, false] (body Try.f42))) (canon 0 [1, 2, 7, 10, 11, 12]) (impl_RangeOf.K0 k a0 a1 a2) n0 (mk 37 1 [(1, .str x0_0), (2, .str x0_1), (7, .ref 0), (10, .sl true TEntry x0_2), (11, .int .i64 x0_3), (12, .int .i64 x0_4)] [(0, .own false .str x0_5)])
theorem impl_RangeOf.s0 (k : Nat) (a0 : List (Ty.den TEntry)) (a1 : ByteArray) (a2 : ByteArray) (n0 : Nat) (x0_0 : ByteArray) (x0_1 : ByteArray) (x0_2 : List (Ty.den TEntry)) (x0_3 : Int) (x0_4 : Int) (x0_5 : List ByteArray) : impl_RangeOf.V0 k a0 a1 a2 (n0 + 1) x0_0 x0_1 x0_2 x0_3 x0_4 x0_5 = impl_RangeOf.b0 k (impl_RangeOf.V0 k a0 a1 a2 n0) x0_0 x0_1 x0_2 x0_3 x0_4 x0_5 := by kernel_rfl
theorem impl_RangeOf.e0 (k : Nat) (a0 : List (Ty.den TEntry)) (a1 : ByteArray) (a2 : ByteArray) (n0 : Nat) : impl_RangeOf.V0 k a0 a1 a2 n0 = impl_RangeOf.l0 k n0 := by
  induction n0 with
  | zero => rfl
  | succ n0 ih =>
    have h : impl_RangeOf.V0 k a0 a1 a2 (n0 + 1) = impl_RangeOf.b0 k (impl_RangeOf.V0 k a0 a1 a2 n0) := funext fun x0_0 => funext fun x0_1 => funext fun x0_2 => funext fun x0_3 => funext fun x0_4 => funext fun x0_5 => impl_RangeOf.s0 k a0 a1 a2 n0 x0_0 x0_1 x0_2 x0_3 x0_4 x0_5
    rw [h, ih]
    rfl
theorem impl_RangeOf.q (k : Nat) (a0 : List (Ty.den TEntry)) (a1 : ByteArray) (a2 : ByteArray) : run (impl_RangeOf.E k) Try.f42 [.val (.slice TEntry), .val .str, .val .str] [(.slice .str)] true false (a0, a1, a2, ()) = impl_RangeOf.t k (impl_RangeOf.V0 k a0 a1 a2 k) a0 a1 a2 := by kernel_rfl
theorem impl_RangeOf.eq (k : Nat) (a0 : List (Ty.den TEntry)) (a1 : ByteArray) (a2 : ByteArray) : run (impl_RangeOf.E k) Try.f42 [.val (.slice TEntry), .val .str, .val .str] [(.slice .str)] true false (a0, a1, a2, ()) = impl_RangeOf.f k a0 a1 a2 := by
  rw [impl_RangeOf.q, impl_RangeOf.e0]
  rfl
theorem impl_RangeOf.ctr (k : Nat) : Ctr Try.prog 42 ⟨[.val (.slice TEntry), .val .str, .val .str], [(.slice .str)], true, false, fun x => impl_RangeOf.f k x.1 x.2.1 x.2.2.1⟩ :=
  run_ctr (E := impl_RangeOf.E k) mixed tb_ok (eqOk_of tb_eqs) Cts.nil (by kernel_rfl) Try.func42 (by kernel_rfl) rfl (fun ⟨a0, a1, a2, _⟩ r h => (impl_RangeOf.eq k a0 a1 a2).trans h)
def laws_eqStringS.E (k : Nat) : Env := ⟨tb, [], [(4, [0, 1, 5])], k, 0, []⟩
noncomputable def laws_eqStringS.K0 (k : Nat) (a0 : List ByteArray) (a1 : List ByteArray) : Ex → St → Option (Bool × Unit) := runK (laws_eqStringS.E k) (endK (laws_eqStringS.E k) Try.f43.results.toList [.val (.slice .str), .val (.slice .str)] (a0, a1, ()) [.bool] true false) [.blk 0, .code (at_ [true, true, true] (body Try.f43))]
noncomputable def laws_eqStringS.B0 (k : Nat) (a0 : List ByteArray) (a1 : List ByteArray) (n0 : Nat) : Ex → St → Option (Bool × Unit) := fun e st => match e with
  | .normal => loopN (exec (laws_eqStringS.E k) (at_ [true, true, false, true, false, false] (body Try.f43))) (canon 0 [0, 1, 5]) (laws_eqStringS.K0 k a0 a1) n0 (canon 0 [0, 1, 5] st)
  | .ret => laws_eqStringS.K0 k a0 a1 .ret st
  | .exit j => laws_eqStringS.K0 k a0 a1 (.exit j) st
noncomputable def laws_eqStringS.V0 (k : Nat) (a0 : List ByteArray) (a1 : List ByteArray) (n0 : Nat) (x0_0 : List ByteArray) (x0_1 : List ByteArray) (x0_2 : Int) : Option (Bool × Unit) := loopN (exec (laws_eqStringS.E k) (at_ [true, true, false, true, false, false] (body Try.f43))) (canon 0 [0, 1, 5]) (laws_eqStringS.K0 k a0 a1) n0 (mk 26 0 [(0, .sl true .str x0_0), (1, .sl true .str x0_1), (5, .int .i64 x0_2)] [])
theorem laws_eqStringS.s0 (k : Nat) (a0 : List ByteArray) (a1 : List ByteArray) (n0 : Nat) (x0_0 : List ByteArray) (x0_1 : List ByteArray) (x0_2 : Int) : laws_eqStringS.V0 k a0 a1 (n0 + 1) x0_0 x0_1 x0_2 = laws_eqStringS.b0 k (laws_eqStringS.V0 k a0 a1 n0) x0_0 x0_1 x0_2 := by kernel_rfl
theorem laws_eqStringS.e0 (k : Nat) (a0 : List ByteArray) (a1 : List ByteArray) (n0 : Nat) : laws_eqStringS.V0 k a0 a1 n0 = laws_eqStringS.l0 k n0 := by
  induction n0 with
  | zero => rfl
  | succ n0 ih =>
    have h : laws_eqStringS.V0 k a0 a1 (n0 + 1) = laws_eqStringS.b0 k (laws_eqStringS.V0 k a0 a1 n0) := funext fun x0_0 => funext fun x0_1 => funext fun x0_2 => laws_eqStringS.s0 k a0 a1 n0 x0_0 x0_1 x0_2
    rw [h, ih]
    rfl
theorem laws_eqStringS.q (k : Nat) (a0 : List ByteArray) (a1 : List ByteArray) : run (laws_eqStringS.E k) Try.f43 [.val (.slice .str), .val (.slice .str)] [.bool] true false (a0, a1, ()) = laws_eqStringS.t k (laws_eqStringS.V0 k a0 a1 k) a0 a1 := by kernel_rfl
theorem laws_eqStringS.eq (k : Nat) (a0 : List ByteArray) (a1 : List ByteArray) : run (laws_eqStringS.E k) Try.f43 [.val (.slice .str), .val (.slice .str)] [.bool] true false (a0, a1, ()) = laws_eqStringS.f k a0 a1 := by
  rw [laws_eqStringS.q, laws_eqStringS.e0]
  rfl
theorem laws_eqStringS.ctr (k : Nat) : Ctr Try.prog 43 ⟨[.val (.slice .str), .val (.slice .str)], [.bool], true, false, fun x => laws_eqStringS.f k x.1 x.2.1⟩ :=
  run_ctr (E := laws_eqStringS.E k) mixed tb_ok (eqOk_of tb_eqs) Cts.nil (by kernel_rfl) Try.func43 (by kernel_rfl) rfl (fun ⟨a0, a1, _⟩ r h => (laws_eqStringS.eq k a0 a1).trans h)
def laws_eqEntry.E (k : Nat) : Env := ⟨tb, [], [], k, 0, []⟩
theorem laws_eqEntry.q (k : Nat) (a0 : Ty.den TEntry) (a1 : Ty.den TEntry) : run (laws_eqEntry.E k) Try.f93 [.val TEntry, .val TEntry] [.bool] true false (a0, a1, ()) = laws_eqEntry.t k a0 a1 := by kernel_rfl
theorem laws_eqEntry.eq (k : Nat) (a0 : Ty.den TEntry) (a1 : Ty.den TEntry) : run (laws_eqEntry.E k) Try.f93 [.val TEntry, .val TEntry] [.bool] true false (a0, a1, ()) = laws_eqEntry.f k a0 a1 := by
  rw [laws_eqEntry.q]
  rfl
theorem laws_eqEntry.ctr (k : Nat) : Ctr Try.prog 93 ⟨[.val TEntry, .val TEntry], [.bool], true, false, fun x => laws_eqEntry.f k x.1 x.2.1⟩ :=
  run_ctr (E := laws_eqEntry.E k) mixed tb_ok (eqOk_of tb_eqs) Cts.nil (by kernel_rfl) Try.func93 (by kernel_rfl) rfl (fun ⟨a0, a1, _⟩ r h => (laws_eqEntry.eq k a0 a1).trans h)
def laws_eqEntryS.E (k : Nat) : Env := ⟨tb, [(93, ⟨[.val TEntry, .val TEntry], [.bool], true, false, fun x => laws_eqEntry.f k x.1 x.2.1⟩)], [(4, [0, 1, 5])], k, 0, []⟩
noncomputable def laws_eqEntryS.K0 (k : Nat) (a0 : List (Ty.den TEntry)) (a1 : List (Ty.den TEntry)) : Ex → St → Option (Bool × Unit) := runK (laws_eqEntryS.E k) (endK (laws_eqEntryS.E k) Try.f44.results.toList [.val (.slice TEntry), .val (.slice TEntry)] (a0, a1, ()) [.bool] true false) [.blk 0, .code (at_ [true, true, true] (body Try.f44))]
noncomputable def laws_eqEntryS.B0 (k : Nat) (a0 : List (Ty.den TEntry)) (a1 : List (Ty.den TEntry)) (n0 : Nat) : Ex → St → Option (Bool × Unit) := fun e st => match e with
  | .normal => loopN (exec (laws_eqEntryS.E k) (at_ [true, true, false, true, false, false] (body Try.f44))) (canon 0 [0, 1, 5]) (laws_eqEntryS.K0 k a0 a1) n0 (canon 0 [0, 1, 5] st)
  | .ret => laws_eqEntryS.K0 k a0 a1 .ret st
  | .exit j => laws_eqEntryS.K0 k a0 a1 (.exit j) st
noncomputable def laws_eqEntryS.V0 (k : Nat) (a0 : List (Ty.den TEntry)) (a1 : List (Ty.den TEntry)) (n0 : Nat) (x0_0 : List (Ty.den TEntry)) (x0_1 : List (Ty.den TEntry)) (x0_2 : Int) : Option (Bool × Unit) := loopN (exec (laws_eqEntryS.E k) (at_ [true, true, false, true, false, false] (body Try.f44))) (canon 0 [0, 1, 5]) (laws_eqEntryS.K0 k a0 a1) n0 (mk 27 0 [(0, .sl true TEntry x0_0), (1, .sl true TEntry x0_1), (5, .int .i64 x0_2)] [])
theorem laws_eqEntryS.s0 (k : Nat) (a0 : List (Ty.den TEntry)) (a1 : List (Ty.den TEntry)) (n0 : Nat) (x0_0 : List (Ty.den TEntry)) (x0_1 : List (Ty.den TEntry)) (x0_2 : Int) : laws_eqEntryS.V0 k a0 a1 (n0 + 1) x0_0 x0_1 x0_2 = laws_eqEntryS.b0 k (laws_eqEntryS.V0 k a0 a1 n0) x0_0 x0_1 x0_2 := by kernel_rfl
theorem laws_eqEntryS.e0 (k : Nat) (a0 : List (Ty.den TEntry)) (a1 : List (Ty.den TEntry)) (n0 : Nat) : laws_eqEntryS.V0 k a0 a1 n0 = laws_eqEntryS.l0 k n0 := by
  induction n0 with
  | zero => rfl
  | succ n0 ih =>
    have h : laws_eqEntryS.V0 k a0 a1 (n0 + 1) = laws_eqEntryS.b0 k (laws_eqEntryS.V0 k a0 a1 n0) := funext fun x0_0 => funext fun x0_1 => funext fun x0_2 => laws_eqEntryS.s0 k a0 a1 n0 x0_0 x0_1 x0_2
    rw [h, ih]
    rfl
theorem laws_eqEntryS.q (k : Nat) (a0 : List (Ty.den TEntry)) (a1 : List (Ty.den TEntry)) : run (laws_eqEntryS.E k) Try.f44 [.val (.slice TEntry), .val (.slice TEntry)] [.bool] true false (a0, a1, ()) = laws_eqEntryS.t k (laws_eqEntryS.V0 k a0 a1 k) a0 a1 := by kernel_rfl
theorem laws_eqEntryS.eq (k : Nat) (a0 : List (Ty.den TEntry)) (a1 : List (Ty.den TEntry)) : run (laws_eqEntryS.E k) Try.f44 [.val (.slice TEntry), .val (.slice TEntry)] [.bool] true false (a0, a1, ()) = laws_eqEntryS.f k a0 a1 := by
  rw [laws_eqEntryS.q, laws_eqEntryS.e0]
  rfl
theorem laws_eqEntryS.ctr (k : Nat) : Ctr Try.prog 44 ⟨[.val (.slice TEntry), .val (.slice TEntry)], [.bool], true, false, fun x => laws_eqEntryS.f k x.1 x.2.1⟩ :=
  run_ctr (E := laws_eqEntryS.E k) mixed tb_ok (eqOk_of tb_eqs) (Cts.cons (laws_eqEntry.ctr k) Cts.nil) (by kernel_rfl) Try.func44 (by kernel_rfl) rfl (fun ⟨a0, a1, _⟩ r h => (laws_eqEntryS.eq k a0 a1).trans h)
def laws_markText.E (k : Nat) : Env := ⟨tb, [], [(4, [0, 3])], k, 0, []⟩
noncomputable def laws_markText.K0 (k : Nat) (a0 : Int) : Ex → St → Option (ByteArray × Unit) := runK (laws_markText.E k) (endK (laws_markText.E k) Try.f94.results.toList [.val (.int .i64)] (a0, ()) [.str] true false) [.blk 0, .code (at_ [true, true, true, true] (body Try.f94))]
noncomputable def laws_markText.B0 (k : Nat) (a0 : Int) (n0 : Nat) : Ex → St → Option (ByteArray × Unit) := fun e st => match e with
  | .normal => loopN (exec (laws_markText.E k) (at_ [true, true, true, false, false, false] (body Try.f94))) (canon 0 [0, 3]) (laws_markText.K0 k a0) n0 (canon 0 [0, 3] st)
  | .ret => laws_markText.K0 k a0 .ret st
  | .exit j => laws_markText.K0 k a0 (.exit j) st
noncomputable def laws_markText.V0 (k : Nat) (a0 : Int) (n0 : Nat) (x0_0 : Int) (x0_1 : ByteArray) : Option (ByteArray × Unit) := loopN (exec (laws_markText.E k) (at_ [true, true, true, false, false, false] (body Try.f94))) (canon 0 [0, 3]) (laws_markText.K0 k a0) n0 (mk 20 0 [(0, .int .i64 x0_0), (3, .str x0_1)] [])
theorem laws_markText.s0 (k : Nat) (a0 : Int) (n0 : Nat) (x0_0 : Int) (x0_1 : ByteArray) : laws_markText.V0 k a0 (n0 + 1) x0_0 x0_1 = laws_markText.b0 k (laws_markText.V0 k a0 n0) x0_0 x0_1 := by kernel_rfl
theorem laws_markText.e0 (k : Nat) (a0 : Int) (n0 : Nat) : laws_markText.V0 k a0 n0 = laws_markText.l0 k n0 := by
  induction n0 with
  | zero => rfl
  | succ n0 ih =>
    have h : laws_markText.V0 k a0 (n0 + 1) = laws_markText.b0 k (laws_markText.V0 k a0 n0) := funext fun x0_0 => funext fun x0_1 => laws_markText.s0 k a0 n0 x0_0 x0_1
    rw [h, ih]
    rfl
theorem laws_markText.q (k : Nat) (a0 : Int) : run (laws_markText.E k) Try.f94 [.val (.int .i64)] [.str] true false (a0, ()) = laws_markText.t k (laws_markText.V0 k a0 k) a0 := by kernel_rfl
theorem laws_markText.eq (k : Nat) (a0 : Int) : run (laws_markText.E k) Try.f94 [.val (.int .i64)] [.str] true false (a0, ()) = laws_markText.f k a0 := by
  rw [laws_markText.q, laws_markText.e0]
  rfl
theorem laws_markText.ctr (k : Nat) : Ctr Try.prog 94 ⟨[.val (.int .i64)], [.str], true, false, fun x => laws_markText.f k x.1⟩ :=
  run_ctr (E := laws_markText.E k) mixed tb_ok (eqOk_of tb_eqs) Cts.nil (by kernel_rfl) Try.func94 (by kernel_rfl) rfl (fun ⟨a0, _⟩ r h => (laws_markText.eq k a0).trans h)
def laws_markEntryS.E (k : Nat) : Env := ⟨tb, [(94, ⟨[.val (.int .i64)], [.str], true, false, fun x => laws_markText.f k x.1⟩)], [(2, [0, 1, 5])], k, 1, []⟩
noncomputable def laws_markEntryS.K0 (k : Nat) (a0 : List (Ty.den TEntry)) (a1 : Int) : Ex → St → Option ((List (Ty.den TEntry)) × Int × Unit) := runK (laws_markEntryS.E k) (endK (laws_markEntryS.E k) Try.f45.results.toList [.lend (.slice TEntry), .val (.int .i64)] (a0, a1, ()) [(.int .i64)] true false) [.blk 0, .code (at_ [true, true] (body Try.f45))]
noncomputable def laws_markEntryS.B0 (k : Nat) (a0 : List (Ty.den TEntry)) (a1 : Int) (n0 : Nat) : Ex → St → Option ((List (Ty.den TEntry)) × Int × Unit) := fun e st => match e with
  | .normal => loopN (exec (laws_markEntryS.E k) (at_ [true, false, true, false, false] (body Try.f45))) (canon 1 [0, 1, 5]) (laws_markEntryS.K0 k a0 a1) n0 (canon 1 [0, 1, 5] st)
  | .ret => laws_markEntryS.K0 k a0 a1 .ret st
  | .exit j => laws_markEntryS.K0 k a0 a1 (.exit j) st
noncomputable def laws_markEntryS.V0 (k : Nat) (a0 : List (Ty.den TEntry)) (a1 : Int) (n0 : Nat) (x0_0 : Int) (x0_1 : Int) (x0_2 : List (Ty.den TEntry)) : Option ((List (Ty.den TEntry)) × Int × Unit) := loopN (exec (laws_markEntryS.E k) (at_ [true, false, true, false, false] (body Try.f45))) (canon 1 [0, 1, 5]) (laws_markEntryS.K0 k a0 a1) n0 (mk 49 1 [(0, .ref 0), (1, .int .i64 x0_0), (5, .int .i64 x0_1)] [(0, .own false TEntry x0_2)])
theorem laws_markEntryS.s0 (k : Nat) (a0 : List (Ty.den TEntry)) (a1 : Int) (n0 : Nat) (x0_0 : Int) (x0_1 : Int) (x0_2 : List (Ty.den TEntry)) : laws_markEntryS.V0 k a0 a1 (n0 + 1) x0_0 x0_1 x0_2 = laws_markEntryS.b0 k a0 a1 (laws_markEntryS.V0 k a0 a1 n0) x0_0 x0_1 x0_2 := by kernel_rfl
theorem laws_markEntryS.e0 (k : Nat) (a0 : List (Ty.den TEntry)) (a1 : Int) (n0 : Nat) : laws_markEntryS.V0 k a0 a1 n0 = laws_markEntryS.l0 k a0 a1 n0 := by
  induction n0 with
  | zero => rfl
  | succ n0 ih =>
    have h : laws_markEntryS.V0 k a0 a1 (n0 + 1) = laws_markEntryS.b0 k a0 a1 (laws_markEntryS.V0 k a0 a1 n0) := funext fun x0_0 => funext fun x0_1 => funext fun x0_2 => laws_markEntryS.s0 k a0 a1 n0 x0_0 x0_1 x0_2
    rw [h, ih]
    rfl
theorem laws_markEntryS.q (k : Nat) (a0 : List (Ty.den TEntry)) (a1 : Int) : run (laws_markEntryS.E k) Try.f45 [.lend (.slice TEntry), .val (.int .i64)] [(.int .i64)] true false (a0, a1, ()) = laws_markEntryS.t k (laws_markEntryS.V0 k a0 a1 k) a0 a1 := by kernel_rfl
theorem laws_markEntryS.eq (k : Nat) (a0 : List (Ty.den TEntry)) (a1 : Int) : run (laws_markEntryS.E k) Try.f45 [.lend (.slice TEntry), .val (.int .i64)] [(.int .i64)] true false (a0, a1, ()) = laws_markEntryS.f k a0 a1 := by
  rw [laws_markEntryS.q, laws_markEntryS.e0]
  rfl
theorem laws_markEntryS.ctr (k : Nat) : Ctr Try.prog 45 ⟨[.lend (.slice TEntry), .val (.int .i64)], [(.int .i64)], true, false, fun x => laws_markEntryS.f k x.1 x.2.1⟩ :=
  run_ctr (E := laws_markEntryS.E k) mixed tb_ok (eqOk_of tb_eqs) (Cts.cons (laws_markText.ctr k) Cts.nil) (by kernel_rfl) Try.func45 (by kernel_rfl) rfl (fun ⟨a0, a1, _⟩ r h => (laws_markEntryS.eq k a0 a1).trans h)
def laws_markStringS.E (k : Nat) : Env := ⟨tb, [(94, ⟨[.val (.int .i64)], [.str], true, false, fun x => laws_markText.f k x.1⟩)], [(2, [0, 1, 5])], k, 1, []⟩
noncomputable def laws_markStringS.K0 (k : Nat) (a0 : List ByteArray) (a1 : Int) : Ex → St → Option ((List ByteArray) × Int × Unit) := runK (laws_markStringS.E k) (endK (laws_markStringS.E k) Try.f46.results.toList [.lend (.slice .str), .val (.int .i64)] (a0, a1, ()) [(.int .i64)] true false) [.blk 0, .code (at_ [true, true] (body Try.f46))]
noncomputable def laws_markStringS.B0 (k : Nat) (a0 : List ByteArray) (a1 : Int) (n0 : Nat) : Ex → St → Option ((List ByteArray) × Int × Unit) := fun e st => match e with
  | .normal => loopN (exec (laws_markStringS.E k) (at_ [true, false, true, false, false] (body Try.f46))) (canon 1 [0, 1, 5]) (laws_markStringS.K0 k a0 a1) n0 (canon 1 [0, 1, 5] st)
  | .ret => laws_markStringS.K0 k a0 a1 .ret st
  | .exit j => laws_markStringS.K0 k a0 a1 (.exit j) st
noncomputable def laws_markStringS.V0 (k : Nat) (a0 : List ByteArray) (a1 : Int) (n0 : Nat) (x0_0 : Int) (x0_1 : Int) (x0_2 : List ByteArray) : Option ((List ByteArray) × Int × Unit) := loopN (exec (laws_markStringS.E k) (at_ [true, false, true, false, false] (body Try.f46))) (canon 1 [0, 1, 5]) (laws_markStringS.K0 k a0 a1) n0 (mk 20 1 [(0, .ref 0), (1, .int .i64 x0_0), (5, .int .i64 x0_1)] [(0, .own false .str x0_2)])
theorem laws_markStringS.s0 (k : Nat) (a0 : List ByteArray) (a1 : Int) (n0 : Nat) (x0_0 : Int) (x0_1 : Int) (x0_2 : List ByteArray) : laws_markStringS.V0 k a0 a1 (n0 + 1) x0_0 x0_1 x0_2 = laws_markStringS.b0 k a0 a1 (laws_markStringS.V0 k a0 a1 n0) x0_0 x0_1 x0_2 := by kernel_rfl
theorem laws_markStringS.e0 (k : Nat) (a0 : List ByteArray) (a1 : Int) (n0 : Nat) : laws_markStringS.V0 k a0 a1 n0 = laws_markStringS.l0 k a0 a1 n0 := by
  induction n0 with
  | zero => rfl
  | succ n0 ih =>
    have h : laws_markStringS.V0 k a0 a1 (n0 + 1) = laws_markStringS.b0 k a0 a1 (laws_markStringS.V0 k a0 a1 n0) := funext fun x0_0 => funext fun x0_1 => funext fun x0_2 => laws_markStringS.s0 k a0 a1 n0 x0_0 x0_1 x0_2
    rw [h, ih]
    rfl
theorem laws_markStringS.q (k : Nat) (a0 : List ByteArray) (a1 : Int) : run (laws_markStringS.E k) Try.f46 [.lend (.slice .str), .val (.int .i64)] [(.int .i64)] true false (a0, a1, ()) = laws_markStringS.t k (laws_markStringS.V0 k a0 a1 k) a0 a1 := by kernel_rfl
theorem laws_markStringS.eq (k : Nat) (a0 : List ByteArray) (a1 : Int) : run (laws_markStringS.E k) Try.f46 [.lend (.slice .str), .val (.int .i64)] [(.int .i64)] true false (a0, a1, ()) = laws_markStringS.f k a0 a1 := by
  rw [laws_markStringS.q, laws_markStringS.e0]
  rfl
theorem laws_markStringS.ctr (k : Nat) : Ctr Try.prog 46 ⟨[.lend (.slice .str), .val (.int .i64)], [(.int .i64)], true, false, fun x => laws_markStringS.f k x.1 x.2.1⟩ :=
  run_ctr (E := laws_markStringS.E k) mixed tb_ok (eqOk_of tb_eqs) (Cts.cons (laws_markText.ctr k) Cts.nil) (by kernel_rfl) Try.func46 (by kernel_rfl) rfl (fun ⟨a0, a1, _⟩ r h => (laws_markStringS.eq k a0 a1).trans h)
def laws_heldStringS.E (k : Nat) : Env := ⟨tb, [(94, ⟨[.val (.int .i64)], [.str], true, false, fun x => laws_markText.f k x.1⟩)], [(2, [0, 1, 5])], k, 0, []⟩
noncomputable def laws_heldStringS.K0 (k : Nat) (a0 : List ByteArray) (a1 : Int) : Ex → St → Option (Int × Unit) := runK (laws_heldStringS.E k) (endK (laws_heldStringS.E k) Try.f47.results.toList [.val (.slice .str), .val (.int .i64)] (a0, a1, ()) [(.int .i64)] true false) [.blk 0, .code (at_ [true, true] (body Try.f47))]
noncomputable def laws_heldStringS.B0 (k : Nat) (a0 : List ByteArray) (a1 : Int) (n0 : Nat) : Ex → St → Option (Int × Unit) := fun e st => match e with
  | .normal => loopN (exec (laws_heldStringS.E k) (at_ [true, false, true, false, false] (body Try.f47))) (canon 0 [0, 1, 5]) (laws_heldStringS.K0 k a0 a1) n0 (canon 0 [0, 1, 5] st)
  | .ret => laws_heldStringS.K0 k a0 a1 .ret st
  | .exit j => laws_heldStringS.K0 k a0 a1 (.exit j) st
noncomputable def laws_heldStringS.V0 (k : Nat) (a0 : List ByteArray) (a1 : Int) (n0 : Nat) (x0_0 : List ByteArray) (x0_1 : Int) (x0_2 : Int) : Option (Int × Unit) := loopN (exec (laws_heldStringS.E k) (at_ [true, false, true, false, false] (body Try.f47))) (canon 0 [0, 1, 5]) (laws_heldStringS.K0 k a0 a1) n0 (mk 22 0 [(0, .sl true .str x0_0), (1, .int .i64 x0_1), (5, .int .i64 x0_2)] [])
theorem laws_heldStringS.s0 (k : Nat) (a0 : List ByteArray) (a1 : Int) (n0 : Nat) (x0_0 : List ByteArray) (x0_1 : Int) (x0_2 : Int) : laws_heldStringS.V0 k a0 a1 (n0 + 1) x0_0 x0_1 x0_2 = laws_heldStringS.b0 k (laws_heldStringS.V0 k a0 a1 n0) x0_0 x0_1 x0_2 := by kernel_rfl
theorem laws_heldStringS.e0 (k : Nat) (a0 : List ByteArray) (a1 : Int) (n0 : Nat) : laws_heldStringS.V0 k a0 a1 n0 = laws_heldStringS.l0 k n0 := by
  induction n0 with
  | zero => rfl
  | succ n0 ih =>
    have h : laws_heldStringS.V0 k a0 a1 (n0 + 1) = laws_heldStringS.b0 k (laws_heldStringS.V0 k a0 a1 n0) := funext fun x0_0 => funext fun x0_1 => funext fun x0_2 => laws_heldStringS.s0 k a0 a1 n0 x0_0 x0_1 x0_2
    rw [h, ih]
    rfl
theorem laws_heldStringS.q (k : Nat) (a0 : List ByteArray) (a1 : Int) : run (laws_heldStringS.E k) Try.f47 [.val (.slice .str), .val (.int .i64)] [(.int .i64)] true false (a0, a1, ()) = laws_heldStringS.t k (laws_heldStringS.V0 k a0 a1 k) a0 a1 := by kernel_rfl
theorem laws_heldStringS.eq (k : Nat) (a0 : List ByteArray) (a1 : Int) : run (laws_heldStringS.E k) Try.f47 [.val (.slice .str), .val (.int .i64)] [(.int .i64)] true false (a0, a1, ()) = laws_heldStringS.f k a0 a1 := by
  rw [laws_heldStringS.q, laws_heldStringS.e0]
  rfl
theorem laws_heldStringS.ctr (k : Nat) : Ctr Try.prog 47 ⟨[.val (.slice .str), .val (.int .i64)], [(.int .i64)], true, false, fun x => laws_heldStringS.f k x.1 x.2.1⟩ :=
  run_ctr (E := laws_heldStringS.E k) mixed tb_ok (eqOk_of tb_eqs) (Cts.cons (laws_markText.ctr k) Cts.nil) (by kernel_rfl) Try.func47 (by kernel_rfl) rfl (fun ⟨a0, a1, _⟩ r h => (laws_heldStringS.eq k a0 a1).trans h)
def laws_FnExactRangeOf.E (k : Nat) : Env := ⟨tb, [(39, ⟨[.val (.slice TEntry), .val (.int .i64)], [(.int .i64)], true, false, fun x => laws_szEntryS.f k x.1 x.2.1⟩), (41, ⟨[.val (.slice TEntry)], [(.slice TEntry)], true, false, fun x => laws_toEntryS.f k x.1⟩), (40, ⟨[.val (.slice TEntry), .val .str, .val .str], [(.slice .str)], true, false, fun x => spec_RangeOf.f k x.1 x.2.1 x.2.2.1⟩), (42, ⟨[.val (.slice TEntry), .val .str, .val .str], [(.slice .str)], true, false, fun x => impl_RangeOf.f k x.1 x.2.1 x.2.2.1⟩), (43, ⟨[.val (.slice .str), .val (.slice .str)], [.bool], true, false, fun x => laws_eqStringS.f k x.1 x.2.1⟩), (44, ⟨[.val (.slice TEntry), .val (.slice TEntry)], [.bool], true, false, fun x => laws_eqEntryS.f k x.1 x.2.1⟩), (45, ⟨[.lend (.slice TEntry), .val (.int .i64)], [(.int .i64)], true, false, fun x => laws_markEntryS.f k x.1 x.2.1⟩), (46, ⟨[.lend (.slice .str), .val (.int .i64)], [(.int .i64)], true, false, fun x => laws_markStringS.f k x.1 x.2.1⟩), (47, ⟨[.val (.slice .str), .val (.int .i64)], [(.int .i64)], true, false, fun x => laws_heldStringS.f k x.1 x.2.1⟩)], [], k, 0, []⟩
theorem laws_FnExactRangeOf.q (k : Nat) (a0 : List (Ty.den TEntry)) (a1 : ByteArray) (a2 : ByteArray) : run (laws_FnExactRangeOf.E k) Try.f8 [.val (.slice TEntry), .val .str, .val .str] [.bool] true false (a0, a1, a2, ()) = laws_FnExactRangeOf.t k a0 a1 a2 := by kernel_rfl
theorem laws_FnExactRangeOf.eq (k : Nat) (a0 : List (Ty.den TEntry)) (a1 : ByteArray) (a2 : ByteArray) : run (laws_FnExactRangeOf.E k) Try.f8 [.val (.slice TEntry), .val .str, .val .str] [.bool] true false (a0, a1, a2, ()) = laws_FnExactRangeOf.f k a0 a1 a2 := by
  rw [laws_FnExactRangeOf.q]
  rfl
theorem laws_FnExactRangeOf.ctr (k : Nat) : Ctr Try.prog 8 ⟨[.val (.slice TEntry), .val .str, .val .str], [.bool], true, false, fun x => laws_FnExactRangeOf.f k x.1 x.2.1 x.2.2.1⟩ :=
  run_ctr (E := laws_FnExactRangeOf.E k) mixed tb_ok (eqOk_of tb_eqs) (Cts.cons (laws_szEntryS.ctr k) (Cts.cons (laws_toEntryS.ctr k) (Cts.cons (spec_RangeOf.ctr k) (Cts.cons (impl_RangeOf.ctr k) (Cts.cons (laws_eqStringS.ctr k) (Cts.cons (laws_eqEntryS.ctr k) (Cts.cons (laws_markEntryS.ctr k) (Cts.cons (laws_markStringS.ctr k) (Cts.cons (laws_heldStringS.ctr k) Cts.nil))))))))) (by kernel_rfl) Try.func8 (by kernel_rfl) rfl (fun ⟨a0, a1, a2, _⟩ r h => (laws_FnExactRangeOf.eq k a0 a1 a2).trans h)
def spec_Page.E (k : Nat) : Env := ⟨tb, [], [(4, [0, 1, 2, 8, 9, 10])], k, 0, []⟩
noncomputable def spec_Page.K0 (k : Nat) (a0 : List (Ty.den TEntry)) (a1 : ByteArray) (a2 : Int) : Ex → St → Option ((List ByteArray) × ByteArray × Unit) := runK (spec_Page.E k) (endK (spec_Page.E k) Try.f48.results.toList [.val (.slice TEntry), .val .str, .val (.int .i64)] (a0, a1, a2, ()) [(.slice .str), .str] true false) [.blk 0, .code (at_ [true, true, true, true] (body Try.f48))]
noncomputable def spec_Page.B0 (k : Nat) (a0 : List (Ty.den TEntry)) (a1 : ByteArray) (a2 : Int) (n0 : Nat) : Ex → St → Option ((List ByteArray) × ByteArray × Unit) := fun e st => match e with
  | .normal => loopN (exec (spec_Page.E k) (at_ [true, true, true, false, true, false, false] (body Try.f48))) (canon 0 [0, 1, 2, 8, 9, 10]) (spec_Page.K0 k a0 a1 a2) n0 (canon 0 [0, 1, 2, 8, 9, 10] st)
  | .ret => spec_Page.K0 k a0 a1 a2 .ret st
  | .exit j => spec_Page.K0 k a0 a1 a2 (.exit j) st
noncomputable def spec_Page.V0 (k : Nat) (a0 : List (Ty.den TEntry)) (a1 : ByteArray) (a2 : Int) (n0 : Nat) (x0_0 : List (Ty.den TEntry)) (x0_1 : ByteArray) (x0_2 : Int) (x0_3 : ByteArray) (x0_4 : Int) (x0_5 : List ByteArray) : Option ((List ByteArray) × ByteArray × Unit) := loopN (exec (spec_Page.E k) (at_ [true, true, true, false, true, false, false] (body Try.f48))) (canon 0 [0, 1, 2, 8, 9, 10]) (spec_Page.K0 k a0 a1 a2) n0 (mk 44 1 [(0, .sl true TEntry x0_0), (1, .str x0_1), (2, .int .i64 x0_2), (8, .ref 0), (9, .str x0_3), (10, .int .i64 x0_4)] [(0, .own false .str x0_5)])
theorem spec_Page.s0 (k : Nat) (a0 : List (Ty.den TEntry)) (a1 : ByteArray) (a2 : Int) (n0 : Nat) (x0_0 : List (Ty.den TEntry)) (x0_1 : ByteArray) (x0_2 : Int) (x0_3 : ByteArray) (x0_4 : Int) (x0_5 : List ByteArray) : spec_Page.V0 k a0 a1 a2 (n0 + 1) x0_0 x0_1 x0_2 x0_3 x0_4 x0_5 = spec_Page.b0 k (spec_Page.V0 k a0 a1 a2 n0) x0_0 x0_1 x0_2 x0_3 x0_4 x0_5 := by kernel_rfl
theorem spec_Page.e0 (k : Nat) (a0 : List (Ty.den TEntry)) (a1 : ByteArray) (a2 : Int) (n0 : Nat) : spec_Page.V0 k a0 a1 a2 n0 = spec_Page.l0 k n0 := by
  induction n0 with
  | zero => rfl
  | succ n0 ih =>
    have h : spec_Page.V0 k a0 a1 a2 (n0 + 1) = spec_Page.b0 k (spec_Page.V0 k a0 a1 a2 n0) := funext fun x0_0 => funext fun x0_1 => funext fun x0_2 => funext fun x0_3 => funext fun x0_4 => funext fun x0_5 => spec_Page.s0 k a0 a1 a2 n0 x0_0 x0_1 x0_2 x0_3 x0_4 x0_5
    rw [h, ih]
    rfl
theorem spec_Page.q (k : Nat) (a0 : List (Ty.den TEntry)) (a1 : ByteArray) (a2 : Int) : run (spec_Page.E k) Try.f48 [.val (.slice TEntry), .val .str, .val (.int .i64)] [(.slice .str), .str] true false (a0, a1, a2, ()) = spec_Page.t k (spec_Page.V0 k a0 a1 a2 k) a0 a1 a2 := by kernel_rfl
theorem spec_Page.eq (k : Nat) (a0 : List (Ty.den TEntry)) (a1 : ByteArray) (a2 : Int) : run (spec_Page.E k) Try.f48 [.val (.slice TEntry), .val .str, .val (.int .i64)] [(.slice .str), .str] true false (a0, a1, a2, ()) = spec_Page.f k a0 a1 a2 := by
  rw [spec_Page.q, spec_Page.e0]
  rfl
theorem spec_Page.ctr (k : Nat) : Ctr Try.prog 48 ⟨[.val (.slice TEntry), .val .str, .val (.int .i64)], [(.slice .str), .str], true, false, fun x => spec_Page.f k x.1 x.2.1 x.2.2.1⟩ :=
  run_ctr (E := spec_Page.E k) mixed tb_ok (eqOk_of tb_eqs) Cts.nil (by kernel_rfl) Try.func48 (by kernel_rfl) rfl (fun ⟨a0, a1, a2, _⟩ r h => (spec_Page.eq k a0 a1 a2).trans h)
def impl_Page.E (k : Nat) : Env := ⟨tb, [], [(4, [1, 2, 8, 9, 12, 13, 14])], k, 0, []⟩
noncomputable def impl_Page.K0 (k : Nat) (a0 : List (Ty.den TEntry)) (a1 : ByteArray) (a2 : Int) : Ex → St → Option ((List ByteArray) × ByteArray × Unit) := runK (impl_Page.E k) (endK (impl_Page.E k) Try.f49.results.toList [.val (.slice TEntry), .val .str, .val (.int .i64)] (a0, a1, a2, ()) [(.slice .str), .str] true false) [.blk 0, .code (at_ [true, true, true, true] (body Try.f49))]
noncomputable def impl_Page.B0 (k : Nat) (a0 : List (Ty.den TEntry)) (a1 : ByteArray) (a2 : Int) (n0 : Nat) : Ex → St → Option ((List ByteArray) × ByteArray × Unit) := fun e st => match e with
  | .normal => loopN (exec (impl_Page.E k) (at_ [true, true, true, false, true, false, false] (body Try.f49))) (canon 0 [1, 2, 8, 9, 12, 13, 14]) (impl_Page.K0 k a0 a1 a2) n0 (canon 0 [1, 2, 8, 9, 12, 13, 14] st)
  | .ret => impl_Page.K0 k a0 a1 a2 .ret st
  | .exit j => impl_Page.K0 k a0 a1 a2 (.exit j) st
noncomputable def impl_Page.V0 (k : Nat) (a0 : List (Ty.den TEntry)) (a1 : ByteArray) (a2 : Int) (n0 : Nat) (x0_0 : ByteArray) (x0_1 : Int) (x0_2 : ByteArray) (x0_3 : List (Ty.den TEntry)) (x0_4 : Int) (x0_5 : Int) (x0_6 : List ByteArray) : Option ((List ByteArray) × ByteArray × Unit) := loopN (exec (impl_Page.E k) (at_ [true, true, true, false, true, false, false] (body Try.f49))) (canon 0 [1, 2, 8, 9, 12, 13, 14]) (impl_Page.K0 k a0 a1 a2) n0 (mk 38 1 [(1, .str x0_0), (2, .int .i64 x0_1), (8, .ref 0), (9, .str x0_2), (12, .sl true TEntry x0_3), (13, .int .i64 x0_4), (14, .int .i64 x0_5)] [(0, .own false .str x0_6)])
theorem impl_Page.s0 (k : Nat) (a0 : List (Ty.den TEntry)) (a1 : ByteArray) (a2 : Int) (n0 : Nat) (x0_0 : ByteArray) (x0_1 : Int) (x0_2 : ByteArray) (x0_3 : List (Ty.den TEntry)) (x0_4 : Int) (x0_5 : Int) (x0_6 : List ByteArray) : impl_Page.V0 k a0 a1 a2 (n0 + 1) x0_0 x0_1 x0_2 x0_3 x0_4 x0_5 x0_6 = impl_Page.b0 k (impl_Page.V0 k a0 a1 a2 n0) x0_0 x0_1 x0_2 x0_3 x0_4 x0_5 x0_6 := by kernel_rfl
theorem impl_Page.e0 (k : Nat) (a0 : List (Ty.den TEntry)) (a1 : ByteArray) (a2 : Int) (n0 : Nat) : impl_Page.V0 k a0 a1 a2 n0 = impl_Page.l0 k n0 := by
  induction n0 with
  | zero => rfl
  | succ n0 ih =>
    have h : impl_Page.V0 k a0 a1 a2 (n0 + 1) = impl_Page.b0 k (impl_Page.V0 k a0 a1 a2 n0) := funext fun x0_0 => funext fun x0_1 => funext fun x0_2 => funext fun x0_3 => funext fun x0_4 => funext fun x0_5 => funext fun x0_6 => impl_Page.s0 k a0 a1 a2 n0 x0_0 x0_1 x0_2 x0_3 x0_4 x0_5 x0_6
    rw [h, ih]
    rfl
theorem impl_Page.q (k : Nat) (a0 : List (Ty.den TEntry)) (a1 : ByteArray) (a2 : Int) : run (impl_Page.E k) Try.f49 [.val (.slice TEntry), .val .str, .val (.int .i64)] [(.slice .str), .str] true false (a0, a1, a2, ()) = impl_Page.t k (impl_Page.V0 k a0 a1 a2 k) a0 a1 a2 := by kernel_rfl
theorem impl_Page.eq (k : Nat) (a0 : List (Ty.den TEntry)) (a1 : ByteArray) (a2 : Int) : run (impl_Page.E k) Try.f49 [.val (.slice TEntry), .val .str, .val (.int .i64)] [(.slice .str), .str] true false (a0, a1, a2, ()) = impl_Page.f k a0 a1 a2 := by
  rw [impl_Page.q, impl_Page.e0]
  rfl
theorem impl_Page.ctr (k : Nat) : Ctr Try.prog 49 ⟨[.val (.slice TEntry), .val .str, .val (.int .i64)], [(.slice .str), .str], true, false, fun x => impl_Page.f k x.1 x.2.1 x.2.2.1⟩ :=
  run_ctr (E := impl_Page.E k) mixed tb_ok (eqOk_of tb_eqs) Cts.nil (by kernel_rfl) Try.func49 (by kernel_rfl) rfl (fun ⟨a0, a1, a2, _⟩ r h => (impl_Page.eq k a0 a1 a2).trans h)
def laws_FnExactPage.E (k : Nat) : Env := ⟨tb, [(39, ⟨[.val (.slice TEntry), .val (.int .i64)], [(.int .i64)], true, false, fun x => laws_szEntryS.f k x.1 x.2.1⟩), (41, ⟨[.val (.slice TEntry)], [(.slice TEntry)], true, false, fun x => laws_toEntryS.f k x.1⟩), (48, ⟨[.val (.slice TEntry), .val .str, .val (.int .i64)], [(.slice .str), .str], true, false, fun x => spec_Page.f k x.1 x.2.1 x.2.2.1⟩), (49, ⟨[.val (.slice TEntry), .val .str, .val (.int .i64)], [(.slice .str), .str], true, false, fun x => impl_Page.f k x.1 x.2.1 x.2.2.1⟩), (43, ⟨[.val (.slice .str), .val (.slice .str)], [.bool], true, false, fun x => laws_eqStringS.f k x.1 x.2.1⟩), (44, ⟨[.val (.slice TEntry), .val (.slice TEntry)], [.bool], true, false, fun x => laws_eqEntryS.f k x.1 x.2.1⟩), (45, ⟨[.lend (.slice TEntry), .val (.int .i64)], [(.int .i64)], true, false, fun x => laws_markEntryS.f k x.1 x.2.1⟩), (46, ⟨[.lend (.slice .str), .val (.int .i64)], [(.int .i64)], true, false, fun x => laws_markStringS.f k x.1 x.2.1⟩), (47, ⟨[.val (.slice .str), .val (.int .i64)], [(.int .i64)], true, false, fun x => laws_heldStringS.f k x.1 x.2.1⟩)], [], k, 0, []⟩
theorem laws_FnExactPage.q (k : Nat) (a0 : List (Ty.den TEntry)) (a1 : ByteArray) (a2 : Int) : run (laws_FnExactPage.E k) Try.f9 [.val (.slice TEntry), .val .str, .val (.int .i64)] [.bool] true false (a0, a1, a2, ()) = laws_FnExactPage.t k a0 a1 a2 := by kernel_rfl
theorem laws_FnExactPage.eq (k : Nat) (a0 : List (Ty.den TEntry)) (a1 : ByteArray) (a2 : Int) : run (laws_FnExactPage.E k) Try.f9 [.val (.slice TEntry), .val .str, .val (.int .i64)] [.bool] true false (a0, a1, a2, ()) = laws_FnExactPage.f k a0 a1 a2 := by
  rw [laws_FnExactPage.q]
  rfl
theorem laws_FnExactPage.ctr (k : Nat) : Ctr Try.prog 9 ⟨[.val (.slice TEntry), .val .str, .val (.int .i64)], [.bool], true, false, fun x => laws_FnExactPage.f k x.1 x.2.1 x.2.2.1⟩ :=
  run_ctr (E := laws_FnExactPage.E k) mixed tb_ok (eqOk_of tb_eqs) (Cts.cons (laws_szEntryS.ctr k) (Cts.cons (laws_toEntryS.ctr k) (Cts.cons (spec_Page.ctr k) (Cts.cons (impl_Page.ctr k) (Cts.cons (laws_eqStringS.ctr k) (Cts.cons (laws_eqEntryS.ctr k) (Cts.cons (laws_markEntryS.ctr k) (Cts.cons (laws_markStringS.ctr k) (Cts.cons (laws_heldStringS.ctr k) Cts.nil))))))))) (by kernel_rfl) Try.func9 (by kernel_rfl) rfl (fun ⟨a0, a1, a2, _⟩ r h => (laws_FnExactPage.eq k a0 a1 a2).trans h)
def spec_Pages.E (k : Nat) : Env := ⟨tb, [(48, ⟨[.val (.slice TEntry), .val .str, .val (.int .i64)], [(.slice .str), .str], true, false, fun x => spec_Page.f k x.1 x.2.1 x.2.2.1⟩)], [(4, [0, 1, 5, 6, 7])], k, 0, []⟩
noncomputable def spec_Pages.K0 (k : Nat) (a0 : List (Ty.den TEntry)) (a1 : Int) : Ex → St → Option ((List ByteArray) × Unit) := runK (spec_Pages.E k) (endK (spec_Pages.E k) Try.f58.results.toList [.val (.slice TEntry), .val (.int .i64)] (a0, a1, ()) [(.slice .str)] true false) [.blk 0, .code (at_ [true, true, true, true] (body Try.f58))]
noncomputable def spec_Pages.B0 (k : Nat) (a0 : List (Ty.den TEntry)) (a1 : Int) (n0 : Nat) : Ex → St → Option ((List ByteArray) × Unit) := fun e st => match e with
  | .normal => loopN (exec (spec_Pages.E k) (at_ [true, true, true, false, true, false, false] (body Try.f58))) (canon 0 [0, 1, 5, 6, 7]) (spec_Pages.K0 k a0 a1) n0 (canon 0 [0, 1, 5, 6, 7] st)
  | .ret => spec_Pages.K0 k a0 a1 .ret st
  | .exit j => spec_Pages.K0 k a0 a1 (.exit j) st
noncomputable def spec_Pages.V0 (k : Nat) (a0 : List (Ty.den TEntry)) (a1 : Int) (n0 : Nat) (x0_0 : List (Ty.den TEntry)) (x0_1 : Int) (x0_2 : ByteArray) (x0_3 : Int) (x0_4 : List ByteArray) : Option ((List ByteArray) × Unit) := loopN (exec (spec_Pages.E k) (at_ [true, true, true, false, true, false, false] (body Try.f58))) (canon 0 [0, 1, 5, 6, 7]) (spec_Pages.K0 k a0 a1) n0 (mk 36 1 [(0, .sl true TEntry x0_0), (1, .int .i64 x0_1), (5, .ref 0), (6, .str x0_2), (7, .int .i64 x0_3)] [(0, .own false .str x0_4)])
theorem spec_Pages.s0 (k : Nat) (a0 : List (Ty.den TEntry)) (a1 : Int) (n0 : Nat) (x0_0 : List (Ty.den TEntry)) (x0_1 : Int) (x0_2 : ByteArray) (x0_3 : Int) (x0_4 : List ByteArray) : spec_Pages.V0 k a0 a1 (n0 + 1) x0_0 x0_1 x0_2 x0_3 x0_4 = spec_Pages.b0 k (spec_Pages.V0 k a0 a1 n0) x0_0 x0_1 x0_2 x0_3 x0_4 := by kernel_rfl
theorem spec_Pages.e0 (k : Nat) (a0 : List (Ty.den TEntry)) (a1 : Int) (n0 : Nat) : spec_Pages.V0 k a0 a1 n0 = spec_Pages.l0 k n0 := by
  induction n0 with
  | zero => rfl
  | succ n0 ih =>
    have h : spec_Pages.V0 k a0 a1 (n0 + 1) = spec_Pages.b0 k (spec_Pages.V0 k a0 a1 n0) := funext fun x0_0 => funext fun x0_1 => funext fun x0_2 => funext fun x0_3 => funext fun x0_4 => spec_Pages.s0 k a0 a1 n0 x0_0 x0_1 x0_2 x0_3 x0_4
    rw [h, ih]
    rfl
theorem spec_Pages.q (k : Nat) (a0 : List (Ty.den TEntry)) (a1 : Int) : run (spec_Pages.E k) Try.f58 [.val (.slice TEntry), .val (.int .i64)] [(.slice .str)] true false (a0, a1, ()) = spec_Pages.t k (spec_Pages.V0 k a0 a1 k) a0 a1 := by kernel_rfl
theorem spec_Pages.eq (k : Nat) (a0 : List (Ty.den TEntry)) (a1 : Int) : run (spec_Pages.E k) Try.f58 [.val (.slice TEntry), .val (.int .i64)] [(.slice .str)] true false (a0, a1, ()) = spec_Pages.f k a0 a1 := by
  rw [spec_Pages.q, spec_Pages.e0]
  rfl
theorem spec_Pages.ctr (k : Nat) : Ctr Try.prog 58 ⟨[.val (.slice TEntry), .val (.int .i64)], [(.slice .str)], true, false, fun x => spec_Pages.f k x.1 x.2.1⟩ :=
  run_ctr (E := spec_Pages.E k) mixed tb_ok (eqOk_of tb_eqs) (Cts.cons (spec_Page.ctr k) Cts.nil) (by kernel_rfl) Try.func58 (by kernel_rfl) rfl (fun ⟨a0, a1, _⟩ r h => (spec_Pages.eq k a0 a1).trans h)
def impl_Pages.E (k : Nat) : Env := ⟨tb, [(49, ⟨[.val (.slice TEntry), .val .str, .val (.int .i64)], [(.slice .str), .str], true, false, fun x => impl_Page.f k x.1 x.2.1 x.2.2.1⟩)], [(3, [0, 1, 5, 6])], k, 0, []⟩
noncomputable def impl_Pages.K0 (k : Nat) (a0 : List (Ty.den TEntry)) (a1 : Int) : Ex → St → Option ((List ByteArray) × Unit) := runK (impl_Pages.E k) (endK (impl_Pages.E k) Try.f56.results.toList [.val (.slice TEntry), .val (.int .i64)] (a0, a1, ()) [(.slice .str)] true false) [.blk 0, .code (at_ [true, true, true, true] (body Try.f56))]
noncomputable def impl_Pages.B0 (k : Nat) (a0 : List (Ty.den TEntry)) (a1 : Int) (n0 : Nat) : Ex → St → Option ((List ByteArray) × Unit) := fun e st => match e with
  | .normal => loopN (exec (impl_Pages.E k) (at_ [true, true, true, false, false, false] (body Try.f56))) (canon 0 [0, 1, 5, 6]) (impl_Pages.K0 k a0 a1) n0 (canon 0 [0, 1, 5, 6] st)
  | .ret => impl_Pages.K0 k a0 a1 .ret st
  | .exit j => impl_Pages.K0 k a0 a1 (.exit j) st
noncomputable def impl_Pages.V0 (k : Nat) (a0 : List (Ty.den TEntry)) (a1 : Int) (n0 : Nat) (x0_0 : List (Ty.den TEntry)) (x0_1 : Int) (x0_2 : ByteArray) (x0_3 : List ByteArray) : Option ((List ByteArray) × Unit) := loopN (exec (impl_Pages.E k) (at_ [true, true, true, false, false, false] (body Try.f56))) (canon 0 [0, 1, 5, 6]) (impl_Pages.K0 k a0 a1) n0 (mk 26 1 [(0, .sl true TEntry x0_0), (1, .int .i64 x0_1), (5, .ref 0), (6, .str x0_2)] [(0, .own false .str x0_3)])
theorem impl_Pages.s0 (k : Nat) (a0 : List (Ty.den TEntry)) (a1 : Int) (n0 : Nat) (x0_0 : List (Ty.den TEntry)) (x0_1 : Int) (x0_2 : ByteArray) (x0_3 : List ByteArray) : impl_Pages.V0 k a0 a1 (n0 + 1) x0_0 x0_1 x0_2 x0_3 = impl_Pages.b0 k (impl_Pages.V0 k a0 a1 n0) x0_0 x0_1 x0_2 x0_3 := by kernel_rfl
theorem impl_Pages.e0 (k : Nat) (a0 : List (Ty.den TEntry)) (a1 : Int) (n0 : Nat) : impl_Pages.V0 k a0 a1 n0 = impl_Pages.l0 k n0 := by
  induction n0 with
  | zero => rfl
  | succ n0 ih =>
    have h : impl_Pages.V0 k a0 a1 (n0 + 1) = impl_Pages.b0 k (impl_Pages.V0 k a0 a1 n0) := funext fun x0_0 => funext fun x0_1 => funext fun x0_2 => funext fun x0_3 => impl_Pages.s0 k a0 a1 n0 x0_0 x0_1 x0_2 x0_3
    rw [h, ih]
    rfl
theorem impl_Pages.q (k : Nat) (a0 : List (Ty.den TEntry)) (a1 : Int) : run (impl_Pages.E k) Try.f56 [.val (.slice TEntry), .val (.int .i64)] [(.slice .str)] true false (a0, a1, ()) = impl_Pages.t k (impl_Pages.V0 k a0 a1 k) a0 a1 := by kernel_rfl
theorem impl_Pages.eq (k : Nat) (a0 : List (Ty.den TEntry)) (a1 : Int) : run (impl_Pages.E k) Try.f56 [.val (.slice TEntry), .val (.int .i64)] [(.slice .str)] true false (a0, a1, ()) = impl_Pages.f k a0 a1 := by
  rw [impl_Pages.q, impl_Pages.e0]
  rfl
theorem impl_Pages.ctr (k : Nat) : Ctr Try.prog 56 ⟨[.val (.slice TEntry), .val (.int .i64)], [(.slice .str)], true, false, fun x => impl_Pages.f k x.1 x.2.1⟩ :=
  run_ctr (E := impl_Pages.E k) mixed tb_ok (eqOk_of tb_eqs) (Cts.cons (impl_Page.ctr k) Cts.nil) (by kernel_rfl) Try.func56 (by kernel_rfl) rfl (fun ⟨a0, a1, _⟩ r h => (impl_Pages.eq k a0 a1).trans h)
def laws_FnExactPages.E (k : Nat) : Env := ⟨tb, [(39, ⟨[.val (.slice TEntry), .val (.int .i64)], [(.int .i64)], true, false, fun x => laws_szEntryS.f k x.1 x.2.1⟩), (41, ⟨[.val (.slice TEntry)], [(.slice TEntry)], true, false, fun x => laws_toEntryS.f k x.1⟩), (58, ⟨[.val (.slice TEntry), .val (.int .i64)], [(.slice .str)], true, false, fun x => spec_Pages.f k x.1 x.2.1⟩), (56, ⟨[.val (.slice TEntry), .val (.int .i64)], [(.slice .str)], true, false, fun x => impl_Pages.f k x.1 x.2.1⟩), (43, ⟨[.val (.slice .str), .val (.slice .str)], [.bool], true, false, fun x => laws_eqStringS.f k x.1 x.2.1⟩), (44, ⟨[.val (.slice TEntry), .val (.slice TEntry)], [.bool], true, false, fun x => laws_eqEntryS.f k x.1 x.2.1⟩), (45, ⟨[.lend (.slice TEntry), .val (.int .i64)], [(.int .i64)], true, false, fun x => laws_markEntryS.f k x.1 x.2.1⟩), (46, ⟨[.lend (.slice .str), .val (.int .i64)], [(.int .i64)], true, false, fun x => laws_markStringS.f k x.1 x.2.1⟩), (47, ⟨[.val (.slice .str), .val (.int .i64)], [(.int .i64)], true, false, fun x => laws_heldStringS.f k x.1 x.2.1⟩)], [], k, 0, []⟩
theorem laws_FnExactPages.q (k : Nat) (a0 : List (Ty.den TEntry)) (a1 : Int) : run (laws_FnExactPages.E k) Try.f11 [.val (.slice TEntry), .val (.int .i64)] [.bool] true false (a0, a1, ()) = laws_FnExactPages.t k a0 a1 := by kernel_rfl
theorem laws_FnExactPages.eq (k : Nat) (a0 : List (Ty.den TEntry)) (a1 : Int) : run (laws_FnExactPages.E k) Try.f11 [.val (.slice TEntry), .val (.int .i64)] [.bool] true false (a0, a1, ()) = laws_FnExactPages.f k a0 a1 := by
  rw [laws_FnExactPages.q]
  rfl
theorem laws_FnExactPages.ctr (k : Nat) : Ctr Try.prog 11 ⟨[.val (.slice TEntry), .val (.int .i64)], [.bool], true, false, fun x => laws_FnExactPages.f k x.1 x.2.1⟩ :=
  run_ctr (E := laws_FnExactPages.E k) mixed tb_ok (eqOk_of tb_eqs) (Cts.cons (laws_szEntryS.ctr k) (Cts.cons (laws_toEntryS.ctr k) (Cts.cons (spec_Pages.ctr k) (Cts.cons (impl_Pages.ctr k) (Cts.cons (laws_eqStringS.ctr k) (Cts.cons (laws_eqEntryS.ctr k) (Cts.cons (laws_markEntryS.ctr k) (Cts.cons (laws_markStringS.ctr k) (Cts.cons (laws_heldStringS.ctr k) Cts.nil))))))))) (by kernel_rfl) Try.func11 (by kernel_rfl) rfl (fun ⟨a0, a1, _⟩ r h => (laws_FnExactPages.eq k a0 a1).trans h)
def laws_szPair.E (k : Nat) : Env := ⟨tb, [], [], k, 0, []⟩
theorem laws_szPair.q (k : Nat) (a0 : Ty.den TPair) (a1 : Int) : run (laws_szPair.E k) Try.f72 [.val TPair, .val (.int .i64)] [(.int .i64)] true false (a0, a1, ()) = laws_szPair.t k a0 a1 := by kernel_rfl
theorem laws_szPair.eq (k : Nat) (a0 : Ty.den TPair) (a1 : Int) : run (laws_szPair.E k) Try.f72 [.val TPair, .val (.int .i64)] [(.int .i64)] true false (a0, a1, ()) = laws_szPair.f k a0 a1 := by
  rw [laws_szPair.q]
  rfl
theorem laws_szPair.ctr (k : Nat) : Ctr Try.prog 72 ⟨[.val TPair, .val (.int .i64)], [(.int .i64)], true, false, fun x => laws_szPair.f k x.1 x.2.1⟩ :=
  run_ctr (E := laws_szPair.E k) mixed tb_ok (eqOk_of tb_eqs) Cts.nil (by kernel_rfl) Try.func72 (by kernel_rfl) rfl (fun ⟨a0, a1, _⟩ r h => (laws_szPair.eq k a0 a1).trans h)
def laws_szPairS.E (k : Nat) : Env := ⟨tb, [(72, ⟨[.val TPair, .val (.int .i64)], [(.int .i64)], true, false, fun x => laws_szPair.f k x.1 x.2.1⟩)], [(5, [0, 1, 5])], k, 0, []⟩
noncomputable def laws_szPairS.K0 (k : Nat) (a0 : List (Ty.den TPair)) (a1 : Int) : Ex → St → Option (Int × Unit) := runK (laws_szPairS.E k) (endK (laws_szPairS.E k) Try.f15.results.toList [.val (.slice TPair), .val (.int .i64)] (a0, a1, ()) [(.int .i64)] true false) [.blk 0, .code (at_ [true, true, true, true] (body Try.f15))]
noncomputable def laws_szPairS.B0 (k : Nat) (a0 : List (Ty.den TPair)) (a1 : Int) (n0 : Nat) : Ex → St → Option (Int × Unit) := fun e st => match e with
  | .normal => loopN (exec (laws_szPairS.E k) (at_ [true, true, true, false, true, false, false] (body Try.f15))) (canon 0 [0, 1, 5]) (laws_szPairS.K0 k a0 a1) n0 (canon 0 [0, 1, 5] st)
  | .ret => laws_szPairS.K0 k a0 a1 .ret st
  | .exit j => laws_szPairS.K0 k a0 a1 (.exit j) st
noncomputable def laws_szPairS.V0 (k : Nat) (a0 : List (Ty.den TPair)) (a1 : Int) (n0 : Nat) (x0_0 : List (Ty.den TPair)) (x0_1 : Int) (x0_2 : Int) : Option (Int × Unit) := loopN (exec (laws_szPairS.E k) (at_ [true, true, true, false, true, false, false] (body Try.f15))) (canon 0 [0, 1, 5]) (laws_szPairS.K0 k a0 a1) n0 (mk 27 0 [(0, .sl true TPair x0_0), (1, .int .i64 x0_1), (5, .int .i64 x0_2)] [])
theorem laws_szPairS.s0 (k : Nat) (a0 : List (Ty.den TPair)) (a1 : Int) (n0 : Nat) (x0_0 : List (Ty.den TPair)) (x0_1 : Int) (x0_2 : Int) : laws_szPairS.V0 k a0 a1 (n0 + 1) x0_0 x0_1 x0_2 = laws_szPairS.b0 k (laws_szPairS.V0 k a0 a1 n0) x0_0 x0_1 x0_2 := by kernel_rfl
theorem laws_szPairS.e0 (k : Nat) (a0 : List (Ty.den TPair)) (a1 : Int) (n0 : Nat) : laws_szPairS.V0 k a0 a1 n0 = laws_szPairS.l0 k n0 := by
  induction n0 with
  | zero => rfl
  | succ n0 ih =>
    have h : laws_szPairS.V0 k a0 a1 (n0 + 1) = laws_szPairS.b0 k (laws_szPairS.V0 k a0 a1 n0) := funext fun x0_0 => funext fun x0_1 => funext fun x0_2 => laws_szPairS.s0 k a0 a1 n0 x0_0 x0_1 x0_2
    rw [h, ih]
    rfl
theorem laws_szPairS.q (k : Nat) (a0 : List (Ty.den TPair)) (a1 : Int) : run (laws_szPairS.E k) Try.f15 [.val (.slice TPair), .val (.int .i64)] [(.int .i64)] true false (a0, a1, ()) = laws_szPairS.t k (laws_szPairS.V0 k a0 a1 k) a0 a1 := by kernel_rfl
theorem laws_szPairS.eq (k : Nat) (a0 : List (Ty.den TPair)) (a1 : Int) : run (laws_szPairS.E k) Try.f15 [.val (.slice TPair), .val (.int .i64)] [(.int .i64)] true false (a0, a1, ()) = laws_szPairS.f k a0 a1 := by
  rw [laws_szPairS.q, laws_szPairS.e0]
  rfl
theorem laws_szPairS.ctr (k : Nat) : Ctr Try.prog 15 ⟨[.val (.slice TPair), .val (.int .i64)], [(.int .i64)], true, false, fun x => laws_szPairS.f k x.1 x.2.1⟩ :=
  run_ctr (E := laws_szPairS.E k) mixed tb_ok (eqOk_of tb_eqs) (Cts.cons (laws_szPair.ctr k) Cts.nil) (by kernel_rfl) Try.func15 (by kernel_rfl) rfl (fun ⟨a0, a1, _⟩ r h => (laws_szPairS.eq k a0 a1).trans h)
def laws_toPair.E (k : Nat) : Env := ⟨tb, [], [], k, 0, []⟩
theorem laws_toPair.q (k : Nat) (a0 : Ty.den TPair) : run (laws_toPair.E k) Try.f75 [.val TPair] [TPair] true false (a0, ()) = laws_toPair.t k a0 := by kernel_rfl
theorem laws_toPair.eq (k : Nat) (a0 : Ty.den TPair) : run (laws_toPair.E k) Try.f75 [.val TPair] [TPair] true false (a0, ()) = laws_toPair.f k a0 := by
  rw [laws_toPair.q]
  rfl
theorem laws_toPair.ctr (k : Nat) : Ctr Try.prog 75 ⟨[.val TPair], [TPair], true, false, fun x => laws_toPair.f k x.1⟩ :=
  run_ctr (E := laws_toPair.E k) mixed tb_ok (eqOk_of tb_eqs) Cts.nil (by kernel_rfl) Try.func75 (by kernel_rfl) rfl (fun ⟨a0, _⟩ r h => (laws_toPair.eq k a0).trans h)
def laws_toPairS.E (k : Nat) : Env := ⟨tb, [(75, ⟨[.val TPair], [TPair], true, false, fun x => laws_toPair.f k x.1⟩)], [(3, [0, 3, 4])], k, 0, []⟩
noncomputable def laws_toPairS.K0 (k : Nat) (a0 : List (Ty.den TPair)) : Ex → St → Option ((List (Ty.den TPair)) × Unit) := runK (laws_toPairS.E k) (endK (laws_toPairS.E k) Try.f17.results.toList [.val (.slice TPair)] (a0, ()) [(.slice TPair)] true false) [.blk 0, .code (at_ [true, true, true] (body Try.f17))]
noncomputable def laws_toPairS.B0 (k : Nat) (a0 : List (Ty.den TPair)) (n0 : Nat) : Ex → St → Option ((List (Ty.den TPair)) × Unit) := fun e st => match e with
  | .normal => loopN (exec (laws_toPairS.E k) (at_ [true, true, false, true, false, false] (body Try.f17))) (canon 0 [0, 3, 4]) (laws_toPairS.K0 k a0) n0 (canon 0 [0, 3, 4] st)
  | .ret => laws_toPairS.K0 k a0 .ret st
  | .exit j => laws_toPairS.K0 k a0 (.exit j) st
noncomputable def laws_toPairS.V0 (k : Nat) (a0 : List (Ty.den TPair)) (n0 : Nat) (x0_0 : List (Ty.den TPair)) (x0_1 : Int) (x0_2 : List (Ty.den TPair)) : Option ((List (Ty.den TPair)) × Unit) := loopN (exec (laws_toPairS.E k) (at_ [true, true, false, true, false, false] (body Try.f17))) (canon 0 [0, 3, 4]) (laws_toPairS.K0 k a0) n0 (mk 23 1 [(0, .sl true TPair x0_0), (3, .ref 0), (4, .int .i64 x0_1)] [(0, .own false TPair x0_2)])
theorem laws_toPairS.s0 (k : Nat) (a0 : List (Ty.den TPair)) (n0 : Nat) (x0_0 : List (Ty.den TPair)) (x0_1 : Int) (x0_2 : List (Ty.den TPair)) : laws_toPairS.V0 k a0 (n0 + 1) x0_0 x0_1 x0_2 = laws_toPairS.b0 k (laws_toPairS.V0 k a0 n0) x0_0 x0_1 x0_2 := by kernel_rfl
theorem laws_toPairS.e0 (k : Nat) (a0 : List (Ty.den TPair)) (n0 : Nat) : laws_toPairS.V0 k a0 n0 = laws_toPairS.l0 k n0 := by
  induction n0 with
  | zero => rfl
  | succ n0 ih =>
    have h : laws_toPairS.V0 k a0 (n0 + 1) = laws_toPairS.b0 k (laws_toPairS.V0 k a0 n0) := funext fun x0_0 => funext fun x0_1 => funext fun x0_2 => laws_toPairS.s0 k a0 n0 x0_0 x0_1 x0_2
    rw [h, ih]
    rfl
theorem laws_toPairS.q (k : Nat) (a0 : List (Ty.den TPair)) : run (laws_toPairS.E k) Try.f17 [.val (.slice TPair)] [(.slice TPair)] true false (a0, ()) = laws_toPairS.t k (laws_toPairS.V0 k a0 k) a0 := by kernel_rfl
theorem laws_toPairS.eq (k : Nat) (a0 : List (Ty.den TPair)) : run (laws_toPairS.E k) Try.f17 [.val (.slice TPair)] [(.slice TPair)] true false (a0, ()) = laws_toPairS.f k a0 := by
  rw [laws_toPairS.q, laws_toPairS.e0]
  rfl
theorem laws_toPairS.ctr (k : Nat) : Ctr Try.prog 17 ⟨[.val (.slice TPair)], [(.slice TPair)], true, false, fun x => laws_toPairS.f k x.1⟩ :=
  run_ctr (E := laws_toPairS.E k) mixed tb_ok (eqOk_of tb_eqs) (Cts.cons (laws_toPair.ctr k) Cts.nil) (by kernel_rfl) Try.func17 (by kernel_rfl) rfl (fun ⟨a0, _⟩ r h => (laws_toPairS.eq k a0).trans h)
def spec_l17Find.E (k : Nat) : Env := ⟨tb, [], [(2, [0, 1, 4, 6])], k, 0, []⟩
noncomputable def spec_l17Find.K0 (k : Nat) (a0 : List (Ty.den TPair)) (a1 : ByteArray) : Ex → St → Option ((Ty.den TPair) × Int × Unit) := runK (spec_l17Find.E k) (endK (spec_l17Find.E k) Try.f98.results.toList [.val (.slice TPair), .val .str] (a0, a1, ()) [TPair, (.int .i64)] true false) [.blk 0, .code (at_ [true, true] (body Try.f98))]
noncomputable def spec_l17Find.B0 (k : Nat) (a0 : List (Ty.den TPair)) (a1 : ByteArray) (n0 : Nat) : Ex → St → Option ((Ty.den TPair) × Int × Unit) := fun e st => match e with
  | .normal => loopN (exec (spec_l17Find.E k) (at_ [true, false, true, false, false] (body Try.f98))) (canon 0 [0, 1, 4, 6]) (spec_l17Find.K0 k a0 a1) n0 (canon 0 [0, 1, 4, 6] st)
  | .ret => spec_l17Find.K0 k a0 a1 .ret st
  | .exit j => spec_l17Find.K0 k a0 a1 (.exit j) st
noncomputable def spec_l17Find.V0 (k : Nat) (a0 : List (Ty.den TPair)) (a1 : ByteArray) (n0 : Nat) (x0_0 : List (Ty.den TPair)) (x0_1 : ByteArray) (x0_2 : Int) (x0_3 : ByteArray) (x0_4 : ByteArray) (x0_5 : Int) : Option ((Ty.den TPair) × Int × Unit) := loopN (exec (spec_l17Find.E k) (at_ [true, false, true, false, false] (body Try.f98))) (canon 0 [0, 1, 4, 6]) (spec_l17Find.K0 k a0 a1) n0 (mk 25 1 [(0, .sl true TPair x0_0), (1, .str x0_1), (4, .ptr 0 0 0), (6, .int .i64 x0_2)] [(0, .box [.str x0_3, .str x0_4, .int .i64 x0_5])])
theorem spec_l17Find.s0 (k : Nat) (a0 : List (Ty.den TPair)) (a1 : ByteArray) (n0 : Nat) (x0_0 : List (Ty.den TPair)) (x0_1 : ByteArray) (x0_2 : Int) (x0_3 : ByteArray) (x0_4 : ByteArray) (x0_5 : Int) : spec_l17Find.V0 k a0 a1 (n0 + 1) x0_0 x0_1 x0_2 x0_3 x0_4 x0_5 = spec_l17Find.b0 k (spec_l17Find.V0 k a0 a1 n0) x0_0 x0_1 x0_2 x0_3 x0_4 x0_5 := by kernel_rfl
theorem spec_l17Find.e0 (k : Nat) (a0 : List (Ty.den TPair)) (a1 : ByteArray) (n0 : Nat) : spec_l17Find.V0 k a0 a1 n0 = spec_l17Find.l0 k n0 := by
  induction n0 with
  | zero => rfl
  | succ n0 ih =>
    have h : spec_l17Find.V0 k a0 a1 (n0 + 1) = spec_l17Find.b0 k (spec_l17Find.V0 k a0 a1 n0) := funext fun x0_0 => funext fun x0_1 => funext fun x0_2 => funext fun x0_3 => funext fun x0_4 => funext fun x0_5 => spec_l17Find.s0 k a0 a1 n0 x0_0 x0_1 x0_2 x0_3 x0_4 x0_5
    rw [h, ih]
    rfl
theorem spec_l17Find.q (k : Nat) (a0 : List (Ty.den TPair)) (a1 : ByteArray) : run (spec_l17Find.E k) Try.f98 [.val (.slice TPair), .val .str] [TPair, (.int .i64)] true false (a0, a1, ()) = spec_l17Find.t k (spec_l17Find.V0 k a0 a1 k) a0 a1 := by kernel_rfl
theorem spec_l17Find.eq (k : Nat) (a0 : List (Ty.den TPair)) (a1 : ByteArray) : run (spec_l17Find.E k) Try.f98 [.val (.slice TPair), .val .str] [TPair, (.int .i64)] true false (a0, a1, ()) = spec_l17Find.f k a0 a1 := by
  rw [spec_l17Find.q, spec_l17Find.e0]
  rfl
theorem spec_l17Find.ctr (k : Nat) : Ctr Try.prog 98 ⟨[.val (.slice TPair), .val .str], [TPair, (.int .i64)], true, false, fun x => spec_l17Find.f k x.1 x.2.1⟩ :=
  run_ctr (E := spec_l17Find.E k) mixed tb_ok (eqOk_of tb_eqs) Cts.nil (by kernel_rfl) Try.func98 (by kernel_rfl) rfl (fun ⟨a0, a1, _⟩ r h => (spec_l17Find.eq k a0 a1).trans h)
def spec_Diff.E (k : Nat) : Env := ⟨tb, [(98, ⟨[.val (.slice TPair), .val .str], [TPair, (.int .i64)], true, false, fun x => spec_l17Find.f k x.1 x.2.1⟩)], [(3, [0, 1, 5, 6]), (9, [0, 1, 5, 9])], k, 0, []⟩
noncomputable def spec_Diff.K0 (k : Nat) (a0 : List (Ty.den TPair)) (a1 : List (Ty.den TPair)) : Ex → St → Option ((List (Ty.den TPut)) × Unit) := runK (spec_Diff.E k) (endK (spec_Diff.E k) Try.f59.results.toList [.val (.slice TPair), .val (.slice TPair)] (a0, a1, ()) [(.slice TPut)] true false) [.blk 0, .code (at_ [true, true, true] (body Try.f59))]
noncomputable def spec_Diff.B0 (k : Nat) (a0 : List (Ty.den TPair)) (a1 : List (Ty.den TPair)) (n0 : Nat) : Ex → St → Option ((List (Ty.den TPut)) × Unit) := fun e st => match e with
  | .normal => loopN (exec (spec_Diff.E k) (at_ [true, true, false, true, false, false] (body Try.f59))) (canon 0 [0, 1, 5, 6]) (spec_Diff.K0 k a0 a1) n0 (canon 0 [0, 1, 5, 6] st)
  | .ret => spec_Diff.K0 k a0 a1 .ret st
  | .exit j => spec_Diff.K0 k a0 a1 (.exit j) st
noncomputable def spec_Diff.K1 (k : Nat) (a0 : List (Ty.den TPair)) (a1 : List (Ty.den TPair)) : Ex → St → Option ((List (Ty.den TPut)) × Unit) := runK (spec_Diff.E k) (endK (spec_Diff.E k) Try.f59.results.toList [.val (.slice TPair), .val (.slice TPair)] (a0, a1, ()) [(.slice TPut)] true false) [.blk 2, .code (at_ [true, true, true, true] (body Try.f59))]
noncomputable def spec_Diff.B1 (k : Nat) (a0 : List (Ty.den TPair)) (a1 : List (Ty.den TPair)) (n1 : Nat) : Ex → St → Option ((List (Ty.den TPut)) × Unit) := fun e st => match e with
  | .normal => loopN (exec (spec_Diff.E k) (at_ [true, true, true, false, true, false, false] (body Try.f59))) (canon 0 [0, 1, 5, 9]) (spec_Diff.K1 k a0 a1) n1 (canon 0 [0, 1, 5, 9] st)
  | .ret => spec_Diff.K1 k a0 a1 .ret st
  | .exit j => spec_Diff.K1 k a0 a1 (.exit j) st
noncomputable def spec_Diff.V0 (k : Nat) (a0 : List (Ty.den TPair)) (a1 : List (Ty.den TPair)) (n0 : Nat) (x0_0 : List (Ty.den TPair)) (x0_1 : List (Ty.den TPair)) (x0_2 : Int) (x0_3 : List (Ty.den TPut)) : Option ((List (Ty.den TPut)) × Unit) := loopN (exec (spec_Diff.E k) (at_ [true, true, false, true, false, false] (body Try.f59))) (canon 0 [0, 1, 5, 6]) (spec_Diff.K0 k a0 a1) n0 (mk 83 1 [(0, .sl true TPair x0_0), (1, .sl true TPair x0_1), (5, .ref 0), (6, .int .i64 x0_2)] [(0, .own false TPut x0_3)])
noncomputable def spec_Diff.V1 (k : Nat) (a0 : List (Ty.den TPair)) (a1 : List (Ty.den TPair)) (n1 : Nat) (x1_0 : List (Ty.den TPair)) (x1_1 : List (Ty.den TPair)) (x1_2 : Int) (x1_3 : List (Ty.den TPut)) : Option ((List (Ty.den TPut)) × Unit) := loopN (exec (spec_Diff.E k) (at_ [true, true, true, false, true, false, false] (body Try.f59))) (canon 0 [0, 1, 5, 9]) (spec_Diff.K1 k a0 a1) n1 (mk 83 1 [(0, .sl true TPair x1_0), (1, .sl true TPair x1_1), (5, .ref 0), (9, .int .i64 x1_2)] [(0, .own false TPut x1_3)])
theorem spec_Diff.s0 (k : Nat) (a0 : List (Ty.den TPair)) (a1 : List (Ty.den TPair)) (n0 : Nat) (x0_0 : List (Ty.den TPair)) (x0_1 : List (Ty.den TPair)) (x0_2 : Int) (x0_3 : List (Ty.den TPut)) : spec_Diff.V0 k a0 a1 (n0 + 1) x0_0 x0_1 x0_2 x0_3 = spec_Diff.b0 k (spec_Diff.V1 k a0 a1 k) (spec_Diff.V0 k a0 a1 n0) x0_0 x0_1 x0_2 x0_3 := by kernel_rfl
theorem spec_Diff.s1 (k : Nat) (a0 : List (Ty.den TPair)) (a1 : List (Ty.den TPair)) (n1 : Nat) (x1_0 : List (Ty.den TPair)) (x1_1 : List (Ty.den TPair)) (x1_2 : Int) (x1_3 : List (Ty.den TPut)) : spec_Diff.V1 k a0 a1 (n1 + 1) x1_0 x1_1 x1_2 x1_3 = spec_Diff.b1 k (spec_Diff.V1 k a0 a1 n1) x1_0 x1_1 x1_2 x1_3 := by kernel_rfl
theorem spec_Diff.e1 (k : Nat) (a0 : List (Ty.den TPair)) (a1 : List (Ty.den TPair)) (n1 : Nat) : spec_Diff.V1 k a0 a1 n1 = spec_Diff.l1 k n1 := by
  induction n1 with
  | zero => rfl
  | succ n1 ih =>
    have h : spec_Diff.V1 k a0 a1 (n1 + 1) = spec_Diff.b1 k (spec_Diff.V1 k a0 a1 n1) := funext fun x1_0 => funext fun x1_1 => funext fun x1_2 => funext fun x1_3 => spec_Diff.s1 k a0 a1 n1 x1_0 x1_1 x1_2 x1_3
    rw [h, ih]
    rfl
theorem spec_Diff.e0 (k : Nat) (a0 : List (Ty.den TPair)) (a1 : List (Ty.den TPair)) (n0 : Nat) : spec_Diff.V0 k a0 a1 n0 = spec_Diff.l0 k n0 := by
  induction n0 with
  | zero => rfl
  | succ n0 ih =>
    have h : spec_Diff.V0 k a0 a1 (n0 + 1) = spec_Diff.b0 k (spec_Diff.V1 k a0 a1 k) (spec_Diff.V0 k a0 a1 n0) := funext fun x0_0 => funext fun x0_1 => funext fun x0_2 => funext fun x0_3 => spec_Diff.s0 k a0 a1 n0 x0_0 x0_1 x0_2 x0_3
    rw [h, spec_Diff.e1, ih]
    rfl
theorem spec_Diff.q (k : Nat) (a0 : List (Ty.den TPair)) (a1 : List (Ty.den TPair)) : run (spec_Diff.E k) Try.f59 [.val (.slice TPair), .val (.slice TPair)] [(.slice TPut)] true false (a0, a1, ()) = spec_Diff.t k (spec_Diff.V0 k a0 a1 k) a0 a1 := by kernel_rfl
theorem spec_Diff.eq (k : Nat) (a0 : List (Ty.den TPair)) (a1 : List (Ty.den TPair)) : run (spec_Diff.E k) Try.f59 [.val (.slice TPair), .val (.slice TPair)] [(.slice TPut)] true false (a0, a1, ()) = spec_Diff.f k a0 a1 := by
  rw [spec_Diff.q, spec_Diff.e0]
  rfl
theorem spec_Diff.ctr (k : Nat) : Ctr Try.prog 59 ⟨[.val (.slice TPair), .val (.slice TPair)], [(.slice TPut)], true, false, fun x => spec_Diff.f k x.1 x.2.1⟩ :=
  run_ctr (E := spec_Diff.E k) mixed tb_ok (eqOk_of tb_eqs) (Cts.cons (spec_l17Find.ctr k) Cts.nil) (by kernel_rfl) Try.func59 (by kernel_rfl) rfl (fun ⟨a0, a1, _⟩ r h => (spec_Diff.eq k a0 a1).trans h)
def impl_pairAt.E (k : Nat) : Env := ⟨tb, [], [(2, [1, 4, 8, 9, 10])], k, 0, []⟩
noncomputable def impl_pairAt.K0 (k : Nat) (a0 : List (Ty.den TPair)) (a1 : ByteArray) : Ex → St → Option ((Ty.den TPair) × Bool × Unit) := runK (impl_pairAt.E k) (endK (impl_pairAt.E k) Try.f99.results.toList [.val (.slice TPair), .val .str] (a0, a1, ()) [TPair, .bool] true false) [.blk 0, .code (at_ [true, true] (body Try.f99))]
noncomputable def impl_pairAt.B0 (k : Nat) (a0 : List (Ty.den TPair)) (a1 : ByteArray) (n0 : Nat) : Ex → St → Option ((Ty.den TPair) × Bool × Unit) := fun e st => match e with
  | .normal => loopN (exec (impl_pairAt.E k) (at_ [true, false, true, false, false] (body Try.f99))) (canon 0 [1, 4, 8, 9, 10]) (impl_pairAt.K0 k a0 a1) n0 (canon 0 [1, 4, 8, 9, 10] st)
  | .ret => impl_pairAt.K0 k a0 a1 .ret st
  | .exit j => impl_pairAt.K0 k a0 a1 (.exit j) st
noncomputable def impl_pairAt.V0 (k : Nat) (a0 : List (Ty.den TPair)) (a1 : ByteArray) (n0 : Nat) (x0_0 : ByteArray) (x0_1 : List (Ty.den TPair)) (x0_2 : Int) (x0_3 : Int) (x0_4 : ByteArray) (x0_5 : ByteArray) (x0_6 : Int) : Option ((Ty.den TPair) × Bool × Unit) := loopN (exec (impl_pairAt.E k) (at_ [true, false, true, false, false] (body Try.f99))) (canon 0 [1, 4, 8, 9, 10]) (impl_pairAt.K0 k a0 a1) n0 (mk 21 1 [(1, .str x0_0), (4, .ptr 0 0 0), (8, .sl true TPair x0_1), (9, .int .i64 x0_2), (10, .int .i64 x0_3)] [(0, .box [.str x0_4, .str x0_5, .int .i64 x0_6])])
theorem impl_pairAt.s0 (k : Nat) (a0 : List (Ty.den TPair)) (a1 : ByteArray) (n0 : Nat) (x0_0 : ByteArray) (x0_1 : List (Ty.den TPair)) (x0_2 : Int) (x0_3 : Int) (x0_4 : ByteArray) (x0_5 : ByteArray) (x0_6 : Int) : impl_pairAt.V0 k a0 a1 (n0 + 1) x0_0 x0_1 x0_2 x0_3 x0_4 x0_5 x0_6 = impl_pairAt.b0 k (impl_pairAt.V0 k a0 a1 n0) x0_0 x0_1 x0_2 x0_3 x0_4 x0_5 x0_6 := by kernel_rfl
theorem impl_pairAt.e0 (k : Nat) (a0 : List (Ty.den TPair)) (a1 : ByteArray) (n0 : Nat) : impl_pairAt.V0 k a0 a1 n0 = impl_pairAt.l0 k n0 := by
  induction n0 with
  | zero => rfl
  | succ n0 ih =>
    have h : impl_pairAt.V0 k a0 a1 (n0 + 1) = impl_pairAt.b0 k (impl_pairAt.V0 k a0 a1 n0) := funext fun x0_0 => funext fun x0_1 => funext fun x0_2 => funext fun x0_3 => funext fun x0_4 => funext fun x0_5 => funext fun x0_6 => impl_pairAt.s0 k a0 a1 n0 x0_0 x0_1 x0_2 x0_3 x0_4 x0_5 x0_6
    rw [h, ih]
    rfl
theorem impl_pairAt.q (k : Nat) (a0 : List (Ty.den TPair)) (a1 : ByteArray) : run (impl_pairAt.E k) Try.f99 [.val (.slice TPair), .val .str] [TPair, .bool] true false (a0, a1, ()) = impl_pairAt.t k (impl_pairAt.V0 k a0 a1 k) a0 a1 := by kernel_rfl
theorem impl_pairAt.eq (k : Nat) (a0 : List (Ty.den TPair)) (a1 : ByteArray) : run (impl_pairAt.E k) Try.f99 [.val (.slice TPair), .val .str] [TPair, .bool] true false (a0, a1, ()) = impl_pairAt.f k a0 a1 := by
  rw [impl_pairAt.q, impl_pairAt.e0]
  rfl
theorem impl_pairAt.ctr (k : Nat) : Ctr Try.prog 99 ⟨[.val (.slice TPair), .val .str], [TPair, .bool], true, false, fun x => impl_pairAt.f k x.1 x.2.1⟩ :=
  run_ctr (E := impl_pairAt.E k) mixed tb_ok (eqOk_of tb_eqs) Cts.nil (by kernel_rfl) Try.func99 (by kernel_rfl) rfl (fun ⟨a0, a1, _⟩ r h => (impl_pairAt.eq k a0 a1).trans h)
def impl_Diff.E (k : Nat) : Env := ⟨tb, [(99, ⟨[.val (.slice TPair), .val .str], [TPair, .bool], true, false, fun x => impl_pairAt.f k x.1 x.2.1⟩)], [(3, [0, 1, 5, 14, 15, 16]), (10, [0, 5, 36, 37, 38])], k, 0, []⟩
noncomputable def impl_Diff.K0 (k : Nat) (a0 : List (Ty.den TPair)) (a1 : List (Ty.den TPair)) : Ex → St → Option ((List (Ty.den TPut)) × Unit) := runK (impl_Diff.E k) (endK (impl_Diff.E k) Try.f60.results.toList [.val (.slice TPair), .val (.slice TPair)] (a0, a1, ()) [(.slice TPut)] true false) [.blk 0, .code (at_ [true, true, true] (body Try.f60))]
noncomputable def impl_Diff.B0 (k : Nat) (a0 : List (Ty.den TPair)) (a1 : List (Ty.den TPair)) (n0 : Nat) : Ex → St → Option ((List (Ty.den TPut)) × Unit) := fun e st => match e with
  | .normal => loopN (exec (impl_Diff.E k) (at_ [true, true, false, true, false, false] (body Try.f60))) (canon 0 [0, 1, 5, 14, 15, 16]) (impl_Diff.K0 k a0 a1) n0 (canon 0 [0, 1, 5, 14, 15, 16] st)
  | .ret => impl_Diff.K0 k a0 a1 .ret st
  | .exit j => impl_Diff.K0 k a0 a1 (.exit j) st
noncomputable def impl_Diff.K1 (k : Nat) (a0 : List (Ty.den TPair)) (a1 : List (Ty.den TPair)) : Ex → St → Option ((List (Ty.den TPut)) × Unit) := runK (impl_Diff.E k) (endK (impl_Diff.E k) Try.f60.results.toList [.val (.slice TPair), .val (.slice TPair)] (a0, a1, ()) [(.slice TPut)] true false) [.blk 2, .code (at_ [true, true, true, true] (body Try.f60))]
noncomputable def impl_Diff.B1 (k : Nat) (a0 : List (Ty.den TPair)) (a1 : List (Ty.den TPair)) (n1 : Nat) : Ex → St → Option ((List (Ty.den TPut)) × Unit) := fun e st => match e with
  | .normal => loopN (exec (impl_Diff.E k) (at_ [true, true, true, false, true, false, false] (body Try.f60))) (canon 0 [0, 5, 36, 37, 38]) (impl_Diff.K1 k a0 a1) n1 (canon 0 [0, 5, 36, 37, 38] st)
  | .ret => impl_Diff.K1 k a0 a1 .ret st
  | .exit j => impl_Diff.K1 k a0 a1 (.exit j) st
noncomputable def impl_Diff.V0 (k : Nat) (a0 : List (Ty.den TPair)) (a1 : List (Ty.den TPair)) (n0 : Nat) (x0_0 : List (Ty.den TPair)) (x0_1 : List (Ty.den TPair)) (x0_2 : List (Ty.den TPair)) (x0_3 : Int) (x0_4 : Int) (x0_5 : List (Ty.den TPut)) : Option ((List (Ty.den TPut)) × Unit) := loopN (exec (impl_Diff.E k) (at_ [true, true, false, true, false, false] (body Try.f60))) (canon 0 [0, 1, 5, 14, 15, 16]) (impl_Diff.K0 k a0 a1) n0 (mk 68 1 [(0, .sl true TPair x0_0), (1, .sl true TPair x0_1), (5, .ref 0), (14, .sl true TPair x0_2), (15, .int .i64 x0_3), (16, .int .i64 x0_4)] [(0, .own false TPut x0_5)])
noncomputable def impl_Diff.V1 (k : Nat) (a0 : List (Ty.den TPair)) (a1 : List (Ty.den TPair)) (n1 : Nat) (x1_0 : List (Ty.den TPair)) (x1_1 : List (Ty.den TPair)) (x1_2 : Int) (x1_3 : Int) (x1_4 : List (Ty.den TPut)) : Option ((List (Ty.den TPut)) × Unit) := loopN (exec (impl_Diff.E k) (at_ [true, true, true, false, true, false, false] (body Try.f60))) (canon 0 [0, 5, 36, 37, 38]) (impl_Diff.K1 k a0 a1) n1 (mk 68 1 [(0, .sl true TPair x1_0), (5, .ref 0), (36, .sl true TPair x1_1), (37, .int .i64 x1_2), (38, .int .i64 x1_3)] [(0, .own false TPut x1_4)])
theorem impl_Diff.s0 (k : Nat) (a0 : List (Ty.den TPair)) (a1 : List (Ty.den TPair)) (n0 : Nat) (x0_0 : List (Ty.den TPair)) (x0_1 : List (Ty.den TPair)) (x0_2 : List (Ty.den TPair)) (x0_3 : Int) (x0_4 : Int) (x0_5 : List (Ty.den TPut)) : impl_Diff.V0 k a0 a1 (n0 + 1) x0_0 x0_1 x0_2 x0_3 x0_4 x0_5 = impl_Diff.b0 k (impl_Diff.V1 k a0 a1 k) (impl_Diff.V0 k a0 a1 n0) x0_0 x0_1 x0_2 x0_3 x0_4 x0_5 := by kernel_rfl
theorem impl_Diff.s1 (k : Nat) (a0 : List (Ty.den TPair)) (a1 : List (Ty.den TPair)) (n1 : Nat) (x1_0 : List (Ty.den TPair)) (x1_1 : List (Ty.den TPair)) (x1_2 : Int) (x1_3 : Int) (x1_4 : List (Ty.den TPut)) : impl_Diff.V1 k a0 a1 (n1 + 1) x1_0 x1_1 x1_2 x1_3 x1_4 = impl_Diff.b1 k (impl_Diff.V1 k a0 a1 n1) x1_0 x1_1 x1_2 x1_3 x1_4 := by kernel_rfl
theorem impl_Diff.e1 (k : Nat) (a0 : List (Ty.den TPair)) (a1 : List (Ty.den TPair)) (n1 : Nat) : impl_Diff.V1 k a0 a1 n1 = impl_Diff.l1 k n1 := by
  induction n1 with
  | zero => rfl
  | succ n1 ih =>
    have h : impl_Diff.V1 k a0 a1 (n1 + 1) = impl_Diff.b1 k (impl_Diff.V1 k a0 a1 n1) := funext fun x1_0 => funext fun x1_1 => funext fun x1_2 => funext fun x1_3 => funext fun x1_4 => impl_Diff.s1 k a0 a1 n1 x1_0 x1_1 x1_2 x1_3 x1_4
    rw [h, ih]
    rfl
theorem impl_Diff.e0 (k : Nat) (a0 : List (Ty.den TPair)) (a1 : List (Ty.den TPair)) (n0 : Nat) : impl_Diff.V0 k a0 a1 n0 = impl_Diff.l0 k n0 := by
  induction n0 with
  | zero => rfl
  | succ n0 ih =>
    have h : impl_Diff.V0 k a0 a1 (n0 + 1) = impl_Diff.b0 k (impl_Diff.V1 k a0 a1 k) (impl_Diff.V0 k a0 a1 n0) := funext fun x0_0 => funext fun x0_1 => funext fun x0_2 => funext fun x0_3 => funext fun x0_4 => funext fun x0_5 => impl_Diff.s0 k a0 a1 n0 x0_0 x0_1 x0_2 x0_3 x0_4 x0_5
    rw [h, impl_Diff.e1, ih]
    rfl
theorem impl_Diff.q (k : Nat) (a0 : List (Ty.den TPair)) (a1 : List (Ty.den TPair)) : run (impl_Diff.E k) Try.f60 [.val (.slice TPair), .val (.slice TPair)] [(.slice TPut)] true false (a0, a1, ()) = impl_Diff.t k (impl_Diff.V0 k a0 a1 k) a0 a1 := by kernel_rfl
theorem impl_Diff.eq (k : Nat) (a0 : List (Ty.den TPair)) (a1 : List (Ty.den TPair)) : run (impl_Diff.E k) Try.f60 [.val (.slice TPair), .val (.slice TPair)] [(.slice TPut)] true false (a0, a1, ()) = impl_Diff.f k a0 a1 := by
  rw [impl_Diff.q, impl_Diff.e0]
  rfl
theorem impl_Diff.ctr (k : Nat) : Ctr Try.prog 60 ⟨[.val (.slice TPair), .val (.slice TPair)], [(.slice TPut)], true, false, fun x => impl_Diff.f k x.1 x.2.1⟩ :=
  run_ctr (E := impl_Diff.E k) mixed tb_ok (eqOk_of tb_eqs) (Cts.cons (impl_pairAt.ctr k) Cts.nil) (by kernel_rfl) Try.func60 (by kernel_rfl) rfl (fun ⟨a0, a1, _⟩ r h => (impl_Diff.eq k a0 a1).trans h)
def laws_eqPut.E (k : Nat) : Env := ⟨tb, [], [], k, 0, []⟩
theorem laws_eqPut.q (k : Nat) (a0 : Ty.den TPut) (a1 : Ty.den TPut) : run (laws_eqPut.E k) Try.f100 [.val TPut, .val TPut] [.bool] true false (a0, a1, ()) = laws_eqPut.t k a0 a1 := by kernel_rfl
theorem laws_eqPut.eq (k : Nat) (a0 : Ty.den TPut) (a1 : Ty.den TPut) : run (laws_eqPut.E k) Try.f100 [.val TPut, .val TPut] [.bool] true false (a0, a1, ()) = laws_eqPut.f k a0 a1 := by
  rw [laws_eqPut.q]
  rfl
theorem laws_eqPut.ctr (k : Nat) : Ctr Try.prog 100 ⟨[.val TPut, .val TPut], [.bool], true, false, fun x => laws_eqPut.f k x.1 x.2.1⟩ :=
  run_ctr (E := laws_eqPut.E k) mixed tb_ok (eqOk_of tb_eqs) Cts.nil (by kernel_rfl) Try.func100 (by kernel_rfl) rfl (fun ⟨a0, a1, _⟩ r h => (laws_eqPut.eq k a0 a1).trans h)
def laws_eqPutS.E (k : Nat) : Env := ⟨tb, [(100, ⟨[.val TPut, .val TPut], [.bool], true, false, fun x => laws_eqPut.f k x.1 x.2.1⟩)], [(4, [0, 1, 5])], k, 0, []⟩
noncomputable def laws_eqPutS.K0 (k : Nat) (a0 : List (Ty.den TPut)) (a1 : List (Ty.den TPut)) : Ex → St → Option (Bool × Unit) := runK (laws_eqPutS.E k) (endK (laws_eqPutS.E k) Try.f61.results.toList [.val (.slice TPut), .val (.slice TPut)] (a0, a1, ()) [.bool] true false) [.blk 0, .code (at_ [true, true, true] (body Try.f61))]
noncomputable def laws_eqPutS.B0 (k : Nat) (a0 : List (Ty.den TPut)) (a1 : List (Ty.den TPut)) (n0 : Nat) : Ex → St → Option (Bool × Unit) := fun e st => match e with
  | .normal => loopN (exec (laws_eqPutS.E k) (at_ [true, true, false, true, false, false] (body Try.f61))) (canon 0 [0, 1, 5]) (laws_eqPutS.K0 k a0 a1) n0 (canon 0 [0, 1, 5] st)
  | .ret => laws_eqPutS.K0 k a0 a1 .ret st
  | .exit j => laws_eqPutS.K0 k a0 a1 (.exit j) st
noncomputable def laws_eqPutS.V0 (k : Nat) (a0 : List (Ty.den TPut)) (a1 : List (Ty.den TPut)) (n0 : Nat) (x0_0 : List (Ty.den TPut)) (x0_1 : List (Ty.den TPut)) (x0_2 : Int) : Option (Bool × Unit) := loopN (exec (laws_eqPutS.E k) (at_ [true, true, false, true, false, false] (body Try.f61))) (canon 0 [0, 1, 5]) (laws_eqPutS.K0 k a0 a1) n0 (mk 27 0 [(0, .sl true TPut x0_0), (1, .sl true TPut x0_1), (5, .int .i64 x0_2)] [])
theorem laws_eqPutS.s0 (k : Nat) (a0 : List (Ty.den TPut)) (a1 : List (Ty.den TPut)) (n0 : Nat) (x0_0 : List (Ty.den TPut)) (x0_1 : List (Ty.den TPut)) (x0_2 : Int) : laws_eqPutS.V0 k a0 a1 (n0 + 1) x0_0 x0_1 x0_2 = laws_eqPutS.b0 k (laws_eqPutS.V0 k a0 a1 n0) x0_0 x0_1 x0_2 := by kernel_rfl
theorem laws_eqPutS.e0 (k : Nat) (a0 : List (Ty.den TPut)) (a1 : List (Ty.den TPut)) (n0 : Nat) : laws_eqPutS.V0 k a0 a1 n0 = laws_eqPutS.l0 k n0 := by
  induction n0 with
  | zero => rfl
  | succ n0 ih =>
    have h : laws_eqPutS.V0 k a0 a1 (n0 + 1) = laws_eqPutS.b0 k (laws_eqPutS.V0 k a0 a1 n0) := funext fun x0_0 => funext fun x0_1 => funext fun x0_2 => laws_eqPutS.s0 k a0 a1 n0 x0_0 x0_1 x0_2
    rw [h, ih]
    rfl
theorem laws_eqPutS.q (k : Nat) (a0 : List (Ty.den TPut)) (a1 : List (Ty.den TPut)) : run (laws_eqPutS.E k) Try.f61 [.val (.slice TPut), .val (.slice TPut)] [.bool] true false (a0, a1, ()) = laws_eqPutS.t k (laws_eqPutS.V0 k a0 a1 k) a0 a1 := by kernel_rfl
theorem laws_eqPutS.eq (k : Nat) (a0 : List (Ty.den TPut)) (a1 : List (Ty.den TPut)) : run (laws_eqPutS.E k) Try.f61 [.val (.slice TPut), .val (.slice TPut)] [.bool] true false (a0, a1, ()) = laws_eqPutS.f k a0 a1 := by
  rw [laws_eqPutS.q, laws_eqPutS.e0]
  rfl
theorem laws_eqPutS.ctr (k : Nat) : Ctr Try.prog 61 ⟨[.val (.slice TPut), .val (.slice TPut)], [.bool], true, false, fun x => laws_eqPutS.f k x.1 x.2.1⟩ :=
  run_ctr (E := laws_eqPutS.E k) mixed tb_ok (eqOk_of tb_eqs) (Cts.cons (laws_eqPut.ctr k) Cts.nil) (by kernel_rfl) Try.func61 (by kernel_rfl) rfl (fun ⟨a0, a1, _⟩ r h => (laws_eqPutS.eq k a0 a1).trans h)
def laws_eqPair.E (k : Nat) : Env := ⟨tb, [], [], k, 0, []⟩
theorem laws_eqPair.q (k : Nat) (a0 : Ty.den TPair) (a1 : Ty.den TPair) : run (laws_eqPair.E k) Try.f78 [.val TPair, .val TPair] [.bool] true false (a0, a1, ()) = laws_eqPair.t k a0 a1 := by kernel_rfl
theorem laws_eqPair.eq (k : Nat) (a0 : Ty.den TPair) (a1 : Ty.den TPair) : run (laws_eqPair.E k) Try.f78 [.val TPair, .val TPair] [.bool] true false (a0, a1, ()) = laws_eqPair.f k a0 a1 := by
  rw [laws_eqPair.q]
  rfl
theorem laws_eqPair.ctr (k : Nat) : Ctr Try.prog 78 ⟨[.val TPair, .val TPair], [.bool], true, false, fun x => laws_eqPair.f k x.1 x.2.1⟩ :=
  run_ctr (E := laws_eqPair.E k) mixed tb_ok (eqOk_of tb_eqs) Cts.nil (by kernel_rfl) Try.func78 (by kernel_rfl) rfl (fun ⟨a0, a1, _⟩ r h => (laws_eqPair.eq k a0 a1).trans h)
def laws_eqPairS.E (k : Nat) : Env := ⟨tb, [(78, ⟨[.val TPair, .val TPair], [.bool], true, false, fun x => laws_eqPair.f k x.1 x.2.1⟩)], [(4, [0, 1, 5])], k, 0, []⟩
noncomputable def laws_eqPairS.K0 (k : Nat) (a0 : List (Ty.den TPair)) (a1 : List (Ty.den TPair)) : Ex → St → Option (Bool × Unit) := runK (laws_eqPairS.E k) (endK (laws_eqPairS.E k) Try.f19.results.toList [.val (.slice TPair), .val (.slice TPair)] (a0, a1, ()) [.bool] true false) [.blk 0, .code (at_ [true, true, true] (body Try.f19))]
noncomputable def laws_eqPairS.B0 (k : Nat) (a0 : List (Ty.den TPair)) (a1 : List (Ty.den TPair)) (n0 : Nat) : Ex → St → Option (Bool × Unit) := fun e st => match e with
  | .normal => loopN (exec (laws_eqPairS.E k) (at_ [true, true, false, true, false, false] (body Try.f19))) (canon 0 [0, 1, 5]) (laws_eqPairS.K0 k a0 a1) n0 (canon 0 [0, 1, 5] st)
  | .ret => laws_eqPairS.K0 k a0 a1 .ret st
  | .exit j => laws_eqPairS.K0 k a0 a1 (.exit j) st
noncomputable def laws_eqPairS.V0 (k : Nat) (a0 : List (Ty.den TPair)) (a1 : List (Ty.den TPair)) (n0 : Nat) (x0_0 : List (Ty.den TPair)) (x0_1 : List (Ty.den TPair)) (x0_2 : Int) : Option (Bool × Unit) := loopN (exec (laws_eqPairS.E k) (at_ [true, true, false, true, false, false] (body Try.f19))) (canon 0 [0, 1, 5]) (laws_eqPairS.K0 k a0 a1) n0 (mk 27 0 [(0, .sl true TPair x0_0), (1, .sl true TPair x0_1), (5, .int .i64 x0_2)] [])
theorem laws_eqPairS.s0 (k : Nat) (a0 : List (Ty.den TPair)) (a1 : List (Ty.den TPair)) (n0 : Nat) (x0_0 : List (Ty.den TPair)) (x0_1 : List (Ty.den TPair)) (x0_2 : Int) : laws_eqPairS.V0 k a0 a1 (n0 + 1) x0_0 x0_1 x0_2 = laws_eqPairS.b0 k (laws_eqPairS.V0 k a0 a1 n0) x0_0 x0_1 x0_2 := by kernel_rfl
theorem laws_eqPairS.e0 (k : Nat) (a0 : List (Ty.den TPair)) (a1 : List (Ty.den TPair)) (n0 : Nat) : laws_eqPairS.V0 k a0 a1 n0 = laws_eqPairS.l0 k n0 := by
  induction n0 with
  | zero => rfl
  | succ n0 ih =>
    have h : laws_eqPairS.V0 k a0 a1 (n0 + 1) = laws_eqPairS.b0 k (laws_eqPairS.V0 k a0 a1 n0) := funext fun x0_0 => funext fun x0_1 => funext fun x0_2 => laws_eqPairS.s0 k a0 a1 n0 x0_0 x0_1 x0_2
    rw [h, ih]
    rfl
theorem laws_eqPairS.q (k : Nat) (a0 : List (Ty.den TPair)) (a1 : List (Ty.den TPair)) : run (laws_eqPairS.E k) Try.f19 [.val (.slice TPair), .val (.slice TPair)] [.bool] true false (a0, a1, ()) = laws_eqPairS.t k (laws_eqPairS.V0 k a0 a1 k) a0 a1 := by kernel_rfl
theorem laws_eqPairS.eq (k : Nat) (a0 : List (Ty.den TPair)) (a1 : List (Ty.den TPair)) : run (laws_eqPairS.E k) Try.f19 [.val (.slice TPair), .val (.slice TPair)] [.bool] true false (a0, a1, ()) = laws_eqPairS.f k a0 a1 := by
  rw [laws_eqPairS.q, laws_eqPairS.e0]
  rfl
theorem laws_eqPairS.ctr (k : Nat) : Ctr Try.prog 19 ⟨[.val (.slice TPair), .val (.slice TPair)], [.bool], true, false, fun x => laws_eqPairS.f k x.1 x.2.1⟩ :=
  run_ctr (E := laws_eqPairS.E k) mixed tb_ok (eqOk_of tb_eqs) (Cts.cons (laws_eqPair.ctr k) Cts.nil) (by kernel_rfl) Try.func19 (by kernel_rfl) rfl (fun ⟨a0, a1, _⟩ r h => (laws_eqPairS.eq k a0 a1).trans h)
def laws_markPairS.E (k : Nat) : Env := ⟨tb, [(94, ⟨[.val (.int .i64)], [.str], true, false, fun x => laws_markText.f k x.1⟩)], [(2, [0, 1, 5])], k, 1, []⟩
noncomputable def laws_markPairS.K0 (k : Nat) (a0 : List (Ty.den TPair)) (a1 : Int) : Ex → St → Option ((List (Ty.den TPair)) × Int × Unit) := runK (laws_markPairS.E k) (endK (laws_markPairS.E k) Try.f62.results.toList [.lend (.slice TPair), .val (.int .i64)] (a0, a1, ()) [(.int .i64)] true false) [.blk 0, .code (at_ [true, true] (body Try.f62))]
noncomputable def laws_markPairS.B0 (k : Nat) (a0 : List (Ty.den TPair)) (a1 : Int) (n0 : Nat) : Ex → St → Option ((List (Ty.den TPair)) × Int × Unit) := fun e st => match e with
  | .normal => loopN (exec (laws_markPairS.E k) (at_ [true, false, true, false, false] (body Try.f62))) (canon 1 [0, 1, 5]) (laws_markPairS.K0 k a0 a1) n0 (canon 1 [0, 1, 5] st)
  | .ret => laws_markPairS.K0 k a0 a1 .ret st
  | .exit j => laws_markPairS.K0 k a0 a1 (.exit j) st
noncomputable def laws_markPairS.V0 (k : Nat) (a0 : List (Ty.den TPair)) (a1 : Int) (n0 : Nat) (x0_0 : Int) (x0_1 : Int) (x0_2 : List (Ty.den TPair)) : Option ((List (Ty.den TPair)) × Int × Unit) := loopN (exec (laws_markPairS.E k) (at_ [true, false, true, false, false] (body Try.f62))) (canon 1 [0, 1, 5]) (laws_markPairS.K0 k a0 a1) n0 (mk 36 1 [(0, .ref 0), (1, .int .i64 x0_0), (5, .int .i64 x0_1)] [(0, .own false TPair x0_2)])
theorem laws_markPairS.s0 (k : Nat) (a0 : List (Ty.den TPair)) (a1 : Int) (n0 : Nat) (x0_0 : Int) (x0_1 : Int) (x0_2 : List (Ty.den TPair)) : laws_markPairS.V0 k a0 a1 (n0 + 1) x0_0 x0_1 x0_2 = laws_markPairS.b0 k a0 a1 (laws_markPairS.V0 k a0 a1 n0) x0_0 x0_1 x0_2 := by kernel_rfl
theorem laws_markPairS.e0 (k : Nat) (a0 : List (Ty.den TPair)) (a1 : Int) (n0 : Nat) : laws_markPairS.V0 k a0 a1 n0 = laws_markPairS.l0 k a0 a1 n0 := by
  induction n0 with
  | zero => rfl
  | succ n0 ih =>
    have h : laws_markPairS.V0 k a0 a1 (n0 + 1) = laws_markPairS.b0 k a0 a1 (laws_markPairS.V0 k a0 a1 n0) := funext fun x0_0 => funext fun x0_1 => funext fun x0_2 => laws_markPairS.s0 k a0 a1 n0 x0_0 x0_1 x0_2
    rw [h, ih]
    rfl
theorem laws_markPairS.q (k : Nat) (a0 : List (Ty.den TPair)) (a1 : Int) : run (laws_markPairS.E k) Try.f62 [.lend (.slice TPair), .val (.int .i64)] [(.int .i64)] true false (a0, a1, ()) = laws_markPairS.t k (laws_markPairS.V0 k a0 a1 k) a0 a1 := by kernel_rfl
theorem laws_markPairS.eq (k : Nat) (a0 : List (Ty.den TPair)) (a1 : Int) : run (laws_markPairS.E k) Try.f62 [.lend (.slice TPair), .val (.int .i64)] [(.int .i64)] true false (a0, a1, ()) = laws_markPairS.f k a0 a1 := by
  rw [laws_markPairS.q, laws_markPairS.e0]
  rfl
theorem laws_markPairS.ctr (k : Nat) : Ctr Try.prog 62 ⟨[.lend (.slice TPair), .val (.int .i64)], [(.int .i64)], true, false, fun x => laws_markPairS.f k x.1 x.2.1⟩ :=
  run_ctr (E := laws_markPairS.E k) mixed tb_ok (eqOk_of tb_eqs) (Cts.cons (laws_markText.ctr k) Cts.nil) (by kernel_rfl) Try.func62 (by kernel_rfl) rfl (fun ⟨a0, a1, _⟩ r h => (laws_markPairS.eq k a0 a1).trans h)
def laws_markPutS.E (k : Nat) : Env := ⟨tb, [(94, ⟨[.val (.int .i64)], [.str], true, false, fun x => laws_markText.f k x.1⟩)], [(2, [0, 1, 5])], k, 1, []⟩
noncomputable def laws_markPutS.K0 (k : Nat) (a0 : List (Ty.den TPut)) (a1 : Int) : Ex → St → Option ((List (Ty.den TPut)) × Int × Unit) := runK (laws_markPutS.E k) (endK (laws_markPutS.E k) Try.f63.results.toList [.lend (.slice TPut), .val (.int .i64)] (a0, a1, ()) [(.int .i64)] true false) [.blk 0, .code (at_ [true, true] (body Try.f63))]
noncomputable def laws_markPutS.B0 (k : Nat) (a0 : List (Ty.den TPut)) (a1 : Int) (n0 : Nat) : Ex → St → Option ((List (Ty.den TPut)) × Int × Unit) := fun e st => match e with
  | .normal => loopN (exec (laws_markPutS.E k) (at_ [true, false, true, false, false] (body Try.f63))) (canon 1 [0, 1, 5]) (laws_markPutS.K0 k a0 a1) n0 (canon 1 [0, 1, 5] st)
  | .ret => laws_markPutS.K0 k a0 a1 .ret st
  | .exit j => laws_markPutS.K0 k a0 a1 (.exit j) st
noncomputable def laws_markPutS.V0 (k : Nat) (a0 : List (Ty.den TPut)) (a1 : Int) (n0 : Nat) (x0_0 : Int) (x0_1 : Int) (x0_2 : List (Ty.den TPut)) : Option ((List (Ty.den TPut)) × Int × Unit) := loopN (exec (laws_markPutS.E k) (at_ [true, false, true, false, false] (body Try.f63))) (canon 1 [0, 1, 5]) (laws_markPutS.K0 k a0 a1) n0 (mk 38 1 [(0, .ref 0), (1, .int .i64 x0_0), (5, .int .i64 x0_1)] [(0, .own false TPut x0_2)])
theorem laws_markPutS.s0 (k : Nat) (a0 : List (Ty.den TPut)) (a1 : Int) (n0 : Nat) (x0_0 : Int) (x0_1 : Int) (x0_2 : List (Ty.den TPut)) : laws_markPutS.V0 k a0 a1 (n0 + 1) x0_0 x0_1 x0_2 = laws_markPutS.b0 k a0 a1 (laws_markPutS.V0 k a0 a1 n0) x0_0 x0_1 x0_2 := by kernel_rfl
theorem laws_markPutS.e0 (k : Nat) (a0 : List (Ty.den TPut)) (a1 : Int) (n0 : Nat) : laws_markPutS.V0 k a0 a1 n0 = laws_markPutS.l0 k a0 a1 n0 := by
  induction n0 with
  | zero => rfl
  | succ n0 ih =>
    have h : laws_markPutS.V0 k a0 a1 (n0 + 1) = laws_markPutS.b0 k a0 a1 (laws_markPutS.V0 k a0 a1 n0) := funext fun x0_0 => funext fun x0_1 => funext fun x0_2 => laws_markPutS.s0 k a0 a1 n0 x0_0 x0_1 x0_2
    rw [h, ih]
    rfl
theorem laws_markPutS.q (k : Nat) (a0 : List (Ty.den TPut)) (a1 : Int) : run (laws_markPutS.E k) Try.f63 [.lend (.slice TPut), .val (.int .i64)] [(.int .i64)] true false (a0, a1, ()) = laws_markPutS.t k (laws_markPutS.V0 k a0 a1 k) a0 a1 := by kernel_rfl
theorem laws_markPutS.eq (k : Nat) (a0 : List (Ty.den TPut)) (a1 : Int) : run (laws_markPutS.E k) Try.f63 [.lend (.slice TPut), .val (.int .i64)] [(.int .i64)] true false (a0, a1, ()) = laws_markPutS.f k a0 a1 := by
  rw [laws_markPutS.q, laws_markPutS.e0]
  rfl
theorem laws_markPutS.ctr (k : Nat) : Ctr Try.prog 63 ⟨[.lend (.slice TPut), .val (.int .i64)], [(.int .i64)], true, false, fun x => laws_markPutS.f k x.1 x.2.1⟩ :=
  run_ctr (E := laws_markPutS.E k) mixed tb_ok (eqOk_of tb_eqs) (Cts.cons (laws_markText.ctr k) Cts.nil) (by kernel_rfl) Try.func63 (by kernel_rfl) rfl (fun ⟨a0, a1, _⟩ r h => (laws_markPutS.eq k a0 a1).trans h)
def laws_heldPutS.E (k : Nat) : Env := ⟨tb, [(94, ⟨[.val (.int .i64)], [.str], true, false, fun x => laws_markText.f k x.1⟩)], [(2, [0, 1, 5])], k, 0, []⟩
noncomputable def laws_heldPutS.K0 (k : Nat) (a0 : List (Ty.den TPut)) (a1 : Int) : Ex → St → Option (Int × Unit) := runK (laws_heldPutS.E k) (endK (laws_heldPutS.E k) Try.f64.results.toList [.val (.slice TPut), .val (.int .i64)] (a0, a1, ()) [(.int .i64)] true false) [.blk 0, .code (at_ [true, true] (body Try.f64))]
noncomputable def laws_heldPutS.B0 (k : Nat) (a0 : List (Ty.den TPut)) (a1 : Int) (n0 : Nat) : Ex → St → Option (Int × Unit) := fun e st => match e with
  | .normal => loopN (exec (laws_heldPutS.E k) (at_ [true, false, true, false, false] (body Try.f64))) (canon 0 [0, 1, 5]) (laws_heldPutS.K0 k a0 a1) n0 (canon 0 [0, 1, 5] st)
  | .ret => laws_heldPutS.K0 k a0 a1 .ret st
  | .exit j => laws_heldPutS.K0 k a0 a1 (.exit j) st
noncomputable def laws_heldPutS.V0 (k : Nat) (a0 : List (Ty.den TPut)) (a1 : Int) (n0 : Nat) (x0_0 : List (Ty.den TPut)) (x0_1 : Int) (x0_2 : Int) : Option (Int × Unit) := loopN (exec (laws_heldPutS.E k) (at_ [true, false, true, false, false] (body Try.f64))) (canon 0 [0, 1, 5]) (laws_heldPutS.K0 k a0 a1) n0 (mk 44 0 [(0, .sl true TPut x0_0), (1, .int .i64 x0_1), (5, .int .i64 x0_2)] [])
theorem laws_heldPutS.s0 (k : Nat) (a0 : List (Ty.den TPut)) (a1 : Int) (n0 : Nat) (x0_0 : List (Ty.den TPut)) (x0_1 : Int) (x0_2 : Int) : laws_heldPutS.V0 k a0 a1 (n0 + 1) x0_0 x0_1 x0_2 = laws_heldPutS.b0 k (laws_heldPutS.V0 k a0 a1 n0) x0_0 x0_1 x0_2 := by kernel_rfl
theorem laws_heldPutS.e0 (k : Nat) (a0 : List (Ty.den TPut)) (a1 : Int) (n0 : Nat) : laws_heldPutS.V0 k a0 a1 n0 = laws_heldPutS.l0 k n0 := by
  induction n0 with
  | zero => rfl
  | succ n0 ih =>
    have h : laws_heldPutS.V0 k a0 a1 (n0 + 1) = laws_heldPutS.b0 k (laws_heldPutS.V0 k a0 a1 n0) := funext fun x0_0 => funext fun x0_1 => funext fun x0_2 => laws_heldPutS.s0 k a0 a1 n0 x0_0 x0_1 x0_2
    rw [h, ih]
    rfl
theorem laws_heldPutS.q (k : Nat) (a0 : List (Ty.den TPut)) (a1 : Int) : run (laws_heldPutS.E k) Try.f64 [.val (.slice TPut), .val (.int .i64)] [(.int .i64)] true false (a0, a1, ()) = laws_heldPutS.t k (laws_heldPutS.V0 k a0 a1 k) a0 a1 := by kernel_rfl
theorem laws_heldPutS.eq (k : Nat) (a0 : List (Ty.den TPut)) (a1 : Int) : run (laws_heldPutS.E k) Try.f64 [.val (.slice TPut), .val (.int .i64)] [(.int .i64)] true false (a0, a1, ()) = laws_heldPutS.f k a0 a1 := by
  rw [laws_heldPutS.q, laws_heldPutS.e0]
  rfl
theorem laws_heldPutS.ctr (k : Nat) : Ctr Try.prog 64 ⟨[.val (.slice TPut), .val (.int .i64)], [(.int .i64)], true, false, fun x => laws_heldPutS.f k x.1 x.2.1⟩ :=
  run_ctr (E := laws_heldPutS.E k) mixed tb_ok (eqOk_of tb_eqs) (Cts.cons (laws_markText.ctr k) Cts.nil) (by kernel_rfl) Try.func64 (by kernel_rfl) rfl (fun ⟨a0, a1, _⟩ r h => (laws_heldPutS.eq k a0 a1).trans h)
def laws_FnExactDiff.E (k : Nat) : Env := ⟨tb, [(15, ⟨[.val (.slice TPair), .val (.int .i64)], [(.int .i64)], true, false, fun x => laws_szPairS.f k x.1 x.2.1⟩), (17, ⟨[.val (.slice TPair)], [(.slice TPair)], true, false, fun x => laws_toPairS.f k x.1⟩), (59, ⟨[.val (.slice TPair), .val (.slice TPair)], [(.slice TPut)], true, false, fun x => spec_Diff.f k x.1 x.2.1⟩), (60, ⟨[.val (.slice TPair), .val (.slice TPair)], [(.slice TPut)], true, false, fun x => impl_Diff.f k x.1 x.2.1⟩), (61, ⟨[.val (.slice TPut), .val (.slice TPut)], [.bool], true, false, fun x => laws_eqPutS.f k x.1 x.2.1⟩), (19, ⟨[.val (.slice TPair), .val (.slice TPair)], [.bool], true, false, fun x => laws_eqPairS.f k x.1 x.2.1⟩), (62, ⟨[.lend (.slice TPair), .val (.int .i64)], [(.int .i64)], true, false, fun x => laws_markPairS.f k x.1 x.2.1⟩), (63, ⟨[.lend (.slice TPut), .val (.int .i64)], [(.int .i64)], true, false, fun x => laws_markPutS.f k x.1 x.2.1⟩), (64, ⟨[.val (.slice TPut), .val (.int .i64)], [(.int .i64)], true, false, fun x => laws_heldPutS.f k x.1 x.2.1⟩)], [], k, 0, []⟩
theorem laws_FnExactDiff.q (k : Nat) (a0 : List (Ty.den TPair)) (a1 : List (Ty.den TPair)) : run (laws_FnExactDiff.E k) Try.f12 [.val (.slice TPair), .val (.slice TPair)] [.bool] true false (a0, a1, ()) = laws_FnExactDiff.t k a0 a1 := by kernel_rfl
theorem laws_FnExactDiff.eq (k : Nat) (a0 : List (Ty.den TPair)) (a1 : List (Ty.den TPair)) : run (laws_FnExactDiff.E k) Try.f12 [.val (.slice TPair), .val (.slice TPair)] [.bool] true false (a0, a1, ()) = laws_FnExactDiff.f k a0 a1 := by
  rw [laws_FnExactDiff.q]
  rfl
theorem laws_FnExactDiff.ctr (k : Nat) : Ctr Try.prog 12 ⟨[.val (.slice TPair), .val (.slice TPair)], [.bool], true, false, fun x => laws_FnExactDiff.f k x.1 x.2.1⟩ :=
  run_ctr (E := laws_FnExactDiff.E k) mixed tb_ok (eqOk_of tb_eqs) (Cts.cons (laws_szPairS.ctr k) (Cts.cons (laws_toPairS.ctr k) (Cts.cons (spec_Diff.ctr k) (Cts.cons (impl_Diff.ctr k) (Cts.cons (laws_eqPutS.ctr k) (Cts.cons (laws_eqPairS.ctr k) (Cts.cons (laws_markPairS.ctr k) (Cts.cons (laws_markPutS.ctr k) (Cts.cons (laws_heldPutS.ctr k) Cts.nil))))))))) (by kernel_rfl) Try.func12 (by kernel_rfl) rfl (fun ⟨a0, a1, _⟩ r h => (laws_FnExactDiff.eq k a0 a1).trans h)
def laws_szPiece.E (k : Nat) : Env := ⟨tb, [], [], k, 0, []⟩
theorem laws_szPiece.q (k : Nat) (a0 : Ty.den TPiece) (a1 : Int) : run (laws_szPiece.E k) Try.f118 [.val TPiece, .val (.int .i64)] [(.int .i64)] true false (a0, a1, ()) = laws_szPiece.t k a0 a1 := by kernel_rfl
theorem laws_szPiece.eq (k : Nat) (a0 : Ty.den TPiece) (a1 : Int) : run (laws_szPiece.E k) Try.f118 [.val TPiece, .val (.int .i64)] [(.int .i64)] true false (a0, a1, ()) = laws_szPiece.f k a0 a1 := by
  rw [laws_szPiece.q]
  rfl
theorem laws_szPiece.ctr (k : Nat) : Ctr Try.prog 118 ⟨[.val TPiece, .val (.int .i64)], [(.int .i64)], true, false, fun x => laws_szPiece.f k x.1 x.2.1⟩ :=
  run_ctr (E := laws_szPiece.E k) mixed tb_ok (eqOk_of tb_eqs) Cts.nil (by kernel_rfl) Try.func118 (by kernel_rfl) rfl (fun ⟨a0, a1, _⟩ r h => (laws_szPiece.eq k a0 a1).trans h)
def laws_szPieceS.E (k : Nat) : Env := ⟨tb, [(118, ⟨[.val TPiece, .val (.int .i64)], [(.int .i64)], true, false, fun x => laws_szPiece.f k x.1 x.2.1⟩)], [(5, [0, 1, 5])], k, 0, []⟩
noncomputable def laws_szPieceS.K0 (k : Nat) (a0 : List (Ty.den TPiece)) (a1 : Int) : Ex → St → Option (Int × Unit) := runK (laws_szPieceS.E k) (endK (laws_szPieceS.E k) Try.f82.results.toList [.val (.slice TPiece), .val (.int .i64)] (a0, a1, ()) [(.int .i64)] true false) [.blk 0, .code (at_ [true, true, true, true] (body Try.f82))]
noncomputable def laws_szPieceS.B0 (k : Nat) (a0 : List (Ty.den TPiece)) (a1 : Int) (n0 : Nat) : Ex → St → Option (Int × Unit) := fun e st => match e with
  | .normal => loopN (exec (laws_szPieceS.E k) (at_ [true, true, true, false, true, false, false] (body Try.f82))) (canon 0 [0, 1, 5]) (laws_szPieceS.K0 k a0 a1) n0 (canon 0 [0, 1, 5] st)
  | .ret => laws_szPieceS.K0 k a0 a1 .ret st
  | .exit j => laws_szPieceS.K0 k a0 a1 (.exit j) st
noncomputable def laws_szPieceS.V0 (k : Nat) (a0 : List (Ty.den TPiece)) (a1 : Int) (n0 : Nat) (x0_0 : List (Ty.den TPiece)) (x0_1 : Int) (x0_2 : Int) : Option (Int × Unit) := loopN (exec (laws_szPieceS.E k) (at_ [true, true, true, false, true, false, false] (body Try.f82))) (canon 0 [0, 1, 5]) (laws_szPieceS.K0 k a0 a1) n0 (mk 27 0 [(0, .sl true TPiece x0_0), (1, .int .i64 x0_1), (5, .int .i64 x0_2)] [])
theorem laws_szPieceS.s0 (k : Nat) (a0 : List (Ty.den TPiece)) (a1 : Int) (n0 : Nat) (x0_0 : List (Ty.den TPiece)) (x0_1 : Int) (x0_2 : Int) : laws_szPieceS.V0 k a0 a1 (n0 + 1) x0_0 x0_1 x0_2 = laws_szPieceS.b0 k (laws_szPieceS.V0 k a0 a1 n0) x0_0 x0_1 x0_2 := by kernel_rfl
theorem laws_szPieceS.e0 (k : Nat) (a0 : List (Ty.den TPiece)) (a1 : Int) (n0 : Nat) : laws_szPieceS.V0 k a0 a1 n0 = laws_szPieceS.l0 k n0 := by
  induction n0 with
  | zero => rfl
  | succ n0 ih =>
    have h : laws_szPieceS.V0 k a0 a1 (n0 + 1) = laws_szPieceS.b0 k (laws_szPieceS.V0 k a0 a1 n0) := funext fun x0_0 => funext fun x0_1 => funext fun x0_2 => laws_szPieceS.s0 k a0 a1 n0 x0_0 x0_1 x0_2
    rw [h, ih]
    rfl
theorem laws_szPieceS.q (k : Nat) (a0 : List (Ty.den TPiece)) (a1 : Int) : run (laws_szPieceS.E k) Try.f82 [.val (.slice TPiece), .val (.int .i64)] [(.int .i64)] true false (a0, a1, ()) = laws_szPieceS.t k (laws_szPieceS.V0 k a0 a1 k) a0 a1 := by kernel_rfl
theorem laws_szPieceS.eq (k : Nat) (a0 : List (Ty.den TPiece)) (a1 : Int) : run (laws_szPieceS.E k) Try.f82 [.val (.slice TPiece), .val (.int .i64)] [(.int .i64)] true false (a0, a1, ()) = laws_szPieceS.f k a0 a1 := by
  rw [laws_szPieceS.q, laws_szPieceS.e0]
  rfl
theorem laws_szPieceS.ctr (k : Nat) : Ctr Try.prog 82 ⟨[.val (.slice TPiece), .val (.int .i64)], [(.int .i64)], true, false, fun x => laws_szPieceS.f k x.1 x.2.1⟩ :=
  run_ctr (E := laws_szPieceS.E k) mixed tb_ok (eqOk_of tb_eqs) (Cts.cons (laws_szPiece.ctr k) Cts.nil) (by kernel_rfl) Try.func82 (by kernel_rfl) rfl (fun ⟨a0, a1, _⟩ r h => (laws_szPieceS.eq k a0 a1).trans h)
def laws_szFollower.E (k : Nat) : Env := ⟨tb, [(82, ⟨[.val (.slice TPiece), .val (.int .i64)], [(.int .i64)], true, false, fun x => laws_szPieceS.f k x.1 x.2.1⟩)], [], k, 0, []⟩
theorem laws_szFollower.q (k : Nat) (a0 : Ty.den TFollower) (a1 : Int) : run (laws_szFollower.E k) Try.f25 [.val TFollower, .val (.int .i64)] [(.int .i64)] true false (a0, a1, ()) = laws_szFollower.t k a0 a1 := by kernel_rfl
theorem laws_szFollower.eq (k : Nat) (a0 : Ty.den TFollower) (a1 : Int) : run (laws_szFollower.E k) Try.f25 [.val TFollower, .val (.int .i64)] [(.int .i64)] true false (a0, a1, ()) = laws_szFollower.f k a0 a1 := by
  rw [laws_szFollower.q]
  rfl
theorem laws_szFollower.ctr (k : Nat) : Ctr Try.prog 25 ⟨[.val TFollower, .val (.int .i64)], [(.int .i64)], true, false, fun x => laws_szFollower.f k x.1 x.2.1⟩ :=
  run_ctr (E := laws_szFollower.E k) mixed tb_ok (eqOk_of tb_eqs) (Cts.cons (laws_szPieceS.ctr k) Cts.nil) (by kernel_rfl) Try.func25 (by kernel_rfl) rfl (fun ⟨a0, a1, _⟩ r h => (laws_szFollower.eq k a0 a1).trans h)
def laws_szBit.E (k : Nat) : Env := ⟨tb, [], [], k, 0, []⟩
theorem laws_szBit.q (k : Nat) (a0 : Ty.den TBit) (a1 : Int) : run (laws_szBit.E k) Try.f115 [.val TBit, .val (.int .i64)] [(.int .i64)] true false (a0, a1, ()) = laws_szBit.t k a0 a1 := by kernel_rfl
theorem laws_szBit.eq (k : Nat) (a0 : Ty.den TBit) (a1 : Int) : run (laws_szBit.E k) Try.f115 [.val TBit, .val (.int .i64)] [(.int .i64)] true false (a0, a1, ()) = laws_szBit.f k a0 a1 := by
  rw [laws_szBit.q]
  rfl
theorem laws_szBit.ctr (k : Nat) : Ctr Try.prog 115 ⟨[.val TBit, .val (.int .i64)], [(.int .i64)], true, false, fun x => laws_szBit.f k x.1 x.2.1⟩ :=
  run_ctr (E := laws_szBit.E k) mixed tb_ok (eqOk_of tb_eqs) Cts.nil (by kernel_rfl) Try.func115 (by kernel_rfl) rfl (fun ⟨a0, a1, _⟩ r h => (laws_szBit.eq k a0 a1).trans h)
def laws_szBitS.E (k : Nat) : Env := ⟨tb, [(115, ⟨[.val TBit, .val (.int .i64)], [(.int .i64)], true, false, fun x => laws_szBit.f k x.1 x.2.1⟩)], [(5, [0, 1, 5])], k, 0, []⟩
noncomputable def laws_szBitS.K0 (k : Nat) (a0 : List (Ty.den TBit)) (a1 : Int) : Ex → St → Option (Int × Unit) := runK (laws_szBitS.E k) (endK (laws_szBitS.E k) Try.f79.results.toList [.val (.slice TBit), .val (.int .i64)] (a0, a1, ()) [(.int .i64)] true false) [.blk 0, .code (at_ [true, true, true, true] (body Try.f79))]
noncomputable def laws_szBitS.B0 (k : Nat) (a0 : List (Ty.den TBit)) (a1 : Int) (n0 : Nat) : Ex → St → Option (Int × Unit) := fun e st => match e with
  | .normal => loopN (exec (laws_szBitS.E k) (at_ [true, true, true, false, true, false, false] (body Try.f79))) (canon 0 [0, 1, 5]) (laws_szBitS.K0 k a0 a1) n0 (canon 0 [0, 1, 5] st)
  | .ret => laws_szBitS.K0 k a0 a1 .ret st
  | .exit j => laws_szBitS.K0 k a0 a1 (.exit j) st
noncomputable def laws_szBitS.V0 (k : Nat) (a0 : List (Ty.den TBit)) (a1 : Int) (n0 : Nat) (x0_0 : List (Ty.den TBit)) (x0_1 : Int) (x0_2 : Int) : Option (Int × Unit) := loopN (exec (laws_szBitS.E k) (at_ [true, true, true, false, true, false, false] (body Try.f79))) (canon 0 [0, 1, 5]) (laws_szBitS.K0 k a0 a1) n0 (mk 27 0 [(0, .sl true TBit x0_0), (1, .int .i64 x0_1), (5, .int .i64 x0_2)] [])
theorem laws_szBitS.s0 (k : Nat) (a0 : List (Ty.den TBit)) (a1 : Int) (n0 : Nat) (x0_0 : List (Ty.den TBit)) (x0_1 : Int) (x0_2 : Int) : laws_szBitS.V0 k a0 a1 (n0 + 1) x0_0 x0_1 x0_2 = laws_szBitS.b0 k (laws_szBitS.V0 k a0 a1 n0) x0_0 x0_1 x0_2 := by kernel_rfl
theorem laws_szBitS.e0 (k : Nat) (a0 : List (Ty.den TBit)) (a1 : Int) (n0 : Nat) : laws_szBitS.V0 k a0 a1 n0 = laws_szBitS.l0 k n0 := by
  induction n0 with
  | zero => rfl
  | succ n0 ih =>
    have h : laws_szBitS.V0 k a0 a1 (n0 + 1) = laws_szBitS.b0 k (laws_szBitS.V0 k a0 a1 n0) := funext fun x0_0 => funext fun x0_1 => funext fun x0_2 => laws_szBitS.s0 k a0 a1 n0 x0_0 x0_1 x0_2
    rw [h, ih]
    rfl
theorem laws_szBitS.q (k : Nat) (a0 : List (Ty.den TBit)) (a1 : Int) : run (laws_szBitS.E k) Try.f79 [.val (.slice TBit), .val (.int .i64)] [(.int .i64)] true false (a0, a1, ()) = laws_szBitS.t k (laws_szBitS.V0 k a0 a1 k) a0 a1 := by kernel_rfl
theorem laws_szBitS.eq (k : Nat) (a0 : List (Ty.den TBit)) (a1 : Int) : run (laws_szBitS.E k) Try.f79 [.val (.slice TBit), .val (.int .i64)] [(.int .i64)] true false (a0, a1, ()) = laws_szBitS.f k a0 a1 := by
  rw [laws_szBitS.q, laws_szBitS.e0]
  rfl
theorem laws_szBitS.ctr (k : Nat) : Ctr Try.prog 79 ⟨[.val (.slice TBit), .val (.int .i64)], [(.int .i64)], true, false, fun x => laws_szBitS.f k x.1 x.2.1⟩ :=
  run_ctr (E := laws_szBitS.E k) mixed tb_ok (eqOk_of tb_eqs) (Cts.cons (laws_szBit.ctr k) Cts.nil) (by kernel_rfl) Try.func79 (by kernel_rfl) rfl (fun ⟨a0, a1, _⟩ r h => (laws_szBitS.eq k a0 a1).trans h)
def laws_szParcel.E (k : Nat) : Env := ⟨tb, [(79, ⟨[.val (.slice TBit), .val (.int .i64)], [(.int .i64)], true, false, fun x => laws_szBitS.f k x.1 x.2.1⟩)], [], k, 0, []⟩
theorem laws_szParcel.q (k : Nat) (a0 : Ty.den TParcel) (a1 : Int) : run (laws_szParcel.E k) Try.f20 [.val TParcel, .val (.int .i64)] [(.int .i64)] true false (a0, a1, ()) = laws_szParcel.t k a0 a1 := by kernel_rfl
theorem laws_szParcel.eq (k : Nat) (a0 : Ty.den TParcel) (a1 : Int) : run (laws_szParcel.E k) Try.f20 [.val TParcel, .val (.int .i64)] [(.int .i64)] true false (a0, a1, ()) = laws_szParcel.f k a0 a1 := by
  rw [laws_szParcel.q]
  rfl
theorem laws_szParcel.ctr (k : Nat) : Ctr Try.prog 20 ⟨[.val TParcel, .val (.int .i64)], [(.int .i64)], true, false, fun x => laws_szParcel.f k x.1 x.2.1⟩ :=
  run_ctr (E := laws_szParcel.E k) mixed tb_ok (eqOk_of tb_eqs) (Cts.cons (laws_szBitS.ctr k) Cts.nil) (by kernel_rfl) Try.func20 (by kernel_rfl) rfl (fun ⟨a0, a1, _⟩ r h => (laws_szParcel.eq k a0 a1).trans h)
def laws_toPiece.E (k : Nat) : Env := ⟨tb, [], [], k, 0, []⟩
theorem laws_toPiece.q (k : Nat) (a0 : Ty.den TPiece) : run (laws_toPiece.E k) Try.f119 [.val TPiece] [TPiece] true false (a0, ()) = laws_toPiece.t k a0 := by kernel_rfl
theorem laws_toPiece.eq (k : Nat) (a0 : Ty.den TPiece) : run (laws_toPiece.E k) Try.f119 [.val TPiece] [TPiece] true false (a0, ()) = laws_toPiece.f k a0 := by
  rw [laws_toPiece.q]
  rfl
theorem laws_toPiece.ctr (k : Nat) : Ctr Try.prog 119 ⟨[.val TPiece], [TPiece], true, false, fun x => laws_toPiece.f k x.1⟩ :=
  run_ctr (E := laws_toPiece.E k) mixed tb_ok (eqOk_of tb_eqs) Cts.nil (by kernel_rfl) Try.func119 (by kernel_rfl) rfl (fun ⟨a0, _⟩ r h => (laws_toPiece.eq k a0).trans h)
def laws_toPieceS.E (k : Nat) : Env := ⟨tb, [(119, ⟨[.val TPiece], [TPiece], true, false, fun x => laws_toPiece.f k x.1⟩)], [(3, [0, 3, 4])], k, 0, []⟩
noncomputable def laws_toPieceS.K0 (k : Nat) (a0 : List (Ty.den TPiece)) : Ex → St → Option ((List (Ty.den TPiece)) × Unit) := runK (laws_toPieceS.E k) (endK (laws_toPieceS.E k) Try.f83.results.toList [.val (.slice TPiece)] (a0, ()) [(.slice TPiece)] true false) [.blk 0, .code (at_ [true, true, true] (body Try.f83))]
noncomputable def laws_toPieceS.B0 (k : Nat) (a0 : List (Ty.den TPiece)) (n0 : Nat) : Ex → St → Option ((List (Ty.den TPiece)) × Unit) := fun e st => match e with
  | .normal => loopN (exec (laws_toPieceS.E k) (at_ [true, true, false, true, false, false] (body Try.f83))) (canon 0 [0, 3, 4]) (laws_toPieceS.K0 k a0) n0 (canon 0 [0, 3, 4] st)
  | .ret => laws_toPieceS.K0 k a0 .ret st
  | .exit j => laws_toPieceS.K0 k a0 (.exit j) st
noncomputable def laws_toPieceS.V0 (k : Nat) (a0 : List (Ty.den TPiece)) (n0 : Nat) (x0_0 : List (Ty.den TPiece)) (x0_1 : Int) (x0_2 : List (Ty.den TPiece)) : Option ((List (Ty.den TPiece)) × Unit) := loopN (exec (laws_toPieceS.E k) (at_ [true, true, false, true, false, false] (body Try.f83))) (canon 0 [0, 3, 4]) (laws_toPieceS.K0 k a0) n0 (mk 23 1 [(0, .sl true TPiece x0_0), (3, .ref 0), (4, .int .i64 x0_1)] [(0, .own false TPiece x0_2)])
theorem laws_toPieceS.s0 (k : Nat) (a0 : List (Ty.den TPiece)) (n0 : Nat) (x0_0 : List (Ty.den TPiece)) (x0_1 : Int) (x0_2 : List (Ty.den TPiece)) : laws_toPieceS.V0 k a0 (n0 + 1) x0_0 x0_1 x0_2 = laws_toPieceS.b0 k (laws_toPieceS.V0 k a0 n0) x0_0 x0_1 x0_2 := by kernel_rfl
theorem laws_toPieceS.e0 (k : Nat) (a0 : List (Ty.den TPiece)) (n0 : Nat) : laws_toPieceS.V0 k a0 n0 = laws_toPieceS.l0 k n0 := by
  induction n0 with
  | zero => rfl
  | succ n0 ih =>
    have h : laws_toPieceS.V0 k a0 (n0 + 1) = laws_toPieceS.b0 k (laws_toPieceS.V0 k a0 n0) := funext fun x0_0 => funext fun x0_1 => funext fun x0_2 => laws_toPieceS.s0 k a0 n0 x0_0 x0_1 x0_2
    rw [h, ih]
    rfl
theorem laws_toPieceS.q (k : Nat) (a0 : List (Ty.den TPiece)) : run (laws_toPieceS.E k) Try.f83 [.val (.slice TPiece)] [(.slice TPiece)] true false (a0, ()) = laws_toPieceS.t k (laws_toPieceS.V0 k a0 k) a0 := by kernel_rfl
theorem laws_toPieceS.eq (k : Nat) (a0 : List (Ty.den TPiece)) : run (laws_toPieceS.E k) Try.f83 [.val (.slice TPiece)] [(.slice TPiece)] true false (a0, ()) = laws_toPieceS.f k a0 := by
  rw [laws_toPieceS.q, laws_toPieceS.e0]
  rfl
theorem laws_toPieceS.ctr (k : Nat) : Ctr Try.prog 83 ⟨[.val (.slice TPiece)], [(.slice TPiece)], true, false, fun x => laws_toPieceS.f k x.1⟩ :=
  run_ctr (E := laws_toPieceS.E k) mixed tb_ok (eqOk_of tb_eqs) (Cts.cons (laws_toPiece.ctr k) Cts.nil) (by kernel_rfl) Try.func83 (by kernel_rfl) rfl (fun ⟨a0, _⟩ r h => (laws_toPieceS.eq k a0).trans h)
def laws_toFollower.E (k : Nat) : Env := ⟨tb, [(83, ⟨[.val (.slice TPiece)], [(.slice TPiece)], true, false, fun x => laws_toPieceS.f k x.1⟩)], [], k, 0, []⟩
theorem laws_toFollower.q (k : Nat) (a0 : Ty.den TFollower) : run (laws_toFollower.E k) Try.f27 [.val TFollower] [TFollower] true false (a0, ()) = laws_toFollower.t k a0 := by kernel_rfl
theorem laws_toFollower.eq (k : Nat) (a0 : Ty.den TFollower) : run (laws_toFollower.E k) Try.f27 [.val TFollower] [TFollower] true false (a0, ()) = laws_toFollower.f k a0 := by
  rw [laws_toFollower.q]
  rfl
theorem laws_toFollower.ctr (k : Nat) : Ctr Try.prog 27 ⟨[.val TFollower], [TFollower], true, false, fun x => laws_toFollower.f k x.1⟩ :=
  run_ctr (E := laws_toFollower.E k) mixed tb_ok (eqOk_of tb_eqs) (Cts.cons (laws_toPieceS.ctr k) Cts.nil) (by kernel_rfl) Try.func27 (by kernel_rfl) rfl (fun ⟨a0, _⟩ r h => (laws_toFollower.eq k a0).trans h)
def laws_toBit.E (k : Nat) : Env := ⟨tb, [], [], k, 0, []⟩
theorem laws_toBit.q (k : Nat) (a0 : Ty.den TBit) : run (laws_toBit.E k) Try.f116 [.val TBit] [TBit] true false (a0, ()) = laws_toBit.t k a0 := by kernel_rfl
theorem laws_toBit.eq (k : Nat) (a0 : Ty.den TBit) : run (laws_toBit.E k) Try.f116 [.val TBit] [TBit] true false (a0, ()) = laws_toBit.f k a0 := by
  rw [laws_toBit.q]
  rfl
theorem laws_toBit.ctr (k : Nat) : Ctr Try.prog 116 ⟨[.val TBit], [TBit], true, false, fun x => laws_toBit.f k x.1⟩ :=
  run_ctr (E := laws_toBit.E k) mixed tb_ok (eqOk_of tb_eqs) Cts.nil (by kernel_rfl) Try.func116 (by kernel_rfl) rfl (fun ⟨a0, _⟩ r h => (laws_toBit.eq k a0).trans h)
def laws_toBitS.E (k : Nat) : Env := ⟨tb, [(116, ⟨[.val TBit], [TBit], true, false, fun x => laws_toBit.f k x.1⟩)], [(3, [0, 3, 4])], k, 0, []⟩
noncomputable def laws_toBitS.K0 (k : Nat) (a0 : List (Ty.den TBit)) : Ex → St → Option ((List (Ty.den TBit)) × Unit) := runK (laws_toBitS.E k) (endK (laws_toBitS.E k) Try.f80.results.toList [.val (.slice TBit)] (a0, ()) [(.slice TBit)] true false) [.blk 0, .code (at_ [true, true, true] (body Try.f80))]
noncomputable def laws_toBitS.B0 (k : Nat) (a0 : List (Ty.den TBit)) (n0 : Nat) : Ex → St → Option ((List (Ty.den TBit)) × Unit) := fun e st => match e with
  | .normal => loopN (exec (laws_toBitS.E k) (at_ [true, true, false, true, false, false] (body Try.f80))) (canon 0 [0, 3, 4]) (laws_toBitS.K0 k a0) n0 (canon 0 [0, 3, 4] st)
  | .ret => laws_toBitS.K0 k a0 .ret st
  | .exit j => laws_toBitS.K0 k a0 (.exit j) st
noncomputable def laws_toBitS.V0 (k : Nat) (a0 : List (Ty.den TBit)) (n0 : Nat) (x0_0 : List (Ty.den TBit)) (x0_1 : Int) (x0_2 : List (Ty.den TBit)) : Option ((List (Ty.den TBit)) × Unit) := loopN (exec (laws_toBitS.E k) (at_ [true, true, false, true, false, false] (body Try.f80))) (canon 0 [0, 3, 4]) (laws_toBitS.K0 k a0) n0 (mk 23 1 [(0, .sl true TBit x0_0), (3, .ref 0), (4, .int .i64 x0_1)] [(0, .own false TBit x0_2)])
theorem laws_toBitS.s0 (k : Nat) (a0 : List (Ty.den TBit)) (n0 : Nat) (x0_0 : List (Ty.den TBit)) (x0_1 : Int) (x0_2 : List (Ty.den TBit)) : laws_toBitS.V0 k a0 (n0 + 1) x0_0 x0_1 x0_2 = laws_toBitS.b0 k (laws_toBitS.V0 k a0 n0) x0_0 x0_1 x0_2 := by kernel_rfl
theorem laws_toBitS.e0 (k : Nat) (a0 : List (Ty.den TBit)) (n0 : Nat) : laws_toBitS.V0 k a0 n0 = laws_toBitS.l0 k n0 := by
  induction n0 with
  | zero => rfl
  | succ n0 ih =>
    have h : laws_toBitS.V0 k a0 (n0 + 1) = laws_toBitS.b0 k (laws_toBitS.V0 k a0 n0) := funext fun x0_0 => funext fun x0_1 => funext fun x0_2 => laws_toBitS.s0 k a0 n0 x0_0 x0_1 x0_2
    rw [h, ih]
    rfl
theorem laws_toBitS.q (k : Nat) (a0 : List (Ty.den TBit)) : run (laws_toBitS.E k) Try.f80 [.val (.slice TBit)] [(.slice TBit)] true false (a0, ()) = laws_toBitS.t k (laws_toBitS.V0 k a0 k) a0 := by kernel_rfl
theorem laws_toBitS.eq (k : Nat) (a0 : List (Ty.den TBit)) : run (laws_toBitS.E k) Try.f80 [.val (.slice TBit)] [(.slice TBit)] true false (a0, ()) = laws_toBitS.f k a0 := by
  rw [laws_toBitS.q, laws_toBitS.e0]
  rfl
theorem laws_toBitS.ctr (k : Nat) : Ctr Try.prog 80 ⟨[.val (.slice TBit)], [(.slice TBit)], true, false, fun x => laws_toBitS.f k x.1⟩ :=
  run_ctr (E := laws_toBitS.E k) mixed tb_ok (eqOk_of tb_eqs) (Cts.cons (laws_toBit.ctr k) Cts.nil) (by kernel_rfl) Try.func80 (by kernel_rfl) rfl (fun ⟨a0, _⟩ r h => (laws_toBitS.eq k a0).trans h)
def laws_toParcel.E (k : Nat) : Env := ⟨tb, [(80, ⟨[.val (.slice TBit)], [(.slice TBit)], true, false, fun x => laws_toBitS.f k x.1⟩)], [], k, 0, []⟩
theorem laws_toParcel.q (k : Nat) (a0 : Ty.den TParcel) : run (laws_toParcel.E k) Try.f22 [.val TParcel] [TParcel] true false (a0, ()) = laws_toParcel.t k a0 := by kernel_rfl
theorem laws_toParcel.eq (k : Nat) (a0 : Ty.den TParcel) : run (laws_toParcel.E k) Try.f22 [.val TParcel] [TParcel] true false (a0, ()) = laws_toParcel.f k a0 := by
  rw [laws_toParcel.q]
  rfl
theorem laws_toParcel.ctr (k : Nat) : Ctr Try.prog 22 ⟨[.val TParcel], [TParcel], true, false, fun x => laws_toParcel.f k x.1⟩ :=
  run_ctr (E := laws_toParcel.E k) mixed tb_ok (eqOk_of tb_eqs) (Cts.cons (laws_toBitS.ctr k) Cts.nil) (by kernel_rfl) Try.func22 (by kernel_rfl) rfl (fun ⟨a0, _⟩ r h => (laws_toParcel.eq k a0).trans h)
def spec_l27Text.E (k : Nat) : Env := ⟨tb, [], [(2, [1, 2, 5])], k, 0, []⟩
noncomputable def spec_l27Text.K0 (k : Nat) (a0 : Ty.den TFollower) (a1 : Int) : Ex → St → Option (ByteArray × Unit) := runK (spec_l27Text.E k) (endK (spec_l27Text.E k) Try.f101.results.toList [.val TFollower, .val (.int .i64)] (a0, a1, ()) [.str] true false) [.blk 0, .code (at_ [true, true] (body Try.f101))]
noncomputable def spec_l27Text.B0 (k : Nat) (a0 : Ty.den TFollower) (a1 : Int) (n0 : Nat) : Ex → St → Option (ByteArray × Unit) := fun e st => match e with
  | .normal => loopN (exec (spec_l27Text.E k) (at_ [true, false, true, false, false] (body Try.f101))) (canon 0 [1, 2, 5]) (spec_l27Text.K0 k a0 a1) n0 (canon 0 [1, 2, 5] st)
  | .ret => spec_l27Text.K0 k a0 a1 .ret st
  | .exit j => spec_l27Text.K0 k a0 a1 (.exit j) st
noncomputable def spec_l27Text.V0 (k : Nat) (a0 : Ty.den TFollower) (a1 : Int) (n0 : Nat) (x0_0 : Int) (x0_1 : Int) (x0_2 : Int) (x0_3 : List (Ty.den TPiece)) : Option (ByteArray × Unit) := loopN (exec (spec_l27Text.E k) (at_ [true, false, true, false, false] (body Try.f101))) (canon 0 [1, 2, 5]) (spec_l27Text.K0 k a0 a1) n0 (mk 27 1 [(1, .int .i64 x0_0), (2, .ptr 0 0 0), (5, .int .i64 x0_1)] [(0, .box [.int .i64 x0_2, .sl true TPiece x0_3])])
theorem spec_l27Text.s0 (k : Nat) (a0 : Ty.den TFollower) (a1 : Int) (n0 : Nat) (x0_0 : Int) (x0_1 : Int) (x0_2 : Int) (x0_3 : List (Ty.den TPiece)) : spec_l27Text.V0 k a0 a1 (n0 + 1) x0_0 x0_1 x0_2 x0_3 = spec_l27Text.b0 k (spec_l27Text.V0 k a0 a1 n0) x0_0 x0_1 x0_2 x0_3 := by kernel_rfl
theorem spec_l27Text.e0 (k : Nat) (a0 : Ty.den TFollower) (a1 : Int) (n0 : Nat) : spec_l27Text.V0 k a0 a1 n0 = spec_l27Text.l0 k n0 := by
  induction n0 with
  | zero => rfl
  | succ n0 ih =>
    have h : spec_l27Text.V0 k a0 a1 (n0 + 1) = spec_l27Text.b0 k (spec_l27Text.V0 k a0 a1 n0) := funext fun x0_0 => funext fun x0_1 => funext fun x0_2 => funext fun x0_3 => spec_l27Text.s0 k a0 a1 n0 x0_0 x0_1 x0_2 x0_3
    rw [h, ih]
    rfl
theorem spec_l27Text.q (k : Nat) (a0 : Ty.den TFollower) (a1 : Int) : run (spec_l27Text.E k) Try.f101 [.val TFollower, .val (.int .i64)] [.str] true false (a0, a1, ()) = spec_l27Text.t k (spec_l27Text.V0 k a0 a1 k) a0 a1 := by kernel_rfl
theorem spec_l27Text.eq (k : Nat) (a0 : Ty.den TFollower) (a1 : Int) : run (spec_l27Text.E k) Try.f101 [.val TFollower, .val (.int .i64)] [.str] true false (a0, a1, ()) = spec_l27Text.f k a0 a1 := by
  rw [spec_l27Text.q, spec_l27Text.e0]
  rfl
theorem spec_l27Text.ctr (k : Nat) : Ctr Try.prog 101 ⟨[.val TFollower, .val (.int .i64)], [.str], true, false, fun x => spec_l27Text.f k x.1 x.2.1⟩ :=
  run_ctr (E := spec_l27Text.E k) mixed tb_ok (eqOk_of tb_eqs) Cts.nil (by kernel_rfl) Try.func101 (by kernel_rfl) rfl (fun ⟨a0, a1, _⟩ r h => (spec_l27Text.eq k a0 a1).trans h)
def spec_l1In.E (k : Nat) : Env := ⟨tb, [], [], k, 0, []⟩
theorem spec_l1In.q (k : Nat) (a0 : Int) (a1 : Int) (a2 : Int) : run (spec_l1In.E k) Try.f74 [.val (.int .i64), .val (.int .i64), .val (.int .i64)] [.bool] true false (a0, a1, a2, ()) = spec_l1In.t k a0 a1 a2 := by kernel_rfl
theorem spec_l1In.eq (k : Nat) (a0 : Int) (a1 : Int) (a2 : Int) : run (spec_l1In.E k) Try.f74 [.val (.int .i64), .val (.int .i64), .val (.int .i64)] [.bool] true false (a0, a1, a2, ()) = spec_l1In.f k a0 a1 a2 := by
  rw [spec_l1In.q]
  rfl
theorem spec_l1In.ctr (k : Nat) : Ctr Try.prog 74 ⟨[.val (.int .i64), .val (.int .i64), .val (.int .i64)], [.bool], true, false, fun x => spec_l1In.f k x.1 x.2.1 x.2.2.1⟩ :=
  run_ctr (E := spec_l1In.E k) mixed tb_ok (eqOk_of tb_eqs) Cts.nil (by kernel_rfl) Try.func74 (by kernel_rfl) rfl (fun ⟨a0, a1, a2, _⟩ r h => (spec_l1In.eq k a0 a1 a2).trans h)
def spec_LiveOk.E (k : Nat) : Env := ⟨tb, [(74, ⟨[.val (.int .i64), .val (.int .i64), .val (.int .i64)], [.bool], true, false, fun x => spec_l1In.f k x.1 x.2.1 x.2.2.1⟩)], [(4, [1, 3])], k, 0, []⟩
noncomputable def spec_LiveOk.K0 (k : Nat) (a0 : Ty.den TLive) : Ex → St → Option (Bool × Unit) := runK (spec_LiveOk.E k) (endK (spec_LiveOk.E k) Try.f102.results.toList [.val TLive] (a0, ()) [.bool] true false) [.blk 0, .code (at_ [true, true, true] (body Try.f102))]
noncomputable def spec_LiveOk.B0 (k : Nat) (a0 : Ty.den TLive) (n0 : Nat) : Ex → St → Option (Bool × Unit) := fun e st => match e with
  | .normal => loopN (exec (spec_LiveOk.E k) (at_ [true, true, false, true, false, false] (body Try.f102))) (canon 0 [1, 3]) (spec_LiveOk.K0 k a0) n0 (canon 0 [1, 3] st)
  | .ret => spec_LiveOk.K0 k a0 .ret st
  | .exit j => spec_LiveOk.K0 k a0 (.exit j) st
noncomputable def spec_LiveOk.V0 (k : Nat) (a0 : Ty.den TLive) (n0 : Nat) (x0_0 : Int) (x0_1 : Int) (x0_2 : List Int) : Option (Bool × Unit) := loopN (exec (spec_LiveOk.E k) (at_ [true, true, false, true, false, false] (body Try.f102))) (canon 0 [1, 3]) (spec_LiveOk.K0 k a0) n0 (mk 50 1 [(1, .ptr 0 0 0), (3, .int .i64 x0_0)] [(0, .box [.int .i64 x0_1, .sl true (.int .i64) x0_2])])
theorem spec_LiveOk.s0 (k : Nat) (a0 : Ty.den TLive) (n0 : Nat) (x0_0 : Int) (x0_1 : Int) (x0_2 : List Int) : spec_LiveOk.V0 k a0 (n0 + 1) x0_0 x0_1 x0_2 = spec_LiveOk.b0 k (spec_LiveOk.V0 k a0 n0) x0_0 x0_1 x0_2 := by kernel_rfl
theorem spec_LiveOk.e0 (k : Nat) (a0 : Ty.den TLive) (n0 : Nat) : spec_LiveOk.V0 k a0 n0 = spec_LiveOk.l0 k n0 := by
  induction n0 with
  | zero => rfl
  | succ n0 ih =>
    have h : spec_LiveOk.V0 k a0 (n0 + 1) = spec_LiveOk.b0 k (spec_LiveOk.V0 k a0 n0) := funext fun x0_0 => funext fun x0_1 => funext fun x0_2 => spec_LiveOk.s0 k a0 n0 x0_0 x0_1 x0_2
    rw [h, ih]
    rfl
theorem spec_LiveOk.q (k : Nat) (a0 : Ty.den TLive) : run (spec_LiveOk.E k) Try.f102 [.val TLive] [.bool] true false (a0, ()) = spec_LiveOk.t k (spec_LiveOk.V0 k a0 k) a0 := by kernel_rfl
theorem spec_LiveOk.eq (k : Nat) (a0 : Ty.den TLive) : run (spec_LiveOk.E k) Try.f102 [.val TLive] [.bool] true false (a0, ()) = spec_LiveOk.f k a0 := by
  rw [spec_LiveOk.q, spec_LiveOk.e0]
  rfl
theorem spec_LiveOk.ctr (k : Nat) : Ctr Try.prog 102 ⟨[.val TLive], [.bool], true, false, fun x => spec_LiveOk.f k x.1⟩ :=
  run_ctr (E := spec_LiveOk.E k) mixed tb_ok (eqOk_of tb_eqs) (Cts.cons (spec_l1In.ctr k) Cts.nil) (by kernel_rfl) Try.func102 (by kernel_rfl) rfl (fun ⟨a0, _⟩ r h => (spec_LiveOk.eq k a0).trans h)
def spec_Receive.E (k : Nat) : Env := ⟨tb, [(101, ⟨[.val TFollower, .val (.int .i64)], [.str], true, false, fun x => spec_l27Text.f k x.1 x.2.1⟩), (74, ⟨[.val (.int .i64), .val (.int .i64), .val (.int .i64)], [.bool], true, false, fun x => spec_l1In.f k x.1 x.2.1 x.2.2.1⟩), (102, ⟨[.val TLive], [.bool], true, false, fun x => spec_LiveOk.f k x.1⟩)], [(5, [2, 3, 4, 6, 7, 8, 9])], k, 0, []⟩
noncomputable def spec_Receive.K0 (k : Nat) (a0 : Ty.den TFollower) (a1 : Ty.den TParcel) : Ex → St → Option ((Ty.den TFollower) × Bool × Unit) := runK (spec_Receive.E k) (endK (spec_Receive.E k) Try.f65.results.toList [.val TFollower, .val TParcel] (a0, a1, ()) [TFollower, .bool] true false) [.blk 0, .code (at_ [true, true, true, true, true] (body Try.f65))]
noncomputable def spec_Receive.B0 (k : Nat) (a0 : Ty.den TFollower) (a1 : Ty.den TParcel) (n0 : Nat) : Ex → St → Option ((Ty.den TFollower) × Bool × Unit) := fun e st => match e with
  | .normal => loopN (exec (spec_Receive.E k) (at_ [true, true, true, true, false, true, false, false] (body Try.f65))) (canon 0 [2, 3, 4, 6, 7, 8, 9]) (spec_Receive.K0 k a0 a1) n0 (canon 0 [2, 3, 4, 6, 7, 8, 9] st)
  | .ret => spec_Receive.K0 k a0 a1 .ret st
  | .exit j => spec_Receive.K0 k a0 a1 (.exit j) st
noncomputable def spec_Receive.V0 (k : Nat) (a0 : Ty.den TFollower) (a1 : Ty.den TParcel) (n0 : Nat) (x0_0 : Int) (x0_1 : Int) (x0_2 : List (Ty.den TPiece)) (x0_3 : Int) (x0_4 : List (Ty.den TBit)) (x0_5 : List (Ty.den TPiece)) (x0_6 : Int) (x0_7 : List (Ty.den TPiece)) (x0_8 : Int) (x0_9 : List (Ty.den TPiece)) (x0_10 : Int) (x0_11 : List Int) : Option ((Ty.den TFollower) × Bool × Unit) := loopN (exec (spec_Receive.E k) (at_ [true, true, true, true, false, true, false, false] (body Try.f65))) (canon 0 [2, 3, 4, 6, 7, 8, 9]) (spec_Receive.K0 k a0 a1) n0 (mk 74 9 [(2, .ptr 0 0 0), (3, .ptr 1 0 0), (4, .ptr 2 0 0), (6, .ptr 4 0 0), (7, .ptr 6 0 0), (8, .ref 8), (9, .int .i64 x0_0)] [(0, .box [.int .i64 x0_1, .sl true TPiece x0_2]), (1, .box [.int .i64 x0_3, .sl true TBit x0_4]), (3, .own false TPiece x0_5), (2, .box [.int .i64 x0_6, .ref 3]), (5, .own false TPiece x0_7), (4, .box [.int .i64 x0_8, .ref 5]), (7, .own false TPiece x0_9), (6, .box [.int .i64 x0_10, .ref 7]), (8, .own false (.int .i64) x0_11)])
theorem spec_Receive.s0 (k : Nat) (a0 : Ty.den TFollower) (a1 : Ty.den TParcel) (n0 : Nat) (x0_0 : Int) (x0_1 : Int) (x0_2 : List (Ty.den TPiece)) (x0_3 : Int) (x0_4 : List (Ty.den TBit)) (x0_5 : List (Ty.den TPiece)) (x0_6 : Int) (x0_7 : List (Ty.den TPiece)) (x0_8 : Int) (x0_9 : List (Ty.den TPiece)) (x0_10 : Int) (x0_11 : List Int) : spec_Receive.V0 k a0 a1 (n0 + 1) x0_0 x0_1 x0_2 x0_3 x0_4 x0_5 x0_6 x0_7 x0_8 x0_9 x0_10 x0_11 = spec_Receive.b0 k (spec_Receive.V0 k a0 a1 n0) x0_0 x0_1 x0_2 x0_3 x0_4 x0_5 x0_6 x0_7 x0_8 x0_9 x0_10 x0_11 := by kernel_rfl
theorem spec_Receive.e0 (k : Nat) (a0 : Ty.den TFollower) (a1 : Ty.den TParcel) (n0 : Nat) : spec_Receive.V0 k a0 a1 n0 = spec_Receive.l0 k n0 := by
  induction n0 with
  | zero => rfl
  | succ n0 ih =>
    have h : spec_Receive.V0 k a0 a1 (n0 + 1) = spec_Receive.b0 k (spec_Receive.V0 k a0 a1 n0) := funext fun x0_0 => funext fun x0_1 => funext fun x0_2 => funext fun x0_3 => funext fun x0_4 => funext fun x0_5 => funext fun x0_6 => funext fun x0_7 => funext fun x0_8 => funext fun x0_9 => funext fun x0_10 => funext fun x0_11 => spec_Receive.s0 k a0 a1 n0 x0_0 x0_1 x0_2 x0_3 x0_4 x0_5 x0_6 x0_7 x0_8 x0_9 x0_10 x0_11
    rw [h, ih]
    rfl
theorem spec_Receive.q (k : Nat) (a0 : Ty.den TFollower) (a1 : Ty.den TParcel) : run (spec_Receive.E k) Try.f65 [.val TFollower, .val TParcel] [TFollower, .bool] true false (a0, a1, ()) = spec_Receive.t k (spec_Receive.V0 k a0 a1 k) a0 a1 := by kernel_rfl
theorem spec_Receive.eq (k : Nat) (a0 : Ty.den TFollower) (a1 : Ty.den TParcel) : run (spec_Receive.E k) Try.f65 [.val TFollower, .val TParcel] [TFollower, .bool] true false (a0, a1, ()) = spec_Receive.f k a0 a1 := by
  rw [spec_Receive.q, spec_Receive.e0]
  rfl
theorem spec_Receive.ctr (k : Nat) : Ctr Try.prog 65 ⟨[.val TFollower, .val TParcel], [TFollower, .bool], true, false, fun x => spec_Receive.f k x.1 x.2.1⟩ :=
  run_ctr (E := spec_Receive.E k) mixed tb_ok (eqOk_of tb_eqs) (Cts.cons (spec_l27Text.ctr k) (Cts.cons (spec_l1In.ctr k) (Cts.cons (spec_LiveOk.ctr k) Cts.nil))) (by kernel_rfl) Try.func65 (by kernel_rfl) rfl (fun ⟨a0, a1, _⟩ r h => (spec_Receive.eq k a0 a1).trans h)
def impl_has.E (k : Nat) : Env := ⟨tb, [], [(2, [1, 8, 9, 10])], k, 0, []⟩
noncomputable def impl_has.K0 (k : Nat) (a0 : Ty.den TFollower) (a1 : Int) : Ex → St → Option (ByteArray × Unit) := runK (impl_has.E k) (endK (impl_has.E k) Try.f103.results.toList [.val TFollower, .val (.int .i64)] (a0, a1, ()) [.str] true false) [.blk 0, .code (at_ [true, true] (body Try.f103))]
noncomputable def impl_has.B0 (k : Nat) (a0 : Ty.den TFollower) (a1 : Int) (n0 : Nat) : Ex → St → Option (ByteArray × Unit) := fun e st => match e with
  | .normal => loopN (exec (impl_has.E k) (at_ [true, false, true, false, false] (body Try.f103))) (canon 0 [1, 8, 9, 10]) (impl_has.K0 k a0 a1) n0 (canon 0 [1, 8, 9, 10] st)
  | .ret => impl_has.K0 k a0 a1 .ret st
  | .exit j => impl_has.K0 k a0 a1 (.exit j) st
noncomputable def impl_has.V0 (k : Nat) (a0 : Ty.den TFollower) (a1 : Int) (n0 : Nat) (x0_0 : Int) (x0_1 : List (Ty.den TPiece)) (x0_2 : Int) (x0_3 : Int) : Option (ByteArray × Unit) := loopN (exec (impl_has.E k) (at_ [true, false, true, false, false] (body Try.f103))) (canon 0 [1, 8, 9, 10]) (impl_has.K0 k a0 a1) n0 (mk 21 0 [(1, .int .i64 x0_0), (8, .sl true TPiece x0_1), (9, .int .i64 x0_2), (10, .int .i64 x0_3)] [])
theorem impl_has.s0 (k : Nat) (a0 : Ty.den TFollower) (a1 : Int) (n0 : Nat) (x0_0 : Int) (x0_1 : List (Ty.den TPiece)) (x0_2 : Int) (x0_3 : Int) : impl_has.V0 k a0 a1 (n0 + 1) x0_0 x0_1 x0_2 x0_3 = impl_has.b0 k (impl_has.V0 k a0 a1 n0) x0_0 x0_1 x0_2 x0_3 := by kernel_rfl
theorem impl_has.e0 (k : Nat) (a0 : Ty.den TFollower) (a1 : Int) (n0 : Nat) : impl_has.V0 k a0 a1 n0 = impl_has.l0 k n0 := by
  induction n0 with
  | zero => rfl
  | succ n0 ih =>
    have h : impl_has.V0 k a0 a1 (n0 + 1) = impl_has.b0 k (impl_has.V0 k a0 a1 n0) := funext fun x0_0 => funext fun x0_1 => funext fun x0_2 => funext fun x0_3 => impl_has.s0 k a0 a1 n0 x0_0 x0_1 x0_2 x0_3
    rw [h, ih]
    rfl
theorem impl_has.q (k : Nat) (a0 : Ty.den TFollower) (a1 : Int) : run (impl_has.E k) Try.f103 [.val TFollower, .val (.int .i64)] [.str] true false (a0, a1, ()) = impl_has.t k (impl_has.V0 k a0 a1 k) a0 a1 := by kernel_rfl
theorem impl_has.eq (k : Nat) (a0 : Ty.den TFollower) (a1 : Int) : run (impl_has.E k) Try.f103 [.val TFollower, .val (.int .i64)] [.str] true false (a0, a1, ()) = impl_has.f k a0 a1 := by
  rw [impl_has.q, impl_has.e0]
  rfl
theorem impl_has.ctr (k : Nat) : Ctr Try.prog 103 ⟨[.val TFollower, .val (.int .i64)], [.str], true, false, fun x => impl_has.f k x.1 x.2.1⟩ :=
  run_ctr (E := impl_has.E k) mixed tb_ok (eqOk_of tb_eqs) Cts.nil (by kernel_rfl) Try.func103 (by kernel_rfl) rfl (fun ⟨a0, a1, _⟩ r h => (impl_has.eq k a0 a1).trans h)
def impl_in.E (k : Nat) : Env := ⟨tb, [], [], k, 0, []⟩
theorem impl_in.q (k : Nat) (a0 : Int) (a1 : Int) (a2 : Int) : run (impl_in.E k) Try.f77 [.val (.int .i64), .val (.int .i64), .val (.int .i64)] [.bool] true false (a0, a1, a2, ()) = impl_in.t k a0 a1 a2 := by kernel_rfl
theorem impl_in.eq (k : Nat) (a0 : Int) (a1 : Int) (a2 : Int) : run (impl_in.E k) Try.f77 [.val (.int .i64), .val (.int .i64), .val (.int .i64)] [.bool] true false (a0, a1, a2, ()) = impl_in.f k a0 a1 a2 := by
  rw [impl_in.q]
  rfl
theorem impl_in.ctr (k : Nat) : Ctr Try.prog 77 ⟨[.val (.int .i64), .val (.int .i64), .val (.int .i64)], [.bool], true, false, fun x => impl_in.f k x.1 x.2.1 x.2.2.1⟩ :=
  run_ctr (E := impl_in.E k) mixed tb_ok (eqOk_of tb_eqs) Cts.nil (by kernel_rfl) Try.func77 (by kernel_rfl) rfl (fun ⟨a0, a1, a2, _⟩ r h => (impl_in.eq k a0 a1 a2).trans h)
def impl_LiveOk.E (k : Nat) : Env := ⟨tb, [(77, ⟨[.val (.int .i64), .val (.int .i64), .val (.int .i64)], [.bool], true, false, fun x => impl_in.f k x.1 x.2.1 x.2.2.1⟩)], [(2, [1, 6, 7, 8])], k, 0, []⟩
noncomputable def impl_LiveOk.K0 (k : Nat) (a0 : Ty.den TLive) : Ex → St → Option (Bool × Unit) := runK (impl_LiveOk.E k) (endK (impl_LiveOk.E k) Try.f104.results.toList [.val TLive] (a0, ()) [.bool] true false) [.blk 0, .code (at_ [true, true] (body Try.f104))]
noncomputable def impl_LiveOk.B0 (k : Nat) (a0 : Ty.den TLive) (n0 : Nat) : Ex → St → Option (Bool × Unit) := fun e st => match e with
  | .normal => loopN (exec (impl_LiveOk.E k) (at_ [true, false, true, false, false] (body Try.f104))) (canon 0 [1, 6, 7, 8]) (impl_LiveOk.K0 k a0) n0 (canon 0 [1, 6, 7, 8] st)
  | .ret => impl_LiveOk.K0 k a0 .ret st
  | .exit j => impl_LiveOk.K0 k a0 (.exit j) st
noncomputable def impl_LiveOk.V0 (k : Nat) (a0 : Ty.den TLive) (n0 : Nat) (x0_0 : List Int) (x0_1 : Int) (x0_2 : Int) (x0_3 : Int) (x0_4 : List Int) : Option (Bool × Unit) := loopN (exec (impl_LiveOk.E k) (at_ [true, false, true, false, false] (body Try.f104))) (canon 0 [1, 6, 7, 8]) (impl_LiveOk.K0 k a0) n0 (mk 43 1 [(1, .ptr 0 0 0), (6, .sl true (.int .i64) x0_0), (7, .int .i64 x0_1), (8, .int .i64 x0_2)] [(0, .box [.int .i64 x0_3, .sl true (.int .i64) x0_4])])
theorem impl_LiveOk.s0 (k : Nat) (a0 : Ty.den TLive) (n0 : Nat) (x0_0 : List Int) (x0_1 : Int) (x0_2 : Int) (x0_3 : Int) (x0_4 : List Int) : impl_LiveOk.V0 k a0 (n0 + 1) x0_0 x0_1 x0_2 x0_3 x0_4 = impl_LiveOk.b0 k (impl_LiveOk.V0 k a0 n0) x0_0 x0_1 x0_2 x0_3 x0_4 := by kernel_rfl
theorem impl_LiveOk.e0 (k : Nat) (a0 : Ty.den TLive) (n0 : Nat) : impl_LiveOk.V0 k a0 n0 = impl_LiveOk.l0 k n0 := by
  induction n0 with
  | zero => rfl
  | succ n0 ih =>
    have h : impl_LiveOk.V0 k a0 (n0 + 1) = impl_LiveOk.b0 k (impl_LiveOk.V0 k a0 n0) := funext fun x0_0 => funext fun x0_1 => funext fun x0_2 => funext fun x0_3 => funext fun x0_4 => impl_LiveOk.s0 k a0 n0 x0_0 x0_1 x0_2 x0_3 x0_4
    rw [h, ih]
    rfl
theorem impl_LiveOk.q (k : Nat) (a0 : Ty.den TLive) : run (impl_LiveOk.E k) Try.f104 [.val TLive] [.bool] true false (a0, ()) = impl_LiveOk.t k (impl_LiveOk.V0 k a0 k) a0 := by kernel_rfl
theorem impl_LiveOk.eq (k : Nat) (a0 : Ty.den TLive) : run (impl_LiveOk.E k) Try.f104 [.val TLive] [.bool] true false (a0, ()) = impl_LiveOk.f k a0 := by
  rw [impl_LiveOk.q, impl_LiveOk.e0]
  rfl
theorem impl_LiveOk.ctr (k : Nat) : Ctr Try.prog 104 ⟨[.val TLive], [.bool], true, false, fun x => impl_LiveOk.f k x.1⟩ :=
  run_ctr (E := impl_LiveOk.E k) mixed tb_ok (eqOk_of tb_eqs) (Cts.cons (impl_in.ctr k) Cts.nil) (by kernel_rfl) Try.func104 (by kernel_rfl) rfl (fun ⟨a0, _⟩ r h => (impl_LiveOk.eq k a0).trans h)
def impl_Receive.E (k : Nat) : Env := ⟨tb, [(103, ⟨[.val TFollower, .val (.int .i64)], [.str], true, false, fun x => impl_has.f k x.1 x.2.1⟩), (77, ⟨[.val (.int .i64), .val (.int .i64), .val (.int .i64)], [.bool], true, false, fun x => impl_in.f k x.1 x.2.1 x.2.2.1⟩), (104, ⟨[.val TLive], [.bool], true, false, fun x => impl_LiveOk.f k x.1⟩)], [(5, [2, 4, 6, 7, 8, 25, 26, 27])], k, 0, []⟩
noncomputable def impl_Receive.K0 (k : Nat) (a0 : Ty.den TFollower) (a1 : Ty.den TParcel) : Ex → St → Option ((Ty.den TFollower) × Bool × Unit) := runK (impl_Receive.E k) (endK (impl_Receive.E k) Try.f66.results.toList [.val TFollower, .val TParcel] (a0, a1, ()) [TFollower, .bool] true false) [.blk 0, .code (at_ [true, true, true, true, true] (body Try.f66))]
noncomputable def impl_Receive.B0 (k : Nat) (a0 : Ty.den TFollower) (a1 : Ty.den TParcel) (n0 : Nat) : Ex → St → Option ((Ty.den TFollower) × Bool × Unit) := fun e st => match e with
  | .normal => loopN (exec (impl_Receive.E k) (at_ [true, true, true, true, false, true, false, false] (body Try.f66))) (canon 0 [2, 4, 6, 7, 8, 25, 26, 27]) (impl_Receive.K0 k a0 a1) n0 (canon 0 [2, 4, 6, 7, 8, 25, 26, 27] st)
  | .ret => impl_Receive.K0 k a0 a1 .ret st
  | .exit j => impl_Receive.K0 k a0 a1 (.exit j) st
noncomputable def impl_Receive.V0 (k : Nat) (a0 : Ty.den TFollower) (a1 : Ty.den TParcel) (n0 : Nat) (x0_0 : List (Ty.den TBit)) (x0_1 : Int) (x0_2 : Int) (x0_3 : Int) (x0_4 : List (Ty.den TPiece)) (x0_5 : List (Ty.den TPiece)) (x0_6 : Int) (x0_7 : List (Ty.den TPiece)) (x0_8 : Int) (x0_9 : List (Ty.den TPiece)) (x0_10 : Int) (x0_11 : List Int) (x0_12 : Int) : Option ((Ty.den TFollower) × Bool × Unit) := loopN (exec (impl_Receive.E k) (at_ [true, true, true, true, false, true, false, false] (body Try.f66))) (canon 0 [2, 4, 6, 7, 8, 25, 26, 27]) (impl_Receive.K0 k a0 a1) n0 (mk 70 9 [(2, .ptr 0 0 0), (4, .ptr 1 0 0), (6, .ptr 3 0 0), (7, .ptr 5 0 0), (8, .ptr 7 0 0), (25, .sl true TBit x0_0), (26, .int .i64 x0_1), (27, .int .i64 x0_2)] [(0, .box [.int .i64 x0_3, .sl true TPiece x0_4]), (2, .own false TPiece x0_5), (1, .box [.int .i64 x0_6, .ref 2]), (4, .own false TPiece x0_7), (3, .box [.int .i64 x0_8, .ref 4]), (6, .own false TPiece x0_9), (5, .box [.int .i64 x0_10, .ref 6]), (8, .own false (.int .i64) x0_11), (7, .box [.int .i64 x0_12, .ref 8])])
theorem impl_Receive.s0 (k : Nat) (a0 : Ty.den TFollower) (a1 : Ty.den TParcel) (n0 : Nat) (x0_0 : List (Ty.den TBit)) (x0_1 : Int) (x0_2 : Int) (x0_3 : Int) (x0_4 : List (Ty.den TPiece)) (x0_5 : List (Ty.den TPiece)) (x0_6 : Int) (x0_7 : List (Ty.den TPiece)) (x0_8 : Int) (x0_9 : List (Ty.den TPiece)) (x0_10 : Int) (x0_11 : List Int) (x0_12 : Int) : impl_Receive.V0 k a0 a1 (n0 + 1) x0_0 x0_1 x0_2 x0_3 x0_4 x0_5 x0_6 x0_7 x0_8 x0_9 x0_10 x0_11 x0_12 = impl_Receive.b0 k (impl_Receive.V0 k a0 a1 n0) x0_0 x0_1 x0_2 x0_3 x0_4 x0_5 x0_6 x0_7 x0_8 x0_9 x0_10 x0_11 x0_12 := by kernel_rfl
theorem impl_Receive.e0 (k : Nat) (a0 : Ty.den TFollower) (a1 : Ty.den TParcel) (n0 : Nat) : impl_Receive.V0 k a0 a1 n0 = impl_Receive.l0 k n0 := by
  induction n0 with
  | zero => rfl
  | succ n0 ih =>
    have h : impl_Receive.V0 k a0 a1 (n0 + 1) = impl_Receive.b0 k (impl_Receive.V0 k a0 a1 n0) := funext fun x0_0 => funext fun x0_1 => funext fun x0_2 => funext fun x0_3 => funext fun x0_4 => funext fun x0_5 => funext fun x0_6 => funext fun x0_7 => funext fun x0_8 => funext fun x0_9 => funext fun x0_10 => funext fun x0_11 => funext fun x0_12 => impl_Receive.s0 k a0 a1 n0 x0_0 x0_1 x0_2 x0_3 x0_4 x0_5 x0_6 x0_7 x0_8 x0_9 x0_10 x0_11 x0_12
    rw [h, ih]
    rfl
theorem impl_Receive.q (k : Nat) (a0 : Ty.den TFollower) (a1 : Ty.den TParcel) : run (impl_Receive.E k) Try.f66 [.val TFollower, .val TParcel] [TFollower, .bool] true false (a0, a1, ()) = impl_Receive.t k (impl_Receive.V0 k a0 a1 k) a0 a1 := by kernel_rfl
theorem impl_Receive.eq (k : Nat) (a0 : Ty.den TFollower) (a1 : Ty.den TParcel) : run (impl_Receive.E k) Try.f66 [.val TFollower, .val TParcel] [TFollower, .bool] true false (a0, a1, ()) = impl_Receive.f k a0 a1 := by
  rw [impl_Receive.q, impl_Receive.e0]
  rfl
theorem impl_Receive.ctr (k : Nat) : Ctr Try.prog 66 ⟨[.val TFollower, .val TParcel], [TFollower, .bool], true, false, fun x => impl_Receive.f k x.1 x.2.1⟩ :=
  run_ctr (E := impl_Receive.E k) mixed tb_ok (eqOk_of tb_eqs) (Cts.cons (impl_has.ctr k) (Cts.cons (impl_in.ctr k) (Cts.cons (impl_LiveOk.ctr k) Cts.nil))) (by kernel_rfl) Try.func66 (by kernel_rfl) rfl (fun ⟨a0, a1, _⟩ r h => (impl_Receive.eq k a0 a1).trans h)
def laws_eqPiece.E (k : Nat) : Env := ⟨tb, [], [], k, 0, []⟩
theorem laws_eqPiece.q (k : Nat) (a0 : Ty.den TPiece) (a1 : Ty.den TPiece) : run (laws_eqPiece.E k) Try.f120 [.val TPiece, .val TPiece] [.bool] true false (a0, a1, ()) = laws_eqPiece.t k a0 a1 := by kernel_rfl
theorem laws_eqPiece.eq (k : Nat) (a0 : Ty.den TPiece) (a1 : Ty.den TPiece) : run (laws_eqPiece.E k) Try.f120 [.val TPiece, .val TPiece] [.bool] true false (a0, a1, ()) = laws_eqPiece.f k a0 a1 := by
  rw [laws_eqPiece.q]
  rfl
theorem laws_eqPiece.ctr (k : Nat) : Ctr Try.prog 120 ⟨[.val TPiece, .val TPiece], [.bool], true, false, fun x => laws_eqPiece.f k x.1 x.2.1⟩ :=
  run_ctr (E := laws_eqPiece.E k) mixed tb_ok (eqOk_of tb_eqs) Cts.nil (by kernel_rfl) Try.func120 (by kernel_rfl) rfl (fun ⟨a0, a1, _⟩ r h => (laws_eqPiece.eq k a0 a1).trans h)
def laws_eqPieceS.E (k : Nat) : Env := ⟨tb, [(120, ⟨[.val TPiece, .val TPiece], [.bool], true, false, fun x => laws_eqPiece.f k x.1 x.2.1⟩)], [(4, [0, 1, 5])], k, 0, []⟩
noncomputable def laws_eqPieceS.K0 (k : Nat) (a0 : List (Ty.den TPiece)) (a1 : List (Ty.den TPiece)) : Ex → St → Option (Bool × Unit) := runK (laws_eqPieceS.E k) (endK (laws_eqPieceS.E k) Try.f84.results.toList [.val (.slice TPiece), .val (.slice TPiece)] (a0, a1, ()) [.bool] true false) [.blk 0, .code (at_ [true, true, true] (body Try.f84))]
noncomputable def laws_eqPieceS.B0 (k : Nat) (a0 : List (Ty.den TPiece)) (a1 : List (Ty.den TPiece)) (n0 : Nat) : Ex → St → Option (Bool × Unit) := fun e st => match e with
  | .normal => loopN (exec (laws_eqPieceS.E k) (at_ [true, true, false, true, false, false] (body Try.f84))) (canon 0 [0, 1, 5]) (laws_eqPieceS.K0 k a0 a1) n0 (canon 0 [0, 1, 5] st)
  | .ret => laws_eqPieceS.K0 k a0 a1 .ret st
  | .exit j => laws_eqPieceS.K0 k a0 a1 (.exit j) st
noncomputable def laws_eqPieceS.V0 (k : Nat) (a0 : List (Ty.den TPiece)) (a1 : List (Ty.den TPiece)) (n0 : Nat) (x0_0 : List (Ty.den TPiece)) (x0_1 : List (Ty.den TPiece)) (x0_2 : Int) : Option (Bool × Unit) := loopN (exec (laws_eqPieceS.E k) (at_ [true, true, false, true, false, false] (body Try.f84))) (canon 0 [0, 1, 5]) (laws_eqPieceS.K0 k a0 a1) n0 (mk 27 0 [(0, .sl true TPiece x0_0), (1, .sl true TPiece x0_1), (5, .int .i64 x0_2)] [])
theorem laws_eqPieceS.s0 (k : Nat) (a0 : List (Ty.den TPiece)) (a1 : List (Ty.den TPiece)) (n0 : Nat) (x0_0 : List (Ty.den TPiece)) (x0_1 : List (Ty.den TPiece)) (x0_2 : Int) : laws_eqPieceS.V0 k a0 a1 (n0 + 1) x0_0 x0_1 x0_2 = laws_eqPieceS.b0 k (laws_eqPieceS.V0 k a0 a1 n0) x0_0 x0_1 x0_2 := by kernel_rfl
theorem laws_eqPieceS.e0 (k : Nat) (a0 : List (Ty.den TPiece)) (a1 : List (Ty.den TPiece)) (n0 : Nat) : laws_eqPieceS.V0 k a0 a1 n0 = laws_eqPieceS.l0 k n0 := by
  induction n0 with
  | zero => rfl
  | succ n0 ih =>
    have h : laws_eqPieceS.V0 k a0 a1 (n0 + 1) = laws_eqPieceS.b0 k (laws_eqPieceS.V0 k a0 a1 n0) := funext fun x0_0 => funext fun x0_1 => funext fun x0_2 => laws_eqPieceS.s0 k a0 a1 n0 x0_0 x0_1 x0_2
    rw [h, ih]
    rfl
theorem laws_eqPieceS.q (k : Nat) (a0 : List (Ty.den TPiece)) (a1 : List (Ty.den TPiece)) : run (laws_eqPieceS.E k) Try.f84 [.val (.slice TPiece), .val (.slice TPiece)] [.bool] true false (a0, a1, ()) = laws_eqPieceS.t k (laws_eqPieceS.V0 k a0 a1 k) a0 a1 := by kernel_rfl
theorem laws_eqPieceS.eq (k : Nat) (a0 : List (Ty.den TPiece)) (a1 : List (Ty.den TPiece)) : run (laws_eqPieceS.E k) Try.f84 [.val (.slice TPiece), .val (.slice TPiece)] [.bool] true false (a0, a1, ()) = laws_eqPieceS.f k a0 a1 := by
  rw [laws_eqPieceS.q, laws_eqPieceS.e0]
  rfl
theorem laws_eqPieceS.ctr (k : Nat) : Ctr Try.prog 84 ⟨[.val (.slice TPiece), .val (.slice TPiece)], [.bool], true, false, fun x => laws_eqPieceS.f k x.1 x.2.1⟩ :=
  run_ctr (E := laws_eqPieceS.E k) mixed tb_ok (eqOk_of tb_eqs) (Cts.cons (laws_eqPiece.ctr k) Cts.nil) (by kernel_rfl) Try.func84 (by kernel_rfl) rfl (fun ⟨a0, a1, _⟩ r h => (laws_eqPieceS.eq k a0 a1).trans h)
def laws_eqFollower.E (k : Nat) : Env := ⟨tb, [(84, ⟨[.val (.slice TPiece), .val (.slice TPiece)], [.bool], true, false, fun x => laws_eqPieceS.f k x.1 x.2.1⟩)], [], k, 0, []⟩
theorem laws_eqFollower.q (k : Nat) (a0 : Ty.den TFollower) (a1 : Ty.den TFollower) : run (laws_eqFollower.E k) Try.f29 [.val TFollower, .val TFollower] [.bool] true false (a0, a1, ()) = laws_eqFollower.t k a0 a1 := by kernel_rfl
theorem laws_eqFollower.eq (k : Nat) (a0 : Ty.den TFollower) (a1 : Ty.den TFollower) : run (laws_eqFollower.E k) Try.f29 [.val TFollower, .val TFollower] [.bool] true false (a0, a1, ()) = laws_eqFollower.f k a0 a1 := by
  rw [laws_eqFollower.q]
  rfl
theorem laws_eqFollower.ctr (k : Nat) : Ctr Try.prog 29 ⟨[.val TFollower, .val TFollower], [.bool], true, false, fun x => laws_eqFollower.f k x.1 x.2.1⟩ :=
  run_ctr (E := laws_eqFollower.E k) mixed tb_ok (eqOk_of tb_eqs) (Cts.cons (laws_eqPieceS.ctr k) Cts.nil) (by kernel_rfl) Try.func29 (by kernel_rfl) rfl (fun ⟨a0, a1, _⟩ r h => (laws_eqFollower.eq k a0 a1).trans h)
def laws_eqBit.E (k : Nat) : Env := ⟨tb, [], [], k, 0, []⟩
theorem laws_eqBit.q (k : Nat) (a0 : Ty.den TBit) (a1 : Ty.den TBit) : run (laws_eqBit.E k) Try.f117 [.val TBit, .val TBit] [.bool] true false (a0, a1, ()) = laws_eqBit.t k a0 a1 := by kernel_rfl
theorem laws_eqBit.eq (k : Nat) (a0 : Ty.den TBit) (a1 : Ty.den TBit) : run (laws_eqBit.E k) Try.f117 [.val TBit, .val TBit] [.bool] true false (a0, a1, ()) = laws_eqBit.f k a0 a1 := by
  rw [laws_eqBit.q]
  rfl
theorem laws_eqBit.ctr (k : Nat) : Ctr Try.prog 117 ⟨[.val TBit, .val TBit], [.bool], true, false, fun x => laws_eqBit.f k x.1 x.2.1⟩ :=
  run_ctr (E := laws_eqBit.E k) mixed tb_ok (eqOk_of tb_eqs) Cts.nil (by kernel_rfl) Try.func117 (by kernel_rfl) rfl (fun ⟨a0, a1, _⟩ r h => (laws_eqBit.eq k a0 a1).trans h)
def laws_eqBitS.E (k : Nat) : Env := ⟨tb, [(117, ⟨[.val TBit, .val TBit], [.bool], true, false, fun x => laws_eqBit.f k x.1 x.2.1⟩)], [(4, [0, 1, 5])], k, 0, []⟩
noncomputable def laws_eqBitS.K0 (k : Nat) (a0 : List (Ty.den TBit)) (a1 : List (Ty.den TBit)) : Ex → St → Option (Bool × Unit) := runK (laws_eqBitS.E k) (endK (laws_eqBitS.E k) Try.f81.results.toList [.val (.slice TBit), .val (.slice TBit)] (a0, a1, ()) [.bool] true false) [.blk 0, .code (at_ [true, true, true] (body Try.f81))]
noncomputable def laws_eqBitS.B0 (k : Nat) (a0 : List (Ty.den TBit)) (a1 : List (Ty.den TBit)) (n0 : Nat) : Ex → St → Option (Bool × Unit) := fun e st => match e with
  | .normal => loopN (exec (laws_eqBitS.E k) (at_ [true, true, false, true, false, false] (body Try.f81))) (canon 0 [0, 1, 5]) (laws_eqBitS.K0 k a0 a1) n0 (canon 0 [0, 1, 5] st)
  | .ret => laws_eqBitS.K0 k a0 a1 .ret st
  | .exit j => laws_eqBitS.K0 k a0 a1 (.exit j) st
noncomputable def laws_eqBitS.V0 (k : Nat) (a0 : List (Ty.den TBit)) (a1 : List (Ty.den TBit)) (n0 : Nat) (x0_0 : List (Ty.den TBit)) (x0_1 : List (Ty.den TBit)) (x0_2 : Int) : Option (Bool × Unit) := loopN (exec (laws_eqBitS.E k) (at_ [true, true, false, true, false, false] (body Try.f81))) (canon 0 [0, 1, 5]) (laws_eqBitS.K0 k a0 a1) n0 (mk 27 0 [(0, .sl true TBit x0_0), (1, .sl true TBit x0_1), (5, .int .i64 x0_2)] [])
theorem laws_eqBitS.s0 (k : Nat) (a0 : List (Ty.den TBit)) (a1 : List (Ty.den TBit)) (n0 : Nat) (x0_0 : List (Ty.den TBit)) (x0_1 : List (Ty.den TBit)) (x0_2 : Int) : laws_eqBitS.V0 k a0 a1 (n0 + 1) x0_0 x0_1 x0_2 = laws_eqBitS.b0 k (laws_eqBitS.V0 k a0 a1 n0) x0_0 x0_1 x0_2 := by kernel_rfl
theorem laws_eqBitS.e0 (k : Nat) (a0 : List (Ty.den TBit)) (a1 : List (Ty.den TBit)) (n0 : Nat) : laws_eqBitS.V0 k a0 a1 n0 = laws_eqBitS.l0 k n0 := by
  induction n0 with
  | zero => rfl
  | succ n0 ih =>
    have h : laws_eqBitS.V0 k a0 a1 (n0 + 1) = laws_eqBitS.b0 k (laws_eqBitS.V0 k a0 a1 n0) := funext fun x0_0 => funext fun x0_1 => funext fun x0_2 => laws_eqBitS.s0 k a0 a1 n0 x0_0 x0_1 x0_2
    rw [h, ih]
    rfl
theorem laws_eqBitS.q (k : Nat) (a0 : List (Ty.den TBit)) (a1 : List (Ty.den TBit)) : run (laws_eqBitS.E k) Try.f81 [.val (.slice TBit), .val (.slice TBit)] [.bool] true false (a0, a1, ()) = laws_eqBitS.t k (laws_eqBitS.V0 k a0 a1 k) a0 a1 := by kernel_rfl
theorem laws_eqBitS.eq (k : Nat) (a0 : List (Ty.den TBit)) (a1 : List (Ty.den TBit)) : run (laws_eqBitS.E k) Try.f81 [.val (.slice TBit), .val (.slice TBit)] [.bool] true false (a0, a1, ()) = laws_eqBitS.f k a0 a1 := by
  rw [laws_eqBitS.q, laws_eqBitS.e0]
  rfl
theorem laws_eqBitS.ctr (k : Nat) : Ctr Try.prog 81 ⟨[.val (.slice TBit), .val (.slice TBit)], [.bool], true, false, fun x => laws_eqBitS.f k x.1 x.2.1⟩ :=
  run_ctr (E := laws_eqBitS.E k) mixed tb_ok (eqOk_of tb_eqs) (Cts.cons (laws_eqBit.ctr k) Cts.nil) (by kernel_rfl) Try.func81 (by kernel_rfl) rfl (fun ⟨a0, a1, _⟩ r h => (laws_eqBitS.eq k a0 a1).trans h)
def laws_eqParcel.E (k : Nat) : Env := ⟨tb, [(81, ⟨[.val (.slice TBit), .val (.slice TBit)], [.bool], true, false, fun x => laws_eqBitS.f k x.1 x.2.1⟩)], [], k, 0, []⟩
theorem laws_eqParcel.q (k : Nat) (a0 : Ty.den TParcel) (a1 : Ty.den TParcel) : run (laws_eqParcel.E k) Try.f24 [.val TParcel, .val TParcel] [.bool] true false (a0, a1, ()) = laws_eqParcel.t k a0 a1 := by kernel_rfl
theorem laws_eqParcel.eq (k : Nat) (a0 : Ty.den TParcel) (a1 : Ty.den TParcel) : run (laws_eqParcel.E k) Try.f24 [.val TParcel, .val TParcel] [.bool] true false (a0, a1, ()) = laws_eqParcel.f k a0 a1 := by
  rw [laws_eqParcel.q]
  rfl
theorem laws_eqParcel.ctr (k : Nat) : Ctr Try.prog 24 ⟨[.val TParcel, .val TParcel], [.bool], true, false, fun x => laws_eqParcel.f k x.1 x.2.1⟩ :=
  run_ctr (E := laws_eqParcel.E k) mixed tb_ok (eqOk_of tb_eqs) (Cts.cons (laws_eqBitS.ctr k) Cts.nil) (by kernel_rfl) Try.func24 (by kernel_rfl) rfl (fun ⟨a0, a1, _⟩ r h => (laws_eqParcel.eq k a0 a1).trans h)
def laws_markPieceS.E (k : Nat) : Env := ⟨tb, [(94, ⟨[.val (.int .i64)], [.str], true, false, fun x => laws_markText.f k x.1⟩)], [(2, [0, 1, 5])], k, 1, []⟩
noncomputable def laws_markPieceS.K0 (k : Nat) (a0 : List (Ty.den TPiece)) (a1 : Int) : Ex → St → Option ((List (Ty.den TPiece)) × Int × Unit) := runK (laws_markPieceS.E k) (endK (laws_markPieceS.E k) Try.f105.results.toList [.lend (.slice TPiece), .val (.int .i64)] (a0, a1, ()) [(.int .i64)] true false) [.blk 0, .code (at_ [true, true] (body Try.f105))]
noncomputable def laws_markPieceS.B0 (k : Nat) (a0 : List (Ty.den TPiece)) (a1 : Int) (n0 : Nat) : Ex → St → Option ((List (Ty.den TPiece)) × Int × Unit) := fun e st => match e with
  | .normal => loopN (exec (laws_markPieceS.E k) (at_ [true, false, true, false, false] (body Try.f105))) (canon 1 [0, 1, 5]) (laws_markPieceS.K0 k a0 a1) n0 (canon 1 [0, 1, 5] st)
  | .ret => laws_markPieceS.K0 k a0 a1 .ret st
  | .exit j => laws_markPieceS.K0 k a0 a1 (.exit j) st
noncomputable def laws_markPieceS.V0 (k : Nat) (a0 : List (Ty.den TPiece)) (a1 : Int) (n0 : Nat) (x0_0 : Int) (x0_1 : Int) (x0_2 : List (Ty.den TPiece)) : Option ((List (Ty.den TPiece)) × Int × Unit) := loopN (exec (laws_markPieceS.E k) (at_ [true, false, true, false, false] (body Try.f105))) (canon 1 [0, 1, 5]) (laws_markPieceS.K0 k a0 a1) n0 (mk 28 1 [(0, .ref 0), (1, .int .i64 x0_0), (5, .int .i64 x0_1)] [(0, .own false TPiece x0_2)])
theorem laws_markPieceS.s0 (k : Nat) (a0 : List (Ty.den TPiece)) (a1 : Int) (n0 : Nat) (x0_0 : Int) (x0_1 : Int) (x0_2 : List (Ty.den TPiece)) : laws_markPieceS.V0 k a0 a1 (n0 + 1) x0_0 x0_1 x0_2 = laws_markPieceS.b0 k a0 a1 (laws_markPieceS.V0 k a0 a1 n0) x0_0 x0_1 x0_2 := by kernel_rfl
theorem laws_markPieceS.e0 (k : Nat) (a0 : List (Ty.den TPiece)) (a1 : Int) (n0 : Nat) : laws_markPieceS.V0 k a0 a1 n0 = laws_markPieceS.l0 k a0 a1 n0 := by
  induction n0 with
  | zero => rfl
  | succ n0 ih =>
    have h : laws_markPieceS.V0 k a0 a1 (n0 + 1) = laws_markPieceS.b0 k a0 a1 (laws_markPieceS.V0 k a0 a1 n0) := funext fun x0_0 => funext fun x0_1 => funext fun x0_2 => laws_markPieceS.s0 k a0 a1 n0 x0_0 x0_1 x0_2
    rw [h, ih]
    rfl
theorem laws_markPieceS.q (k : Nat) (a0 : List (Ty.den TPiece)) (a1 : Int) : run (laws_markPieceS.E k) Try.f105 [.lend (.slice TPiece), .val (.int .i64)] [(.int .i64)] true false (a0, a1, ()) = laws_markPieceS.t k (laws_markPieceS.V0 k a0 a1 k) a0 a1 := by kernel_rfl
theorem laws_markPieceS.eq (k : Nat) (a0 : List (Ty.den TPiece)) (a1 : Int) : run (laws_markPieceS.E k) Try.f105 [.lend (.slice TPiece), .val (.int .i64)] [(.int .i64)] true false (a0, a1, ()) = laws_markPieceS.f k a0 a1 := by
  rw [laws_markPieceS.q, laws_markPieceS.e0]
  rfl
theorem laws_markPieceS.ctr (k : Nat) : Ctr Try.prog 105 ⟨[.lend (.slice TPiece), .val (.int .i64)], [(.int .i64)], true, false, fun x => laws_markPieceS.f k x.1 x.2.1⟩ :=
  run_ctr (E := laws_markPieceS.E k) mixed tb_ok (eqOk_of tb_eqs) (Cts.cons (laws_markText.ctr k) Cts.nil) (by kernel_rfl) Try.func105 (by kernel_rfl) rfl (fun ⟨a0, a1, _⟩ r h => (laws_markPieceS.eq k a0 a1).trans h)
def laws_markFollower.E (k : Nat) : Env := ⟨tb, [(105, ⟨[.lend (.slice TPiece), .val (.int .i64)], [(.int .i64)], true, false, fun x => laws_markPieceS.f k x.1 x.2.1⟩)], [], k, 1, []⟩
theorem laws_markFollower.q (k : Nat) (a0 : Ty.den TFollower) (a1 : Int) : run (laws_markFollower.E k) Try.f67 [.lend TFollower, .val (.int .i64)] [(.int .i64)] true false (a0, a1, ()) = laws_markFollower.t k a0 a1 := by kernel_rfl
theorem laws_markFollower.eq (k : Nat) (a0 : Ty.den TFollower) (a1 : Int) : run (laws_markFollower.E k) Try.f67 [.lend TFollower, .val (.int .i64)] [(.int .i64)] true false (a0, a1, ()) = laws_markFollower.f k a0 a1 := by
  rw [laws_markFollower.q]
  rfl
theorem laws_markFollower.ctr (k : Nat) : Ctr Try.prog 67 ⟨[.lend TFollower, .val (.int .i64)], [(.int .i64)], true, false, fun x => laws_markFollower.f k x.1 x.2.1⟩ :=
  run_ctr (E := laws_markFollower.E k) mixed tb_ok (eqOk_of tb_eqs) (Cts.cons (laws_markPieceS.ctr k) Cts.nil) (by kernel_rfl) Try.func67 (by kernel_rfl) rfl (fun ⟨a0, a1, _⟩ r h => (laws_markFollower.eq k a0 a1).trans h)
def laws_markBitS.E (k : Nat) : Env := ⟨tb, [(94, ⟨[.val (.int .i64)], [.str], true, false, fun x => laws_markText.f k x.1⟩)], [(2, [0, 1, 5])], k, 1, []⟩
noncomputable def laws_markBitS.K0 (k : Nat) (a0 : List (Ty.den TBit)) (a1 : Int) : Ex → St → Option ((List (Ty.den TBit)) × Int × Unit) := runK (laws_markBitS.E k) (endK (laws_markBitS.E k) Try.f106.results.toList [.lend (.slice TBit), .val (.int .i64)] (a0, a1, ()) [(.int .i64)] true false) [.blk 0, .code (at_ [true, true] (body Try.f106))]
noncomputable def laws_markBitS.B0 (k : Nat) (a0 : List (Ty.den TBit)) (a1 : Int) (n0 : Nat) : Ex → St → Option ((List (Ty.den TBit)) × Int × Unit) := fun e st => match e with
  | .normal => loopN (exec (laws_markBitS.E k) (at_ [true, false, true, false, false] (body Try.f106))) (canon 1 [0, 1, 5]) (laws_markBitS.K0 k a0 a1) n0 (canon 1 [0, 1, 5] st)
  | .ret => laws_markBitS.K0 k a0 a1 .ret st
  | .exit j => laws_markBitS.K0 k a0 a1 (.exit j) st
noncomputable def laws_markBitS.V0 (k : Nat) (a0 : List (Ty.den TBit)) (a1 : Int) (n0 : Nat) (x0_0 : Int) (x0_1 : Int) (x0_2 : List (Ty.den TBit)) : Option ((List (Ty.den TBit)) × Int × Unit) := loopN (exec (laws_markBitS.E k) (at_ [true, false, true, false, false] (body Try.f106))) (canon 1 [0, 1, 5]) (laws_markBitS.K0 k a0 a1) n0 (mk 35 1 [(0, .ref 0), (1, .int .i64 x0_0), (5, .int .i64 x0_1)] [(0, .own false TBit x0_2)])
theorem laws_markBitS.s0 (k : Nat) (a0 : List (Ty.den TBit)) (a1 : Int) (n0 : Nat) (x0_0 : Int) (x0_1 : Int) (x0_2 : List (Ty.den TBit)) : laws_markBitS.V0 k a0 a1 (n0 + 1) x0_0 x0_1 x0_2 = laws_markBitS.b0 k a0 a1 (laws_markBitS.V0 k a0 a1 n0) x0_0 x0_1 x0_2 := by kernel_rfl
theorem laws_markBitS.e0 (k : Nat) (a0 : List (Ty.den TBit)) (a1 : Int) (n0 : Nat) : laws_markBitS.V0 k a0 a1 n0 = laws_markBitS.l0 k a0 a1 n0 := by
  induction n0 with
  | zero => rfl
  | succ n0 ih =>
    have h : laws_markBitS.V0 k a0 a1 (n0 + 1) = laws_markBitS.b0 k a0 a1 (laws_markBitS.V0 k a0 a1 n0) := funext fun x0_0 => funext fun x0_1 => funext fun x0_2 => laws_markBitS.s0 k a0 a1 n0 x0_0 x0_1 x0_2
    rw [h, ih]
    rfl
theorem laws_markBitS.q (k : Nat) (a0 : List (Ty.den TBit)) (a1 : Int) : run (laws_markBitS.E k) Try.f106 [.lend (.slice TBit), .val (.int .i64)] [(.int .i64)] true false (a0, a1, ()) = laws_markBitS.t k (laws_markBitS.V0 k a0 a1 k) a0 a1 := by kernel_rfl
theorem laws_markBitS.eq (k : Nat) (a0 : List (Ty.den TBit)) (a1 : Int) : run (laws_markBitS.E k) Try.f106 [.lend (.slice TBit), .val (.int .i64)] [(.int .i64)] true false (a0, a1, ()) = laws_markBitS.f k a0 a1 := by
  rw [laws_markBitS.q, laws_markBitS.e0]
  rfl
theorem laws_markBitS.ctr (k : Nat) : Ctr Try.prog 106 ⟨[.lend (.slice TBit), .val (.int .i64)], [(.int .i64)], true, false, fun x => laws_markBitS.f k x.1 x.2.1⟩ :=
  run_ctr (E := laws_markBitS.E k) mixed tb_ok (eqOk_of tb_eqs) (Cts.cons (laws_markText.ctr k) Cts.nil) (by kernel_rfl) Try.func106 (by kernel_rfl) rfl (fun ⟨a0, a1, _⟩ r h => (laws_markBitS.eq k a0 a1).trans h)
def laws_markParcel.E (k : Nat) : Env := ⟨tb, [(106, ⟨[.lend (.slice TBit), .val (.int .i64)], [(.int .i64)], true, false, fun x => laws_markBitS.f k x.1 x.2.1⟩)], [], k, 1, []⟩
theorem laws_markParcel.q (k : Nat) (a0 : Ty.den TParcel) (a1 : Int) : run (laws_markParcel.E k) Try.f68 [.lend TParcel, .val (.int .i64)] [(.int .i64)] true false (a0, a1, ()) = laws_markParcel.t k a0 a1 := by kernel_rfl
theorem laws_markParcel.eq (k : Nat) (a0 : Ty.den TParcel) (a1 : Int) : run (laws_markParcel.E k) Try.f68 [.lend TParcel, .val (.int .i64)] [(.int .i64)] true false (a0, a1, ()) = laws_markParcel.f k a0 a1 := by
  rw [laws_markParcel.q]
  rfl
theorem laws_markParcel.ctr (k : Nat) : Ctr Try.prog 68 ⟨[.lend TParcel, .val (.int .i64)], [(.int .i64)], true, false, fun x => laws_markParcel.f k x.1 x.2.1⟩ :=
  run_ctr (E := laws_markParcel.E k) mixed tb_ok (eqOk_of tb_eqs) (Cts.cons (laws_markBitS.ctr k) Cts.nil) (by kernel_rfl) Try.func68 (by kernel_rfl) rfl (fun ⟨a0, a1, _⟩ r h => (laws_markParcel.eq k a0 a1).trans h)
def laws_heldPieceS.E (k : Nat) : Env := ⟨tb, [(94, ⟨[.val (.int .i64)], [.str], true, false, fun x => laws_markText.f k x.1⟩)], [(2, [0, 1, 5])], k, 0, []⟩
noncomputable def laws_heldPieceS.K0 (k : Nat) (a0 : List (Ty.den TPiece)) (a1 : Int) : Ex → St → Option (Int × Unit) := runK (laws_heldPieceS.E k) (endK (laws_heldPieceS.E k) Try.f107.results.toList [.val (.slice TPiece), .val (.int .i64)] (a0, a1, ()) [(.int .i64)] true false) [.blk 0, .code (at_ [true, true] (body Try.f107))]
noncomputable def laws_heldPieceS.B0 (k : Nat) (a0 : List (Ty.den TPiece)) (a1 : Int) (n0 : Nat) : Ex → St → Option (Int × Unit) := fun e st => match e with
  | .normal => loopN (exec (laws_heldPieceS.E k) (at_ [true, false, true, false, false] (body Try.f107))) (canon 0 [0, 1, 5]) (laws_heldPieceS.K0 k a0 a1) n0 (canon 0 [0, 1, 5] st)
  | .ret => laws_heldPieceS.K0 k a0 a1 .ret st
  | .exit j => laws_heldPieceS.K0 k a0 a1 (.exit j) st
noncomputable def laws_heldPieceS.V0 (k : Nat) (a0 : List (Ty.den TPiece)) (a1 : Int) (n0 : Nat) (x0_0 : List (Ty.den TPiece)) (x0_1 : Int) (x0_2 : Int) : Option (Int × Unit) := loopN (exec (laws_heldPieceS.E k) (at_ [true, false, true, false, false] (body Try.f107))) (canon 0 [0, 1, 5]) (laws_heldPieceS.K0 k a0 a1) n0 (mk 32 0 [(0, .sl true TPiece x0_0), (1, .int .i64 x0_1), (5, .int .i64 x0_2)] [])
theorem laws_heldPieceS.s0 (k : Nat) (a0 : List (Ty.den TPiece)) (a1 : Int) (n0 : Nat) (x0_0 : List (Ty.den TPiece)) (x0_1 : Int) (x0_2 : Int) : laws_heldPieceS.V0 k a0 a1 (n0 + 1) x0_0 x0_1 x0_2 = laws_heldPieceS.b0 k (laws_heldPieceS.V0 k a0 a1 n0) x0_0 x0_1 x0_2 := by kernel_rfl
theorem laws_heldPieceS.e0 (k : Nat) (a0 : List (Ty.den TPiece)) (a1 : Int) (n0 : Nat) : laws_heldPieceS.V0 k a0 a1 n0 = laws_heldPieceS.l0 k n0 := by
  induction n0 with
  | zero => rfl
  | succ n0 ih =>
    have h : laws_heldPieceS.V0 k a0 a1 (n0 + 1) = laws_heldPieceS.b0 k (laws_heldPieceS.V0 k a0 a1 n0) := funext fun x0_0 => funext fun x0_1 => funext fun x0_2 => laws_heldPieceS.s0 k a0 a1 n0 x0_0 x0_1 x0_2
    rw [h, ih]
    rfl
theorem laws_heldPieceS.q (k : Nat) (a0 : List (Ty.den TPiece)) (a1 : Int) : run (laws_heldPieceS.E k) Try.f107 [.val (.slice TPiece), .val (.int .i64)] [(.int .i64)] true false (a0, a1, ()) = laws_heldPieceS.t k (laws_heldPieceS.V0 k a0 a1 k) a0 a1 := by kernel_rfl
theorem laws_heldPieceS.eq (k : Nat) (a0 : List (Ty.den TPiece)) (a1 : Int) : run (laws_heldPieceS.E k) Try.f107 [.val (.slice TPiece), .val (.int .i64)] [(.int .i64)] true false (a0, a1, ()) = laws_heldPieceS.f k a0 a1 := by
  rw [laws_heldPieceS.q, laws_heldPieceS.e0]
  rfl
theorem laws_heldPieceS.ctr (k : Nat) : Ctr Try.prog 107 ⟨[.val (.slice TPiece), .val (.int .i64)], [(.int .i64)], true, false, fun x => laws_heldPieceS.f k x.1 x.2.1⟩ :=
  run_ctr (E := laws_heldPieceS.E k) mixed tb_ok (eqOk_of tb_eqs) (Cts.cons (laws_markText.ctr k) Cts.nil) (by kernel_rfl) Try.func107 (by kernel_rfl) rfl (fun ⟨a0, a1, _⟩ r h => (laws_heldPieceS.eq k a0 a1).trans h)
def laws_heldFollower.E (k : Nat) : Env := ⟨tb, [(107, ⟨[.val (.slice TPiece), .val (.int .i64)], [(.int .i64)], true, false, fun x => laws_heldPieceS.f k x.1 x.2.1⟩)], [], k, 0, []⟩
theorem laws_heldFollower.q (k : Nat) (a0 : Ty.den TFollower) (a1 : Int) : run (laws_heldFollower.E k) Try.f69 [.val TFollower, .val (.int .i64)] [(.int .i64)] true false (a0, a1, ()) = laws_heldFollower.t k a0 a1 := by kernel_rfl
theorem laws_heldFollower.eq (k : Nat) (a0 : Ty.den TFollower) (a1 : Int) : run (laws_heldFollower.E k) Try.f69 [.val TFollower, .val (.int .i64)] [(.int .i64)] true false (a0, a1, ()) = laws_heldFollower.f k a0 a1 := by
  rw [laws_heldFollower.q]
  rfl
theorem laws_heldFollower.ctr (k : Nat) : Ctr Try.prog 69 ⟨[.val TFollower, .val (.int .i64)], [(.int .i64)], true, false, fun x => laws_heldFollower.f k x.1 x.2.1⟩ :=
  run_ctr (E := laws_heldFollower.E k) mixed tb_ok (eqOk_of tb_eqs) (Cts.cons (laws_heldPieceS.ctr k) Cts.nil) (by kernel_rfl) Try.func69 (by kernel_rfl) rfl (fun ⟨a0, a1, _⟩ r h => (laws_heldFollower.eq k a0 a1).trans h)
def laws_FnExactReceive.E (k : Nat) : Env := ⟨tb, [(25, ⟨[.val TFollower, .val (.int .i64)], [(.int .i64)], true, false, fun x => laws_szFollower.f k x.1 x.2.1⟩), (20, ⟨[.val TParcel, .val (.int .i64)], [(.int .i64)], true, false, fun x => laws_szParcel.f k x.1 x.2.1⟩), (27, ⟨[.val TFollower], [TFollower], true, false, fun x => laws_toFollower.f k x.1⟩), (22, ⟨[.val TParcel], [TParcel], true, false, fun x => laws_toParcel.f k x.1⟩), (65, ⟨[.val TFollower, .val TParcel], [TFollower, .bool], true, false, fun x => spec_Receive.f k x.1 x.2.1⟩), (66, ⟨[.val TFollower, .val TParcel], [TFollower, .bool], true, false, fun x => impl_Receive.f k x.1 x.2.1⟩), (29, ⟨[.val TFollower, .val TFollower], [.bool], true, false, fun x => laws_eqFollower.f k x.1 x.2.1⟩), (24, ⟨[.val TParcel, .val TParcel], [.bool], true, false, fun x => laws_eqParcel.f k x.1 x.2.1⟩), (67, ⟨[.lend TFollower, .val (.int .i64)], [(.int .i64)], true, false, fun x => laws_markFollower.f k x.1 x.2.1⟩), (68, ⟨[.lend TParcel, .val (.int .i64)], [(.int .i64)], true, false, fun x => laws_markParcel.f k x.1 x.2.1⟩), (69, ⟨[.val TFollower, .val (.int .i64)], [(.int .i64)], true, false, fun x => laws_heldFollower.f k x.1 x.2.1⟩)], [], k, 0, []⟩
theorem laws_FnExactReceive.q (k : Nat) (a0 : Ty.den TFollower) (a1 : Ty.den TParcel) : run (laws_FnExactReceive.E k) Try.f13 [.val TFollower, .val TParcel] [.bool] true false (a0, a1, ()) = laws_FnExactReceive.t k a0 a1 := by kernel_rfl
theorem laws_FnExactReceive.eq (k : Nat) (a0 : Ty.den TFollower) (a1 : Ty.den TParcel) : run (laws_FnExactReceive.E k) Try.f13 [.val TFollower, .val TParcel] [.bool] true false (a0, a1, ()) = laws_FnExactReceive.f k a0 a1 := by
  rw [laws_FnExactReceive.q]
  rfl
theorem laws_FnExactReceive.ctr (k : Nat) : Ctr Try.prog 13 ⟨[.val TFollower, .val TParcel], [.bool], true, false, fun x => laws_FnExactReceive.f k x.1 x.2.1⟩ :=
  run_ctr (E := laws_FnExactReceive.E k) mixed tb_ok (eqOk_of tb_eqs) (Cts.cons (laws_szFollower.ctr k) (Cts.cons (laws_szParcel.ctr k) (Cts.cons (laws_toFollower.ctr k) (Cts.cons (laws_toParcel.ctr k) (Cts.cons (spec_Receive.ctr k) (Cts.cons (impl_Receive.ctr k) (Cts.cons (laws_eqFollower.ctr k) (Cts.cons (laws_eqParcel.ctr k) (Cts.cons (laws_markFollower.ctr k) (Cts.cons (laws_markParcel.ctr k) (Cts.cons (laws_heldFollower.ctr k) Cts.nil))))))))))) (by kernel_rfl) Try.func13 (by kernel_rfl) rfl (fun ⟨a0, a1, _⟩ r h => (laws_FnExactReceive.eq k a0 a1).trans h)
def spec_KeyOk.E (k : Nat) : Env := ⟨tb, [(74, ⟨[.val (.int .i64), .val (.int .i64), .val (.int .i64)], [.bool], true, false, fun x => spec_l1In.f k x.1 x.2.1 x.2.2.1⟩)], [], k, 0, []⟩
theorem spec_KeyOk.q (k : Nat) (a0 : ByteArray) : run (spec_KeyOk.E k) Try.f73 [.val .str] [.bool] true false (a0, ()) = spec_KeyOk.t k a0 := by kernel_rfl
theorem spec_KeyOk.eq (k : Nat) (a0 : ByteArray) : run (spec_KeyOk.E k) Try.f73 [.val .str] [.bool] true false (a0, ()) = spec_KeyOk.f k a0 := by
  rw [spec_KeyOk.q]
  rfl
theorem spec_KeyOk.ctr (k : Nat) : Ctr Try.prog 73 ⟨[.val .str], [.bool], true, false, fun x => spec_KeyOk.f k x.1⟩ :=
  run_ctr (E := spec_KeyOk.E k) mixed tb_ok (eqOk_of tb_eqs) (Cts.cons (spec_l1In.ctr k) Cts.nil) (by kernel_rfl) Try.func73 (by kernel_rfl) rfl (fun ⟨a0, _⟩ r h => (spec_KeyOk.eq k a0).trans h)
def spec_PairsOk.E (k : Nat) : Env := ⟨tb, [(73, ⟨[.val .str], [.bool], true, false, fun x => spec_KeyOk.f k x.1⟩), (74, ⟨[.val (.int .i64), .val (.int .i64), .val (.int .i64)], [.bool], true, false, fun x => spec_l1In.f k x.1 x.2.1 x.2.2.1⟩)], [(4, [0, 3])], k, 0, []⟩
noncomputable def spec_PairsOk.K0 (k : Nat) (a0 : List (Ty.den TPair)) : Ex → St → Option (Bool × Unit) := runK (spec_PairsOk.E k) (endK (spec_PairsOk.E k) Try.f16.results.toList [.val (.slice TPair)] (a0, ()) [.bool] true false) [.blk 0, .code (at_ [true, true, true] (body Try.f16))]
noncomputable def spec_PairsOk.B0 (k : Nat) (a0 : List (Ty.den TPair)) (n0 : Nat) : Ex → St → Option (Bool × Unit) := fun e st => match e with
  | .normal => loopN (exec (spec_PairsOk.E k) (at_ [true, true, false, true, false, false] (body Try.f16))) (canon 0 [0, 3]) (spec_PairsOk.K0 k a0) n0 (canon 0 [0, 3] st)
  | .ret => spec_PairsOk.K0 k a0 .ret st
  | .exit j => spec_PairsOk.K0 k a0 (.exit j) st
noncomputable def spec_PairsOk.V0 (k : Nat) (a0 : List (Ty.den TPair)) (n0 : Nat) (x0_0 : List (Ty.den TPair)) (x0_1 : Int) : Option (Bool × Unit) := loopN (exec (spec_PairsOk.E k) (at_ [true, true, false, true, false, false] (body Try.f16))) (canon 0 [0, 3]) (spec_PairsOk.K0 k a0) n0 (mk 56 0 [(0, .sl true TPair x0_0), (3, .int .i64 x0_1)] [])
theorem spec_PairsOk.s0 (k : Nat) (a0 : List (Ty.den TPair)) (n0 : Nat) (x0_0 : List (Ty.den TPair)) (x0_1 : Int) : spec_PairsOk.V0 k a0 (n0 + 1) x0_0 x0_1 = spec_PairsOk.b0 k (spec_PairsOk.V0 k a0 n0) x0_0 x0_1 := by kernel_rfl
theorem spec_PairsOk.e0 (k : Nat) (a0 : List (Ty.den TPair)) (n0 : Nat) : spec_PairsOk.V0 k a0 n0 = spec_PairsOk.l0 k n0 := by
  induction n0 with
  | zero => rfl
  | succ n0 ih =>
    have h : spec_PairsOk.V0 k a0 (n0 + 1) = spec_PairsOk.b0 k (spec_PairsOk.V0 k a0 n0) := funext fun x0_0 => funext fun x0_1 => spec_PairsOk.s0 k a0 n0 x0_0 x0_1
    rw [h, ih]
    rfl
theorem spec_PairsOk.q (k : Nat) (a0 : List (Ty.den TPair)) : run (spec_PairsOk.E k) Try.f16 [.val (.slice TPair)] [.bool] true false (a0, ()) = spec_PairsOk.t k (spec_PairsOk.V0 k a0 k) a0 := by kernel_rfl
theorem spec_PairsOk.eq (k : Nat) (a0 : List (Ty.den TPair)) : run (spec_PairsOk.E k) Try.f16 [.val (.slice TPair)] [.bool] true false (a0, ()) = spec_PairsOk.f k a0 := by
  rw [spec_PairsOk.q, spec_PairsOk.e0]
  rfl
theorem spec_PairsOk.ctr (k : Nat) : Ctr Try.prog 16 ⟨[.val (.slice TPair)], [.bool], true, false, fun x => spec_PairsOk.f k x.1⟩ :=
  run_ctr (E := spec_PairsOk.E k) mixed tb_ok (eqOk_of tb_eqs) (Cts.cons (spec_KeyOk.ctr k) (Cts.cons (spec_l1In.ctr k) Cts.nil)) (by kernel_rfl) Try.func16 (by kernel_rfl) rfl (fun ⟨a0, _⟩ r h => (spec_PairsOk.eq k a0).trans h)
def spec_l14Keep.E (k : Nat) : Env := ⟨tb, [], [], k, 0, []⟩
theorem spec_l14Keep.q (k : Nat) (a0 : Ty.den TPair) : run (spec_l14Keep.E k) Try.f108 [.val TPair] [TRec] true false (a0, ()) = spec_l14Keep.t k a0 := by kernel_rfl
theorem spec_l14Keep.eq (k : Nat) (a0 : Ty.den TPair) : run (spec_l14Keep.E k) Try.f108 [.val TPair] [TRec] true false (a0, ()) = spec_l14Keep.f k a0 := by
  rw [spec_l14Keep.q]
  rfl
theorem spec_l14Keep.ctr (k : Nat) : Ctr Try.prog 108 ⟨[.val TPair], [TRec], true, false, fun x => spec_l14Keep.f k x.1⟩ :=
  run_ctr (E := spec_l14Keep.E k) mixed tb_ok (eqOk_of tb_eqs) Cts.nil (by kernel_rfl) Try.func108 (by kernel_rfl) rfl (fun ⟨a0, _⟩ r h => (spec_l14Keep.eq k a0).trans h)
def spec_RecOk.E (k : Nat) : Env := ⟨tb, [(74, ⟨[.val (.int .i64), .val (.int .i64), .val (.int .i64)], [.bool], true, false, fun x => spec_l1In.f k x.1 x.2.1 x.2.2.1⟩), (73, ⟨[.val .str], [.bool], true, false, fun x => spec_KeyOk.f k x.1⟩)], [], k, 0, []⟩
theorem spec_RecOk.q (k : Nat) (a0 : Ty.den TRec) : run (spec_RecOk.E k) Try.f132 [.val TRec] [.bool] true false (a0, ()) = spec_RecOk.t k a0 := by kernel_rfl
theorem spec_RecOk.eq (k : Nat) (a0 : Ty.den TRec) : run (spec_RecOk.E k) Try.f132 [.val TRec] [.bool] true false (a0, ()) = spec_RecOk.f k a0 := by
  rw [spec_RecOk.q]
  rfl
theorem spec_RecOk.ctr (k : Nat) : Ctr Try.prog 132 ⟨[.val TRec], [.bool], true, false, fun x => spec_RecOk.f k x.1⟩ :=
  run_ctr (E := spec_RecOk.E k) mixed tb_ok (eqOk_of tb_eqs) (Cts.cons (spec_l1In.ctr k) (Cts.cons (spec_KeyOk.ctr k) Cts.nil)) (by kernel_rfl) Try.func132 (by kernel_rfl) rfl (fun ⟨a0, _⟩ r h => (spec_RecOk.eq k a0).trans h)
def spec_Var.E (k : Nat) : Env := ⟨tb, [(74, ⟨[.val (.int .i64), .val (.int .i64), .val (.int .i64)], [.bool], true, false, fun x => spec_l1In.f k x.1 x.2.1 x.2.2.1⟩)], [(4, [0, 3])], k, 0, []⟩
noncomputable def spec_Var.K0 (k : Nat) (a0 : Int) : Ex → St → Option (ByteArray × Unit) := runK (spec_Var.E k) (endK (spec_Var.E k) Try.f129.results.toList [.val (.int .i64)] (a0, ()) [.str] true false) [.blk 0, .code (at_ [true, true, true, true] (body Try.f129))]
noncomputable def spec_Var.B0 (k : Nat) (a0 : Int) (n0 : Nat) : Ex → St → Option (ByteArray × Unit) := fun e st => match e with
  | .normal => loopN (exec (spec_Var.E k) (at_ [true, true, true, false, false, false] (body Try.f129))) (canon 0 [0, 3]) (spec_Var.K0 k a0) n0 (canon 0 [0, 3] st)
  | .ret => spec_Var.K0 k a0 .ret st
  | .exit j => spec_Var.K0 k a0 (.exit j) st
noncomputable def spec_Var.V0 (k : Nat) (a0 : Int) (n0 : Nat) (x0_0 : Int) (x0_1 : List Int) : Option (ByteArray × Unit) := loopN (exec (spec_Var.E k) (at_ [true, true, true, false, false, false] (body Try.f129))) (canon 0 [0, 3]) (spec_Var.K0 k a0) n0 (mk 25 1 [(0, .int .i64 x0_0), (3, .ref 0)] [(0, .own false (.int .u8) x0_1)])
theorem spec_Var.s0 (k : Nat) (a0 : Int) (n0 : Nat) (x0_0 : Int) (x0_1 : List Int) : spec_Var.V0 k a0 (n0 + 1) x0_0 x0_1 = spec_Var.b0 k (spec_Var.V0 k a0 n0) x0_0 x0_1 := by kernel_rfl
theorem spec_Var.e0 (k : Nat) (a0 : Int) (n0 : Nat) : spec_Var.V0 k a0 n0 = spec_Var.l0 k n0 := by
  induction n0 with
  | zero => rfl
  | succ n0 ih =>
    have h : spec_Var.V0 k a0 (n0 + 1) = spec_Var.b0 k (spec_Var.V0 k a0 n0) := funext fun x0_0 => funext fun x0_1 => spec_Var.s0 k a0 n0 x0_0 x0_1
    rw [h, ih]
    rfl
theorem spec_Var.q (k : Nat) (a0 : Int) : run (spec_Var.E k) Try.f129 [.val (.int .i64)] [.str] true false (a0, ()) = spec_Var.t k (spec_Var.V0 k a0 k) a0 := by kernel_rfl
theorem spec_Var.eq (k : Nat) (a0 : Int) : run (spec_Var.E k) Try.f129 [.val (.int .i64)] [.str] true false (a0, ()) = spec_Var.f k a0 := by
  rw [spec_Var.q, spec_Var.e0]
  rfl
theorem spec_Var.ctr (k : Nat) : Ctr Try.prog 129 ⟨[.val (.int .i64)], [.str], true, false, fun x => spec_Var.f k x.1⟩ :=
  run_ctr (E := spec_Var.E k) mixed tb_ok (eqOk_of tb_eqs) (Cts.cons (spec_l1In.ctr k) Cts.nil) (by kernel_rfl) Try.func129 (by kernel_rfl) rfl (fun ⟨a0, _⟩ r h => (spec_Var.eq k a0).trans h)
def spec_Fixed.E (k : Nat) : Env := ⟨tb, [(74, ⟨[.val (.int .i64), .val (.int .i64), .val (.int .i64)], [.bool], true, false, fun x => spec_l1In.f k x.1 x.2.1 x.2.2.1⟩)], [(5, [0, 1, 5, 6])], k, 0, []⟩
noncomputable def spec_Fixed.K0 (k : Nat) (a0 : Int) (a1 : Int) : Ex → St → Option (ByteArray × Unit) := runK (spec_Fixed.E k) (endK (spec_Fixed.E k) Try.f130.results.toList [.val (.int .i64), .val (.int .i64)] (a0, a1, ()) [.str] true false) [.blk 0, .code (at_ [true, true, true, true] (body Try.f130))]
noncomputable def spec_Fixed.B0 (k : Nat) (a0 : Int) (a1 : Int) (n0 : Nat) : Ex → St → Option (ByteArray × Unit) := fun e st => match e with
  | .normal => loopN (exec (spec_Fixed.E k) (at_ [true, true, true, false, true, false, false] (body Try.f130))) (canon 0 [0, 1, 5, 6]) (spec_Fixed.K0 k a0 a1) n0 (canon 0 [0, 1, 5, 6] st)
  | .ret => spec_Fixed.K0 k a0 a1 .ret st
  | .exit j => spec_Fixed.K0 k a0 a1 (.exit j) st
noncomputable def spec_Fixed.V0 (k : Nat) (a0 : Int) (a1 : Int) (n0 : Nat) (x0_0 : Int) (x0_1 : Int) (x0_2 : ByteArray) (x0_3 : Int) : Option (ByteArray × Unit) := loopN (exec (spec_Fixed.E k) (at_ [true, true, true, false, true, false, false] (body Try.f130))) (canon 0 [0, 1, 5, 6]) (spec_Fixed.K0 k a0 a1) n0 (mk 31 0 [(0, .int .i64 x0_0), (1, .int .i64 x0_1), (5, .str x0_2), (6, .int .i64 x0_3)] [])
theorem spec_Fixed.s0 (k : Nat) (a0 : Int) (a1 : Int) (n0 : Nat) (x0_0 : Int) (x0_1 : Int) (x0_2 : ByteArray) (x0_3 : Int) : spec_Fixed.V0 k a0 a1 (n0 + 1) x0_0 x0_1 x0_2 x0_3 = spec_Fixed.b0 k (spec_Fixed.V0 k a0 a1 n0) x0_0 x0_1 x0_2 x0_3 := by kernel_rfl
theorem spec_Fixed.e0 (k : Nat) (a0 : Int) (a1 : Int) (n0 : Nat) : spec_Fixed.V0 k a0 a1 n0 = spec_Fixed.l0 k n0 := by
  induction n0 with
  | zero => rfl
  | succ n0 ih =>
    have h : spec_Fixed.V0 k a0 a1 (n0 + 1) = spec_Fixed.b0 k (spec_Fixed.V0 k a0 a1 n0) := funext fun x0_0 => funext fun x0_1 => funext fun x0_2 => funext fun x0_3 => spec_Fixed.s0 k a0 a1 n0 x0_0 x0_1 x0_2 x0_3
    rw [h, ih]
    rfl
theorem spec_Fixed.q (k : Nat) (a0 : Int) (a1 : Int) : run (spec_Fixed.E k) Try.f130 [.val (.int .i64), .val (.int .i64)] [.str] true false (a0, a1, ()) = spec_Fixed.t k (spec_Fixed.V0 k a0 a1 k) a0 a1 := by kernel_rfl
theorem spec_Fixed.eq (k : Nat) (a0 : Int) (a1 : Int) : run (spec_Fixed.E k) Try.f130 [.val (.int .i64), .val (.int .i64)] [.str] true false (a0, a1, ()) = spec_Fixed.f k a0 a1 := by
  rw [spec_Fixed.q, spec_Fixed.e0]
  rfl
theorem spec_Fixed.ctr (k : Nat) : Ctr Try.prog 130 ⟨[.val (.int .i64), .val (.int .i64)], [.str], true, false, fun x => spec_Fixed.f k x.1 x.2.1⟩ :=
  run_ctr (E := spec_Fixed.E k) mixed tb_ok (eqOk_of tb_eqs) (Cts.cons (spec_l1In.ctr k) Cts.nil) (by kernel_rfl) Try.func130 (by kernel_rfl) rfl (fun ⟨a0, a1, _⟩ r h => (spec_Fixed.eq k a0 a1).trans h)
def spec_ShowRec.E (k : Nat) : Env := ⟨tb, [(132, ⟨[.val TRec], [.bool], true, false, fun x => spec_RecOk.f k x.1⟩), (129, ⟨[.val (.int .i64)], [.str], true, false, fun x => spec_Var.f k x.1⟩), (130, ⟨[.val (.int .i64), .val (.int .i64)], [.str], true, false, fun x => spec_Fixed.f k x.1 x.2.1⟩)], [], k, 0, []⟩
theorem spec_ShowRec.q (k : Nat) (a0 : Ty.den TRec) : run (spec_ShowRec.E k) Try.f110 [.val TRec] [.str] true false (a0, ()) = spec_ShowRec.t k a0 := by kernel_rfl
theorem spec_ShowRec.eq (k : Nat) (a0 : Ty.den TRec) : run (spec_ShowRec.E k) Try.f110 [.val TRec] [.str] true false (a0, ()) = spec_ShowRec.f k a0 := by
  rw [spec_ShowRec.q]
  rfl
theorem spec_ShowRec.ctr (k : Nat) : Ctr Try.prog 110 ⟨[.val TRec], [.str], true, false, fun x => spec_ShowRec.f k x.1⟩ :=
  run_ctr (E := spec_ShowRec.E k) mixed tb_ok (eqOk_of tb_eqs) (Cts.cons (spec_RecOk.ctr k) (Cts.cons (spec_Var.ctr k) (Cts.cons (spec_Fixed.ctr k) Cts.nil))) (by kernel_rfl) Try.func110 (by kernel_rfl) rfl (fun ⟨a0, _⟩ r h => (spec_ShowRec.eq k a0).trans h)
def spec_Crc.E (k : Nat) : Env := ⟨tb, [], [(3, [0, 3, 4]), (7, [0, 3, 4, 5])], k, 0, []⟩
noncomputable def spec_Crc.K0 (k : Nat) (a0 : ByteArray) : Ex → St → Option (Int × Unit) := runK (spec_Crc.E k) (endK (spec_Crc.E k) Try.f131.results.toList [.val .str] (a0, ()) [(.int .i64)] true false) [.blk 0, .code (at_ [true, true, true] (body Try.f131))]
noncomputable def spec_Crc.B0 (k : Nat) (a0 : ByteArray) (n0 : Nat) : Ex → St → Option (Int × Unit) := fun e st => match e with
  | .normal => loopN (exec (spec_Crc.E k) (at_ [true, true, false, true, false, false] (body Try.f131))) (canon 0 [0, 3, 4]) (spec_Crc.K0 k a0) n0 (canon 0 [0, 3, 4] st)
  | .ret => spec_Crc.K0 k a0 .ret st
  | .exit j => spec_Crc.K0 k a0 (.exit j) st
noncomputable def spec_Crc.K1 (k : Nat) (a0 : ByteArray) (n0 : Nat) : Ex → St → Option (Int × Unit) := runK (spec_Crc.E k) (spec_Crc.B0 k a0 n0) [.blk 2, .blk 1, .code (at_ [true, true, false, true, false, false, true, true] (body Try.f131))]
noncomputable def spec_Crc.B1 (k : Nat) (a0 : ByteArray) (n0 n1 : Nat) : Ex → St → Option (Int × Unit) := fun e st => match e with
  | .normal => loopN (exec (spec_Crc.E k) (at_ [true, true, false, true, false, false, true, false, false, true, true, false, false] (body Try.f131))) (canon 0 [0, 3, 4, 5]) (spec_Crc.K1 k a0 n0) n1 (canon 0 [0, 3, 4, 5] st)
  | .ret => spec_Crc.K1 k a0 n0 .ret st
  | .exit j => spec_Crc.K1 k a0 n0 (.exit j) st
noncomputable def spec_Crc.V0 (k : Nat) (a0 : ByteArray) (n0 : Nat) (x0_0 : ByteArray) (x0_1 : Int) (x0_2 : Int) : Option (Int × Unit) := loopN (exec (spec_Crc.E k) (at_ [true, true, false, true, false, false] (body Try.f131))) (canon 0 [0, 3, 4]) (spec_Crc.K0 k a0) n0 (mk 33 0 [(0, .str x0_0), (3, .int .i64 x0_1), (4, .int .i64 x0_2)] [])
noncomputable def spec_Crc.V1 (k : Nat) (a0 : ByteArray) (n0 n1 : Nat) (x1_0 : ByteArray) (x1_1 : Int) (x1_2 : Int) (x1_3 : Int) : Option (Int × Unit) := loopN (exec (spec_Crc.E k) (at_ [true, true, false, true, false, false, true, false, false, true, true, false, false] (body Try.f131))) (canon 0 [0, 3, 4, 5]) (spec_Crc.K1 k a0 n0) n1 (mk 33 0 [(0, .str x1_0), (3, .int .i64 x1_1), (4, .int .i64 x1_2), (5, .int .i64 x1_3)] [])
theorem spec_Crc.s0 (k : Nat) (a0 : ByteArray) (n0 : Nat) (x0_0 : ByteArray) (x0_1 : Int) (x0_2 : Int) : spec_Crc.V0 k a0 (n0 + 1) x0_0 x0_1 x0_2 = spec_Crc.b0 k (spec_Crc.V1 k a0 n0 k) (spec_Crc.V0 k a0 n0) x0_0 x0_1 x0_2 := by kernel_rfl
theorem spec_Crc.s1 (k : Nat) (a0 : ByteArray) (n0 n1 : Nat) (x1_0 : ByteArray) (x1_1 : Int) (x1_2 : Int) (x1_3 : Int) : spec_Crc.V1 k a0 n0 (n1 + 1) x1_0 x1_1 x1_2 x1_3 = spec_Crc.b1 k (spec_Crc.V0 k a0 n0) (spec_Crc.V1 k a0 n0 n1) x1_0 x1_1 x1_2 x1_3 := by kernel_rfl
theorem spec_Crc.e1 (k : Nat) (a0 : ByteArray) (n0 n1 : Nat) : spec_Crc.V1 k a0 n0 n1 = spec_Crc.l1 k (spec_Crc.V0 k a0 n0) n1 := by
  induction n1 with
  | zero => rfl
  | succ n1 ih =>
    have h : spec_Crc.V1 k a0 n0 (n1 + 1) = spec_Crc.b1 k (spec_Crc.V0 k a0 n0) (spec_Crc.V1 k a0 n0 n1) := funext fun x1_0 => funext fun x1_1 => funext fun x1_2 => funext fun x1_3 => spec_Crc.s1 k a0 n0 n1 x1_0 x1_1 x1_2 x1_3
    rw [h, ih]
    rfl
theorem spec_Crc.e0 (k : Nat) (a0 : ByteArray) (n0 : Nat) : spec_Crc.V0 k a0 n0 = spec_Crc.l0 k n0 := by
  induction n0 with
  | zero => rfl
  | succ n0 ih =>
    have h : spec_Crc.V0 k a0 (n0 + 1) = spec_Crc.b0 k (spec_Crc.V1 k a0 n0 k) (spec_Crc.V0 k a0 n0) := funext fun x0_0 => funext fun x0_1 => funext fun x0_2 => spec_Crc.s0 k a0 n0 x0_0 x0_1 x0_2
    rw [h, spec_Crc.e1, ih]
    rfl
theorem spec_Crc.q (k : Nat) (a0 : ByteArray) : run (spec_Crc.E k) Try.f131 [.val .str] [(.int .i64)] true false (a0, ()) = spec_Crc.t k (spec_Crc.V0 k a0 k) a0 := by kernel_rfl
theorem spec_Crc.eq (k : Nat) (a0 : ByteArray) : run (spec_Crc.E k) Try.f131 [.val .str] [(.int .i64)] true false (a0, ()) = spec_Crc.f k a0 := by
  rw [spec_Crc.q, spec_Crc.e0]
  rfl
theorem spec_Crc.ctr (k : Nat) : Ctr Try.prog 131 ⟨[.val .str], [(.int .i64)], true, false, fun x => spec_Crc.f k x.1⟩ :=
  run_ctr (E := spec_Crc.E k) mixed tb_ok (eqOk_of tb_eqs) Cts.nil (by kernel_rfl) Try.func131 (by kernel_rfl) rfl (fun ⟨a0, _⟩ r h => (spec_Crc.eq k a0).trans h)
def spec_Frame.E (k : Nat) : Env := ⟨tb, [(129, ⟨[.val (.int .i64)], [.str], true, false, fun x => spec_Var.f k x.1⟩), (131, ⟨[.val .str], [(.int .i64)], true, false, fun x => spec_Crc.f k x.1⟩), (130, ⟨[.val (.int .i64), .val (.int .i64)], [.str], true, false, fun x => spec_Fixed.f k x.1 x.2.1⟩)], [], k, 0, []⟩
theorem spec_Frame.q (k : Nat) (a0 : ByteArray) : run (spec_Frame.E k) Try.f109 [.val .str] [.str] true false (a0, ()) = spec_Frame.t k a0 := by kernel_rfl
theorem spec_Frame.eq (k : Nat) (a0 : ByteArray) : run (spec_Frame.E k) Try.f109 [.val .str] [.str] true false (a0, ()) = spec_Frame.f k a0 := by
  rw [spec_Frame.q]
  rfl
theorem spec_Frame.ctr (k : Nat) : Ctr Try.prog 109 ⟨[.val .str], [.str], true, false, fun x => spec_Frame.f k x.1⟩ :=
  run_ctr (E := spec_Frame.E k) mixed tb_ok (eqOk_of tb_eqs) (Cts.cons (spec_Var.ctr k) (Cts.cons (spec_Crc.ctr k) (Cts.cons (spec_Fixed.ctr k) Cts.nil))) (by kernel_rfl) Try.func109 (by kernel_rfl) rfl (fun ⟨a0, _⟩ r h => (spec_Frame.eq k a0).trans h)
def spec_SumOf.E (k : Nat) : Env := ⟨tb, [(110, ⟨[.val TRec], [.str], true, false, fun x => spec_ShowRec.f k x.1⟩), (131, ⟨[.val .str], [(.int .i64)], true, false, fun x => spec_Crc.f k x.1⟩)], [(3, [0, 3, 4])], k, 0, []⟩
noncomputable def spec_SumOf.K0 (k : Nat) (a0 : List (Ty.den TRec)) : Ex → St → Option (Int × Unit) := runK (spec_SumOf.E k) (endK (spec_SumOf.E k) Try.f133.results.toList [.val (.slice TRec)] (a0, ()) [(.int .i64)] true false) [.blk 0, .code (at_ [true, true, true] (body Try.f133))]
noncomputable def spec_SumOf.B0 (k : Nat) (a0 : List (Ty.den TRec)) (n0 : Nat) : Ex → St → Option (Int × Unit) := fun e st => match e with
  | .normal => loopN (exec (spec_SumOf.E k) (at_ [true, true, false, true, false, false] (body Try.f133))) (canon 0 [0, 3, 4]) (spec_SumOf.K0 k a0) n0 (canon 0 [0, 3, 4] st)
  | .ret => spec_SumOf.K0 k a0 .ret st
  | .exit j => spec_SumOf.K0 k a0 (.exit j) st
noncomputable def spec_SumOf.V0 (k : Nat) (a0 : List (Ty.den TRec)) (n0 : Nat) (x0_0 : List (Ty.den TRec)) (x0_1 : ByteArray) (x0_2 : Int) : Option (Int × Unit) := loopN (exec (spec_SumOf.E k) (at_ [true, true, false, true, false, false] (body Try.f133))) (canon 0 [0, 3, 4]) (spec_SumOf.K0 k a0) n0 (mk 20 0 [(0, .sl true TRec x0_0), (3, .str x0_1), (4, .int .i64 x0_2)] [])
theorem spec_SumOf.s0 (k : Nat) (a0 : List (Ty.den TRec)) (n0 : Nat) (x0_0 : List (Ty.den TRec)) (x0_1 : ByteArray) (x0_2 : Int) : spec_SumOf.V0 k a0 (n0 + 1) x0_0 x0_1 x0_2 = spec_SumOf.b0 k (spec_SumOf.V0 k a0 n0) x0_0 x0_1 x0_2 := by kernel_rfl
theorem spec_SumOf.e0 (k : Nat) (a0 : List (Ty.den TRec)) (n0 : Nat) : spec_SumOf.V0 k a0 n0 = spec_SumOf.l0 k n0 := by
  induction n0 with
  | zero => rfl
  | succ n0 ih =>
    have h : spec_SumOf.V0 k a0 (n0 + 1) = spec_SumOf.b0 k (spec_SumOf.V0 k a0 n0) := funext fun x0_0 => funext fun x0_1 => funext fun x0_2 => spec_SumOf.s0 k a0 n0 x0_0 x0_1 x0_2
    rw [h, ih]
    rfl
theorem spec_SumOf.q (k : Nat) (a0 : List (Ty.den TRec)) : run (spec_SumOf.E k) Try.f133 [.val (.slice TRec)] [(.int .i64)] true false (a0, ()) = spec_SumOf.t k (spec_SumOf.V0 k a0 k) a0 := by kernel_rfl
theorem spec_SumOf.eq (k : Nat) (a0 : List (Ty.den TRec)) : run (spec_SumOf.E k) Try.f133 [.val (.slice TRec)] [(.int .i64)] true false (a0, ()) = spec_SumOf.f k a0 := by
  rw [spec_SumOf.q, spec_SumOf.e0]
  rfl
theorem spec_SumOf.ctr (k : Nat) : Ctr Try.prog 133 ⟨[.val (.slice TRec)], [(.int .i64)], true, false, fun x => spec_SumOf.f k x.1⟩ :=
  run_ctr (E := spec_SumOf.E k) mixed tb_ok (eqOk_of tb_eqs) (Cts.cons (spec_ShowRec.ctr k) (Cts.cons (spec_Crc.ctr k) Cts.nil)) (by kernel_rfl) Try.func133 (by kernel_rfl) rfl (fun ⟨a0, _⟩ r h => (spec_SumOf.eq k a0).trans h)
def spec_l9Seal.E (k : Nat) : Env := ⟨tb, [(133, ⟨[.val (.slice TRec)], [(.int .i64)], true, false, fun x => spec_SumOf.f k x.1⟩)], [], k, 0, []⟩
theorem spec_l9Seal.q (k : Nat) (a0 : List (Ty.den TRec)) (a1 : Int) (a2 : Int) : run (spec_l9Seal.E k) Try.f111 [.val (.slice TRec), .val (.int .i64), .val (.int .i64)] [TRec] true false (a0, a1, a2, ()) = spec_l9Seal.t k a0 a1 a2 := by kernel_rfl
theorem spec_l9Seal.eq (k : Nat) (a0 : List (Ty.den TRec)) (a1 : Int) (a2 : Int) : run (spec_l9Seal.E k) Try.f111 [.val (.slice TRec), .val (.int .i64), .val (.int .i64)] [TRec] true false (a0, a1, a2, ()) = spec_l9Seal.f k a0 a1 a2 := by
  rw [spec_l9Seal.q]
  rfl
theorem spec_l9Seal.ctr (k : Nat) : Ctr Try.prog 111 ⟨[.val (.slice TRec), .val (.int .i64), .val (.int .i64)], [TRec], true, false, fun x => spec_l9Seal.f k x.1 x.2.1 x.2.2.1⟩ :=
  run_ctr (E := spec_l9Seal.E k) mixed tb_ok (eqOk_of tb_eqs) (Cts.cons (spec_SumOf.ctr k) Cts.nil) (by kernel_rfl) Try.func111 (by kernel_rfl) rfl (fun ⟨a0, a1, a2, _⟩ r h => (spec_l9Seal.eq k a0 a1 a2).trans h)
def spec_ShowPairs.E (k : Nat) : Env := ⟨tb, [(16, ⟨[.val (.slice TPair)], [.bool], true, false, fun x => spec_PairsOk.f k x.1⟩), (108, ⟨[.val TPair], [TRec], true, false, fun x => spec_l14Keep.f k x.1⟩), (110, ⟨[.val TRec], [.str], true, false, fun x => spec_ShowRec.f k x.1⟩), (109, ⟨[.val .str], [.str], true, false, fun x => spec_Frame.f k x.1⟩), (111, ⟨[.val (.slice TRec), .val (.int .i64), .val (.int .i64)], [TRec], true, false, fun x => spec_l9Seal.f k x.1 x.2.1 x.2.2.1⟩)], [(6, [0, 3, 4, 5])], k, 0, []⟩
noncomputable def spec_ShowPairs.K0 (k : Nat) (a0 : List (Ty.den TPair)) : Ex → St → Option (ByteArray × Unit) := runK (spec_ShowPairs.E k) (endK (spec_ShowPairs.E k) Try.f70.results.toList [.val (.slice TPair)] (a0, ()) [.str] true false) [.blk 0, .code (at_ [true, true, true, true, true] (body Try.f70))]
noncomputable def spec_ShowPairs.B0 (k : Nat) (a0 : List (Ty.den TPair)) (n0 : Nat) : Ex → St → Option (ByteArray × Unit) := fun e st => match e with
  | .normal => loopN (exec (spec_ShowPairs.E k) (at_ [true, true, true, true, false, true, false, false] (body Try.f70))) (canon 0 [0, 3, 4, 5]) (spec_ShowPairs.K0 k a0) n0 (canon 0 [0, 3, 4, 5] st)
  | .ret => spec_ShowPairs.K0 k a0 .ret st
  | .exit j => spec_ShowPairs.K0 k a0 (.exit j) st
noncomputable def spec_ShowPairs.V0 (k : Nat) (a0 : List (Ty.den TPair)) (n0 : Nat) (x0_0 : List (Ty.den TPair)) (x0_1 : ByteArray) (x0_2 : Int) (x0_3 : List (Ty.den TRec)) : Option (ByteArray × Unit) := loopN (exec (spec_ShowPairs.E k) (at_ [true, true, true, true, false, true, false, false] (body Try.f70))) (canon 0 [0, 3, 4, 5]) (spec_ShowPairs.K0 k a0) n0 (mk 39 1 [(0, .sl true TPair x0_0), (3, .str x0_1), (4, .ref 0), (5, .int .i64 x0_2)] [(0, .own false TRec x0_3)])
theorem spec_ShowPairs.s0 (k : Nat) (a0 : List (Ty.den TPair)) (n0 : Nat) (x0_0 : List (Ty.den TPair)) (x0_1 : ByteArray) (x0_2 : Int) (x0_3 : List (Ty.den TRec)) : spec_ShowPairs.V0 k a0 (n0 + 1) x0_0 x0_1 x0_2 x0_3 = spec_ShowPairs.b0 k (spec_ShowPairs.V0 k a0 n0) x0_0 x0_1 x0_2 x0_3 := by kernel_rfl
theorem spec_ShowPairs.e0 (k : Nat) (a0 : List (Ty.den TPair)) (n0 : Nat) : spec_ShowPairs.V0 k a0 n0 = spec_ShowPairs.l0 k n0 := by
  induction n0 with
  | zero => rfl
  | succ n0 ih =>
    have h : spec_ShowPairs.V0 k a0 (n0 + 1) = spec_ShowPairs.b0 k (spec_ShowPairs.V0 k a0 n0) := funext fun x0_0 => funext fun x0_1 => funext fun x0_2 => funext fun x0_3 => spec_ShowPairs.s0 k a0 n0 x0_0 x0_1 x0_2 x0_3
    rw [h, ih]
    rfl
theorem spec_ShowPairs.q (k : Nat) (a0 : List (Ty.den TPair)) : run (spec_ShowPairs.E k) Try.f70 [.val (.slice TPair)] [.str] true false (a0, ()) = spec_ShowPairs.t k (spec_ShowPairs.V0 k a0 k) a0 := by kernel_rfl
theorem spec_ShowPairs.eq (k : Nat) (a0 : List (Ty.den TPair)) : run (spec_ShowPairs.E k) Try.f70 [.val (.slice TPair)] [.str] true false (a0, ()) = spec_ShowPairs.f k a0 := by
  rw [spec_ShowPairs.q, spec_ShowPairs.e0]
  rfl
theorem spec_ShowPairs.ctr (k : Nat) : Ctr Try.prog 70 ⟨[.val (.slice TPair)], [.str], true, false, fun x => spec_ShowPairs.f k x.1⟩ :=
  run_ctr (E := spec_ShowPairs.E k) mixed tb_ok (eqOk_of tb_eqs) (Cts.cons (spec_PairsOk.ctr k) (Cts.cons (spec_l14Keep.ctr k) (Cts.cons (spec_ShowRec.ctr k) (Cts.cons (spec_Frame.ctr k) (Cts.cons (spec_l9Seal.ctr k) Cts.nil))))) (by kernel_rfl) Try.func70 (by kernel_rfl) rfl (fun ⟨a0, _⟩ r h => (spec_ShowPairs.eq k a0).trans h)
def impl_KeyOk.E (k : Nat) : Env := ⟨tb, [(77, ⟨[.val (.int .i64), .val (.int .i64), .val (.int .i64)], [.bool], true, false, fun x => impl_in.f k x.1 x.2.1 x.2.2.1⟩)], [], k, 0, []⟩
theorem impl_KeyOk.q (k : Nat) (a0 : ByteArray) : run (impl_KeyOk.E k) Try.f76 [.val .str] [.bool] true false (a0, ()) = impl_KeyOk.t k a0 := by kernel_rfl
theorem impl_KeyOk.eq (k : Nat) (a0 : ByteArray) : run (impl_KeyOk.E k) Try.f76 [.val .str] [.bool] true false (a0, ()) = impl_KeyOk.f k a0 := by
  rw [impl_KeyOk.q]
  rfl
theorem impl_KeyOk.ctr (k : Nat) : Ctr Try.prog 76 ⟨[.val .str], [.bool], true, false, fun x => impl_KeyOk.f k x.1⟩ :=
  run_ctr (E := impl_KeyOk.E k) mixed tb_ok (eqOk_of tb_eqs) (Cts.cons (impl_in.ctr k) Cts.nil) (by kernel_rfl) Try.func76 (by kernel_rfl) rfl (fun ⟨a0, _⟩ r h => (impl_KeyOk.eq k a0).trans h)
def impl_PairsOk.E (k : Nat) : Env := ⟨tb, [(76, ⟨[.val .str], [.bool], true, false, fun x => impl_KeyOk.f k x.1⟩), (77, ⟨[.val (.int .i64), .val (.int .i64), .val (.int .i64)], [.bool], true, false, fun x => impl_in.f k x.1 x.2.1 x.2.2.1⟩)], [(2, [0, 5, 6, 7])], k, 0, []⟩
noncomputable def impl_PairsOk.K0 (k : Nat) (a0 : List (Ty.den TPair)) : Ex → St → Option (Bool × Unit) := runK (impl_PairsOk.E k) (endK (impl_PairsOk.E k) Try.f18.results.toList [.val (.slice TPair)] (a0, ()) [.bool] true false) [.blk 0, .code (at_ [true, true] (body Try.f18))]
noncomputable def impl_PairsOk.B0 (k : Nat) (a0 : List (Ty.den TPair)) (n0 : Nat) : Ex → St → Option (Bool × Unit) := fun e st => match e with
  | .normal => loopN (exec (impl_PairsOk.E k) (at_ [true, false, true, false, false] (body Try.f18))) (canon 0 [0, 5, 6, 7]) (impl_PairsOk.K0 k a0) n0 (canon 0 [0, 5, 6, 7] st)
  | .ret => impl_PairsOk.K0 k a0 .ret st
  | .exit j => impl_PairsOk.K0 k a0 (.exit j) st
noncomputable def impl_PairsOk.V0 (k : Nat) (a0 : List (Ty.den TPair)) (n0 : Nat) (x0_0 : List (Ty.den TPair)) (x0_1 : List (Ty.den TPair)) (x0_2 : Int) (x0_3 : Int) : Option (Bool × Unit) := loopN (exec (impl_PairsOk.E k) (at_ [true, false, true, false, false] (body Try.f18))) (canon 0 [0, 5, 6, 7]) (impl_PairsOk.K0 k a0) n0 (mk 47 0 [(0, .sl true TPair x0_0), (5, .sl true TPair x0_1), (6, .int .i64 x0_2), (7, .int .i64 x0_3)] [])
theorem impl_PairsOk.s0 (k : Nat) (a0 : List (Ty.den TPair)) (n0 : Nat) (x0_0 : List (Ty.den TPair)) (x0_1 : List (Ty.den TPair)) (x0_2 : Int) (x0_3 : Int) : impl_PairsOk.V0 k a0 (n0 + 1) x0_0 x0_1 x0_2 x0_3 = impl_PairsOk.b0 k (impl_PairsOk.V0 k a0 n0) x0_0 x0_1 x0_2 x0_3 := by kernel_rfl
theorem impl_PairsOk.e0 (k : Nat) (a0 : List (Ty.den TPair)) (n0 : Nat) : impl_PairsOk.V0 k a0 n0 = impl_PairsOk.l0 k n0 := by
  induction n0 with
  | zero => rfl
  | succ n0 ih =>
    have h : impl_PairsOk.V0 k a0 (n0 + 1) = impl_PairsOk.b0 k (impl_PairsOk.V0 k a0 n0) := funext fun x0_0 => funext fun x0_1 => funext fun x0_2 => funext fun x0_3 => impl_PairsOk.s0 k a0 n0 x0_0 x0_1 x0_2 x0_3
    rw [h, ih]
    rfl
theorem impl_PairsOk.q (k : Nat) (a0 : List (Ty.den TPair)) : run (impl_PairsOk.E k) Try.f18 [.val (.slice TPair)] [.bool] true false (a0, ()) = impl_PairsOk.t k (impl_PairsOk.V0 k a0 k) a0 := by kernel_rfl
theorem impl_PairsOk.eq (k : Nat) (a0 : List (Ty.den TPair)) : run (impl_PairsOk.E k) Try.f18 [.val (.slice TPair)] [.bool] true false (a0, ()) = impl_PairsOk.f k a0 := by
  rw [impl_PairsOk.q, impl_PairsOk.e0]
  rfl
theorem impl_PairsOk.ctr (k : Nat) : Ctr Try.prog 18 ⟨[.val (.slice TPair)], [.bool], true, false, fun x => impl_PairsOk.f k x.1⟩ :=
  run_ctr (E := impl_PairsOk.E k) mixed tb_ok (eqOk_of tb_eqs) (Cts.cons (impl_KeyOk.ctr k) (Cts.cons (impl_in.ctr k) Cts.nil)) (by kernel_rfl) Try.func18 (by kernel_rfl) rfl (fun ⟨a0, _⟩ r h => (impl_PairsOk.eq k a0).trans h)
def impl_RecOk.E (k : Nat) : Env := ⟨tb, [(76, ⟨[.val .str], [.bool], true, false, fun x => impl_KeyOk.f k x.1⟩), (77, ⟨[.val (.int .i64), .val (.int .i64), .val (.int .i64)], [.bool], true, false, fun x => impl_in.f k x.1 x.2.1 x.2.2.1⟩)], [], k, 0, []⟩
theorem impl_RecOk.q (k : Nat) (a0 : Ty.den TRec) : run (impl_RecOk.E k) Try.f138 [.val TRec] [.bool] true false (a0, ()) = impl_RecOk.t k a0 := by kernel_rfl
theorem impl_RecOk.eq (k : Nat) (a0 : Ty.den TRec) : run (impl_RecOk.E k) Try.f138 [.val TRec] [.bool] true false (a0, ()) = impl_RecOk.f k a0 := by
  rw [impl_RecOk.q]
  rfl
theorem impl_RecOk.ctr (k : Nat) : Ctr Try.prog 138 ⟨[.val TRec], [.bool], true, false, fun x => impl_RecOk.f k x.1⟩ :=
  run_ctr (E := impl_RecOk.E k) mixed tb_ok (eqOk_of tb_eqs) (Cts.cons (impl_KeyOk.ctr k) (Cts.cons (impl_in.ctr k) Cts.nil)) (by kernel_rfl) Try.func138 (by kernel_rfl) rfl (fun ⟨a0, _⟩ r h => (impl_RecOk.eq k a0).trans h)
def impl_Var.E (k : Nat) : Env := ⟨tb, [(77, ⟨[.val (.int .i64), .val (.int .i64), .val (.int .i64)], [.bool], true, false, fun x => impl_in.f k x.1 x.2.1 x.2.2.1⟩)], [(4, [0, 3])], k, 0, []⟩
noncomputable def impl_Var.K0 (k : Nat) (a0 : Int) : Ex → St → Option (ByteArray × Unit) := runK (impl_Var.E k) (endK (impl_Var.E k) Try.f140.results.toList [.val (.int .i64)] (a0, ()) [.str] true false) [.blk 0, .code (at_ [true, true, true, true] (body Try.f140))]
noncomputable def impl_Var.B0 (k : Nat) (a0 : Int) (n0 : Nat) : Ex → St → Option (ByteArray × Unit) := fun e st => match e with
  | .normal => loopN (exec (impl_Var.E k) (at_ [true, true, true, false, false, false] (body Try.f140))) (canon 0 [0, 3]) (impl_Var.K0 k a0) n0 (canon 0 [0, 3] st)
  | .ret => impl_Var.K0 k a0 .ret st
  | .exit j => impl_Var.K0 k a0 (.exit j) st
noncomputable def impl_Var.V0 (k : Nat) (a0 : Int) (n0 : Nat) (x0_0 : Int) (x0_1 : List Int) : Option (ByteArray × Unit) := loopN (exec (impl_Var.E k) (at_ [true, true, true, false, false, false] (body Try.f140))) (canon 0 [0, 3]) (impl_Var.K0 k a0) n0 (mk 24 1 [(0, .int .i64 x0_0), (3, .ref 0)] [(0, .own false (.int .u8) x0_1)])
theorem impl_Var.s0 (k : Nat) (a0 : Int) (n0 : Nat) (x0_0 : Int) (x0_1 : List Int) : impl_Var.V0 k a0 (n0 + 1) x0_0 x0_1 = impl_Var.b0 k (impl_Var.V0 k a0 n0) x0_0 x0_1 := by kernel_rfl
theorem impl_Var.e0 (k : Nat) (a0 : Int) (n0 : Nat) : impl_Var.V0 k a0 n0 = impl_Var.l0 k n0 := by
  induction n0 with
  | zero => rfl
  | succ n0 ih =>
    have h : impl_Var.V0 k a0 (n0 + 1) = impl_Var.b0 k (impl_Var.V0 k a0 n0) := funext fun x0_0 => funext fun x0_1 => impl_Var.s0 k a0 n0 x0_0 x0_1
    rw [h, ih]
    rfl
theorem impl_Var.q (k : Nat) (a0 : Int) : run (impl_Var.E k) Try.f140 [.val (.int .i64)] [.str] true false (a0, ()) = impl_Var.t k (impl_Var.V0 k a0 k) a0 := by kernel_rfl
theorem impl_Var.eq (k : Nat) (a0 : Int) : run (impl_Var.E k) Try.f140 [.val (.int .i64)] [.str] true false (a0, ()) = impl_Var.f k a0 := by
  rw [impl_Var.q, impl_Var.e0]
  rfl
theorem impl_Var.ctr (k : Nat) : Ctr Try.prog 140 ⟨[.val (.int .i64)], [.str], true, false, fun x => impl_Var.f k x.1⟩ :=
  run_ctr (E := impl_Var.E k) mixed tb_ok (eqOk_of tb_eqs) (Cts.cons (impl_in.ctr k) Cts.nil) (by kernel_rfl) Try.func140 (by kernel_rfl) rfl (fun ⟨a0, _⟩ r h => (impl_Var.eq k a0).trans h)
def impl_vars.E (k : Nat) : Env := ⟨tb, [(140, ⟨[.val (.int .i64)], [.str], true, false, fun x => impl_Var.f k x.1⟩)], [(3, [3, 6, 7, 8])], k, 0, []⟩
noncomputable def impl_vars.K0 (k : Nat) (a0 : List Int) : Ex → St → Option (ByteArray × Unit) := runK (impl_vars.E k) (endK (impl_vars.E k) Try.f139.results.toList [.val (.slice (.int .i64))] (a0, ()) [.str] true false) [.blk 0, .code (at_ [true, true, true] (body Try.f139))]
noncomputable def impl_vars.B0 (k : Nat) (a0 : List Int) (n0 : Nat) : Ex → St → Option (ByteArray × Unit) := fun e st => match e with
  | .normal => loopN (exec (impl_vars.E k) (at_ [true, true, false, true, false, false] (body Try.f139))) (canon 0 [3, 6, 7, 8]) (impl_vars.K0 k a0) n0 (canon 0 [3, 6, 7, 8] st)
  | .ret => impl_vars.K0 k a0 .ret st
  | .exit j => impl_vars.K0 k a0 (.exit j) st
noncomputable def impl_vars.V0 (k : Nat) (a0 : List Int) (n0 : Nat) (x0_0 : ByteArray) (x0_1 : List Int) (x0_2 : Int) (x0_3 : Int) : Option (ByteArray × Unit) := loopN (exec (impl_vars.E k) (at_ [true, true, false, true, false, false] (body Try.f139))) (canon 0 [3, 6, 7, 8]) (impl_vars.K0 k a0) n0 (mk 18 0 [(3, .str x0_0), (6, .sl true (.int .i64) x0_1), (7, .int .i64 x0_2), (8, .int .i64 x0_3)] [])
theorem impl_vars.s0 (k : Nat) (a0 : List Int) (n0 : Nat) (x0_0 : ByteArray) (x0_1 : List Int) (x0_2 : Int) (x0_3 : Int) : impl_vars.V0 k a0 (n0 + 1) x0_0 x0_1 x0_2 x0_3 = impl_vars.b0 k (impl_vars.V0 k a0 n0) x0_0 x0_1 x0_2 x0_3 := by kernel_rfl
theorem impl_vars.e0 (k : Nat) (a0 : List Int) (n0 : Nat) : impl_vars.V0 k a0 n0 = impl_vars.l0 k n0 := by
  induction n0 with
  | zero => rfl
  | succ n0 ih =>
    have h : impl_vars.V0 k a0 (n0 + 1) = impl_vars.b0 k (impl_vars.V0 k a0 n0) := funext fun x0_0 => funext fun x0_1 => funext fun x0_2 => funext fun x0_3 => impl_vars.s0 k a0 n0 x0_0 x0_1 x0_2 x0_3
    rw [h, ih]
    rfl
theorem impl_vars.q (k : Nat) (a0 : List Int) : run (impl_vars.E k) Try.f139 [.val (.slice (.int .i64))] [.str] true false (a0, ()) = impl_vars.t k (impl_vars.V0 k a0 k) a0 := by kernel_rfl
theorem impl_vars.eq (k : Nat) (a0 : List Int) : run (impl_vars.E k) Try.f139 [.val (.slice (.int .i64))] [.str] true false (a0, ()) = impl_vars.f k a0 := by
  rw [impl_vars.q, impl_vars.e0]
  rfl
theorem impl_vars.ctr (k : Nat) : Ctr Try.prog 139 ⟨[.val (.slice (.int .i64))], [.str], true, false, fun x => impl_vars.f k x.1⟩ :=
  run_ctr (E := impl_vars.E k) mixed tb_ok (eqOk_of tb_eqs) (Cts.cons (impl_Var.ctr k) Cts.nil) (by kernel_rfl) Try.func139 (by kernel_rfl) rfl (fun ⟨a0, _⟩ r h => (impl_vars.eq k a0).trans h)
def impl_textOf.E (k : Nat) : Env := ⟨tb, [(140, ⟨[.val (.int .i64)], [.str], true, false, fun x => impl_Var.f k x.1⟩)], [], k, 0, []⟩
theorem impl_textOf.q (k : Nat) (a0 : ByteArray) : run (impl_textOf.E k) Try.f135 [.val .str] [.str] true false (a0, ()) = impl_textOf.t k a0 := by kernel_rfl
theorem impl_textOf.eq (k : Nat) (a0 : ByteArray) : run (impl_textOf.E k) Try.f135 [.val .str] [.str] true false (a0, ()) = impl_textOf.f k a0 := by
  rw [impl_textOf.q]
  rfl
theorem impl_textOf.ctr (k : Nat) : Ctr Try.prog 135 ⟨[.val .str], [.str], true, false, fun x => impl_textOf.f k x.1⟩ :=
  run_ctr (E := impl_textOf.E k) mixed tb_ok (eqOk_of tb_eqs) (Cts.cons (impl_Var.ctr k) Cts.nil) (by kernel_rfl) Try.func135 (by kernel_rfl) rfl (fun ⟨a0, _⟩ r h => (impl_textOf.eq k a0).trans h)
def impl_Fixed.E (k : Nat) : Env := ⟨tb, [(77, ⟨[.val (.int .i64), .val (.int .i64), .val (.int .i64)], [.bool], true, false, fun x => impl_in.f k x.1 x.2.1 x.2.2.1⟩)], [(5, [0, 5, 6])], k, 0, []⟩
noncomputable def impl_Fixed.K0 (k : Nat) (a0 : Int) (a1 : Int) : Ex → St → Option (ByteArray × Unit) := runK (impl_Fixed.E k) (endK (impl_Fixed.E k) Try.f136.results.toList [.val (.int .i64), .val (.int .i64)] (a0, a1, ()) [.str] true false) [.blk 0, .code (at_ [true, true, true, true] (body Try.f136))]
noncomputable def impl_Fixed.B0 (k : Nat) (a0 : Int) (a1 : Int) (n0 : Nat) : Ex → St → Option (ByteArray × Unit) := fun e st => match e with
  | .normal => loopN (exec (impl_Fixed.E k) (at_ [true, true, true, false, true, false, false] (body Try.f136))) (canon 0 [0, 5, 6]) (impl_Fixed.K0 k a0 a1) n0 (canon 0 [0, 5, 6] st)
  | .ret => impl_Fixed.K0 k a0 a1 .ret st
  | .exit j => impl_Fixed.K0 k a0 a1 (.exit j) st
noncomputable def impl_Fixed.V0 (k : Nat) (a0 : Int) (a1 : Int) (n0 : Nat) (x0_0 : Int) (x0_1 : Int) (x0_2 : List Int) : Option (ByteArray × Unit) := loopN (exec (impl_Fixed.E k) (at_ [true, true, true, false, true, false, false] (body Try.f136))) (canon 0 [0, 5, 6]) (impl_Fixed.K0 k a0 a1) n0 (mk 35 1 [(0, .int .i64 x0_0), (5, .ref 0), (6, .int .i64 x0_1)] [(0, .own false (.int .u8) x0_2)])
theorem impl_Fixed.s0 (k : Nat) (a0 : Int) (a1 : Int) (n0 : Nat) (x0_0 : Int) (x0_1 : Int) (x0_2 : List Int) : impl_Fixed.V0 k a0 a1 (n0 + 1) x0_0 x0_1 x0_2 = impl_Fixed.b0 k (impl_Fixed.V0 k a0 a1 n0) x0_0 x0_1 x0_2 := by kernel_rfl
theorem impl_Fixed.e0 (k : Nat) (a0 : Int) (a1 : Int) (n0 : Nat) : impl_Fixed.V0 k a0 a1 n0 = impl_Fixed.l0 k n0 := by
  induction n0 with
  | zero => rfl
  | succ n0 ih =>
    have h : impl_Fixed.V0 k a0 a1 (n0 + 1) = impl_Fixed.b0 k (impl_Fixed.V0 k a0 a1 n0) := funext fun x0_0 => funext fun x0_1 => funext fun x0_2 => impl_Fixed.s0 k a0 a1 n0 x0_0 x0_1 x0_2
    rw [h, ih]
    rfl
theorem impl_Fixed.q (k : Nat) (a0 : Int) (a1 : Int) : run (impl_Fixed.E k) Try.f136 [.val (.int .i64), .val (.int .i64)] [.str] true false (a0, a1, ()) = impl_Fixed.t k (impl_Fixed.V0 k a0 a1 k) a0 a1 := by kernel_rfl
theorem impl_Fixed.eq (k : Nat) (a0 : Int) (a1 : Int) : run (impl_Fixed.E k) Try.f136 [.val (.int .i64), .val (.int .i64)] [.str] true false (a0, a1, ()) = impl_Fixed.f k a0 a1 := by
  rw [impl_Fixed.q, impl_Fixed.e0]
  rfl
theorem impl_Fixed.ctr (k : Nat) : Ctr Try.prog 136 ⟨[.val (.int .i64), .val (.int .i64)], [.str], true, false, fun x => impl_Fixed.f k x.1 x.2.1⟩ :=
  run_ctr (E := impl_Fixed.E k) mixed tb_ok (eqOk_of tb_eqs) (Cts.cons (impl_in.ctr k) Cts.nil) (by kernel_rfl) Try.func136 (by kernel_rfl) rfl (fun ⟨a0, a1, _⟩ r h => (impl_Fixed.eq k a0 a1).trans h)
def impl_ShowRec.E (k : Nat) : Env := ⟨tb, [(138, ⟨[.val TRec], [.bool], true, false, fun x => impl_RecOk.f k x.1⟩), (139, ⟨[.val (.slice (.int .i64))], [.str], true, false, fun x => impl_vars.f k x.1⟩), (135, ⟨[.val .str], [.str], true, false, fun x => impl_textOf.f k x.1⟩), (140, ⟨[.val (.int .i64)], [.str], true, false, fun x => impl_Var.f k x.1⟩), (136, ⟨[.val (.int .i64), .val (.int .i64)], [.str], true, false, fun x => impl_Fixed.f k x.1 x.2.1⟩)], [], k, 0, []⟩
theorem impl_ShowRec.q (k : Nat) (a0 : Ty.den TRec) : run (impl_ShowRec.E k) Try.f114 [.val TRec] [.str] true false (a0, ()) = impl_ShowRec.t k a0 := by kernel_rfl
theorem impl_ShowRec.eq (k : Nat) (a0 : Ty.den TRec) : run (impl_ShowRec.E k) Try.f114 [.val TRec] [.str] true false (a0, ()) = impl_ShowRec.f k a0 := by
  rw [impl_ShowRec.q]
  rfl
theorem impl_ShowRec.ctr (k : Nat) : Ctr Try.prog 114 ⟨[.val TRec], [.str], true, false, fun x => impl_ShowRec.f k x.1⟩ :=
  run_ctr (E := impl_ShowRec.E k) mixed tb_ok (eqOk_of tb_eqs) (Cts.cons (impl_RecOk.ctr k) (Cts.cons (impl_vars.ctr k) (Cts.cons (impl_textOf.ctr k) (Cts.cons (impl_Var.ctr k) (Cts.cons (impl_Fixed.ctr k) Cts.nil))))) (by kernel_rfl) Try.func114 (by kernel_rfl) rfl (fun ⟨a0, _⟩ r h => (impl_ShowRec.eq k a0).trans h)
def impl_Crc.E (k : Nat) : Env := ⟨tb, [], [(3, [0, 3, 4]), (7, [0, 3, 4, 18])], k, 0, []⟩
noncomputable def impl_Crc.K0 (k : Nat) (a0 : ByteArray) : Ex → St → Option (Int × Unit) := runK (impl_Crc.E k) (endK (impl_Crc.E k) Try.f137.results.toList [.val .str] (a0, ()) [(.int .i64)] true false) [.blk 0, .code (at_ [true, true, true] (body Try.f137))]
noncomputable def impl_Crc.B0 (k : Nat) (a0 : ByteArray) (n0 : Nat) : Ex → St → Option (Int × Unit) := fun e st => match e with
  | .normal => loopN (exec (impl_Crc.E k) (at_ [true, true, false, true, false, false] (body Try.f137))) (canon 0 [0, 3, 4]) (impl_Crc.K0 k a0) n0 (canon 0 [0, 3, 4] st)
  | .ret => impl_Crc.K0 k a0 .ret st
  | .exit j => impl_Crc.K0 k a0 (.exit j) st
noncomputable def impl_Crc.K1 (k : Nat) (a0 : ByteArray) (n0 : Nat) : Ex → St → Option (Int × Unit) := runK (impl_Crc.E k) (impl_Crc.B0 k a0 n0) [.blk 2, .blk 1, .code (at_ [true, true, false, true, false, false, true, true] (body Try.f137))]
noncomputable def impl_Crc.B1 (k : Nat) (a0 : ByteArray) (n0 n1 : Nat) : Ex → St → Option (Int × Unit) := fun e st => match e with
  | .normal => loopN (exec (impl_Crc.E k) (at_ [true, true, false, true, false, false, true, false, false, true, true, false, false] (body Try.f137))) (canon 0 [0, 3, 4, 18]) (impl_Crc.K1 k a0 n0) n1 (canon 0 [0, 3, 4, 18] st)
  | .ret => impl_Crc.K1 k a0 n0 .ret st
  | .exit j => impl_Crc.K1 k a0 n0 (.exit j) st
noncomputable def impl_Crc.V0 (k : Nat) (a0 : ByteArray) (n0 : Nat) (x0_0 : ByteArray) (x0_1 : Int) (x0_2 : Int) : Option (Int × Unit) := loopN (exec (impl_Crc.E k) (at_ [true, true, false, true, false, false] (body Try.f137))) (canon 0 [0, 3, 4]) (impl_Crc.K0 k a0) n0 (mk 32 0 [(0, .str x0_0), (3, .int .u32 x0_1), (4, .int .i64 x0_2)] [])
noncomputable def impl_Crc.V1 (k : Nat) (a0 : ByteArray) (n0 n1 : Nat) (x1_0 : ByteArray) (x1_1 : Int) (x1_2 : Int) (x1_3 : Int) : Option (Int × Unit) := loopN (exec (impl_Crc.E k) (at_ [true, true, false, true, false, false, true, false, false, true, true, false, false] (body Try.f137))) (canon 0 [0, 3, 4, 18]) (impl_Crc.K1 k a0 n0) n1 (mk 32 0 [(0, .str x1_0), (3, .int .u32 x1_1), (4, .int .i64 x1_2), (18, .int .i64 x1_3)] [])
theorem impl_Crc.s0 (k : Nat) (a0 : ByteArray) (n0 : Nat) (x0_0 : ByteArray) (x0_1 : Int) (x0_2 : Int) : impl_Crc.V0 k a0 (n0 + 1) x0_0 x0_1 x0_2 = impl_Crc.b0 k (impl_Crc.V1 k a0 n0 k) (impl_Crc.V0 k a0 n0) x0_0 x0_1 x0_2 := by kernel_rfl
theorem impl_Crc.s1 (k : Nat) (a0 : ByteArray) (n0 n1 : Nat) (x1_0 : ByteArray) (x1_1 : Int) (x1_2 : Int) (x1_3 : Int) : impl_Crc.V1 k a0 n0 (n1 + 1) x1_0 x1_1 x1_2 x1_3 = impl_Crc.b1 k (impl_Crc.V0 k a0 n0) (impl_Crc.V1 k a0 n0 n1) x1_0 x1_1 x1_2 x1_3 := by kernel_rfl
theorem impl_Crc.e1 (k : Nat) (a0 : ByteArray) (n0 n1 : Nat) : impl_Crc.V1 k a0 n0 n1 = impl_Crc.l1 k (impl_Crc.V0 k a0 n0) n1 := by
  induction n1 with
  | zero => rfl
  | succ n1 ih =>
    have h : impl_Crc.V1 k a0 n0 (n1 + 1) = impl_Crc.b1 k (impl_Crc.V0 k a0 n0) (impl_Crc.V1 k a0 n0 n1) := funext fun x1_0 => funext fun x1_1 => funext fun x1_2 => funext fun x1_3 => impl_Crc.s1 k a0 n0 n1 x1_0 x1_1 x1_2 x1_3
    rw [h, ih]
    rfl
theorem impl_Crc.e0 (k : Nat) (a0 : ByteArray) (n0 : Nat) : impl_Crc.V0 k a0 n0 = impl_Crc.l0 k n0 := by
  induction n0 with
  | zero => rfl
  | succ n0 ih =>
    have h : impl_Crc.V0 k a0 (n0 + 1) = impl_Crc.b0 k (impl_Crc.V1 k a0 n0 k) (impl_Crc.V0 k a0 n0) := funext fun x0_0 => funext fun x0_1 => funext fun x0_2 => impl_Crc.s0 k a0 n0 x0_0 x0_1 x0_2
    rw [h, impl_Crc.e1, ih]
    rfl
theorem impl_Crc.q (k : Nat) (a0 : ByteArray) : run (impl_Crc.E k) Try.f137 [.val .str] [(.int .i64)] true false (a0, ()) = impl_Crc.t k (impl_Crc.V0 k a0 k) a0 := by kernel_rfl
theorem impl_Crc.eq (k : Nat) (a0 : ByteArray) : run (impl_Crc.E k) Try.f137 [.val .str] [(.int .i64)] true false (a0, ()) = impl_Crc.f k a0 := by
  rw [impl_Crc.q, impl_Crc.e0]
  rfl
theorem impl_Crc.ctr (k : Nat) : Ctr Try.prog 137 ⟨[.val .str], [(.int .i64)], true, false, fun x => impl_Crc.f k x.1⟩ :=
  run_ctr (E := impl_Crc.E k) mixed tb_ok (eqOk_of tb_eqs) Cts.nil (by kernel_rfl) Try.func137 (by kernel_rfl) rfl (fun ⟨a0, _⟩ r h => (impl_Crc.eq k a0).trans h)
def impl_SumOf.E (k : Nat) : Env := ⟨tb, [(114, ⟨[.val TRec], [.str], true, false, fun x => impl_ShowRec.f k x.1⟩), (137, ⟨[.val .str], [(.int .i64)], true, false, fun x => impl_Crc.f k x.1⟩)], [(3, [3, 6, 7, 8])], k, 0, []⟩
noncomputable def impl_SumOf.K0 (k : Nat) (a0 : List (Ty.den TRec)) : Ex → St → Option (Int × Unit) := runK (impl_SumOf.E k) (endK (impl_SumOf.E k) Try.f134.results.toList [.val (.slice TRec)] (a0, ()) [(.int .i64)] true false) [.blk 0, .code (at_ [true, true, true] (body Try.f134))]
noncomputable def impl_SumOf.B0 (k : Nat) (a0 : List (Ty.den TRec)) (n0 : Nat) : Ex → St → Option (Int × Unit) := fun e st => match e with
  | .normal => loopN (exec (impl_SumOf.E k) (at_ [true, true, false, true, false, false] (body Try.f134))) (canon 0 [3, 6, 7, 8]) (impl_SumOf.K0 k a0) n0 (canon 0 [3, 6, 7, 8] st)
  | .ret => impl_SumOf.K0 k a0 .ret st
  | .exit j => impl_SumOf.K0 k a0 (.exit j) st
noncomputable def impl_SumOf.V0 (k : Nat) (a0 : List (Ty.den TRec)) (n0 : Nat) (x0_0 : ByteArray) (x0_1 : List (Ty.den TRec)) (x0_2 : Int) (x0_3 : Int) : Option (Int × Unit) := loopN (exec (impl_SumOf.E k) (at_ [true, true, false, true, false, false] (body Try.f134))) (canon 0 [3, 6, 7, 8]) (impl_SumOf.K0 k a0) n0 (mk 19 0 [(3, .str x0_0), (6, .sl true TRec x0_1), (7, .int .i64 x0_2), (8, .int .i64 x0_3)] [])
theorem impl_SumOf.s0 (k : Nat) (a0 : List (Ty.den TRec)) (n0 : Nat) (x0_0 : ByteArray) (x0_1 : List (Ty.den TRec)) (x0_2 : Int) (x0_3 : Int) : impl_SumOf.V0 k a0 (n0 + 1) x0_0 x0_1 x0_2 x0_3 = impl_SumOf.b0 k (impl_SumOf.V0 k a0 n0) x0_0 x0_1 x0_2 x0_3 := by kernel_rfl
theorem impl_SumOf.e0 (k : Nat) (a0 : List (Ty.den TRec)) (n0 : Nat) : impl_SumOf.V0 k a0 n0 = impl_SumOf.l0 k n0 := by
  induction n0 with
  | zero => rfl
  | succ n0 ih =>
    have h : impl_SumOf.V0 k a0 (n0 + 1) = impl_SumOf.b0 k (impl_SumOf.V0 k a0 n0) := funext fun x0_0 => funext fun x0_1 => funext fun x0_2 => funext fun x0_3 => impl_SumOf.s0 k a0 n0 x0_0 x0_1 x0_2 x0_3
    rw [h, ih]
    rfl
theorem impl_SumOf.q (k : Nat) (a0 : List (Ty.den TRec)) : run (impl_SumOf.E k) Try.f134 [.val (.slice TRec)] [(.int .i64)] true false (a0, ()) = impl_SumOf.t k (impl_SumOf.V0 k a0 k) a0 := by kernel_rfl
theorem impl_SumOf.eq (k : Nat) (a0 : List (Ty.den TRec)) : run (impl_SumOf.E k) Try.f134 [.val (.slice TRec)] [(.int .i64)] true false (a0, ()) = impl_SumOf.f k a0 := by
  rw [impl_SumOf.q, impl_SumOf.e0]
  rfl
theorem impl_SumOf.ctr (k : Nat) : Ctr Try.prog 134 ⟨[.val (.slice TRec)], [(.int .i64)], true, false, fun x => impl_SumOf.f k x.1⟩ :=
  run_ctr (E := impl_SumOf.E k) mixed tb_ok (eqOk_of tb_eqs) (Cts.cons (impl_ShowRec.ctr k) (Cts.cons (impl_Crc.ctr k) Cts.nil)) (by kernel_rfl) Try.func134 (by kernel_rfl) rfl (fun ⟨a0, _⟩ r h => (impl_SumOf.eq k a0).trans h)
def impl_keeps.E (k : Nat) : Env := ⟨tb, [(134, ⟨[.val (.slice TRec)], [(.int .i64)], true, false, fun x => impl_SumOf.f k x.1⟩)], [(3, [0, 1, 5, 8, 9, 10])], k, 0, []⟩
noncomputable def impl_keeps.K0 (k : Nat) (a0 : List (Ty.den TPair)) (a1 : Int) : Ex → St → Option ((List (Ty.den TRec)) × Unit) := runK (impl_keeps.E k) (endK (impl_keeps.E k) Try.f112.results.toList [.val (.slice TPair), .val (.int .i64)] (a0, a1, ()) [(.slice TRec)] true false) [.blk 0, .code (at_ [true, true, true] (body Try.f112))]
noncomputable def impl_keeps.B0 (k : Nat) (a0 : List (Ty.den TPair)) (a1 : Int) (n0 : Nat) : Ex → St → Option ((List (Ty.den TRec)) × Unit) := fun e st => match e with
  | .normal => loopN (exec (impl_keeps.E k) (at_ [true, true, false, true, false, false] (body Try.f112))) (canon 0 [0, 1, 5, 8, 9, 10]) (impl_keeps.K0 k a0 a1) n0 (canon 0 [0, 1, 5, 8, 9, 10] st)
  | .ret => impl_keeps.K0 k a0 a1 .ret st
  | .exit j => impl_keeps.K0 k a0 a1 (.exit j) st
noncomputable def impl_keeps.V0 (k : Nat) (a0 : List (Ty.den TPair)) (a1 : Int) (n0 : Nat) (x0_0 : List (Ty.den TPair)) (x0_1 : Int) (x0_2 : List (Ty.den TPair)) (x0_3 : Int) (x0_4 : Int) (x0_5 : List (Ty.den TRec)) : Option ((List (Ty.den TRec)) × Unit) := loopN (exec (impl_keeps.E k) (at_ [true, true, false, true, false, false] (body Try.f112))) (canon 0 [0, 1, 5, 8, 9, 10]) (impl_keeps.K0 k a0 a1) n0 (mk 34 1 [(0, .sl true TPair x0_0), (1, .int .i64 x0_1), (5, .ref 0), (8, .sl true TPair x0_2), (9, .int .i64 x0_3), (10, .int .i64 x0_4)] [(0, .own false TRec x0_5)])
theorem impl_keeps.s0 (k : Nat) (a0 : List (Ty.den TPair)) (a1 : Int) (n0 : Nat) (x0_0 : List (Ty.den TPair)) (x0_1 : Int) (x0_2 : List (Ty.den TPair)) (x0_3 : Int) (x0_4 : Int) (x0_5 : List (Ty.den TRec)) : impl_keeps.V0 k a0 a1 (n0 + 1) x0_0 x0_1 x0_2 x0_3 x0_4 x0_5 = impl_keeps.b0 k (impl_keeps.V0 k a0 a1 n0) x0_0 x0_1 x0_2 x0_3 x0_4 x0_5 := by kernel_rfl
theorem impl_keeps.e0 (k : Nat) (a0 : List (Ty.den TPair)) (a1 : Int) (n0 : Nat) : impl_keeps.V0 k a0 a1 n0 = impl_keeps.l0 k n0 := by
  induction n0 with
  | zero => rfl
  | succ n0 ih =>
    have h : impl_keeps.V0 k a0 a1 (n0 + 1) = impl_keeps.b0 k (impl_keeps.V0 k a0 a1 n0) := funext fun x0_0 => funext fun x0_1 => funext fun x0_2 => funext fun x0_3 => funext fun x0_4 => funext fun x0_5 => impl_keeps.s0 k a0 a1 n0 x0_0 x0_1 x0_2 x0_3 x0_4 x0_5
    rw [h, ih]
    rfl
theorem impl_keeps.q (k : Nat) (a0 : List (Ty.den TPair)) (a1 : Int) : run (impl_keeps.E k) Try.f112 [.val (.slice TPair), .val (.int .i64)] [(.slice TRec)] true false (a0, a1, ()) = impl_keeps.t k (impl_keeps.V0 k a0 a1 k) a0 a1 := by kernel_rfl
theorem impl_keeps.eq (k : Nat) (a0 : List (Ty.den TPair)) (a1 : Int) : run (impl_keeps.E k) Try.f112 [.val (.slice TPair), .val (.int .i64)] [(.slice TRec)] true false (a0, a1, ()) = impl_keeps.f k a0 a1 := by
  rw [impl_keeps.q, impl_keeps.e0]
  rfl
theorem impl_keeps.ctr (k : Nat) : Ctr Try.prog 112 ⟨[.val (.slice TPair), .val (.int .i64)], [(.slice TRec)], true, false, fun x => impl_keeps.f k x.1 x.2.1⟩ :=
  run_ctr (E := impl_keeps.E k) mixed tb_ok (eqOk_of tb_eqs) (Cts.cons (impl_SumOf.ctr k) Cts.nil) (by kernel_rfl) Try.func112 (by kernel_rfl) rfl (fun ⟨a0, a1, _⟩ r h => (impl_keeps.eq k a0 a1).trans h)
def impl_Frame.E (k : Nat) : Env := ⟨tb, [(135, ⟨[.val .str], [.str], true, false, fun x => impl_textOf.f k x.1⟩), (137, ⟨[.val .str], [(.int .i64)], true, false, fun x => impl_Crc.f k x.1⟩), (136, ⟨[.val (.int .i64), .val (.int .i64)], [.str], true, false, fun x => impl_Fixed.f k x.1 x.2.1⟩)], [], k, 0, []⟩
theorem impl_Frame.q (k : Nat) (a0 : ByteArray) : run (impl_Frame.E k) Try.f113 [.val .str] [.str] true false (a0, ()) = impl_Frame.t k a0 := by kernel_rfl
theorem impl_Frame.eq (k : Nat) (a0 : ByteArray) : run (impl_Frame.E k) Try.f113 [.val .str] [.str] true false (a0, ()) = impl_Frame.f k a0 := by
  rw [impl_Frame.q]
  rfl
theorem impl_Frame.ctr (k : Nat) : Ctr Try.prog 113 ⟨[.val .str], [.str], true, false, fun x => impl_Frame.f k x.1⟩ :=
  run_ctr (E := impl_Frame.E k) mixed tb_ok (eqOk_of tb_eqs) (Cts.cons (impl_textOf.ctr k) (Cts.cons (impl_Crc.ctr k) (Cts.cons (impl_Fixed.ctr k) Cts.nil))) (by kernel_rfl) Try.func113 (by kernel_rfl) rfl (fun ⟨a0, _⟩ r h => (impl_Frame.eq k a0).trans h)
def impl_ShowPairs.E (k : Nat) : Env := ⟨tb, [(18, ⟨[.val (.slice TPair)], [.bool], true, false, fun x => impl_PairsOk.f k x.1⟩), (112, ⟨[.val (.slice TPair), .val (.int .i64)], [(.slice TRec)], true, false, fun x => impl_keeps.f k x.1 x.2.1⟩), (114, ⟨[.val TRec], [.str], true, false, fun x => impl_ShowRec.f k x.1⟩), (113, ⟨[.val .str], [.str], true, false, fun x => impl_Frame.f k x.1⟩)], [(5, [3, 10, 11, 12])], k, 0, []⟩
noncomputable def impl_ShowPairs.K0 (k : Nat) (a0 : List (Ty.den TPair)) : Ex → St → Option (ByteArray × Unit) := runK (impl_ShowPairs.E k) (endK (impl_ShowPairs.E k) Try.f71.results.toList [.val (.slice TPair)] (a0, ()) [.str] true false) [.blk 0, .code (at_ [true, true, true, true] (body Try.f71))]
noncomputable def impl_ShowPairs.B0 (k : Nat) (a0 : List (Ty.den TPair)) (n0 : Nat) : Ex → St → Option (ByteArray × Unit) := fun e st => match e with
  | .normal => loopN (exec (impl_ShowPairs.E k) (at_ [true, true, true, false, true, false, false] (body Try.f71))) (canon 0 [3, 10, 11, 12]) (impl_ShowPairs.K0 k a0) n0 (canon 0 [3, 10, 11, 12] st)
  | .ret => impl_ShowPairs.K0 k a0 .ret st
  | .exit j => impl_ShowPairs.K0 k a0 (.exit j) st
noncomputable def impl_ShowPairs.V0 (k : Nat) (a0 : List (Ty.den TPair)) (n0 : Nat) (x0_0 : ByteArray) (x0_1 : Int) (x0_2 : Int) (x0_3 : List (Ty.den TRec)) : Option (ByteArray × Unit) := loopN (exec (impl_ShowPairs.E k) (at_ [true, true, true, false, true, false, false] (body Try.f71))) (canon 0 [3, 10, 11, 12]) (impl_ShowPairs.K0 k a0) n0 (mk 23 1 [(3, .str x0_0), (10, .ref 0), (11, .int .i64 x0_1), (12, .int .i64 x0_2)] [(0, .own false TRec x0_3)])
theorem impl_ShowPairs.s0 (k : Nat) (a0 : List (Ty.den TPair)) (n0 : Nat) (x0_0 : ByteArray) (x0_1 : Int) (x0_2 : Int) (x0_3 : List (Ty.den TRec)) : impl_ShowPairs.V0 k a0 (n0 + 1) x0_0 x0_1 x0_2 x0_3 = impl_ShowPairs.b0 k (impl_ShowPairs.V0 k a0 n0) x0_0 x0_1 x0_2 x0_3 := by kernel_rfl
theorem impl_ShowPairs.e0 (k : Nat) (a0 : List (Ty.den TPair)) (n0 : Nat) : impl_ShowPairs.V0 k a0 n0 = impl_ShowPairs.l0 k n0 := by
  induction n0 with
  | zero => rfl
  | succ n0 ih =>
    have h : impl_ShowPairs.V0 k a0 (n0 + 1) = impl_ShowPairs.b0 k (impl_ShowPairs.V0 k a0 n0) := funext fun x0_0 => funext fun x0_1 => funext fun x0_2 => funext fun x0_3 => impl_ShowPairs.s0 k a0 n0 x0_0 x0_1 x0_2 x0_3
    rw [h, ih]
    rfl
theorem impl_ShowPairs.q (k : Nat) (a0 : List (Ty.den TPair)) : run (impl_ShowPairs.E k) Try.f71 [.val (.slice TPair)] [.str] true false (a0, ()) = impl_ShowPairs.t k (impl_ShowPairs.V0 k a0 k) a0 := by kernel_rfl
theorem impl_ShowPairs.eq (k : Nat) (a0 : List (Ty.den TPair)) : run (impl_ShowPairs.E k) Try.f71 [.val (.slice TPair)] [.str] true false (a0, ()) = impl_ShowPairs.f k a0 := by
  rw [impl_ShowPairs.q, impl_ShowPairs.e0]
  rfl
theorem impl_ShowPairs.ctr (k : Nat) : Ctr Try.prog 71 ⟨[.val (.slice TPair)], [.str], true, false, fun x => impl_ShowPairs.f k x.1⟩ :=
  run_ctr (E := impl_ShowPairs.E k) mixed tb_ok (eqOk_of tb_eqs) (Cts.cons (impl_PairsOk.ctr k) (Cts.cons (impl_keeps.ctr k) (Cts.cons (impl_ShowRec.ctr k) (Cts.cons (impl_Frame.ctr k) Cts.nil)))) (by kernel_rfl) Try.func71 (by kernel_rfl) rfl (fun ⟨a0, _⟩ r h => (impl_ShowPairs.eq k a0).trans h)
def laws_FnExactShowPairs.E (k : Nat) : Env := ⟨tb, [(15, ⟨[.val (.slice TPair), .val (.int .i64)], [(.int .i64)], true, false, fun x => laws_szPairS.f k x.1 x.2.1⟩), (17, ⟨[.val (.slice TPair)], [(.slice TPair)], true, false, fun x => laws_toPairS.f k x.1⟩), (70, ⟨[.val (.slice TPair)], [.str], true, false, fun x => spec_ShowPairs.f k x.1⟩), (71, ⟨[.val (.slice TPair)], [.str], true, false, fun x => impl_ShowPairs.f k x.1⟩), (19, ⟨[.val (.slice TPair), .val (.slice TPair)], [.bool], true, false, fun x => laws_eqPairS.f k x.1 x.2.1⟩)], [], k, 0, []⟩
theorem laws_FnExactShowPairs.q (k : Nat) (a0 : List (Ty.den TPair)) : run (laws_FnExactShowPairs.E k) Try.f14 [.val (.slice TPair)] [.bool] true false (a0, ()) = laws_FnExactShowPairs.t k a0 := by kernel_rfl
theorem laws_FnExactShowPairs.eq (k : Nat) (a0 : List (Ty.den TPair)) : run (laws_FnExactShowPairs.E k) Try.f14 [.val (.slice TPair)] [.bool] true false (a0, ()) = laws_FnExactShowPairs.f k a0 := by
  rw [laws_FnExactShowPairs.q]
  rfl
theorem laws_FnExactShowPairs.ctr (k : Nat) : Ctr Try.prog 14 ⟨[.val (.slice TPair)], [.bool], true, false, fun x => laws_FnExactShowPairs.f k x.1⟩ :=
  run_ctr (E := laws_FnExactShowPairs.E k) mixed tb_ok (eqOk_of tb_eqs) (Cts.cons (laws_szPairS.ctr k) (Cts.cons (laws_toPairS.ctr k) (Cts.cons (spec_ShowPairs.ctr k) (Cts.cons (impl_ShowPairs.ctr k) (Cts.cons (laws_eqPairS.ctr k) Cts.nil))))) (by kernel_rfl) Try.func14 (by kernel_rfl) rfl (fun ⟨a0, _⟩ r h => (laws_FnExactShowPairs.eq k a0).trans h)
end Go.Proofs.Ytlbpalfjmjmimaa.G

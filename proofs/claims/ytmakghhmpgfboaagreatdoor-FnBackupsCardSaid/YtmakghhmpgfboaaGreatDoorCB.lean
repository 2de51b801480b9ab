/- Functions keep their contracts. -/
import Derived.Test.YtmakghhmpgfboaaGreatDoorVTab
import Derived.Test.YtmakghhmpgfboaaGreatDoorFB
import Derived.Test.YtmakghhmpgfboaaGreatDoorCLib
set_option linter.unusedVariables false
set_option maxRecDepth 100000
namespace Go.Proofs.YtmakghhmpgfboaaGreatDoor.G
open Go.V
noncomputable section
namespace laws_big
def C (k:Nat):Cn:=⟨[.val (.slice (.int .u8))],[.bool],true,false,fun x=>f k x.1⟩
def E (k:Nat):Env:=en [] [] 0 [] k
theorem eq (k:Nat) (a0:List Int):rn (E k) Tryz.f5 (C k) (a0,())=f k a0:=by kernel_rfl
theorem ctr (k:Nat):Cp 5 (C k):=rc rfl [] (by kernel_rfl) Tryz.func5 (by kernel_rfl) rfl fun ⟨a0,_⟩ r h=>(eq k a0).trans h
end laws_big
namespace spec_l1New
def C (k:Nat):Cn:=⟨[.val (.slice (.int .u8))],[.opq,Tl1Cur],false,true,fun x=>f k x.1⟩
def E (k:Nat):Env:=en [] [(3,[0,3,4])] 0 [] k
section
variable (k:Nat) (a0:List Int)
def K0:Ex→St→Rs:=runK (E k) (eB (E k) Tryz.f24 (C k) (a0,())) [.blk 0,.code (at_ (bt 3 7) (body Tryz.f24))]
def V0 (n0:Nat):T0:=fun x0 x1 x2=>loopN (exec (E k) (at_ (bt 6 11) (body Tryz.f24))) (canon 0 [0,3,4]) (K0 k a0) n0 (mk 32 0 [(0,.sl true (.int .u8) x0),(3,.int .i64 x1),(4,.int .i64 x2)] [])
theorem s0 (n0:Nat):V0 k a0 (n0+1)=b0 k (V0 k a0 n0):=by kernel_rfl
theorem e0:V0 k a0=l0 k:=loop_eq rfl (s0 k a0) fun _=>rfl
end
theorem eq (k:Nat) (a0:List Int):rb (E k) Tryz.f24 (C k) (a0,())=f k a0:=(show _=t k (V0 k a0 k) a0 by kernel_rfl).trans (by rw [e0];rfl)
theorem ctr (k:Nat):Cp 24 (C k):=rcb rfl rfl rfl [] (by kernel_rfl) Tryz.func24 (by kernel_rfl) rfl fun ⟨a0,_⟩ r h=>(eq k a0).trans h
end spec_l1New
namespace spec_l1Byte
def C (k:Nat):Cn:=⟨[.io false Tl1Cur],[(.int .i64)],true,true,fun x=>f k x.1⟩
def E (k:Nat):Env:=en [] [] 1 [] k
theorem eq (k:Nat) (a0:Ty.den Tl1Cur):rn (E k) Tryz.f111 (C k) (a0,())=f k a0:=by kernel_rfl
theorem ctr (k:Nat):Cp 111 (C k):=rc rfl [] (by kernel_rfl) Tryz.func111 (by kernel_rfl) rfl fun ⟨a0,_⟩ r h=>(eq k a0).trans h
end spec_l1Byte
namespace spec_l1Below
def C (k:Nat):Cn:=⟨[.io false Tl1Cur,.val (.int .i64)],[(.int .i64)],true,true,fun x=>f k x.1 x.2.1⟩
def D (k:Nat):List Ce:=[q (spec_l1Byte.ctr k)]
def E (k:Nat):Env:=en (D k) [] 1 [] k
theorem eq (k:Nat) (a0:Ty.den Tl1Cur) (a1:Int):rn (E k) Tryz.f63 (C k) (a0,a1,())=f k a0 a1:=by kernel_rfl
theorem ctr (k:Nat):Cp 63 (C k):=rc rfl (D k) (by kernel_rfl) Tryz.func63 (by kernel_rfl) rfl fun ⟨a0,a1,_⟩ r h=>(eq k a0 a1).trans h
end spec_l1Below
namespace spec_l1Pick
def C (k:Nat):Cn:=⟨[.io false Tl1Cur,.val (.slice .str)],[.str],true,true,fun x=>f k x.1 x.2.1⟩
def D (k:Nat):List Ce:=[q (spec_l1Below.ctr k)]
def E (k:Nat):Env:=en (D k) [] 1 [] k
theorem eq (k:Nat) (a0:Ty.den Tl1Cur) (a1:List ByteArray):rn (E k) Tryz.f64 (C k) (a0,a1,())=f k a0 a1:=by kernel_rfl
theorem ctr (k:Nat):Cp 64 (C k):=rc rfl (D k) (by kernel_rfl) Tryz.func64 (by kernel_rfl) rfl fun ⟨a0,a1,_⟩ r h=>(eq k a0 a1).trans h
end spec_l1Pick
namespace spec_l5Key
def C (k:Nat):Cn:=⟨[.io false Tl1Cur],[.str],true,true,fun x=>f k x.1⟩
def D (k:Nat):List Ce:=[q (spec_l1Pick.ctr k)]
def E (k:Nat):Env:=en (D k) [] 1 [] k
theorem eq (k:Nat) (a0:Ty.den Tl1Cur):rn (E k) Tryz.f48 (C k) (a0,())=f k a0:=by kernel_rfl
theorem ctr (k:Nat):Cp 48 (C k):=rc rfl (D k) (by kernel_rfl) Tryz.func48 (by kernel_rfl) rfl fun ⟨a0,_⟩ r h=>(eq k a0).trans h
end spec_l5Key
namespace spec_l1Text
def C (k:Nat):Cn:=⟨[.io false Tl1Cur,.val (.int .i64)],[.str],true,true,fun x=>f k x.1 x.2.1⟩
def D (k:Nat):List Ce:=[q (spec_l1Below.ctr k),q (spec_l1Byte.ctr k)]
def E (k:Nat):Env:=en (D k) [(4,[0,5,6,7])] 1 [] k
section
variable (k:Nat) (a0:Ty.den Tl1Cur) (a1:Int)
def K0:Ex→St→Rs:=runK (E k) (eK (E k) Tryz.f90 (C k) (a0,a1,())) [.blk 0,.code (at_ (bt 4 15) (body Tryz.f90))]
def V0 (n0:Nat):T0:=fun x0 x1 x2 x3 x4 x5=>loopN (exec (E k) (at_ (bt 7 23) (body Tryz.f90))) (canon 1 [0,5,6,7]) (K0 k a0 a1) n0 (mk 38 2 [(0,.ptr 0 0 0),(5,.ref 1),(6,.int .i64 x0),(7,.int .i64 x1)] [(0,.box [.sl true (.int .u8) x2,.int .i64 x3,.int .i64 x4]),(1,.own false (.int .u8) x5)])
theorem s0 (n0:Nat):V0 k a0 a1 (n0+1)=b0 k (V0 k a0 a1 n0):=by kernel_rfl
theorem e0:V0 k a0 a1=l0 k:=loop_eq rfl (s0 k a0 a1) fun _=>rfl
end
theorem eq (k:Nat) (a0:Ty.den Tl1Cur) (a1:Int):rn (E k) Tryz.f90 (C k) (a0,a1,())=f k a0 a1:=(show _=t k (V0 k a0 a1 k) a0 a1 by kernel_rfl).trans (by rw [e0];rfl)
theorem ctr (k:Nat):Cp 90 (C k):=rc rfl (D k) (by kernel_rfl) Tryz.func90 (by kernel_rfl) rfl fun ⟨a0,a1,_⟩ r h=>(eq k a0 a1).trans h
end spec_l1Text
namespace spec_l13Set
def C (k:Nat):Cn:=⟨[.val (.slice TPair),.val TPair,.val .bool],[(.slice TPair)],true,false,fun x=>f k x.1 x.2.1 x.2.2.1⟩
def E (k:Nat):Env:=en [] [(4,[0,4,7,8,9])] 0 [] k
section
variable (k:Nat) (a0:List (Ty.den TPair)) (a1:Ty.den TPair) (a2:Bool)
def K0:Ex→St→Rs:=runK (E k) (eK (E k) Tryz.f89 (C k) (a0,a1,a2,())) [.blk 0,.code (at_ (bt 4 15) (body Tryz.f89))]
def V0 (n0:Nat):T0:=fun x0 x1 x2 x3 x4 x5 x6=>loopN (exec (E k) (at_ (bt 7 23) (body Tryz.f89))) (canon 0 [0,4,7,8,9]) (K0 k a0 a1 a2) n0 (mk 56 2 [(0,.sl true TPair x0),(4,.ptr 0 0 0),(7,.ref 1),(8,.bool x1),(9,.int .i64 x2)] [(0,.box [.str x3,.str x4,.int .i64 x5]),(1,.own false TPair x6)])
theorem s0 (n0:Nat):V0 k a0 a1 a2 (n0+1)=b0 k (V0 k a0 a1 a2 n0):=by kernel_rfl
theorem e0:V0 k a0 a1 a2=l0 k:=loop_eq rfl (s0 k a0 a1 a2) fun _=>rfl
end
theorem eq (k:Nat) (a0:List (Ty.den TPair)) (a1:Ty.den TPair) (a2:Bool):rn (E k) Tryz.f89 (C k) (a0,a1,a2,())=f k a0 a1 a2:=(show _=t k (V0 k a0 a1 a2 k) a0 a1 a2 by kernel_rfl).trans (by rw [e0];rfl)
theorem ctr (k:Nat):Cp 89 (C k):=rc rfl [] (by kernel_rfl) Tryz.func89 (by kernel_rfl) rfl fun ⟨a0,a1,a2,_⟩ r h=>(eq k a0 a1 a2).trans h
end spec_l13Set
namespace spec_l13Pairs
def C (k:Nat):Cn:=⟨[.io false Tl1Cur],[(.slice TPair)],true,true,fun x=>f k x.1⟩
def D (k:Nat):List Ce:=[q (spec_l1Below.ctr k),q (spec_l5Key.ctr k),q (spec_l1Text.ctr k),q (spec_l13Set.ctr k)]
def E (k:Nat):Env:=en (D k) [(3,[0,3,4])] 1 [] k
section
variable (k:Nat) (a0:Ty.den Tl1Cur)
def K0:Ex→St→Rs:=runK (E k) (eK (E k) Tryz.f39 (C k) (a0,())) [.blk 0,.code (at_ (bt 3 7) (body Tryz.f39))]
def V0 (n0:Nat):T0:=fun x0 x1 x2 x3 x4=>loopN (exec (E k) (at_ (bt 6 11) (body Tryz.f39))) (canon 1 [0,3,4]) (K0 k a0) n0 (mk 23 2 [(0,.ptr 0 0 0),(3,.ref 1),(4,.int .i64 x0)] [(0,.box [.sl true (.int .u8) x1,.int .i64 x2,.int .i64 x3]),(1,.own false TPair x4)])
theorem s0 (n0:Nat):V0 k a0 (n0+1)=b0 k (V0 k a0 n0):=by kernel_rfl
theorem e0:V0 k a0=l0 k:=loop_eq rfl (s0 k a0) fun _=>rfl
end
theorem eq (k:Nat) (a0:Ty.den Tl1Cur):rn (E k) Tryz.f39 (C k) (a0,())=f k a0:=(show _=t k (V0 k a0 k) a0 by kernel_rfl).trans (by rw [e0];rfl)
theorem ctr (k:Nat):Cp 39 (C k):=rc rfl (D k) (by kernel_rfl) Tryz.func39 (by kernel_rfl) rfl fun ⟨a0,_⟩ r h=>(eq k a0).trans h
end spec_l13Pairs
namespace spec_Dec
def C (k:Nat):Cn:=⟨[.val (.int .i64)],[.str],true,false,fun x=>f k x.1⟩
def E (k:Nat):Env:=en [] [(5,[0,3,4])] 0 [] k
section
variable (k:Nat) (a0:Int)
def K0:Ex→St→Rs:=runK (E k) (eK (E k) Tryz.f65 (C k) (a0,())) [.blk 0,.code (at_ (bt 5 31) (body Tryz.f65))]
def V0 (n0:Nat):T0:=fun x0 x1 x2=>loopN (exec (E k) (at_ (bt 7 15) (body Tryz.f65))) (canon 0 [0,3,4]) (K0 k a0) n0 (mk 31 0 [(0,.int .i64 x0),(3,.str x1),(4,.bool x2)] [])
theorem s0 (n0:Nat):V0 k a0 (n0+1)=b0 k (V0 k a0 n0):=by kernel_rfl
theorem e0:V0 k a0=l0 k:=loop_eq rfl (s0 k a0) fun _=>rfl
end
theorem eq (k:Nat) (a0:Int):rn (E k) Tryz.f65 (C k) (a0,())=f k a0:=(show _=t k (V0 k a0 k) a0 by kernel_rfl).trans (by rw [e0];rfl)
theorem ctr (k:Nat):Cp 65 (C k):=rc rfl [] (by kernel_rfl) Tryz.func65 (by kernel_rfl) rfl fun ⟨a0,_⟩ r h=>(eq k a0).trans h
end spec_Dec
namespace spec_l1PickInt
def C (k:Nat):Cn:=⟨[.io false Tl1Cur,.val (.slice (.int .i64))],[(.int .i64)],true,true,fun x=>f k x.1 x.2.1⟩
def D (k:Nat):List Ce:=[q (spec_l1Below.ctr k)]
def E (k:Nat):Env:=en (D k) [] 1 [] k
theorem eq (k:Nat) (a0:Ty.den Tl1Cur) (a1:List Int):rn (E k) Tryz.f66 (C k) (a0,a1,())=f k a0 a1:=by kernel_rfl
theorem ctr (k:Nat):Cp 66 (C k):=rc rfl (D k) (by kernel_rfl) Tryz.func66 (by kernel_rfl) rfl fun ⟨a0,a1,_⟩ r h=>(eq k a0 a1).trans h
end spec_l1PickInt
namespace spec_l24Any
def C (k:Nat):Cn:=⟨[.io false Tl1Cur],[(.slice TPair)],true,true,fun x=>f k x.1⟩
def D (k:Nat):List Ce:=[q (spec_l13Pairs.ctr k),q (spec_l1Below.ctr k),q (spec_l1Pick.ctr k),q (spec_Dec.ctr k),q (spec_l1PickInt.ctr k)]
def E (k:Nat):Env:=en (D k) [(7,[0,3,4])] 1 [] k
section
variable (k:Nat) (a0:Ty.den Tl1Cur)
def K0:Ex→St→Rs:=runK (E k) (eK (E k) Tryz.f25 (C k) (a0,())) [.blk 1,.blk 0,.code (at_ (bt 3 7) (body Tryz.f25))]
def V0 (n0:Nat):T0:=fun x0 x1 x2 x3 x4=>loopN (exec (E k) (at_ (bt 12 747) (body Tryz.f25))) (canon 1 [0,3,4]) (K0 k a0) n0 (mk 52 2 [(0,.ptr 0 0 0),(3,.ref 1),(4,.int .i64 x0)] [(0,.box [.sl true (.int .u8) x1,.int .i64 x2,.int .i64 x3]),(1,.own false TPair x4)])
theorem s0 (n0:Nat):V0 k a0 (n0+1)=b0 k (V0 k a0 n0):=by kernel_rfl
theorem e0:V0 k a0=l0 k:=loop_eq rfl (s0 k a0) fun _=>rfl
end
theorem eq (k:Nat) (a0:Ty.den Tl1Cur):rn (E k) Tryz.f25 (C k) (a0,())=f k a0:=(show _=t k (V0 k a0 k) a0 by kernel_rfl).trans (by rw [e0];rfl)
theorem ctr (k:Nat):Cp 25 (C k):=rc rfl (D k) (by kernel_rfl) Tryz.func25 (by kernel_rfl) rfl fun ⟨a0,_⟩ r h=>(eq k a0).trans h
end spec_l24Any
namespace spec_DrawShowPairs
def C (k:Nat):Cn:=⟨[.val (.slice (.int .u8))],[(.slice TPair)],true,false,fun x=>f k x.1⟩
def D (k:Nat):List Ce:=[q (spec_l1New.ctr k),q (spec_l24Any.ctr k)]
def E (k:Nat):Env:=en (D k) [] 0 [] k
theorem eq (k:Nat) (a0:List Int):rn (E k) Tryz.f6 (C k) (a0,())=f k a0:=by kernel_rfl
theorem ctr (k:Nat):Cp 6 (C k):=rc rfl (D k) (by kernel_rfl) Tryz.func6 (by kernel_rfl) rfl fun ⟨a0,_⟩ r h=>(eq k a0).trans h
end spec_DrawShowPairs
namespace impl_in
def C (k:Nat):Cn:=⟨[.val (.int .i64),.val (.int .i64),.val (.int .i64)],[.bool],true,false,fun x=>f k x.1 x.2.1 x.2.2.1⟩
def E (k:Nat):Env:=en [] [] 0 [] k
theorem eq (k:Nat) (a0:Int) (a1:Int) (a2:Int):rn (E k) Tryz.f33 (C k) (a0,a1,a2,())=f k a0 a1 a2:=by kernel_rfl
theorem ctr (k:Nat):Cp 33 (C k):=rc rfl [] (by kernel_rfl) Tryz.func33 (by kernel_rfl) rfl fun ⟨a0,a1,a2,_⟩ r h=>(eq k a0 a1 a2).trans h
end impl_in
namespace impl_KeyOk
def C (k:Nat):Cn:=⟨[.val .str],[.bool],true,false,fun x=>f k x.1⟩
def D (k:Nat):List Ce:=[q (impl_in.ctr k)]
def E (k:Nat):Env:=en (D k) [] 0 [] k
theorem eq (k:Nat) (a0:ByteArray):rn (E k) Tryz.f67 (C k) (a0,())=f k a0:=by kernel_rfl
theorem ctr (k:Nat):Cp 67 (C k):=rc rfl (D k) (by kernel_rfl) Tryz.func67 (by kernel_rfl) rfl fun ⟨a0,_⟩ r h=>(eq k a0).trans h
end impl_KeyOk
namespace impl_PairsOk
def C (k:Nat):Cn:=⟨[.val (.slice TPair)],[.bool],true,false,fun x=>f k x.1⟩
def D (k:Nat):List Ce:=[q (impl_KeyOk.ctr k),q (impl_in.ctr k)]
def E (k:Nat):Env:=en (D k) [(2,[0,5,6,7])] 0 [] k
section
variable (k:Nat) (a0:List (Ty.den TPair))
def K0:Ex→St→Rs:=runK (E k) (eK (E k) Tryz.f26 (C k) (a0,())) [.blk 0,.code (at_ (bt 2 3) (body Tryz.f26))]
def V0 (n0:Nat):T0:=fun x0 x1 x2 x3=>loopN (exec (E k) (at_ (bt 5 5) (body Tryz.f26))) (canon 0 [0,5,6,7]) (K0 k a0) n0 (mk 47 0 [(0,.sl true TPair x0),(5,.sl true TPair x1),(6,.int .i64 x2),(7,.int .i64 x3)] [])
theorem s0 (n0:Nat):V0 k a0 (n0+1)=b0 k (V0 k a0 n0):=by kernel_rfl
theorem e0:V0 k a0=l0 k:=loop_eq rfl (s0 k a0) fun _=>rfl
end
theorem eq (k:Nat) (a0:List (Ty.den TPair)):rn (E k) Tryz.f26 (C k) (a0,())=f k a0:=(show _=t k (V0 k a0 k) a0 by kernel_rfl).trans (by rw [e0];rfl)
theorem ctr (k:Nat):Cp 26 (C k):=rc rfl (D k) (by kernel_rfl) Tryz.func26 (by kernel_rfl) rfl fun ⟨a0,_⟩ r h=>(eq k a0).trans h
end impl_PairsOk
namespace impl_RecOk
def C (k:Nat):Cn:=⟨[.val TRec],[.bool],true,false,fun x=>f k x.1⟩
def D (k:Nat):List Ce:=[q (impl_KeyOk.ctr k),q (impl_in.ctr k)]
def E (k:Nat):Env:=en (D k) [] 0 [] k
theorem eq (k:Nat) (a0:Ty.den TRec):rn (E k) Tryz.f72 (C k) (a0,())=f k a0:=by kernel_rfl
theorem ctr (k:Nat):Cp 72 (C k):=rc rfl (D k) (by kernel_rfl) Tryz.func72 (by kernel_rfl) rfl fun ⟨a0,_⟩ r h=>(eq k a0).trans h
end impl_RecOk
namespace impl_Var
def C (k:Nat):Cn:=⟨[.val (.int .i64)],[.str],true,false,fun x=>f k x.1⟩
def D (k:Nat):List Ce:=[q (impl_in.ctr k)]
def E (k:Nat):Env:=en (D k) [(4,[0,3])] 0 [] k
section
variable (k:Nat) (a0:Int)
def K0:Ex→St→Rs:=runK (E k) (eK (E k) Tryz.f74 (C k) (a0,())) [.blk 0,.code (at_ (bt 4 15) (body Tryz.f74))]
def V0 (n0:Nat):T0:=fun x0 x1=>loopN (exec (E k) (at_ (bt 6 7) (body Tryz.f74))) (canon 0 [0,3]) (K0 k a0) n0 (mk 24 1 [(0,.int .i64 x0),(3,.ref 0)] [(0,.own false (.int .u8) x1)])
theorem s0 (n0:Nat):V0 k a0 (n0+1)=b0 k (V0 k a0 n0):=by kernel_rfl
theorem e0:V0 k a0=l0 k:=loop_eq rfl (s0 k a0) fun _=>rfl
end
theorem eq (k:Nat) (a0:Int):rn (E k) Tryz.f74 (C k) (a0,())=f k a0:=(show _=t k (V0 k a0 k) a0 by kernel_rfl).trans (by rw [e0];rfl)
theorem ctr (k:Nat):Cp 74 (C k):=rc rfl (D k) (by kernel_rfl) Tryz.func74 (by kernel_rfl) rfl fun ⟨a0,_⟩ r h=>(eq k a0).trans h
end impl_Var
namespace impl_vars
def C (k:Nat):Cn:=⟨[.val (.slice (.int .i64))],[.str],true,false,fun x=>f k x.1⟩
def D (k:Nat):List Ce:=[q (impl_Var.ctr k)]
def E (k:Nat):Env:=en (D k) [(3,[3,6,7,8])] 0 [] k
section
variable (k:Nat) (a0:List Int)
def K0:Ex→St→Rs:=runK (E k) (eK (E k) Tryz.f73 (C k) (a0,())) [.blk 0,.code (at_ (bt 3 7) (body Tryz.f73))]
def V0 (n0:Nat):T0:=fun x0 x1 x2 x3=>loopN (exec (E k) (at_ (bt 6 11) (body Tryz.f73))) (canon 0 [3,6,7,8]) (K0 k a0) n0 (mk 18 0 [(3,.str x0),(6,.sl true (.int .i64) x1),(7,.int .i64 x2),(8,.int .i64 x3)] [])
theorem s0 (n0:Nat):V0 k a0 (n0+1)=b0 k (V0 k a0 n0):=by kernel_rfl
theorem e0:V0 k a0=l0 k:=loop_eq rfl (s0 k a0) fun _=>rfl
end
theorem eq (k:Nat) (a0:List Int):rn (E k) Tryz.f73 (C k) (a0,())=f k a0:=(show _=t k (V0 k a0 k) a0 by kernel_rfl).trans (by rw [e0];rfl)
theorem ctr (k:Nat):Cp 73 (C k):=rc rfl (D k) (by kernel_rfl) Tryz.func73 (by kernel_rfl) rfl fun ⟨a0,_⟩ r h=>(eq k a0).trans h
end impl_vars
namespace impl_textOf
def C (k:Nat):Cn:=⟨[.val .str],[.str],true,false,fun x=>f k x.1⟩
def D (k:Nat):List Ce:=[q (impl_Var.ctr k)]
def E (k:Nat):Env:=en (D k) [] 0 [] k
theorem eq (k:Nat) (a0:ByteArray):rn (E k) Tryz.f69 (C k) (a0,())=f k a0:=by kernel_rfl
theorem ctr (k:Nat):Cp 69 (C k):=rc rfl (D k) (by kernel_rfl) Tryz.func69 (by kernel_rfl) rfl fun ⟨a0,_⟩ r h=>(eq k a0).trans h
end impl_textOf
namespace impl_Fixed
def C (k:Nat):Cn:=⟨[.val (.int .i64),.val (.int .i64)],[.str],true,false,fun x=>f k x.1 x.2.1⟩
def D (k:Nat):List Ce:=[q (impl_in.ctr k)]
def E (k:Nat):Env:=en (D k) [(5,[0,5,6])] 0 [] k
section
variable (k:Nat) (a0:Int) (a1:Int)
def K0:Ex→St→Rs:=runK (E k) (eK (E k) Tryz.f70 (C k) (a0,a1,())) [.blk 0,.code (at_ (bt 4 15) (body Tryz.f70))]
def V0 (n0:Nat):T0:=fun x0 x1 x2=>loopN (exec (E k) (at_ (bt 7 23) (body Tryz.f70))) (canon 0 [0,5,6]) (K0 k a0 a1) n0 (mk 35 1 [(0,.int .i64 x0),(5,.ref 0),(6,.int .i64 x1)] [(0,.own false (.int .u8) x2)])
theorem s0 (n0:Nat):V0 k a0 a1 (n0+1)=b0 k (V0 k a0 a1 n0):=by kernel_rfl
theorem e0:V0 k a0 a1=l0 k:=loop_eq rfl (s0 k a0 a1) fun _=>rfl
end
theorem eq (k:Nat) (a0:Int) (a1:Int):rn (E k) Tryz.f70 (C k) (a0,a1,())=f k a0 a1:=(show _=t k (V0 k a0 a1 k) a0 a1 by kernel_rfl).trans (by rw [e0];rfl)
theorem ctr (k:Nat):Cp 70 (C k):=rc rfl (D k) (by kernel_rfl) Tryz.func70 (by kernel_rfl) rfl fun ⟨a0,a1,_⟩ r h=>(eq k a0 a1).trans h
end impl_Fixed
namespace impl_ShowRec
def C (k:Nat):Cn:=⟨[.val TRec],[.str],true,false,fun x=>f k x.1⟩
def D (k:Nat):List Ce:=[q (impl_RecOk.ctr k),q (impl_vars.ctr k),q (impl_textOf.ctr k),q (impl_Var.ctr k),q (impl_Fixed.ctr k)]
def E (k:Nat):Env:=en (D k) [] 0 [] k
theorem eq (k:Nat) (a0:Ty.den TRec):rn (E k) Tryz.f29 (C k) (a0,())=f k a0:=by kernel_rfl
theorem ctr (k:Nat):Cp 29 (C k):=rc rfl (D k) (by kernel_rfl) Tryz.func29 (by kernel_rfl) rfl fun ⟨a0,_⟩ r h=>(eq k a0).trans h
end impl_ShowRec
namespace impl_Crc
def C (k:Nat):Cn:=⟨[.val .str],[(.int .i64)],true,false,fun x=>f k x.1⟩
def E (k:Nat):Env:=en [] [(3,[0,3,4]),(7,[0,3,4,18])] 0 [] k
section
variable (k:Nat) (a0:ByteArray)
def K0:Ex→St→Rs:=runK (E k) (eK (E k) Tryz.f71 (C k) (a0,())) [.blk 0,.code (at_ (bt 3 7) (body Tryz.f71))]
def B0 (n0:Nat):Ex→St→Rs:=lpK (E k) (at_ (bt 6 11) (body Tryz.f71)) 0 [0,3,4] (K0 k a0) n0
def K1 (n0:Nat):Ex→St→Rs:=runK (E k) (B0 k a0 n0) [.blk 2,.blk 1,.code (at_ (bt 8 203) (body Tryz.f71))]
def V0 (n0:Nat):T0:=fun x0 x1 x2=>loopN (exec (E k) (at_ (bt 6 11) (body Tryz.f71))) (canon 0 [0,3,4]) (K0 k a0) n0 (mk 32 0 [(0,.str x0),(3,.int .u32 x1),(4,.int .i64 x2)] [])
def V1 (n0 n1:Nat):T1:=fun x0 x1 x2 x3=>loopN (exec (E k) (at_ (bt 13 1611) (body Tryz.f71))) (canon 0 [0,3,4,18]) (K1 k a0 n0) n1 (mk 32 0 [(0,.str x0),(3,.int .u32 x1),(4,.int .i64 x2),(18,.int .i64 x3)] [])
theorem s0 (n0:Nat):V0 k a0 (n0+1)=b0 k (V1 k a0 n0 k) (V0 k a0 n0):=by kernel_rfl
theorem s1 (n0 n1:Nat):V1 k a0 n0 (n1+1)=b1 k (V0 k a0 n0) (V1 k a0 n0 n1):=by kernel_rfl
theorem e1 (n0:Nat):V1 k a0 n0=l1 k (V0 k a0 n0):=loop_eq rfl (s1 k a0 n0) fun _=>rfl
theorem e0 (n0:Nat):V0 k a0 n0=l0 k n0:=by
 induction n0 with
 | zero=>rfl
 | succ n0 ih =>
  have h:V0 k a0 (n0+1)=b0 k (V1 k a0 n0 k) (V0 k a0 n0):=s0 k a0 n0
  rw [h,e1,ih]
  rfl
end
theorem eq (k:Nat) (a0:ByteArray):rn (E k) Tryz.f71 (C k) (a0,())=f k a0:=(show _=t k (V0 k a0 k) a0 by kernel_rfl).trans (by rw [e0];rfl)
theorem ctr (k:Nat):Cp 71 (C k):=rc rfl [] (by kernel_rfl) Tryz.func71 (by kernel_rfl) rfl fun ⟨a0,_⟩ r h=>(eq k a0).trans h
end impl_Crc
namespace impl_SumOf
def C (k:Nat):Cn:=⟨[.val (.slice TRec)],[(.int .i64)],true,false,fun x=>f k x.1⟩
def D (k:Nat):List Ce:=[q (impl_ShowRec.ctr k),q (impl_Crc.ctr k)]
def E (k:Nat):Env:=en (D k) [(3,[3,6,7,8])] 0 [] k
section
variable (k:Nat) (a0:List (Ty.den TRec))
def K0:Ex→St→Rs:=runK (E k) (eK (E k) Tryz.f68 (C k) (a0,())) [.blk 0,.code (at_ (bt 3 7) (body Tryz.f68))]
def V0 (n0:Nat):T0:=fun x0 x1 x2 x3=>loopN (exec (E k) (at_ (bt 6 11) (body Tryz.f68))) (canon 0 [3,6,7,8]) (K0 k a0) n0 (mk 19 0 [(3,.str x0),(6,.sl true TRec x1),(7,.int .i64 x2),(8,.int .i64 x3)] [])
theorem s0 (n0:Nat):V0 k a0 (n0+1)=b0 k (V0 k a0 n0):=by kernel_rfl
theorem e0:V0 k a0=l0 k:=loop_eq rfl (s0 k a0) fun _=>rfl
end
theorem eq (k:Nat) (a0:List (Ty.den TRec)):rn (E k) Tryz.f68 (C k) (a0,())=f k a0:=(show _=t k (V0 k a0 k) a0 by kernel_rfl).trans (by rw [e0];rfl)
theorem ctr (k:Nat):Cp 68 (C k):=rc rfl (D k) (by kernel_rfl) Tryz.func68 (by kernel_rfl) rfl fun ⟨a0,_⟩ r h=>(eq k a0).trans h
end impl_SumOf
namespace impl_keeps
def C (k:Nat):Cn:=⟨[.val (.slice TPair),.val (.int .i64)],[(.slice TRec)],true,false,fun x=>f k x.1 x.2.1⟩
def D (k:Nat):List Ce:=[q (impl_SumOf.ctr k)]
def E (k:Nat):Env:=en (D k) [(3,[0,1,5,8,9,10])] 0 [] k
section
variable (k:Nat) (a0:List (Ty.den TPair)) (a1:Int)
def K0:Ex→St→Rs:=runK (E k) (eK (E k) Tryz.f27 (C k) (a0,a1,())) [.blk 0,.code (at_ (bt 3 7) (body Tryz.f27))]
def V0 (n0:Nat):T0:=fun x0 x1 x2 x3 x4 x5=>loopN (exec (E k) (at_ (bt 6 11) (body Tryz.f27))) (canon 0 [0,1,5,8,9,10]) (K0 k a0 a1) n0 (mk 34 1 [(0,.sl true TPair x0),(1,.int .i64 x1),(5,.ref 0),(8,.sl true TPair x2),(9,.int .i64 x3),(10,.int .i64 x4)] [(0,.own false TRec x5)])
theorem s0 (n0:Nat):V0 k a0 a1 (n0+1)=b0 k (V0 k a0 a1 n0):=by kernel_rfl
theorem e0:V0 k a0 a1=l0 k:=loop_eq rfl (s0 k a0 a1) fun _=>rfl
end
theorem eq (k:Nat) (a0:List (Ty.den TPair)) (a1:Int):rn (E k) Tryz.f27 (C k) (a0,a1,())=f k a0 a1:=(show _=t k (V0 k a0 a1 k) a0 a1 by kernel_rfl).trans (by rw [e0];rfl)
theorem ctr (k:Nat):Cp 27 (C k):=rc rfl (D k) (by kernel_rfl) Tryz.func27 (by kernel_rfl) rfl fun ⟨a0,a1,_⟩ r h=>(eq k a0 a1).trans h
end impl_keeps
namespace impl_Frame
def C (k:Nat):Cn:=⟨[.val .str],[.str],true,false,fun x=>f k x.1⟩
def D (k:Nat):List Ce:=[q (impl_textOf.ctr k),q (impl_Crc.ctr k),q (impl_Fixed.ctr k)]
def E (k:Nat):Env:=en (D k) [] 0 [] k
theorem eq (k:Nat) (a0:ByteArray):rn (E k) Tryz.f28 (C k) (a0,())=f k a0:=by kernel_rfl
theorem ctr (k:Nat):Cp 28 (C k):=rc rfl (D k) (by kernel_rfl) Tryz.func28 (by kernel_rfl) rfl fun ⟨a0,_⟩ r h=>(eq k a0).trans h
end impl_Frame
namespace impl_ShowPairs
def C (k:Nat):Cn:=⟨[.val (.slice TPair)],[.str],true,false,fun x=>f k x.1⟩
def D (k:Nat):List Ce:=[q (impl_PairsOk.ctr k),q (impl_keeps.ctr k),q (impl_ShowRec.ctr k),q (impl_Frame.ctr k)]
def E (k:Nat):Env:=en (D k) [(5,[3,10,11,12])] 0 [] k
section
variable (k:Nat) (a0:List (Ty.den TPair))
def K0:Ex→St→Rs:=runK (E k) (eK (E k) Tryz.f7 (C k) (a0,())) [.blk 0,.code (at_ (bt 4 15) (body Tryz.f7))]
def V0 (n0:Nat):T0:=fun x0 x1 x2 x3=>loopN (exec (E k) (at_ (bt 7 23) (body Tryz.f7))) (canon 0 [3,10,11,12]) (K0 k a0) n0 (mk 23 1 [(3,.str x0),(10,.ref 0),(11,.int .i64 x1),(12,.int .i64 x2)] [(0,.own false TRec x3)])
theorem s0 (n0:Nat):V0 k a0 (n0+1)=b0 k (V0 k a0 n0):=by kernel_rfl
theorem e0:V0 k a0=l0 k:=loop_eq rfl (s0 k a0) fun _=>rfl
end
theorem eq (k:Nat) (a0:List (Ty.den TPair)):rn (E k) Tryz.f7 (C k) (a0,())=f k a0:=(show _=t k (V0 k a0 k) a0 by kernel_rfl).trans (by rw [e0];rfl)
theorem ctr (k:Nat):Cp 7 (C k):=rc rfl (D k) (by kernel_rfl) Tryz.func7 (by kernel_rfl) rfl fun ⟨a0,_⟩ r h=>(eq k a0).trans h
end impl_ShowPairs
namespace impl_ReadVar
def C (k:Nat):Cn:=⟨[.val .str],[(.int .i64),(.int .i64)],true,false,fun x=>f k x.1⟩
def E (k:Nat):Env:=en [] [(3,[0,4,5])] 0 [] k
section
variable (k:Nat) (a0:ByteArray)
def K0:Ex→St→Rs:=runK (E k) (eK (E k) Tryz.f112 (C k) (a0,())) [.blk 0,.code (at_ (bt 3 7) (body Tryz.f112))]
def V0 (n0:Nat):T0:=fun x0 x1 x2=>loopN (exec (E k) (at_ (bt 6 11) (body Tryz.f112))) (canon 0 [0,4,5]) (K0 k a0) n0 (mk 39 0 [(0,.str x0),(4,.int .i64 x1),(5,.int .i64 x2)] [])
theorem s0 (n0:Nat):V0 k a0 (n0+1)=b0 k (V0 k a0 n0):=by kernel_rfl
theorem e0:V0 k a0=l0 k:=loop_eq rfl (s0 k a0) fun _=>rfl
end
theorem eq (k:Nat) (a0:ByteArray):rn (E k) Tryz.f112 (C k) (a0,())=f k a0:=(show _=t k (V0 k a0 k) a0 by kernel_rfl).trans (by rw [e0];rfl)
theorem ctr (k:Nat):Cp 112 (C k):=rc rfl [] (by kernel_rfl) Tryz.func112 (by kernel_rfl) rfl fun ⟨a0,_⟩ r h=>(eq k a0).trans h
end impl_ReadVar
namespace impl_Unframe
def C (k:Nat):Cn:=⟨[.val .str],[.str,(.int .i64)],true,false,fun x=>f k x.1⟩
def D (k:Nat):List Ce:=[q (impl_ReadVar.ctr k),q (impl_Frame.ctr k)]
def E (k:Nat):Env:=en (D k) [] 0 [] k
theorem eq (k:Nat) (a0:ByteArray):rn (E k) Tryz.f75 (C k) (a0,())=f k a0:=by kernel_rfl
theorem ctr (k:Nat):Cp 75 (C k):=rc rfl (D k) (by kernel_rfl) Tryz.func75 (by kernel_rfl) rfl fun ⟨a0,_⟩ r h=>(eq k a0).trans h
end impl_Unframe
namespace impl_scanner__num
def C (k:Nat):Cn:=⟨[.io true Tscanner],[(.int .i64)],true,false,fun x=>f k x.1⟩
def D (k:Nat):List Ce:=[q (impl_ReadVar.ctr k)]
def E (k:Nat):Env:=en (D k) [] 1 [] k
theorem eq (k:Nat) (a0:Ty.den Tscanner):rn (E k) Tryz.f113 (C k) (a0,())=f k a0:=by kernel_rfl
theorem ctr (k:Nat):Cp 113 (C k):=rc rfl (D k) (by kernel_rfl) Tryz.func113 (by kernel_rfl) rfl fun ⟨a0,_⟩ r h=>(eq k a0).trans h
end impl_scanner__num
namespace impl_scanner__bytes
def C (k:Nat):Cn:=⟨[.io true Tscanner,.val (.int .i64)],[.str],true,false,fun x=>f k x.1 x.2.1⟩
def E (k:Nat):Env:=en [] [] 1 [] k
theorem eq (k:Nat) (a0:Ty.den Tscanner) (a1:Int):rn (E k) Tryz.f116 (C k) (a0,a1,())=f k a0 a1:=by kernel_rfl
theorem ctr (k:Nat):Cp 116 (C k):=rc rfl [] (by kernel_rfl) Tryz.func116 (by kernel_rfl) rfl fun ⟨a0,a1,_⟩ r h=>(eq k a0 a1).trans h
end impl_scanner__bytes
namespace impl_scanner__text
def C (k:Nat):Cn:=⟨[.io true Tscanner],[.str],true,false,fun x=>f k x.1⟩
def D (k:Nat):List Ce:=[q (impl_scanner__num.ctr k),q (impl_scanner__bytes.ctr k)]
def E (k:Nat):Env:=en (D k) [] 1 [] k
theorem eq (k:Nat) (a0:Ty.den Tscanner):rn (E k) Tryz.f114 (C k) (a0,())=f k a0:=by kernel_rfl
theorem ctr (k:Nat):Cp 114 (C k):=rc rfl (D k) (by kernel_rfl) Tryz.func114 (by kernel_rfl) rfl fun ⟨a0,_⟩ r h=>(eq k a0).trans h
end impl_scanner__text
namespace impl_ReadFixed
def C (k:Nat):Cn:=⟨[.val .str,.val (.int .i64)],[(.int .i64),.bool],true,false,fun x=>f k x.1 x.2.1⟩
def D (k:Nat):List Ce:=[q (impl_in.ctr k)]
def E (k:Nat):Env:=en (D k) [(5,[0,6,17,18])] 0 [] k
section
variable (k:Nat) (a0:ByteArray) (a1:Int)
def K0:Ex→St→Rs:=runK (E k) (eK (E k) Tryz.f115 (C k) (a0,a1,())) [.blk 0,.code (at_ (bt 4 15) (body Tryz.f115))]
def V0 (n0:Nat):T0:=fun x0 x1 x2 x3=>loopN (exec (E k) (at_ (bt 7 23) (body Tryz.f115))) (canon 0 [0,6,17,18]) (K0 k a0 a1) n0 (mk 30 0 [(0,.str x0),(6,.int .i64 x1),(17,.int .i64 x2),(18,.int .i64 x3)] [])
theorem s0 (n0:Nat):V0 k a0 a1 (n0+1)=b0 k (V0 k a0 a1 n0):=by kernel_rfl
theorem e0:V0 k a0 a1=l0 k:=loop_eq rfl (s0 k a0 a1) fun _=>rfl
end
theorem eq (k:Nat) (a0:ByteArray) (a1:Int):rn (E k) Tryz.f115 (C k) (a0,a1,())=f k a0 a1:=(show _=t k (V0 k a0 a1 k) a0 a1 by kernel_rfl).trans (by rw [e0];rfl)
theorem ctr (k:Nat):Cp 115 (C k):=rc rfl (D k) (by kernel_rfl) Tryz.func115 (by kernel_rfl) rfl fun ⟨a0,a1,_⟩ r h=>(eq k a0 a1).trans h
end impl_ReadFixed
namespace impl_ReadRec
def C (k:Nat):Cn:=⟨[.val .str],[TRec,.bool],true,false,fun x=>f k x.1⟩
def D (k:Nat):List Ce:=[q (impl_scanner__num.ctr k),q (impl_scanner__text.ctr k),q (impl_RecOk.ctr k),q (impl_scanner__bytes.ctr k),q (impl_ReadFixed.ctr k)]
def E (k:Nat):Env:=en (D k) [] 0 [] k
theorem eq (k:Nat) (a0:ByteArray):rn (E k) Tryz.f76 (C k) (a0,())=f k a0:=by kernel_rfl
theorem ctr (k:Nat):Cp 76 (C k):=rc rfl (D k) (by kernel_rfl) Tryz.func76 (by kernel_rfl) rfl fun ⟨a0,_⟩ r h=>(eq k a0).trans h
end impl_ReadRec
namespace impl_ScanRecs
def C (k:Nat):Cn:=⟨[.val .str],[(.slice TSpot),(.int .i64)],true,false,fun x=>f k x.1⟩
def D (k:Nat):List Ce:=[q (impl_Unframe.ctr k),q (impl_ReadRec.ctr k)]
def E (k:Nat):Env:=en (D k) [(3,[0,4,5])] 0 [] k
section
variable (k:Nat) (a0:ByteArray)
def K0:Ex→St→Rs:=runK (E k) (eK (E k) Tryz.f30 (C k) (a0,())) [.blk 0]
def V0 (n0:Nat):T0:=fun x0 x1 x2=>loopN (exec (E k) (at_ (bt 5 7) (body Tryz.f30))) (canon 0 [0,4,5]) (K0 k a0) n0 (mk 40 1 [(0,.str x0),(4,.ref 0),(5,.int .i64 x1)] [(0,.own false TSpot x2)])
theorem s0 (n0:Nat):V0 k a0 (n0+1)=b0 k (V0 k a0 n0):=by kernel_rfl
theorem e0:V0 k a0=l0 k:=loop_eq rfl (s0 k a0) fun _=>rfl
end
theorem eq (k:Nat) (a0:ByteArray):rn (E k) Tryz.f30 (C k) (a0,())=f k a0:=(show _=t k (V0 k a0 k) a0 by kernel_rfl).trans (by rw [e0];rfl)
theorem ctr (k:Nat):Cp 30 (C k):=rc rfl (D k) (by kernel_rfl) Tryz.func30 (by kernel_rfl) rfl fun ⟨a0,_⟩ r h=>(eq k a0).trans h
end impl_ScanRecs
namespace impl_ReadPairs
def C (k:Nat):Cn:=⟨[.val .str],[(.slice TPair),.bool],true,false,fun x=>f k x.1⟩
def D (k:Nat):List Ce:=[q (impl_ScanRecs.ctr k),q (impl_ShowPairs.ctr k)]
def E (k:Nat):Env:=en (D k) [(4,[0,6,15,16,17])] 0 [] k
section
variable (k:Nat) (a0:ByteArray)
def K0:Ex→St→Rs:=runK (E k) (eK (E k) Tryz.f8 (C k) (a0,())) [.blk 0,.code (at_ (bt 4 15) (body Tryz.f8))]
def V0 (n0:Nat):T0:=fun x0 x1 x2 x3 x4=>loopN (exec (E k) (at_ (bt 7 23) (body Tryz.f8))) (canon 0 [0,6,15,16,17]) (K0 k a0) n0 (mk 49 2 [(0,.str x0),(6,.ref 0),(15,.ref 1),(16,.int .i64 x1),(17,.int .i64 x2)] [(0,.own false TPair x3),(1,.own false TSpot x4)])
theorem s0 (n0:Nat):V0 k a0 (n0+1)=b0 k (V0 k a0 n0):=by kernel_rfl
theorem e0:V0 k a0=l0 k:=loop_eq rfl (s0 k a0) fun _=>rfl
end
theorem eq (k:Nat) (a0:ByteArray):rn (E k) Tryz.f8 (C k) (a0,())=f k a0:=(show _=t k (V0 k a0 k) a0 by kernel_rfl).trans (by rw [e0];rfl)
theorem ctr (k:Nat):Cp 8 (C k):=rc rfl (D k) (by kernel_rfl) Tryz.func8 (by kernel_rfl) rfl fun ⟨a0,_⟩ r h=>(eq k a0).trans h
end impl_ReadPairs
namespace spec_l1In
def C (k:Nat):Cn:=⟨[.val (.int .i64),.val (.int .i64),.val (.int .i64)],[.bool],true,false,fun x=>f k x.1 x.2.1 x.2.2.1⟩
def E (k:Nat):Env:=en [] [] 0 [] k
theorem eq (k:Nat) (a0:Int) (a1:Int) (a2:Int):rn (E k) Tryz.f32 (C k) (a0,a1,a2,())=f k a0 a1 a2:=by kernel_rfl
theorem ctr (k:Nat):Cp 32 (C k):=rc rfl [] (by kernel_rfl) Tryz.func32 (by kernel_rfl) rfl fun ⟨a0,a1,a2,_⟩ r h=>(eq k a0 a1 a2).trans h
end spec_l1In
namespace spec_KeyOk
def C (k:Nat):Cn:=⟨[.val .str],[.bool],true,false,fun x=>f k x.1⟩
def D (k:Nat):List Ce:=[q (spec_l1In.ctr k)]
def E (k:Nat):Env:=en (D k) [] 0 [] k
theorem eq (k:Nat) (a0:ByteArray):rn (E k) Tryz.f31 (C k) (a0,())=f k a0:=by kernel_rfl
theorem ctr (k:Nat):Cp 31 (C k):=rc rfl (D k) (by kernel_rfl) Tryz.func31 (by kernel_rfl) rfl fun ⟨a0,_⟩ r h=>(eq k a0).trans h
end spec_KeyOk
namespace spec_PairsOk
def C (k:Nat):Cn:=⟨[.val (.slice TPair)],[.bool],true,false,fun x=>f k x.1⟩
def D (k:Nat):List Ce:=[q (spec_KeyOk.ctr k),q (spec_l1In.ctr k)]
def E (k:Nat):Env:=en (D k) [(4,[0,3])] 0 [] k
section
variable (k:Nat) (a0:List (Ty.den TPair))
def K0:Ex→St→Rs:=runK (E k) (eK (E k) Tryz.f9 (C k) (a0,())) [.blk 0,.code (at_ (bt 3 7) (body Tryz.f9))]
def V0 (n0:Nat):T0:=fun x0 x1=>loopN (exec (E k) (at_ (bt 6 11) (body Tryz.f9))) (canon 0 [0,3]) (K0 k a0) n0 (mk 56 0 [(0,.sl true TPair x0),(3,.int .i64 x1)] [])
theorem s0 (n0:Nat):V0 k a0 (n0+1)=b0 k (V0 k a0 n0):=by kernel_rfl
theorem e0:V0 k a0=l0 k:=loop_eq rfl (s0 k a0) fun _=>rfl
end
theorem eq (k:Nat) (a0:List (Ty.den TPair)):rn (E k) Tryz.f9 (C k) (a0,())=f k a0:=(show _=t k (V0 k a0 k) a0 by kernel_rfl).trans (by rw [e0];rfl)
theorem ctr (k:Nat):Cp 9 (C k):=rc rfl (D k) (by kernel_rfl) Tryz.func9 (by kernel_rfl) rfl fun ⟨a0,_⟩ r h=>(eq k a0).trans h
end spec_PairsOk
namespace spec_SamePairs
def C (k:Nat):Cn:=⟨[.val (.slice TPair),.val (.slice TPair)],[.bool],true,false,fun x=>f k x.1 x.2.1⟩
def E (k:Nat):Env:=en [] [(4,[0,1,5])] 0 [] k
section
variable (k:Nat) (a0:List (Ty.den TPair)) (a1:List (Ty.den TPair))
def K0:Ex→St→Rs:=runK (E k) (eK (E k) Tryz.f10 (C k) (a0,a1,())) [.blk 0,.code (at_ (bt 3 7) (body Tryz.f10))]
def V0 (n0:Nat):T0:=fun x0 x1 x2=>loopN (exec (E k) (at_ (bt 6 11) (body Tryz.f10))) (canon 0 [0,1,5]) (K0 k a0 a1) n0 (mk 26 0 [(0,.sl true TPair x0),(1,.sl true TPair x1),(5,.int .i64 x2)] [])
theorem s0 (n0:Nat):V0 k a0 a1 (n0+1)=b0 k (V0 k a0 a1 n0):=by kernel_rfl
theorem e0:V0 k a0 a1=l0 k:=loop_eq rfl (s0 k a0 a1) fun _=>rfl
end
theorem eq (k:Nat) (a0:List (Ty.den TPair)) (a1:List (Ty.den TPair)):rn (E k) Tryz.f10 (C k) (a0,a1,())=f k a0 a1:=(show _=t k (V0 k a0 a1 k) a0 a1 by kernel_rfl).trans (by rw [e0];rfl)
theorem ctr (k:Nat):Cp 10 (C k):=rc rfl [] (by kernel_rfl) Tryz.func10 (by kernel_rfl) rfl fun ⟨a0,a1,_⟩ r h=>(eq k a0 a1).trans h
end spec_SamePairs
namespace impl_DiskNew
def C (k:Nat):Cn:=⟨[.val (.int .i64)],[TDisk],true,false,fun x=>f k x.1⟩
def D (k:Nat):List Ce:=[q (impl_in.ctr k)]
def E (k:Nat):Env:=en (D k) [] 0 [] k
theorem eq (k:Nat) (a0:Int):rn (E k) Tryz.f35 (C k) (a0,())=f k a0:=by kernel_rfl
theorem ctr (k:Nat):Cp 35 (C k):=rc rfl (D k) (by kernel_rfl) Tryz.func35 (by kernel_rfl) rfl fun ⟨a0,_⟩ r h=>(eq k a0).trans h
end impl_DiskNew
namespace impl_copyDisk
def C (k:Nat):Cn:=⟨[.val TDisk],[TDisk],true,false,fun x=>f k x.1⟩
def E (k:Nat):Env:=en [] [] 0 [] k
theorem eq (k:Nat) (a0:Ty.den TDisk):rn (E k) Tryz.f77 (C k) (a0,())=f k a0:=by kernel_rfl
theorem ctr (k:Nat):Cp 77 (C k):=rc rfl [] (by kernel_rfl) Tryz.func77 (by kernel_rfl) rfl fun ⟨a0,_⟩ r h=>(eq k a0).trans h
end impl_copyDisk
namespace impl_NameOk
def C (k:Nat):Cn:=⟨[.val .str],[.bool],true,false,fun x=>f k x.1⟩
def D (k:Nat):List Ce:=[q (impl_in.ctr k)]
def E (k:Nat):Env:=en (D k) [(2,[0,3])] 0 [] k
section
variable (k:Nat) (a0:ByteArray)
def K0:Ex→St→Rs:=runK (E k) (eK (E k) Tryz.f117 (C k) (a0,())) [.blk 0,.code (at_ (bt 2 3) (body Tryz.f117))]
def V0 (n0:Nat):T0:=fun x0 x1=>loopN (exec (E k) (at_ (bt 5 5) (body Tryz.f117))) (canon 0 [0,3]) (K0 k a0) n0 (mk 37 0 [(0,.str x0),(3,.int .i64 x1)] [])
theorem s0 (n0:Nat):V0 k a0 (n0+1)=b0 k (V0 k a0 n0):=by kernel_rfl
theorem e0:V0 k a0=l0 k:=loop_eq rfl (s0 k a0) fun _=>rfl
end
theorem eq (k:Nat) (a0:ByteArray):rn (E k) Tryz.f117 (C k) (a0,())=f k a0:=(show _=t k (V0 k a0 k) a0 by kernel_rfl).trans (by rw [e0];rfl)
theorem ctr (k:Nat):Cp 117 (C k):=rc rfl (D k) (by kernel_rfl) Tryz.func117 (by kernel_rfl) rfl fun ⟨a0,_⟩ r h=>(eq k a0).trans h
end impl_NameOk
namespace impl_DiskOk
def C (k:Nat):Cn:=⟨[.val TDisk],[.bool],true,false,fun x=>f k x.1⟩
def D (k:Nat):List Ce:=[q (impl_in.ctr k),q (impl_NameOk.ctr k)]
def E (k:Nat):Env:=en (D k) [(5,[1,3,23,24,25])] 0 [] k
section
variable (k:Nat) (a0:Ty.den TDisk)
def K0:Ex→St→Rs:=runK (E k) (eK (E k) Tryz.f78 (C k) (a0,())) [.blk 0,.code (at_ (bt 4 15) (body Tryz.f78))]
def V0 (n0:Nat):T0:=fun x0 x1 x2 x3 x4 x5 x6 x7=>loopN (exec (E k) (at_ (bt 7 23) (body Tryz.f78))) (canon 0 [1,3,23,24,25]) (K0 k a0) n0 (mk 69 1 [(1,.ptr 0 0 0),(3,.int .i64 x0),(23,.sl true TPair x1),(24,.int .i64 x2),(25,.int .i64 x3)] [(0,.box [.sl true TPair x4,.int .i64 x5,.int .i64 x6,.bool x7])])
theorem s0 (n0:Nat):V0 k a0 (n0+1)=b0 k (V0 k a0 n0):=by kernel_rfl
theorem e0:V0 k a0=l0 k:=loop_eq rfl (s0 k a0) fun _=>rfl
end
theorem eq (k:Nat) (a0:Ty.den TDisk):rn (E k) Tryz.f78 (C k) (a0,())=f k a0:=(show _=t k (V0 k a0 k) a0 by kernel_rfl).trans (by rw [e0];rfl)
theorem ctr (k:Nat):Cp 78 (C k):=rc rfl (D k) (by kernel_rfl) Tryz.func78 (by kernel_rfl) rfl fun ⟨a0,_⟩ r h=>(eq k a0).trans h
end impl_DiskOk
namespace impl_fileAt
def C (k:Nat):Cn:=⟨[.val TDisk,.val .str],[(.int .i64)],true,false,fun x=>f k x.1 x.2.1⟩
def E (k:Nat):Env:=en [] [(2,[1,8,9,10])] 0 [] k
section
variable (k:Nat) (a0:Ty.den TDisk) (a1:ByteArray)
def K0:Ex→St→Rs:=runK (E k) (eK (E k) Tryz.f118 (C k) (a0,a1,())) [.blk 0,.code (at_ (bt 2 3) (body Tryz.f118))]
def V0 (n0:Nat):T0:=fun x0 x1 x2 x3=>loopN (exec (E k) (at_ (bt 5 5) (body Tryz.f118))) (canon 0 [1,8,9,10]) (K0 k a0 a1) n0 (mk 21 0 [(1,.str x0),(8,.sl true TPair x1),(9,.int .i64 x2),(10,.int .i64 x3)] [])
theorem s0 (n0:Nat):V0 k a0 a1 (n0+1)=b0 k (V0 k a0 a1 n0):=by kernel_rfl
theorem e0:V0 k a0 a1=l0 k:=loop_eq rfl (s0 k a0 a1) fun _=>rfl
end
theorem eq (k:Nat) (a0:Ty.den TDisk) (a1:ByteArray):rn (E k) Tryz.f118 (C k) (a0,a1,())=f k a0 a1:=(show _=t k (V0 k a0 a1 k) a0 a1 by kernel_rfl).trans (by rw [e0];rfl)
theorem ctr (k:Nat):Cp 118 (C k):=rc rfl [] (by kernel_rfl) Tryz.func118 (by kernel_rfl) rfl fun ⟨a0,a1,_⟩ r h=>(eq k a0 a1).trans h
end impl_fileAt
namespace impl_FileText
def C (k:Nat):Cn:=⟨[.val TDisk,.val .str],[.str,.bool],true,false,fun x=>f k x.1 x.2.1⟩
def D (k:Nat):List Ce:=[q (impl_fileAt.ctr k),q (impl_DiskOk.ctr k)]
def E (k:Nat):Env:=en (D k) [] 0 [] k
theorem eq (k:Nat) (a0:Ty.den TDisk) (a1:ByteArray):rn (E k) Tryz.f79 (C k) (a0,a1,())=f k a0 a1:=by kernel_rfl
theorem ctr (k:Nat):Cp 79 (C k):=rc rfl (D k) (by kernel_rfl) Tryz.func79 (by kernel_rfl) rfl fun ⟨a0,a1,_⟩ r h=>(eq k a0 a1).trans h
end impl_FileText
namespace impl_LiveOk
def C (k:Nat):Cn:=⟨[.val TLive],[.bool],true,false,fun x=>f k x.1⟩
def D (k:Nat):List Ce:=[q (impl_in.ctr k)]
def E (k:Nat):Env:=en (D k) [(2,[1,6,7,8])] 0 [] k
section
variable (k:Nat) (a0:Ty.den TLive)
def K0:Ex→St→Rs:=runK (E k) (eK (E k) Tryz.f131 (C k) (a0,())) [.blk 0,.code (at_ (bt 2 3) (body Tryz.f131))]
def V0 (n0:Nat):T0:=fun x0 x1 x2 x3 x4=>loopN (exec (E k) (at_ (bt 5 5) (body Tryz.f131))) (canon 0 [1,6,7,8]) (K0 k a0) n0 (mk 43 1 [(1,.ptr 0 0 0),(6,.sl true (.int .i64) x0),(7,.int .i64 x1),(8,.int .i64 x2)] [(0,.box [.int .i64 x3,.sl true (.int .i64) x4])])
theorem s0 (n0:Nat):V0 k a0 (n0+1)=b0 k (V0 k a0 n0):=by kernel_rfl
theorem e0:V0 k a0=l0 k:=loop_eq rfl (s0 k a0) fun _=>rfl
end
theorem eq (k:Nat) (a0:Ty.den TLive):rn (E k) Tryz.f131 (C k) (a0,())=f k a0:=(show _=t k (V0 k a0 k) a0 by kernel_rfl).trans (by rw [e0];rfl)
theorem ctr (k:Nat):Cp 131 (C k):=rc rfl (D k) (by kernel_rfl) Tryz.func131 (by kernel_rfl) rfl fun ⟨a0,_⟩ r h=>(eq k a0).trans h
end impl_LiveOk
namespace impl_ReadLive
def C (k:Nat):Cn:=⟨[.val .str],[TLive,.bool],true,false,fun x=>f k x.1⟩
def D (k:Nat):List Ce:=[q (impl_Unframe.ctr k),q (impl_scanner__num.ctr k),q (impl_LiveOk.ctr k)]
def E (k:Nat):Env:=en (D k) [(6,[0,2,5,6,7,8,9])] 0 [] k
section
variable (k:Nat) (a0:ByteArray)
def K0:Ex→St→Rs:=runK (E k) (eK (E k) Tryz.f119 (C k) (a0,())) [.blk 0,.code (at_ (bt 6 63) (body Tryz.f119))]
def V0 (n0:Nat):T0:=fun x0 x1 x2 x3 x4 x5 x6 x7 x8 x9=>loopN (exec (E k) (at_ (bt 9 95) (body Tryz.f119))) (canon 0 [0,2,5,6,7,8,9]) (K0 k a0) n0 (mk 72 5 [(0,.str x0),(2,.ptr 0 0 0),(5,.int .i64 x1),(6,.ptr 2 0 0),(7,.ptr 3 0 0),(8,.int .i64 x2),(9,.int .i64 x3)] [(1,.own false (.int .i64) x4),(0,.box [.int .i64 x5,.ref 1]),(2,.box [.str x6,.bool x7]),(4,.own false (.int .i64) x8),(3,.box [.int .i64 x9,.ref 4])])
theorem s0 (n0:Nat):V0 k a0 (n0+1)=b0 k (V0 k a0 n0):=by kernel_rfl
theorem e0:V0 k a0=l0 k:=loop_eq rfl (s0 k a0) fun _=>rfl
end
theorem eq (k:Nat) (a0:ByteArray):rn (E k) Tryz.f119 (C k) (a0,())=f k a0:=(show _=t k (V0 k a0 k) a0 by kernel_rfl).trans (by rw [e0];rfl)
theorem ctr (k:Nat):Cp 119 (C k):=rc rfl (D k) (by kernel_rfl) Tryz.func119 (by kernel_rfl) rfl fun ⟨a0,_⟩ r h=>(eq k a0).trans h
end impl_ReadLive
namespace impl_Dec
def C (k:Nat):Cn:=⟨[.val (.int .i64)],[.str],true,false,fun x=>f k x.1⟩
def D (k:Nat):List Ce:=[q (lib_Itoa.ctr k)]
def E (k:Nat):Env:=en (D k) [] 0 [] k
theorem eq (k:Nat) (a0:Int):rn (E k) Tryz.f182 (C k) (a0,())=f k a0:=by kernel_rfl
theorem ctr (k:Nat):Cp 182 (C k):=rc rfl (D k) (by kernel_rfl) Tryz.func182 (by kernel_rfl) rfl fun ⟨a0,_⟩ r h=>(eq k a0).trans h
end impl_Dec
namespace impl_named
def C (k:Nat):Cn:=⟨[.val .str,.val (.int .i64)],[.str],true,false,fun x=>f k x.1 x.2.1⟩
def D (k:Nat):List Ce:=[q (impl_in.ctr k),q (impl_Dec.ctr k)]
def E (k:Nat):Env:=en (D k) [] 0 [] k
theorem eq (k:Nat) (a0:ByteArray) (a1:Int):rn (E k) Tryz.f138 (C k) (a0,a1,())=f k a0 a1:=by kernel_rfl
theorem ctr (k:Nat):Cp 138 (C k):=rc rfl (D k) (by kernel_rfl) Tryz.func138 (by kernel_rfl) rfl fun ⟨a0,a1,_⟩ r h=>(eq k a0 a1).trans h
end impl_named
namespace impl_SegName
def C (k:Nat):Cn:=⟨[.val (.int .i64)],[.str],true,false,fun x=>f k x.1⟩
def D (k:Nat):List Ce:=[q (impl_named.ctr k)]
def E (k:Nat):Env:=en (D k) [] 0 [] k
theorem eq (k:Nat) (a0:Int):rn (E k) Tryz.f87 (C k) (a0,())=f k a0:=by kernel_rfl
theorem ctr (k:Nat):Cp 87 (C k):=rc rfl (D k) (by kernel_rfl) Tryz.func87 (by kernel_rfl) rfl fun ⟨a0,_⟩ r h=>(eq k a0).trans h
end impl_SegName
namespace impl_placed
def C (k:Nat):Cn:=⟨[.val (.int .i64),.val (.slice TSpot)],[(.slice TPlace)],true,false,fun x=>f k x.1 x.2.1⟩
def E (k:Nat):Env:=en [] [(3,[0,5,8,9,10])] 0 [] k
section
variable (k:Nat) (a0:Int) (a1:List (Ty.den TSpot))
def K0:Ex→St→Rs:=runK (E k) (eK (E k) Tryz.f161 (C k) (a0,a1,())) [.blk 0,.code (at_ (bt 3 7) (body Tryz.f161))]
def V0 (n0:Nat):T0:=fun x0 x1 x2 x3 x4=>loopN (exec (E k) (at_ (bt 6 11) (body Tryz.f161))) (canon 0 [0,5,8,9,10]) (K0 k a0 a1) n0 (mk 27 1 [(0,.int .i64 x0),(5,.ref 0),(8,.sl true TSpot x1),(9,.int .i64 x2),(10,.int .i64 x3)] [(0,.own false TPlace x4)])
theorem s0 (n0:Nat):V0 k a0 a1 (n0+1)=b0 k (V0 k a0 a1 n0):=by kernel_rfl
theorem e0:V0 k a0 a1=l0 k:=loop_eq rfl (s0 k a0 a1) fun _=>rfl
end
theorem eq (k:Nat) (a0:Int) (a1:List (Ty.den TSpot)):rn (E k) Tryz.f161 (C k) (a0,a1,())=f k a0 a1:=(show _=t k (V0 k a0 a1 k) a0 a1 by kernel_rfl).trans (by rw [e0];rfl)
theorem ctr (k:Nat):Cp 161 (C k):=rc rfl [] (by kernel_rfl) Tryz.func161 (by kernel_rfl) rfl fun ⟨a0,a1,_⟩ r h=>(eq k a0 a1).trans h
end impl_placed
namespace impl_worker__scanAll
def C (k:Nat):Cn:=⟨[.io true Tworker,.val TLive],[(.slice (.slice TPlace)),(.int .i64),.bool],true,false,fun x=>f k x.1 x.2.1⟩
def D (k:Nat):List Ce:=[q (impl_SegName.ctr k),q (impl_FileText.ctr k),q (impl_ScanRecs.ctr k),q (impl_placed.ctr k)]
def E (k:Nat):Env:=en (D k) [(4,[0,3,7,8,16,17,18])] 1 [] k
section
variable (k:Nat) (a0:Ty.den Tworker) (a1:Ty.den TLive)
def K0:Ex→St→Rs:=runK (E k) (eK (E k) Tryz.f120 (C k) (a0,a1,())) [.blk 0,.code (at_ (bt 4 15) (body Tryz.f120))]
def V0 (n0:Nat):T0:=fun x0 x1 x2 x3 x4 x5 x6 x7 x8 x9 x10 x11=>loopN (exec (E k) (at_ (bt 7 23) (body Tryz.f120))) (canon 1 [0,3,7,8,16,17,18]) (K0 k a0 a1) n0 (mk 64 4 [(0,.ptr 0 0 0),(3,.ptr 2 0 0),(7,.ref 3),(8,.int .i64 x0),(16,.sl true (.int .i64) x1),(17,.int .i64 x2),(18,.int .i64 x3)] [(1,.own false TPair x4),(0,.box [.ref 1,.int .i64 x5,.int .i64 x6,.bool x7,.int .i64 x8]),(2,.box [.int .i64 x9,.sl true (.int .i64) x10]),(3,.own false (.slice TPlace) x11)])
theorem s0 (n0:Nat):V0 k a0 a1 (n0+1)=b0 k (V0 k a0 a1 n0):=by kernel_rfl
theorem e0:V0 k a0 a1=l0 k:=loop_eq rfl (s0 k a0 a1) fun _=>rfl
end
theorem eq (k:Nat) (a0:Ty.den Tworker) (a1:Ty.den TLive):rn (E k) Tryz.f120 (C k) (a0,a1,())=f k a0 a1:=(show _=t k (V0 k a0 a1 k) a0 a1 by kernel_rfl).trans (by rw [e0];rfl)
theorem ctr (k:Nat):Cp 120 (C k):=rc rfl (D k) (by kernel_rfl) Tryz.func120 (by kernel_rfl) rfl fun ⟨a0,a1,_⟩ r h=>(eq k a0 a1).trans h
end impl_worker__scanAll
namespace impl_Truncate_1
def C (k:Nat):Cn:=⟨[.io true TDisk,.io true .str,.io true (.int .i64)],[(.int .i64)],true,false,fun x=>f k x.1 x.2.1 x.2.2.1⟩
def D (k:Nat):List Ce:=[q (impl_fileAt.ctr k),q (impl_in.ctr k)]
def E (k:Nat):Env:=en (D k) [] 3 [] k
theorem eq (k:Nat) (a0:Ty.den TDisk) (a1:ByteArray) (a2:Int):rn (E k) Tryz.f164 (C k) (a0,a1,a2,())=f k a0 a1 a2:=by kernel_rfl
theorem ctr (k:Nat):Cp 164 (C k):=rc rfl (D k) (by kernel_rfl) Tryz.func164 (by kernel_rfl) rfl fun ⟨a0,a1,a2,_⟩ r h=>(eq k a0 a1 a2).trans h
end impl_Truncate_1
namespace impl_step_Truncate_1
def C (k:Nat):Cn:=⟨[.val TDisk,.fn 164 2,.io true .str,.io true (.int .i64)],[TDisk,(.int .i64)],true,false,fun x=>f k x.1 x.2.1 x.2.2.1⟩
def D (k:Nat):List Ce:=[q (impl_copyDisk.ctr k),q (impl_DiskOk.ctr k),q (impl_Truncate_1.ctr k)]
def E (k:Nat):Env:=en (D k) [] 2 [] k
theorem eq (k:Nat) (a0:Ty.den TDisk) (a1:ByteArray) (a2:Int):rn (E k) Tryz.f163 (C k) (a0,a1,a2,())=f k a0 a1 a2:=by kernel_rfl
theorem ctr (k:Nat):Cp 163 (C k):=rc rfl (D k) (by kernel_rfl) Tryz.func163 (by kernel_rfl) rfl fun ⟨a0,a1,a2,_⟩ r h=>(eq k a0 a1 a2).trans h
end impl_step_Truncate_1
namespace impl_Truncate
def C (k:Nat):Cn:=⟨[.val TDisk,.val .str,.val (.int .i64)],[TDisk,(.int .i64)],true,false,fun x=>f k x.1 x.2.1 x.2.2.1⟩
def D (k:Nat):List Ce:=[q (impl_step_Truncate_1.ctr k)]
def E (k:Nat):Env:=en (D k) [] 0 [] k
theorem eq (k:Nat) (a0:Ty.den TDisk) (a1:ByteArray) (a2:Int):rn (E k) Tryz.f122 (C k) (a0,a1,a2,())=f k a0 a1 a2:=by kernel_rfl
theorem ctr (k:Nat):Cp 122 (C k):=rc rfl (D k) (by kernel_rfl) Tryz.func122 (by kernel_rfl) rfl fun ⟨a0,a1,a2,_⟩ r h=>(eq k a0 a1 a2).trans h
end impl_Truncate
namespace impl_told
def C (k:Nat):Cn:=⟨[.val (.int .i64)],[(.int .i64)],true,false,fun x=>f k x.1⟩
def E (k:Nat):Env:=en [] [] 0 [] k
theorem eq (k:Nat) (a0:Int):rn (E k) Tryz.f162 (C k) (a0,())=f k a0:=by kernel_rfl
theorem ctr (k:Nat):Cp 162 (C k):=rc rfl [] (by kernel_rfl) Tryz.func162 (by kernel_rfl) rfl fun ⟨a0,_⟩ r h=>(eq k a0).trans h
end impl_told
namespace impl_worker__took_g1
def C (k:Nat):Cn:=⟨[.io true Tworker,.give TDisk,.val (.int .i64)],[],true,false,fun x=>f k x.1 x.2.1 x.2.2.1⟩
def D (k:Nat):List Ce:=[q (impl_told.ctr k)]
def E (k:Nat):Env:=en (D k) [] 1 [] k
theorem eq (k:Nat) (a0:Ty.den Tworker) (a1:Ty.den TDisk) (a2:Int):rn (E k) Tryz.f121 (C k) (a0,a1,a2,())=f k a0 a1 a2:=by kernel_rfl
theorem ctr (k:Nat):Cp 121 (C k):=rc rfl (D k) (by kernel_rfl) Tryz.func121 (by kernel_rfl) rfl fun ⟨a0,a1,a2,_⟩ r h=>(eq k a0 a1 a2).trans h
end impl_worker__took_g1
namespace impl_Sync_1
def C (k:Nat):Cn:=⟨[.io true TDisk,.io true .str],[(.int .i64)],true,false,fun x=>f k x.1 x.2.1⟩
def D (k:Nat):List Ce:=[q (impl_fileAt.ctr k)]
def E (k:Nat):Env:=en (D k) [] 2 [] k
theorem eq (k:Nat) (a0:Ty.den TDisk) (a1:ByteArray):rn (E k) Tryz.f204 (C k) (a0,a1,())=f k a0 a1:=by kernel_rfl
theorem ctr (k:Nat):Cp 204 (C k):=rc rfl (D k) (by kernel_rfl) Tryz.func204 (by kernel_rfl) rfl fun ⟨a0,a1,_⟩ r h=>(eq k a0 a1).trans h
end impl_Sync_1
namespace impl_step_Sync_1
def C (k:Nat):Cn:=⟨[.val TDisk,.fn 204 1,.io true .str],[TDisk,(.int .i64)],true,false,fun x=>f k x.1 x.2.1⟩
def D (k:Nat):List Ce:=[q (impl_copyDisk.ctr k),q (impl_DiskOk.ctr k),q (impl_Sync_1.ctr k)]
def E (k:Nat):Env:=en (D k) [] 1 [] k
theorem eq (k:Nat) (a0:Ty.den TDisk) (a1:ByteArray):rn (E k) Tryz.f163 (C k) (a0,a1,())=f k a0 a1:=by kernel_rfl
theorem ctr (k:Nat):Cp 163 (C k):=rc rfl (D k) (by kernel_rfl) Tryz.func163 (by kernel_rfl) rfl fun ⟨a0,a1,_⟩ r h=>(eq k a0 a1).trans h
end impl_step_Sync_1
namespace impl_Sync
def C (k:Nat):Cn:=⟨[.val TDisk,.val .str],[TDisk,(.int .i64)],true,false,fun x=>f k x.1 x.2.1⟩
def D (k:Nat):List Ce:=[q (impl_step_Sync_1.ctr k)]
def E (k:Nat):Env:=en (D k) [] 0 [] k
theorem eq (k:Nat) (a0:Ty.den TDisk) (a1:ByteArray):rn (E k) Tryz.f165 (C k) (a0,a1,())=f k a0 a1:=by kernel_rfl
theorem ctr (k:Nat):Cp 165 (C k):=rc rfl (D k) (by kernel_rfl) Tryz.func165 (by kernel_rfl) rfl fun ⟨a0,a1,_⟩ r h=>(eq k a0 a1).trans h
end impl_Sync
namespace impl_worker__sync
def C (k:Nat):Cn:=⟨[.io true Tworker,.val .str],[],true,false,fun x=>f k x.1 x.2.1⟩
def D (k:Nat):List Ce:=[q (impl_Sync.ctr k),q (impl_worker__took_g1.ctr k)]
def E (k:Nat):Env:=en (D k) [] 1 [] k
theorem eq (k:Nat) (a0:Ty.den Tworker) (a1:ByteArray):rn (E k) Tryz.f123 (C k) (a0,a1,())=f k a0 a1:=by kernel_rfl
theorem ctr (k:Nat):Cp 123 (C k):=rc rfl (D k) (by kernel_rfl) Tryz.func123 (by kernel_rfl) rfl fun ⟨a0,a1,_⟩ r h=>(eq k a0 a1).trans h
end impl_worker__sync
namespace impl_HintName
def C (k:Nat):Cn:=⟨[.val (.int .i64)],[.str],true,false,fun x=>f k x.1⟩
def D (k:Nat):List Ce:=[q (impl_named.ctr k)]
def E (k:Nat):Env:=en (D k) [] 0 [] k
theorem eq (k:Nat) (a0:Int):rn (E k) Tryz.f166 (C k) (a0,())=f k a0:=by kernel_rfl
theorem ctr (k:Nat):Cp 166 (C k):=rc rfl (D k) (by kernel_rfl) Tryz.func166 (by kernel_rfl) rfl fun ⟨a0,_⟩ r h=>(eq k a0).trans h
end impl_HintName
namespace impl_DirOk
def C (k:Nat):Cn:=⟨[.val (.slice TEntry)],[.bool],true,false,fun x=>f k x.1⟩
def D (k:Nat):List Ce:=[q (impl_KeyOk.ctr k),q (impl_in.ctr k)]
def E (k:Nat):Env:=en (D k) [(2,[0,5,6,7])] 0 [] k
section
variable (k:Nat) (a0:List (Ty.den TEntry))
def K0:Ex→St→Rs:=runK (E k) (eK (E k) Tryz.f132 (C k) (a0,())) [.blk 0,.code (at_ (bt 2 3) (body Tryz.f132))]
def V0 (n0:Nat):T0:=fun x0 x1 x2 x3=>loopN (exec (E k) (at_ (bt 5 5) (body Tryz.f132))) (canon 0 [0,5,6,7]) (K0 k a0) n0 (mk 58 0 [(0,.sl true TEntry x0),(5,.sl true TEntry x1),(6,.int .i64 x2),(7,.int .i64 x3)] [])
theorem s0 (n0:Nat):V0 k a0 (n0+1)=b0 k (V0 k a0 n0):=by kernel_rfl
theorem e0:V0 k a0=l0 k:=loop_eq rfl (s0 k a0) fun _=>rfl
end
theorem eq (k:Nat) (a0:List (Ty.den TEntry)):rn (E k) Tryz.f132 (C k) (a0,())=f k a0:=(show _=t k (V0 k a0 k) a0 by kernel_rfl).trans (by rw [e0];rfl)
theorem ctr (k:Nat):Cp 132 (C k):=rc rfl (D k) (by kernel_rfl) Tryz.func132 (by kernel_rfl) rfl fun ⟨a0,_⟩ r h=>(eq k a0).trans h
end impl_DirOk
namespace impl_hintOk
def C (k:Nat):Cn:=⟨[.val THint],[.bool],true,false,fun x=>f k x.1⟩
def D (k:Nat):List Ce:=[q (impl_in.ctr k),q (impl_DirOk.ctr k)]
def E (k:Nat):Env:=en (D k) [(2,[1,6,7,8])] 0 [] k
section
variable (k:Nat) (a0:Ty.den THint)
def K0:Ex→St→Rs:=runK (E k) (eK (E k) Tryz.f205 (C k) (a0,())) [.blk 0,.code (at_ (bt 2 3) (body Tryz.f205))]
def V0 (n0:Nat):T0:=fun x0 x1 x2 x3 x4 x5=>loopN (exec (E k) (at_ (bt 5 5) (body Tryz.f205))) (canon 0 [1,6,7,8]) (K0 k a0) n0 (mk 39 1 [(1,.ptr 0 0 0),(6,.sl true TEntry x0),(7,.int .i64 x1),(8,.int .i64 x2)] [(0,.box [.int .i64 x3,.int .i64 x4,.sl true TEntry x5])])
theorem s0 (n0:Nat):V0 k a0 (n0+1)=b0 k (V0 k a0 n0):=by kernel_rfl
theorem e0:V0 k a0=l0 k:=loop_eq rfl (s0 k a0) fun _=>rfl
end
theorem eq (k:Nat) (a0:Ty.den THint):rn (E k) Tryz.f205 (C k) (a0,())=f k a0:=(show _=t k (V0 k a0 k) a0 by kernel_rfl).trans (by rw [e0];rfl)
theorem ctr (k:Nat):Cp 205 (C k):=rc rfl (D k) (by kernel_rfl) Tryz.func205 (by kernel_rfl) rfl fun ⟨a0,_⟩ r h=>(eq k a0).trans h
end impl_hintOk
namespace impl_ShowHint
def C (k:Nat):Cn:=⟨[.val THint],[.str],true,false,fun x=>f k x.1⟩
def D (k:Nat):List Ce:=[q (impl_hintOk.ctr k),q (impl_vars.ctr k),q (impl_textOf.ctr k),q (impl_Crc.ctr k),q (impl_Fixed.ctr k)]
def E (k:Nat):Env:=en (D k) [(5,[3,19,20,21])] 0 [] k
section
variable (k:Nat) (a0:Ty.den THint)
def K0:Ex→St→Rs:=runK (E k) (eK (E k) Tryz.f206 (C k) (a0,())) [.blk 0,.code (at_ (bt 4 15) (body Tryz.f206))]
def V0 (n0:Nat):T0:=fun x0 x1 x2 x3=>loopN (exec (E k) (at_ (bt 7 23) (body Tryz.f206))) (canon 0 [3,19,20,21]) (K0 k a0) n0 (mk 47 0 [(3,.str x0),(19,.sl true TEntry x1),(20,.int .i64 x2),(21,.int .i64 x3)] [])
theorem s0 (n0:Nat):V0 k a0 (n0+1)=b0 k (V0 k a0 n0):=by kernel_rfl
theorem e0:V0 k a0=l0 k:=loop_eq rfl (s0 k a0) fun _=>rfl
end
theorem eq (k:Nat) (a0:Ty.den THint):rn (E k) Tryz.f206 (C k) (a0,())=f k a0:=(show _=t k (V0 k a0 k) a0 by kernel_rfl).trans (by rw [e0];rfl)
theorem ctr (k:Nat):Cp 206 (C k):=rc rfl (D k) (by kernel_rfl) Tryz.func206 (by kernel_rfl) rfl fun ⟨a0,_⟩ r h=>(eq k a0).trans h
end impl_ShowHint
namespace impl_ReadHint
def C (k:Nat):Cn:=⟨[.val .str],[THint,.bool],true,false,fun x=>f k x.1⟩
def D (k:Nat):List Ce:=[q (impl_scanner__bytes.ctr k),q (impl_scanner__num.ctr k),q (impl_scanner__text.ctr k),q (impl_hintOk.ctr k),q (impl_ShowHint.ctr k)]
def E (k:Nat):Env:=en (D k) [(8,[0,2,4,5,6,7])] 0 [] k
section
variable (k:Nat) (a0:ByteArray)
def K0:Ex→St→Rs:=runK (E k) (eK (E k) Tryz.f167 (C k) (a0,())) [.blk 0,.code (at_ (bt 8 255) (body Tryz.f167))]
def V0 (n0:Nat):T0:=fun x0 x1 x2 x3 x4 x5 x6 x7 x8 x9 x10=>loopN (exec (E k) (at_ (bt 11 383) (body Tryz.f167))) (canon 0 [0,2,4,5,6,7]) (K0 k a0) n0 (mk 72 5 [(0,.str x0),(2,.ptr 0 0 0),(4,.ptr 2 0 0),(5,.ptr 3 0 0),(6,.int .i64 x1),(7,.int .i64 x2)] [(1,.own false TEntry x3),(0,.box [.int .i64 x4,.int .i64 x5,.ref 1]),(2,.box [.str x6,.bool x7]),(4,.own false TEntry x8),(3,.box [.int .i64 x9,.int .i64 x10,.ref 4])])
theorem s0 (n0:Nat):V0 k a0 (n0+1)=b0 k (V0 k a0 n0):=by kernel_rfl
theorem e0:V0 k a0=l0 k:=loop_eq rfl (s0 k a0) fun _=>rfl
end
theorem eq (k:Nat) (a0:ByteArray):rn (E k) Tryz.f167 (C k) (a0,())=f k a0:=(show _=t k (V0 k a0 k) a0 by kernel_rfl).trans (by rw [e0];rfl)
theorem ctr (k:Nat):Cp 167 (C k):=rc rfl (D k) (by kernel_rfl) Tryz.func167 (by kernel_rfl) rfl fun ⟨a0,_⟩ r h=>(eq k a0).trans h
end impl_ReadHint
namespace impl_fits
def C (k:Nat):Cn:=⟨[.val TRec,.val (.slice TPlace)],[.bool],true,false,fun x=>f k x.1 x.2.1⟩
def D (k:Nat):List Ce:=[q (impl_SumOf.ctr k)]
def E (k:Nat):Env:=en (D k) [(3,[2,5,8,9,10])] 0 [] k
section
variable (k:Nat) (a0:Ty.den TRec) (a1:List (Ty.den TPlace))
def K0:Ex→St→Rs:=runK (E k) (eK (E k) Tryz.f170 (C k) (a0,a1,())) [.blk 0,.code (at_ (bt 3 7) (body Tryz.f170))]
def V0 (n0:Nat):T0:=fun x0 x1 x2 x3 x4 x5 x6 x7 x8 x9=>loopN (exec (E k) (at_ (bt 6 11) (body Tryz.f170))) (canon 0 [2,5,8,9,10]) (K0 k a0 a1) n0 (mk 32 2 [(2,.ptr 0 0 0),(5,.ref 1),(8,.sl true TPlace x0),(9,.int .i64 x1),(10,.int .i64 x2)] [(0,.box [.int .i64 x3,.int .i64 x4,.str x5,.str x6,.int .i64 x7,.int .i64 x8]),(1,.own false TRec x9)])
theorem s0 (n0:Nat):V0 k a0 a1 (n0+1)=b0 k (V0 k a0 a1 n0):=by kernel_rfl
theorem e0:V0 k a0 a1=l0 k:=loop_eq rfl (s0 k a0 a1) fun _=>rfl
end
theorem eq (k:Nat) (a0:Ty.den TRec) (a1:List (Ty.den TPlace)):rn (E k) Tryz.f170 (C k) (a0,a1,())=f k a0 a1:=(show _=t k (V0 k a0 a1 k) a0 a1 by kernel_rfl).trans (by rw [e0];rfl)
theorem ctr (k:Nat):Cp 170 (C k):=rc rfl (D k) (by kernel_rfl) Tryz.func170 (by kernel_rfl) rfl fun ⟨a0,a1,_⟩ r h=>(eq k a0 a1).trans h
end impl_fits
namespace impl_HintOf
def C (k:Nat):Cn:=⟨[.val (.int .i64),.val .str],[THint,.bool],true,false,fun x=>f k x.1 x.2.1⟩
def D (k:Nat):List Ce:=[q (impl_ScanRecs.ctr k),q (impl_in.ctr k),q (impl_placed.ctr k),q (impl_fits.ctr k)]
def E (k:Nat):Env:=en (D k) [(7,[0,4,6,9,67,68,69])] 0 [] k
section
variable (k:Nat) (a0:Int) (a1:ByteArray)
def K0:Ex→St→Rs:=runK (E k) (eK (E k) Tryz.f207 (C k) (a0,a1,())) [.blk 0,.code (at_ (bt 6 63) (body Tryz.f207))]
def V0 (n0:Nat):T0:=fun x0 x1 x2 x3 x4 x5 x6 x7 x8 x9 x10=>loopN (exec (E k) (at_ (bt 9 95) (body Tryz.f207))) (canon 0 [0,4,6,9,67,68,69]) (K0 k a0 a1) n0 (mk 123 4 [(0,.int .i64 x0),(4,.ptr 0 0 0),(6,.sl false TSpot x1),(9,.ptr 2 0 0),(67,.sl false TSpot x2),(68,.int .i64 x3),(69,.int .i64 x4)] [(1,.own false TEntry x5),(0,.box [.int .i64 x6,.int .i64 x7,.ref 1]),(3,.own false TEntry x8),(2,.box [.int .i64 x9,.int .i64 x10,.ref 3])])
theorem s0 (n0:Nat):V0 k a0 a1 (n0+1)=b0 k (V0 k a0 a1 n0):=by kernel_rfl
theorem e0:V0 k a0 a1=l0 k:=loop_eq rfl (s0 k a0 a1) fun _=>rfl
end
theorem eq (k:Nat) (a0:Int) (a1:ByteArray):rn (E k) Tryz.f207 (C k) (a0,a1,())=f k a0 a1:=(show _=t k (V0 k a0 a1 k) a0 a1 by kernel_rfl).trans (by rw [e0];rfl)
theorem ctr (k:Nat):Cp 207 (C k):=rc rfl (D k) (by kernel_rfl) Tryz.func207 (by kernel_rfl) rfl fun ⟨a0,a1,_⟩ r h=>(eq k a0 a1).trans h
end impl_HintOf
namespace impl_SameDir
def C (k:Nat):Cn:=⟨[.val (.slice TEntry),.val (.slice TEntry)],[.bool],true,false,fun x=>f k x.1 x.2.1⟩
def E (k:Nat):Env:=en [] [(4,[0,1,12,13])] 0 [] k
section
variable (k:Nat) (a0:List (Ty.den TEntry)) (a1:List (Ty.den TEntry))
def K0:Ex→St→Rs:=runK (E k) (eK (E k) Tryz.f208 (C k) (a0,a1,())) [.blk 0,.code (at_ (bt 3 7) (body Tryz.f208))]
def V0 (n0:Nat):T0:=fun x0 x1 x2 x3=>loopN (exec (E k) (at_ (bt 6 11) (body Tryz.f208))) (canon 0 [0,1,12,13]) (K0 k a0 a1) n0 (mk 26 0 [(0,.sl true TEntry x0),(1,.sl true TEntry x1),(12,.int .i64 x2),(13,.int .i64 x3)] [])
theorem s0 (n0:Nat):V0 k a0 a1 (n0+1)=b0 k (V0 k a0 a1 n0):=by kernel_rfl
theorem e0:V0 k a0 a1=l0 k:=loop_eq rfl (s0 k a0 a1) fun _=>rfl
end
theorem eq (k:Nat) (a0:List (Ty.den TEntry)) (a1:List (Ty.den TEntry)):rn (E k) Tryz.f208 (C k) (a0,a1,())=f k a0 a1:=(show _=t k (V0 k a0 a1 k) a0 a1 by kernel_rfl).trans (by rw [e0];rfl)
theorem ctr (k:Nat):Cp 208 (C k):=rc rfl [] (by kernel_rfl) Tryz.func208 (by kernel_rfl) rfl fun ⟨a0,a1,_⟩ r h=>(eq k a0 a1).trans h
end impl_SameDir
namespace impl_HintFits
def C (k:Nat):Cn:=⟨[.val (.int .i64),.val .str,.val THint],[.bool],true,false,fun x=>f k x.1 x.2.1 x.2.2.1⟩
def D (k:Nat):List Ce:=[q (impl_HintOf.ctr k),q (impl_SameDir.ctr k)]
def E (k:Nat):Env:=en (D k) [] 0 [] k
theorem eq (k:Nat) (a0:Int) (a1:ByteArray) (a2:Ty.den THint):rn (E k) Tryz.f168 (C k) (a0,a1,a2,())=f k a0 a1 a2:=by kernel_rfl
theorem ctr (k:Nat):Cp 168 (C k):=rc rfl (D k) (by kernel_rfl) Tryz.func168 (by kernel_rfl) rfl fun ⟨a0,a1,a2,_⟩ r h=>(eq k a0 a1 a2).trans h
end impl_HintFits
namespace impl_worker__hinted
def C (k:Nat):Cn:=⟨[.io true Tworker,.val (.int .i64)],[TGroup,.bool],true,false,fun x=>f k x.1 x.2.1⟩
def D (k:Nat):List Ce:=[q (impl_HintName.ctr k),q (impl_FileText.ctr k),q (impl_ReadHint.ctr k),q (impl_SegName.ctr k),q (impl_HintFits.ctr k)]
def E (k:Nat):Env:=en (D k) [] 1 [] k
theorem eq (k:Nat) (a0:Ty.den Tworker) (a1:Int):rn (E k) Tryz.f124 (C k) (a0,a1,())=f k a0 a1:=by kernel_rfl
theorem ctr (k:Nat):Cp 124 (C k):=rc rfl (D k) (by kernel_rfl) Tryz.func124 (by kernel_rfl) rfl fun ⟨a0,a1,_⟩ r h=>(eq k a0 a1).trans h
end impl_worker__hinted
namespace impl_copyDir
def C (k:Nat):Cn:=⟨[.val (.slice TEntry)],[(.slice TEntry)],true,false,fun x=>f k x.1⟩
def E (k:Nat):Env:=en [] [] 0 [] k
theorem eq (k:Nat) (a0:List (Ty.den TEntry)):rn (E k) Tryz.f130 (C k) (a0,())=f k a0:=by kernel_rfl
theorem ctr (k:Nat):Cp 130 (C k):=rc rfl [] (by kernel_rfl) Tryz.func130 (by kernel_rfl) rfl fun ⟨a0,_⟩ r h=>(eq k a0).trans h
end impl_copyDir
namespace impl_ownOf
def C (k:Nat):Cn:=⟨[.val (.slice TPlace),.val TRec],[(.slice TPlace)],true,false,fun x=>f k x.1 x.2.1⟩
def E (k:Nat):Env:=en [] [(3,[3,5,9,10,11])] 0 [] k
section
variable (k:Nat) (a0:List (Ty.den TPlace)) (a1:Ty.den TRec)
def K0:Ex→St→Rs:=runK (E k) (eK (E k) Tryz.f169 (C k) (a0,a1,())) [.blk 0,.code (at_ (bt 3 7) (body Tryz.f169))]
def V0 (n0:Nat):T0:=fun x0 x1 x2 x3 x4 x5 x6 x7 x8 x9=>loopN (exec (E k) (at_ (bt 6 11) (body Tryz.f169))) (canon 0 [3,5,9,10,11]) (K0 k a0 a1) n0 (mk 62 2 [(3,.ptr 0 0 0),(5,.ref 1),(9,.sl true TPlace x0),(10,.int .i64 x1),(11,.int .i64 x2)] [(0,.box [.int .i64 x3,.int .i64 x4,.str x5,.str x6,.int .i64 x7,.int .i64 x8]),(1,.own false TPlace x9)])
theorem s0 (n0:Nat):V0 k a0 a1 (n0+1)=b0 k (V0 k a0 a1 n0):=by kernel_rfl
theorem e0:V0 k a0 a1=l0 k:=loop_eq rfl (s0 k a0 a1) fun _=>rfl
end
theorem eq (k:Nat) (a0:List (Ty.den TPlace)) (a1:Ty.den TRec):rn (E k) Tryz.f169 (C k) (a0,a1,())=f k a0 a1:=(show _=t k (V0 k a0 a1 k) a0 a1 by kernel_rfl).trans (by rw [e0];rfl)
theorem ctr (k:Nat):Cp 169 (C k):=rc rfl [] (by kernel_rfl) Tryz.func169 (by kernel_rfl) rfl fun ⟨a0,a1,_⟩ r h=>(eq k a0 a1).trans h
end impl_ownOf
namespace impl_DirDrop
def C (k:Nat):Cn:=⟨[.val (.slice TEntry),.val .str],[(.slice TEntry)],true,false,fun x=>f k x.1 x.2.1⟩
def E (k:Nat):Env:=en [] [(3,[1,5,8,9,10])] 0 [] k
section
variable (k:Nat) (a0:List (Ty.den TEntry)) (a1:ByteArray)
def K0:Ex→St→Rs:=runK (E k) (eK (E k) Tryz.f178 (C k) (a0,a1,())) [.blk 0,.code (at_ (bt 3 7) (body Tryz.f178))]
def V0 (n0:Nat):T0:=fun x0 x1 x2 x3 x4=>loopN (exec (E k) (at_ (bt 6 11) (body Tryz.f178))) (canon 0 [1,5,8,9,10]) (K0 k a0 a1) n0 (mk 24 1 [(1,.str x0),(5,.ref 0),(8,.sl true TEntry x1),(9,.int .i64 x2),(10,.int .i64 x3)] [(0,.own false TEntry x4)])
theorem s0 (n0:Nat):V0 k a0 a1 (n0+1)=b0 k (V0 k a0 a1 n0):=by kernel_rfl
theorem e0:V0 k a0 a1=l0 k:=loop_eq rfl (s0 k a0 a1) fun _=>rfl
end
theorem eq (k:Nat) (a0:List (Ty.den TEntry)) (a1:ByteArray):rn (E k) Tryz.f178 (C k) (a0,a1,())=f k a0 a1:=(show _=t k (V0 k a0 a1 k) a0 a1 by kernel_rfl).trans (by rw [e0];rfl)
theorem ctr (k:Nat):Cp 178 (C k):=rc rfl [] (by kernel_rfl) Tryz.func178 (by kernel_rfl) rfl fun ⟨a0,a1,_⟩ r h=>(eq k a0 a1).trans h
end impl_DirDrop
namespace impl_DirPut
def C (k:Nat):Cn:=⟨[.val (.slice TEntry),.val TEntry],[(.slice TEntry)],true,false,fun x=>f k x.1 x.2.1⟩
def D (k:Nat):List Ce:=[q (impl_DirDrop.ctr k),q (impl_copyDir.ctr k)]
def E (k:Nat):Env:=en (D k) [(3,[3,5,6])] 0 [] k
section
variable (k:Nat) (a0:List (Ty.den TEntry)) (a1:Ty.den TEntry)
def K0:Ex→St→Rs:=runK (E k) (eK (E k) Tryz.f179 (C k) (a0,a1,())) [.blk 0,.code (at_ (bt 4 15) (body Tryz.f179))]
def V0 (n0:Nat):T0:=fun x0 x1 x2 x3 x4 x5 x6=>loopN (exec (E k) (at_ (bt 6 7) (body Tryz.f179))) (canon 0 [3,5,6]) (K0 k a0 a1) n0 (mk 38 2 [(3,.ptr 0 0 0),(5,.ref 1),(6,.int .i64 x0)] [(0,.box [.str x1,.int .i64 x2,.int .i64 x3,.int .i64 x4,.int .i64 x5]),(1,.own false TEntry x6)])
theorem s0 (n0:Nat):V0 k a0 a1 (n0+1)=b0 k (V0 k a0 a1 n0):=by kernel_rfl
theorem e0:V0 k a0 a1=l0 k:=loop_eq rfl (s0 k a0 a1) fun _=>rfl
end
theorem eq (k:Nat) (a0:List (Ty.den TEntry)) (a1:Ty.den TEntry):rn (E k) Tryz.f179 (C k) (a0,a1,())=f k a0 a1:=(show _=t k (V0 k a0 a1 k) a0 a1 by kernel_rfl).trans (by rw [e0];rfl)
theorem ctr (k:Nat):Cp 179 (C k):=rc rfl (D k) (by kernel_rfl) Tryz.func179 (by kernel_rfl) rfl fun ⟨a0,a1,_⟩ r h=>(eq k a0 a1).trans h
end impl_DirPut
namespace impl_Group__apply
def C (k:Nat):Cn:=⟨[.io true TGroup,.val (.slice TPlace)],[],true,false,fun x=>f k x.1 x.2.1⟩
def D (k:Nat):List Ce:=[q (impl_DirDrop.ctr k),q (impl_DirPut.ctr k)]
def E (k:Nat):Env:=en (D k) [(1,[0,6,7,8])] 1 [] k
section
variable (k:Nat) (a0:Ty.den TGroup) (a1:List (Ty.den TPlace))
def K0:Ex→St→Rs:=runK (E k) (eK (E k) Tryz.f171 (C k) (a0,a1,())) [.blk 0,.code (at_ (bt 1 1) (body Tryz.f171))]
def V0 (n0:Nat):T0:=fun x0 x1 x2 x3 x4 x5=>loopN (exec (E k) (at_ (bt 4 2) (body Tryz.f171))) (canon 1 [0,6,7,8]) (K0 k a0 a1) n0 (mk 58 2 [(0,.ptr 0 0 0),(6,.sl true TPlace x0),(7,.int .i64 x1),(8,.int .i64 x2)] [(1,.own false TEntry x3),(0,.box [.ref 1,.int .i64 x4,.int .i64 x5])])
theorem s0 (n0:Nat):V0 k a0 a1 (n0+1)=b0 k (V0 k a0 a1 n0):=by kernel_rfl
theorem e0:V0 k a0 a1=l0 k:=loop_eq rfl (s0 k a0 a1) fun _=>rfl
end
theorem eq (k:Nat) (a0:Ty.den TGroup) (a1:List (Ty.den TPlace)):rn (E k) Tryz.f171 (C k) (a0,a1,())=f k a0 a1:=(show _=t k (V0 k a0 a1 k) a0 a1 by kernel_rfl).trans (by rw [e0];rfl)
theorem ctr (k:Nat):Cp 171 (C k):=rc rfl (D k) (by kernel_rfl) Tryz.func171 (by kernel_rfl) rfl fun ⟨a0,a1,_⟩ r h=>(eq k a0 a1).trans h
end impl_Group__apply
namespace impl_Regroup
def C (k:Nat):Cn:=⟨[.val TGroup,.val (.slice TPlace)],[TGroup],true,false,fun x=>f k x.1 x.2.1⟩
def D (k:Nat):List Ce:=[q (impl_copyDir.ctr k),q (impl_ownOf.ctr k),q (impl_fits.ctr k),q (impl_Group__apply.ctr k)]
def E (k:Nat):Env:=en (D k) [(3,[1,4,5,17,18,19])] 0 [] k
section
variable (k:Nat) (a0:Ty.den TGroup) (a1:List (Ty.den TPlace))
def K0:Ex→St→Rs:=runK (E k) (eK (E k) Tryz.f125 (C k) (a0,a1,())) [.blk 0,.code (at_ (bt 3 7) (body Tryz.f125))]
def V0 (n0:Nat):T0:=fun x0 x1 x2 x3 x4 x5 x6 x7 x8 x9=>loopN (exec (E k) (at_ (bt 6 11) (body Tryz.f125))) (canon 0 [1,4,5,17,18,19]) (K0 k a0 a1) n0 (mk 77 4 [(1,.sl true TPlace x0),(4,.ptr 0 0 0),(5,.ptr 2 0 0),(17,.sl true TPlace x1),(18,.int .i64 x2),(19,.int .i64 x3)] [(1,.own false TEntry x4),(0,.box [.ref 1,.int .i64 x5,.int .i64 x6]),(3,.own false TEntry x7),(2,.box [.ref 3,.int .i64 x8,.int .i64 x9])])
theorem s0 (n0:Nat):V0 k a0 a1 (n0+1)=b0 k (V0 k a0 a1 n0):=by kernel_rfl
theorem e0:V0 k a0 a1=l0 k:=loop_eq rfl (s0 k a0 a1) fun _=>rfl
end
theorem eq (k:Nat) (a0:Ty.den TGroup) (a1:List (Ty.den TPlace)):rn (E k) Tryz.f125 (C k) (a0,a1,())=f k a0 a1:=(show _=t k (V0 k a0 a1 k) a0 a1 by kernel_rfl).trans (by rw [e0];rfl)
theorem ctr (k:Nat):Cp 125 (C k):=rc rfl (D k) (by kernel_rfl) Tryz.func125 (by kernel_rfl) rfl fun ⟨a0,a1,_⟩ r h=>(eq k a0 a1).trans h
end impl_Regroup
namespace impl_IdOf
def C (k:Nat):Cn:=⟨[.val .str],[(.int .i64),.bool],true,false,fun x=>f k x.1⟩
def D (k:Nat):List Ce:=[q (lib_CutPrefix.ctr k),q (impl_ReadDec.ctr k),q (impl_in.ctr k)]
def E (k:Nat):Env:=en (D k) [] 0 [] k
theorem eq (k:Nat) (a0:ByteArray):rn (E k) Tryz.f209 (C k) (a0,())=f k a0:=by kernel_rfl
theorem ctr (k:Nat):Cp 209 (C k):=rc rfl (D k) (by kernel_rfl) Tryz.func209 (by kernel_rfl) rfl fun ⟨a0,_⟩ r h=>(eq k a0).trans h
end impl_IdOf
namespace impl_hasInt
def C (k:Nat):Cn:=⟨[.val (.slice (.int .i64)),.val (.int .i64)],[.bool],true,false,fun x=>f k x.1 x.2.1⟩
def E (k:Nat):Env:=en [] [(2,[1,7,8,9])] 0 [] k
section
variable (k:Nat) (a0:List Int) (a1:Int)
def K0:Ex→St→Rs:=runK (E k) (eK (E k) Tryz.f210 (C k) (a0,a1,())) [.blk 0,.code (at_ (bt 2 3) (body Tryz.f210))]
def V0 (n0:Nat):T0:=fun x0 x1 x2 x3=>loopN (exec (E k) (at_ (bt 5 5) (body Tryz.f210))) (canon 0 [1,7,8,9]) (K0 k a0 a1) n0 (mk 17 0 [(1,.int .i64 x0),(7,.sl true (.int .i64) x1),(8,.int .i64 x2),(9,.int .i64 x3)] [])
theorem s0 (n0:Nat):V0 k a0 a1 (n0+1)=b0 k (V0 k a0 a1 n0):=by kernel_rfl
theorem e0:V0 k a0 a1=l0 k:=loop_eq rfl (s0 k a0 a1) fun _=>rfl
end
theorem eq (k:Nat) (a0:List Int) (a1:Int):rn (E k) Tryz.f210 (C k) (a0,a1,())=f k a0 a1:=(show _=t k (V0 k a0 a1 k) a0 a1 by kernel_rfl).trans (by rw [e0];rfl)
theorem ctr (k:Nat):Cp 210 (C k):=rc rfl [] (by kernel_rfl) Tryz.func210 (by kernel_rfl) rfl fun ⟨a0,a1,_⟩ r h=>(eq k a0 a1).trans h
end impl_hasInt
namespace impl_Orphans
def C (k:Nat):Cn:=⟨[.val TDisk,.val TLive],[(.slice .str)],true,false,fun x=>f k x.1 x.2.1⟩
def D (k:Nat):List Ce:=[q (impl_DiskOk.ctr k),q (impl_IdOf.ctr k),q (impl_hasInt.ctr k)]
def E (k:Nat):Env:=en (D k) [(5,[3,5,14,15,16])] 0 [] k
section
variable (k:Nat) (a0:Ty.den TDisk) (a1:Ty.den TLive)
def K0:Ex→St→Rs:=runK (E k) (eK (E k) Tryz.f172 (C k) (a0,a1,())) [.blk 0,.code (at_ (bt 4 15) (body Tryz.f172))]
def V0 (n0:Nat):T0:=fun x0 x1 x2 x3 x4 x5=>loopN (exec (E k) (at_ (bt 7 23) (body Tryz.f172))) (canon 0 [3,5,14,15,16]) (K0 k a0 a1) n0 (mk 46 2 [(3,.ptr 0 0 0),(5,.ref 1),(14,.sl true TPair x0),(15,.int .i64 x1),(16,.int .i64 x2)] [(0,.box [.int .i64 x3,.sl true (.int .i64) x4]),(1,.own false .str x5)])
theorem s0 (n0:Nat):V0 k a0 a1 (n0+1)=b0 k (V0 k a0 a1 n0):=by kernel_rfl
theorem e0:V0 k a0 a1=l0 k:=loop_eq rfl (s0 k a0 a1) fun _=>rfl
end
theorem eq (k:Nat) (a0:Ty.den TDisk) (a1:Ty.den TLive):rn (E k) Tryz.f172 (C k) (a0,a1,())=f k a0 a1:=(show _=t k (V0 k a0 a1 k) a0 a1 by kernel_rfl).trans (by rw [e0];rfl)
theorem ctr (k:Nat):Cp 172 (C k):=rc rfl (D k) (by kernel_rfl) Tryz.func172 (by kernel_rfl) rfl fun ⟨a0,a1,_⟩ r h=>(eq k a0 a1).trans h
end impl_Orphans
namespace impl_Disk__drop
def C (k:Nat):Cn:=⟨[.io true TDisk,.val .str],[],true,false,fun x=>f k x.1 x.2.1⟩
def D (k:Nat):List Ce:=[q (impl_fileAt.ctr k)]
def E (k:Nat):Env:=en (D k) [] 1 [] k
theorem eq (k:Nat) (a0:Ty.den TDisk) (a1:ByteArray):rn (E k) Tryz.f229 (C k) (a0,a1,())=f k a0 a1:=by kernel_rfl
theorem ctr (k:Nat):Cp 229 (C k):=rc rfl (D k) (by kernel_rfl) Tryz.func229 (by kernel_rfl) rfl fun ⟨a0,a1,_⟩ r h=>(eq k a0 a1).trans h
end impl_Disk__drop
namespace impl_Remove_1
def C (k:Nat):Cn:=⟨[.io true TDisk,.io true .str],[(.int .i64)],true,false,fun x=>f k x.1 x.2.1⟩
def D (k:Nat):List Ce:=[q (impl_fileAt.ctr k),q (impl_Disk__drop.ctr k)]
def E (k:Nat):Env:=en (D k) [] 2 [] k
theorem eq (k:Nat) (a0:Ty.den TDisk) (a1:ByteArray):rn (E k) Tryz.f228 (C k) (a0,a1,())=f k a0 a1:=by kernel_rfl
theorem ctr (k:Nat):Cp 228 (C k):=rc rfl (D k) (by kernel_rfl) Tryz.func228 (by kernel_rfl) rfl fun ⟨a0,a1,_⟩ r h=>(eq k a0 a1).trans h
end impl_Remove_1
namespace impl_step_Remove_1
def C (k:Nat):Cn:=⟨[.val TDisk,.fn 228 1,.io true .str],[TDisk,(.int .i64)],true,false,fun x=>f k x.1 x.2.1⟩
def D (k:Nat):List Ce:=[q (impl_copyDisk.ctr k),q (impl_DiskOk.ctr k),q (impl_Remove_1.ctr k)]
def E (k:Nat):Env:=en (D k) [] 1 [] k
theorem eq (k:Nat) (a0:Ty.den TDisk) (a1:ByteArray):rn (E k) Tryz.f163 (C k) (a0,a1,())=f k a0 a1:=by kernel_rfl
theorem ctr (k:Nat):Cp 163 (C k):=rc rfl (D k) (by kernel_rfl) Tryz.func163 (by kernel_rfl) rfl fun ⟨a0,a1,_⟩ r h=>(eq k a0 a1).trans h
end impl_step_Remove_1
namespace impl_Remove
def C (k:Nat):Cn:=⟨[.val TDisk,.val .str],[TDisk,(.int .i64)],true,false,fun x=>f k x.1 x.2.1⟩
def D (k:Nat):List Ce:=[q (impl_step_Remove_1.ctr k)]
def E (k:Nat):Env:=en (D k) [] 0 [] k
theorem eq (k:Nat) (a0:Ty.den TDisk) (a1:ByteArray):rn (E k) Tryz.f211 (C k) (a0,a1,())=f k a0 a1:=by kernel_rfl
theorem ctr (k:Nat):Cp 211 (C k):=rc rfl (D k) (by kernel_rfl) Tryz.func211 (by kernel_rfl) rfl fun ⟨a0,a1,_⟩ r h=>(eq k a0 a1).trans h
end impl_Remove
namespace impl_worker__gone
def C (k:Nat):Cn:=⟨[.io true Tworker,.val .str],[],true,false,fun x=>f k x.1 x.2.1⟩
def D (k:Nat):List Ce:=[q (impl_fileAt.ctr k),q (impl_Remove.ctr k),q (impl_worker__took_g1.ctr k)]
def E (k:Nat):Env:=en (D k) [] 1 [] k
theorem eq (k:Nat) (a0:Ty.den Tworker) (a1:ByteArray):rn (E k) Tryz.f173 (C k) (a0,a1,())=f k a0 a1:=by kernel_rfl
theorem ctr (k:Nat):Cp 173 (C k):=rc rfl (D k) (by kernel_rfl) Tryz.func173 (by kernel_rfl) rfl fun ⟨a0,a1,_⟩ r h=>(eq k a0 a1).trans h
end impl_worker__gone
namespace impl_worker__orphans
def C (k:Nat):Cn:=⟨[.io true Tworker,.val TLive],[],true,false,fun x=>f k x.1 x.2.1⟩
def D (k:Nat):List Ce:=[q (impl_Orphans.ctr k),q (impl_worker__gone.ctr k)]
def E (k:Nat):Env:=en (D k) [(2,[0,11,12,13])] 1 [] k
section
variable (k:Nat) (a0:Ty.den Tworker) (a1:Ty.den TLive)
def K0:Ex→St→Rs:=runK (E k) (eK (E k) Tryz.f126 (C k) (a0,a1,())) [.blk 0]
def V0 (n0:Nat):T0:=fun x0 x1 x2 x3 x4 x5 x6 x7=>loopN (exec (E k) (at_ (bt 4 3) (body Tryz.f126))) (canon 1 [0,11,12,13]) (K0 k a0 a1) n0 (mk 21 3 [(0,.ptr 0 0 0),(11,.ref 2),(12,.int .i64 x0),(13,.int .i64 x1)] [(1,.own false TPair x2),(0,.box [.ref 1,.int .i64 x3,.int .i64 x4,.bool x5,.int .i64 x6]),(2,.own false .str x7)])
theorem s0 (n0:Nat):V0 k a0 a1 (n0+1)=b0 k (V0 k a0 a1 n0):=by kernel_rfl
theorem e0:V0 k a0 a1=l0 k:=loop_eq rfl (s0 k a0 a1) fun _=>rfl
end
theorem eq (k:Nat) (a0:Ty.den Tworker) (a1:Ty.den TLive):rn (E k) Tryz.f126 (C k) (a0,a1,())=f k a0 a1:=(show _=t k (V0 k a0 a1 k) a0 a1 by kernel_rfl).trans (by rw [e0];rfl)
theorem ctr (k:Nat):Cp 126 (C k):=rc rfl (D k) (by kernel_rfl) Tryz.func126 (by kernel_rfl) rfl fun ⟨a0,a1,_⟩ r h=>(eq k a0 a1).trans h
end impl_worker__orphans
namespace impl_worker__found
def C (k:Nat):Cn:=⟨[.io true Tworker,.val .str],[TStore],true,false,fun x=>f k x.1 x.2.1⟩
def D (k:Nat):List Ce:=[q (impl_ReadLive.ctr k),q (impl_worker__scanAll.ctr k),q (impl_SegName.ctr k),q (impl_FileText.ctr k),q (impl_Truncate.ctr k),q (impl_worker__took_g1.ctr k),q (impl_worker__sync.ctr k),q (impl_worker__hinted.ctr k),q (impl_Regroup.ctr k),q (impl_worker__orphans.ctr k)]
def E (k:Nat):Env:=en (D k) [(20,[0,4,5,13,14,16,103,104,105])] 1 [] k
section
variable (k:Nat) (a0:Ty.den Tworker) (a1:ByteArray)
def K0:Ex→St→Rs:=runK (E k) (eK (E k) Tryz.f80 (C k) (a0,a1,())) [.blk 0,.code (at_ (bt 13 8191) (body Tryz.f80))]
def V0 (n0:Nat):T0:=fun x0 x1 x2 x3 x4 x5 x6 x7 x8 x9 x10 x11 x12 x13 x14 x15 x16 x17 x18 x19 x20 x21 x22 x23 x24=>loopN (exec (E k) (at_ (bt 16 12287) (body Tryz.f80))) (canon 1 [0,4,5,13,14,16,103,104,105]) (K0 k a0 a1) n0 (mk 134 12 [(0,.ptr 0 0 0),(4,.ptr 2 0 0),(5,.ptr 5 0 0),(13,.ptr 7 0 0),(14,.ptr 9 0 0),(16,.ref 11),(103,.sl false (.slice TPlace) x0),(104,.int .i64 x1),(105,.int .i64 x2)] [(1,.own false TPair x3),(0,.box [.ref 1,.int .i64 x4,.int .i64 x5,.bool x6,.int .i64 x7]),(3,.own false (.int .i64) x8),(4,.own false TEntry x9),(2,.box [.int .i64 x10,.ref 3,.ref 4,.int .i64 x11,.int .i64 x12,.int .i64 x13]),(6,.own false (.int .i64) x14),(5,.box [.int .i64 x15,.ref 6]),(8,.own false TEntry x16),(7,.box [.int .i64 x17,.ref 6,.ref 8,.int .i64 x18,.int .i64 x19,.int .i64 x20]),(10,.own false TEntry x21),(9,.box [.ref 10,.int .i64 x22,.int .i64 x23]),(11,.own false TPlace x24)])
def V1 (n0:Nat):T1:=fun x0 x1 x2 x3 x4 x5 x6 x7 x8 x9 x10 x11 x12 x13 x14 x15 x16 x17 x18 x19 x20 x21 x22 x23 x24=>loopN (exec (E k) (at_ (bt 16 12287) (body Tryz.f80))) (canon 1 [0,4,5,13,14,16,103,104,105]) (K0 k a0 a1) n0 (mk 134 13 [(0,.ptr 0 0 0),(4,.ptr 2 0 0),(5,.ptr 5 0 0),(13,.ptr 7 0 0),(14,.ptr 9 0 0),(16,.ref 11),(103,.ref 12),(104,.int .i64 x0),(105,.int .i64 x1)] [(1,.own false TPair x2),(0,.box [.ref 1,.int .i64 x3,.int .i64 x4,.bool x5,.int .i64 x6]),(3,.own false (.int .i64) x7),(4,.own false TEntry x8),(2,.box [.int .i64 x9,.ref 3,.ref 4,.int .i64 x10,.int .i64 x11,.int .i64 x12]),(6,.own false (.int .i64) x13),(5,.box [.int .i64 x14,.ref 6]),(8,.own false TEntry x15),(7,.box [.int .i64 x16,.ref 6,.ref 8,.int .i64 x17,.int .i64 x18,.int .i64 x19]),(10,.own false TEntry x20),(9,.box [.ref 10,.int .i64 x21,.int .i64 x22]),(11,.own false TPlace x23),(12,.own false (.slice TPlace) x24)])
def V2 (n0:Nat):T2:=fun x0 x1 x2 x3 x4 x5 x6 x7 x8 x9 x10 x11 x12 x13 x14 x15 x16 x17 x18 x19 x20 x21 x22 x23 x24=>loopN (exec (E k) (at_ (bt 16 12287) (body Tryz.f80))) (canon 1 [0,4,5,13,14,16,103,104,105]) (K0 k a0 a1) n0 (mk 134 12 [(0,.ptr 0 0 0),(4,.ptr 2 0 0),(5,.ptr 5 0 0),(13,.ptr 7 0 0),(14,.ptr 9 0 0),(16,.ref 11),(103,.sl false (.slice TPlace) x0),(104,.int .i64 x1),(105,.int .i64 x2)] [(1,.own false TPair x3),(0,.box [.ref 1,.int .i64 x4,.int .i64 x5,.bool x6,.int .i64 x7]),(3,.own false (.int .i64) x8),(4,.own false TEntry x9),(2,.box [.int .i64 x10,.ref 3,.ref 4,.int .i64 x11,.int .i64 x12,.int .i64 x13]),(6,.own false (.int .i64) x14),(5,.box [.int .i64 x15,.ref 6]),(8,.own false TEntry x16),(7,.box [.int .i64 x17,.ref 6,.ref 8,.int .i64 x18,.int .i64 x19,.int .i64 x20]),(10,.own false TEntry x21),(9,.box [.ref 10,.int .i64 x22,.int .i64 x23]),(11,.own false TPlace x24)])
def V3 (n0:Nat):T3:=fun x0 x1 x2 x3 x4 x5 x6 x7 x8 x9 x10 x11 x12 x13 x14 x15 x16 x17 x18 x19 x20 x21 x22 x23 x24=>loopN (exec (E k) (at_ (bt 16 12287) (body Tryz.f80))) (canon 1 [0,4,5,13,14,16,103,104,105]) (K0 k a0 a1) n0 (mk 134 13 [(0,.ptr 0 0 0),(4,.ptr 2 0 0),(5,.ptr 5 0 0),(13,.ptr 7 0 0),(14,.ptr 9 0 0),(16,.ref 11),(103,.ref 12),(104,.int .i64 x0),(105,.int .i64 x1)] [(1,.own false TPair x2),(0,.box [.ref 1,.int .i64 x3,.int .i64 x4,.bool x5,.int .i64 x6]),(3,.own false (.int .i64) x7),(4,.own false TEntry x8),(2,.box [.int .i64 x9,.ref 3,.ref 4,.int .i64 x10,.int .i64 x11,.int .i64 x12]),(6,.own false (.int .i64) x13),(5,.box [.int .i64 x14,.ref 6]),(8,.own false TEntry x15),(7,.box [.int .i64 x16,.ref 6,.ref 8,.int .i64 x17,.int .i64 x18,.int .i64 x19]),(10,.own false TEntry x20),(9,.box [.ref 10,.int .i64 x21,.int .i64 x22]),(11,.own false TPlace x23),(12,.own false (.slice TPlace) x24)])
theorem s0 (n0:Nat):V0 k a0 a1 (n0+1)=b0 k (V0 k a0 a1 n0):=by kernel_rfl
theorem s1 (n0:Nat):V1 k a0 a1 (n0+1)=b1 k (V1 k a0 a1 n0):=by kernel_rfl
theorem s2 (n0:Nat):V2 k a0 a1 (n0+1)=b2 k (V2 k a0 a1 n0):=by kernel_rfl
theorem s3 (n0:Nat):V3 k a0 a1 (n0+1)=b3 k (V3 k a0 a1 n0):=by kernel_rfl
theorem e0:V0 k a0 a1=l0 k:=loop_eq rfl (s0 k a0 a1) fun _=>rfl
theorem e1:V1 k a0 a1=l1 k:=loop_eq rfl (s1 k a0 a1) fun _=>rfl
theorem e2:V2 k a0 a1=l2 k:=loop_eq rfl (s2 k a0 a1) fun _=>rfl
theorem e3:V3 k a0 a1=l3 k:=loop_eq rfl (s3 k a0 a1) fun _=>rfl
end
theorem eq (k:Nat) (a0:Ty.den Tworker) (a1:ByteArray):rn (E k) Tryz.f80 (C k) (a0,a1,())=f k a0 a1:=(show _=t k (V0 k a0 a1 k) (V1 k a0 a1 k) (V2 k a0 a1 k) (V3 k a0 a1 k) a0 a1 by kernel_rfl).trans (by rw [e0,e1,e2,e3];rfl)
theorem ctr (k:Nat):Cp 80 (C k):=rc rfl (D k) (by kernel_rfl) Tryz.func80 (by kernel_rfl) rfl fun ⟨a0,a1,_⟩ r h=>(eq k a0 a1).trans h
end impl_worker__found
namespace impl_Disk__put
def C (k:Nat):Cn:=⟨[.io true TDisk,.val TPair],[],true,false,fun x=>f k x.1 x.2.1⟩
def E (k:Nat):Env:=en [] [(2,[0,3,4])] 1 [] k
section
variable (k:Nat) (a0:Ty.den TDisk) (a1:Ty.den TPair)
def K0:Ex→St→Rs:=runK (E k) (eK (E k) Tryz.f213 (C k) (a0,a1,())) [.blk 0,.code (at_ (bt 3 7) (body Tryz.f213))]
def V0 (n0:Nat):T0:=fun x0 x1 x2 x3 x4 x5 x6 x7=>loopN (exec (E k) (at_ (bt 5 3) (body Tryz.f213))) (canon 1 [0,3,4]) (K0 k a0 a1) n0 (mk 47 3 [(0,.ptr 0 0 0),(3,.ptr 2 0 0),(4,.int .i64 x0)] [(1,.own false TPair x1),(0,.box [.ref 1,.int .i64 x2,.int .i64 x3,.bool x4]),(2,.box [.str x5,.str x6,.int .i64 x7])])
theorem s0 (n0:Nat):V0 k a0 a1 (n0+1)=b0 k (V0 k a0 a1 n0):=by kernel_rfl
theorem e0:V0 k a0 a1=l0 k:=loop_eq rfl (s0 k a0 a1) fun _=>rfl
end
theorem eq (k:Nat) (a0:Ty.den TDisk) (a1:Ty.den TPair):rn (E k) Tryz.f213 (C k) (a0,a1,())=f k a0 a1:=(show _=t k (V0 k a0 a1 k) a0 a1 by kernel_rfl).trans (by rw [e0];rfl)
theorem ctr (k:Nat):Cp 213 (C k):=rc rfl [] (by kernel_rfl) Tryz.func213 (by kernel_rfl) rfl fun ⟨a0,a1,_⟩ r h=>(eq k a0 a1).trans h
end impl_Disk__put
namespace impl_Create_1
def C (k:Nat):Cn:=⟨[.io true TDisk,.io true .str],[(.int .i64)],true,false,fun x=>f k x.1 x.2.1⟩
def D (k:Nat):List Ce:=[q (impl_NameOk.ctr k),q (impl_fileAt.ctr k),q (impl_Disk__put.ctr k)]
def E (k:Nat):Env:=en (D k) [] 2 [] k
theorem eq (k:Nat) (a0:Ty.den TDisk) (a1:ByteArray):rn (E k) Tryz.f212 (C k) (a0,a1,())=f k a0 a1:=by kernel_rfl
theorem ctr (k:Nat):Cp 212 (C k):=rc rfl (D k) (by kernel_rfl) Tryz.func212 (by kernel_rfl) rfl fun ⟨a0,a1,_⟩ r h=>(eq k a0 a1).trans h
end impl_Create_1
namespace impl_step_Create_1
def C (k:Nat):Cn:=⟨[.val TDisk,.fn 212 1,.io true .str],[TDisk,(.int .i64)],true,false,fun x=>f k x.1 x.2.1⟩
def D (k:Nat):List Ce:=[q (impl_copyDisk.ctr k),q (impl_DiskOk.ctr k),q (impl_Create_1.ctr k)]
def E (k:Nat):Env:=en (D k) [] 1 [] k
theorem eq (k:Nat) (a0:Ty.den TDisk) (a1:ByteArray):rn (E k) Tryz.f163 (C k) (a0,a1,())=f k a0 a1:=by kernel_rfl
theorem ctr (k:Nat):Cp 163 (C k):=rc rfl (D k) (by kernel_rfl) Tryz.func163 (by kernel_rfl) rfl fun ⟨a0,a1,_⟩ r h=>(eq k a0 a1).trans h
end impl_step_Create_1
namespace impl_Create
def C (k:Nat):Cn:=⟨[.val TDisk,.val .str],[TDisk,(.int .i64)],true,false,fun x=>f k x.1 x.2.1⟩
def D (k:Nat):List Ce:=[q (impl_step_Create_1.ctr k)]
def E (k:Nat):Env:=en (D k) [] 0 [] k
theorem eq (k:Nat) (a0:Ty.den TDisk) (a1:ByteArray):rn (E k) Tryz.f174 (C k) (a0,a1,())=f k a0 a1:=by kernel_rfl
theorem ctr (k:Nat):Cp 174 (C k):=rc rfl (D k) (by kernel_rfl) Tryz.func174 (by kernel_rfl) rfl fun ⟨a0,a1,_⟩ r h=>(eq k a0 a1).trans h
end impl_Create
namespace impl_worker__create
def C (k:Nat):Cn:=⟨[.io true Tworker,.val .str],[],true,false,fun x=>f k x.1 x.2.1⟩
def D (k:Nat):List Ce:=[q (impl_Create.ctr k),q (impl_worker__took_g1.ctr k)]
def E (k:Nat):Env:=en (D k) [] 1 [] k
theorem eq (k:Nat) (a0:Ty.den Tworker) (a1:ByteArray):rn (E k) Tryz.f127 (C k) (a0,a1,())=f k a0 a1:=by kernel_rfl
theorem ctr (k:Nat):Cp 127 (C k):=rc rfl (D k) (by kernel_rfl) Tryz.func127 (by kernel_rfl) rfl fun ⟨a0,a1,_⟩ r h=>(eq k a0 a1).trans h
end impl_worker__create
namespace impl_ShowLive
def C (k:Nat):Cn:=⟨[.val TLive],[.str],true,false,fun x=>f k x.1⟩
def D (k:Nat):List Ce:=[q (impl_LiveOk.ctr k),q (impl_vars.ctr k),q (impl_Frame.ctr k)]
def E (k:Nat):Env:=en (D k) [] 0 [] k
theorem eq (k:Nat) (a0:Ty.den TLive):rn (E k) Tryz.f176 (C k) (a0,())=f k a0:=by kernel_rfl
theorem ctr (k:Nat):Cp 176 (C k):=rc rfl (D k) (by kernel_rfl) Tryz.func176 (by kernel_rfl) rfl fun ⟨a0,_⟩ r h=>(eq k a0).trans h
end impl_ShowLive
namespace impl_worker__anew
def C (k:Nat):Cn:=⟨[.io true Tworker,.val .str],[],true,false,fun x=>f k x.1 x.2.1⟩
def D (k:Nat):List Ce:=[q (impl_worker__gone.ctr k),q (impl_worker__create.ctr k)]
def E (k:Nat):Env:=en (D k) [] 1 [] k
theorem eq (k:Nat) (a0:Ty.den Tworker) (a1:ByteArray):rn (E k) Tryz.f214 (C k) (a0,a1,())=f k a0 a1:=by kernel_rfl
theorem ctr (k:Nat):Cp 214 (C k):=rc rfl (D k) (by kernel_rfl) Tryz.func214 (by kernel_rfl) rfl fun ⟨a0,a1,_⟩ r h=>(eq k a0 a1).trans h
end impl_worker__anew
namespace impl_used
def C (k:Nat):Cn:=⟨[.val TDisk],[(.int .i64)],true,false,fun x=>f k x.1⟩
def E (k:Nat):Env:=en [] [(3,[3,7,8,9])] 0 [] k
section
variable (k:Nat) (a0:Ty.den TDisk)
def K0:Ex→St→Rs:=runK (E k) (eK (E k) Tryz.f232 (C k) (a0,())) [.blk 0,.code (at_ (bt 3 7) (body Tryz.f232))]
def V0 (n0:Nat):T0:=fun x0 x1 x2 x3=>loopN (exec (E k) (at_ (bt 6 11) (body Tryz.f232))) (canon 0 [3,7,8,9]) (K0 k a0) n0 (mk 20 0 [(3,.int .i64 x0),(7,.sl true TPair x1),(8,.int .i64 x2),(9,.int .i64 x3)] [])
theorem s0 (n0:Nat):V0 k a0 (n0+1)=b0 k (V0 k a0 n0):=by kernel_rfl
theorem e0:V0 k a0=l0 k:=loop_eq rfl (s0 k a0) fun _=>rfl
end
theorem eq (k:Nat) (a0:Ty.den TDisk):rn (E k) Tryz.f232 (C k) (a0,())=f k a0:=(show _=t k (V0 k a0 k) a0 by kernel_rfl).trans (by rw [e0];rfl)
theorem ctr (k:Nat):Cp 232 (C k):=rc rfl [] (by kernel_rfl) Tryz.func232 (by kernel_rfl) rfl fun ⟨a0,_⟩ r h=>(eq k a0).trans h
end impl_used
namespace impl_Append_1
def C (k:Nat):Cn:=⟨[.io true TDisk,.io true .str,.io true .str],[(.int .i64)],true,false,fun x=>f k x.1 x.2.1 x.2.2.1⟩
def D (k:Nat):List Ce:=[q (impl_fileAt.ctr k),q (impl_used.ctr k)]
def E (k:Nat):Env:=en (D k) [] 3 [] k
theorem eq (k:Nat) (a0:Ty.den TDisk) (a1:ByteArray) (a2:ByteArray):rn (E k) Tryz.f231 (C k) (a0,a1,a2,())=f k a0 a1 a2:=by kernel_rfl
theorem ctr (k:Nat):Cp 231 (C k):=rc rfl (D k) (by kernel_rfl) Tryz.func231 (by kernel_rfl) rfl fun ⟨a0,a1,a2,_⟩ r h=>(eq k a0 a1 a2).trans h
end impl_Append_1
namespace impl_step_Append_1
def C (k:Nat):Cn:=⟨[.val TDisk,.fn 231 2,.io true .str,.io true .str],[TDisk,(.int .i64)],true,false,fun x=>f k x.1 x.2.1 x.2.2.1⟩
def D (k:Nat):List Ce:=[q (impl_copyDisk.ctr k),q (impl_DiskOk.ctr k),q (impl_Append_1.ctr k)]
def E (k:Nat):Env:=en (D k) [] 2 [] k
theorem eq (k:Nat) (a0:Ty.den TDisk) (a1:ByteArray) (a2:ByteArray):rn (E k) Tryz.f163 (C k) (a0,a1,a2,())=f k a0 a1 a2:=by kernel_rfl
theorem ctr (k:Nat):Cp 163 (C k):=rc rfl (D k) (by kernel_rfl) Tryz.func163 (by kernel_rfl) rfl fun ⟨a0,a1,a2,_⟩ r h=>(eq k a0 a1 a2).trans h
end impl_step_Append_1
namespace impl_Append
def C (k:Nat):Cn:=⟨[.val TDisk,.val .str,.val .str],[TDisk,(.int .i64)],true,false,fun x=>f k x.1 x.2.1 x.2.2.1⟩
def D (k:Nat):List Ce:=[q (impl_step_Append_1.ctr k)]
def E (k:Nat):Env:=en (D k) [] 0 [] k
theorem eq (k:Nat) (a0:Ty.den TDisk) (a1:ByteArray) (a2:ByteArray):rn (E k) Tryz.f217 (C k) (a0,a1,a2,())=f k a0 a1 a2:=by kernel_rfl
theorem ctr (k:Nat):Cp 217 (C k):=rc rfl (D k) (by kernel_rfl) Tryz.func217 (by kernel_rfl) rfl fun ⟨a0,a1,a2,_⟩ r h=>(eq k a0 a1 a2).trans h
end impl_Append
namespace impl_worker__put
def C (k:Nat):Cn:=⟨[.io true Tworker,.val .str,.val .str],[],true,false,fun x=>f k x.1 x.2.1 x.2.2.1⟩
def D (k:Nat):List Ce:=[q (impl_Append.ctr k),q (impl_worker__took_g1.ctr k)]
def E (k:Nat):Env:=en (D k) [] 1 [] k
theorem eq (k:Nat) (a0:Ty.den Tworker) (a1:ByteArray) (a2:ByteArray):rn (E k) Tryz.f181 (C k) (a0,a1,a2,())=f k a0 a1 a2:=by kernel_rfl
theorem ctr (k:Nat):Cp 181 (C k):=rc rfl (D k) (by kernel_rfl) Tryz.func181 (by kernel_rfl) rfl fun ⟨a0,a1,a2,_⟩ r h=>(eq k a0 a1 a2).trans h
end impl_worker__put
namespace impl_worker__fileOf
def C (k:Nat):Cn:=⟨[.io true Tworker,.val .str,.val .str],[],true,false,fun x=>f k x.1 x.2.1 x.2.2.1⟩
def D (k:Nat):List Ce:=[q (impl_worker__anew.ctr k),q (impl_worker__put.ctr k),q (impl_worker__sync.ctr k)]
def E (k:Nat):Env:=en (D k) [] 1 [] k
theorem eq (k:Nat) (a0:Ty.den Tworker) (a1:ByteArray) (a2:ByteArray):rn (E k) Tryz.f175 (C k) (a0,a1,a2,())=f k a0 a1 a2:=by kernel_rfl
theorem ctr (k:Nat):Cp 175 (C k):=rc rfl (D k) (by kernel_rfl) Tryz.func175 (by kernel_rfl) rfl fun ⟨a0,a1,a2,_⟩ r h=>(eq k a0 a1 a2).trans h
end impl_worker__fileOf
namespace impl_Rename_1
def C (k:Nat):Cn:=⟨[.io true TDisk,.io true .str,.io true .str],[(.int .i64)],true,false,fun x=>f k x.1 x.2.1 x.2.2.1⟩
def D (k:Nat):List Ce:=[q (impl_fileAt.ctr k),q (impl_NameOk.ctr k),q (impl_Disk__drop.ctr k),q (impl_Disk__put.ctr k)]
def E (k:Nat):Env:=en (D k) [] 3 [] k
theorem eq (k:Nat) (a0:Ty.den TDisk) (a1:ByteArray) (a2:ByteArray):rn (E k) Tryz.f230 (C k) (a0,a1,a2,())=f k a0 a1 a2:=by kernel_rfl
theorem ctr (k:Nat):Cp 230 (C k):=rc rfl (D k) (by kernel_rfl) Tryz.func230 (by kernel_rfl) rfl fun ⟨a0,a1,a2,_⟩ r h=>(eq k a0 a1 a2).trans h
end impl_Rename_1
namespace impl_step_Rename_1
def C (k:Nat):Cn:=⟨[.val TDisk,.fn 230 2,.io true .str,.io true .str],[TDisk,(.int .i64)],true,false,fun x=>f k x.1 x.2.1 x.2.2.1⟩
def D (k:Nat):List Ce:=[q (impl_copyDisk.ctr k),q (impl_DiskOk.ctr k),q (impl_Rename_1.ctr k)]
def E (k:Nat):Env:=en (D k) [] 2 [] k
theorem eq (k:Nat) (a0:Ty.den TDisk) (a1:ByteArray) (a2:ByteArray):rn (E k) Tryz.f163 (C k) (a0,a1,a2,())=f k a0 a1 a2:=by kernel_rfl
theorem ctr (k:Nat):Cp 163 (C k):=rc rfl (D k) (by kernel_rfl) Tryz.func163 (by kernel_rfl) rfl fun ⟨a0,a1,a2,_⟩ r h=>(eq k a0 a1 a2).trans h
end impl_step_Rename_1
namespace impl_Rename
def C (k:Nat):Cn:=⟨[.val TDisk,.val .str,.val .str],[TDisk,(.int .i64)],true,false,fun x=>f k x.1 x.2.1 x.2.2.1⟩
def D (k:Nat):List Ce:=[q (impl_step_Rename_1.ctr k)]
def E (k:Nat):Env:=en (D k) [] 0 [] k
theorem eq (k:Nat) (a0:Ty.den TDisk) (a1:ByteArray) (a2:ByteArray):rn (E k) Tryz.f215 (C k) (a0,a1,a2,())=f k a0 a1 a2:=by kernel_rfl
theorem ctr (k:Nat):Cp 215 (C k):=rc rfl (D k) (by kernel_rfl) Tryz.func215 (by kernel_rfl) rfl fun ⟨a0,a1,a2,_⟩ r h=>(eq k a0 a1 a2).trans h
end impl_Rename
namespace impl_worker__rename
def C (k:Nat):Cn:=⟨[.io true Tworker,.val .str,.val .str],[],true,false,fun x=>f k x.1 x.2.1 x.2.2.1⟩
def D (k:Nat):List Ce:=[q (impl_Rename.ctr k),q (impl_worker__took_g1.ctr k)]
def E (k:Nat):Env:=en (D k) [] 1 [] k
theorem eq (k:Nat) (a0:Ty.den Tworker) (a1:ByteArray) (a2:ByteArray):rn (E k) Tryz.f177 (C k) (a0,a1,a2,())=f k a0 a1 a2:=by kernel_rfl
theorem ctr (k:Nat):Cp 177 (C k):=rc rfl (D k) (by kernel_rfl) Tryz.func177 (by kernel_rfl) rfl fun ⟨a0,a1,a2,_⟩ r h=>(eq k a0 a1 a2).trans h
end impl_worker__rename
namespace impl_worker__putLive
def C (k:Nat):Cn:=⟨[.io true Tworker,.val TLive],[],true,false,fun x=>f k x.1 x.2.1⟩
def D (k:Nat):List Ce:=[q (impl_ShowLive.ctr k),q (impl_worker__fileOf.ctr k),q (impl_worker__rename.ctr k)]
def E (k:Nat):Env:=en (D k) [] 1 [] k
theorem eq (k:Nat) (a0:Ty.den Tworker) (a1:Ty.den TLive):rn (E k) Tryz.f128 (C k) (a0,a1,())=f k a0 a1:=by kernel_rfl
theorem ctr (k:Nat):Cp 128 (C k):=rc rfl (D k) (by kernel_rfl) Tryz.func128 (by kernel_rfl) rfl fun ⟨a0,a1,_⟩ r h=>(eq k a0 a1).trans h
end impl_worker__putLive
namespace impl_worker__first
def C (k:Nat):Cn:=⟨[.io true Tworker],[TStore],true,false,fun x=>f k x.1⟩
def D (k:Nat):List Ce:=[q (impl_worker__orphans.ctr k),q (impl_SegName.ctr k),q (impl_worker__create.ctr k),q (impl_worker__putLive.ctr k)]
def E (k:Nat):Env:=en (D k) [] 1 [] k
theorem eq (k:Nat) (a0:Ty.den Tworker):rn (E k) Tryz.f81 (C k) (a0,())=f k a0:=by kernel_rfl
theorem ctr (k:Nat):Cp 81 (C k):=rc rfl (D k) (by kernel_rfl) Tryz.func81 (by kernel_rfl) rfl fun ⟨a0,_⟩ r h=>(eq k a0).trans h
end impl_worker__first
namespace impl_Open
def C (k:Nat):Cn:=⟨[.val TDisk],[TStore,TDisk,(.int .i64)],true,false,fun x=>f k x.1⟩
def D (k:Nat):List Ce:=[q (impl_copyDisk.ctr k),q (impl_DiskOk.ctr k),q (impl_FileText.ctr k),q (impl_worker__found.ctr k),q (impl_worker__first.ctr k)]
def E (k:Nat):Env:=en (D k) [] 0 [] k
theorem eq (k:Nat) (a0:Ty.den TDisk):rn (E k) Tryz.f34 (C k) (a0,())=f k a0:=by kernel_rfl
theorem ctr (k:Nat):Cp 34 (C k):=rc rfl (D k) (by kernel_rfl) Tryz.func34 (by kernel_rfl) rfl fun ⟨a0,_⟩ r h=>(eq k a0).trans h
end impl_Open
namespace impl_copyLive
def C (k:Nat):Cn:=⟨[.val TLive],[TLive],true,false,fun x=>f k x.1⟩
def E (k:Nat):Env:=en [] [] 0 [] k
theorem eq (k:Nat) (a0:Ty.den TLive):rn (E k) Tryz.f129 (C k) (a0,())=f k a0:=by kernel_rfl
theorem ctr (k:Nat):Cp 129 (C k):=rc rfl [] (by kernel_rfl) Tryz.func129 (by kernel_rfl) rfl fun ⟨a0,_⟩ r h=>(eq k a0).trans h
end impl_copyLive
namespace impl_copyStore
def C (k:Nat):Cn:=⟨[.val TStore],[TStore],true,false,fun x=>f k x.1⟩
def D (k:Nat):List Ce:=[q (impl_copyLive.ctr k),q (impl_copyDir.ctr k)]
def E (k:Nat):Env:=en (D k) [] 0 [] k
theorem eq (k:Nat) (a0:Ty.den TStore):rn (E k) Tryz.f82 (C k) (a0,())=f k a0:=by kernel_rfl
theorem ctr (k:Nat):Cp 82 (C k):=rc rfl (D k) (by kernel_rfl) Tryz.func82 (by kernel_rfl) rfl fun ⟨a0,_⟩ r h=>(eq k a0).trans h
end impl_copyStore
namespace impl_RecAt
def C (k:Nat):Cn:=⟨[.val .str,.val (.int .i64),.val (.int .i64)],[TRec,.bool],true,false,fun x=>f k x.1 x.2.1 x.2.2.1⟩
def D (k:Nat):List Ce:=[q (impl_in.ctr k),q (impl_Unframe.ctr k),q (impl_ReadRec.ctr k)]
def E (k:Nat):Env:=en (D k) [] 0 [] k
theorem eq (k:Nat) (a0:ByteArray) (a1:Int) (a2:Int):rn (E k) Tryz.f88 (C k) (a0,a1,a2,())=f k a0 a1 a2:=by kernel_rfl
theorem ctr (k:Nat):Cp 88 (C k):=rc rfl (D k) (by kernel_rfl) Tryz.func88 (by kernel_rfl) rfl fun ⟨a0,a1,a2,_⟩ r h=>(eq k a0 a1 a2).trans h
end impl_RecAt
namespace impl_StoreOk
def C (k:Nat):Cn:=⟨[.val TStore,.val TDisk],[.bool],true,false,fun x=>f k x.1 x.2.1⟩
def D (k:Nat):List Ce:=[q (impl_DiskOk.ctr k),q (impl_LiveOk.ctr k),q (impl_DirOk.ctr k),q (impl_in.ctr k),q (impl_SegName.ctr k),q (impl_FileText.ctr k),q (impl_ScanRecs.ctr k),q (impl_RecAt.ctr k)]
def E (k:Nat):Env:=en (D k) [(4,[2,3,40,41,42]),(12,[2,3,84,85,86])] 0 [] k
section
variable (k:Nat) (a0:Ty.den TStore) (a1:Ty.den TDisk)
def K0:Ex→St→Rs:=runK (E k) (eK (E k) Tryz.f83 (C k) (a0,a1,())) [.blk 0,.code (at_ (bt 3 7) (body Tryz.f83))]
def K1:Ex→St→Rs:=runK (E k) (eK (E k) Tryz.f83 (C k) (a0,a1,())) [.blk 2,.code (at_ (bt 4 15) (body Tryz.f83))]
def V0 (n0:Nat):T0:=fun x0 x1 x2 x3 x4 x5 x6 x7 x8 x9 x10 x11 x12=>loopN (exec (E k) (at_ (bt 6 11) (body Tryz.f83))) (canon 0 [2,3,40,41,42]) (K0 k a0 a1) n0 (mk 141 2 [(2,.ptr 0 0 0),(3,.ptr 1 0 0),(40,.sl true (.int .i64) x0),(41,.int .i64 x1),(42,.int .i64 x2)] [(0,.box [.int .i64 x3,.sl true (.int .i64) x4,.sl true TEntry x5,.int .i64 x6,.int .i64 x7,.int .i64 x8]),(1,.box [.sl true TPair x9,.int .i64 x10,.int .i64 x11,.bool x12])])
def V1 (n1:Nat):T1:=fun x0 x1 x2 x3 x4 x5 x6 x7 x8 x9 x10 x11 x12=>loopN (exec (E k) (at_ (bt 7 23) (body Tryz.f83))) (canon 0 [2,3,84,85,86]) (K1 k a0 a1) n1 (mk 141 2 [(2,.ptr 0 0 0),(3,.ptr 1 0 0),(84,.sl true TEntry x0),(85,.int .i64 x1),(86,.int .i64 x2)] [(0,.box [.int .i64 x3,.sl true (.int .i64) x4,.sl true TEntry x5,.int .i64 x6,.int .i64 x7,.int .i64 x8]),(1,.box [.sl true TPair x9,.int .i64 x10,.int .i64 x11,.bool x12])])
theorem s0 (n0:Nat):V0 k a0 a1 (n0+1)=b0 k (V1 k a0 a1 k) (V0 k a0 a1 n0):=by kernel_rfl
theorem s1 (n1:Nat):V1 k a0 a1 (n1+1)=b1 k (V1 k a0 a1 n1):=by kernel_rfl
theorem e1:V1 k a0 a1=l1 k:=loop_eq rfl (s1 k a0 a1) fun _=>rfl
theorem e0 (n0:Nat):V0 k a0 a1 n0=l0 k n0:=by
 induction n0 with
 | zero=>rfl
 | succ n0 ih =>
  have h:V0 k a0 a1 (n0+1)=b0 k (V1 k a0 a1 k) (V0 k a0 a1 n0):=s0 k a0 a1 n0
  rw [h,e1,ih]
  rfl
end
theorem eq (k:Nat) (a0:Ty.den TStore) (a1:Ty.den TDisk):rn (E k) Tryz.f83 (C k) (a0,a1,())=f k a0 a1:=(show _=t k (V0 k a0 a1 k) a0 a1 by kernel_rfl).trans (by rw [e0];rfl)
theorem ctr (k:Nat):Cp 83 (C k):=rc rfl (D k) (by kernel_rfl) Tryz.func83 (by kernel_rfl) rfl fun ⟨a0,a1,_⟩ r h=>(eq k a0 a1).trans h
end impl_StoreOk
namespace impl_putOk
def C (k:Nat):Cn:=⟨[.val TPut],[.bool],true,false,fun x=>f k x.1⟩
def D (k:Nat):List Ce:=[q (impl_KeyOk.ctr k)]
def E (k:Nat):Env:=en (D k) [] 0 [] k
theorem eq (k:Nat) (a0:Ty.den TPut):rn (E k) Tryz.f133 (C k) (a0,())=f k a0:=by kernel_rfl
theorem ctr (k:Nat):Cp 133 (C k):=rc rfl (D k) (by kernel_rfl) Tryz.func133 (by kernel_rfl) rfl fun ⟨a0,_⟩ r h=>(eq k a0).trans h
end impl_putOk
namespace impl_PutsOk
def C (k:Nat):Cn:=⟨[.val (.slice TPut)],[.bool],true,false,fun x=>f k x.1⟩
def D (k:Nat):List Ce:=[q (impl_putOk.ctr k)]
def E (k:Nat):Env:=en (D k) [(2,[0,5,6,7])] 0 [] k
section
variable (k:Nat) (a0:List (Ty.den TPut))
def K0:Ex→St→Rs:=runK (E k) (eK (E k) Tryz.f84 (C k) (a0,())) [.blk 0,.code (at_ (bt 2 3) (body Tryz.f84))]
def V0 (n0:Nat):T0:=fun x0 x1 x2 x3=>loopN (exec (E k) (at_ (bt 5 5) (body Tryz.f84))) (canon 0 [0,5,6,7]) (K0 k a0) n0 (mk 18 0 [(0,.sl true TPut x0),(5,.sl true TPut x1),(6,.int .i64 x2),(7,.int .i64 x3)] [])
theorem s0 (n0:Nat):V0 k a0 (n0+1)=b0 k (V0 k a0 n0):=by kernel_rfl
theorem e0:V0 k a0=l0 k:=loop_eq rfl (s0 k a0) fun _=>rfl
end
theorem eq (k:Nat) (a0:List (Ty.den TPut)):rn (E k) Tryz.f84 (C k) (a0,())=f k a0:=(show _=t k (V0 k a0 k) a0 by kernel_rfl).trans (by rw [e0];rfl)
theorem ctr (k:Nat):Cp 84 (C k):=rc rfl (D k) (by kernel_rfl) Tryz.func84 (by kernel_rfl) rfl fun ⟨a0,_⟩ r h=>(eq k a0).trans h
end impl_PutsOk
namespace impl_dirWith
def C (k:Nat):Cn:=⟨[.val (.slice TEntry),.val (.slice TPut),.val (.slice TEntry)],[(.slice TEntry)],false,true,fun x=>f k x.1 x.2.1 x.2.2.1⟩
def D (k:Nat):List Ce:=[q (impl_DirDrop.ctr k),q (impl_DirPut.ctr k)]
def E (k:Nat):Env:=en (D k) [(2,[0,2,9,10,11])] 0 [] k
section
variable (k:Nat) (a0:List (Ty.den TEntry)) (a1:List (Ty.den TPut)) (a2:List (Ty.den TEntry))
def K0:Ex→St→Rs:=runK (E k) (eK (E k) Tryz.f134 (C k) (a0,a1,a2,())) [.blk 0,.code (at_ (bt 2 3) (body Tryz.f134))]
def V0 (n0:Nat):T0:=fun x0 x1 x2 x3 x4=>loopN (exec (E k) (at_ (bt 5 5) (body Tryz.f134))) (canon 0 [0,2,9,10,11]) (K0 k a0 a1 a2) n0 (mk 30 0 [(0,.sl true TEntry x0),(2,.sl true TEntry x1),(9,.sl true TPut x2),(10,.int .i64 x3),(11,.int .i64 x4)] [])
def V1 (n0:Nat):T1:=fun x0 x1 x2 x3 x4=>loopN (exec (E k) (at_ (bt 5 5) (body Tryz.f134))) (canon 0 [0,2,9,10,11]) (K0 k a0 a1 a2) n0 (mk 30 1 [(0,.ref 0),(2,.sl true TEntry x0),(9,.sl true TPut x1),(10,.int .i64 x2),(11,.int .i64 x3)] [(0,.own false TEntry x4)])
theorem s0 (n0:Nat):V0 k a0 a1 a2 (n0+1)=b0 k (V1 k a0 a1 a2 n0):=by kernel_rfl
theorem s1 (n0:Nat):V1 k a0 a1 a2 (n0+1)=b1 k (V1 k a0 a1 a2 n0):=by kernel_rfl
theorem e1:V1 k a0 a1 a2=l1 k:=loop_eq rfl (s1 k a0 a1 a2) fun _=>rfl
theorem e0 (n0:Nat):V0 k a0 a1 a2 n0=l0 k n0:=by
 induction n0 with
 | zero=>rfl
 | succ n0 ih =>
  have h:V0 k a0 a1 a2 (n0+1)=b0 k (V1 k a0 a1 a2 n0):=s0 k a0 a1 a2 n0
  rw [h,e1]
  rfl
end
theorem eq (k:Nat) (a0:List (Ty.den TEntry)) (a1:List (Ty.den TPut)) (a2:List (Ty.den TEntry)):rn (E k) Tryz.f134 (C k) (a0,a1,a2,())=f k a0 a1 a2:=(show _=t k (V0 k a0 a1 a2 k) a0 a1 a2 by kernel_rfl).trans (by rw [e0];rfl)
theorem ctr (k:Nat):Cp 134 (C k):=rc rfl (D k) (by kernel_rfl) Tryz.func134 (by kernel_rfl) rfl fun ⟨a0,a1,a2,_⟩ r h=>(eq k a0 a1 a2).trans h
end impl_dirWith
namespace impl_keysWith
def C (k:Nat):Cn:=⟨[.val (.slice TEntry),.val (.slice TPut)],[(.int .i64)],true,false,fun x=>f k x.1 x.2.1⟩
def D (k:Nat):List Ce:=[q (impl_dirWith.ctr k)]
def E (k:Nat):Env:=en (D k) [(3,[0,1,5,8,9,10])] 0 [] k
section
variable (k:Nat) (a0:List (Ty.den TEntry)) (a1:List (Ty.den TPut))
def K0:Ex→St→Rs:=runK (E k) (eK (E k) Tryz.f85 (C k) (a0,a1,())) [.blk 0,.code (at_ (bt 3 7) (body Tryz.f85))]
def V0 (n0:Nat):T0:=fun x0 x1 x2 x3 x4 x5=>loopN (exec (E k) (at_ (bt 6 11) (body Tryz.f85))) (canon 0 [0,1,5,8,9,10]) (K0 k a0 a1) n0 (mk 26 1 [(0,.sl true TEntry x0),(1,.sl true TPut x1),(5,.ref 0),(8,.sl true TPut x2),(9,.int .i64 x3),(10,.int .i64 x4)] [(0,.own false TEntry x5)])
theorem s0 (n0:Nat):V0 k a0 a1 (n0+1)=b0 k (V0 k a0 a1 n0):=by kernel_rfl
theorem e0:V0 k a0 a1=l0 k:=loop_eq rfl (s0 k a0 a1) fun _=>rfl
end
theorem eq (k:Nat) (a0:List (Ty.den TEntry)) (a1:List (Ty.den TPut)):rn (E k) Tryz.f85 (C k) (a0,a1,())=f k a0 a1:=(show _=t k (V0 k a0 a1 k) a0 a1 by kernel_rfl).trans (by rw [e0];rfl)
theorem ctr (k:Nat):Cp 85 (C k):=rc rfl (D k) (by kernel_rfl) Tryz.func85 (by kernel_rfl) rfl fun ⟨a0,a1,_⟩ r h=>(eq k a0 a1).trans h
end impl_keysWith
namespace impl_recordsOf
def C (k:Nat):Cn:=⟨[.val (.slice TPut),.val (.int .i64)],[(.slice TRec)],true,false,fun x=>f k x.1 x.2.1⟩
def D (k:Nat):List Ce:=[q (impl_SumOf.ctr k)]
def E (k:Nat):Env:=en (D k) [(3,[0,1,5,8,9,10])] 0 [] k
section
variable (k:Nat) (a0:List (Ty.den TPut)) (a1:Int)
def K0:Ex→St→Rs:=runK (E k) (eK (E k) Tryz.f135 (C k) (a0,a1,())) [.blk 0,.code (at_ (bt 3 7) (body Tryz.f135))]
def V0 (n0:Nat):T0:=fun x0 x1 x2 x3 x4 x5=>loopN (exec (E k) (at_ (bt 6 11) (body Tryz.f135))) (canon 0 [0,1,5,8,9,10]) (K0 k a0 a1) n0 (mk 42 1 [(0,.sl true TPut x0),(1,.int .i64 x1),(5,.ref 0),(8,.sl true TPut x2),(9,.int .i64 x3),(10,.int .i64 x4)] [(0,.own false TRec x5)])
theorem s0 (n0:Nat):V0 k a0 a1 (n0+1)=b0 k (V0 k a0 a1 n0):=by kernel_rfl
theorem e0:V0 k a0 a1=l0 k:=loop_eq rfl (s0 k a0 a1) fun _=>rfl
end
theorem eq (k:Nat) (a0:List (Ty.den TPut)) (a1:Int):rn (E k) Tryz.f135 (C k) (a0,a1,())=f k a0 a1:=(show _=t k (V0 k a0 a1 k) a0 a1 by kernel_rfl).trans (by rw [e0];rfl)
theorem ctr (k:Nat):Cp 135 (C k):=rc rfl (D k) (by kernel_rfl) Tryz.func135 (by kernel_rfl) rfl fun ⟨a0,a1,_⟩ r h=>(eq k a0 a1).trans h
end impl_recordsOf
namespace impl_Store__active
def C (k:Nat):Cn:=⟨[.io true TStore],[.str],true,false,fun x=>f k x.1⟩
def D (k:Nat):List Ce:=[q (impl_SegName.ctr k)]
def E (k:Nat):Env:=en (D k) [] 1 [] k
theorem eq (k:Nat) (a0:Ty.den TStore):rn (E k) Tryz.f137 (C k) (a0,())=f k a0:=by kernel_rfl
theorem ctr (k:Nat):Cp 137 (C k):=rc rfl (D k) (by kernel_rfl) Tryz.func137 (by kernel_rfl) rfl fun ⟨a0,_⟩ r h=>(eq k a0).trans h
end impl_Store__active
namespace impl_worker__clean
def C (k:Nat):Cn:=⟨[.io true Tworker,.val (.slice .str)],[],true,false,fun x=>f k x.1 x.2.1⟩
def D (k:Nat):List Ce:=[q (impl_worker__gone.ctr k)]
def E (k:Nat):Env:=en (D k) [(3,[0,4,18,19,20])] 1 [] k
section
variable (k:Nat) (a0:Ty.den Tworker) (a1:List ByteArray)
def K0:Ex→St→Rs:=runK (E k) (eK (E k) Tryz.f216 (C k) (a0,a1,())) [.blk 0,.code (at_ (bt 3 7) (body Tryz.f216))]
def V0 (n0:Nat):T0:=fun x0 x1 x2 x3 x4 x5 x6 x7 x8 x9 x10 x11=>loopN (exec (E k) (at_ (bt 6 11) (body Tryz.f216))) (canon 1 [0,4,18,19,20]) (K0 k a0 a1) n0 (mk 47 3 [(0,.ptr 0 0 0),(4,.ptr 2 0 0),(18,.sl true .str x0),(19,.int .i64 x1),(20,.int .i64 x2)] [(1,.own false TPair x3),(0,.box [.ref 1,.int .i64 x4,.int .i64 x5,.bool x6,.int .i64 x7]),(2,.box [.ref 1,.int .i64 x8,.int .i64 x9,.bool x10,.int .i64 x11])])
def V1 (n0:Nat):T1:=fun x0 x1 x2 x3 x4 x5 x6 x7 x8 x9 x10 x11=>loopN (exec (E k) (at_ (bt 6 11) (body Tryz.f216))) (canon 1 [0,4,18,19,20]) (K0 k a0 a1) n0 (mk 47 3 [(0,.ptr 0 0 0),(4,.ptr 1 0 0),(18,.sl true .str x0),(19,.int .i64 x1),(20,.int .i64 x2)] [(0,.box [.junk,.int .i64 x3,.int .i64 x4,.bool x5,.int .i64 x6]),(2,.own false TPair x7),(1,.box [.ref 2,.int .i64 x8,.int .i64 x9,.bool x10,.int .i64 x11])])
theorem s0 (n0:Nat):V0 k a0 a1 (n0+1)=b0 k (V1 k a0 a1 n0):=by kernel_rfl
theorem s1 (n0:Nat):V1 k a0 a1 (n0+1)=b1 k (V1 k a0 a1 n0):=by kernel_rfl
theorem e1:V1 k a0 a1=l1 k:=loop_eq rfl (s1 k a0 a1) fun _=>rfl
theorem e0 (n0:Nat):V0 k a0 a1 n0=l0 k n0:=by
 induction n0 with
 | zero=>rfl
 | succ n0 ih =>
  have h:V0 k a0 a1 (n0+1)=b0 k (V1 k a0 a1 n0):=s0 k a0 a1 n0
  rw [h,e1]
  rfl
end
theorem eq (k:Nat) (a0:Ty.den Tworker) (a1:List ByteArray):rn (E k) Tryz.f216 (C k) (a0,a1,())=f k a0 a1:=(show _=t k (V0 k a0 a1 k) a0 a1 by kernel_rfl).trans (by rw [e0];rfl)
theorem ctr (k:Nat):Cp 216 (C k):=rc rfl (D k) (by kernel_rfl) Tryz.func216 (by kernel_rfl) rfl fun ⟨a0,a1,_⟩ r h=>(eq k a0 a1).trans h
end impl_worker__clean
namespace impl_Store__rotate
def C (k:Nat):Cn:=⟨[.io true TStore,.io true Tworker],[],true,false,fun x=>f k x.1 x.2.1⟩
def D (k:Nat):List Ce:=[q (impl_Store__active.ctr k),q (impl_worker__sync.ctr k),q (impl_SegName.ctr k),q (impl_worker__anew.ctr k),q (impl_copyLive.ctr k),q (impl_worker__putLive.ctr k),q (impl_worker__clean.ctr k)]
def E (k:Nat):Env:=en (D k) [] 2 [] k
theorem eq (k:Nat) (a0:Ty.den TStore) (a1:Ty.den Tworker):rn (E k) Tryz.f180 (C k) (a0,a1,())=f k a0 a1:=by kernel_rfl
theorem ctr (k:Nat):Cp 180 (C k):=rc rfl (D k) (by kernel_rfl) Tryz.func180 (by kernel_rfl) rfl fun ⟨a0,a1,_⟩ r h=>(eq k a0 a1).trans h
end impl_Store__rotate
namespace impl_Store__add
def C (k:Nat):Cn:=⟨[.io true TStore,.io true Tworker,.val TRec],[TEntry],true,false,fun x=>f k x.1 x.2.1 x.2.2.1⟩
def D (k:Nat):List Ce:=[q (impl_ShowRec.ctr k),q (impl_Frame.ctr k),q (impl_Store__rotate.ctr k),q (impl_Store__active.ctr k),q (impl_worker__put.ctr k)]
def E (k:Nat):Env:=en (D k) [] 2 [] k
theorem eq (k:Nat) (a0:Ty.den TStore) (a1:Ty.den Tworker) (a2:Ty.den TRec):rn (E k) Tryz.f136 (C k) (a0,a1,a2,())=f k a0 a1 a2:=by kernel_rfl
theorem ctr (k:Nat):Cp 136 (C k):=rc rfl (D k) (by kernel_rfl) Tryz.func136 (by kernel_rfl) rfl fun ⟨a0,a1,a2,_⟩ r h=>(eq k a0 a1 a2).trans h
end impl_Store__add
namespace impl_dirWith_g
def C (k:Nat):Cn:=⟨[.give (.slice TEntry),.val (.slice TPut),.val (.slice TEntry)],[(.slice TEntry)],true,false,fun x=>f k x.1 x.2.1 x.2.2.1⟩
def D (k:Nat):List Ce:=[q (impl_DirDrop.ctr k),q (impl_DirPut.ctr k)]
def E (k:Nat):Env:=en (D k) [(2,[0,2,9,10,11])] 0 [] k
section
variable (k:Nat) (a0:List (Ty.den TEntry)) (a1:List (Ty.den TPut)) (a2:List (Ty.den TEntry))
def K0:Ex→St→Rs:=runK (E k) (eK (E k) Tryz.f134 (C k) (a0,a1,a2,())) [.blk 0,.code (at_ (bt 2 3) (body Tryz.f134))]
def V0 (n0:Nat):T0:=fun x0 x1 x2 x3 x4=>loopN (exec (E k) (at_ (bt 5 5) (body Tryz.f134))) (canon 0 [0,2,9,10,11]) (K0 k a0 a1 a2) n0 (mk 30 1 [(0,.ref 0),(2,.sl true TEntry x0),(9,.sl true TPut x1),(10,.int .i64 x2),(11,.int .i64 x3)] [(0,.own false TEntry x4)])
theorem s0 (n0:Nat):V0 k a0 a1 a2 (n0+1)=b0 k (V0 k a0 a1 a2 n0):=by kernel_rfl
theorem e0:V0 k a0 a1 a2=l0 k:=loop_eq rfl (s0 k a0 a1 a2) fun _=>rfl
end
theorem eq (k:Nat) (a0:List (Ty.den TEntry)) (a1:List (Ty.den TPut)) (a2:List (Ty.den TEntry)):rn (E k) Tryz.f134 (C k) (a0,a1,a2,())=f k a0 a1 a2:=(show _=t k (V0 k a0 a1 a2 k) a0 a1 a2 by kernel_rfl).trans (by rw [e0];rfl)
theorem ctr (k:Nat):Cp 134 (C k):=rc rfl (D k) (by kernel_rfl) Tryz.func134 (by kernel_rfl) rfl fun ⟨a0,a1,a2,_⟩ r h=>(eq k a0 a1 a2).trans h
end impl_dirWith_g
namespace impl_Store__commit
def C (k:Nat):Cn:=⟨[.io true TStore,.io true Tworker,.val (.slice TPut)],[],true,false,fun x=>f k x.1 x.2.1 x.2.2.1⟩
def D (k:Nat):List Ce:=[q (impl_recordsOf.ctr k),q (impl_Store__add.ctr k),q (impl_Store__active.ctr k),q (impl_worker__sync.ctr k),q (impl_dirWith_g.ctr k)]
def E (k:Nat):Env:=en (D k) [(4,[0,1,2,7,24,25,26])] 2 [] k
section
variable (k:Nat) (a0:Ty.den TStore) (a1:Ty.den Tworker) (a2:List (Ty.den TPut))
def K0:Ex→St→Rs:=runK (E k) (eK (E k) Tryz.f86 (C k) (a0,a1,a2,())) [.blk 0,.code (at_ (bt 4 15) (body Tryz.f86))]
def V0 (n0:Nat):T0:=fun x0 x1 x2 x3 x4 x5 x6 x7 x8 x9 x10 x11 x12 x13 x14 x15=>loopN (exec (E k) (at_ (bt 7 23) (body Tryz.f86))) (canon 2 [0,1,2,7,24,25,26]) (K0 k a0 a1 a2) n0 (mk 63 7 [(0,.ptr 0 0 0),(1,.ptr 1 0 0),(2,.sl true TPut x0),(7,.ref 5),(24,.ref 6),(25,.int .i64 x1),(26,.int .i64 x2)] [(2,.own false (.int .i64) x3),(3,.own false TEntry x4),(0,.box [.int .i64 x5,.ref 2,.ref 3,.int .i64 x6,.int .i64 x7,.int .i64 x8]),(4,.own false TPair x9),(1,.box [.ref 4,.int .i64 x10,.int .i64 x11,.bool x12,.int .i64 x13]),(5,.own false TEntry x14),(6,.own false TRec x15)])
theorem s0 (n0:Nat):V0 k a0 a1 a2 (n0+1)=b0 k (V0 k a0 a1 a2 n0):=by kernel_rfl
theorem e0:V0 k a0 a1 a2=l0 k:=loop_eq rfl (s0 k a0 a1 a2) fun _=>rfl
end
theorem eq (k:Nat) (a0:Ty.den TStore) (a1:Ty.den Tworker) (a2:List (Ty.den TPut)):rn (E k) Tryz.f86 (C k) (a0,a1,a2,())=f k a0 a1 a2:=(show _=t k (V0 k a0 a1 a2 k) a0 a1 a2 by kernel_rfl).trans (by rw [e0];rfl)
theorem ctr (k:Nat):Cp 86 (C k):=rc rfl (D k) (by kernel_rfl) Tryz.func86 (by kernel_rfl) rfl fun ⟨a0,a1,a2,_⟩ r h=>(eq k a0 a1 a2).trans h
end impl_Store__commit
namespace impl_Commit
def C (k:Nat):Cn:=⟨[.val TStore,.val TDisk,.val (.slice TPut)],[TStore,TDisk,(.int .i64)],true,false,fun x=>f k x.1 x.2.1 x.2.2.1⟩
def D (k:Nat):List Ce:=[q (impl_copyStore.ctr k),q (impl_copyDisk.ctr k),q (impl_StoreOk.ctr k),q (impl_PutsOk.ctr k),q (impl_keysWith.ctr k),q (impl_Store__commit.ctr k)]
def E (k:Nat):Env:=en (D k) [] 0 [] k
theorem eq (k:Nat) (a0:Ty.den TStore) (a1:Ty.den TDisk) (a2:List (Ty.den TPut)):rn (E k) Tryz.f36 (C k) (a0,a1,a2,())=f k a0 a1 a2:=by kernel_rfl
theorem ctr (k:Nat):Cp 36 (C k):=rc rfl (D k) (by kernel_rfl) Tryz.func36 (by kernel_rfl) rfl fun ⟨a0,a1,a2,_⟩ r h=>(eq k a0 a1 a2).trans h
end impl_Commit
namespace impl_Restore
def C (k:Nat):Cn:=⟨[.val (.int .i64),.val (.slice TPair)],[TStore,TDisk,(.int .i64)],true,false,fun x=>f k x.1 x.2.1⟩
def D (k:Nat):List Ce:=[q (impl_in.ctr k),q (impl_PairsOk.ctr k),q (impl_DiskNew.ctr k),q (impl_Open.ctr k),q (impl_Commit.ctr k)]
def E (k:Nat):Env:=en (D k) [(5,[1,4,5,7,8,9,10]),(9,[1,4,5,7,8,10,11,48,49,50])] 0 [] k
section
variable (k:Nat) (a0:Int) (a1:List (Ty.den TPair))
def K0:Ex→St→Rs:=runK (E k) (eK (E k) Tryz.f11 (C k) (a0,a1,())) [.blk 0,.code (at_ (bt 4 15) (body Tryz.f11))]
def B0 (n0:Nat):Ex→St→Rs:=lpK (E k) (at_ (bt 7 23) (body Tryz.f11)) 0 [1,4,5,7,8,9,10] (K0 k a0 a1) n0
def K1 (n0:Nat):Ex→St→Rs:=runK (E k) (B0 k a0 a1 n0) [.blk 2,.code (at_ (bt 12 3223) (body Tryz.f11)),.blk 1,.code (at_ (bt 9 407) (body Tryz.f11))]
def V0 (n0:Nat):T0:=fun x0 x1 x2 x3 x4 x5 x6 x7 x8 x9 x10 x11 x12 x13 x14 x15 x16 x17 x18 x19 x20 x21 x22=>loopN (exec (E k) (at_ (bt 7 23) (body Tryz.f11))) (canon 0 [1,4,5,7,8,9,10]) (K0 k a0 a1) n0 (mk 74 10 [(1,.sl true TPair x0),(4,.ptr 0 0 0),(5,.ptr 3 0 0),(7,.ptr 5 0 0),(8,.ptr 8 0 0),(9,.int .i64 x1),(10,.int .i64 x2)] [(1,.own false (.int .i64) x3),(2,.own false TEntry x4),(0,.box [.int .i64 x5,.ref 1,.ref 2,.int .i64 x6,.int .i64 x7,.int .i64 x8]),(4,.own false TPair x9),(3,.box [.ref 4,.int .i64 x10,.int .i64 x11,.bool x12]),(6,.own false (.int .i64) x13),(7,.own false TEntry x14),(5,.box [.int .i64 x15,.ref 6,.ref 7,.int .i64 x16,.int .i64 x17,.int .i64 x18]),(9,.own false TPair x19),(8,.box [.ref 9,.int .i64 x20,.int .i64 x21,.bool x22])])
def V1 (n0 n1:Nat):T1:=fun x0 x1 x2 x3 x4 x5 x6 x7 x8 x9 x10 x11 x12 x13 x14 x15 x16 x17 x18 x19 x20 x21 x22 x23 x24 x25=>loopN (exec (E k) (at_ (bt 15 5271) (body Tryz.f11))) (canon 0 [1,4,5,7,8,10,11,48,49,50]) (K1 k a0 a1 n0) n1 (mk 74 11 [(1,.sl true TPair x0),(4,.ptr 0 0 0),(5,.ptr 3 0 0),(7,.ptr 5 0 0),(8,.ptr 8 0 0),(10,.int .i64 x1),(11,.ref 10),(48,.sl true TPair x2),(49,.int .i64 x3),(50,.int .i64 x4)] [(1,.own false (.int .i64) x5),(2,.own false TEntry x6),(0,.box [.int .i64 x7,.ref 1,.ref 2,.int .i64 x8,.int .i64 x9,.int .i64 x10]),(4,.own false TPair x11),(3,.box [.ref 4,.int .i64 x12,.int .i64 x13,.bool x14]),(6,.own false (.int .i64) x15),(7,.own false TEntry x16),(5,.box [.int .i64 x17,.ref 6,.ref 7,.int .i64 x18,.int .i64 x19,.int .i64 x20]),(9,.own false TPair x21),(8,.box [.ref 9,.int .i64 x22,.int .i64 x23,.bool x24]),(10,.own false TPut x25)])
theorem s0 (n0:Nat):V0 k a0 a1 (n0+1)=b0 k (V1 k a0 a1 n0 k) (V0 k a0 a1 n0):=by kernel_rfl
theorem s1 (n0 n1:Nat):V1 k a0 a1 n0 (n1+1)=b1 k (V0 k a0 a1 n0) (V1 k a0 a1 n0 n1):=by kernel_rfl
theorem e1 (n0:Nat):V1 k a0 a1 n0=l1 k (V0 k a0 a1 n0):=loop_eq rfl (s1 k a0 a1 n0) fun _=>rfl
theorem e0 (n0:Nat):V0 k a0 a1 n0=l0 k n0:=by
 induction n0 with
 | zero=>rfl
 | succ n0 ih =>
  have h:V0 k a0 a1 (n0+1)=b0 k (V1 k a0 a1 n0 k) (V0 k a0 a1 n0):=s0 k a0 a1 n0
  rw [h,e1,ih]
  rfl
end
theorem eq (k:Nat) (a0:Int) (a1:List (Ty.den TPair)):rn (E k) Tryz.f11 (C k) (a0,a1,())=f k a0 a1:=(show _=t k (V0 k a0 a1 k) a0 a1 by kernel_rfl).trans (by rw [e0];rfl)
theorem ctr (k:Nat):Cp 11 (C k):=rc rfl (D k) (by kernel_rfl) Tryz.func11 (by kernel_rfl) rfl fun ⟨a0,a1,_⟩ r h=>(eq k a0 a1).trans h
end impl_Restore
namespace impl_DirKeys
def C (k:Nat):Cn:=⟨[.val (.slice TEntry)],[(.slice .str)],true,false,fun x=>f k x.1⟩
def E (k:Nat):Env:=en [] [(3,[3,6,7,8])] 0 [] k
section
variable (k:Nat) (a0:List (Ty.den TEntry))
def K0:Ex→St→Rs:=runK (E k) (eK (E k) Tryz.f37 (C k) (a0,())) [.blk 0,.code (at_ (bt 3 7) (body Tryz.f37))]
def V0 (n0:Nat):T0:=fun x0 x1 x2 x3=>loopN (exec (E k) (at_ (bt 6 11) (body Tryz.f37))) (canon 0 [3,6,7,8]) (K0 k a0) n0 (mk 19 1 [(3,.ref 0),(6,.sl true TEntry x0),(7,.int .i64 x1),(8,.int .i64 x2)] [(0,.own false .str x3)])
theorem s0 (n0:Nat):V0 k a0 (n0+1)=b0 k (V0 k a0 n0):=by kernel_rfl
theorem e0:V0 k a0=l0 k:=loop_eq rfl (s0 k a0) fun _=>rfl
end
theorem eq (k:Nat) (a0:List (Ty.den TEntry)):rn (E k) Tryz.f37 (C k) (a0,())=f k a0:=(show _=t k (V0 k a0 k) a0 by kernel_rfl).trans (by rw [e0];rfl)
theorem ctr (k:Nat):Cp 37 (C k):=rc rfl [] (by kernel_rfl) Tryz.func37 (by kernel_rfl) rfl fun ⟨a0,_⟩ r h=>(eq k a0).trans h
end impl_DirKeys
namespace impl_DirGet
def C (k:Nat):Cn:=⟨[.val (.slice TEntry),.val .str],[TEntry,.bool],true,false,fun x=>f k x.1 x.2.1⟩
def E (k:Nat):Env:=en [] [(2,[1,4,8,9,10])] 0 [] k
section
variable (k:Nat) (a0:List (Ty.den TEntry)) (a1:ByteArray)
def K0:Ex→St→Rs:=runK (E k) (eK (E k) Tryz.f58 (C k) (a0,a1,())) [.blk 0,.code (at_ (bt 2 3) (body Tryz.f58))]
def V0 (n0:Nat):T0:=fun x0 x1 x2 x3 x4 x5 x6 x7 x8=>loopN (exec (E k) (at_ (bt 5 5) (body Tryz.f58))) (canon 0 [1,4,8,9,10]) (K0 k a0 a1) n0 (mk 21 1 [(1,.str x0),(4,.ptr 0 0 0),(8,.sl true TEntry x1),(9,.int .i64 x2),(10,.int .i64 x3)] [(0,.box [.str x4,.int .i64 x5,.int .i64 x6,.int .i64 x7,.int .i64 x8])])
theorem s0 (n0:Nat):V0 k a0 a1 (n0+1)=b0 k (V0 k a0 a1 n0):=by kernel_rfl
theorem e0:V0 k a0 a1=l0 k:=loop_eq rfl (s0 k a0 a1) fun _=>rfl
end
theorem eq (k:Nat) (a0:List (Ty.den TEntry)) (a1:ByteArray):rn (E k) Tryz.f58 (C k) (a0,a1,())=f k a0 a1:=(show _=t k (V0 k a0 a1 k) a0 a1 by kernel_rfl).trans (by rw [e0];rfl)
theorem ctr (k:Nat):Cp 58 (C k):=rc rfl [] (by kernel_rfl) Tryz.func58 (by kernel_rfl) rfl fun ⟨a0,a1,_⟩ r h=>(eq k a0 a1).trans h
end impl_DirGet
namespace impl_Get
def C (k:Nat):Cn:=⟨[.val TStore,.val TDisk,.val .str],[TPair,(.int .i64)],true,false,fun x=>f k x.1 x.2.1 x.2.2.1⟩
def D (k:Nat):List Ce:=[q (impl_DirGet.ctr k),q (impl_SegName.ctr k),q (impl_FileText.ctr k),q (impl_RecAt.ctr k)]
def E (k:Nat):Env:=en (D k) [] 0 [] k
theorem eq (k:Nat) (a0:Ty.den TStore) (a1:Ty.den TDisk) (a2:ByteArray):rn (E k) Tryz.f38 (C k) (a0,a1,a2,())=f k a0 a1 a2:=by kernel_rfl
theorem ctr (k:Nat):Cp 38 (C k):=rc rfl (D k) (by kernel_rfl) Tryz.func38 (by kernel_rfl) rfl fun ⟨a0,a1,a2,_⟩ r h=>(eq k a0 a1 a2).trans h
end impl_Get
namespace impl_Dump
def C (k:Nat):Cn:=⟨[.val TStore,.val TDisk],[(.slice TPair),(.int .i64)],true,false,fun x=>f k x.1 x.2.1⟩
def D (k:Nat):List Ce:=[q (impl_DirKeys.ctr k),q (impl_Get.ctr k)]
def E (k:Nat):Env:=en (D k) [(3,[2,3,6,13,14,15])] 0 [] k
section
variable (k:Nat) (a0:Ty.den TStore) (a1:Ty.den TDisk)
def K0:Ex→St→Rs:=runK (E k) (eK (E k) Tryz.f12 (C k) (a0,a1,())) [.blk 0,.code (at_ (bt 3 7) (body Tryz.f12))]
def V0 (n0:Nat):T0:=fun x0 x1 x2 x3 x4 x5 x6 x7 x8 x9 x10 x11 x12 x13=>loopN (exec (E k) (at_ (bt 6 11) (body Tryz.f12))) (canon 0 [2,3,6,13,14,15]) (K0 k a0 a1) n0 (mk 35 4 [(2,.ptr 0 0 0),(3,.ptr 1 0 0),(6,.ref 2),(13,.ref 3),(14,.int .i64 x0),(15,.int .i64 x1)] [(0,.box [.int .i64 x2,.sl true (.int .i64) x3,.sl true TEntry x4,.int .i64 x5,.int .i64 x6,.int .i64 x7]),(1,.box [.sl true TPair x8,.int .i64 x9,.int .i64 x10,.bool x11]),(2,.own false TPair x12),(3,.own false .str x13)])
theorem s0 (n0:Nat):V0 k a0 a1 (n0+1)=b0 k (V0 k a0 a1 n0):=by kernel_rfl
theorem e0:V0 k a0 a1=l0 k:=loop_eq rfl (s0 k a0 a1) fun _=>rfl
end
theorem eq (k:Nat) (a0:Ty.den TStore) (a1:Ty.den TDisk):rn (E k) Tryz.f12 (C k) (a0,a1,())=f k a0 a1:=(show _=t k (V0 k a0 a1 k) a0 a1 by kernel_rfl).trans (by rw [e0];rfl)
theorem ctr (k:Nat):Cp 12 (C k):=rc rfl (D k) (by kernel_rfl) Tryz.func12 (by kernel_rfl) rfl fun ⟨a0,a1,_⟩ r h=>(eq k a0 a1).trans h
end impl_Dump
namespace laws_values
def C (k:Nat):Cn:=⟨[.val (.slice TPair)],[(.slice TPair)],true,false,fun x=>f k x.1⟩
def E (k:Nat):Env:=en [] [(3,[0,3,4])] 0 [] k
section
variable (k:Nat) (a0:List (Ty.den TPair))
def K0:Ex→St→Rs:=runK (E k) (eK (E k) Tryz.f13 (C k) (a0,())) [.blk 0,.code (at_ (bt 3 7) (body Tryz.f13))]
def V0 (n0:Nat):T0:=fun x0 x1 x2=>loopN (exec (E k) (at_ (bt 6 11) (body Tryz.f13))) (canon 0 [0,3,4]) (K0 k a0) n0 (mk 27 1 [(0,.sl true TPair x0),(3,.ref 0),(4,.int .i64 x1)] [(0,.own false TPair x2)])
theorem s0 (n0:Nat):V0 k a0 (n0+1)=b0 k (V0 k a0 n0):=by kernel_rfl
theorem e0:V0 k a0=l0 k:=loop_eq rfl (s0 k a0) fun _=>rfl
end
theorem eq (k:Nat) (a0:List (Ty.den TPair)):rn (E k) Tryz.f13 (C k) (a0,())=f k a0:=(show _=t k (V0 k a0 k) a0 by kernel_rfl).trans (by rw [e0];rfl)
theorem ctr (k:Nat):Cp 13 (C k):=rc rfl [] (by kernel_rfl) Tryz.func13 (by kernel_rfl) rfl fun ⟨a0,_⟩ r h=>(eq k a0).trans h
end laws_values
namespace spec_l1Once
def C (k:Nat):Cn:=⟨[.io false Tl1Cur,.val (.int .i64)],[.bool],true,true,fun x=>f k x.1 x.2.1⟩
def D (k:Nat):List Ce:=[q (spec_l1Below.ctr k)]
def E (k:Nat):Env:=en (D k) [] 1 [] k
theorem eq (k:Nat) (a0:Ty.den Tl1Cur) (a1:Int):rn (E k) Tryz.f40 (C k) (a0,a1,())=f k a0 a1:=by kernel_rfl
theorem ctr (k:Nat):Cp 40 (C k):=rc rfl (D k) (by kernel_rfl) Tryz.func40 (by kernel_rfl) rfl fun ⟨a0,a1,_⟩ r h=>(eq k a0 a1).trans h
end spec_l1Once
namespace spec_l12Puts
def C (k:Nat):Cn:=⟨[.io false Tl1Cur],[(.slice TPut)],true,true,fun x=>f k x.1⟩
def D (k:Nat):List Ce:=[q (spec_l1Below.ctr k),q (spec_l5Key.ctr k),q (spec_l1Text.ctr k),q (spec_l1Once.ctr k)]
def E (k:Nat):Env:=en (D k) [(3,[0,3,4])] 1 [] k
section
variable (k:Nat) (a0:Ty.den Tl1Cur)
def K0:Ex→St→Rs:=runK (E k) (eK (E k) Tryz.f42 (C k) (a0,())) [.blk 0,.code (at_ (bt 3 7) (body Tryz.f42))]
def V0 (n0:Nat):T0:=fun x0 x1 x2 x3 x4=>loopN (exec (E k) (at_ (bt 6 11) (body Tryz.f42))) (canon 1 [0,3,4]) (K0 k a0) n0 (mk 28 2 [(0,.ptr 0 0 0),(3,.ref 1),(4,.int .i64 x0)] [(0,.box [.sl true (.int .u8) x1,.int .i64 x2,.int .i64 x3]),(1,.own false TPut x4)])
theorem s0 (n0:Nat):V0 k a0 (n0+1)=b0 k (V0 k a0 n0):=by kernel_rfl
theorem e0:V0 k a0=l0 k:=loop_eq rfl (s0 k a0) fun _=>rfl
end
theorem eq (k:Nat) (a0:Ty.den Tl1Cur):rn (E k) Tryz.f42 (C k) (a0,())=f k a0:=(show _=t k (V0 k a0 k) a0 by kernel_rfl).trans (by rw [e0];rfl)
theorem ctr (k:Nat):Cp 42 (C k):=rc rfl (D k) (by kernel_rfl) Tryz.func42 (by kernel_rfl) rfl fun ⟨a0,_⟩ r h=>(eq k a0).trans h
end spec_l12Puts
namespace spec_Fold
def C (k:Nat):Cn:=⟨[.val (.slice TPair),.val (.slice TPut),.val (.int .i64)],[(.slice TPair)],true,false,fun x=>f k x.1 x.2.1 x.2.2.1⟩
def D (k:Nat):List Ce:=[q (spec_l13Set.ctr k)]
def E (k:Nat):Env:=en (D k) [(3,[1,2,7,8])] 0 [] k
section
variable (k:Nat) (a0:List (Ty.den TPair)) (a1:List (Ty.den TPut)) (a2:Int)
def K0:Ex→St→Rs:=runK (E k) (eK (E k) Tryz.f41 (C k) (a0,a1,a2,())) [.blk 0,.code (at_ (bt 3 7) (body Tryz.f41))]
def V0 (n0:Nat):T0:=fun x0 x1 x2 x3=>loopN (exec (E k) (at_ (bt 6 11) (body Tryz.f41))) (canon 0 [1,2,7,8]) (K0 k a0 a1 a2) n0 (mk 38 1 [(1,.sl true TPut x0),(2,.int .i64 x1),(7,.ref 0),(8,.int .i64 x2)] [(0,.own false TPair x3)])
theorem s0 (n0:Nat):V0 k a0 a1 a2 (n0+1)=b0 k (V0 k a0 a1 a2 n0):=by kernel_rfl
theorem e0:V0 k a0 a1 a2=l0 k:=loop_eq rfl (s0 k a0 a1 a2) fun _=>rfl
end
theorem eq (k:Nat) (a0:List (Ty.den TPair)) (a1:List (Ty.den TPut)) (a2:Int):rn (E k) Tryz.f41 (C k) (a0,a1,a2,())=f k a0 a1 a2:=(show _=t k (V0 k a0 a1 a2 k) a0 a1 a2 by kernel_rfl).trans (by rw [e0];rfl)
theorem ctr (k:Nat):Cp 41 (C k):=rc rfl (D k) (by kernel_rfl) Tryz.func41 (by kernel_rfl) rfl fun ⟨a0,a1,a2,_⟩ r h=>(eq k a0 a1 a2).trans h
end spec_Fold
namespace spec_DrawDiff
def C (k:Nat):Cn:=⟨[.val (.slice (.int .u8))],[(.slice TPair),(.slice TPair)],true,false,fun x=>f k x.1⟩
def D (k:Nat):List Ce:=[q (spec_l1New.ctr k),q (spec_l13Pairs.ctr k),q (spec_l1Once.ctr k),q (spec_l12Puts.ctr k),q (spec_Fold.ctr k)]
def E (k:Nat):Env:=en (D k) [] 0 [] k
theorem eq (k:Nat) (a0:List Int):rn (E k) Tryz.f14 (C k) (a0,())=f k a0:=by kernel_rfl
theorem ctr (k:Nat):Cp 14 (C k):=rc rfl (D k) (by kernel_rfl) Tryz.func14 (by kernel_rfl) rfl fun ⟨a0,_⟩ r h=>(eq k a0).trans h
end spec_DrawDiff
namespace impl_pairAt
def C (k:Nat):Cn:=⟨[.val (.slice TPair),.val .str],[TPair,.bool],true,false,fun x=>f k x.1 x.2.1⟩
def E (k:Nat):Env:=en [] [(2,[1,4,8,9,10])] 0 [] k
section
variable (k:Nat) (a0:List (Ty.den TPair)) (a1:ByteArray)
def K0:Ex→St→Rs:=runK (E k) (eK (E k) Tryz.f43 (C k) (a0,a1,())) [.blk 0,.code (at_ (bt 2 3) (body Tryz.f43))]
def V0 (n0:Nat):T0:=fun x0 x1 x2 x3 x4 x5 x6=>loopN (exec (E k) (at_ (bt 5 5) (body Tryz.f43))) (canon 0 [1,4,8,9,10]) (K0 k a0 a1) n0 (mk 21 1 [(1,.str x0),(4,.ptr 0 0 0),(8,.sl true TPair x1),(9,.int .i64 x2),(10,.int .i64 x3)] [(0,.box [.str x4,.str x5,.int .i64 x6])])
theorem s0 (n0:Nat):V0 k a0 a1 (n0+1)=b0 k (V0 k a0 a1 n0):=by kernel_rfl
theorem e0:V0 k a0 a1=l0 k:=loop_eq rfl (s0 k a0 a1) fun _=>rfl
end
theorem eq (k:Nat) (a0:List (Ty.den TPair)) (a1:ByteArray):rn (E k) Tryz.f43 (C k) (a0,a1,())=f k a0 a1:=(show _=t k (V0 k a0 a1 k) a0 a1 by kernel_rfl).trans (by rw [e0];rfl)
theorem ctr (k:Nat):Cp 43 (C k):=rc rfl [] (by kernel_rfl) Tryz.func43 (by kernel_rfl) rfl fun ⟨a0,a1,_⟩ r h=>(eq k a0 a1).trans h
end impl_pairAt
namespace impl_Diff
def C (k:Nat):Cn:=⟨[.val (.slice TPair),.val (.slice TPair)],[(.slice TPut)],true,false,fun x=>f k x.1 x.2.1⟩
def D (k:Nat):List Ce:=[q (impl_pairAt.ctr k)]
def E (k:Nat):Env:=en (D k) [(3,[0,1,5,14,15,16]),(10,[0,5,36,37,38])] 0 [] k
section
variable (k:Nat) (a0:List (Ty.den TPair)) (a1:List (Ty.den TPair))
def K0:Ex→St→Rs:=runK (E k) (eK (E k) Tryz.f15 (C k) (a0,a1,())) [.blk 0,.code (at_ (bt 3 7) (body Tryz.f15))]
def K1:Ex→St→Rs:=runK (E k) (eK (E k) Tryz.f15 (C k) (a0,a1,())) [.blk 2,.code (at_ (bt 4 15) (body Tryz.f15))]
def V0 (n0:Nat):T0:=fun x0 x1 x2 x3 x4 x5=>loopN (exec (E k) (at_ (bt 6 11) (body Tryz.f15))) (canon 0 [0,1,5,14,15,16]) (K0 k a0 a1) n0 (mk 68 1 [(0,.sl true TPair x0),(1,.sl true TPair x1),(5,.ref 0),(14,.sl true TPair x2),(15,.int .i64 x3),(16,.int .i64 x4)] [(0,.own false TPut x5)])
def V1 (n1:Nat):T1:=fun x0 x1 x2 x3 x4=>loopN (exec (E k) (at_ (bt 7 23) (body Tryz.f15))) (canon 0 [0,5,36,37,38]) (K1 k a0 a1) n1 (mk 68 1 [(0,.sl true TPair x0),(5,.ref 0),(36,.sl true TPair x1),(37,.int .i64 x2),(38,.int .i64 x3)] [(0,.own false TPut x4)])
theorem s0 (n0:Nat):V0 k a0 a1 (n0+1)=b0 k (V1 k a0 a1 k) (V0 k a0 a1 n0):=by kernel_rfl
theorem s1 (n1:Nat):V1 k a0 a1 (n1+1)=b1 k (V1 k a0 a1 n1):=by kernel_rfl
theorem e1:V1 k a0 a1=l1 k:=loop_eq rfl (s1 k a0 a1) fun _=>rfl
theorem e0 (n0:Nat):V0 k a0 a1 n0=l0 k n0:=by
 induction n0 with
 | zero=>rfl
 | succ n0 ih =>
  have h:V0 k a0 a1 (n0+1)=b0 k (V1 k a0 a1 k) (V0 k a0 a1 n0):=s0 k a0 a1 n0
  rw [h,e1,ih]
  rfl
end
theorem eq (k:Nat) (a0:List (Ty.den TPair)) (a1:List (Ty.den TPair)):rn (E k) Tryz.f15 (C k) (a0,a1,())=f k a0 a1:=(show _=t k (V0 k a0 a1 k) a0 a1 by kernel_rfl).trans (by rw [e0];rfl)
theorem ctr (k:Nat):Cp 15 (C k):=rc rfl (D k) (by kernel_rfl) Tryz.func15 (by kernel_rfl) rfl fun ⟨a0,a1,_⟩ r h=>(eq k a0 a1).trans h
end impl_Diff
namespace impl_copyPairs
def C (k:Nat):Cn:=⟨[.val (.slice TPair)],[(.slice TPair)],true,false,fun x=>f k x.1⟩
def E (k:Nat):Env:=en [] [] 0 [] k
theorem eq (k:Nat) (a0:List (Ty.den TPair)):rn (E k) Tryz.f44 (C k) (a0,())=f k a0:=by kernel_rfl
theorem ctr (k:Nat):Cp 44 (C k):=rc rfl [] (by kernel_rfl) Tryz.func44 (by kernel_rfl) rfl fun ⟨a0,_⟩ r h=>(eq k a0).trans h
end impl_copyPairs
namespace impl_without
def C (k:Nat):Cn:=⟨[.val (.slice TPair),.val .str],[(.slice TPair)],true,false,fun x=>f k x.1 x.2.1⟩
def E (k:Nat):Env:=en [] [(3,[1,5,8,9,10])] 0 [] k
section
variable (k:Nat) (a0:List (Ty.den TPair)) (a1:ByteArray)
def K0:Ex→St→Rs:=runK (E k) (eK (E k) Tryz.f45 (C k) (a0,a1,())) [.blk 0,.code (at_ (bt 3 7) (body Tryz.f45))]
def V0 (n0:Nat):T0:=fun x0 x1 x2 x3 x4=>loopN (exec (E k) (at_ (bt 6 11) (body Tryz.f45))) (canon 0 [1,5,8,9,10]) (K0 k a0 a1) n0 (mk 24 1 [(1,.str x0),(5,.ref 0),(8,.sl true TPair x1),(9,.int .i64 x2),(10,.int .i64 x3)] [(0,.own false TPair x4)])
theorem s0 (n0:Nat):V0 k a0 a1 (n0+1)=b0 k (V0 k a0 a1 n0):=by kernel_rfl
theorem e0:V0 k a0 a1=l0 k:=loop_eq rfl (s0 k a0 a1) fun _=>rfl
end
theorem eq (k:Nat) (a0:List (Ty.den TPair)) (a1:ByteArray):rn (E k) Tryz.f45 (C k) (a0,a1,())=f k a0 a1:=(show _=t k (V0 k a0 a1 k) a0 a1 by kernel_rfl).trans (by rw [e0];rfl)
theorem ctr (k:Nat):Cp 45 (C k):=rc rfl [] (by kernel_rfl) Tryz.func45 (by kernel_rfl) rfl fun ⟨a0,a1,_⟩ r h=>(eq k a0 a1).trans h
end impl_without
namespace impl_Fold
def C (k:Nat):Cn:=⟨[.val (.slice TPair),.val (.slice TPut),.val (.int .i64)],[(.slice TPair)],true,false,fun x=>f k x.1 x.2.1 x.2.2.1⟩
def D (k:Nat):List Ce:=[q (impl_copyPairs.ctr k),q (impl_without.ctr k)]
def E (k:Nat):Env:=en (D k) [(3,[2,7,13,14,15]),(8,[2,7,9,10,13,14,15])] 0 [] k
section
variable (k:Nat) (a0:List (Ty.den TPair)) (a1:List (Ty.den TPut)) (a2:Int)
def K0:Ex→St→Rs:=runK (E k) (eK (E k) Tryz.f16 (C k) (a0,a1,a2,())) [.blk 0,.code (at_ (bt 3 7) (body Tryz.f16))]
def B0 (n0:Nat):Ex→St→Rs:=lpK (E k) (at_ (bt 6 11) (body Tryz.f16)) 0 [2,7,13,14,15] (K0 k a0 a1 a2) n0
def K1 (n0:Nat):Ex→St→Rs:=runK (E k) (B0 k a0 a1 a2 n0) [.blk 2,.code (at_ (bt 15 31947) (body Tryz.f16)),.blk 1,.code (at_ (bt 9 459) (body Tryz.f16))]
def V0 (n0:Nat):T0:=fun x0 x1 x2 x3 x4=>loopN (exec (E k) (at_ (bt 6 11) (body Tryz.f16))) (canon 0 [2,7,13,14,15]) (K0 k a0 a1 a2) n0 (mk 59 1 [(2,.int .i64 x0),(7,.ref 0),(13,.sl true TPut x1),(14,.int .i64 x2),(15,.int .i64 x3)] [(0,.own false TPair x4)])
def V1 (n0 n1:Nat):T1:=fun x0 x1 x2 x3 x4 x5 x6 x7 x8=>loopN (exec (E k) (at_ (bt 17 15563) (body Tryz.f16))) (canon 0 [2,7,9,10,13,14,15]) (K1 k a0 a1 a2 n0) n1 (mk 59 2 [(2,.int .i64 x0),(7,.ref 0),(9,.ptr 1 0 0),(10,.int .i64 x1),(13,.sl true TPut x2),(14,.int .i64 x3),(15,.int .i64 x4)] [(0,.own false TPair x5),(1,.box [.str x6,.bool x7,.str x8])])
theorem s0 (n0:Nat):V0 k a0 a1 a2 (n0+1)=b0 k (V1 k a0 a1 a2 n0 k) (V0 k a0 a1 a2 n0):=by kernel_rfl
theorem s1 (n0 n1:Nat):V1 k a0 a1 a2 n0 (n1+1)=b1 k (V0 k a0 a1 a2 n0) (V1 k a0 a1 a2 n0 n1):=by kernel_rfl
theorem e1 (n0:Nat):V1 k a0 a1 a2 n0=l1 k (V0 k a0 a1 a2 n0):=loop_eq rfl (s1 k a0 a1 a2 n0) fun _=>rfl
theorem e0 (n0:Nat):V0 k a0 a1 a2 n0=l0 k n0:=by
 induction n0 with
 | zero=>rfl
 | succ n0 ih =>
  have h:V0 k a0 a1 a2 (n0+1)=b0 k (V1 k a0 a1 a2 n0 k) (V0 k a0 a1 a2 n0):=s0 k a0 a1 a2 n0
  rw [h,e1,ih]
  rfl
end
theorem eq (k:Nat) (a0:List (Ty.den TPair)) (a1:List (Ty.den TPut)) (a2:Int):rn (E k) Tryz.f16 (C k) (a0,a1,a2,())=f k a0 a1 a2:=(show _=t k (V0 k a0 a1 a2 k) a0 a1 a2 by kernel_rfl).trans (by rw [e0];rfl)
theorem ctr (k:Nat):Cp 16 (C k):=rc rfl (D k) (by kernel_rfl) Tryz.func16 (by kernel_rfl) rfl fun ⟨a0,a1,a2,_⟩ r h=>(eq k a0 a1 a2).trans h
end impl_Fold
namespace laws_FnBackups
def C (k:Nat):Cn:=⟨[.val (.slice (.int .u8))],[.bool],true,false,fun x=>f k x.1⟩
def D (k:Nat):List Ce:=[q (laws_big.ctr k),q (spec_DrawShowPairs.ctr k),q (impl_ShowPairs.ctr k),q (impl_ReadPairs.ctr k),q (spec_PairsOk.ctr k),q (spec_SamePairs.ctr k),q (impl_Restore.ctr k),q (impl_Dump.ctr k),q (laws_values.ctr k),q (spec_DrawDiff.ctr k),q (impl_Diff.ctr k),q (impl_Fold.ctr k)]
def E (k:Nat):Env:=en (D k) [] 0 [] k
theorem eq (k:Nat) (a0:List Int):rn (E k) Tryz.f3 (C k) (a0,())=f k a0:=by kernel_rfl
theorem ctr (k:Nat):Cp 3 (C k):=rc rfl (D k) (by kernel_rfl) Tryz.func3 (by kernel_rfl) rfl fun ⟨a0,_⟩ r h=>(eq k a0).trans h
end laws_FnBackups
end
end Go.Proofs.YtmakghhmpgfboaaGreatDoor.G

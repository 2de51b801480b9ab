/- Functions keep their contracts. -/
import Derived.Test.YtnpijgnfpdcjbaaGreatDoorVTab
import Derived.Test.YtnpijgnfpdcjbaaGreatDoorFO
import Derived.Test.YtnpijgnfpdcjbaaGreatDoorCLib
set_option linter.unusedVariables false
set_option maxRecDepth 100000
namespace Go.Proofs.YtnpijgnfpdcjbaaGreatDoor.G
open Go.V
noncomputable section
namespace o8
def C (k:Nat):Cn:=⟨[.val (.slice (.int .u8))],[.bool],true,false,fun x=>f k x.1⟩
def E (k:Nat):dO:=en [] [] 0 [] k
theorem eq (k:Nat) (a0:List Int):rn (E k) Tryz.f5 (C k) (a0,())=f k a0:=by kernel_rfl
theorem ctr (k:Nat):Cp 5 (C k):=rc rfl [] (by kernel_rfl) Tryz.func5 (by kernel_rfl) rfl fun ⟨a0,_⟩ r h=>(eq k a0).trans h
end o8
namespace ft
def C (k:Nat):Cn:=⟨[.val (.slice (.int .u8))],[.opq,d8],false,true,fun x=>f k x.1⟩
def E (k:Nat):dO:=en [] [(3,[0,3,4])] 0 [] k
section
variable (k:Nat) (a0:List Int)
def K0:Ex→St→Rs:=cR (E k) (eB (E k) Tryz.f21 (C k) (a0,())) [.blk 0,.code (at_ (bt 3 7) (body Tryz.f21))]
def V0 (n0:Nat):T0:=fun x0 x1 x2=>ao (bo (E k) (at_ (bt 6 11) (body Tryz.f21))) (ak 0 [0,3,4]) (K0 k a0) n0 (mk 32 0 [(0,.sl true (.int .u8) x0),(3,.int .i64 x1),(4,.int .i64 x2)] [])
theorem s0 (n0:Nat):V0 k a0 (n0+1)=b0 k (V0 k a0 n0):=by kernel_rfl
theorem e0:V0 k a0=l0 k:=aY rfl (s0 k a0) fun _=>rfl
end
theorem eq (k:Nat) (a0:List Int):rb (E k) Tryz.f21 (C k) (a0,())=f k a0:=(show _=t k (V0 k a0 k) a0 by kernel_rfl).trans (by rw [e0];rfl)
theorem ctr (k:Nat):Cp 21 (C k):=LH rfl rfl rfl [] (by kernel_rfl) Tryz.func21 (by kernel_rfl) rfl fun ⟨a0,_⟩ r h=>(eq k a0).trans h
end ft
namespace eZ
def C (k:Nat):Cn:=⟨[.io false d8],[(.int .i64)],true,true,fun x=>f k x.1⟩
def E (k:Nat):dO:=en [] [] 1 [] k
theorem eq (k:Nat) (a0:Ty.d d8):rn (E k) Tryz.f59 (C k) (a0,())=f k a0:=by kernel_rfl
theorem ctr (k:Nat):Cp 59 (C k):=rc rfl [] (by kernel_rfl) Tryz.func59 (by kernel_rfl) rfl fun ⟨a0,_⟩ r h=>(eq k a0).trans h
end eZ
namespace aa
def C (k:Nat):Cn:=⟨[.io false d8,.val (.int .i64)],[(.int .i64)],true,true,fun x=>f k x.1 x.2.1⟩
def D (k:Nat):List Ce:=[q (eZ.ctr k)]
def E (k:Nat):dO:=en (D k) [] 1 [] k
theorem eq (k:Nat) (a0:Ty.d d8) (a1:Int):rn (E k) Tryz.f23 (C k) (a0,a1,())=f k a0 a1:=by kernel_rfl
theorem ctr (k:Nat):Cp 23 (C k):=rc rfl (D k) (by kernel_rfl) Tryz.func23 (by kernel_rfl) rfl fun ⟨a0,a1,_⟩ r h=>(eq k a0 a1).trans h
end aa
namespace aM
def C (k:Nat):Cn:=⟨[.io false d8,.val (.slice (.int .i64))],[(.int .i64)],true,true,fun x=>f k x.1 x.2.1⟩
def D (k:Nat):List Ce:=[q (aa.ctr k)]
def E (k:Nat):dO:=en (D k) [] 1 [] k
theorem eq (k:Nat) (a0:Ty.d d8) (a1:List Int):rn (E k) Tryz.f24 (C k) (a0,a1,())=f k a0 a1:=by kernel_rfl
theorem ctr (k:Nat):Cp 24 (C k):=rc rfl (D k) (by kernel_rfl) Tryz.func24 (by kernel_rfl) rfl fun ⟨a0,a1,_⟩ r h=>(eq k a0 a1).trans h
end aM
namespace cK
def C (k:Nat):Cn:=⟨[.io false d8,.val (.slice .str)],[.str],true,true,fun x=>f k x.1 x.2.1⟩
def D (k:Nat):List Ce:=[q (aa.ctr k)]
def E (k:Nat):dO:=en (D k) [] 1 [] k
theorem eq (k:Nat) (a0:Ty.d d8) (a1:List ByteArray):rn (E k) Tryz.f144 (C k) (a0,a1,())=f k a0 a1:=by kernel_rfl
theorem ctr (k:Nat):Cp 144 (C k):=rc rfl (D k) (by kernel_rfl) Tryz.func144 (by kernel_rfl) rfl fun ⟨a0,a1,_⟩ r h=>(eq k a0 a1).trans h
end cK
namespace iG
def C (k:Nat):Cn:=⟨[.io false d8],[.str],true,true,fun x=>f k x.1⟩
def D (k:Nat):List Ce:=[q (cK.ctr k)]
def E (k:Nat):dO:=en (D k) [] 1 [] k
theorem eq (k:Nat) (a0:Ty.d d8):rn (E k) Tryz.f142 (C k) (a0,())=f k a0:=by kernel_rfl
theorem ctr (k:Nat):Cp 142 (C k):=rc rfl (D k) (by kernel_rfl) Tryz.func142 (by kernel_rfl) rfl fun ⟨a0,_⟩ r h=>(eq k a0).trans h
end iG
namespace eV
def C (k:Nat):Cn:=⟨[.io false d8,.val (.int .i64)],[.str],true,true,fun x=>f k x.1 x.2.1⟩
def D (k:Nat):List Ce:=[q (aa.ctr k),q (eZ.ctr k)]
def E (k:Nat):dO:=en (D k) [(4,[0,5,6,7])] 1 [] k
section
variable (k:Nat) (a0:Ty.d d8) (a1:Int)
def K0:Ex→St→Rs:=cR (E k) (eK (E k) Tryz.f143 (C k) (a0,a1,())) [.blk 0,.code (at_ (bt 4 15) (body Tryz.f143))]
def V0 (n0:Nat):T0:=fun x0 x1 x2 x3 x4 x5=>ao (bo (E k) (at_ (bt 7 23) (body Tryz.f143))) (ak 1 [0,5,6,7]) (K0 k a0 a1) n0 (mk 38 2 [(0,.ptr 0 0 0),(5,.ref 1),(6,.int .i64 x0),(7,.int .i64 x1)] [(0,.box [.sl true (.int .u8) x2,.int .i64 x3,.int .i64 x4]),(1,.own false (.int .u8) x5)])
theorem s0 (n0:Nat):V0 k a0 a1 (n0+1)=b0 k (V0 k a0 a1 n0):=by kernel_rfl
theorem e0:V0 k a0 a1=l0 k:=aY rfl (s0 k a0 a1) fun _=>rfl
end
theorem eq (k:Nat) (a0:Ty.d d8) (a1:Int):rn (E k) Tryz.f143 (C k) (a0,a1,())=f k a0 a1:=(show _=t k (V0 k a0 a1 k) a0 a1 by kernel_rfl).trans (by rw [e0];rfl)
theorem ctr (k:Nat):Cp 143 (C k):=rc rfl (D k) (by kernel_rfl) Tryz.func143 (by kernel_rfl) rfl fun ⟨a0,a1,_⟩ r h=>(eq k a0 a1).trans h
end eV
namespace ia
def C (k:Nat):Cn:=⟨[.io false d8],[bg],true,true,fun x=>f k x.1⟩
def D (k:Nat):List Ce:=[q (aM.ctr k),q (aa.ctr k),q (iG.ctr k),q (cK.ctr k),q (eV.ctr k)]
def E (k:Nat):dO:=en (D k) [] 1 [] k
theorem eq (k:Nat) (a0:Ty.d d8):rn (E k) Tryz.f101 (C k) (a0,())=f k a0:=by kernel_rfl
theorem ctr (k:Nat):Cp 101 (C k):=rc rfl (D k) (by kernel_rfl) Tryz.func101 (by kernel_rfl) rfl fun ⟨a0,_⟩ r h=>(eq k a0).trans h
end ia
namespace aS
def C (k:Nat):Cn:=⟨[.val (.int .i64),.val (.int .i64),.val (.int .i64)],[.bool],true,false,fun x=>f k x.1 x.2.1 x.2.2.1⟩
def E (k:Nat):dO:=en [] [] 0 [] k
theorem eq (k:Nat) (a0:Int) (a1:Int) (a2:Int):rn (E k) Tryz.f27 (C k) (a0,a1,a2,())=f k a0 a1 a2:=by kernel_rfl
theorem ctr (k:Nat):Cp 27 (C k):=rc rfl [] (by kernel_rfl) Tryz.func27 (by kernel_rfl) rfl fun ⟨a0,a1,a2,_⟩ r h=>(eq k a0 a1 a2).trans h
end aS
namespace cG
def C (k:Nat):Cn:=⟨[.io false d8,.val (.int .i64)],[.bool],true,true,fun x=>f k x.1 x.2.1⟩
def D (k:Nat):List Ce:=[q (aa.ctr k)]
def E (k:Nat):dO:=en (D k) [] 1 [] k
theorem eq (k:Nat) (a0:Ty.d d8) (a1:Int):rn (E k) Tryz.f25 (C k) (a0,a1,())=f k a0 a1:=by kernel_rfl
theorem ctr (k:Nat):Cp 25 (C k):=rc rfl (D k) (by kernel_rfl) Tryz.func25 (by kernel_rfl) rfl fun ⟨a0,a1,_⟩ r h=>(eq k a0 a1).trans h
end cG
namespace dx
def C (k:Nat):Cn:=⟨[.io false d8,.val (.int .i64)],[(.slice bg)],true,true,fun x=>f k x.1 x.2.1⟩
def D (k:Nat):List Ce:=[q (aa.ctr k),q (ia.ctr k),q (aS.ctr k),q (cG.ctr k)]
def E (k:Nat):dO:=en (D k) [(4,[0,5,6,7])] 1 [] k
section
variable (k:Nat) (a0:Ty.d d8) (a1:Int)
def K0:Ex→St→Rs:=cR (E k) (eK (E k) Tryz.f58 (C k) (a0,a1,())) [.blk 0,.code (at_ (bt 4 15) (body Tryz.f58))]
def V0 (n0:Nat):T0:=fun x0 x1 x2 x3 x4 x5=>ao (bo (E k) (at_ (bt 7 23) (body Tryz.f58))) (ak 1 [0,5,6,7]) (K0 k a0 a1) n0 (mk 85 3 [(0,.ptr 0 0 0),(5,.ref 1),(6,.ref 2),(7,.int .i64 x0)] [(0,.box [.sl true (.int .u8) x1,.int .i64 x2,.int .i64 x3]),(1,.own false bg x4),(2,.own false .bool x5)])
theorem s0 (n0:Nat):V0 k a0 a1 (n0+1)=b0 k (V0 k a0 a1 n0):=by kernel_rfl
theorem e0:V0 k a0 a1=l0 k:=aY rfl (s0 k a0 a1) fun _=>rfl
end
theorem eq (k:Nat) (a0:Ty.d d8) (a1:Int):rn (E k) Tryz.f58 (C k) (a0,a1,())=f k a0 a1:=(show _=t k (V0 k a0 a1 k) a0 a1 by kernel_rfl).trans (by rw [e0];rfl)
theorem ctr (k:Nat):Cp 58 (C k):=rc rfl (D k) (by kernel_rfl) Tryz.func58 (by kernel_rfl) rfl fun ⟨a0,a1,_⟩ r h=>(eq k a0 a1).trans h
end dx
namespace gY
def C (k:Nat):Cn:=⟨[.io false d8,.val (.int .i64)],[nU],true,true,fun x=>f k x.1 x.2.1⟩
def D (k:Nat):List Ce:=[q (dx.ctr k),q (aa.ctr k)]
def E (k:Nat):dO:=en (D k) [] 1 [] k
theorem eq (k:Nat) (a0:Ty.d d8) (a1:Int):rn (E k) Tryz.f22 (C k) (a0,a1,())=f k a0 a1:=by kernel_rfl
theorem ctr (k:Nat):Cp 22 (C k):=rc rfl (D k) (by kernel_rfl) Tryz.func22 (by kernel_rfl) rfl fun ⟨a0,a1,_⟩ r h=>(eq k a0 a1).trans h
end gY
namespace gw
def C (k:Nat):Cn:=⟨[.val (.slice (.int .u8))],[nU],true,false,fun x=>f k x.1⟩
def D (k:Nat):List Ce:=[q (ft.ctr k),q (gY.ctr k),q (aa.ctr k),q (cG.ctr k),q (aM.ctr k)]
def E (k:Nat):dO:=en (D k) [] 0 [] k
theorem eq (k:Nat) (a0:List Int):rn (E k) Tryz.f6 (C k) (a0,())=f k a0:=by kernel_rfl
theorem ctr (k:Nat):Cp 6 (C k):=rc rfl (D k) (by kernel_rfl) Tryz.func6 (by kernel_rfl) rfl fun ⟨a0,_⟩ r h=>(eq k a0).trans h
end gw
namespace iZ
def C (k:Nat):Cn:=⟨[.val (.int .i64)],[aA],true,false,fun x=>f k x.1⟩
def D (k:Nat):List Ce:=[q (aS.ctr k)]
def E (k:Nat):dO:=en (D k) [] 0 [] k
theorem eq (k:Nat) (a0:Int):rn (E k) Tryz.f8 (C k) (a0,())=f k a0:=by kernel_rfl
theorem ctr (k:Nat):Cp 8 (C k):=rc rfl (D k) (by kernel_rfl) Tryz.func8 (by kernel_rfl) rfl fun ⟨a0,_⟩ r h=>(eq k a0).trans h
end iZ
namespace dW
def C (k:Nat):Cn:=⟨[.val aA],[(.int .i64)],true,false,fun x=>f k x.1⟩
def E (k:Nat):dO:=en [] [(3,[1,3,4])] 0 [] k
section
variable (k:Nat) (a0:Ty.d aA)
def K0:Ex→St→Rs:=cR (E k) (eK (E k) Tryz.f74 (C k) (a0,())) [.blk 0,.code (at_ (bt 3 7) (body Tryz.f74))]
def V0 (n0:Nat):T0:=fun x0 x1 x2 x3 x4 x5=>ao (bo (E k) (at_ (bt 6 11) (body Tryz.f74))) (ak 0 [1,3,4]) (K0 k a0) n0 (mk 22 1 [(1,.ptr 0 0 0),(3,.int .i64 x0),(4,.int .i64 x1)] [(0,.box [.sl true aL x2,.int .i64 x3,.int .i64 x4,.bool x5])])
theorem s0 (n0:Nat):V0 k a0 (n0+1)=b0 k (V0 k a0 n0):=by kernel_rfl
theorem e0:V0 k a0=l0 k:=aY rfl (s0 k a0) fun _=>rfl
end
theorem eq (k:Nat) (a0:Ty.d aA):rn (E k) Tryz.f74 (C k) (a0,())=f k a0:=(show _=t k (V0 k a0 k) a0 by kernel_rfl).trans (by rw [e0];rfl)
theorem ctr (k:Nat):Cp 74 (C k):=rc rfl [] (by kernel_rfl) Tryz.func74 (by kernel_rfl) rfl fun ⟨a0,_⟩ r h=>(eq k a0).trans h
end dW
namespace dY
def C (k:Nat):Cn:=⟨[.val .str],[.bool],true,false,fun x=>f k x.1⟩
def D (k:Nat):List Ce:=[q (aS.ctr k)]
def E (k:Nat):dO:=en (D k) [(2,[0,3])] 0 [] k
section
variable (k:Nat) (a0:ByteArray)
def K0:Ex→St→Rs:=cR (E k) (eK (E k) Tryz.f75 (C k) (a0,())) [.blk 0,.code (at_ (bt 2 3) (body Tryz.f75))]
def V0 (n0:Nat):T0:=fun x0 x1=>ao (bo (E k) (at_ (bt 5 5) (body Tryz.f75))) (ak 0 [0,3]) (K0 k a0) n0 (mk 36 0 [(0,.str x0),(3,.int .i64 x1)] [])
theorem s0 (n0:Nat):V0 k a0 (n0+1)=b0 k (V0 k a0 n0):=by kernel_rfl
theorem e0:V0 k a0=l0 k:=aY rfl (s0 k a0) fun _=>rfl
end
theorem eq (k:Nat) (a0:ByteArray):rn (E k) Tryz.f75 (C k) (a0,())=f k a0:=(show _=t k (V0 k a0 k) a0 by kernel_rfl).trans (by rw [e0];rfl)
theorem ctr (k:Nat):Cp 75 (C k):=rc rfl (D k) (by kernel_rfl) Tryz.func75 (by kernel_rfl) rfl fun ⟨a0,_⟩ r h=>(eq k a0).trans h
end dY
namespace bE
def C (k:Nat):Cn:=⟨[.val aA],[.bool],true,false,fun x=>f k x.1⟩
def D (k:Nat):List Ce:=[q (aS.ctr k),q (dW.ctr k),q (dY.ctr k)]
def E (k:Nat):dO:=en (D k) [(4,[1,3])] 0 [] k
section
variable (k:Nat) (a0:Ty.d aA)
def K0:Ex→St→Rs:=cR (E k) (eK (E k) Tryz.f29 (C k) (a0,())) [.blk 0,.code (at_ (bt 3 7) (body Tryz.f29))]
def V0 (n0:Nat):T0:=fun x0 x1 x2 x3 x4=>ao (bo (E k) (at_ (bt 6 11) (body Tryz.f29))) (ak 0 [1,3]) (K0 k a0) n0 (mk 79 1 [(1,.ptr 0 0 0),(3,.int .i64 x0)] [(0,.box [.sl true aL x1,.int .i64 x2,.int .i64 x3,.bool x4])])
theorem s0 (n0:Nat):V0 k a0 (n0+1)=b0 k (V0 k a0 n0):=by kernel_rfl
theorem e0:V0 k a0=l0 k:=aY rfl (s0 k a0) fun _=>rfl
end
theorem eq (k:Nat) (a0:Ty.d aA):rn (E k) Tryz.f29 (C k) (a0,())=f k a0:=(show _=t k (V0 k a0 k) a0 by kernel_rfl).trans (by rw [e0];rfl)
theorem ctr (k:Nat):Cp 29 (C k):=rc rfl (D k) (by kernel_rfl) Tryz.func29 (by kernel_rfl) rfl fun ⟨a0,_⟩ r h=>(eq k a0).trans h
end bE
namespace bw
def C (k:Nat):Cn:=⟨[.val aA],[aA],true,false,fun x=>f k x.1⟩
def E (k:Nat):dO:=en [] [] 0 [] k
theorem eq (k:Nat) (a0:Ty.d aA):rn (E k) Tryz.f60 (C k) (a0,())=f k a0:=by kernel_rfl
theorem ctr (k:Nat):Cp 60 (C k):=rc rfl [] (by kernel_rfl) Tryz.func60 (by kernel_rfl) rfl fun ⟨a0,_⟩ r h=>(eq k a0).trans h
end bw
namespace b_
def C (k:Nat):Cn:=⟨[.val aA,.val .str],[(.int .i64)],true,false,fun x=>f k x.1 x.2.1⟩
def E (k:Nat):dO:=en [] [(2,[1,2,5])] 0 [] k
section
variable (k:Nat) (a0:Ty.d aA) (a1:ByteArray)
def K0:Ex→St→Rs:=cR (E k) (eK (E k) Tryz.f95 (C k) (a0,a1,())) [.blk 0,.code (at_ (bt 2 3) (body Tryz.f95))]
def V0 (n0:Nat):T0:=fun x0 x1 x2 x3 x4 x5=>ao (bo (E k) (at_ (bt 5 5) (body Tryz.f95))) (ak 0 [1,2,5]) (K0 k a0 a1) n0 (mk 22 1 [(1,.str x0),(2,.ptr 0 0 0),(5,.int .i64 x1)] [(0,.box [.sl true aL x2,.int .i64 x3,.int .i64 x4,.bool x5])])
theorem s0 (n0:Nat):V0 k a0 a1 (n0+1)=b0 k (V0 k a0 a1 n0):=by kernel_rfl
theorem e0:V0 k a0 a1=l0 k:=aY rfl (s0 k a0 a1) fun _=>rfl
end
theorem eq (k:Nat) (a0:Ty.d aA) (a1:ByteArray):rn (E k) Tryz.f95 (C k) (a0,a1,())=f k a0 a1:=(show _=t k (V0 k a0 a1 k) a0 a1 by kernel_rfl).trans (by rw [e0];rfl)
theorem ctr (k:Nat):Cp 95 (C k):=rc rfl [] (by kernel_rfl) Tryz.func95 (by kernel_rfl) rfl fun ⟨a0,a1,_⟩ r h=>(eq k a0 a1).trans h
end b_
namespace ba
def C (k:Nat):Cn:=⟨[.val aA,.val .str],[.str,.bool],true,false,fun x=>f k x.1 x.2.1⟩
def D (k:Nat):List Ce:=[q (bE.ctr k),q (b_.ctr k)]
def E (k:Nat):dO:=en (D k) [] 0 [] k
theorem eq (k:Nat) (a0:Ty.d aA) (a1:ByteArray):rn (E k) Tryz.f53 (C k) (a0,a1,())=f k a0 a1:=by kernel_rfl
theorem ctr (k:Nat):Cp 53 (C k):=rc rfl (D k) (by kernel_rfl) Tryz.func53 (by kernel_rfl) rfl fun ⟨a0,a1,_⟩ r h=>(eq k a0 a1).trans h
end ba
namespace dV
def C (k:Nat):Cn:=⟨[.val (.int .i64)],[.str],true,false,fun x=>f k x.1⟩
def E (k:Nat):dO:=en [] [(5,[0,3,4])] 0 [] k
section
variable (k:Nat) (a0:Int)
def K0:Ex→St→Rs:=cR (E k) (eK (E k) Tryz.f96 (C k) (a0,())) [.blk 0,.code (at_ (bt 5 31) (body Tryz.f96))]
def V0 (n0:Nat):T0:=fun x0 x1 x2=>ao (bo (E k) (at_ (bt 7 15) (body Tryz.f96))) (ak 0 [0,3,4]) (K0 k a0) n0 (mk 31 0 [(0,.int .i64 x0),(3,.str x1),(4,.bool x2)] [])
theorem s0 (n0:Nat):V0 k a0 (n0+1)=b0 k (V0 k a0 n0):=by kernel_rfl
theorem e0:V0 k a0=l0 k:=aY rfl (s0 k a0) fun _=>rfl
end
theorem eq (k:Nat) (a0:Int):rn (E k) Tryz.f96 (C k) (a0,())=f k a0:=(show _=t k (V0 k a0 k) a0 by kernel_rfl).trans (by rw [e0];rfl)
theorem ctr (k:Nat):Cp 96 (C k):=rc rfl [] (by kernel_rfl) Tryz.func96 (by kernel_rfl) rfl fun ⟨a0,_⟩ r h=>(eq k a0).trans h
end dV
namespace eM
def C (k:Nat):Cn:=⟨[.val .str],[(.int .i64),.bool],true,false,fun x=>f k x.1⟩
def D (k:Nat):List Ce:=[q (dV.ctr k)]
def E (k:Nat):dO:=en (D k) [(4,[0,4,5,6])] 0 [] k
section
variable (k:Nat) (a0:ByteArray)
def K0:Ex→St→Rs:=cR (E k) (eK (E k) Tryz.f168 (C k) (a0,())) [.blk 0,.code (at_ (bt 4 15) (body Tryz.f168))]
def V0 (n0:Nat):T0:=fun x0 x1 x2 x3=>ao (bo (E k) (at_ (bt 7 23) (body Tryz.f168))) (ak 0 [0,4,5,6]) (K0 k a0) n0 (mk 61 0 [(0,.str x0),(4,.int .i64 x1),(5,.int .i64 x2),(6,.int .i64 x3)] [])
theorem s0 (n0:Nat):V0 k a0 (n0+1)=b0 k (V0 k a0 n0):=by kernel_rfl
theorem e0:V0 k a0=l0 k:=aY rfl (s0 k a0) fun _=>rfl
end
theorem eq (k:Nat) (a0:ByteArray):rn (E k) Tryz.f168 (C k) (a0,())=f k a0:=(show _=t k (V0 k a0 k) a0 by kernel_rfl).trans (by rw [e0];rfl)
theorem ctr (k:Nat):Cp 168 (C k):=rc rfl (D k) (by kernel_rfl) Tryz.func168 (by kernel_rfl) rfl fun ⟨a0,_⟩ r h=>(eq k a0).trans h
end eM
namespace aU
def C (k:Nat):Cn:=⟨[.val (.int .i64)],[.str],true,false,fun x=>f k x.1⟩
def D (k:Nat):List Ce:=[q (aS.ctr k),q (dV.ctr k)]
def E (k:Nat):dO:=en (D k) [] 0 [] k
theorem eq (k:Nat) (a0:Int):rn (E k) Tryz.f54 (C k) (a0,())=f k a0:=by kernel_rfl
theorem ctr (k:Nat):Cp 54 (C k):=rc rfl (D k) (by kernel_rfl) Tryz.func54 (by kernel_rfl) rfl fun ⟨a0,_⟩ r h=>(eq k a0).trans h
end aU
namespace cX
def C (k:Nat):Cn:=⟨[.val (.int .i64)],[.str],true,false,fun x=>f k x.1⟩
def D (k:Nat):List Ce:=[q (aS.ctr k),q (dV.ctr k)]
def E (k:Nat):dO:=en (D k) [] 0 [] k
theorem eq (k:Nat) (a0:Int):rn (E k) Tryz.f66 (C k) (a0,())=f k a0:=by kernel_rfl
theorem ctr (k:Nat):Cp 66 (C k):=rc rfl (D k) (by kernel_rfl) Tryz.func66 (by kernel_rfl) rfl fun ⟨a0,_⟩ r h=>(eq k a0).trans h
end cX
namespace gb
def C (k:Nat):Cn:=⟨[.val .str],[(.int .i64),.bool],true,false,fun x=>f k x.1⟩
def D (k:Nat):List Ce:=[q (eM.ctr k),q (aU.ctr k),q (cX.ctr k)]
def E (k:Nat):dO:=en (D k) [(2,[0,4])] 0 [] k
section
variable (k:Nat) (a0:ByteArray)
def K0:Ex→St→Rs:=cR (E k) (eK (E k) Tryz.f155 (C k) (a0,())) [.blk 0,.code (at_ (bt 2 3) (body Tryz.f155))]
def V0 (n0:Nat):T0:=fun x0 x1=>ao (bo (E k) (at_ (bt 5 5) (body Tryz.f155))) (ak 0 [0,4]) (K0 k a0) n0 (mk 40 0 [(0,.str x0),(4,.int .i64 x1)] [])
theorem s0 (n0:Nat):V0 k a0 (n0+1)=b0 k (V0 k a0 n0):=by kernel_rfl
theorem e0:V0 k a0=l0 k:=aY rfl (s0 k a0) fun _=>rfl
end
theorem eq (k:Nat) (a0:ByteArray):rn (E k) Tryz.f155 (C k) (a0,())=f k a0:=(show _=t k (V0 k a0 k) a0 by kernel_rfl).trans (by rw [e0];rfl)
theorem ctr (k:Nat):Cp 155 (C k):=rc rfl (D k) (by kernel_rfl) Tryz.func155 (by kernel_rfl) rfl fun ⟨a0,_⟩ r h=>(eq k a0).trans h
end gb
namespace bL
def C (k:Nat):Cn:=⟨[.val aA,.val cY],[(.slice .str)],true,false,fun x=>f k x.1 x.2.1⟩
def D (k:Nat):List Ce:=[q (bE.ctr k),q (gb.ctr k)]
def E (k:Nat):dO:=en (D k) [(5,[2,3,5,6]),(10,[2,3,5,6,7,8,9,10])] 0 [] k
section
variable (k:Nat) (a0:Ty.d aA) (a1:Ty.d cY)
def K0:Ex→St→Rs:=cR (E k) (eK (E k) Tryz.f116 (C k) (a0,a1,())) [.blk 0,.code (at_ (bt 4 15) (body Tryz.f116))]
def B0 (n0:Nat):Ex→St→Rs:=KO (E k) (at_ (bt 7 23) (body Tryz.f116)) 0 [2,3,5,6] (K0 k a0 a1) n0
def K1 (n0:Nat):Ex→St→Rs:=cR (E k) (B0 k a0 a1 n0) [.blk 2,.code (at_ (bt 13 7319) (body Tryz.f116)),.blk 1,.code (at_ (bt 9 407) (body Tryz.f116))]
def V0 (n0:Nat):T0:=fun x0 x1 x2 x3 x4 x5 x6 x7=>ao (bo (E k) (at_ (bt 7 23) (body Tryz.f116))) (ak 0 [2,3,5,6]) (K0 k a0 a1) n0 (mk 74 3 [(2,.ptr 0 0 0),(3,.ptr 1 0 0),(5,.ref 2),(6,.int .i64 x0)] [(0,.box [.sl true aL x1,.int .i64 x2,.int .i64 x3,.bool x4]),(1,.box [.int .i64 x5,.sl true (.int .i64) x6]),(2,.own false .str x7)])
def V1 (n0 n1:Nat):T1:=fun x0 x1 x2 x3 x4 x5 x6 x7 x8 x9 x10 x11=>ao (bo (E k) (at_ (bt 16 11415) (body Tryz.f116))) (ak 0 [2,3,5,6,7,8,9,10]) (K1 k a0 a1 n0) n1 (mk 74 3 [(2,.ptr 0 0 0),(3,.ptr 1 0 0),(5,.ref 2),(6,.int .i64 x0),(7,.int .i64 x1),(8,.bool x2),(9,.bool x3),(10,.int .i64 x4)] [(0,.box [.sl true aL x5,.int .i64 x6,.int .i64 x7,.bool x8]),(1,.box [.int .i64 x9,.sl true (.int .i64) x10]),(2,.own false .str x11)])
theorem s0 (n0:Nat):V0 k a0 a1 (n0+1)=b0 k (V1 k a0 a1 n0 k) (V0 k a0 a1 n0):=by kernel_rfl
theorem s1 (n0 n1:Nat):V1 k a0 a1 n0 (n1+1)=b1 k (V0 k a0 a1 n0) (V1 k a0 a1 n0 n1):=by kernel_rfl
theorem e1 (n0:Nat):V1 k a0 a1 n0=l1 k (V0 k a0 a1 n0):=aY rfl (s1 k a0 a1 n0) fun _=>rfl
theorem e0 (n0:Nat):V0 k a0 a1 n0=l0 k n0:=by
 induction n0 with
 | zero=>rfl
 | succ n0 ih =>
  have h:V0 k a0 a1 (n0+1)=b0 k (V1 k a0 a1 n0 k) (V0 k a0 a1 n0):=s0 k a0 a1 n0
  rw [h,e1,ih]
  rfl
end
theorem eq (k:Nat) (a0:Ty.d aA) (a1:Ty.d cY):rn (E k) Tryz.f116 (C k) (a0,a1,())=f k a0 a1:=(show _=t k (V0 k a0 a1 k) a0 a1 by kernel_rfl).trans (by rw [e0];rfl)
theorem ctr (k:Nat):Cp 116 (C k):=rc rfl (D k) (by kernel_rfl) Tryz.func116 (by kernel_rfl) rfl fun ⟨a0,a1,_⟩ r h=>(eq k a0 a1).trans h
end bL
namespace cr
def C (k:Nat):Cn:=⟨[.val aA],[aA,(.int .i64)],true,false,fun x=>f k x.1⟩
def D (k:Nat):List Ce:=[q (bw.ctr k),q (bE.ctr k)]
def E (k:Nat):dO:=en (D k) [] 0 [] k
theorem eq (k:Nat) (a0:Ty.d aA):rn (E k) Tryz.f106 (C k) (a0,())=f k a0:=by kernel_rfl
theorem ctr (k:Nat):Cp 106 (C k):=rc rfl (D k) (by kernel_rfl) Tryz.func106 (by kernel_rfl) rfl fun ⟨a0,_⟩ r h=>(eq k a0).trans h
end cr
namespace eQ
def C (k:Nat):Cn:=⟨[.val (.slice aL),.val (.int .i64)],[(.slice aL)],true,false,fun x=>f k x.1 x.2.1⟩
def E (k:Nat):dO:=en [] [] 0 [] k
theorem eq (k:Nat) (a0:List (Ty.d aL)) (a1:Int):rn (E k) Tryz.f156 (C k) (a0,a1,())=f k a0 a1:=by kernel_rfl
theorem ctr (k:Nat):Cp 156 (C k):=rc rfl [] (by kernel_rfl) Tryz.func156 (by kernel_rfl) rfl fun ⟨a0,a1,_⟩ r h=>(eq k a0 a1).trans h
end eQ
namespace g7
def C (k:Nat):Cn:=⟨[.val aA,.val .str],[aA,(.int .i64)],true,false,fun x=>f k x.1 x.2.1⟩
def D (k:Nat):List Ce:=[q (cr.ctr k),q (b_.ctr k),q (eQ.ctr k)]
def E (k:Nat):dO:=en (D k) [] 0 [] k
theorem eq (k:Nat) (a0:Ty.d aA) (a1:ByteArray):rn (E k) Tryz.f117 (C k) (a0,a1,())=f k a0 a1:=by kernel_rfl
theorem ctr (k:Nat):Cp 117 (C k):=rc rfl (D k) (by kernel_rfl) Tryz.func117 (by kernel_rfl) rfl fun ⟨a0,a1,_⟩ r h=>(eq k a0 a1).trans h
end g7
namespace aV
def C (k:Nat):Cn:=⟨[.val (.int .i64)],[(.int .i64)],true,false,fun x=>f k x.1⟩
def E (k:Nat):dO:=en [] [] 0 [] k
theorem eq (k:Nat) (a0:Int):rn (E k) Tryz.f64 (C k) (a0,())=f k a0:=by kernel_rfl
theorem ctr (k:Nat):Cp 64 (C k):=rc rfl [] (by kernel_rfl) Tryz.func64 (by kernel_rfl) rfl fun ⟨a0,_⟩ r h=>(eq k a0).trans h
end aV
namespace d7
def C (k:Nat):Cn:=⟨[.val (.slice aL),.val aL],[(.slice aL)],true,false,fun x=>f k x.1 x.2.1⟩
def E (k:Nat):dO:=en [] [(4,[0,3,5,6,7])] 0 [] k
section
variable (k:Nat) (a0:List (Ty.d aL)) (a1:Ty.d aL)
def K0:Ex→St→Rs:=cR (E k) (eK (E k) Tryz.f145 (C k) (a0,a1,())) [.blk 0,.code (at_ (bt 4 15) (body Tryz.f145))]
def V0 (n0:Nat):T0:=fun x0 x1 x2 x3 x4 x5 x6=>ao (bo (E k) (at_ (bt 7 23) (body Tryz.f145))) (ak 0 [0,3,5,6,7]) (K0 k a0 a1) n0 (mk 45 2 [(0,.sl true aL x0),(3,.ptr 0 0 0),(5,.ref 1),(6,.bool x1),(7,.int .i64 x2)] [(0,.box [.str x3,.str x4,.int .i64 x5]),(1,.own false aL x6)])
theorem s0 (n0:Nat):V0 k a0 a1 (n0+1)=b0 k (V0 k a0 a1 n0):=by kernel_rfl
theorem e0:V0 k a0 a1=l0 k:=aY rfl (s0 k a0 a1) fun _=>rfl
end
theorem eq (k:Nat) (a0:List (Ty.d aL)) (a1:Ty.d aL):rn (E k) Tryz.f145 (C k) (a0,a1,())=f k a0 a1:=(show _=t k (V0 k a0 a1 k) a0 a1 by kernel_rfl).trans (by rw [e0];rfl)
theorem ctr (k:Nat):Cp 145 (C k):=rc rfl [] (by kernel_rfl) Tryz.func145 (by kernel_rfl) rfl fun ⟨a0,a1,_⟩ r h=>(eq k a0 a1).trans h
end d7
namespace gU
def C (k:Nat):Cn:=⟨[.val aA,.val .str],[aA,(.int .i64)],true,false,fun x=>f k x.1 x.2.1⟩
def D (k:Nat):List Ce:=[q (cr.ctr k),q (dY.ctr k),q (b_.ctr k),q (d7.ctr k)]
def E (k:Nat):dO:=en (D k) [] 0 [] k
theorem eq (k:Nat) (a0:Ty.d aA) (a1:ByteArray):rn (E k) Tryz.f102 (C k) (a0,a1,())=f k a0 a1:=by kernel_rfl
theorem ctr (k:Nat):Cp 102 (C k):=rc rfl (D k) (by kernel_rfl) Tryz.func102 (by kernel_rfl) rfl fun ⟨a0,a1,_⟩ r h=>(eq k a0 a1).trans h
end gU
namespace dF
def C (k:Nat):Cn:=⟨[.val cY],[.bool],true,false,fun x=>f k x.1⟩
def D (k:Nat):List Ce:=[q (aS.ctr k)]
def E (k:Nat):dO:=en (D k) [(4,[1,3])] 0 [] k
section
variable (k:Nat) (a0:Ty.d cY)
def K0:Ex→St→Rs:=cR (E k) (eK (E k) Tryz.f51 (C k) (a0,())) [.blk 0,.code (at_ (bt 3 7) (body Tryz.f51))]
def V0 (n0:Nat):T0:=fun x0 x1 x2=>ao (bo (E k) (at_ (bt 6 11) (body Tryz.f51))) (ak 0 [1,3]) (K0 k a0) n0 (mk 50 1 [(1,.ptr 0 0 0),(3,.int .i64 x0)] [(0,.box [.int .i64 x1,.sl true (.int .i64) x2])])
theorem s0 (n0:Nat):V0 k a0 (n0+1)=b0 k (V0 k a0 n0):=by kernel_rfl
theorem e0:V0 k a0=l0 k:=aY rfl (s0 k a0) fun _=>rfl
end
theorem eq (k:Nat) (a0:Ty.d cY):rn (E k) Tryz.f51 (C k) (a0,())=f k a0:=(show _=t k (V0 k a0 k) a0 by kernel_rfl).trans (by rw [e0];rfl)
theorem ctr (k:Nat):Cp 51 (C k):=rc rfl (D k) (by kernel_rfl) Tryz.func51 (by kernel_rfl) rfl fun ⟨a0,_⟩ r h=>(eq k a0).trans h
end dF
namespace bW
def C (k:Nat):Cn:=⟨[.val (.int .i64)],[.str],true,false,fun x=>f k x.1⟩
def D (k:Nat):List Ce:=[q (aS.ctr k)]
def E (k:Nat):dO:=en (D k) [(4,[0,3])] 0 [] k
section
variable (k:Nat) (a0:Int)
def K0:Ex→St→Rs:=cR (E k) (eK (E k) Tryz.f147 (C k) (a0,())) [.blk 0,.code (at_ (bt 4 15) (body Tryz.f147))]
def V0 (n0:Nat):T0:=fun x0 x1=>ao (bo (E k) (at_ (bt 6 7) (body Tryz.f147))) (ak 0 [0,3]) (K0 k a0) n0 (mk 25 1 [(0,.int .i64 x0),(3,.ref 0)] [(0,.own false (.int .u8) x1)])
theorem s0 (n0:Nat):V0 k a0 (n0+1)=b0 k (V0 k a0 n0):=by kernel_rfl
theorem e0:V0 k a0=l0 k:=aY rfl (s0 k a0) fun _=>rfl
end
theorem eq (k:Nat) (a0:Int):rn (E k) Tryz.f147 (C k) (a0,())=f k a0:=(show _=t k (V0 k a0 k) a0 by kernel_rfl).trans (by rw [e0];rfl)
theorem ctr (k:Nat):Cp 147 (C k):=rc rfl (D k) (by kernel_rfl) Tryz.func147 (by kernel_rfl) rfl fun ⟨a0,_⟩ r h=>(eq k a0).trans h
end bW
namespace fa
def C (k:Nat):Cn:=⟨[.val .str],[(.int .i64)],true,false,fun x=>f k x.1⟩
def E (k:Nat):dO:=en [] [(3,[0,3,4]),(7,[0,3,4,5])] 0 [] k
section
variable (k:Nat) (a0:ByteArray)
def K0:Ex→St→Rs:=cR (E k) (eK (E k) Tryz.f150 (C k) (a0,())) [.blk 0,.code (at_ (bt 3 7) (body Tryz.f150))]
def B0 (n0:Nat):Ex→St→Rs:=KO (E k) (at_ (bt 6 11) (body Tryz.f150)) 0 [0,3,4] (K0 k a0) n0
def K1 (n0:Nat):Ex→St→Rs:=cR (E k) (B0 k a0 n0) [.blk 2,.blk 1,.code (at_ (bt 8 203) (body Tryz.f150))]
def V0 (n0:Nat):T0:=fun x0 x1 x2=>ao (bo (E k) (at_ (bt 6 11) (body Tryz.f150))) (ak 0 [0,3,4]) (K0 k a0) n0 (mk 33 0 [(0,.str x0),(3,.int .i64 x1),(4,.int .i64 x2)] [])
def V1 (n0 n1:Nat):T1:=fun x0 x1 x2 x3=>ao (bo (E k) (at_ (bt 13 1611) (body Tryz.f150))) (ak 0 [0,3,4,5]) (K1 k a0 n0) n1 (mk 33 0 [(0,.str x0),(3,.int .i64 x1),(4,.int .i64 x2),(5,.int .i64 x3)] [])
theorem s0 (n0:Nat):V0 k a0 (n0+1)=b0 k (V1 k a0 n0 k) (V0 k a0 n0):=by kernel_rfl
theorem s1 (n0 n1:Nat):V1 k a0 n0 (n1+1)=b1 k (V0 k a0 n0) (V1 k a0 n0 n1):=by kernel_rfl
theorem e1 (n0:Nat):V1 k a0 n0=l1 k (V0 k a0 n0):=aY rfl (s1 k a0 n0) fun _=>rfl
theorem e0 (n0:Nat):V0 k a0 n0=l0 k n0:=by
 induction n0 with
 | zero=>rfl
 | succ n0 ih =>
  have h:V0 k a0 (n0+1)=b0 k (V1 k a0 n0 k) (V0 k a0 n0):=s0 k a0 n0
  rw [h,e1,ih]
  rfl
end
theorem eq (k:Nat) (a0:ByteArray):rn (E k) Tryz.f150 (C k) (a0,())=f k a0:=(show _=t k (V0 k a0 k) a0 by kernel_rfl).trans (by rw [e0];rfl)
theorem ctr (k:Nat):Cp 150 (C k):=rc rfl [] (by kernel_rfl) Tryz.func150 (by kernel_rfl) rfl fun ⟨a0,_⟩ r h=>(eq k a0).trans h
end fa
namespace dN
def C (k:Nat):Cn:=⟨[.val (.int .i64),.val (.int .i64)],[.str],true,false,fun x=>f k x.1 x.2.1⟩
def D (k:Nat):List Ce:=[q (aS.ctr k)]
def E (k:Nat):dO:=en (D k) [(5,[0,1,5,6])] 0 [] k
section
variable (k:Nat) (a0:Int) (a1:Int)
def K0:Ex→St→Rs:=cR (E k) (eK (E k) Tryz.f149 (C k) (a0,a1,())) [.blk 0,.code (at_ (bt 4 15) (body Tryz.f149))]
def V0 (n0:Nat):T0:=fun x0 x1 x2 x3=>ao (bo (E k) (at_ (bt 7 23) (body Tryz.f149))) (ak 0 [0,1,5,6]) (K0 k a0 a1) n0 (mk 31 0 [(0,.int .i64 x0),(1,.int .i64 x1),(5,.str x2),(6,.int .i64 x3)] [])
theorem s0 (n0:Nat):V0 k a0 a1 (n0+1)=b0 k (V0 k a0 a1 n0):=by kernel_rfl
theorem e0:V0 k a0 a1=l0 k:=aY rfl (s0 k a0 a1) fun _=>rfl
end
theorem eq (k:Nat) (a0:Int) (a1:Int):rn (E k) Tryz.f149 (C k) (a0,a1,())=f k a0 a1:=(show _=t k (V0 k a0 a1 k) a0 a1 by kernel_rfl).trans (by rw [e0];rfl)
theorem ctr (k:Nat):Cp 149 (C k):=rc rfl (D k) (by kernel_rfl) Tryz.func149 (by kernel_rfl) rfl fun ⟨a0,a1,_⟩ r h=>(eq k a0 a1).trans h
end dN
namespace fH
def C (k:Nat):Cn:=⟨[.val .str],[.str],true,false,fun x=>f k x.1⟩
def D (k:Nat):List Ce:=[q (bW.ctr k),q (fa.ctr k),q (dN.ctr k)]
def E (k:Nat):dO:=en (D k) [] 0 [] k
theorem eq (k:Nat) (a0:ByteArray):rn (E k) Tryz.f138 (C k) (a0,())=f k a0:=by kernel_rfl
theorem ctr (k:Nat):Cp 138 (C k):=rc rfl (D k) (by kernel_rfl) Tryz.func138 (by kernel_rfl) rfl fun ⟨a0,_⟩ r h=>(eq k a0).trans h
end fH
namespace d5
def C (k:Nat):Cn:=⟨[.val cY],[.str],true,false,fun x=>f k x.1⟩
def D (k:Nat):List Ce:=[q (dF.ctr k),q (bW.ctr k),q (fH.ctr k)]
def E (k:Nat):dO:=en (D k) [(5,[1,3,4])] 0 [] k
section
variable (k:Nat) (a0:Ty.d cY)
def K0:Ex→St→Rs:=cR (E k) (eK (E k) Tryz.f105 (C k) (a0,())) [.blk 0,.code (at_ (bt 4 15) (body Tryz.f105))]
def V0 (n0:Nat):T0:=fun x0 x1 x2 x3=>ao (bo (E k) (at_ (bt 7 23) (body Tryz.f105))) (ak 0 [1,3,4]) (K0 k a0) n0 (mk 33 1 [(1,.ptr 0 0 0),(3,.str x0),(4,.int .i64 x1)] [(0,.box [.int .i64 x2,.sl true (.int .i64) x3])])
theorem s0 (n0:Nat):V0 k a0 (n0+1)=b0 k (V0 k a0 n0):=by kernel_rfl
theorem e0:V0 k a0=l0 k:=aY rfl (s0 k a0) fun _=>rfl
end
theorem eq (k:Nat) (a0:Ty.d cY):rn (E k) Tryz.f105 (C k) (a0,())=f k a0:=(show _=t k (V0 k a0 k) a0 by kernel_rfl).trans (by rw [e0];rfl)
theorem ctr (k:Nat):Cp 105 (C k):=rc rfl (D k) (by kernel_rfl) Tryz.func105 (by kernel_rfl) rfl fun ⟨a0,_⟩ r h=>(eq k a0).trans h
end d5
namespace dS
def C (k:Nat):Cn:=⟨[.val aA,.val .str],[aA,(.int .i64)],true,false,fun x=>f k x.1 x.2.1⟩
def D (k:Nat):List Ce:=[q (b_.ctr k),q (g7.ctr k),q (gU.ctr k)]
def E (k:Nat):dO:=en (D k) [] 0 [] k
theorem eq (k:Nat) (a0:Ty.d aA) (a1:ByteArray):rn (E k) Tryz.f120 (C k) (a0,a1,())=f k a0 a1:=by kernel_rfl
theorem ctr (k:Nat):Cp 120 (C k):=rc rfl (D k) (by kernel_rfl) Tryz.func120 (by kernel_rfl) rfl fun ⟨a0,a1,_⟩ r h=>(eq k a0 a1).trans h
end dS
namespace dZ
def C (k:Nat):Cn:=⟨[.val aA,.val .str,.val .str],[aA,(.int .i64)],true,false,fun x=>f k x.1 x.2.1 x.2.2.1⟩
def D (k:Nat):List Ce:=[q (cr.ctr k),q (b_.ctr k),q (dW.ctr k)]
def E (k:Nat):dO:=en (D k) [] 0 [] k
theorem eq (k:Nat) (a0:Ty.d aA) (a1:ByteArray) (a2:ByteArray):rn (E k) Tryz.f158 (C k) (a0,a1,a2,())=f k a0 a1 a2:=by kernel_rfl
theorem ctr (k:Nat):Cp 158 (C k):=rc rfl (D k) (by kernel_rfl) Tryz.func158 (by kernel_rfl) rfl fun ⟨a0,a1,a2,_⟩ r h=>(eq k a0 a1 a2).trans h
end dZ
namespace dw
def C (k:Nat):Cn:=⟨[.val aA,.val .str],[aA,(.int .i64)],true,false,fun x=>f k x.1 x.2.1⟩
def D (k:Nat):List Ce:=[q (cr.ctr k),q (b_.ctr k)]
def E (k:Nat):dO:=en (D k) [] 0 [] k
theorem eq (k:Nat) (a0:Ty.d aA) (a1:ByteArray):rn (E k) Tryz.f65 (C k) (a0,a1,())=f k a0 a1:=by kernel_rfl
theorem ctr (k:Nat):Cp 65 (C k):=rc rfl (D k) (by kernel_rfl) Tryz.func65 (by kernel_rfl) rfl fun ⟨a0,a1,_⟩ r h=>(eq k a0 a1).trans h
end dw
namespace gL
def C (k:Nat):Cn:=⟨[.val aA,.val .str,.val .str],[aA,(.int .i64)],true,false,fun x=>f k x.1 x.2.1 x.2.2.1⟩
def D (k:Nat):List Ce:=[q (dS.ctr k),q (dZ.ctr k),q (dw.ctr k)]
def E (k:Nat):dO:=en (D k) [] 0 [] k
theorem eq (k:Nat) (a0:Ty.d aA) (a1:ByteArray) (a2:ByteArray):rn (E k) Tryz.f121 (C k) (a0,a1,a2,())=f k a0 a1 a2:=by kernel_rfl
theorem ctr (k:Nat):Cp 121 (C k):=rc rfl (D k) (by kernel_rfl) Tryz.func121 (by kernel_rfl) rfl fun ⟨a0,a1,a2,_⟩ r h=>(eq k a0 a1 a2).trans h
end gL
namespace jB
def C (k:Nat):Cn:=⟨[.val aA,.val .str,.val .str],[aA,(.int .i64)],true,false,fun x=>f k x.1 x.2.1 x.2.2.1⟩
def D (k:Nat):List Ce:=[q (cr.ctr k),q (dY.ctr k),q (b_.ctr k),q (eQ.ctr k),q (d7.ctr k)]
def E (k:Nat):dO:=en (D k) [] 0 [] k
theorem eq (k:Nat) (a0:Ty.d aA) (a1:ByteArray) (a2:ByteArray):rn (E k) Tryz.f146 (C k) (a0,a1,a2,())=f k a0 a1 a2:=by kernel_rfl
theorem ctr (k:Nat):Cp 146 (C k):=rc rfl (D k) (by kernel_rfl) Tryz.func146 (by kernel_rfl) rfl fun ⟨a0,a1,a2,_⟩ r h=>(eq k a0 a1 a2).trans h
end jB
namespace eC
def C (k:Nat):Cn:=⟨[.val aA,.val cY],[aA,(.int .i64)],true,false,fun x=>f k x.1 x.2.1⟩
def D (k:Nat):List Ce:=[q (bE.ctr k),q (bw.ctr k),q (dF.ctr k),q (d5.ctr k),q (gL.ctr k),q (jB.ctr k),q (aV.ctr k)]
def E (k:Nat):dO:=en (D k) [] 0 [] k
theorem eq (k:Nat) (a0:Ty.d aA) (a1:Ty.d cY):rn (E k) Tryz.f103 (C k) (a0,a1,())=f k a0 a1:=by kernel_rfl
theorem ctr (k:Nat):Cp 103 (C k):=rc rfl (D k) (by kernel_rfl) Tryz.func103 (by kernel_rfl) rfl fun ⟨a0,a1,_⟩ r h=>(eq k a0 a1).trans h
end eC
namespace af
def C (k:Nat):Cn:=⟨[.val .str],[(.int .i64),(.int .i64)],true,false,fun x=>f k x.1⟩
def D (k:Nat):List Ce:=[q (bW.ctr k)]
def E (k:Nat):dO:=en (D k) [(2,[0,4]),(6,[0,4,5,6])] 0 [] k
section
variable (k:Nat) (a0:ByteArray)
def K0:Ex→St→Rs:=cR (E k) (eK (E k) Tryz.f104 (C k) (a0,())) [.blk 0,.code (at_ (bt 2 3) (body Tryz.f104))]
def B0 (n0:Nat):Ex→St→Rs:=KO (E k) (at_ (bt 5 5) (body Tryz.f104)) 0 [0,4] (K0 k a0) n0
def K1 (n0:Nat):Ex→St→Rs:=cR (E k) (B0 k a0 n0) [.blk 2,.code (at_ (bt 10 805) (body Tryz.f104)),.blk 1,.code (at_ (bt 7 101) (body Tryz.f104))]
def V0 (n0:Nat):T0:=fun x0 x1=>ao (bo (E k) (at_ (bt 5 5) (body Tryz.f104))) (ak 0 [0,4]) (K0 k a0) n0 (mk 39 0 [(0,.str x0),(4,.int .i64 x1)] [])
def V1 (n0 n1:Nat):T1:=fun x0 x1 x2 x3=>ao (bo (E k) (at_ (bt 13 1317) (body Tryz.f104))) (ak 0 [0,4,5,6]) (K1 k a0 n0) n1 (mk 39 0 [(0,.str x0),(4,.int .i64 x1),(5,.int .i64 x2),(6,.int .i64 x3)] [])
theorem s0 (n0:Nat):V0 k a0 (n0+1)=b0 k (V1 k a0 n0 k) (V0 k a0 n0):=by kernel_rfl
theorem s1 (n0 n1:Nat):V1 k a0 n0 (n1+1)=b1 k (V0 k a0 n0) (V1 k a0 n0 n1):=by kernel_rfl
theorem e1 (n0:Nat):V1 k a0 n0=l1 k (V0 k a0 n0):=aY rfl (s1 k a0 n0) fun _=>rfl
theorem e0 (n0:Nat):V0 k a0 n0=l0 k n0:=by
 induction n0 with
 | zero=>rfl
 | succ n0 ih =>
  have h:V0 k a0 (n0+1)=b0 k (V1 k a0 n0 k) (V0 k a0 n0):=s0 k a0 n0
  rw [h,e1,ih]
  rfl
end
theorem eq (k:Nat) (a0:ByteArray):rn (E k) Tryz.f104 (C k) (a0,())=f k a0:=(show _=t k (V0 k a0 k) a0 by kernel_rfl).trans (by rw [e0];rfl)
theorem ctr (k:Nat):Cp 104 (C k):=rc rfl (D k) (by kernel_rfl) Tryz.func104 (by kernel_rfl) rfl fun ⟨a0,_⟩ r h=>(eq k a0).trans h
end af
namespace dP
def C (k:Nat):Cn:=⟨[.val .str],[.str,(.int .i64)],true,false,fun x=>f k x.1⟩
def D (k:Nat):List Ce:=[q (af.ctr k),q (fH.ctr k)]
def E (k:Nat):dO:=en (D k) [] 0 [] k
theorem eq (k:Nat) (a0:ByteArray):rn (E k) Tryz.f97 (C k) (a0,())=f k a0:=by kernel_rfl
theorem ctr (k:Nat):Cp 97 (C k):=rc rfl (D k) (by kernel_rfl) Tryz.func97 (by kernel_rfl) rfl fun ⟨a0,_⟩ r h=>(eq k a0).trans h
end dP
namespace bH
def C (k:Nat):Cn:=⟨[.val .str],[cY,.bool],true,false,fun x=>f k x.1⟩
def D (k:Nat):List Ce:=[q (dP.ctr k),q (af.ctr k),q (d5.ctr k)]
def E (k:Nat):dO:=en (D k) [(9,[0,2,4,8,10,11,12])] 0 [] k
section
variable (k:Nat) (a0:ByteArray)
def K0:Ex→St→Rs:=cR (E k) (eK (E k) Tryz.f62 (C k) (a0,())) [.blk 0,.code (at_ (bt 8 255) (body Tryz.f62))]
def V0 (n0:Nat):T0:=fun x0 x1 x2 x3 x4 x5 x6 x7 x8=>ao (bo (E k) (at_ (bt 11 383) (body Tryz.f62))) (ak 0 [0,2,4,8,10,11,12]) (K0 k a0) n0 (mk 81 4 [(0,.str x0),(2,.ptr 0 0 0),(4,.str x1),(8,.int .i64 x2),(10,.ptr 2 0 0),(11,.int .i64 x3),(12,.int .i64 x4)] [(1,.own false (.int .i64) x5),(0,.box [.int .i64 x6,.ref 1]),(3,.own false (.int .i64) x7),(2,.box [.int .i64 x8,.ref 3])])
theorem s0 (n0:Nat):V0 k a0 (n0+1)=b0 k (V0 k a0 n0):=by kernel_rfl
theorem e0:V0 k a0=l0 k:=aY rfl (s0 k a0) fun _=>rfl
end
theorem eq (k:Nat) (a0:ByteArray):rn (E k) Tryz.f62 (C k) (a0,())=f k a0:=(show _=t k (V0 k a0 k) a0 by kernel_rfl).trans (by rw [e0];rfl)
theorem ctr (k:Nat):Cp 62 (C k):=rc rfl (D k) (by kernel_rfl) Tryz.func62 (by kernel_rfl) rfl fun ⟨a0,_⟩ r h=>(eq k a0).trans h
end bH
namespace cJ
def C (k:Nat):Cn:=⟨[.val .str],[.str,.str,.bool],true,false,fun x=>f k x.1⟩
def D (k:Nat):List Ce:=[q (af.ctr k)]
def E (k:Nat):dO:=en (D k) [] 0 [] k
theorem eq (k:Nat) (a0:ByteArray):rn (E k) Tryz.f108 (C k) (a0,())=f k a0:=by kernel_rfl
theorem ctr (k:Nat):Cp 108 (C k):=rc rfl (D k) (by kernel_rfl) Tryz.func108 (by kernel_rfl) rfl fun ⟨a0,_⟩ r h=>(eq k a0).trans h
end cJ
namespace cZ
def C (k:Nat):Cn:=⟨[.val .str],[.bool],true,false,fun x=>f k x.1⟩
def D (k:Nat):List Ce:=[q (aS.ctr k)]
def E (k:Nat):dO:=en (D k) [] 0 [] k
theorem eq (k:Nat) (a0:ByteArray):rn (E k) Tryz.f77 (C k) (a0,())=f k a0:=by kernel_rfl
theorem ctr (k:Nat):Cp 77 (C k):=rc rfl (D k) (by kernel_rfl) Tryz.func77 (by kernel_rfl) rfl fun ⟨a0,_⟩ r h=>(eq k a0).trans h
end cZ
namespace jg
def C (k:Nat):Cn:=⟨[.val b7],[.bool],true,false,fun x=>f k x.1⟩
def D (k:Nat):List Ce:=[q (aS.ctr k),q (cZ.ctr k)]
def E (k:Nat):dO:=en (D k) [] 0 [] k
theorem eq (k:Nat) (a0:Ty.d b7):rn (E k) Tryz.f167 (C k) (a0,())=f k a0:=by kernel_rfl
theorem ctr (k:Nat):Cp 167 (C k):=rc rfl (D k) (by kernel_rfl) Tryz.func167 (by kernel_rfl) rfl fun ⟨a0,_⟩ r h=>(eq k a0).trans h
end jg
namespace cC
def C (k:Nat):Cn:=⟨[.val b7],[.str],true,false,fun x=>f k x.1⟩
def D (k:Nat):List Ce:=[q (jg.ctr k),q (bW.ctr k),q (dN.ctr k)]
def E (k:Nat):dO:=en (D k) [] 0 [] k
theorem eq (k:Nat) (a0:Ty.d b7):rn (E k) Tryz.f140 (C k) (a0,())=f k a0:=by kernel_rfl
theorem ctr (k:Nat):Cp 140 (C k):=rc rfl (D k) (by kernel_rfl) Tryz.func140 (by kernel_rfl) rfl fun ⟨a0,_⟩ r h=>(eq k a0).trans h
end cC
namespace bY
def C (k:Nat):Cn:=⟨[.val .str,.val (.int .i64)],[(.int .i64),.bool],true,false,fun x=>f k x.1 x.2.1⟩
def D (k:Nat):List Ce:=[q (aS.ctr k)]
def E (k:Nat):dO:=en (D k) [(5,[0,1,6,7])] 0 [] k
section
variable (k:Nat) (a0:ByteArray) (a1:Int)
def K0:Ex→St→Rs:=cR (E k) (eK (E k) Tryz.f139 (C k) (a0,a1,())) [.blk 0,.code (at_ (bt 4 15) (body Tryz.f139))]
def V0 (n0:Nat):T0:=fun x0 x1 x2 x3=>ao (bo (E k) (at_ (bt 7 23) (body Tryz.f139))) (ak 0 [0,1,6,7]) (K0 k a0 a1) n0 (mk 30 0 [(0,.str x0),(1,.int .i64 x1),(6,.int .i64 x2),(7,.int .i64 x3)] [])
theorem s0 (n0:Nat):V0 k a0 a1 (n0+1)=b0 k (V0 k a0 a1 n0):=by kernel_rfl
theorem e0:V0 k a0 a1=l0 k:=aY rfl (s0 k a0 a1) fun _=>rfl
end
theorem eq (k:Nat) (a0:ByteArray) (a1:Int):rn (E k) Tryz.f139 (C k) (a0,a1,())=f k a0 a1:=(show _=t k (V0 k a0 a1 k) a0 a1 by kernel_rfl).trans (by rw [e0];rfl)
theorem ctr (k:Nat):Cp 139 (C k):=rc rfl (D k) (by kernel_rfl) Tryz.func139 (by kernel_rfl) rfl fun ⟨a0,a1,_⟩ r h=>(eq k a0 a1).trans h
end bY
namespace dh
def C (k:Nat):Cn:=⟨[.val .str],[b7,.bool],true,false,fun x=>f k x.1⟩
def D (k:Nat):List Ce:=[q (af.ctr k),q (cJ.ctr k),q (cC.ctr k),q (bY.ctr k)]
def E (k:Nat):dO:=en (D k) [] 0 [] k
theorem eq (k:Nat) (a0:ByteArray):rn (E k) Tryz.f98 (C k) (a0,())=f k a0:=by kernel_rfl
theorem ctr (k:Nat):Cp 98 (C k):=rc rfl (D k) (by kernel_rfl) Tryz.func98 (by kernel_rfl) rfl fun ⟨a0,_⟩ r h=>(eq k a0).trans h
end dh
namespace bS
def C (k:Nat):Cn:=⟨[.val .str],[(.slice c_),(.int .i64)],true,false,fun x=>f k x.1⟩
def D (k:Nat):List Ce:=[q (dP.ctr k),q (dh.ctr k)]
def E (k:Nat):dO:=en (D k) [(3,[0,4,5])] 0 [] k
section
variable (k:Nat) (a0:ByteArray)
def K0:Ex→St→Rs:=cR (E k) (eK (E k) Tryz.f55 (C k) (a0,())) [.blk 0,.code (at_ (bt 4 15) (body Tryz.f55))]
def V0 (n0:Nat):T0:=fun x0 x1 x2=>ao (bo (E k) (at_ (bt 6 7) (body Tryz.f55))) (ak 0 [0,4,5]) (K0 k a0) n0 (mk 47 1 [(0,.str x0),(4,.ref 0),(5,.int .i64 x1)] [(0,.own false c_ x2)])
theorem s0 (n0:Nat):V0 k a0 (n0+1)=b0 k (V0 k a0 n0):=by kernel_rfl
theorem e0:V0 k a0=l0 k:=aY rfl (s0 k a0) fun _=>rfl
end
theorem eq (k:Nat) (a0:ByteArray):rn (E k) Tryz.f55 (C k) (a0,())=f k a0:=(show _=t k (V0 k a0 k) a0 by kernel_rfl).trans (by rw [e0];rfl)
theorem ctr (k:Nat):Cp 55 (C k):=rc rfl (D k) (by kernel_rfl) Tryz.func55 (by kernel_rfl) rfl fun ⟨a0,_⟩ r h=>(eq k a0).trans h
end bS
namespace hO
def C (k:Nat):Cn:=⟨[.val aA,.val .str,.val (.int .i64)],[aA,(.int .i64)],true,false,fun x=>f k x.1 x.2.1 x.2.2.1⟩
def D (k:Nat):List Ce:=[q (cr.ctr k),q (b_.ctr k),q (aS.ctr k)]
def E (k:Nat):dO:=en (D k) [] 0 [] k
theorem eq (k:Nat) (a0:Ty.d aA) (a1:ByteArray) (a2:Int):rn (E k) Tryz.f63 (C k) (a0,a1,a2,())=f k a0 a1 a2:=by kernel_rfl
theorem ctr (k:Nat):Cp 63 (C k):=rc rfl (D k) (by kernel_rfl) Tryz.func63 (by kernel_rfl) rfl fun ⟨a0,a1,a2,_⟩ r h=>(eq k a0 a1 a2).trans h
end hO
namespace bZ
def C (k:Nat):Cn:=⟨[.val .str,.val (.int .i64),.val (.int .i64)],[(.slice (.int .i64)),(.int .i64)],true,false,fun x=>f k x.1 x.2.1 x.2.2.1⟩
def D (k:Nat):List Ce:=[q (af.ctr k)]
def E (k:Nat):dO:=en (D k) [(3,[0,1,2,8,9])] 0 [] k
section
variable (k:Nat) (a0:ByteArray) (a1:Int) (a2:Int)
def K0:Ex→St→Rs:=cR (E k) (eK (E k) Tryz.f107 (C k) (a0,a1,a2,())) [.blk 0,.code (at_ (bt 3 7) (body Tryz.f107))]
def V0 (n0:Nat):T0:=fun x0 x1 x2 x3 x4=>ao (bo (E k) (at_ (bt 6 11) (body Tryz.f107))) (ak 0 [0,1,2,8,9]) (K0 k a0 a1 a2) n0 (mk 38 1 [(0,.str x0),(1,.int .i64 x1),(2,.int .i64 x2),(8,.ref 0),(9,.int .i64 x3)] [(0,.own false (.int .i64) x4)])
theorem s0 (n0:Nat):V0 k a0 a1 a2 (n0+1)=b0 k (V0 k a0 a1 a2 n0):=by kernel_rfl
theorem e0:V0 k a0 a1 a2=l0 k:=aY rfl (s0 k a0 a1 a2) fun _=>rfl
end
theorem eq (k:Nat) (a0:ByteArray) (a1:Int) (a2:Int):rn (E k) Tryz.f107 (C k) (a0,a1,a2,())=f k a0 a1 a2:=(show _=t k (V0 k a0 a1 a2 k) a0 a1 a2 by kernel_rfl).trans (by rw [e0];rfl)
theorem ctr (k:Nat):Cp 107 (C k):=rc rfl (D k) (by kernel_rfl) Tryz.func107 (by kernel_rfl) rfl fun ⟨a0,a1,a2,_⟩ r h=>(eq k a0 a1 a2).trans h
end bZ
namespace eR
def C (k:Nat):Cn:=⟨[.val (.slice aB)],[.bool],true,false,fun x=>f k x.1⟩
def D (k:Nat):List Ce:=[q (cZ.ctr k),q (aS.ctr k)]
def E (k:Nat):dO:=en (D k) [(4,[0,3])] 0 [] k
section
variable (k:Nat) (a0:List (Ty.d aB))
def K0:Ex→St→Rs:=cR (E k) (eK (E k) Tryz.f52 (C k) (a0,())) [.blk 0,.code (at_ (bt 3 7) (body Tryz.f52))]
def V0 (n0:Nat):T0:=fun x0 x1=>ao (bo (E k) (at_ (bt 6 11) (body Tryz.f52))) (ak 0 [0,3]) (K0 k a0) n0 (mk 60 0 [(0,.sl true aB x0),(3,.int .i64 x1)] [])
theorem s0 (n0:Nat):V0 k a0 (n0+1)=b0 k (V0 k a0 n0):=by kernel_rfl
theorem e0:V0 k a0=l0 k:=aY rfl (s0 k a0) fun _=>rfl
end
theorem eq (k:Nat) (a0:List (Ty.d aB)):rn (E k) Tryz.f52 (C k) (a0,())=f k a0:=(show _=t k (V0 k a0 k) a0 by kernel_rfl).trans (by rw [e0];rfl)
theorem ctr (k:Nat):Cp 52 (C k):=rc rfl (D k) (by kernel_rfl) Tryz.func52 (by kernel_rfl) rfl fun ⟨a0,_⟩ r h=>(eq k a0).trans h
end eR
namespace gG
def C (k:Nat):Cn:=⟨[.val gP],[.bool],true,false,fun x=>f k x.1⟩
def D (k:Nat):List Ce:=[q (aS.ctr k),q (eR.ctr k)]
def E (k:Nat):dO:=en (D k) [(4,[1,3])] 0 [] k
section
variable (k:Nat) (a0:Ty.d gP)
def K0:Ex→St→Rs:=cR (E k) (eK (E k) Tryz.f148 (C k) (a0,())) [.blk 0,.code (at_ (bt 3 7) (body Tryz.f148))]
def V0 (n0:Nat):T0:=fun x0 x1 x2 x3=>ao (bo (E k) (at_ (bt 6 11) (body Tryz.f148))) (ak 0 [1,3]) (K0 k a0) n0 (mk 48 1 [(1,.ptr 0 0 0),(3,.int .i64 x0)] [(0,.box [.int .i64 x1,.int .i64 x2,.sl true aB x3])])
theorem s0 (n0:Nat):V0 k a0 (n0+1)=b0 k (V0 k a0 n0):=by kernel_rfl
theorem e0:V0 k a0=l0 k:=aY rfl (s0 k a0) fun _=>rfl
end
theorem eq (k:Nat) (a0:Ty.d gP):rn (E k) Tryz.f148 (C k) (a0,())=f k a0:=(show _=t k (V0 k a0 k) a0 by kernel_rfl).trans (by rw [e0];rfl)
theorem ctr (k:Nat):Cp 148 (C k):=rc rfl (D k) (by kernel_rfl) Tryz.func148 (by kernel_rfl) rfl fun ⟨a0,_⟩ r h=>(eq k a0).trans h
end gG
namespace dM
def C (k:Nat):Cn:=⟨[.val gP],[.str],true,false,fun x=>f k x.1⟩
def D (k:Nat):List Ce:=[q (gG.ctr k),q (bW.ctr k),q (fa.ctr k),q (dN.ctr k)]
def E (k:Nat):dO:=en (D k) [(5,[1,3,4])] 0 [] k
section
variable (k:Nat) (a0:Ty.d gP)
def K0:Ex→St→Rs:=cR (E k) (eK (E k) Tryz.f109 (C k) (a0,())) [.blk 0,.code (at_ (bt 4 15) (body Tryz.f109))]
def V0 (n0:Nat):T0:=fun x0 x1 x2 x3 x4=>ao (bo (E k) (at_ (bt 7 23) (body Tryz.f109))) (ak 0 [1,3,4]) (K0 k a0) n0 (mk 63 1 [(1,.ptr 0 0 0),(3,.str x0),(4,.int .i64 x1)] [(0,.box [.int .i64 x2,.int .i64 x3,.sl true aB x4])])
theorem s0 (n0:Nat):V0 k a0 (n0+1)=b0 k (V0 k a0 n0):=by kernel_rfl
theorem e0:V0 k a0=l0 k:=aY rfl (s0 k a0) fun _=>rfl
end
theorem eq (k:Nat) (a0:Ty.d gP):rn (E k) Tryz.f109 (C k) (a0,())=f k a0:=(show _=t k (V0 k a0 k) a0 by kernel_rfl).trans (by rw [e0];rfl)
theorem ctr (k:Nat):Cp 109 (C k):=rc rfl (D k) (by kernel_rfl) Tryz.func109 (by kernel_rfl) rfl fun ⟨a0,_⟩ r h=>(eq k a0).trans h
end dM
namespace bJ
def C (k:Nat):Cn:=⟨[.val .str],[gP,.bool],true,false,fun x=>f k x.1⟩
def D (k:Nat):List Ce:=[q (bZ.ctr k),q (cJ.ctr k),q (dM.ctr k)]
def E (k:Nat):dO:=en (D k) [(8,[0,2,4,5,6,7])] 0 [] k
section
variable (k:Nat) (a0:ByteArray)
def K0:Ex→St→Rs:=cR (E k) (eK (E k) Tryz.f67 (C k) (a0,())) [.blk 0,.code (at_ (bt 6 63) (body Tryz.f67))]
def V0 (n0:Nat):T0:=fun x0 x1 x2 x3 x4 x5 x6 x7 x8 x9=>ao (bo (E k) (at_ (bt 9 95) (body Tryz.f67))) (ak 0 [0,2,4,5,6,7]) (K0 k a0) n0 (mk 97 5 [(0,.str x0),(2,.ptr 0 0 0),(4,.ref 2),(5,.int .i64 x1),(6,.ptr 3 0 0),(7,.int .i64 x2)] [(1,.own false aB x3),(0,.box [.int .i64 x4,.int .i64 x5,.ref 1]),(2,.own false (.int .i64) x6),(4,.own false aB x7),(3,.box [.int .i64 x8,.int .i64 x9,.ref 4])])
theorem s0 (n0:Nat):V0 k a0 (n0+1)=b0 k (V0 k a0 n0):=by kernel_rfl
theorem e0:V0 k a0=l0 k:=aY rfl (s0 k a0) fun _=>rfl
end
theorem eq (k:Nat) (a0:ByteArray):rn (E k) Tryz.f67 (C k) (a0,())=f k a0:=(show _=t k (V0 k a0 k) a0 by kernel_rfl).trans (by rw [e0];rfl)
theorem ctr (k:Nat):Cp 67 (C k):=rc rfl (D k) (by kernel_rfl) Tryz.func67 (by kernel_rfl) rfl fun ⟨a0,_⟩ r h=>(eq k a0).trans h
end bJ
namespace fX
def C (k:Nat):Cn:=⟨[.val (.slice b7)],[(.int .i64)],true,false,fun x=>f k x.1⟩
def D (k:Nat):List Ce:=[q (cC.ctr k),q (fa.ctr k)]
def E (k:Nat):dO:=en (D k) [(3,[0,3,4])] 0 [] k
section
variable (k:Nat) (a0:List (Ty.d b7))
def K0:Ex→St→Rs:=cR (E k) (eK (E k) Tryz.f151 (C k) (a0,())) [.blk 0,.code (at_ (bt 3 7) (body Tryz.f151))]
def V0 (n0:Nat):T0:=fun x0 x1 x2=>ao (bo (E k) (at_ (bt 6 11) (body Tryz.f151))) (ak 0 [0,3,4]) (K0 k a0) n0 (mk 20 0 [(0,.sl true b7 x0),(3,.str x1),(4,.int .i64 x2)] [])
theorem s0 (n0:Nat):V0 k a0 (n0+1)=b0 k (V0 k a0 n0):=by kernel_rfl
theorem e0:V0 k a0=l0 k:=aY rfl (s0 k a0) fun _=>rfl
end
theorem eq (k:Nat) (a0:List (Ty.d b7)):rn (E k) Tryz.f151 (C k) (a0,())=f k a0:=(show _=t k (V0 k a0 k) a0 by kernel_rfl).trans (by rw [e0];rfl)
theorem ctr (k:Nat):Cp 151 (C k):=rc rfl (D k) (by kernel_rfl) Tryz.func151 (by kernel_rfl) rfl fun ⟨a0,_⟩ r h=>(eq k a0).trans h
end fX
namespace dU
def C (k:Nat):Cn:=⟨[.val (.int .i64),.val .str],[gP,.bool],true,false,fun x=>f k x.1 x.2.1⟩
def D (k:Nat):List Ce:=[q (bS.ctr k),q (aU.ctr k),q (fX.ctr k)]
def E (k:Nat):dO:=en (D k) [(7,[0,4,6,8,9,10])] 0 [] k
section
variable (k:Nat) (a0:Int) (a1:ByteArray)
def K0:Ex→St→Rs:=cR (E k) (eK (E k) Tryz.f110 (C k) (a0,a1,())) [.blk 0,.code (at_ (bt 6 63) (body Tryz.f110))]
def V0 (n0:Nat):T0:=fun x0 x1 x2 x3 x4 x5 x6 x7 x8 x9=>ao (bo (E k) (at_ (bt 9 95) (body Tryz.f110))) (ak 0 [0,4,6,8,9,10]) (K0 k a0 a1) n0 (mk 141 6 [(0,.int .i64 x0),(4,.ptr 0 0 0),(6,.ref 2),(8,.ptr 3 0 0),(9,.ref 5),(10,.int .i64 x1)] [(1,.own false aB x2),(0,.box [.int .i64 x3,.int .i64 x4,.ref 1]),(2,.own false c_ x5),(4,.own false aB x6),(3,.box [.int .i64 x7,.int .i64 x8,.ref 4]),(5,.own false b7 x9)])
theorem s0 (n0:Nat):V0 k a0 a1 (n0+1)=b0 k (V0 k a0 a1 n0):=by kernel_rfl
theorem e0:V0 k a0 a1=l0 k:=aY rfl (s0 k a0 a1) fun _=>rfl
end
theorem eq (k:Nat) (a0:Int) (a1:ByteArray):rn (E k) Tryz.f110 (C k) (a0,a1,())=f k a0 a1:=(show _=t k (V0 k a0 a1 k) a0 a1 by kernel_rfl).trans (by rw [e0];rfl)
theorem ctr (k:Nat):Cp 110 (C k):=rc rfl (D k) (by kernel_rfl) Tryz.func110 (by kernel_rfl) rfl fun ⟨a0,a1,_⟩ r h=>(eq k a0 a1).trans h
end dU
namespace eu
def C (k:Nat):Cn:=⟨[.val (.slice aB),.val (.slice aB)],[.bool],true,false,fun x=>f k x.1 x.2.1⟩
def E (k:Nat):dO:=en [] [(4,[0,1,5])] 0 [] k
section
variable (k:Nat) (a0:List (Ty.d aB)) (a1:List (Ty.d aB))
def K0:Ex→St→Rs:=cR (E k) (eK (E k) Tryz.f111 (C k) (a0,a1,())) [.blk 0,.code (at_ (bt 3 7) (body Tryz.f111))]
def V0 (n0:Nat):T0:=fun x0 x1 x2=>ao (bo (E k) (at_ (bt 6 11) (body Tryz.f111))) (ak 0 [0,1,5]) (K0 k a0 a1) n0 (mk 26 0 [(0,.sl true aB x0),(1,.sl true aB x1),(5,.int .i64 x2)] [])
theorem s0 (n0:Nat):V0 k a0 a1 (n0+1)=b0 k (V0 k a0 a1 n0):=by kernel_rfl
theorem e0:V0 k a0 a1=l0 k:=aY rfl (s0 k a0 a1) fun _=>rfl
end
theorem eq (k:Nat) (a0:List (Ty.d aB)) (a1:List (Ty.d aB)):rn (E k) Tryz.f111 (C k) (a0,a1,())=f k a0 a1:=(show _=t k (V0 k a0 a1 k) a0 a1 by kernel_rfl).trans (by rw [e0];rfl)
theorem ctr (k:Nat):Cp 111 (C k):=rc rfl [] (by kernel_rfl) Tryz.func111 (by kernel_rfl) rfl fun ⟨a0,a1,_⟩ r h=>(eq k a0 a1).trans h
end eu
namespace gK
def C (k:Nat):Cn:=⟨[.val (.int .i64),.val .str,.val gP],[.bool],true,false,fun x=>f k x.1 x.2.1 x.2.2.1⟩
def D (k:Nat):List Ce:=[q (dU.ctr k),q (eu.ctr k)]
def E (k:Nat):dO:=en (D k) [] 0 [] k
theorem eq (k:Nat) (a0:Int) (a1:ByteArray) (a2:Ty.d gP):rn (E k) Tryz.f68 (C k) (a0,a1,a2,())=f k a0 a1 a2:=by kernel_rfl
theorem ctr (k:Nat):Cp 68 (C k):=rc rfl (D k) (by kernel_rfl) Tryz.func68 (by kernel_rfl) rfl fun ⟨a0,a1,a2,_⟩ r h=>(eq k a0 a1 a2).trans h
end gK
namespace bX
def C (k:Nat):Cn:=⟨[.val (.int .i64),.val .str],[(.slice aC)],true,false,fun x=>f k x.1 x.2.1⟩
def D (k:Nat):List Ce:=[q (bS.ctr k)]
def E (k:Nat):dO:=en (D k) [(4,[0,5,6,8])] 0 [] k
section
variable (k:Nat) (a0:Int) (a1:ByteArray)
def K0:Ex→St→Rs:=cR (E k) (eK (E k) Tryz.f69 (C k) (a0,a1,())) [.blk 0,.code (at_ (bt 4 15) (body Tryz.f69))]
def V0 (n0:Nat):T0:=fun x0 x1 x2 x3=>ao (bo (E k) (at_ (bt 7 23) (body Tryz.f69))) (ak 0 [0,5,6,8]) (K0 k a0 a1) n0 (mk 42 2 [(0,.int .i64 x0),(5,.ref 0),(6,.ref 1),(8,.int .i64 x1)] [(0,.own false aC x2),(1,.own false c_ x3)])
theorem s0 (n0:Nat):V0 k a0 a1 (n0+1)=b0 k (V0 k a0 a1 n0):=by kernel_rfl
theorem e0:V0 k a0 a1=l0 k:=aY rfl (s0 k a0 a1) fun _=>rfl
end
theorem eq (k:Nat) (a0:Int) (a1:ByteArray):rn (E k) Tryz.f69 (C k) (a0,a1,())=f k a0 a1:=(show _=t k (V0 k a0 a1 k) a0 a1 by kernel_rfl).trans (by rw [e0];rfl)
theorem ctr (k:Nat):Cp 69 (C k):=rc rfl (D k) (by kernel_rfl) Tryz.func69 (by kernel_rfl) rfl fun ⟨a0,a1,_⟩ r h=>(eq k a0 a1).trans h
end bX
namespace i7
def C (k:Nat):Cn:=⟨[.val (.slice aC),.val (.int .i64),.val (.int .i64)],[(.slice aC)],true,false,fun x=>f k x.1 x.2.1 x.2.2.1⟩
def E (k:Nat):dO:=en [] [(3,[0,1,2,7,8])] 0 [] k
section
variable (k:Nat) (a0:List (Ty.d aC)) (a1:Int) (a2:Int)
def K0:Ex→St→Rs:=cR (E k) (eK (E k) Tryz.f112 (C k) (a0,a1,a2,())) [.blk 0,.code (at_ (bt 3 7) (body Tryz.f112))]
def V0 (n0:Nat):T0:=fun x0 x1 x2 x3 x4=>ao (bo (E k) (at_ (bt 6 11) (body Tryz.f112))) (ak 0 [0,1,2,7,8]) (K0 k a0 a1 a2) n0 (mk 53 1 [(0,.sl true aC x0),(1,.int .i64 x1),(2,.int .i64 x2),(7,.ref 0),(8,.int .i64 x3)] [(0,.own false aC x4)])
theorem s0 (n0:Nat):V0 k a0 a1 a2 (n0+1)=b0 k (V0 k a0 a1 a2 n0):=by kernel_rfl
theorem e0:V0 k a0 a1 a2=l0 k:=aY rfl (s0 k a0 a1 a2) fun _=>rfl
end
theorem eq (k:Nat) (a0:List (Ty.d aC)) (a1:Int) (a2:Int):rn (E k) Tryz.f112 (C k) (a0,a1,a2,())=f k a0 a1 a2:=(show _=t k (V0 k a0 a1 a2 k) a0 a1 a2 by kernel_rfl).trans (by rw [e0];rfl)
theorem ctr (k:Nat):Cp 112 (C k):=rc rfl [] (by kernel_rfl) Tryz.func112 (by kernel_rfl) rfl fun ⟨a0,a1,a2,_⟩ r h=>(eq k a0 a1 a2).trans h
end i7
namespace fZ
def C (k:Nat):Cn:=⟨[.val (.slice aC)],[(.slice b7)],true,false,fun x=>f k x.1⟩
def E (k:Nat):dO:=en [] [(3,[0,3,4])] 0 [] k
section
variable (k:Nat) (a0:List (Ty.d aC))
def K0:Ex→St→Rs:=cR (E k) (eK (E k) Tryz.f152 (C k) (a0,())) [.blk 0,.code (at_ (bt 3 7) (body Tryz.f152))]
def V0 (n0:Nat):T0:=fun x0 x1 x2=>ao (bo (E k) (at_ (bt 6 11) (body Tryz.f152))) (ak 0 [0,3,4]) (K0 k a0) n0 (mk 21 1 [(0,.sl true aC x0),(3,.ref 0),(4,.int .i64 x1)] [(0,.own false b7 x2)])
theorem s0 (n0:Nat):V0 k a0 (n0+1)=b0 k (V0 k a0 n0):=by kernel_rfl
theorem e0:V0 k a0=l0 k:=aY rfl (s0 k a0) fun _=>rfl
end
theorem eq (k:Nat) (a0:List (Ty.d aC)):rn (E k) Tryz.f152 (C k) (a0,())=f k a0:=(show _=t k (V0 k a0 k) a0 by kernel_rfl).trans (by rw [e0];rfl)
theorem ctr (k:Nat):Cp 152 (C k):=rc rfl [] (by kernel_rfl) Tryz.func152 (by kernel_rfl) rfl fun ⟨a0,_⟩ r h=>(eq k a0).trans h
end fZ
namespace iX
def C (k:Nat):Cn:=⟨[.val b7,.val (.slice aC)],[.bool],true,false,fun x=>f k x.1 x.2.1⟩
def D (k:Nat):List Ce:=[q (fZ.ctr k),q (fX.ctr k)]
def E (k:Nat):dO:=en (D k) [] 0 [] k
theorem eq (k:Nat) (a0:Ty.d b7) (a1:List (Ty.d aC)):rn (E k) Tryz.f113 (C k) (a0,a1,())=f k a0 a1:=by kernel_rfl
theorem ctr (k:Nat):Cp 113 (C k):=rc rfl (D k) (by kernel_rfl) Tryz.func113 (by kernel_rfl) rfl fun ⟨a0,a1,_⟩ r h=>(eq k a0 a1).trans h
end iX
namespace cm
def C (k:Nat):Cn:=⟨[.val (.slice aB),.val .str],[(.slice aB)],true,false,fun x=>f k x.1 x.2.1⟩
def E (k:Nat):dO:=en [] [(3,[0,1,5,6])] 0 [] k
section
variable (k:Nat) (a0:List (Ty.d aB)) (a1:ByteArray)
def K0:Ex→St→Rs:=cR (E k) (eK (E k) Tryz.f153 (C k) (a0,a1,())) [.blk 0,.code (at_ (bt 3 7) (body Tryz.f153))]
def V0 (n0:Nat):T0:=fun x0 x1 x2 x3=>ao (bo (E k) (at_ (bt 6 11) (body Tryz.f153))) (ak 0 [0,1,5,6]) (K0 k a0 a1) n0 (mk 29 1 [(0,.sl true aB x0),(1,.str x1),(5,.ref 0),(6,.int .i64 x2)] [(0,.own false aB x3)])
theorem s0 (n0:Nat):V0 k a0 a1 (n0+1)=b0 k (V0 k a0 a1 n0):=by kernel_rfl
theorem e0:V0 k a0 a1=l0 k:=aY rfl (s0 k a0 a1) fun _=>rfl
end
theorem eq (k:Nat) (a0:List (Ty.d aB)) (a1:ByteArray):rn (E k) Tryz.f153 (C k) (a0,a1,())=f k a0 a1:=(show _=t k (V0 k a0 a1 k) a0 a1 by kernel_rfl).trans (by rw [e0];rfl)
theorem ctr (k:Nat):Cp 153 (C k):=rc rfl [] (by kernel_rfl) Tryz.func153 (by kernel_rfl) rfl fun ⟨a0,a1,_⟩ r h=>(eq k a0 a1).trans h
end cm
namespace bz
def C (k:Nat):Cn:=⟨[.val (.slice aB),.val aB],[(.slice aB)],true,false,fun x=>f k x.1 x.2.1⟩
def E (k:Nat):dO:=en [] [(4,[0,3,5,6,7])] 0 [] k
section
variable (k:Nat) (a0:List (Ty.d aB)) (a1:Ty.d aB)
def K0:Ex→St→Rs:=cR (E k) (eK (E k) Tryz.f154 (C k) (a0,a1,())) [.blk 0,.code (at_ (bt 4 15) (body Tryz.f154))]
def V0 (n0:Nat):T0:=fun x0 x1 x2 x3 x4 x5 x6 x7 x8=>ao (bo (E k) (at_ (bt 7 23) (body Tryz.f154))) (ak 0 [0,3,5,6,7]) (K0 k a0 a1) n0 (mk 53 2 [(0,.sl true aB x0),(3,.ptr 0 0 0),(5,.ref 1),(6,.bool x1),(7,.int .i64 x2)] [(0,.box [.str x3,.int .i64 x4,.int .i64 x5,.int .i64 x6,.int .i64 x7]),(1,.own false aB x8)])
theorem s0 (n0:Nat):V0 k a0 a1 (n0+1)=b0 k (V0 k a0 a1 n0):=by kernel_rfl
theorem e0:V0 k a0 a1=l0 k:=aY rfl (s0 k a0 a1) fun _=>rfl
end
theorem eq (k:Nat) (a0:List (Ty.d aB)) (a1:Ty.d aB):rn (E k) Tryz.f154 (C k) (a0,a1,())=f k a0 a1:=(show _=t k (V0 k a0 a1 k) a0 a1 by kernel_rfl).trans (by rw [e0];rfl)
theorem ctr (k:Nat):Cp 154 (C k):=rc rfl [] (by kernel_rfl) Tryz.func154 (by kernel_rfl) rfl fun ⟨a0,a1,_⟩ r h=>(eq k a0 a1).trans h
end bz
namespace gj
def C (k:Nat):Cn:=⟨[.val (.slice aB),.val aC],[(.slice aB)],true,false,fun x=>f k x.1 x.2.1⟩
def D (k:Nat):List Ce:=[q (cm.ctr k),q (bz.ctr k)]
def E (k:Nat):dO:=en (D k) [] 0 [] k
theorem eq (k:Nat) (a0:List (Ty.d aB)) (a1:Ty.d aC):rn (E k) Tryz.f115 (C k) (a0,a1,())=f k a0 a1:=by kernel_rfl
theorem ctr (k:Nat):Cp 115 (C k):=rc rfl (D k) (by kernel_rfl) Tryz.func115 (by kernel_rfl) rfl fun ⟨a0,a1,_⟩ r h=>(eq k a0 a1).trans h
end gj
namespace eT
def C (k:Nat):Cn:=⟨[.val (.slice aC),.val (.int .i64)],[(.slice aC)],true,false,fun x=>f k x.1 x.2.1⟩
def E (k:Nat):dO:=en [] [(3,[0,1,5,6])] 0 [] k
section
variable (k:Nat) (a0:List (Ty.d aC)) (a1:Int)
def K0:Ex→St→Rs:=cR (E k) (eK (E k) Tryz.f114 (C k) (a0,a1,())) [.blk 0,.code (at_ (bt 3 7) (body Tryz.f114))]
def V0 (n0:Nat):T0:=fun x0 x1 x2 x3=>ao (bo (E k) (at_ (bt 6 11) (body Tryz.f114))) (ak 0 [0,1,5,6]) (K0 k a0 a1) n0 (mk 36 1 [(0,.sl true aC x0),(1,.int .i64 x1),(5,.ref 0),(6,.int .i64 x2)] [(0,.own false aC x3)])
theorem s0 (n0:Nat):V0 k a0 a1 (n0+1)=b0 k (V0 k a0 a1 n0):=by kernel_rfl
theorem e0:V0 k a0 a1=l0 k:=aY rfl (s0 k a0 a1) fun _=>rfl
end
theorem eq (k:Nat) (a0:List (Ty.d aC)) (a1:Int):rn (E k) Tryz.f114 (C k) (a0,a1,())=f k a0 a1:=(show _=t k (V0 k a0 a1 k) a0 a1 by kernel_rfl).trans (by rw [e0];rfl)
theorem ctr (k:Nat):Cp 114 (C k):=rc rfl [] (by kernel_rfl) Tryz.func114 (by kernel_rfl) rfl fun ⟨a0,a1,_⟩ r h=>(eq k a0 a1).trans h
end eT
namespace cA
def C (k:Nat):Cn:=⟨[.val fj,.val (.slice aC)],[fj],true,false,fun x=>f k x.1 x.2.1⟩
def D (k:Nat):List Ce:=[q (i7.ctr k),q (iX.ctr k),q (gj.ctr k),q (eT.ctr k)]
def E (k:Nat):dO:=en (D k) [(3,[1,4,5,6]),(17,[1,4,5,6,8,9])] 0 [] k
section
variable (k:Nat) (a0:Ty.d fj) (a1:List (Ty.d aC))
def K0:Ex→St→Rs:=cR (E k) (eK (E k) Tryz.f70 (C k) (a0,a1,())) [.blk 0,.code (at_ (bt 3 7) (body Tryz.f70))]
def B0 (n0:Nat):Ex→St→Rs:=KO (E k) (at_ (bt 6 11) (body Tryz.f70)) 0 [1,4,5,6] (K0 k a0 a1) n0
def K1 (n0:Nat):Ex→St→Rs:=cR (E k) (B0 k a0 a1 n0) [.blk 3,.code (at_ (bt 14 15947) (body Tryz.f70)),.blk 1,.code (at_ (bt 8 203) (body Tryz.f70))]
def V0 (n0:Nat):T0:=fun x0 x1 x2 x3 x4 x5 x6 x7=>ao (bo (E k) (at_ (bt 6 11) (body Tryz.f70))) (ak 0 [1,4,5,6]) (K0 k a0 a1) n0 (mk 97 4 [(1,.sl true aC x0),(4,.ptr 0 0 0),(5,.ptr 2 0 0),(6,.int .i64 x1)] [(1,.own false aB x2),(0,.box [.ref 1,.int .i64 x3,.int .i64 x4]),(3,.own false aB x5),(2,.box [.ref 3,.int .i64 x6,.int .i64 x7])])
def V1 (n0 n1:Nat):T1:=fun x0 x1 x2 x3 x4 x5 x6 x7 x8 x9=>ao (bo (E k) (at_ (bt 17 24139) (body Tryz.f70))) (ak 0 [1,4,5,6,8,9]) (K1 k a0 a1 n0) n1 (mk 97 5 [(1,.sl true aC x0),(4,.ptr 0 0 0),(5,.ptr 2 0 0),(6,.int .i64 x1),(8,.ref 4),(9,.int .i64 x2)] [(1,.own false aB x3),(0,.box [.ref 1,.int .i64 x4,.int .i64 x5]),(3,.own false aB x6),(2,.box [.ref 3,.int .i64 x7,.int .i64 x8]),(4,.own false aC x9)])
theorem s0 (n0:Nat):V0 k a0 a1 (n0+1)=b0 k (V1 k a0 a1 n0 k) (V0 k a0 a1 n0):=by kernel_rfl
theorem s1 (n0 n1:Nat):V1 k a0 a1 n0 (n1+1)=b1 k (V0 k a0 a1 n0) (V1 k a0 a1 n0 n1):=by kernel_rfl
theorem e1 (n0:Nat):V1 k a0 a1 n0=l1 k (V0 k a0 a1 n0):=aY rfl (s1 k a0 a1 n0) fun _=>rfl
theorem e0 (n0:Nat):V0 k a0 a1 n0=l0 k n0:=by
 induction n0 with
 | zero=>rfl
 | succ n0 ih =>
  have h:V0 k a0 a1 (n0+1)=b0 k (V1 k a0 a1 n0 k) (V0 k a0 a1 n0):=s0 k a0 a1 n0
  rw [h,e1,ih]
  rfl
end
theorem eq (k:Nat) (a0:Ty.d fj) (a1:List (Ty.d aC)):rn (E k) Tryz.f70 (C k) (a0,a1,())=f k a0 a1:=(show _=t k (V0 k a0 a1 k) a0 a1 by kernel_rfl).trans (by rw [e0];rfl)
theorem ctr (k:Nat):Cp 70 (C k):=rc rfl (D k) (by kernel_rfl) Tryz.func70 (by kernel_rfl) rfl fun ⟨a0,a1,_⟩ r h=>(eq k a0 a1).trans h
end cA
namespace bi
def C (k:Nat):Cn:=⟨[.give aA,.val cY],[aA,(.int .i64)],true,false,fun x=>f k x.1 x.2.1⟩
def D (k:Nat):List Ce:=[q (bL.ctr k),q (g7.ctr k),q (aV.ctr k)]
def E (k:Nat):dO:=en (D k) [(3,[2,4,6,7])] 0 [] k
section
variable (k:Nat) (a0:Ty.d aA) (a1:Ty.d cY)
def K0:Ex→St→Rs:=cR (E k) (eK (E k) Tryz.f71 (C k) (a0,a1,())) [.blk 0,.code (at_ (bt 3 7) (body Tryz.f71))]
def V0 (n0:Nat):T0:=fun x0 x1 x2 x3 x4 x5 x6 x7 x8 x9=>ao (bo (E k) (at_ (bt 6 11) (body Tryz.f71))) (ak 0 [2,4,6,7]) (K0 k a0 a1) n0 (mk 35 5 [(2,.ptr 0 0 0),(4,.ptr 2 0 0),(6,.ref 4),(7,.int .i64 x0)] [(1,.own false aL x1),(0,.box [.ref 1,.int .i64 x2,.int .i64 x3,.bool x4]),(3,.own false aL x5),(2,.box [.ref 3,.int .i64 x6,.int .i64 x7,.bool x8]),(4,.own false .str x9)])
theorem s0 (n0:Nat):V0 k a0 a1 (n0+1)=b0 k (V0 k a0 a1 n0):=by kernel_rfl
theorem e0:V0 k a0 a1=l0 k:=aY rfl (s0 k a0 a1) fun _=>rfl
end
theorem eq (k:Nat) (a0:Ty.d aA) (a1:Ty.d cY):rn (E k) Tryz.f71 (C k) (a0,a1,())=f k a0 a1:=(show _=t k (V0 k a0 a1 k) a0 a1 by kernel_rfl).trans (by rw [e0];rfl)
theorem ctr (k:Nat):Cp 71 (C k):=rc rfl (D k) (by kernel_rfl) Tryz.func71 (by kernel_rfl) rfl fun ⟨a0,a1,_⟩ r h=>(eq k a0 a1).trans h
end bi
namespace fy
def C (k:Nat):Cn:=⟨[.give aA],[aE,aA,(.int .i64)],true,false,fun x=>f k x.1⟩
def D (k:Nat):List Ce:=[q (bi.ctr k),q (aU.ctr k),q (gU.ctr k),q (aV.ctr k),q (eC.ctr k)]
def E (k:Nat):dO:=en (D k) [] 0 [] k
theorem eq (k:Nat) (a0:Ty.d aA):rn (E k) Tryz.f61 (C k) (a0,())=f k a0:=by kernel_rfl
theorem ctr (k:Nat):Cp 61 (C k):=rc rfl (D k) (by kernel_rfl) Tryz.func61 (by kernel_rfl) rfl fun ⟨a0,_⟩ r h=>(eq k a0).trans h
end fy
namespace au
def C (k:Nat):Cn:=⟨[.give aA],[aE,aA,(.int .i64)],true,false,fun x=>f k x.1⟩
def D (k:Nat):List Ce:=[q (bE.ctr k),q (bw.ctr k),q (ba.ctr k),q (fy.ctr k),q (bH.ctr k),q (aU.ctr k),q (bS.ctr k),q (hO.ctr k),q (aV.ctr k),q (dw.ctr k),q (cX.ctr k),q (bJ.ctr k),q (gK.ctr k),q (bX.ctr k),q (cA.ctr k),q (bi.ctr k)]
def E (k:Nat):dO:=en (D k) [(14,[1,2,3,5,8,9,10]),(35,[2,3,5,8,19,23,24,25,26])] 0 [] k
section
variable (k:Nat) (a0:Ty.d aA)
def K0:Ex→St→Rs:=cR (E k) (eK (E k) Tryz.f26 (C k) (a0,())) [.blk 0,.code (at_ (bt 10 1023) (body Tryz.f26))]
def K1:Ex→St→Rs:=cR (E k) (eK (E k) Tryz.f26 (C k) (a0,())) [.blk 2,.code (at_ (bt 20 1048575) (body Tryz.f26))]
def V0 (n0:Nat):T0:=fun x0 x1 x2 x3 x4 x5 x6 x7 x8 x9 x10 x11 x12 x13 x14 x15 x16 x17 x18 x19 x20 x21 x22 x23=>ao (bo (E k) (at_ (bt 13 1535) (body Tryz.f26))) (ak 0 [1,2,3,5,8,9,10]) (K0 k a0) n0 (mk 268 12 [(1,.ptr 0 0 0),(2,.ptr 2 0 0),(3,.ptr 5 0 0),(5,.ptr 7 0 0),(8,.ptr 10 0 0),(9,.int .i64 x0),(10,.int .i64 x1)] [(1,.own false aL x2),(0,.box [.ref 1,.int .i64 x3,.int .i64 x4,.bool x5]),(3,.own false (.int .i64) x6),(4,.own false aB x7),(2,.box [.int .i64 x8,.ref 3,.ref 4,.int .i64 x9,.int .i64 x10,.int .i64 x11]),(6,.own false aL x12),(5,.box [.ref 6,.int .i64 x13,.int .i64 x14,.bool x15]),(8,.own false (.int .i64) x16),(9,.own false aB x17),(7,.box [.int .i64 x18,.ref 8,.ref 9,.int .i64 x19,.int .i64 x20,.int .i64 x21]),(11,.own false (.int .i64) x22),(10,.box [.int .i64 x23,.ref 11])])
def V1 (n1:Nat):T1:=fun x0 x1 x2 x3 x4 x5 x6 x7 x8 x9 x10 x11 x12 x13 x14 x15 x16 x17 x18 x19 x20 x21 x22 x23 x24 x25 x26 x27 x28 x29 x30 x31=>ao (bo (E k) (at_ (bt 23 1572863) (body Tryz.f26))) (ak 0 [2,3,5,8,19,23,24,25,26]) (K1 k a0) n1 (mk 268 17 [(2,.ptr 0 0 0),(3,.ptr 3 0 0),(5,.ptr 5 0 0),(8,.ptr 8 0 0),(19,.ptr 10 0 0),(23,.ptr 12 0 0),(24,.ptr 14 0 0),(25,.ref 16),(26,.int .i64 x0)] [(1,.own false (.int .i64) x1),(2,.own false aB x2),(0,.box [.int .i64 x3,.ref 1,.ref 2,.int .i64 x4,.int .i64 x5,.int .i64 x6]),(4,.own false aL x7),(3,.box [.ref 4,.int .i64 x8,.int .i64 x9,.bool x10]),(6,.own false (.int .i64) x11),(7,.own false aB x12),(5,.box [.int .i64 x13,.ref 6,.ref 7,.int .i64 x14,.int .i64 x15,.int .i64 x16]),(9,.own false (.int .i64) x17),(8,.box [.int .i64 x18,.ref 9]),(11,.own false aL x19),(10,.box [.ref 11,.int .i64 x20,.int .i64 x21,.bool x22]),(13,.own false aB x23),(12,.box [.int .i64 x24,.ref 9,.ref 13,.int .i64 x25,.int .i64 x26,.int .i64 x27]),(15,.own false aB x28),(14,.box [.ref 15,.int .i64 x29,.int .i64 x30]),(16,.own false aC x31)])
def V2 (n1:Nat):T2:=fun x0 x1 x2 x3 x4 x5 x6 x7 x8 x9 x10 x11 x12 x13 x14 x15 x16 x17 x18 x19 x20 x21 x22 x23 x24 x25 x26 x27 x28 x29 x30 x31=>ao (bo (E k) (at_ (bt 23 1572863) (body Tryz.f26))) (ak 0 [2,3,5,8,19,23,24,25,26]) (K1 k a0) n1 (mk 268 17 [(2,.ptr 0 0 0),(3,.ptr 3 0 0),(5,.ptr 5 0 0),(8,.ptr 8 0 0),(19,.ptr 10 0 0),(23,.ptr 12 0 0),(24,.ptr 14 0 0),(25,.ref 16),(26,.int .i64 x0)] [(1,.own false (.int .i64) x1),(2,.own false aB x2),(0,.box [.int .i64 x3,.ref 1,.ref 2,.int .i64 x4,.int .i64 x5,.int .i64 x6]),(4,.own false aL x7),(3,.box [.ref 4,.int .i64 x8,.int .i64 x9,.bool x10]),(6,.own false (.int .i64) x11),(7,.own false aB x12),(5,.box [.int .i64 x13,.ref 6,.ref 7,.int .i64 x14,.int .i64 x15,.int .i64 x16]),(9,.own false (.int .i64) x17),(8,.box [.int .i64 x18,.ref 9]),(11,.own false aL x19),(10,.box [.ref 11,.int .i64 x20,.int .i64 x21,.bool x22]),(13,.own false aB x23),(12,.box [.int .i64 x24,.ref 9,.ref 13,.int .i64 x25,.int .i64 x26,.int .i64 x27]),(15,.own false aB x28),(14,.box [.ref 15,.int .i64 x29,.int .i64 x30]),(16,.own false aC x31)])
theorem s0 (n0:Nat):V0 k a0 (n0+1)=b0 k (V1 k a0 k) (V2 k a0 k) (V0 k a0 n0):=by kernel_rfl
theorem s1 (n1:Nat):V1 k a0 (n1+1)=b1 k (V1 k a0 n1):=by kernel_rfl
theorem s2 (n1:Nat):V2 k a0 (n1+1)=b2 k (V2 k a0 n1):=by kernel_rfl
theorem e1:V1 k a0=l1 k:=aY rfl (s1 k a0) fun _=>rfl
theorem e2:V2 k a0=l2 k:=aY rfl (s2 k a0) fun _=>rfl
theorem e0 (n0:Nat):V0 k a0 n0=l0 k n0:=by
 induction n0 with
 | zero=>rfl
 | succ n0 ih =>
  have h:V0 k a0 (n0+1)=b0 k (V1 k a0 k) (V2 k a0 k) (V0 k a0 n0):=s0 k a0 n0
  rw [h,e1,e2,ih]
  rfl
end
theorem eq (k:Nat) (a0:Ty.d aA):rn (E k) Tryz.f26 (C k) (a0,())=f k a0:=(show _=t k (V0 k a0 k) a0 by kernel_rfl).trans (by rw [e0];rfl)
theorem ctr (k:Nat):Cp 26 (C k):=rc rfl (D k) (by kernel_rfl) Tryz.func26 (by kernel_rfl) rfl fun ⟨a0,_⟩ r h=>(eq k a0).trans h
end au
namespace dt
def C (k:Nat):Cn:=⟨[.give aA],[dc,(.int .i64)],true,false,fun x=>f k x.1⟩
def D (k:Nat):List Ce:=[q (au.ctr k)]
def E (k:Nat):dO:=en (D k) [] 0 [] k
theorem eq (k:Nat) (a0:Ty.d aA):rn (E k) Tryz.f7 (C k) (a0,())=f k a0:=by kernel_rfl
theorem ctr (k:Nat):Cp 7 (C k):=rc rfl (D k) (by kernel_rfl) Tryz.func7 (by kernel_rfl) rfl fun ⟨a0,_⟩ r h=>(eq k a0).trans h
end dt
namespace co
def C (k:Nat):Cn:=⟨[.val aE],[aE],true,false,fun x=>f k x.1⟩
def E (k:Nat):dO:=en [] [] 0 [] k
theorem eq (k:Nat) (a0:Ty.d aE):rn (E k) Tryz.f72 (C k) (a0,())=f k a0:=by kernel_rfl
theorem ctr (k:Nat):Cp 72 (C k):=rc rfl [] (by kernel_rfl) Tryz.func72 (by kernel_rfl) rfl fun ⟨a0,_⟩ r h=>(eq k a0).trans h
end co
namespace eJ
def C (k:Nat):Cn:=⟨[.val du],[du],true,false,fun x=>f k x.1⟩
def E (k:Nat):dO:=en [] [] 0 [] k
theorem eq (k:Nat) (a0:Ty.d du):rn (E k) Tryz.f73 (C k) (a0,())=f k a0:=by kernel_rfl
theorem ctr (k:Nat):Cp 73 (C k):=rc rfl [] (by kernel_rfl) Tryz.func73 (by kernel_rfl) rfl fun ⟨a0,_⟩ r h=>(eq k a0).trans h
end eJ
namespace eI
def C (k:Nat):Cn:=⟨[.val dc],[dc],true,false,fun x=>f k x.1⟩
def D (k:Nat):List Ce:=[q (co.ctr k),q (bw.ctr k),q (eJ.ctr k)]
def E (k:Nat):dO:=en (D k) [(5,[1,2,3,4])] 0 [] k
section
variable (k:Nat) (a0:Ty.d dc)
def K0:Ex→St→Rs:=cR (E k) (eK (E k) Tryz.f28 (C k) (a0,())) [.blk 0,.code (at_ (bt 5 31) (body Tryz.f28))]
def V0 (n0:Nat):T0:=fun x0 x1 x2 x3 x4 x5 x6 x7 x8 x9 x10 x11 x12 x13 x14 x15 x16 x17 x18 x19 x20 x21 x22 x23 x24 x25=>ao (bo (E k) (at_ (bt 8 47) (body Tryz.f28))) (ak 0 [1,2,3,4]) (K0 k a0) n0 (mk 33 10 [(1,.ptr 0 0 0),(2,.ptr 4 0 0),(3,.ref 9),(4,.int .i64 x0)] [(1,.own false (.int .i64) x1),(2,.own false aB x2),(3,.own false aL x3),(0,.box [.bool x4,.int .i64 x5,.ref 1,.ref 2,.int .i64 x6,.int .i64 x7,.int .i64 x8,.ref 3,.int .i64 x9,.int .i64 x10,.bool x11,.sl true du x12]),(5,.own false (.int .i64) x13),(6,.own false aB x14),(7,.own false aL x15),(8,.own false du x16),(4,.box [.bool x17,.int .i64 x18,.ref 5,.ref 6,.int .i64 x19,.int .i64 x20,.int .i64 x21,.ref 7,.int .i64 x22,.int .i64 x23,.bool x24,.ref 8]),(9,.own false du x25)])
theorem s0 (n0:Nat):V0 k a0 (n0+1)=b0 k (V0 k a0 n0):=by kernel_rfl
theorem e0:V0 k a0=l0 k:=aY rfl (s0 k a0) fun _=>rfl
end
theorem eq (k:Nat) (a0:Ty.d dc):rn (E k) Tryz.f28 (C k) (a0,())=f k a0:=(show _=t k (V0 k a0 k) a0 by kernel_rfl).trans (by rw [e0];rfl)
theorem ctr (k:Nat):Cp 28 (C k):=rc rfl (D k) (by kernel_rfl) Tryz.func28 (by kernel_rfl) rfl fun ⟨a0,_⟩ r h=>(eq k a0).trans h
end eI
namespace k6
def C (k:Nat):Cn:=⟨[.val aA],[(.int .i64)],true,false,fun x=>f k x.1⟩
def D (k:Nat):List Ce:=[q (bE.ctr k),q (dW.ctr k)]
def E (k:Nat):dO:=en (D k) [] 0 [] k
theorem eq (k:Nat) (a0:Ty.d aA):rn (E k) Tryz.f30 (C k) (a0,())=f k a0:=by kernel_rfl
theorem ctr (k:Nat):Cp 30 (C k):=rc rfl (D k) (by kernel_rfl) Tryz.func30 (by kernel_rfl) rfl fun ⟨a0,_⟩ r h=>(eq k a0).trans h
end k6
namespace ic
def C (k:Nat):Cn:=⟨[.val .str,.val (.int .i64),.val (.int .i64)],[b7,.bool],true,false,fun x=>f k x.1 x.2.1 x.2.2.1⟩
def D (k:Nat):List Ce:=[q (aS.ctr k),q (dP.ctr k),q (dh.ctr k)]
def E (k:Nat):dO:=en (D k) [] 0 [] k
theorem eq (k:Nat) (a0:ByteArray) (a1:Int) (a2:Int):rn (E k) Tryz.f56 (C k) (a0,a1,a2,())=f k a0 a1 a2:=by kernel_rfl
theorem ctr (k:Nat):Cp 56 (C k):=rc rfl (D k) (by kernel_rfl) Tryz.func56 (by kernel_rfl) rfl fun ⟨a0,a1,a2,_⟩ r h=>(eq k a0 a1 a2).trans h
end ic
namespace cB
def C (k:Nat):Cn:=⟨[.val aE,.val aA],[.bool],true,false,fun x=>f k x.1 x.2.1⟩
def D (k:Nat):List Ce:=[q (bE.ctr k),q (dF.ctr k),q (eR.ctr k),q (aS.ctr k),q (aU.ctr k),q (ba.ctr k),q (bS.ctr k),q (ic.ctr k)]
def E (k:Nat):dO:=en (D k) [(4,[2,3,5]),(11,[2,3,10])] 0 [] k
section
variable (k:Nat) (a0:Ty.d aE) (a1:Ty.d aA)
def K0:Ex→St→Rs:=cR (E k) (eK (E k) Tryz.f19 (C k) (a0,a1,())) [.blk 0,.code (at_ (bt 3 7) (body Tryz.f19))]
def K1:Ex→St→Rs:=cR (E k) (eK (E k) Tryz.f19 (C k) (a0,a1,())) [.blk 2,.code (at_ (bt 4 15) (body Tryz.f19))]
def V0 (n0:Nat):T0:=fun x0 x1 x2 x3 x4 x5 x6 x7 x8 x9 x10=>ao (bo (E k) (at_ (bt 6 11) (body Tryz.f19))) (ak 0 [2,3,5]) (K0 k a0 a1) n0 (mk 148 2 [(2,.ptr 0 0 0),(3,.ptr 1 0 0),(5,.int .i64 x0)] [(0,.box [.int .i64 x1,.sl true (.int .i64) x2,.sl true aB x3,.int .i64 x4,.int .i64 x5,.int .i64 x6]),(1,.box [.sl true aL x7,.int .i64 x8,.int .i64 x9,.bool x10])])
def V1 (n1:Nat):T1:=fun x0 x1 x2 x3 x4 x5 x6 x7 x8 x9 x10=>ao (bo (E k) (at_ (bt 7 23) (body Tryz.f19))) (ak 0 [2,3,10]) (K1 k a0 a1) n1 (mk 148 2 [(2,.ptr 0 0 0),(3,.ptr 1 0 0),(10,.int .i64 x0)] [(0,.box [.int .i64 x1,.sl true (.int .i64) x2,.sl true aB x3,.int .i64 x4,.int .i64 x5,.int .i64 x6]),(1,.box [.sl true aL x7,.int .i64 x8,.int .i64 x9,.bool x10])])
theorem s0 (n0:Nat):V0 k a0 a1 (n0+1)=b0 k (V1 k a0 a1 k) (V0 k a0 a1 n0):=by kernel_rfl
theorem s1 (n1:Nat):V1 k a0 a1 (n1+1)=b1 k (V1 k a0 a1 n1):=by kernel_rfl
theorem e1:V1 k a0 a1=l1 k:=aY rfl (s1 k a0 a1) fun _=>rfl
theorem e0 (n0:Nat):V0 k a0 a1 n0=l0 k n0:=by
 induction n0 with
 | zero=>rfl
 | succ n0 ih =>
  have h:V0 k a0 a1 (n0+1)=b0 k (V1 k a0 a1 k) (V0 k a0 a1 n0):=s0 k a0 a1 n0
  rw [h,e1,ih]
  rfl
end
theorem eq (k:Nat) (a0:Ty.d aE) (a1:Ty.d aA):rn (E k) Tryz.f19 (C k) (a0,a1,())=f k a0 a1:=(show _=t k (V0 k a0 a1 k) a0 a1 by kernel_rfl).trans (by rw [e0];rfl)
theorem ctr (k:Nat):Cp 19 (C k):=rc rfl (D k) (by kernel_rfl) Tryz.func19 (by kernel_rfl) rfl fun ⟨a0,a1,_⟩ r h=>(eq k a0 a1).trans h
end cB
namespace eU
def C (k:Nat):Cn:=⟨[.val (.slice aB),.val .str],[aB,.bool],true,false,fun x=>f k x.1 x.2.1⟩
def E (k:Nat):dO:=en [] [(2,[0,1,4,6])] 0 [] k
section
variable (k:Nat) (a0:List (Ty.d aB)) (a1:ByteArray)
def K0:Ex→St→Rs:=cR (E k) (eK (E k) Tryz.f94 (C k) (a0,a1,())) [.blk 0,.code (at_ (bt 2 3) (body Tryz.f94))]
def V0 (n0:Nat):T0:=fun x0 x1 x2 x3 x4 x5 x6 x7=>ao (bo (E k) (at_ (bt 5 5) (body Tryz.f94))) (ak 0 [0,1,4,6]) (K0 k a0 a1) n0 (mk 25 1 [(0,.sl true aB x0),(1,.str x1),(4,.ptr 0 0 0),(6,.int .i64 x2)] [(0,.box [.str x3,.int .i64 x4,.int .i64 x5,.int .i64 x6,.int .i64 x7])])
theorem s0 (n0:Nat):V0 k a0 a1 (n0+1)=b0 k (V0 k a0 a1 n0):=by kernel_rfl
theorem e0:V0 k a0 a1=l0 k:=aY rfl (s0 k a0 a1) fun _=>rfl
end
theorem eq (k:Nat) (a0:List (Ty.d aB)) (a1:ByteArray):rn (E k) Tryz.f94 (C k) (a0,a1,())=f k a0 a1:=(show _=t k (V0 k a0 a1 k) a0 a1 by kernel_rfl).trans (by rw [e0];rfl)
theorem ctr (k:Nat):Cp 94 (C k):=rc rfl [] (by kernel_rfl) Tryz.func94 (by kernel_rfl) rfl fun ⟨a0,a1,_⟩ r h=>(eq k a0 a1).trans h
end eU
namespace kQ
def C (k:Nat):Cn:=⟨[.val aE,.val aA,.val .str],[aL,(.int .i64)],true,false,fun x=>f k x.1 x.2.1 x.2.2.1⟩
def D (k:Nat):List Ce:=[q (eU.ctr k),q (aU.ctr k),q (ba.ctr k),q (ic.ctr k)]
def E (k:Nat):dO:=en (D k) [] 0 [] k
theorem eq (k:Nat) (a0:Ty.d aE) (a1:Ty.d aA) (a2:ByteArray):rn (E k) Tryz.f48 (C k) (a0,a1,a2,())=f k a0 a1 a2:=by kernel_rfl
theorem ctr (k:Nat):Cp 48 (C k):=rc rfl (D k) (by kernel_rfl) Tryz.func48 (by kernel_rfl) rfl fun ⟨a0,a1,a2,_⟩ r h=>(eq k a0 a1 a2).trans h
end kQ
namespace eO
def C (k:Nat):Cn:=⟨[.val aE,.val aA],[(.slice aL),(.int .i64)],true,false,fun x=>f k x.1 x.2.1⟩
def D (k:Nat):List Ce:=[q (kQ.ctr k)]
def E (k:Nat):dO:=en (D k) [(3,[2,3,6,7])] 0 [] k
section
variable (k:Nat) (a0:Ty.d aE) (a1:Ty.d aA)
def K0:Ex→St→Rs:=cR (E k) (eK (E k) Tryz.f15 (C k) (a0,a1,())) [.blk 0,.code (at_ (bt 3 7) (body Tryz.f15))]
def V0 (n0:Nat):T0:=fun x0 x1 x2 x3 x4 x5 x6 x7 x8 x9 x10 x11=>ao (bo (E k) (at_ (bt 6 11) (body Tryz.f15))) (ak 0 [2,3,6,7]) (K0 k a0 a1) n0 (mk 39 3 [(2,.ptr 0 0 0),(3,.ptr 1 0 0),(6,.ref 2),(7,.int .i64 x0)] [(0,.box [.int .i64 x1,.sl true (.int .i64) x2,.sl true aB x3,.int .i64 x4,.int .i64 x5,.int .i64 x6]),(1,.box [.sl true aL x7,.int .i64 x8,.int .i64 x9,.bool x10]),(2,.own false aL x11)])
theorem s0 (n0:Nat):V0 k a0 a1 (n0+1)=b0 k (V0 k a0 a1 n0):=by kernel_rfl
theorem e0:V0 k a0 a1=l0 k:=aY rfl (s0 k a0 a1) fun _=>rfl
end
theorem eq (k:Nat) (a0:Ty.d aE) (a1:Ty.d aA):rn (E k) Tryz.f15 (C k) (a0,a1,())=f k a0 a1:=(show _=t k (V0 k a0 a1 k) a0 a1 by kernel_rfl).trans (by rw [e0];rfl)
theorem ctr (k:Nat):Cp 15 (C k):=rc rfl (D k) (by kernel_rfl) Tryz.func15 (by kernel_rfl) rfl fun ⟨a0,a1,_⟩ r h=>(eq k a0 a1).trans h
end eO
namespace k9
def C (k:Nat):Cn:=⟨[.val aL],[b7],true,false,fun x=>f k x.1⟩
def E (k:Nat):dO:=en [] [] 0 [] k
theorem eq (k:Nat) (a0:Ty.d aL):rn (E k) Tryz.f157 (C k) (a0,())=f k a0:=by kernel_rfl
theorem ctr (k:Nat):Cp 157 (C k):=rc rfl [] (by kernel_rfl) Tryz.func157 (by kernel_rfl) rfl fun ⟨a0,_⟩ r h=>(eq k a0).trans h
end k9
namespace gZ
def C (k:Nat):Cn:=⟨[.val (.slice b7),.val (.int .i64),.val (.int .i64)],[b7],true,false,fun x=>f k x.1 x.2.1 x.2.2.1⟩
def D (k:Nat):List Ce:=[q (fX.ctr k)]
def E (k:Nat):dO:=en (D k) [] 0 [] k
theorem eq (k:Nat) (a0:List (Ty.d b7)) (a1:Int) (a2:Int):rn (E k) Tryz.f159 (C k) (a0,a1,a2,())=f k a0 a1 a2:=by kernel_rfl
theorem ctr (k:Nat):Cp 159 (C k):=rc rfl (D k) (by kernel_rfl) Tryz.func159 (by kernel_rfl) rfl fun ⟨a0,a1,a2,_⟩ r h=>(eq k a0 a1 a2).trans h
end gZ
namespace dT
def C (k:Nat):Cn:=⟨[.val aA,.val (.int .i64),.val (.slice aL),.val (.int .i64)],[aA,(.slice aB),(.int .i64)],true,false,fun x=>f k x.1 x.2.1 x.2.2.1 x.2.2.2.1⟩
def D (k:Nat):List Ce:=[q (aU.ctr k),q (dS.ctr k),q (k9.ctr k),q (cC.ctr k),q (fH.ctr k),q (dZ.ctr k),q (gZ.ctr k),q (dw.ctr k),q (aV.ctr k)]
def E (k:Nat):dO:=en (D k) [(6,[1,2,3,8,11,12,13,14,15,16])] 0 [] k
section
variable (k:Nat) (a0:Ty.d aA) (a1:Int) (a2:List (Ty.d aL)) (a3:Int)
def K0:Ex→St→Rs:=cR (E k) (eK (E k) Tryz.f118 (C k) (a0,a1,a2,a3,())) [.blk 0,.code (at_ (bt 6 63) (body Tryz.f118))]
def V0 (n0:Nat):T0:=fun x0 x1 x2 x3 x4 x5 x6 x7 x8 x9 x10 x11 x12 x13 x14 x15=>ao (bo (E k) (at_ (bt 9 95) (body Tryz.f118))) (ak 0 [1,2,3,8,11,12,13,14,15,16]) (K0 k a0 a1 a2 a3) n0 (mk 101 6 [(1,.int .i64 x0),(2,.sl true aL x1),(3,.int .i64 x2),(8,.ptr 0 0 0),(11,.ref 2),(12,.ptr 3 0 0),(13,.int .i64 x3),(14,.ref 5),(15,.int .i64 x4),(16,.int .i64 x5)] [(1,.own false aL x6),(0,.box [.ref 1,.int .i64 x7,.int .i64 x8,.bool x9]),(2,.own false aB x10),(4,.own false aL x11),(3,.box [.ref 4,.int .i64 x12,.int .i64 x13,.bool x14]),(5,.own false b7 x15)])
theorem s0 (n0:Nat):V0 k a0 a1 a2 a3 (n0+1)=b0 k (V0 k a0 a1 a2 a3 n0):=by kernel_rfl
theorem e0:V0 k a0 a1 a2 a3=l0 k:=aY rfl (s0 k a0 a1 a2 a3) fun _=>rfl
end
theorem eq (k:Nat) (a0:Ty.d aA) (a1:Int) (a2:List (Ty.d aL)) (a3:Int):rn (E k) Tryz.f118 (C k) (a0,a1,a2,a3,())=f k a0 a1 a2 a3:=(show _=t k (V0 k a0 a1 a2 a3 k) a0 a1 a2 a3 by kernel_rfl).trans (by rw [e0];rfl)
theorem ctr (k:Nat):Cp 118 (C k):=rc rfl (D k) (by kernel_rfl) Tryz.func118 (by kernel_rfl) rfl fun ⟨a0,a1,a2,a3,_⟩ r h=>(eq k a0 a1 a2 a3).trans h
end dT
namespace br
def C (k:Nat):Cn:=⟨[.give aA,.val (.slice .str)],[aA,(.int .i64)],true,false,fun x=>f k x.1 x.2.1⟩
def D (k:Nat):List Ce:=[q (b_.ctr k),q (g7.ctr k)]
def E (k:Nat):dO:=en (D k) [(2,[1,2,4,6])] 0 [] k
section
variable (k:Nat) (a0:Ty.d aA) (a1:List ByteArray)
def K0:Ex→St→Rs:=cR (E k) (eK (E k) Tryz.f122 (C k) (a0,a1,())) [.blk 0,.code (at_ (bt 2 3) (body Tryz.f122))]
def V0 (n0:Nat):T0:=fun x0 x1 x2 x3 x4 x5 x6 x7 x8 x9=>ao (bo (E k) (at_ (bt 5 5) (body Tryz.f122))) (ak 0 [1,2,4,6]) (K0 k a0 a1) n0 (mk 37 4 [(1,.sl true .str x0),(2,.ptr 0 0 0),(4,.ptr 2 0 0),(6,.int .i64 x1)] [(1,.own false aL x2),(0,.box [.ref 1,.int .i64 x3,.int .i64 x4,.bool x5]),(3,.own false aL x6),(2,.box [.ref 3,.int .i64 x7,.int .i64 x8,.bool x9])])
theorem s0 (n0:Nat):V0 k a0 a1 (n0+1)=b0 k (V0 k a0 a1 n0):=by kernel_rfl
theorem e0:V0 k a0 a1=l0 k:=aY rfl (s0 k a0 a1) fun _=>rfl
end
theorem eq (k:Nat) (a0:Ty.d aA) (a1:List ByteArray):rn (E k) Tryz.f122 (C k) (a0,a1,())=f k a0 a1:=(show _=t k (V0 k a0 a1 k) a0 a1 by kernel_rfl).trans (by rw [e0];rfl)
theorem ctr (k:Nat):Cp 122 (C k):=rc rfl (D k) (by kernel_rfl) Tryz.func122 (by kernel_rfl) rfl fun ⟨a0,a1,_⟩ r h=>(eq k a0 a1).trans h
end br
namespace dR
def C (k:Nat):Cn:=⟨[.give aE,.give aA,.val (.int .i64),.val (.int .i64)],[aE,aA,(.int .i64)],true,false,fun x=>f k x.1 x.2.1 x.2.2.1 x.2.2.2.1⟩
def D (k:Nat):List Ce:=[q (aU.ctr k),q (cX.ctr k),q (br.ctr k),q (aV.ctr k)]
def E (k:Nat):dO:=en (D k) [] 0 [] k
theorem eq (k:Nat) (a0:Ty.d aE) (a1:Ty.d aA) (a2:Int) (a3:Int):rn (E k) Tryz.f119 (C k) (a0,a1,a2,a3,())=f k a0 a1 a2 a3:=by kernel_rfl
theorem ctr (k:Nat):Cp 119 (C k):=rc rfl (D k) (by kernel_rfl) Tryz.func119 (by kernel_rfl) rfl fun ⟨a0,a1,a2,a3,_⟩ r h=>(eq k a0 a1 a2 a3).trans h
end dR
namespace bj
def C (k:Nat):Cn:=⟨[.give aE,.val aA,.val (.slice aL)],[aE,aA,(.int .i64)],true,false,fun x=>f k x.1 x.2.1 x.2.2.1⟩
def D (k:Nat):List Ce:=[q (dT.ctr k),q (dR.ctr k),q (aU.ctr k),q (dS.ctr k),q (aV.ctr k),q (ba.ctr k),q (dU.ctr k),q (cX.ctr k),q (dM.ctr k),q (gL.ctr k),q (br.ctr k),q (eC.ctr k)]
def E (k:Nat):dO:=en (D k) [(26,[3,6,7,10,18,20])] 0 [] k
section
variable (k:Nat) (a0:Ty.d aE) (a1:Ty.d aA) (a2:List (Ty.d aL))
def K0:Ex→St→Rs:=cR (E k) (eK (E k) Tryz.f76 (C k) (a0,a1,a2,())) [.blk 0,.code (at_ (bt 21 2097151) (body Tryz.f76))]
def V0 (n0:Nat):T0:=fun x0 x1 x2 x3 x4 x5 x6 x7 x8 x9 x10 x11 x12 x13 x14 x15 x16 x17 x18 x19 x20 x21=>ao (bo (E k) (at_ (bt 24 3145727) (body Tryz.f76))) (ak 0 [3,6,7,10,18,20]) (K0 k a0 a1 a2) n0 (mk 170 11 [(3,.ptr 0 0 0),(6,.ptr 3 0 0),(7,.ptr 6 0 0),(10,.ptr 8 0 0),(18,.ref 10),(20,.int .i64 x0)] [(1,.own false (.int .i64) x1),(2,.own false aB x2),(0,.box [.int .i64 x3,.ref 1,.ref 2,.int .i64 x4,.int .i64 x5,.int .i64 x6]),(4,.own false (.int .i64) x7),(5,.own false aB x8),(3,.box [.int .i64 x9,.ref 4,.ref 5,.int .i64 x10,.int .i64 x11,.int .i64 x12]),(7,.own false aL x13),(6,.box [.ref 7,.int .i64 x14,.int .i64 x15,.bool x16]),(9,.own false aL x17),(8,.box [.ref 9,.int .i64 x18,.int .i64 x19,.bool x20]),(10,.own false (.int .i64) x21)])
theorem s0 (n0:Nat):V0 k a0 a1 a2 (n0+1)=b0 k (V0 k a0 a1 a2 n0):=by kernel_rfl
theorem e0:V0 k a0 a1 a2=l0 k:=aY rfl (s0 k a0 a1 a2) fun _=>rfl
end
theorem eq (k:Nat) (a0:Ty.d aE) (a1:Ty.d aA) (a2:List (Ty.d aL)):rn (E k) Tryz.f76 (C k) (a0,a1,a2,())=f k a0 a1 a2:=(show _=t k (V0 k a0 a1 a2 k) a0 a1 a2 by kernel_rfl).trans (by rw [e0];rfl)
theorem ctr (k:Nat):Cp 76 (C k):=rc rfl (D k) (by kernel_rfl) Tryz.func76 (by kernel_rfl) rfl fun ⟨a0,a1,a2,_⟩ r h=>(eq k a0 a1 a2).trans h
end bj
namespace jm
def C (k:Nat):Cn:=⟨[.val aE,.val aA],[aE,aA,(.int .i64)],true,false,fun x=>f k x.1 x.2.1⟩
def D (k:Nat):List Ce:=[q (co.ctr k),q (bw.ctr k),q (cB.ctr k),q (eO.ctr k),q (bj.ctr k)]
def E (k:Nat):dO:=en (D k) [] 0 [] k
theorem eq (k:Nat) (a0:Ty.d aE) (a1:Ty.d aA):rn (E k) Tryz.f31 (C k) (a0,a1,())=f k a0 a1:=by kernel_rfl
theorem ctr (k:Nat):Cp 31 (C k):=rc rfl (D k) (by kernel_rfl) Tryz.func31 (by kernel_rfl) rfl fun ⟨a0,a1,_⟩ r h=>(eq k a0 a1).trans h
end jm
namespace ez
def C (k:Nat):Cn:=⟨[.val (.slice aB)],[(.slice .str)],true,false,fun x=>f k x.1⟩
def E (k:Nat):dO:=en [] [(3,[0,3,4])] 0 [] k
section
variable (k:Nat) (a0:List (Ty.d aB))
def K0:Ex→St→Rs:=cR (E k) (eK (E k) Tryz.f32 (C k) (a0,())) [.blk 0,.code (at_ (bt 3 7) (body Tryz.f32))]
def V0 (n0:Nat):T0:=fun x0 x1 x2=>ao (bo (E k) (at_ (bt 6 11) (body Tryz.f32))) (ak 0 [0,3,4]) (K0 k a0) n0 (mk 21 1 [(0,.sl true aB x0),(3,.ref 0),(4,.int .i64 x1)] [(0,.own false .str x2)])
theorem s0 (n0:Nat):V0 k a0 (n0+1)=b0 k (V0 k a0 n0):=by kernel_rfl
theorem e0:V0 k a0=l0 k:=aY rfl (s0 k a0) fun _=>rfl
end
theorem eq (k:Nat) (a0:List (Ty.d aB)):rn (E k) Tryz.f32 (C k) (a0,())=f k a0:=(show _=t k (V0 k a0 k) a0 by kernel_rfl).trans (by rw [e0];rfl)
theorem ctr (k:Nat):Cp 32 (C k):=rc rfl [] (by kernel_rfl) Tryz.func32 (by kernel_rfl) rfl fun ⟨a0,_⟩ r h=>(eq k a0).trans h
end ez
namespace dL
def C (k:Nat):Cn:=⟨[.val du,.val .str],[dI,.bool],true,false,fun x=>f k x.1 x.2.1⟩
def E (k:Nat):dO:=en [] [(2,[1,2,4,6])] 0 [] k
section
variable (k:Nat) (a0:Ty.d du) (a1:ByteArray)
def K0:Ex→St→Rs:=cR (E k) (eK (E k) Tryz.f78 (C k) (a0,a1,())) [.blk 0,.code (at_ (bt 2 3) (body Tryz.f78))]
def V0 (n0:Nat):T0:=fun x0 x1 x2 x3 x4 x5 x6 x7=>ao (bo (E k) (at_ (bt 5 5) (body Tryz.f78))) (ak 0 [1,2,4,6]) (K0 k a0 a1) n0 (mk 29 2 [(1,.str x0),(2,.ptr 0 0 0),(4,.ptr 1 0 0),(6,.int .i64 x1)] [(0,.box [.bool x2,.sl true eh x3,.sl true dI x4]),(1,.box [.str x5,.bool x6,.str x7])])
theorem s0 (n0:Nat):V0 k a0 a1 (n0+1)=b0 k (V0 k a0 a1 n0):=by kernel_rfl
theorem e0:V0 k a0 a1=l0 k:=aY rfl (s0 k a0 a1) fun _=>rfl
end
theorem eq (k:Nat) (a0:Ty.d du) (a1:ByteArray):rn (E k) Tryz.f78 (C k) (a0,a1,())=f k a0 a1:=(show _=t k (V0 k a0 a1 k) a0 a1 by kernel_rfl).trans (by rw [e0];rfl)
theorem ctr (k:Nat):Cp 78 (C k):=rc rfl [] (by kernel_rfl) Tryz.func78 (by kernel_rfl) rfl fun ⟨a0,a1,_⟩ r h=>(eq k a0 a1).trans h
end dL
namespace fB
def C (k:Nat):Cn:=⟨[.val du,.val .str,.val (.int .i64)],[du,(.int .i64)],true,false,fun x=>f k x.1 x.2.1 x.2.2.1⟩
def D (k:Nat):List Ce:=[q (eJ.ctr k),q (cZ.ctr k)]
def E (k:Nat):dO:=en (D k) [(5,[1,2,3,6,8,9])] 0 [] k
section
variable (k:Nat) (a0:Ty.d du) (a1:ByteArray) (a2:Int)
def K0:Ex→St→Rs:=cR (E k) (eK (E k) Tryz.f79 (C k) (a0,a1,a2,())) [.blk 0,.code (at_ (bt 4 15) (body Tryz.f79))]
def V0 (n0:Nat):T0:=fun x0 x1 x2 x3 x4 x5 x6 x7 x8 x9 x10 x11=>ao (bo (E k) (at_ (bt 7 23) (body Tryz.f79))) (ak 0 [1,2,3,6,8,9]) (K0 k a0 a1 a2) n0 (mk 60 7 [(1,.str x0),(2,.int .i64 x1),(3,.ptr 0 0 0),(6,.ptr 1 0 0),(8,.ptr 4 0 0),(9,.int .i64 x2)] [(0,.box [.bool x3,.sl true eh x4,.sl true dI x5]),(2,.own false eh x6),(3,.own false dI x7),(1,.box [.bool x8,.ref 2,.ref 3]),(5,.own false eh x9),(6,.own false dI x10),(4,.box [.bool x11,.ref 5,.ref 6])])
theorem s0 (n0:Nat):V0 k a0 a1 a2 (n0+1)=b0 k (V0 k a0 a1 a2 n0):=by kernel_rfl
theorem e0:V0 k a0 a1 a2=l0 k:=aY rfl (s0 k a0 a1 a2) fun _=>rfl
end
theorem eq (k:Nat) (a0:Ty.d du) (a1:ByteArray) (a2:Int):rn (E k) Tryz.f79 (C k) (a0,a1,a2,())=f k a0 a1 a2:=(show _=t k (V0 k a0 a1 a2 k) a0 a1 a2 by kernel_rfl).trans (by rw [e0];rfl)
theorem ctr (k:Nat):Cp 79 (C k):=rc rfl (D k) (by kernel_rfl) Tryz.func79 (by kernel_rfl) rfl fun ⟨a0,a1,a2,_⟩ r h=>(eq k a0 a1 a2).trans h
end fB
namespace eo
def C (k:Nat):Cn:=⟨[.give dc,.val bg],[dc,qZ],true,true,fun x=>f k x.1 x.2.1⟩
def D (k:Nat):List Ce:=[q (cZ.ctr k),q (dL.ctr k),q (kQ.ctr k),q (fB.ctr k)]
def E (k:Nat):dO:=en (D k) [] 0 [] k
theorem eq (k:Nat) (a0:Ty.d dc) (a1:Ty.d bg):rn (E k) Tryz.f33 (C k) (a0,a1,())=f k a0 a1:=by kernel_rfl
theorem ctr (k:Nat):Cp 33 (C k):=rc rfl (D k) (by kernel_rfl) Tryz.func33 (by kernel_rfl) rfl fun ⟨a0,a1,_⟩ r h=>(eq k a0 a1).trans h
end eo
namespace gE
def C (k:Nat):Cn:=⟨[.val du,.val (.slice aB)],[.bool],true,false,fun x=>f k x.1 x.2.1⟩
def D (k:Nat):List Ce:=[q (eU.ctr k)]
def E (k:Nat):dO:=en (D k) [(2,[1,2,5])] 0 [] k
section
variable (k:Nat) (a0:Ty.d du) (a1:List (Ty.d aB))
def K0:Ex→St→Rs:=cR (E k) (eK (E k) Tryz.f80 (C k) (a0,a1,())) [.blk 0,.code (at_ (bt 2 3) (body Tryz.f80))]
def V0 (n0:Nat):T0:=fun x0 x1 x2 x3 x4=>ao (bo (E k) (at_ (bt 5 5) (body Tryz.f80))) (ak 0 [1,2,5]) (K0 k a0 a1) n0 (mk 35 1 [(1,.sl true aB x0),(2,.ptr 0 0 0),(5,.int .i64 x1)] [(0,.box [.bool x2,.sl true eh x3,.sl true dI x4])])
theorem s0 (n0:Nat):V0 k a0 a1 (n0+1)=b0 k (V0 k a0 a1 n0):=by kernel_rfl
theorem e0:V0 k a0 a1=l0 k:=aY rfl (s0 k a0 a1) fun _=>rfl
end
theorem eq (k:Nat) (a0:Ty.d du) (a1:List (Ty.d aB)):rn (E k) Tryz.f80 (C k) (a0,a1,())=f k a0 a1:=(show _=t k (V0 k a0 a1 k) a0 a1 by kernel_rfl).trans (by rw [e0];rfl)
theorem ctr (k:Nat):Cp 80 (C k):=rc rfl (D k) (by kernel_rfl) Tryz.func80 (by kernel_rfl) rfl fun ⟨a0,a1,_⟩ r h=>(eq k a0 a1).trans h
end gE
namespace bI
def C (k:Nat):Cn:=⟨[.val du],[(.slice dI)],true,false,fun x=>f k x.1⟩
def D (k:Nat):List Ce:=[q (dL.ctr k)]
def E (k:Nat):dO:=en (D k) [(3,[1,3,4]),(7,[1,3,4,5,6])] 0 [] k
section
variable (k:Nat) (a0:Ty.d du)
def K0:Ex→St→Rs:=cR (E k) (eK (E k) Tryz.f82 (C k) (a0,())) [.blk 0,.code (at_ (bt 3 7) (body Tryz.f82))]
def B0 (n0:Nat):Ex→St→Rs:=KO (E k) (at_ (bt 6 11) (body Tryz.f82)) 0 [1,3,4] (K0 k a0) n0
def K1 (n0:Nat):Ex→St→Rs:=cR (E k) (B0 k a0 n0) [.blk 2,.code (at_ (bt 11 1611) (body Tryz.f82)),.blk 1,.code (at_ (bt 8 203) (body Tryz.f82))]
def V0 (n0:Nat):T0:=fun x0 x1 x2 x3 x4=>ao (bo (E k) (at_ (bt 6 11) (body Tryz.f82))) (ak 0 [1,3,4]) (K0 k a0) n0 (mk 55 2 [(1,.ptr 0 0 0),(3,.ref 1),(4,.int .i64 x0)] [(0,.box [.bool x1,.sl true eh x2,.sl true dI x3]),(1,.own false dI x4)])
def V1 (n0 n1:Nat):T1:=fun x0 x1 x2 x3 x4 x5 x6=>ao (bo (E k) (at_ (bt 14 2635) (body Tryz.f82))) (ak 0 [1,3,4,5,6]) (K1 k a0 n0) n1 (mk 55 2 [(1,.ptr 0 0 0),(3,.ref 1),(4,.int .i64 x0),(5,.bool x1),(6,.int .i64 x2)] [(0,.box [.bool x3,.sl true eh x4,.sl true dI x5]),(1,.own false dI x6)])
theorem s0 (n0:Nat):V0 k a0 (n0+1)=b0 k (V1 k a0 n0 k) (V0 k a0 n0):=by kernel_rfl
theorem s1 (n0 n1:Nat):V1 k a0 n0 (n1+1)=b1 k (V0 k a0 n0) (V1 k a0 n0 n1):=by kernel_rfl
theorem e1 (n0:Nat):V1 k a0 n0=l1 k (V0 k a0 n0):=aY rfl (s1 k a0 n0) fun _=>rfl
theorem e0 (n0:Nat):V0 k a0 n0=l0 k n0:=by
 induction n0 with
 | zero=>rfl
 | succ n0 ih =>
  have h:V0 k a0 (n0+1)=b0 k (V1 k a0 n0 k) (V0 k a0 n0):=s0 k a0 n0
  rw [h,e1,ih]
  rfl
end
theorem eq (k:Nat) (a0:Ty.d du):rn (E k) Tryz.f82 (C k) (a0,())=f k a0:=(show _=t k (V0 k a0 k) a0 by kernel_rfl).trans (by rw [e0];rfl)
theorem ctr (k:Nat):Cp 82 (C k):=rc rfl (D k) (by kernel_rfl) Tryz.func82 (by kernel_rfl) rfl fun ⟨a0,_⟩ r h=>(eq k a0).trans h
end bI
namespace cF
def C (k:Nat):Cn:=⟨[.val (.slice dI)],[.bool],true,false,fun x=>f k x.1⟩
def D (k:Nat):List Ce:=[q (cZ.ctr k)]
def E (k:Nat):dO:=en (D k) [(4,[0,3])] 0 [] k
section
variable (k:Nat) (a0:List (Ty.d dI))
def K0:Ex→St→Rs:=cR (E k) (eK (E k) Tryz.f35 (C k) (a0,())) [.blk 0,.code (at_ (bt 3 7) (body Tryz.f35))]
def V0 (n0:Nat):T0:=fun x0 x1=>ao (bo (E k) (at_ (bt 6 11) (body Tryz.f35))) (ak 0 [0,3]) (K0 k a0) n0 (mk 44 0 [(0,.sl true dI x0),(3,.int .i64 x1)] [])
theorem s0 (n0:Nat):V0 k a0 (n0+1)=b0 k (V0 k a0 n0):=by kernel_rfl
theorem e0:V0 k a0=l0 k:=aY rfl (s0 k a0) fun _=>rfl
end
theorem eq (k:Nat) (a0:List (Ty.d dI)):rn (E k) Tryz.f35 (C k) (a0,())=f k a0:=(show _=t k (V0 k a0 k) a0 by kernel_rfl).trans (by rw [e0];rfl)
theorem ctr (k:Nat):Cp 35 (C k):=rc rfl (D k) (by kernel_rfl) Tryz.func35 (by kernel_rfl) rfl fun ⟨a0,_⟩ r h=>(eq k a0).trans h
end cF
namespace d6
def C (k:Nat):Cn:=⟨[.val (.slice aB),.val (.slice dI)],[(.int .i64)],true,false,fun x=>f k x.1 x.2.1⟩
def D (k:Nat):List Ce:=[q (cm.ctr k),q (bz.ctr k)]
def E (k:Nat):dO:=en (D k) [(2,[0,1,5])] 0 [] k
section
variable (k:Nat) (a0:List (Ty.d aB)) (a1:List (Ty.d dI))
def K0:Ex→St→Rs:=cR (E k) (eK (E k) Tryz.f123 (C k) (a0,a1,())) [.blk 0,.code (at_ (bt 2 3) (body Tryz.f123))]
def V0 (n0:Nat):T0:=fun x0 x1 x2=>ao (bo (E k) (at_ (bt 5 5) (body Tryz.f123))) (ak 0 [0,1,5]) (K0 k a0 a1) n0 (mk 34 0 [(0,.sl true aB x0),(1,.sl true dI x1),(5,.int .i64 x2)] [])
def V1 (n0:Nat):T1:=fun x0 x1 x2=>ao (bo (E k) (at_ (bt 5 5) (body Tryz.f123))) (ak 0 [0,1,5]) (K0 k a0 a1) n0 (mk 34 1 [(0,.ref 0),(1,.sl true dI x0),(5,.int .i64 x1)] [(0,.own false aB x2)])
theorem s0 (n0:Nat):V0 k a0 a1 (n0+1)=b0 k (V1 k a0 a1 n0):=by kernel_rfl
theorem s1 (n0:Nat):V1 k a0 a1 (n0+1)=b1 k (V1 k a0 a1 n0):=by kernel_rfl
theorem e1:V1 k a0 a1=l1 k:=aY rfl (s1 k a0 a1) fun _=>rfl
theorem e0 (n0:Nat):V0 k a0 a1 n0=l0 k n0:=by
 induction n0 with
 | zero=>rfl
 | succ n0 ih =>
  have h:V0 k a0 a1 (n0+1)=b0 k (V1 k a0 a1 n0):=s0 k a0 a1 n0
  rw [h,e1]
  rfl
end
theorem eq (k:Nat) (a0:List (Ty.d aB)) (a1:List (Ty.d dI)):rn (E k) Tryz.f123 (C k) (a0,a1,())=f k a0 a1:=(show _=t k (V0 k a0 a1 k) a0 a1 by kernel_rfl).trans (by rw [e0];rfl)
theorem ctr (k:Nat):Cp 123 (C k):=rc rfl (D k) (by kernel_rfl) Tryz.func123 (by kernel_rfl) rfl fun ⟨a0,a1,_⟩ r h=>(eq k a0 a1).trans h
end d6
namespace ck
def C (k:Nat):Cn:=⟨[.val aE],[.str],true,false,fun x=>f k x.1⟩
def D (k:Nat):List Ce:=[q (aU.ctr k)]
def E (k:Nat):dO:=en (D k) [] 0 [] k
theorem eq (k:Nat) (a0:Ty.d aE):rn (E k) Tryz.f161 (C k) (a0,())=f k a0:=by kernel_rfl
theorem ctr (k:Nat):Cp 161 (C k):=rc rfl (D k) (by kernel_rfl) Tryz.func161 (by kernel_rfl) rfl fun ⟨a0,_⟩ r h=>(eq k a0).trans h
end ck
namespace fK
def C (k:Nat):Cn:=⟨[.give aE,.give aA],[aE,aA,(.int .i64)],true,false,fun x=>f k x.1 x.2.1⟩
def D (k:Nat):List Ce:=[q (ck.ctr k),q (dw.ctr k),q (aV.ctr k),q (aU.ctr k),q (dS.ctr k),q (eC.ctr k),q (br.ctr k)]
def E (k:Nat):dO:=en (D k) [] 0 [] k
theorem eq (k:Nat) (a0:Ty.d aE) (a1:Ty.d aA):rn (E k) Tryz.f169 (C k) (a0,a1,())=f k a0 a1:=by kernel_rfl
theorem ctr (k:Nat):Cp 169 (C k):=rc rfl (D k) (by kernel_rfl) Tryz.func169 (by kernel_rfl) rfl fun ⟨a0,a1,_⟩ r h=>(eq k a0 a1).trans h
end fK
namespace dl
def C (k:Nat):Cn:=⟨[.give aE,.give aA,.val b7],[aE,aA,aC,(.int .i64)],true,false,fun x=>f k x.1 x.2.1 x.2.2.1⟩
def D (k:Nat):List Ce:=[q (cC.ctr k),q (fH.ctr k),q (fK.ctr k),q (ck.ctr k),q (dZ.ctr k),q (aV.ctr k)]
def E (k:Nat):dO:=en (D k) [] 0 [] k
theorem eq (k:Nat) (a0:Ty.d aE) (a1:Ty.d aA) (a2:Ty.d b7):rn (E k) Tryz.f160 (C k) (a0,a1,a2,())=f k a0 a1 a2:=by kernel_rfl
theorem ctr (k:Nat):Cp 160 (C k):=rc rfl (D k) (by kernel_rfl) Tryz.func160 (by kernel_rfl) rfl fun ⟨a0,a1,a2,_⟩ r h=>(eq k a0 a1 a2).trans h
end dl
namespace bR
def C (k:Nat):Cn:=⟨[.give aE,.give aA,.give (.slice dI)],[aE,aA,(.int .i64)],true,false,fun x=>f k x.1 x.2.1 x.2.2.1⟩
def D (k:Nat):List Ce:=[q (dl.ctr k),q (gj.ctr k),q (gZ.ctr k),q (ck.ctr k),q (dw.ctr k),q (aV.ctr k)]
def E (k:Nat):dO:=en (D k) [(6,[2,3,4,6,7,9,10,11,12])] 0 [] k
section
variable (k:Nat) (a0:Ty.d aE) (a1:Ty.d aA) (a2:List (Ty.d dI))
def K0:Ex→St→Rs:=cR (E k) (eK (E k) Tryz.f124 (C k) (a0,a1,a2,())) [.blk 0,.code (at_ (bt 6 63) (body Tryz.f124))]
def V0 (n0:Nat):T0:=fun x0 x1 x2 x3 x4 x5 x6 x7 x8 x9 x10 x11 x12 x13 x14 x15 x16 x17 x18 x19 x20 x21 x22 x23 x24=>ao (bo (E k) (at_ (bt 9 95) (body Tryz.f124))) (ak 0 [2,3,4,6,7,9,10,11,12]) (K0 k a0 a1 a2) n0 (mk 111 13 [(2,.ref 0),(3,.ptr 1 0 0),(4,.ptr 4 0 0),(6,.ptr 6 0 0),(7,.ptr 9 0 0),(9,.int .i64 x0),(10,.ref 11),(11,.ref 12),(12,.int .i64 x1)] [(0,.own false dI x2),(2,.own false (.int .i64) x3),(3,.own false aB x4),(1,.box [.int .i64 x5,.ref 2,.ref 3,.int .i64 x6,.int .i64 x7,.int .i64 x8]),(5,.own false aL x9),(4,.box [.ref 5,.int .i64 x10,.int .i64 x11,.bool x12]),(7,.own false (.int .i64) x13),(8,.own false aB x14),(6,.box [.int .i64 x15,.ref 7,.ref 8,.int .i64 x16,.int .i64 x17,.int .i64 x18]),(10,.own false aL x19),(9,.box [.ref 10,.int .i64 x20,.int .i64 x21,.bool x22]),(11,.own false b7 x23),(12,.own false aB x24)])
theorem s0 (n0:Nat):V0 k a0 a1 a2 (n0+1)=b0 k (V0 k a0 a1 a2 n0):=by kernel_rfl
theorem e0:V0 k a0 a1 a2=l0 k:=aY rfl (s0 k a0 a1 a2) fun _=>rfl
end
theorem eq (k:Nat) (a0:Ty.d aE) (a1:Ty.d aA) (a2:List (Ty.d dI)):rn (E k) Tryz.f124 (C k) (a0,a1,a2,())=f k a0 a1 a2:=(show _=t k (V0 k a0 a1 a2 k) a0 a1 a2 by kernel_rfl).trans (by rw [e0];rfl)
theorem ctr (k:Nat):Cp 124 (C k):=rc rfl (D k) (by kernel_rfl) Tryz.func124 (by kernel_rfl) rfl fun ⟨a0,a1,a2,_⟩ r h=>(eq k a0 a1 a2).trans h
end bR
namespace gW
def C (k:Nat):Cn:=⟨[.val aE,.val aA,.give (.slice dI)],[aE,aA,(.int .i64)],true,false,fun x=>f k x.1 x.2.1 x.2.2.1⟩
def D (k:Nat):List Ce:=[q (co.ctr k),q (bw.ctr k),q (cB.ctr k),q (cF.ctr k),q (d6.ctr k),q (bR.ctr k)]
def E (k:Nat):dO:=en (D k) [] 0 [] k
theorem eq (k:Nat) (a0:Ty.d aE) (a1:Ty.d aA) (a2:List (Ty.d dI)):rn (E k) Tryz.f81 (C k) (a0,a1,a2,())=f k a0 a1 a2:=by kernel_rfl
theorem ctr (k:Nat):Cp 81 (C k):=rc rfl (D k) (by kernel_rfl) Tryz.func81 (by kernel_rfl) rfl fun ⟨a0,a1,a2,_⟩ r h=>(eq k a0 a1 a2).trans h
end gW
namespace d_
def C (k:Nat):Cn:=⟨[.give dc,.val bg],[dc,qZ],true,true,fun x=>f k x.1 x.2.1⟩
def D (k:Nat):List Ce:=[q (gE.ctr k),q (bI.ctr k),q (gW.ctr k)]
def E (k:Nat):dO:=en (D k) [] 0 [] k
theorem eq (k:Nat) (a0:Ty.d dc) (a1:Ty.d bg):rn (E k) Tryz.f34 (C k) (a0,a1,())=f k a0 a1:=by kernel_rfl
theorem ctr (k:Nat):Cp 34 (C k):=rc rfl (D k) (by kernel_rfl) Tryz.func34 (by kernel_rfl) rfl fun ⟨a0,a1,_⟩ r h=>(eq k a0 a1).trans h
end d_
namespace er
def C (k:Nat):Cn:=⟨[.val du,.val dI],[du,.bool],true,false,fun x=>f k x.1 x.2.1⟩
def D (k:Nat):List Ce:=[q (eJ.ctr k),q (cF.ctr k),q (bI.ctr k)]
def E (k:Nat):dO:=en (D k) [] 0 [] k
theorem eq (k:Nat) (a0:Ty.d du) (a1:Ty.d dI):rn (E k) Tryz.f36 (C k) (a0,a1,())=f k a0 a1:=by kernel_rfl
theorem ctr (k:Nat):Cp 36 (C k):=rc rfl (D k) (by kernel_rfl) Tryz.func36 (by kernel_rfl) rfl fun ⟨a0,a1,_⟩ r h=>(eq k a0 a1).trans h
end er
namespace dG
def C (k:Nat):Cn:=⟨[.give dc,.val bg],[dc,qZ],true,true,fun x=>f k x.1 x.2.1⟩
def D (k:Nat):List Ce:=[q (eI.ctr k),q (dt.ctr k),q (bE.ctr k),q (k6.ctr k),q (aS.ctr k),q (jm.ctr k),q (ez.ctr k),q (eo.ctr k),q (d_.ctr k),q (cF.ctr k),q (er.ctr k)]
def E (k:Nat):dO:=en (D k) [] 0 [] k
theorem eq (k:Nat) (a0:Ty.d dc) (a1:Ty.d bg):rn (E k) Tryz.f9 (C k) (a0,a1,())=f k a0 a1:=by kernel_rfl
theorem ctr (k:Nat):Cp 9 (C k):=rc rfl (D k) (by kernel_rfl) Tryz.func9 (by kernel_rfl) rfl fun ⟨a0,a1,_⟩ r h=>(eq k a0 a1).trans h
end dG
namespace mT
def C (k:Nat):Cn:=⟨[.val (.slice (.int .u8)),.val (.int .i64)],[(.int .i64)],true,false,fun x=>f k x.1 x.2.1⟩
def E (k:Nat):dO:=en [] [] 0 [] k
theorem eq (k:Nat) (a0:List Int) (a1:Int):rn (E k) Tryz.f10 (C k) (a0,a1,())=f k a0 a1:=by kernel_rfl
theorem ctr (k:Nat):Cp 10 (C k):=rc rfl [] (by kernel_rfl) Tryz.func10 (by kernel_rfl) rfl fun ⟨a0,a1,_⟩ r h=>(eq k a0 a1).trans h
end mT
namespace ax
def C (k:Nat):Cn:=⟨[.val (.int .i64),.val (.int .i64),.val (.int .i64)],[.bool],true,false,fun x=>f k x.1 x.2.1 x.2.2.1⟩
def E (k:Nat):dO:=en [] [] 0 [] k
theorem eq (k:Nat) (a0:Int) (a1:Int) (a2:Int):rn (E k) Tryz.f42 (C k) (a0,a1,a2,())=f k a0 a1 a2:=by kernel_rfl
theorem ctr (k:Nat):Cp 42 (C k):=rc rfl [] (by kernel_rfl) Tryz.func42 (by kernel_rfl) rfl fun ⟨a0,a1,a2,_⟩ r h=>(eq k a0 a1 a2).trans h
end ax
namespace fe
def C (k:Nat):Cn:=⟨[.val .str],[.bool],true,false,fun x=>f k x.1⟩
def D (k:Nat):List Ce:=[q (ax.ctr k)]
def E (k:Nat):dO:=en (D k) [(2,[0,3])] 0 [] k
section
variable (k:Nat) (a0:ByteArray)
def K0:Ex→St→Rs:=cR (E k) (eK (E k) Tryz.f125 (C k) (a0,())) [.blk 0,.code (at_ (bt 2 3) (body Tryz.f125))]
def V0 (n0:Nat):T0:=fun x0 x1=>ao (bo (E k) (at_ (bt 5 5) (body Tryz.f125))) (ak 0 [0,3]) (K0 k a0) n0 (mk 37 0 [(0,.str x0),(3,.int .i64 x1)] [])
theorem s0 (n0:Nat):V0 k a0 (n0+1)=b0 k (V0 k a0 n0):=by kernel_rfl
theorem e0:V0 k a0=l0 k:=aY rfl (s0 k a0) fun _=>rfl
end
theorem eq (k:Nat) (a0:ByteArray):rn (E k) Tryz.f125 (C k) (a0,())=f k a0:=(show _=t k (V0 k a0 k) a0 by kernel_rfl).trans (by rw [e0];rfl)
theorem ctr (k:Nat):Cp 125 (C k):=rc rfl (D k) (by kernel_rfl) Tryz.func125 (by kernel_rfl) rfl fun ⟨a0,_⟩ r h=>(eq k a0).trans h
end fe
namespace db
def C (k:Nat):Cn:=⟨[.val aA],[.bool],true,false,fun x=>f k x.1⟩
def D (k:Nat):List Ce:=[q (ax.ctr k),q (fe.ctr k)]
def E (k:Nat):dO:=en (D k) [(5,[1,3,23,24,25])] 0 [] k
section
variable (k:Nat) (a0:Ty.d aA)
def K0:Ex→St→Rs:=cR (E k) (eK (E k) Tryz.f83 (C k) (a0,())) [.blk 0,.code (at_ (bt 4 15) (body Tryz.f83))]
def V0 (n0:Nat):T0:=fun x0 x1 x2 x3 x4 x5 x6 x7=>ao (bo (E k) (at_ (bt 7 23) (body Tryz.f83))) (ak 0 [1,3,23,24,25]) (K0 k a0) n0 (mk 69 1 [(1,.ptr 0 0 0),(3,.int .i64 x0),(23,.sl true aL x1),(24,.int .i64 x2),(25,.int .i64 x3)] [(0,.box [.sl true aL x4,.int .i64 x5,.int .i64 x6,.bool x7])])
theorem s0 (n0:Nat):V0 k a0 (n0+1)=b0 k (V0 k a0 n0):=by kernel_rfl
theorem e0:V0 k a0=l0 k:=aY rfl (s0 k a0) fun _=>rfl
end
theorem eq (k:Nat) (a0:Ty.d aA):rn (E k) Tryz.f83 (C k) (a0,())=f k a0:=(show _=t k (V0 k a0 k) a0 by kernel_rfl).trans (by rw [e0];rfl)
theorem ctr (k:Nat):Cp 83 (C k):=rc rfl (D k) (by kernel_rfl) Tryz.func83 (by kernel_rfl) rfl fun ⟨a0,_⟩ r h=>(eq k a0).trans h
end db
namespace da
def C (k:Nat):Cn:=⟨[.val cY],[.bool],true,false,fun x=>f k x.1⟩
def D (k:Nat):List Ce:=[q (ax.ctr k)]
def E (k:Nat):dO:=en (D k) [(2,[1,6,7,8])] 0 [] k
section
variable (k:Nat) (a0:Ty.d cY)
def K0:Ex→St→Rs:=cR (E k) (eK (E k) Tryz.f43 (C k) (a0,())) [.blk 0,.code (at_ (bt 2 3) (body Tryz.f43))]
def V0 (n0:Nat):T0:=fun x0 x1 x2 x3 x4=>ao (bo (E k) (at_ (bt 5 5) (body Tryz.f43))) (ak 0 [1,6,7,8]) (K0 k a0) n0 (mk 43 1 [(1,.ptr 0 0 0),(6,.sl true (.int .i64) x0),(7,.int .i64 x1),(8,.int .i64 x2)] [(0,.box [.int .i64 x3,.sl true (.int .i64) x4])])
theorem s0 (n0:Nat):V0 k a0 (n0+1)=b0 k (V0 k a0 n0):=by kernel_rfl
theorem e0:V0 k a0=l0 k:=aY rfl (s0 k a0) fun _=>rfl
end
theorem eq (k:Nat) (a0:Ty.d cY):rn (E k) Tryz.f43 (C k) (a0,())=f k a0:=(show _=t k (V0 k a0 k) a0 by kernel_rfl).trans (by rw [e0];rfl)
theorem ctr (k:Nat):Cp 43 (C k):=rc rfl (D k) (by kernel_rfl) Tryz.func43 (by kernel_rfl) rfl fun ⟨a0,_⟩ r h=>(eq k a0).trans h
end da
namespace gH
def C (k:Nat):Cn:=⟨[.val .str],[.bool],true,false,fun x=>f k x.1⟩
def D (k:Nat):List Ce:=[q (ax.ctr k)]
def E (k:Nat):dO:=en (D k) [] 0 [] k
theorem eq (k:Nat) (a0:ByteArray):rn (E k) Tryz.f126 (C k) (a0,())=f k a0:=by kernel_rfl
theorem ctr (k:Nat):Cp 126 (C k):=rc rfl (D k) (by kernel_rfl) Tryz.func126 (by kernel_rfl) rfl fun ⟨a0,_⟩ r h=>(eq k a0).trans h
end gH
namespace fU
def C (k:Nat):Cn:=⟨[.val (.slice aB)],[.bool],true,false,fun x=>f k x.1⟩
def D (k:Nat):List Ce:=[q (gH.ctr k),q (ax.ctr k)]
def E (k:Nat):dO:=en (D k) [(2,[0,5,6,7])] 0 [] k
section
variable (k:Nat) (a0:List (Ty.d aB))
def K0:Ex→St→Rs:=cR (E k) (eK (E k) Tryz.f84 (C k) (a0,())) [.blk 0,.code (at_ (bt 2 3) (body Tryz.f84))]
def V0 (n0:Nat):T0:=fun x0 x1 x2 x3=>ao (bo (E k) (at_ (bt 5 5) (body Tryz.f84))) (ak 0 [0,5,6,7]) (K0 k a0) n0 (mk 58 0 [(0,.sl true aB x0),(5,.sl true aB x1),(6,.int .i64 x2),(7,.int .i64 x3)] [])
theorem s0 (n0:Nat):V0 k a0 (n0+1)=b0 k (V0 k a0 n0):=by kernel_rfl
theorem e0:V0 k a0=l0 k:=aY rfl (s0 k a0) fun _=>rfl
end
theorem eq (k:Nat) (a0:List (Ty.d aB)):rn (E k) Tryz.f84 (C k) (a0,())=f k a0:=(show _=t k (V0 k a0 k) a0 by kernel_rfl).trans (by rw [e0];rfl)
theorem ctr (k:Nat):Cp 84 (C k):=rc rfl (D k) (by kernel_rfl) Tryz.func84 (by kernel_rfl) rfl fun ⟨a0,_⟩ r h=>(eq k a0).trans h
end fU
namespace lx
def C (k:Nat):Cn:=⟨[.val (.int .i64)],[.str],true,false,fun x=>f k x.1⟩
def D (k:Nat):List Ce:=[q (mA.ctr k)]
def E (k:Nat):dO:=en (D k) [] 0 [] k
theorem eq (k:Nat) (a0:Int):rn (E k) Tryz.f127 (C k) (a0,())=f k a0:=by kernel_rfl
theorem ctr (k:Nat):Cp 127 (C k):=rc rfl (D k) (by kernel_rfl) Tryz.func127 (by kernel_rfl) rfl fun ⟨a0,_⟩ r h=>(eq k a0).trans h
end lx
namespace jj
def C (k:Nat):Cn:=⟨[.val .str,.val (.int .i64)],[.str],true,false,fun x=>f k x.1 x.2.1⟩
def D (k:Nat):List Ce:=[q (ax.ctr k),q (lx.ctr k)]
def E (k:Nat):dO:=en (D k) [] 0 [] k
theorem eq (k:Nat) (a0:ByteArray) (a1:Int):rn (E k) Tryz.f86 (C k) (a0,a1,())=f k a0 a1:=by kernel_rfl
theorem ctr (k:Nat):Cp 86 (C k):=rc rfl (D k) (by kernel_rfl) Tryz.func86 (by kernel_rfl) rfl fun ⟨a0,a1,_⟩ r h=>(eq k a0 a1).trans h
end jj
namespace fq
def C (k:Nat):Cn:=⟨[.val (.int .i64)],[.str],true,false,fun x=>f k x.1⟩
def D (k:Nat):List Ce:=[q (jj.ctr k)]
def E (k:Nat):dO:=en (D k) [] 0 [] k
theorem eq (k:Nat) (a0:Int):rn (E k) Tryz.f39 (C k) (a0,())=f k a0:=by kernel_rfl
theorem ctr (k:Nat):Cp 39 (C k):=rc rfl (D k) (by kernel_rfl) Tryz.func39 (by kernel_rfl) rfl fun ⟨a0,_⟩ r h=>(eq k a0).trans h
end fq
namespace fc
def C (k:Nat):Cn:=⟨[.val aA,.val .str],[(.int .i64)],true,false,fun x=>f k x.1 x.2.1⟩
def E (k:Nat):dO:=en [] [(2,[1,8,9,10])] 0 [] k
section
variable (k:Nat) (a0:Ty.d aA) (a1:ByteArray)
def K0:Ex→St→Rs:=cR (E k) (eK (E k) Tryz.f85 (C k) (a0,a1,())) [.blk 0,.code (at_ (bt 2 3) (body Tryz.f85))]
def V0 (n0:Nat):T0:=fun x0 x1 x2 x3=>ao (bo (E k) (at_ (bt 5 5) (body Tryz.f85))) (ak 0 [1,8,9,10]) (K0 k a0 a1) n0 (mk 21 0 [(1,.str x0),(8,.sl true aL x1),(9,.int .i64 x2),(10,.int .i64 x3)] [])
theorem s0 (n0:Nat):V0 k a0 a1 (n0+1)=b0 k (V0 k a0 a1 n0):=by kernel_rfl
theorem e0:V0 k a0 a1=l0 k:=aY rfl (s0 k a0 a1) fun _=>rfl
end
theorem eq (k:Nat) (a0:Ty.d aA) (a1:ByteArray):rn (E k) Tryz.f85 (C k) (a0,a1,())=f k a0 a1:=(show _=t k (V0 k a0 a1 k) a0 a1 by kernel_rfl).trans (by rw [e0];rfl)
theorem ctr (k:Nat):Cp 85 (C k):=rc rfl [] (by kernel_rfl) Tryz.func85 (by kernel_rfl) rfl fun ⟨a0,a1,_⟩ r h=>(eq k a0 a1).trans h
end fc
namespace fO
def C (k:Nat):Cn:=⟨[.val aA,.val .str],[.str,.bool],true,false,fun x=>f k x.1 x.2.1⟩
def D (k:Nat):List Ce:=[q (fc.ctr k),q (db.ctr k)]
def E (k:Nat):dO:=en (D k) [] 0 [] k
theorem eq (k:Nat) (a0:Ty.d aA) (a1:ByteArray):rn (E k) Tryz.f38 (C k) (a0,a1,())=f k a0 a1:=by kernel_rfl
theorem ctr (k:Nat):Cp 38 (C k):=rc rfl (D k) (by kernel_rfl) Tryz.func38 (by kernel_rfl) rfl fun ⟨a0,a1,_⟩ r h=>(eq k a0 a1).trans h
end fO
namespace cT
def C (k:Nat):Cn:=⟨[.val .str],[(.int .i64),(.int .i64)],true,false,fun x=>f k x.1⟩
def E (k:Nat):dO:=en [] [(3,[0,4,5])] 0 [] k
section
variable (k:Nat) (a0:ByteArray)
def K0:Ex→St→Rs:=cR (E k) (eK (E k) Tryz.f128 (C k) (a0,())) [.blk 0,.code (at_ (bt 3 7) (body Tryz.f128))]
def V0 (n0:Nat):T0:=fun x0 x1 x2=>ao (bo (E k) (at_ (bt 6 11) (body Tryz.f128))) (ak 0 [0,4,5]) (K0 k a0) n0 (mk 39 0 [(0,.str x0),(4,.int .i64 x1),(5,.int .i64 x2)] [])
theorem s0 (n0:Nat):V0 k a0 (n0+1)=b0 k (V0 k a0 n0):=by kernel_rfl
theorem e0:V0 k a0=l0 k:=aY rfl (s0 k a0) fun _=>rfl
end
theorem eq (k:Nat) (a0:ByteArray):rn (E k) Tryz.f128 (C k) (a0,())=f k a0:=(show _=t k (V0 k a0 k) a0 by kernel_rfl).trans (by rw [e0];rfl)
theorem ctr (k:Nat):Cp 128 (C k):=rc rfl [] (by kernel_rfl) Tryz.func128 (by kernel_rfl) rfl fun ⟨a0,_⟩ r h=>(eq k a0).trans h
end cT
namespace fC
def C (k:Nat):Cn:=⟨[.val (.int .i64)],[.str],true,false,fun x=>f k x.1⟩
def D (k:Nat):List Ce:=[q (ax.ctr k)]
def E (k:Nat):dO:=en (D k) [(4,[0,3])] 0 [] k
section
variable (k:Nat) (a0:Int)
def K0:Ex→St→Rs:=cR (E k) (eK (E k) Tryz.f171 (C k) (a0,())) [.blk 0,.code (at_ (bt 4 15) (body Tryz.f171))]
def V0 (n0:Nat):T0:=fun x0 x1=>ao (bo (E k) (at_ (bt 6 7) (body Tryz.f171))) (ak 0 [0,3]) (K0 k a0) n0 (mk 24 1 [(0,.int .i64 x0),(3,.ref 0)] [(0,.own false (.int .u8) x1)])
theorem s0 (n0:Nat):V0 k a0 (n0+1)=b0 k (V0 k a0 n0):=by kernel_rfl
theorem e0:V0 k a0=l0 k:=aY rfl (s0 k a0) fun _=>rfl
end
theorem eq (k:Nat) (a0:Int):rn (E k) Tryz.f171 (C k) (a0,())=f k a0:=(show _=t k (V0 k a0 k) a0 by kernel_rfl).trans (by rw [e0];rfl)
theorem ctr (k:Nat):Cp 171 (C k):=rc rfl (D k) (by kernel_rfl) Tryz.func171 (by kernel_rfl) rfl fun ⟨a0,_⟩ r h=>(eq k a0).trans h
end fC
namespace eY
def C (k:Nat):Cn:=⟨[.val .str],[.str],true,false,fun x=>f k x.1⟩
def D (k:Nat):List Ce:=[q (fC.ctr k)]
def E (k:Nat):dO:=en (D k) [] 0 [] k
theorem eq (k:Nat) (a0:ByteArray):rn (E k) Tryz.f163 (C k) (a0,())=f k a0:=by kernel_rfl
theorem ctr (k:Nat):Cp 163 (C k):=rc rfl (D k) (by kernel_rfl) Tryz.func163 (by kernel_rfl) rfl fun ⟨a0,_⟩ r h=>(eq k a0).trans h
end eY
namespace gA
def C (k:Nat):Cn:=⟨[.val .str],[(.int .i64)],true,false,fun x=>f k x.1⟩
def E (k:Nat):dO:=en [] [(3,[0,3,4]),(7,[0,3,4,18])] 0 [] k
section
variable (k:Nat) (a0:ByteArray)
def K0:Ex→St→Rs:=cR (E k) (eK (E k) Tryz.f165 (C k) (a0,())) [.blk 0,.code (at_ (bt 3 7) (body Tryz.f165))]
def B0 (n0:Nat):Ex→St→Rs:=KO (E k) (at_ (bt 6 11) (body Tryz.f165)) 0 [0,3,4] (K0 k a0) n0
def K1 (n0:Nat):Ex→St→Rs:=cR (E k) (B0 k a0 n0) [.blk 2,.blk 1,.code (at_ (bt 8 203) (body Tryz.f165))]
def V0 (n0:Nat):T0:=fun x0 x1 x2=>ao (bo (E k) (at_ (bt 6 11) (body Tryz.f165))) (ak 0 [0,3,4]) (K0 k a0) n0 (mk 32 0 [(0,.str x0),(3,.int .u32 x1),(4,.int .i64 x2)] [])
def V1 (n0 n1:Nat):T1:=fun x0 x1 x2 x3=>ao (bo (E k) (at_ (bt 13 1611) (body Tryz.f165))) (ak 0 [0,3,4,18]) (K1 k a0 n0) n1 (mk 32 0 [(0,.str x0),(3,.int .u32 x1),(4,.int .i64 x2),(18,.int .i64 x3)] [])
theorem s0 (n0:Nat):V0 k a0 (n0+1)=b0 k (V1 k a0 n0 k) (V0 k a0 n0):=by kernel_rfl
theorem s1 (n0 n1:Nat):V1 k a0 n0 (n1+1)=b1 k (V0 k a0 n0) (V1 k a0 n0 n1):=by kernel_rfl
theorem e1 (n0:Nat):V1 k a0 n0=l1 k (V0 k a0 n0):=aY rfl (s1 k a0 n0) fun _=>rfl
theorem e0 (n0:Nat):V0 k a0 n0=l0 k n0:=by
 induction n0 with
 | zero=>rfl
 | succ n0 ih =>
  have h:V0 k a0 (n0+1)=b0 k (V1 k a0 n0 k) (V0 k a0 n0):=s0 k a0 n0
  rw [h,e1,ih]
  rfl
end
theorem eq (k:Nat) (a0:ByteArray):rn (E k) Tryz.f165 (C k) (a0,())=f k a0:=(show _=t k (V0 k a0 k) a0 by kernel_rfl).trans (by rw [e0];rfl)
theorem ctr (k:Nat):Cp 165 (C k):=rc rfl [] (by kernel_rfl) Tryz.func165 (by kernel_rfl) rfl fun ⟨a0,_⟩ r h=>(eq k a0).trans h
end gA
namespace df
def C (k:Nat):Cn:=⟨[.val (.int .i64),.val (.int .i64)],[.str],true,false,fun x=>f k x.1 x.2.1⟩
def D (k:Nat):List Ce:=[q (ax.ctr k)]
def E (k:Nat):dO:=en (D k) [(5,[0,5,6])] 0 [] k
section
variable (k:Nat) (a0:Int) (a1:Int)
def K0:Ex→St→Rs:=cR (E k) (eK (E k) Tryz.f164 (C k) (a0,a1,())) [.blk 0,.code (at_ (bt 4 15) (body Tryz.f164))]
def V0 (n0:Nat):T0:=fun x0 x1 x2=>ao (bo (E k) (at_ (bt 7 23) (body Tryz.f164))) (ak 0 [0,5,6]) (K0 k a0 a1) n0 (mk 35 1 [(0,.int .i64 x0),(5,.ref 0),(6,.int .i64 x1)] [(0,.own false (.int .u8) x2)])
theorem s0 (n0:Nat):V0 k a0 a1 (n0+1)=b0 k (V0 k a0 a1 n0):=by kernel_rfl
theorem e0:V0 k a0 a1=l0 k:=aY rfl (s0 k a0 a1) fun _=>rfl
end
theorem eq (k:Nat) (a0:Int) (a1:Int):rn (E k) Tryz.f164 (C k) (a0,a1,())=f k a0 a1:=(show _=t k (V0 k a0 a1 k) a0 a1 by kernel_rfl).trans (by rw [e0];rfl)
theorem ctr (k:Nat):Cp 164 (C k):=rc rfl (D k) (by kernel_rfl) Tryz.func164 (by kernel_rfl) rfl fun ⟨a0,a1,_⟩ r h=>(eq k a0 a1).trans h
end df
namespace jy
def C (k:Nat):Cn:=⟨[.val .str],[.str],true,false,fun x=>f k x.1⟩
def D (k:Nat):List Ce:=[q (eY.ctr k),q (gA.ctr k),q (df.ctr k)]
def E (k:Nat):dO:=en (D k) [] 0 [] k
theorem eq (k:Nat) (a0:ByteArray):rn (E k) Tryz.f129 (C k) (a0,())=f k a0:=by kernel_rfl
theorem ctr (k:Nat):Cp 129 (C k):=rc rfl (D k) (by kernel_rfl) Tryz.func129 (by kernel_rfl) rfl fun ⟨a0,_⟩ r h=>(eq k a0).trans h
end jy
namespace e_
def C (k:Nat):Cn:=⟨[.val .str],[.str,(.int .i64)],true,false,fun x=>f k x.1⟩
def D (k:Nat):List Ce:=[q (cT.ctr k),q (jy.ctr k)]
def E (k:Nat):dO:=en (D k) [] 0 [] k
theorem eq (k:Nat) (a0:ByteArray):rn (E k) Tryz.f88 (C k) (a0,())=f k a0:=by kernel_rfl
theorem ctr (k:Nat):Cp 88 (C k):=rc rfl (D k) (by kernel_rfl) Tryz.func88 (by kernel_rfl) rfl fun ⟨a0,_⟩ r h=>(eq k a0).trans h
end e_
namespace ap
def C (k:Nat):Cn:=⟨[.io true jR],[(.int .i64)],true,false,fun x=>f k x.1⟩
def D (k:Nat):List Ce:=[q (cT.ctr k)]
def E (k:Nat):dO:=en (D k) [] 1 [] k
theorem eq (k:Nat) (a0:Ty.d jR):rn (E k) Tryz.f130 (C k) (a0,())=f k a0:=by kernel_rfl
theorem ctr (k:Nat):Cp 130 (C k):=rc rfl (D k) (by kernel_rfl) Tryz.func130 (by kernel_rfl) rfl fun ⟨a0,_⟩ r h=>(eq k a0).trans h
end ap
namespace an
def C (k:Nat):Cn:=⟨[.io true jR,.val (.int .i64)],[.str],true,false,fun x=>f k x.1 x.2.1⟩
def E (k:Nat):dO:=en [] [] 1 [] k
theorem eq (k:Nat) (a0:Ty.d jR) (a1:Int):rn (E k) Tryz.f133 (C k) (a0,a1,())=f k a0 a1:=by kernel_rfl
theorem ctr (k:Nat):Cp 133 (C k):=rc rfl [] (by kernel_rfl) Tryz.func133 (by kernel_rfl) rfl fun ⟨a0,a1,_⟩ r h=>(eq k a0 a1).trans h
end an
namespace aj
def C (k:Nat):Cn:=⟨[.io true jR],[.str],true,false,fun x=>f k x.1⟩
def D (k:Nat):List Ce:=[q (ap.ctr k),q (an.ctr k)]
def E (k:Nat):dO:=en (D k) [] 1 [] k
theorem eq (k:Nat) (a0:Ty.d jR):rn (E k) Tryz.f131 (C k) (a0,())=f k a0:=by kernel_rfl
theorem ctr (k:Nat):Cp 131 (C k):=rc rfl (D k) (by kernel_rfl) Tryz.func131 (by kernel_rfl) rfl fun ⟨a0,_⟩ r h=>(eq k a0).trans h
end aj
namespace fV
def C (k:Nat):Cn:=⟨[.val b7],[.bool],true,false,fun x=>f k x.1⟩
def D (k:Nat):List Ce:=[q (gH.ctr k),q (ax.ctr k)]
def E (k:Nat):dO:=en (D k) [] 0 [] k
theorem eq (k:Nat) (a0:Ty.d b7):rn (E k) Tryz.f134 (C k) (a0,())=f k a0:=by kernel_rfl
theorem ctr (k:Nat):Cp 134 (C k):=rc rfl (D k) (by kernel_rfl) Tryz.func134 (by kernel_rfl) rfl fun ⟨a0,_⟩ r h=>(eq k a0).trans h
end fV
namespace bd
def C (k:Nat):Cn:=⟨[.val .str,.val (.int .i64)],[(.int .i64),.bool],true,false,fun x=>f k x.1 x.2.1⟩
def D (k:Nat):List Ce:=[q (ax.ctr k)]
def E (k:Nat):dO:=en (D k) [(5,[0,6,17,18])] 0 [] k
section
variable (k:Nat) (a0:ByteArray) (a1:Int)
def K0:Ex→St→Rs:=cR (E k) (eK (E k) Tryz.f132 (C k) (a0,a1,())) [.blk 0,.code (at_ (bt 4 15) (body Tryz.f132))]
def V0 (n0:Nat):T0:=fun x0 x1 x2 x3=>ao (bo (E k) (at_ (bt 7 23) (body Tryz.f132))) (ak 0 [0,6,17,18]) (K0 k a0 a1) n0 (mk 30 0 [(0,.str x0),(6,.int .i64 x1),(17,.int .i64 x2),(18,.int .i64 x3)] [])
theorem s0 (n0:Nat):V0 k a0 a1 (n0+1)=b0 k (V0 k a0 a1 n0):=by kernel_rfl
theorem e0:V0 k a0 a1=l0 k:=aY rfl (s0 k a0 a1) fun _=>rfl
end
theorem eq (k:Nat) (a0:ByteArray) (a1:Int):rn (E k) Tryz.f132 (C k) (a0,a1,())=f k a0 a1:=(show _=t k (V0 k a0 a1 k) a0 a1 by kernel_rfl).trans (by rw [e0];rfl)
theorem ctr (k:Nat):Cp 132 (C k):=rc rfl (D k) (by kernel_rfl) Tryz.func132 (by kernel_rfl) rfl fun ⟨a0,a1,_⟩ r h=>(eq k a0 a1).trans h
end bd
namespace cV
def C (k:Nat):Cn:=⟨[.val .str],[b7,.bool],true,false,fun x=>f k x.1⟩
def D (k:Nat):List Ce:=[q (ap.ctr k),q (aj.ctr k),q (fV.ctr k),q (an.ctr k),q (bd.ctr k)]
def E (k:Nat):dO:=en (D k) [] 0 [] k
theorem eq (k:Nat) (a0:ByteArray):rn (E k) Tryz.f89 (C k) (a0,())=f k a0:=by kernel_rfl
theorem ctr (k:Nat):Cp 89 (C k):=rc rfl (D k) (by kernel_rfl) Tryz.func89 (by kernel_rfl) rfl fun ⟨a0,_⟩ r h=>(eq k a0).trans h
end cV
namespace dK
def C (k:Nat):Cn:=⟨[.val .str],[(.slice c_),(.int .i64)],true,false,fun x=>f k x.1⟩
def D (k:Nat):List Ce:=[q (e_.ctr k),q (cV.ctr k)]
def E (k:Nat):dO:=en (D k) [(3,[0,4,5])] 0 [] k
section
variable (k:Nat) (a0:ByteArray)
def K0:Ex→St→Rs:=cR (E k) (eK (E k) Tryz.f44 (C k) (a0,())) [.blk 0]
def V0 (n0:Nat):T0:=fun x0 x1 x2=>ao (bo (E k) (at_ (bt 5 7) (body Tryz.f44))) (ak 0 [0,4,5]) (K0 k a0) n0 (mk 40 1 [(0,.str x0),(4,.ref 0),(5,.int .i64 x1)] [(0,.own false c_ x2)])
theorem s0 (n0:Nat):V0 k a0 (n0+1)=b0 k (V0 k a0 n0):=by kernel_rfl
theorem e0:V0 k a0=l0 k:=aY rfl (s0 k a0) fun _=>rfl
end
theorem eq (k:Nat) (a0:ByteArray):rn (E k) Tryz.f44 (C k) (a0,())=f k a0:=(show _=t k (V0 k a0 k) a0 by kernel_rfl).trans (by rw [e0];rfl)
theorem ctr (k:Nat):Cp 44 (C k):=rc rfl (D k) (by kernel_rfl) Tryz.func44 (by kernel_rfl) rfl fun ⟨a0,_⟩ r h=>(eq k a0).trans h
end dK
namespace ii
def C (k:Nat):Cn:=⟨[.val .str,.val (.int .i64),.val (.int .i64)],[b7,.bool],true,false,fun x=>f k x.1 x.2.1 x.2.2.1⟩
def D (k:Nat):List Ce:=[q (ax.ctr k),q (e_.ctr k),q (cV.ctr k)]
def E (k:Nat):dO:=en (D k) [] 0 [] k
theorem eq (k:Nat) (a0:ByteArray) (a1:Int) (a2:Int):rn (E k) Tryz.f47 (C k) (a0,a1,a2,())=f k a0 a1 a2:=by kernel_rfl
theorem ctr (k:Nat):Cp 47 (C k):=rc rfl (D k) (by kernel_rfl) Tryz.func47 (by kernel_rfl) rfl fun ⟨a0,a1,a2,_⟩ r h=>(eq k a0 a1 a2).trans h
end ii
namespace cU
def C (k:Nat):Cn:=⟨[.val aE,.val aA],[.bool],true,false,fun x=>f k x.1 x.2.1⟩
def D (k:Nat):List Ce:=[q (db.ctr k),q (da.ctr k),q (fU.ctr k),q (ax.ctr k),q (fq.ctr k),q (fO.ctr k),q (dK.ctr k),q (ii.ctr k)]
def E (k:Nat):dO:=en (D k) [(4,[2,3,40,41,42]),(12,[2,3,84,85,86])] 0 [] k
section
variable (k:Nat) (a0:Ty.d aE) (a1:Ty.d aA)
def K0:Ex→St→Rs:=cR (E k) (eK (E k) Tryz.f37 (C k) (a0,a1,())) [.blk 0,.code (at_ (bt 3 7) (body Tryz.f37))]
def K1:Ex→St→Rs:=cR (E k) (eK (E k) Tryz.f37 (C k) (a0,a1,())) [.blk 2,.code (at_ (bt 4 15) (body Tryz.f37))]
def V0 (n0:Nat):T0:=fun x0 x1 x2 x3 x4 x5 x6 x7 x8 x9 x10 x11 x12=>ao (bo (E k) (at_ (bt 6 11) (body Tryz.f37))) (ak 0 [2,3,40,41,42]) (K0 k a0 a1) n0 (mk 141 2 [(2,.ptr 0 0 0),(3,.ptr 1 0 0),(40,.sl true (.int .i64) x0),(41,.int .i64 x1),(42,.int .i64 x2)] [(0,.box [.int .i64 x3,.sl true (.int .i64) x4,.sl true aB x5,.int .i64 x6,.int .i64 x7,.int .i64 x8]),(1,.box [.sl true aL x9,.int .i64 x10,.int .i64 x11,.bool x12])])
def V1 (n1:Nat):T1:=fun x0 x1 x2 x3 x4 x5 x6 x7 x8 x9 x10 x11 x12=>ao (bo (E k) (at_ (bt 7 23) (body Tryz.f37))) (ak 0 [2,3,84,85,86]) (K1 k a0 a1) n1 (mk 141 2 [(2,.ptr 0 0 0),(3,.ptr 1 0 0),(84,.sl true aB x0),(85,.int .i64 x1),(86,.int .i64 x2)] [(0,.box [.int .i64 x3,.sl true (.int .i64) x4,.sl true aB x5,.int .i64 x6,.int .i64 x7,.int .i64 x8]),(1,.box [.sl true aL x9,.int .i64 x10,.int .i64 x11,.bool x12])])
theorem s0 (n0:Nat):V0 k a0 a1 (n0+1)=b0 k (V1 k a0 a1 k) (V0 k a0 a1 n0):=by kernel_rfl
theorem s1 (n1:Nat):V1 k a0 a1 (n1+1)=b1 k (V1 k a0 a1 n1):=by kernel_rfl
theorem e1:V1 k a0 a1=l1 k:=aY rfl (s1 k a0 a1) fun _=>rfl
theorem e0 (n0:Nat):V0 k a0 a1 n0=l0 k n0:=by
 induction n0 with
 | zero=>rfl
 | succ n0 ih =>
  have h:V0 k a0 a1 (n0+1)=b0 k (V1 k a0 a1 k) (V0 k a0 a1 n0):=s0 k a0 a1 n0
  rw [h,e1,ih]
  rfl
end
theorem eq (k:Nat) (a0:Ty.d aE) (a1:Ty.d aA):rn (E k) Tryz.f37 (C k) (a0,a1,())=f k a0 a1:=(show _=t k (V0 k a0 a1 k) a0 a1 by kernel_rfl).trans (by rw [e0];rfl)
theorem ctr (k:Nat):Cp 37 (C k):=rc rfl (D k) (by kernel_rfl) Tryz.func37 (by kernel_rfl) rfl fun ⟨a0,a1,_⟩ r h=>(eq k a0 a1).trans h
end cU
namespace gR
def C (k:Nat):Cn:=⟨[.val ay,.val (.int .i64)],[.str],true,false,fun x=>f k x.1 x.2.1⟩
def E (k:Nat):dO:=en [] [(2,[1,8,9,10])] 0 [] k
section
variable (k:Nat) (a0:Ty.d ay) (a1:Int)
def K0:Ex→St→Rs:=cR (E k) (eK (E k) Tryz.f40 (C k) (a0,a1,())) [.blk 0,.code (at_ (bt 2 3) (body Tryz.f40))]
def V0 (n0:Nat):T0:=fun x0 x1 x2 x3=>ao (bo (E k) (at_ (bt 5 5) (body Tryz.f40))) (ak 0 [1,8,9,10]) (K0 k a0 a1) n0 (mk 21 0 [(1,.int .i64 x0),(8,.sl true dE x1),(9,.int .i64 x2),(10,.int .i64 x3)] [])
theorem s0 (n0:Nat):V0 k a0 a1 (n0+1)=b0 k (V0 k a0 a1 n0):=by kernel_rfl
theorem e0:V0 k a0 a1=l0 k:=aY rfl (s0 k a0 a1) fun _=>rfl
end
theorem eq (k:Nat) (a0:Ty.d ay) (a1:Int):rn (E k) Tryz.f40 (C k) (a0,a1,())=f k a0 a1:=(show _=t k (V0 k a0 a1 k) a0 a1 by kernel_rfl).trans (by rw [e0];rfl)
theorem ctr (k:Nat):Cp 40 (C k):=rc rfl [] (by kernel_rfl) Tryz.func40 (by kernel_rfl) rfl fun ⟨a0,a1,_⟩ r h=>(eq k a0 a1).trans h
end gR
namespace dA
def C (k:Nat):Cn:=⟨[.val aE,.val aA,.val ay],[ja],true,false,fun x=>f k x.1 x.2.1 x.2.2.1⟩
def D (k:Nat):List Ce:=[q (cU.ctr k),q (fq.ctr k),q (fO.ctr k),q (gR.ctr k),q (h_.ctr k)]
def E (k:Nat):dO:=en (D k) [(5,[4,5,6,7,25,26,27])] 0 [] k
section
variable (k:Nat) (a0:Ty.d aE) (a1:Ty.d aA) (a2:Ty.d ay)
def K0:Ex→St→Rs:=cR (E k) (eK (E k) Tryz.f11 (C k) (a0,a1,a2,())) [.blk 0,.code (at_ (bt 4 15) (body Tryz.f11))]
def V0 (n0:Nat):T0:=fun x0 x1 x2 x3 x4 x5 x6 x7 x8 x9 x10 x11 x12=>ao (bo (E k) (at_ (bt 7 23) (body Tryz.f11))) (ak 0 [4,5,6,7,25,26,27]) (K0 k a0 a1 a2) n0 (mk 63 6 [(4,.ptr 0 0 0),(5,.ptr 1 0 0),(6,.ptr 2 0 0),(7,.ptr 4 0 0),(25,.sl true (.int .i64) x0),(26,.int .i64 x1),(27,.int .i64 x2)] [(0,.box [.sl true aL x3,.int .i64 x4,.int .i64 x5,.bool x6]),(1,.box [.int .i64 x7,.sl true dE x8]),(3,.own false mN x9),(2,.box [.int .i64 x10,.ref 3]),(5,.own false mN x11),(4,.box [.int .i64 x12,.ref 5])])
theorem s0 (n0:Nat):V0 k a0 a1 a2 (n0+1)=b0 k (V0 k a0 a1 a2 n0):=by kernel_rfl
theorem e0:V0 k a0 a1 a2=l0 k:=aY rfl (s0 k a0 a1 a2) fun _=>rfl
end
theorem eq (k:Nat) (a0:Ty.d aE) (a1:Ty.d aA) (a2:Ty.d ay):rn (E k) Tryz.f11 (C k) (a0,a1,a2,())=f k a0 a1 a2:=(show _=t k (V0 k a0 a1 a2 k) a0 a1 a2 by kernel_rfl).trans (by rw [e0];rfl)
theorem ctr (k:Nat):Cp 11 (C k):=rc rfl (D k) (by kernel_rfl) Tryz.func11 (by kernel_rfl) rfl fun ⟨a0,a1,a2,_⟩ r h=>(eq k a0 a1 a2).trans h
end dA
namespace bK
def C (k:Nat):Cn:=⟨[.val ay,.val ja],[ay,.bool],true,false,fun x=>f k x.1 x.2.1⟩
def D (k:Nat):List Ce:=[q (gR.ctr k),q (ax.ctr k),q (da.ctr k)]
def E (k:Nat):dO:=en (D k) [(5,[2,4,6,7,8,25,26,27])] 0 [] k
section
variable (k:Nat) (a0:Ty.d ay) (a1:Ty.d ja)
def K0:Ex→St→Rs:=cR (E k) (eK (E k) Tryz.f12 (C k) (a0,a1,())) [.blk 0,.code (at_ (bt 5 31) (body Tryz.f12))]
def V0 (n0:Nat):T0:=fun x0 x1 x2 x3 x4 x5 x6 x7 x8 x9 x10 x11 x12=>ao (bo (E k) (at_ (bt 8 47) (body Tryz.f12))) (ak 0 [2,4,6,7,8,25,26,27]) (K0 k a0 a1) n0 (mk 70 9 [(2,.ptr 0 0 0),(4,.ptr 1 0 0),(6,.ptr 3 0 0),(7,.ptr 5 0 0),(8,.ptr 7 0 0),(25,.sl true mN x0),(26,.int .i64 x1),(27,.int .i64 x2)] [(0,.box [.int .i64 x3,.sl true dE x4]),(2,.own false dE x5),(1,.box [.int .i64 x6,.ref 2]),(4,.own false dE x7),(3,.box [.int .i64 x8,.ref 4]),(6,.own false dE x9),(5,.box [.int .i64 x10,.ref 6]),(8,.own false (.int .i64) x11),(7,.box [.int .i64 x12,.ref 8])])
theorem s0 (n0:Nat):V0 k a0 a1 (n0+1)=b0 k (V0 k a0 a1 n0):=by kernel_rfl
theorem e0:V0 k a0 a1=l0 k:=aY rfl (s0 k a0 a1) fun _=>rfl
end
theorem eq (k:Nat) (a0:Ty.d ay) (a1:Ty.d ja):rn (E k) Tryz.f12 (C k) (a0,a1,())=f k a0 a1:=(show _=t k (V0 k a0 a1 k) a0 a1 by kernel_rfl).trans (by rw [e0];rfl)
theorem ctr (k:Nat):Cp 12 (C k):=rc rfl (D k) (by kernel_rfl) Tryz.func12 (by kernel_rfl) rfl fun ⟨a0,a1,_⟩ r h=>(eq k a0 a1).trans h
end bK
namespace c9
def C (k:Nat):Cn:=⟨[.val ja],[(.int .i64)],true,false,fun x=>f k x.1⟩
def E (k:Nat):dO:=en [] [(3,[3,7,8,9])] 0 [] k
section
variable (k:Nat) (a0:Ty.d ja)
def K0:Ex→St→Rs:=cR (E k) (eK (E k) Tryz.f13 (C k) (a0,())) [.blk 0,.code (at_ (bt 3 7) (body Tryz.f13))]
def V0 (n0:Nat):T0:=fun x0 x1 x2 x3=>ao (bo (E k) (at_ (bt 6 11) (body Tryz.f13))) (ak 0 [3,7,8,9]) (K0 k a0) n0 (mk 20 0 [(3,.int .i64 x0),(7,.sl true mN x1),(8,.int .i64 x2),(9,.int .i64 x3)] [])
theorem s0 (n0:Nat):V0 k a0 (n0+1)=b0 k (V0 k a0 n0):=by kernel_rfl
theorem e0:V0 k a0=l0 k:=aY rfl (s0 k a0) fun _=>rfl
end
theorem eq (k:Nat) (a0:Ty.d ja):rn (E k) Tryz.f13 (C k) (a0,())=f k a0:=(show _=t k (V0 k a0 k) a0 by kernel_rfl).trans (by rw [e0];rfl)
theorem ctr (k:Nat):Cp 13 (C k):=rc rfl [] (by kernel_rfl) Tryz.func13 (by kernel_rfl) rfl fun ⟨a0,_⟩ r h=>(eq k a0).trans h
end c9
namespace fY
def C (k:Nat):Cn:=⟨[.val (.int .i64),.val (.slice c_)],[(.slice aC)],true,false,fun x=>f k x.1 x.2.1⟩
def E (k:Nat):dO:=en [] [(3,[0,5,8,9,10])] 0 [] k
section
variable (k:Nat) (a0:Int) (a1:List (Ty.d c_))
def K0:Ex→St→Rs:=cR (E k) (eK (E k) Tryz.f45 (C k) (a0,a1,())) [.blk 0,.code (at_ (bt 3 7) (body Tryz.f45))]
def V0 (n0:Nat):T0:=fun x0 x1 x2 x3 x4=>ao (bo (E k) (at_ (bt 6 11) (body Tryz.f45))) (ak 0 [0,5,8,9,10]) (K0 k a0 a1) n0 (mk 27 1 [(0,.int .i64 x0),(5,.ref 0),(8,.sl true c_ x1),(9,.int .i64 x2),(10,.int .i64 x3)] [(0,.own false aC x4)])
theorem s0 (n0:Nat):V0 k a0 a1 (n0+1)=b0 k (V0 k a0 a1 n0):=by kernel_rfl
theorem e0:V0 k a0 a1=l0 k:=aY rfl (s0 k a0 a1) fun _=>rfl
end
theorem eq (k:Nat) (a0:Int) (a1:List (Ty.d c_)):rn (E k) Tryz.f45 (C k) (a0,a1,())=f k a0 a1:=(show _=t k (V0 k a0 a1 k) a0 a1 by kernel_rfl).trans (by rw [e0];rfl)
theorem ctr (k:Nat):Cp 45 (C k):=rc rfl [] (by kernel_rfl) Tryz.func45 (by kernel_rfl) rfl fun ⟨a0,a1,_⟩ r h=>(eq k a0 a1).trans h
end fY
namespace eE
def C (k:Nat):Cn:=⟨[.val (.slice aB)],[(.slice aB)],true,false,fun x=>f k x.1⟩
def E (k:Nat):dO:=en [] [] 0 [] k
theorem eq (k:Nat) (a0:List (Ty.d aB)):rn (E k) Tryz.f90 (C k) (a0,())=f k a0:=by kernel_rfl
theorem ctr (k:Nat):Cp 90 (C k):=rc rfl [] (by kernel_rfl) Tryz.func90 (by kernel_rfl) rfl fun ⟨a0,_⟩ r h=>(eq k a0).trans h
end eE
namespace ch
def C (k:Nat):Cn:=⟨[.val (.slice aC),.val b7],[(.slice aC)],true,false,fun x=>f k x.1 x.2.1⟩
def E (k:Nat):dO:=en [] [(3,[3,5,9,10,11])] 0 [] k
section
variable (k:Nat) (a0:List (Ty.d aC)) (a1:Ty.d b7)
def K0:Ex→St→Rs:=cR (E k) (eK (E k) Tryz.f91 (C k) (a0,a1,())) [.blk 0,.code (at_ (bt 3 7) (body Tryz.f91))]
def V0 (n0:Nat):T0:=fun x0 x1 x2 x3 x4 x5 x6 x7 x8 x9=>ao (bo (E k) (at_ (bt 6 11) (body Tryz.f91))) (ak 0 [3,5,9,10,11]) (K0 k a0 a1) n0 (mk 62 2 [(3,.ptr 0 0 0),(5,.ref 1),(9,.sl true aC x0),(10,.int .i64 x1),(11,.int .i64 x2)] [(0,.box [.int .i64 x3,.int .i64 x4,.str x5,.str x6,.int .i64 x7,.int .i64 x8]),(1,.own false aC x9)])
theorem s0 (n0:Nat):V0 k a0 a1 (n0+1)=b0 k (V0 k a0 a1 n0):=by kernel_rfl
theorem e0:V0 k a0 a1=l0 k:=aY rfl (s0 k a0 a1) fun _=>rfl
end
theorem eq (k:Nat) (a0:List (Ty.d aC)) (a1:Ty.d b7):rn (E k) Tryz.f91 (C k) (a0,a1,())=f k a0 a1:=(show _=t k (V0 k a0 a1 k) a0 a1 by kernel_rfl).trans (by rw [e0];rfl)
theorem ctr (k:Nat):Cp 91 (C k):=rc rfl [] (by kernel_rfl) Tryz.func91 (by kernel_rfl) rfl fun ⟨a0,a1,_⟩ r h=>(eq k a0 a1).trans h
end ch
namespace iz
def C (k:Nat):Cn:=⟨[.val (.slice (.int .i64))],[.str],true,false,fun x=>f k x.1⟩
def D (k:Nat):List Ce:=[q (fC.ctr k)]
def E (k:Nat):dO:=en (D k) [(3,[3,6,7,8])] 0 [] k
section
variable (k:Nat) (a0:List Int)
def K0:Ex→St→Rs:=cR (E k) (eK (E k) Tryz.f172 (C k) (a0,())) [.blk 0,.code (at_ (bt 3 7) (body Tryz.f172))]
def V0 (n0:Nat):T0:=fun x0 x1 x2 x3=>ao (bo (E k) (at_ (bt 6 11) (body Tryz.f172))) (ak 0 [3,6,7,8]) (K0 k a0) n0 (mk 18 0 [(3,.str x0),(6,.sl true (.int .i64) x1),(7,.int .i64 x2),(8,.int .i64 x3)] [])
theorem s0 (n0:Nat):V0 k a0 (n0+1)=b0 k (V0 k a0 n0):=by kernel_rfl
theorem e0:V0 k a0=l0 k:=aY rfl (s0 k a0) fun _=>rfl
end
theorem eq (k:Nat) (a0:List Int):rn (E k) Tryz.f172 (C k) (a0,())=f k a0:=(show _=t k (V0 k a0 k) a0 by kernel_rfl).trans (by rw [e0];rfl)
theorem ctr (k:Nat):Cp 172 (C k):=rc rfl (D k) (by kernel_rfl) Tryz.func172 (by kernel_rfl) rfl fun ⟨a0,_⟩ r h=>(eq k a0).trans h
end iz
namespace iU
def C (k:Nat):Cn:=⟨[.val b7],[.str],true,false,fun x=>f k x.1⟩
def D (k:Nat):List Ce:=[q (fV.ctr k),q (iz.ctr k),q (eY.ctr k),q (fC.ctr k),q (df.ctr k)]
def E (k:Nat):dO:=en (D k) [] 0 [] k
theorem eq (k:Nat) (a0:Ty.d b7):rn (E k) Tryz.f166 (C k) (a0,())=f k a0:=by kernel_rfl
theorem ctr (k:Nat):Cp 166 (C k):=rc rfl (D k) (by kernel_rfl) Tryz.func166 (by kernel_rfl) rfl fun ⟨a0,_⟩ r h=>(eq k a0).trans h
end iU
namespace iB
def C (k:Nat):Cn:=⟨[.val (.slice b7)],[(.int .i64)],true,false,fun x=>f k x.1⟩
def D (k:Nat):List Ce:=[q (iU.ctr k),q (gA.ctr k)]
def E (k:Nat):dO:=en (D k) [(3,[3,6,7,8])] 0 [] k
section
variable (k:Nat) (a0:List (Ty.d b7))
def K0:Ex→St→Rs:=cR (E k) (eK (E k) Tryz.f135 (C k) (a0,())) [.blk 0,.code (at_ (bt 3 7) (body Tryz.f135))]
def V0 (n0:Nat):T0:=fun x0 x1 x2 x3=>ao (bo (E k) (at_ (bt 6 11) (body Tryz.f135))) (ak 0 [3,6,7,8]) (K0 k a0) n0 (mk 19 0 [(3,.str x0),(6,.sl true b7 x1),(7,.int .i64 x2),(8,.int .i64 x3)] [])
theorem s0 (n0:Nat):V0 k a0 (n0+1)=b0 k (V0 k a0 n0):=by kernel_rfl
theorem e0:V0 k a0=l0 k:=aY rfl (s0 k a0) fun _=>rfl
end
theorem eq (k:Nat) (a0:List (Ty.d b7)):rn (E k) Tryz.f135 (C k) (a0,())=f k a0:=(show _=t k (V0 k a0 k) a0 by kernel_rfl).trans (by rw [e0];rfl)
theorem ctr (k:Nat):Cp 135 (C k):=rc rfl (D k) (by kernel_rfl) Tryz.func135 (by kernel_rfl) rfl fun ⟨a0,_⟩ r h=>(eq k a0).trans h
end iB
namespace ga
def C (k:Nat):Cn:=⟨[.val b7,.val (.slice aC)],[.bool],true,false,fun x=>f k x.1 x.2.1⟩
def D (k:Nat):List Ce:=[q (iB.ctr k)]
def E (k:Nat):dO:=en (D k) [(3,[2,5,8,9,10])] 0 [] k
section
variable (k:Nat) (a0:Ty.d b7) (a1:List (Ty.d aC))
def K0:Ex→St→Rs:=cR (E k) (eK (E k) Tryz.f92 (C k) (a0,a1,())) [.blk 0,.code (at_ (bt 3 7) (body Tryz.f92))]
def V0 (n0:Nat):T0:=fun x0 x1 x2 x3 x4 x5 x6 x7 x8 x9=>ao (bo (E k) (at_ (bt 6 11) (body Tryz.f92))) (ak 0 [2,5,8,9,10]) (K0 k a0 a1) n0 (mk 32 2 [(2,.ptr 0 0 0),(5,.ref 1),(8,.sl true aC x0),(9,.int .i64 x1),(10,.int .i64 x2)] [(0,.box [.int .i64 x3,.int .i64 x4,.str x5,.str x6,.int .i64 x7,.int .i64 x8]),(1,.own false b7 x9)])
theorem s0 (n0:Nat):V0 k a0 a1 (n0+1)=b0 k (V0 k a0 a1 n0):=by kernel_rfl
theorem e0:V0 k a0 a1=l0 k:=aY rfl (s0 k a0 a1) fun _=>rfl
end
theorem eq (k:Nat) (a0:Ty.d b7) (a1:List (Ty.d aC)):rn (E k) Tryz.f92 (C k) (a0,a1,())=f k a0 a1:=(show _=t k (V0 k a0 a1 k) a0 a1 by kernel_rfl).trans (by rw [e0];rfl)
theorem ctr (k:Nat):Cp 92 (C k):=rc rfl (D k) (by kernel_rfl) Tryz.func92 (by kernel_rfl) rfl fun ⟨a0,a1,_⟩ r h=>(eq k a0 a1).trans h
end ga
namespace dD
def C (k:Nat):Cn:=⟨[.val (.slice aB),.val .str],[(.slice aB)],true,false,fun x=>f k x.1 x.2.1⟩
def E (k:Nat):dO:=en [] [(3,[1,5,8,9,10])] 0 [] k
section
variable (k:Nat) (a0:List (Ty.d aB)) (a1:ByteArray)
def K0:Ex→St→Rs:=cR (E k) (eK (E k) Tryz.f136 (C k) (a0,a1,())) [.blk 0,.code (at_ (bt 3 7) (body Tryz.f136))]
def V0 (n0:Nat):T0:=fun x0 x1 x2 x3 x4=>ao (bo (E k) (at_ (bt 6 11) (body Tryz.f136))) (ak 0 [1,5,8,9,10]) (K0 k a0 a1) n0 (mk 24 1 [(1,.str x0),(5,.ref 0),(8,.sl true aB x1),(9,.int .i64 x2),(10,.int .i64 x3)] [(0,.own false aB x4)])
theorem s0 (n0:Nat):V0 k a0 a1 (n0+1)=b0 k (V0 k a0 a1 n0):=by kernel_rfl
theorem e0:V0 k a0 a1=l0 k:=aY rfl (s0 k a0 a1) fun _=>rfl
end
theorem eq (k:Nat) (a0:List (Ty.d aB)) (a1:ByteArray):rn (E k) Tryz.f136 (C k) (a0,a1,())=f k a0 a1:=(show _=t k (V0 k a0 a1 k) a0 a1 by kernel_rfl).trans (by rw [e0];rfl)
theorem ctr (k:Nat):Cp 136 (C k):=rc rfl [] (by kernel_rfl) Tryz.func136 (by kernel_rfl) rfl fun ⟨a0,a1,_⟩ r h=>(eq k a0 a1).trans h
end dD
namespace ek
def C (k:Nat):Cn:=⟨[.val (.slice aB),.val aB],[(.slice aB)],true,false,fun x=>f k x.1 x.2.1⟩
def D (k:Nat):List Ce:=[q (dD.ctr k),q (eE.ctr k)]
def E (k:Nat):dO:=en (D k) [(3,[3,5,6])] 0 [] k
section
variable (k:Nat) (a0:List (Ty.d aB)) (a1:Ty.d aB)
def K0:Ex→St→Rs:=cR (E k) (eK (E k) Tryz.f137 (C k) (a0,a1,())) [.blk 0,.code (at_ (bt 4 15) (body Tryz.f137))]
def V0 (n0:Nat):T0:=fun x0 x1 x2 x3 x4 x5 x6=>ao (bo (E k) (at_ (bt 6 7) (body Tryz.f137))) (ak 0 [3,5,6]) (K0 k a0 a1) n0 (mk 38 2 [(3,.ptr 0 0 0),(5,.ref 1),(6,.int .i64 x0)] [(0,.box [.str x1,.int .i64 x2,.int .i64 x3,.int .i64 x4,.int .i64 x5]),(1,.own false aB x6)])
theorem s0 (n0:Nat):V0 k a0 a1 (n0+1)=b0 k (V0 k a0 a1 n0):=by kernel_rfl
theorem e0:V0 k a0 a1=l0 k:=aY rfl (s0 k a0 a1) fun _=>rfl
end
theorem eq (k:Nat) (a0:List (Ty.d aB)) (a1:Ty.d aB):rn (E k) Tryz.f137 (C k) (a0,a1,())=f k a0 a1:=(show _=t k (V0 k a0 a1 k) a0 a1 by kernel_rfl).trans (by rw [e0];rfl)
theorem ctr (k:Nat):Cp 137 (C k):=rc rfl (D k) (by kernel_rfl) Tryz.func137 (by kernel_rfl) rfl fun ⟨a0,a1,_⟩ r h=>(eq k a0 a1).trans h
end ek
namespace bx
def C (k:Nat):Cn:=⟨[.io true fj,.val (.slice aC)],[],true,false,fun x=>f k x.1 x.2.1⟩
def D (k:Nat):List Ce:=[q (dD.ctr k),q (ek.ctr k)]
def E (k:Nat):dO:=en (D k) [(1,[0,6,7,8])] 1 [] k
section
variable (k:Nat) (a0:Ty.d fj) (a1:List (Ty.d aC))
def K0:Ex→St→Rs:=cR (E k) (eK (E k) Tryz.f93 (C k) (a0,a1,())) [.blk 0,.code (at_ (bt 1 1) (body Tryz.f93))]
def V0 (n0:Nat):T0:=fun x0 x1 x2 x3 x4 x5=>ao (bo (E k) (at_ (bt 4 2) (body Tryz.f93))) (ak 1 [0,6,7,8]) (K0 k a0 a1) n0 (mk 58 2 [(0,.ptr 0 0 0),(6,.sl true aC x0),(7,.int .i64 x1),(8,.int .i64 x2)] [(1,.own false aB x3),(0,.box [.ref 1,.int .i64 x4,.int .i64 x5])])
theorem s0 (n0:Nat):V0 k a0 a1 (n0+1)=b0 k (V0 k a0 a1 n0):=by kernel_rfl
theorem e0:V0 k a0 a1=l0 k:=aY rfl (s0 k a0 a1) fun _=>rfl
end
theorem eq (k:Nat) (a0:Ty.d fj) (a1:List (Ty.d aC)):rn (E k) Tryz.f93 (C k) (a0,a1,())=f k a0 a1:=(show _=t k (V0 k a0 a1 k) a0 a1 by kernel_rfl).trans (by rw [e0];rfl)
theorem ctr (k:Nat):Cp 93 (C k):=rc rfl (D k) (by kernel_rfl) Tryz.func93 (by kernel_rfl) rfl fun ⟨a0,a1,_⟩ r h=>(eq k a0 a1).trans h
end bx
namespace f_
def C (k:Nat):Cn:=⟨[.val fj,.val (.slice aC)],[fj],true,false,fun x=>f k x.1 x.2.1⟩
def D (k:Nat):List Ce:=[q (eE.ctr k),q (ch.ctr k),q (ga.ctr k),q (bx.ctr k)]
def E (k:Nat):dO:=en (D k) [(3,[1,4,5,17,18,19])] 0 [] k
section
variable (k:Nat) (a0:Ty.d fj) (a1:List (Ty.d aC))
def K0:Ex→St→Rs:=cR (E k) (eK (E k) Tryz.f46 (C k) (a0,a1,())) [.blk 0,.code (at_ (bt 3 7) (body Tryz.f46))]
def V0 (n0:Nat):T0:=fun x0 x1 x2 x3 x4 x5 x6 x7 x8 x9=>ao (bo (E k) (at_ (bt 6 11) (body Tryz.f46))) (ak 0 [1,4,5,17,18,19]) (K0 k a0 a1) n0 (mk 77 4 [(1,.sl true aC x0),(4,.ptr 0 0 0),(5,.ptr 2 0 0),(17,.sl true aC x1),(18,.int .i64 x2),(19,.int .i64 x3)] [(1,.own false aB x4),(0,.box [.ref 1,.int .i64 x5,.int .i64 x6]),(3,.own false aB x7),(2,.box [.ref 3,.int .i64 x8,.int .i64 x9])])
theorem s0 (n0:Nat):V0 k a0 a1 (n0+1)=b0 k (V0 k a0 a1 n0):=by kernel_rfl
theorem e0:V0 k a0 a1=l0 k:=aY rfl (s0 k a0 a1) fun _=>rfl
end
theorem eq (k:Nat) (a0:Ty.d fj) (a1:List (Ty.d aC)):rn (E k) Tryz.f46 (C k) (a0,a1,())=f k a0 a1:=(show _=t k (V0 k a0 a1 k) a0 a1 by kernel_rfl).trans (by rw [e0];rfl)
theorem ctr (k:Nat):Cp 46 (C k):=rc rfl (D k) (by kernel_rfl) Tryz.func46 (by kernel_rfl) rfl fun ⟨a0,a1,_⟩ r h=>(eq k a0 a1).trans h
end f_
namespace aq
def C (k:Nat):Cn:=⟨[.val ay],[(.slice aL),.bool],true,false,fun x=>f k x.1⟩
def D (k:Nat):List Ce:=[q (dK.ctr k),q (fY.ctr k),q (f_.ctr k),q (gR.ctr k),q (ii.ctr k)]
def E (k:Nat):dO:=en (D k) [(3,[1,4,16,17,18]),(15,[1,10,47,48,49])] 0 [] k
section
variable (k:Nat) (a0:Ty.d ay)
def K0:Ex→St→Rs:=cR (E k) (eK (E k) Tryz.f14 (C k) (a0,())) [.blk 0,.code (at_ (bt 3 7) (body Tryz.f14))]
def K1:Ex→St→Rs:=cR (E k) (eK (E k) Tryz.f14 (C k) (a0,())) [.blk 2,.code (at_ (bt 7 127) (body Tryz.f14))]
def V0 (n0:Nat):T0:=fun x0 x1 x2 x3 x4 x5=>ao (bo (E k) (at_ (bt 6 11) (body Tryz.f14))) (ak 0 [1,4,16,17,18]) (K0 k a0) n0 (mk 79 2 [(1,.ptr 0 0 0),(4,.ref 1),(16,.sl true dE x0),(17,.int .i64 x1),(18,.int .i64 x2)] [(0,.box [.int .i64 x3,.sl true dE x4]),(1,.own false aC x5)])
def V1 (n1:Nat):T1:=fun x0 x1 x2 x3 x4 x5=>ao (bo (E k) (at_ (bt 10 191) (body Tryz.f14))) (ak 0 [1,10,47,48,49]) (K1 k a0) n1 (mk 79 3 [(1,.ptr 0 0 0),(10,.ref 1),(47,.ref 2),(48,.int .i64 x0),(49,.int .i64 x1)] [(0,.box [.int .i64 x2,.sl true dE x3]),(1,.own false aL x4),(2,.own false aB x5)])
theorem s0 (n0:Nat):V0 k a0 (n0+1)=b0 k (V1 k a0 k) (V0 k a0 n0):=by kernel_rfl
theorem s1 (n1:Nat):V1 k a0 (n1+1)=b1 k (V1 k a0 n1):=by kernel_rfl
theorem e1:V1 k a0=l1 k:=aY rfl (s1 k a0) fun _=>rfl
theorem e0 (n0:Nat):V0 k a0 n0=l0 k n0:=by
 induction n0 with
 | zero=>rfl
 | succ n0 ih =>
  have h:V0 k a0 (n0+1)=b0 k (V1 k a0 k) (V0 k a0 n0):=s0 k a0 n0
  rw [h,e1,ih]
  rfl
end
theorem eq (k:Nat) (a0:Ty.d ay):rn (E k) Tryz.f14 (C k) (a0,())=f k a0:=(show _=t k (V0 k a0 k) a0 by kernel_rfl).trans (by rw [e0];rfl)
theorem ctr (k:Nat):Cp 14 (C k):=rc rfl (D k) (by kernel_rfl) Tryz.func14 (by kernel_rfl) rfl fun ⟨a0,_⟩ r h=>(eq k a0).trans h
end aq
namespace bC
def C (k:Nat):Cn:=⟨[.val ay,.val ay],[.bool],true,false,fun x=>f k x.1 x.2.1⟩
def E (k:Nat):dO:=en [] [(4,[2,3,5])] 0 [] k
section
variable (k:Nat) (a0:Ty.d ay) (a1:Ty.d ay)
def K0:Ex→St→Rs:=cR (E k) (eK (E k) Tryz.f16 (C k) (a0,a1,())) [.blk 0,.code (at_ (bt 3 7) (body Tryz.f16))]
def V0 (n0:Nat):T0:=fun x0 x1 x2 x3 x4=>ao (bo (E k) (at_ (bt 6 11) (body Tryz.f16))) (ak 0 [2,3,5]) (K0 k a0 a1) n0 (mk 38 2 [(2,.ptr 0 0 0),(3,.ptr 1 0 0),(5,.int .i64 x0)] [(0,.box [.int .i64 x1,.sl true dE x2]),(1,.box [.int .i64 x3,.sl true dE x4])])
theorem s0 (n0:Nat):V0 k a0 a1 (n0+1)=b0 k (V0 k a0 a1 n0):=by kernel_rfl
theorem e0:V0 k a0 a1=l0 k:=aY rfl (s0 k a0 a1) fun _=>rfl
end
theorem eq (k:Nat) (a0:Ty.d ay) (a1:Ty.d ay):rn (E k) Tryz.f16 (C k) (a0,a1,())=f k a0 a1:=(show _=t k (V0 k a0 a1 k) a0 a1 by kernel_rfl).trans (by rw [e0];rfl)
theorem ctr (k:Nat):Cp 16 (C k):=rc rfl [] (by kernel_rfl) Tryz.func16 (by kernel_rfl) rfl fun ⟨a0,a1,_⟩ r h=>(eq k a0 a1).trans h
end bC
namespace bq
def C (k:Nat):Cn:=⟨[.val (.slice aL),.val (.slice aL)],[.bool],true,false,fun x=>f k x.1 x.2.1⟩
def E (k:Nat):dO:=en [] [(4,[0,1,5])] 0 [] k
section
variable (k:Nat) (a0:List (Ty.d aL)) (a1:List (Ty.d aL))
def K0:Ex→St→Rs:=cR (E k) (eK (E k) Tryz.f17 (C k) (a0,a1,())) [.blk 0,.code (at_ (bt 3 7) (body Tryz.f17))]
def V0 (n0:Nat):T0:=fun x0 x1 x2=>ao (bo (E k) (at_ (bt 6 11) (body Tryz.f17))) (ak 0 [0,1,5]) (K0 k a0 a1) n0 (mk 26 0 [(0,.sl true aL x0),(1,.sl true aL x1),(5,.int .i64 x2)] [])
theorem s0 (n0:Nat):V0 k a0 a1 (n0+1)=b0 k (V0 k a0 a1 n0):=by kernel_rfl
theorem e0:V0 k a0 a1=l0 k:=aY rfl (s0 k a0 a1) fun _=>rfl
end
theorem eq (k:Nat) (a0:List (Ty.d aL)) (a1:List (Ty.d aL)):rn (E k) Tryz.f17 (C k) (a0,a1,())=f k a0 a1:=(show _=t k (V0 k a0 a1 k) a0 a1 by kernel_rfl).trans (by rw [e0];rfl)
theorem ctr (k:Nat):Cp 17 (C k):=rc rfl [] (by kernel_rfl) Tryz.func17 (by kernel_rfl) rfl fun ⟨a0,a1,_⟩ r h=>(eq k a0 a1).trans h
end bq
namespace am
def C (k:Nat):Cn:=⟨[.val (.slice (.int .u8))],[.bool],true,false,fun x=>f k x.1⟩
def D (k:Nat):List Ce:=[q (o8.ctr k),q (gw.ctr k),q (iZ.ctr k),q (dt.ctr k),q (dG.ctr k),q (mT.ctr k),q (dA.ctr k),q (bK.ctr k),q (c9.ctr k),q (aq.ctr k),q (eO.ctr k),q (bC.ctr k),q (bq.ctr k)]
def E (k:Nat):dO:=en (D k) [(10,[0,3,4,6,7,8])] 0 [] k
section
variable (k:Nat) (a0:List Int)
def K0:Ex→St→Rs:=cR (E k) (eK (E k) Tryz.f3 (C k) (a0,())) [.blk 0,.code (at_ (bt 8 255) (body Tryz.f3))]
def V0 (n0:Nat):T0:=fun x0 x1 x2 x3 x4 x5 x6 x7 x8 x9 x10 x11 x12 x13 x14 x15 x16 x17 x18 x19=>ao (bo (E k) (at_ (bt 11 383) (body Tryz.f3))) (ak 0 [0,3,4,6,7,8]) (K0 k a0) n0 (mk 148 9 [(0,.sl true (.int .u8) x0),(3,.ptr 0 0 0),(4,.ptr 2 0 0),(6,.ptr 7 0 0),(7,.int .i64 x1),(8,.int .i64 x2)] [(1,.own false bg x3),(0,.box [.int .i64 x4,.int .i64 x5,.ref 1]),(3,.own false (.int .i64) x6),(4,.own false aB x7),(5,.own false aL x8),(6,.own false du x9),(2,.box [.bool x10,.int .i64 x11,.ref 3,.ref 4,.int .i64 x12,.int .i64 x13,.int .i64 x14,.ref 5,.int .i64 x15,.int .i64 x16,.bool x17,.ref 6]),(8,.own false dE x18),(7,.box [.int .i64 x19,.ref 8])])
def V1 (n0:Nat):T1:=fun x0 x1 x2 x3 x4 x5 x6 x7 x8 x9 x10 x11 x12 x13 x14 x15 x16 x17 x18 x19=>ao (bo (E k) (at_ (bt 11 383) (body Tryz.f3))) (ak 0 [0,3,4,6,7,8]) (K0 k a0) n0 (mk 148 9 [(0,.sl true (.int .u8) x0),(3,.ptr 0 0 0),(4,.ptr 2 0 0),(6,.ptr 7 0 0),(7,.int .i64 x1),(8,.int .i64 x2)] [(1,.own false bg x3),(0,.box [.int .i64 x4,.int .i64 x5,.ref 1]),(3,.own false (.int .i64) x6),(4,.own false aB x7),(5,.own false aL x8),(6,.own true du x9),(2,.box [.bool x10,.int .i64 x11,.ref 3,.ref 4,.int .i64 x12,.int .i64 x13,.int .i64 x14,.ref 5,.int .i64 x15,.int .i64 x16,.bool x17,.ref 6]),(8,.own false dE x18),(7,.box [.int .i64 x19,.ref 8])])
theorem s0 (n0:Nat):V0 k a0 (n0+1)=b0 k (V1 k a0 n0):=by kernel_rfl
theorem s1 (n0:Nat):V1 k a0 (n0+1)=b1 k (V1 k a0 n0):=by kernel_rfl
theorem e1:V1 k a0=l1 k:=aY rfl (s1 k a0) fun _=>rfl
theorem e0 (n0:Nat):V0 k a0 n0=l0 k n0:=by
 induction n0 with
 | zero=>rfl
 | succ n0 ih =>
  have h:V0 k a0 (n0+1)=b0 k (V1 k a0 n0):=s0 k a0 n0
  rw [h,e1]
  rfl
end
theorem eq (k:Nat) (a0:List Int):rn (E k) Tryz.f3 (C k) (a0,())=f k a0:=(show _=t k (V0 k a0 k) a0 by kernel_rfl).trans (by rw [e0];rfl)
theorem ctr (k:Nat):Cp 3 (C k):=rc rfl (D k) (by kernel_rfl) Tryz.func3 (by kernel_rfl) rfl fun ⟨a0,_⟩ r h=>(eq k a0).trans h
end am
end
end Go.Proofs.YtnpijgnfpdcjbaaGreatDoor.G

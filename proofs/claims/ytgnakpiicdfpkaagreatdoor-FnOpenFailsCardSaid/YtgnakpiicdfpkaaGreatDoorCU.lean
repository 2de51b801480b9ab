/- Functions keep their contracts. -/
import Derived.Test.YtgnakpiicdfpkaaGreatDoorVTab
import Derived.Test.YtgnakpiicdfpkaaGreatDoorFU
import Derived.Test.YtgnakpiicdfpkaaGreatDoorCLib
set_option linter.unusedVariables false
set_option maxRecDepth 100000
namespace Go.Proofs.YtgnakpiicdfpkaaGreatDoor.G
open Go.V
noncomputable section
namespace pc
def C (k:Nat):Cn:=⟨[.val (.slice (.int .u8))],[.bool],true,false,fun x=>f k x.1⟩
def E (k:Nat):cD:=en [] [] 0 [] k
theorem eq (k:Nat) (a0:List Int):rn (E k) Tryz.f4 (C k) (a0,())=f k a0:=by kernel_rfl
theorem ctr (k:Nat):Cp 4 (C k):=rc rfl [] (by kernel_rfl) Tryz.func4 (by kernel_rfl) rfl fun ⟨a0,_⟩ r h=>(eq k a0).trans h
end pc
namespace gT
def C (k:Nat):Cn:=⟨[.val (.slice (.int .u8))],[.opq,ag],false,true,fun x=>f k x.1⟩
def E (k:Nat):cD:=en [] [(3,[0,3,4])] 0 [] k
section
variable (k:Nat) (a0:List Int)
def K0:Ex→St→Rs:=c_ (E k) (eB (E k) Tryz.f16 (C k) (a0,())) [.blk 0,.code (at_ (bt 3 7) (body Tryz.f16))]
def V0 (n0:Nat):T0:=fun x0 x1 x2=>ao (bT (E k) (at_ (bt 6 11) (body Tryz.f16))) (ak 0 [0,3,4]) (K0 k a0) n0 (mk 32 0 [(0,.sl true (.int .u8) x0),(3,.int .i64 x1),(4,.int .i64 x2)] [])
theorem s0 (n0:Nat):V0 k a0 (n0+1)=b0 k (V0 k a0 n0):=by kernel_rfl
theorem e0:V0 k a0=l0 k:=aT rfl (s0 k a0) fun _=>rfl
end
theorem eq (k:Nat) (a0:List Int):rb (E k) Tryz.f16 (C k) (a0,())=f k a0:=(show _=t k (V0 k a0 k) a0 by kernel_rfl).trans (by rw [e0];rfl)
theorem ctr (k:Nat):Cp 16 (C k):=N4 rfl rfl rfl [] (by kernel_rfl) Tryz.func16 (by kernel_rfl) rfl fun ⟨a0,_⟩ r h=>(eq k a0).trans h
end gT
namespace aZ
def C (k:Nat):Cn:=⟨[.val (.int .i64),.val (.int .i64),.val (.int .i64)],[.bool],true,false,fun x=>f k x.1 x.2.1 x.2.2.1⟩
def E (k:Nat):cD:=en [] [] 0 [] k
theorem eq (k:Nat) (a0:Int) (a1:Int) (a2:Int):rn (E k) Tryz.f67 (C k) (a0,a1,a2,())=f k a0 a1 a2:=by kernel_rfl
theorem ctr (k:Nat):Cp 67 (C k):=rc rfl [] (by kernel_rfl) Tryz.func67 (by kernel_rfl) rfl fun ⟨a0,a1,a2,_⟩ r h=>(eq k a0 a1 a2).trans h
end aZ
namespace eR
def C (k:Nat):Cn:=⟨[.val (.int .i64)],[a_],true,false,fun x=>f k x.1⟩
def D (k:Nat):List Ce:=[q (aZ.ctr k)]
def E (k:Nat):cD:=en (D k) [] 0 [] k
theorem eq (k:Nat) (a0:Int):rn (E k) Tryz.f48 (C k) (a0,())=f k a0:=by kernel_rfl
theorem ctr (k:Nat):Cp 48 (C k):=rc rfl (D k) (by kernel_rfl) Tryz.func48 (by kernel_rfl) rfl fun ⟨a0,_⟩ r h=>(eq k a0).trans h
end eR
namespace dj
def C (k:Nat):Cn:=⟨[.io false ag],[(.int .i64)],true,true,fun x=>f k x.1⟩
def E (k:Nat):cD:=en [] [] 1 [] k
theorem eq (k:Nat) (a0:Ty.d ag):rn (E k) Tryz.f106 (C k) (a0,())=f k a0:=by kernel_rfl
theorem ctr (k:Nat):Cp 106 (C k):=rc rfl [] (by kernel_rfl) Tryz.func106 (by kernel_rfl) rfl fun ⟨a0,_⟩ r h=>(eq k a0).trans h
end dj
namespace aI
def C (k:Nat):Cn:=⟨[.io false ag,.val (.int .i64)],[(.int .i64)],true,true,fun x=>f k x.1 x.2.1⟩
def D (k:Nat):List Ce:=[q (dj.ctr k)]
def E (k:Nat):cD:=en (D k) [] 1 [] k
theorem eq (k:Nat) (a0:Ty.d ag) (a1:Int):rn (E k) Tryz.f59 (C k) (a0,a1,())=f k a0 a1:=by kernel_rfl
theorem ctr (k:Nat):Cp 59 (C k):=rc rfl (D k) (by kernel_rfl) Tryz.func59 (by kernel_rfl) rfl fun ⟨a0,a1,_⟩ r h=>(eq k a0 a1).trans h
end aI
namespace gN
def C (k:Nat):Cn:=⟨[.io false ag],[ay],true,true,fun x=>f k x.1⟩
def D (k:Nat):List Ce:=[q (aI.ctr k)]
def E (k:Nat):cD:=en (D k) [(4,[0,2,3,4,5])] 1 [] k
section
variable (k:Nat) (a0:Ty.d ag)
def K0:Ex→St→Rs:=c_ (E k) (eK (E k) Tryz.f49 (C k) (a0,())) [.blk 0,.code (at_ (bt 4 15) (body Tryz.f49))]
def V0 (n0:Nat):T0:=fun x0 x1 x2 x3 x4 x5 x6 x7 x8=>ao (bT (E k) (at_ (bt 7 23) (body Tryz.f49))) (ak 1 [0,2,3,4,5]) (K0 k a0) n0 (mk 32 5 [(0,.ptr 0 0 0),(2,.ptr 1 0 0),(3,.ptr 3 0 0),(4,.int .i64 x0),(5,.int .i64 x1)] [(0,.box [.sl true (.int .u8) x2,.int .i64 x3,.int .i64 x4]),(2,.own false (.int .i64) x5),(1,.box [.int .i64 x6,.ref 2]),(4,.own false (.int .i64) x7),(3,.box [.int .i64 x8,.ref 4])])
theorem s0 (n0:Nat):V0 k a0 (n0+1)=b0 k (V0 k a0 n0):=by kernel_rfl
theorem e0:V0 k a0=l0 k:=aT rfl (s0 k a0) fun _=>rfl
end
theorem eq (k:Nat) (a0:Ty.d ag):rn (E k) Tryz.f49 (C k) (a0,())=f k a0:=(show _=t k (V0 k a0 k) a0 by kernel_rfl).trans (by rw [e0];rfl)
theorem ctr (k:Nat):Cp 49 (C k):=rc rfl (D k) (by kernel_rfl) Tryz.func49 (by kernel_rfl) rfl fun ⟨a0,_⟩ r h=>(eq k a0).trans h
end gN
namespace bD
def C (k:Nat):Cn:=⟨[.io false ag,.val (.int .i64)],[.bool],true,true,fun x=>f k x.1 x.2.1⟩
def D (k:Nat):List Ce:=[q (aI.ctr k)]
def E (k:Nat):cD:=en (D k) [] 1 [] k
theorem eq (k:Nat) (a0:Ty.d ag) (a1:Int):rn (E k) Tryz.f18 (C k) (a0,a1,())=f k a0 a1:=by kernel_rfl
theorem ctr (k:Nat):Cp 18 (C k):=rc rfl (D k) (by kernel_rfl) Tryz.func18 (by kernel_rfl) rfl fun ⟨a0,a1,_⟩ r h=>(eq k a0 a1).trans h
end bD
namespace eM
def C (k:Nat):Cn:=⟨[.io false ag,.val (.slice .str)],[.str],true,true,fun x=>f k x.1 x.2.1⟩
def D (k:Nat):List Ce:=[q (aI.ctr k)]
def E (k:Nat):cD:=en (D k) [] 1 [] k
theorem eq (k:Nat) (a0:Ty.d ag) (a1:List ByteArray):rn (E k) Tryz.f115 (C k) (a0,a1,())=f k a0 a1:=by kernel_rfl
theorem ctr (k:Nat):Cp 115 (C k):=rc rfl (D k) (by kernel_rfl) Tryz.func115 (by kernel_rfl) rfl fun ⟨a0,a1,_⟩ r h=>(eq k a0 a1).trans h
end eM
namespace eP
def C (k:Nat):Cn:=⟨[.io false ag],[.str],true,true,fun x=>f k x.1⟩
def D (k:Nat):List Ce:=[q (eM.ctr k)]
def E (k:Nat):cD:=en (D k) [] 1 [] k
theorem eq (k:Nat) (a0:Ty.d ag):rn (E k) Tryz.f99 (C k) (a0,())=f k a0:=by kernel_rfl
theorem ctr (k:Nat):Cp 99 (C k):=rc rfl (D k) (by kernel_rfl) Tryz.func99 (by kernel_rfl) rfl fun ⟨a0,_⟩ r h=>(eq k a0).trans h
end eP
namespace bE
def C (k:Nat):Cn:=⟨[.io false ag,.val (.int .i64)],[.str],true,true,fun x=>f k x.1 x.2.1⟩
def D (k:Nat):List Ce:=[q (aI.ctr k),q (dj.ctr k)]
def E (k:Nat):cD:=en (D k) [(4,[0,5,6,7])] 1 [] k
section
variable (k:Nat) (a0:Ty.d ag) (a1:Int)
def K0:Ex→St→Rs:=c_ (E k) (eK (E k) Tryz.f100 (C k) (a0,a1,())) [.blk 0,.code (at_ (bt 4 15) (body Tryz.f100))]
def V0 (n0:Nat):T0:=fun x0 x1 x2 x3 x4 x5=>ao (bT (E k) (at_ (bt 7 23) (body Tryz.f100))) (ak 1 [0,5,6,7]) (K0 k a0 a1) n0 (mk 38 2 [(0,.ptr 0 0 0),(5,.ref 1),(6,.int .i64 x0),(7,.int .i64 x1)] [(0,.box [.sl true (.int .u8) x2,.int .i64 x3,.int .i64 x4]),(1,.own false (.int .u8) x5)])
theorem s0 (n0:Nat):V0 k a0 a1 (n0+1)=b0 k (V0 k a0 a1 n0):=by kernel_rfl
theorem e0:V0 k a0 a1=l0 k:=aT rfl (s0 k a0 a1) fun _=>rfl
end
theorem eq (k:Nat) (a0:Ty.d ag) (a1:Int):rn (E k) Tryz.f100 (C k) (a0,a1,())=f k a0 a1:=(show _=t k (V0 k a0 a1 k) a0 a1 by kernel_rfl).trans (by rw [e0];rfl)
theorem ctr (k:Nat):Cp 100 (C k):=rc rfl (D k) (by kernel_rfl) Tryz.func100 (by kernel_rfl) rfl fun ⟨a0,a1,_⟩ r h=>(eq k a0 a1).trans h
end bE
namespace eO
def C (k:Nat):Cn:=⟨[.val .str],[.bool],true,false,fun x=>f k x.1⟩
def D (k:Nat):List Ce:=[q (aZ.ctr k)]
def E (k:Nat):cD:=en (D k) [] 0 [] k
theorem eq (k:Nat) (a0:ByteArray):rn (E k) Tryz.f149 (C k) (a0,())=f k a0:=by kernel_rfl
theorem ctr (k:Nat):Cp 149 (C k):=rc rfl (D k) (by kernel_rfl) Tryz.func149 (by kernel_rfl) rfl fun ⟨a0,_⟩ r h=>(eq k a0).trans h
end eO
namespace kx
def C (k:Nat):Cn:=⟨[.val bP],[.bool],true,false,fun x=>f k x.1⟩
def D (k:Nat):List Ce:=[q (aZ.ctr k),q (eO.ctr k)]
def E (k:Nat):cD:=en (D k) [] 0 [] k
theorem eq (k:Nat) (a0:Ty.d bP):rn (E k) Tryz.f105 (C k) (a0,())=f k a0:=by kernel_rfl
theorem ctr (k:Nat):Cp 105 (C k):=rc rfl (D k) (by kernel_rfl) Tryz.func105 (by kernel_rfl) rfl fun ⟨a0,_⟩ r h=>(eq k a0).trans h
end kx
namespace bn
def C (k:Nat):Cn:=⟨[.val (.int .i64)],[.str],true,false,fun x=>f k x.1⟩
def D (k:Nat):List Ce:=[q (aZ.ctr k)]
def E (k:Nat):cD:=en (D k) [(4,[0,3])] 0 [] k
section
variable (k:Nat) (a0:Int)
def K0:Ex→St→Rs:=c_ (E k) (eK (E k) Tryz.f102 (C k) (a0,())) [.blk 0,.code (at_ (bt 4 15) (body Tryz.f102))]
def V0 (n0:Nat):T0:=fun x0 x1=>ao (bT (E k) (at_ (bt 6 7) (body Tryz.f102))) (ak 0 [0,3]) (K0 k a0) n0 (mk 25 1 [(0,.int .i64 x0),(3,.ref 0)] [(0,.own false (.int .u8) x1)])
theorem s0 (n0:Nat):V0 k a0 (n0+1)=b0 k (V0 k a0 n0):=by kernel_rfl
theorem e0:V0 k a0=l0 k:=aT rfl (s0 k a0) fun _=>rfl
end
theorem eq (k:Nat) (a0:Int):rn (E k) Tryz.f102 (C k) (a0,())=f k a0:=(show _=t k (V0 k a0 k) a0 by kernel_rfl).trans (by rw [e0];rfl)
theorem ctr (k:Nat):Cp 102 (C k):=rc rfl (D k) (by kernel_rfl) Tryz.func102 (by kernel_rfl) rfl fun ⟨a0,_⟩ r h=>(eq k a0).trans h
end bn
namespace dU
def C (k:Nat):Cn:=⟨[.val (.int .i64),.val (.int .i64)],[.str],true,false,fun x=>f k x.1 x.2.1⟩
def D (k:Nat):List Ce:=[q (aZ.ctr k)]
def E (k:Nat):cD:=en (D k) [(5,[0,1,5,6])] 0 [] k
section
variable (k:Nat) (a0:Int) (a1:Int)
def K0:Ex→St→Rs:=c_ (E k) (eK (E k) Tryz.f103 (C k) (a0,a1,())) [.blk 0,.code (at_ (bt 4 15) (body Tryz.f103))]
def V0 (n0:Nat):T0:=fun x0 x1 x2 x3=>ao (bT (E k) (at_ (bt 7 23) (body Tryz.f103))) (ak 0 [0,1,5,6]) (K0 k a0 a1) n0 (mk 31 0 [(0,.int .i64 x0),(1,.int .i64 x1),(5,.str x2),(6,.int .i64 x3)] [])
theorem s0 (n0:Nat):V0 k a0 a1 (n0+1)=b0 k (V0 k a0 a1 n0):=by kernel_rfl
theorem e0:V0 k a0 a1=l0 k:=aT rfl (s0 k a0 a1) fun _=>rfl
end
theorem eq (k:Nat) (a0:Int) (a1:Int):rn (E k) Tryz.f103 (C k) (a0,a1,())=f k a0 a1:=(show _=t k (V0 k a0 a1 k) a0 a1 by kernel_rfl).trans (by rw [e0];rfl)
theorem ctr (k:Nat):Cp 103 (C k):=rc rfl (D k) (by kernel_rfl) Tryz.func103 (by kernel_rfl) rfl fun ⟨a0,a1,_⟩ r h=>(eq k a0 a1).trans h
end dU
namespace bL
def C (k:Nat):Cn:=⟨[.val bP],[.str],true,false,fun x=>f k x.1⟩
def D (k:Nat):List Ce:=[q (kx.ctr k),q (bn.ctr k),q (dU.ctr k)]
def E (k:Nat):cD:=en (D k) [] 0 [] k
theorem eq (k:Nat) (a0:Ty.d bP):rn (E k) Tryz.f53 (C k) (a0,())=f k a0:=by kernel_rfl
theorem ctr (k:Nat):Cp 53 (C k):=rc rfl (D k) (by kernel_rfl) Tryz.func53 (by kernel_rfl) rfl fun ⟨a0,_⟩ r h=>(eq k a0).trans h
end bL
namespace gO
def C (k:Nat):Cn:=⟨[.val .str],[(.int .i64)],true,false,fun x=>f k x.1⟩
def E (k:Nat):cD:=en [] [(3,[0,3,4]),(7,[0,3,4,5])] 0 [] k
section
variable (k:Nat) (a0:ByteArray)
def K0:Ex→St→Rs:=c_ (E k) (eK (E k) Tryz.f104 (C k) (a0,())) [.blk 0,.code (at_ (bt 3 7) (body Tryz.f104))]
def B0 (n0:Nat):Ex→St→Rs:=Le (E k) (at_ (bt 6 11) (body Tryz.f104)) 0 [0,3,4] (K0 k a0) n0
def K1 (n0:Nat):Ex→St→Rs:=c_ (E k) (B0 k a0 n0) [.blk 2,.blk 1,.code (at_ (bt 8 203) (body Tryz.f104))]
def V0 (n0:Nat):T0:=fun x0 x1 x2=>ao (bT (E k) (at_ (bt 6 11) (body Tryz.f104))) (ak 0 [0,3,4]) (K0 k a0) n0 (mk 33 0 [(0,.str x0),(3,.int .i64 x1),(4,.int .i64 x2)] [])
def V1 (n0 n1:Nat):T1:=fun x0 x1 x2 x3=>ao (bT (E k) (at_ (bt 13 1611) (body Tryz.f104))) (ak 0 [0,3,4,5]) (K1 k a0 n0) n1 (mk 33 0 [(0,.str x0),(3,.int .i64 x1),(4,.int .i64 x2),(5,.int .i64 x3)] [])
theorem s0 (n0:Nat):V0 k a0 (n0+1)=b0 k (V1 k a0 n0 k) (V0 k a0 n0):=by kernel_rfl
theorem s1 (n0 n1:Nat):V1 k a0 n0 (n1+1)=b1 k (V0 k a0 n0) (V1 k a0 n0 n1):=by kernel_rfl
theorem e1 (n0:Nat):V1 k a0 n0=l1 k (V0 k a0 n0):=aT rfl (s1 k a0 n0) fun _=>rfl
theorem e0 (n0:Nat):V0 k a0 n0=l0 k n0:=by
 induction n0 with
 | zero=>rfl
 | succ n0 ih =>
  have h:V0 k a0 (n0+1)=b0 k (V1 k a0 n0 k) (V0 k a0 n0):=s0 k a0 n0
  rw [h,e1,ih]
  rfl
end
theorem eq (k:Nat) (a0:ByteArray):rn (E k) Tryz.f104 (C k) (a0,())=f k a0:=(show _=t k (V0 k a0 k) a0 by kernel_rfl).trans (by rw [e0];rfl)
theorem ctr (k:Nat):Cp 104 (C k):=rc rfl [] (by kernel_rfl) Tryz.func104 (by kernel_rfl) rfl fun ⟨a0,_⟩ r h=>(eq k a0).trans h
end gO
namespace gG
def C (k:Nat):Cn:=⟨[.val (.slice bP)],[(.int .i64)],true,false,fun x=>f k x.1⟩
def D (k:Nat):List Ce:=[q (bL.ctr k),q (gO.ctr k)]
def E (k:Nat):cD:=en (D k) [(3,[0,3,4])] 0 [] k
section
variable (k:Nat) (a0:List (Ty.d bP))
def K0:Ex→St→Rs:=c_ (E k) (eK (E k) Tryz.f107 (C k) (a0,())) [.blk 0,.code (at_ (bt 3 7) (body Tryz.f107))]
def V0 (n0:Nat):T0:=fun x0 x1 x2=>ao (bT (E k) (at_ (bt 6 11) (body Tryz.f107))) (ak 0 [0,3,4]) (K0 k a0) n0 (mk 20 0 [(0,.sl true bP x0),(3,.str x1),(4,.int .i64 x2)] [])
theorem s0 (n0:Nat):V0 k a0 (n0+1)=b0 k (V0 k a0 n0):=by kernel_rfl
theorem e0:V0 k a0=l0 k:=aT rfl (s0 k a0) fun _=>rfl
end
theorem eq (k:Nat) (a0:List (Ty.d bP)):rn (E k) Tryz.f107 (C k) (a0,())=f k a0:=(show _=t k (V0 k a0 k) a0 by kernel_rfl).trans (by rw [e0];rfl)
theorem ctr (k:Nat):Cp 107 (C k):=rc rfl (D k) (by kernel_rfl) Tryz.func107 (by kernel_rfl) rfl fun ⟨a0,_⟩ r h=>(eq k a0).trans h
end gG
namespace er
def C (k:Nat):Cn:=⟨[.val (.slice bP),.val (.int .i64),.val (.int .i64)],[bP],true,false,fun x=>f k x.1 x.2.1 x.2.2.1⟩
def D (k:Nat):List Ce:=[q (gG.ctr k)]
def E (k:Nat):cD:=en (D k) [] 0 [] k
theorem eq (k:Nat) (a0:List (Ty.d bP)) (a1:Int) (a2:Int):rn (E k) Tryz.f101 (C k) (a0,a1,a2,())=f k a0 a1 a2:=by kernel_rfl
theorem ctr (k:Nat):Cp 101 (C k):=rc rfl (D k) (by kernel_rfl) Tryz.func101 (by kernel_rfl) rfl fun ⟨a0,a1,a2,_⟩ r h=>(eq k a0 a1 a2).trans h
end er
namespace ac
def C (k:Nat):Cn:=⟨[.io false ag],[(.slice aD)],true,true,fun x=>f k x.1⟩
def D (k:Nat):List Ce:=[q (bD.ctr k),q (aI.ctr k),q (eP.ctr k),q (bE.ctr k),q (er.ctr k)]
def E (k:Nat):cD:=en (D k) [(7,[0,3,4,5,6,7]),(12,[0,3,4,5,6,8]),(19,[0,3,4,5,9]),(24,[0,3,4,5,9,10,11]),(31,[0,3,4,5,9,10,13])] 1 [] k
section
variable (k:Nat) (a0:Ty.d ag)
def K0:Ex→St→Rs:=c_ (E k) (eK (E k) Tryz.f50 (C k) (a0,())) [.blk 0,.code (at_ (bt 9 431) (body Tryz.f50)),.code (at_ (bt 5 31) (body Tryz.f50))]
def K1:Ex→St→Rs:=c_ (E k) (eK (E k) Tryz.f50 (C k) (a0,())) [.blk 2,.code (at_ (bt 10 943) (body Tryz.f50)),.code (at_ (bt 5 31) (body Tryz.f50))]
def K2:Ex→St→Rs:=c_ (E k) (eK (E k) Tryz.f50 (C k) (a0,())) [.blk 4,.code (at_ (bt 6 63) (body Tryz.f50))]
def B2 (n2:Nat):Ex→St→Rs:=Le (E k) (at_ (bt 9 95) (body Tryz.f50)) 1 [0,3,4,5,9] (K2 k a0) n2
def K3 (n2:Nat):Ex→St→Rs:=c_ (E k) (B2 k a0 n2) [.blk 6,.code (at_ (bt 15 29279) (body Tryz.f50)),.blk 5,.code (at_ (bt 11 1631) (body Tryz.f50))]
def K4 (n2:Nat):Ex→St→Rs:=c_ (E k) (B2 k a0 n2) [.blk 8,.code (at_ (bt 16 62047) (body Tryz.f50)),.blk 5,.code (at_ (bt 11 1631) (body Tryz.f50))]
def V0 (n0:Nat):T0:=fun x0 x1 x2 x3 x4 x5 x6 x7=>ao (bT (E k) (at_ (bt 12 687) (body Tryz.f50))) (ak 1 [0,3,4,5,6,7]) (K0 k a0) n0 (mk 144 3 [(0,.ptr 0 0 0),(3,.ref 1),(4,.int .i64 x0),(5,.int .i64 x1),(6,.ref 2),(7,.int .i64 x2)] [(0,.box [.sl true (.int .u8) x3,.int .i64 x4,.int .i64 x5]),(1,.own false aD x6),(2,.own false bP x7)])
def V1 (n1:Nat):T1:=fun x0 x1 x2 x3 x4 x5 x6 x7=>ao (bT (E k) (at_ (bt 13 1455) (body Tryz.f50))) (ak 1 [0,3,4,5,6,8]) (K1 k a0) n1 (mk 144 3 [(0,.ptr 0 0 0),(3,.ref 1),(4,.int .i64 x0),(5,.int .i64 x1),(6,.ref 2),(8,.int .i64 x2)] [(0,.box [.sl true (.int .u8) x3,.int .i64 x4,.int .i64 x5]),(1,.own false aD x6),(2,.own false bP x7)])
def V2 (n2:Nat):T2:=fun x0 x1 x2 x3 x4 x5 x6=>ao (bT (E k) (at_ (bt 9 95) (body Tryz.f50))) (ak 1 [0,3,4,5,9]) (K2 k a0) n2 (mk 144 2 [(0,.ptr 0 0 0),(3,.ref 1),(4,.int .i64 x0),(5,.int .i64 x1),(9,.int .i64 x2)] [(0,.box [.sl true (.int .u8) x3,.int .i64 x4,.int .i64 x5]),(1,.own false aD x6)])
def V3 (n2 n3:Nat):T3:=fun x0 x1 x2 x3 x4 x5 x6 x7 x8=>ao (bT (E k) (at_ (bt 18 45663) (body Tryz.f50))) (ak 1 [0,3,4,5,9,10,11]) (K3 k a0 n2) n3 (mk 144 3 [(0,.ptr 0 0 0),(3,.ref 1),(4,.int .i64 x0),(5,.int .i64 x1),(9,.int .i64 x2),(10,.ref 2),(11,.int .i64 x3)] [(0,.box [.sl true (.int .u8) x4,.int .i64 x5,.int .i64 x6]),(1,.own false aD x7),(2,.own false bP x8)])
def V4 (n2 n4:Nat):T4:=fun x0 x1 x2 x3 x4 x5 x6 x7 x8=>ao (bT (E k) (at_ (bt 19 94815) (body Tryz.f50))) (ak 1 [0,3,4,5,9,10,13]) (K4 k a0 n2) n4 (mk 144 3 [(0,.ptr 0 0 0),(3,.ref 1),(4,.int .i64 x0),(5,.int .i64 x1),(9,.int .i64 x2),(10,.ref 2),(13,.int .i64 x3)] [(0,.box [.sl true (.int .u8) x4,.int .i64 x5,.int .i64 x6]),(1,.own false aD x7),(2,.own false bP x8)])
theorem s0 (n0:Nat):V0 k a0 (n0+1)=b0 k (V1 k a0 k) (V0 k a0 n0):=by kernel_rfl
theorem s1 (n1:Nat):V1 k a0 (n1+1)=b1 k (V2 k a0 k) (V1 k a0 n1):=by kernel_rfl
theorem s2 (n2:Nat):V2 k a0 (n2+1)=b2 k (V3 k a0 n2 k) (V2 k a0 n2):=by kernel_rfl
theorem s3 (n2 n3:Nat):V3 k a0 n2 (n3+1)=b3 k (V4 k a0 n2 k) (V2 k a0 n2) (V3 k a0 n2 n3):=by kernel_rfl
theorem s4 (n2 n4:Nat):V4 k a0 n2 (n4+1)=b4 k (V2 k a0 n2) (V4 k a0 n2 n4):=by kernel_rfl
theorem e4 (n2:Nat):V4 k a0 n2=l4 k (V2 k a0 n2):=aT rfl (s4 k a0 n2) fun _=>rfl
theorem e3 (n2 n3:Nat):V3 k a0 n2 n3=l3 k (V2 k a0 n2) n3:=by
 induction n3 with
 | zero=>rfl
 | succ n3 ih =>
  have h:V3 k a0 n2 (n3+1)=b3 k (V4 k a0 n2 k) (V2 k a0 n2) (V3 k a0 n2 n3):=s3 k a0 n2 n3
  rw [h,e4,ih]
  rfl
theorem e2 (n2:Nat):V2 k a0 n2=l2 k n2:=by
 induction n2 with
 | zero=>rfl
 | succ n2 ih =>
  have h:V2 k a0 (n2+1)=b2 k (V3 k a0 n2 k) (V2 k a0 n2):=s2 k a0 n2
  rw [h,e3,ih]
  rfl
theorem e1 (n1:Nat):V1 k a0 n1=l1 k n1:=by
 induction n1 with
 | zero=>rfl
 | succ n1 ih =>
  have h:V1 k a0 (n1+1)=b1 k (V2 k a0 k) (V1 k a0 n1):=s1 k a0 n1
  rw [h,e2,ih]
  rfl
theorem e0 (n0:Nat):V0 k a0 n0=l0 k n0:=by
 induction n0 with
 | zero=>rfl
 | succ n0 ih =>
  have h:V0 k a0 (n0+1)=b0 k (V1 k a0 k) (V0 k a0 n0):=s0 k a0 n0
  rw [h,e1,ih]
  rfl
end
theorem eq (k:Nat) (a0:Ty.d ag):rn (E k) Tryz.f50 (C k) (a0,())=f k a0:=(show _=t k (V0 k a0 k) (V2 k a0 k) a0 by kernel_rfl).trans (by rw [e0,e2];rfl)
theorem ctr (k:Nat):Cp 50 (C k):=rc rfl (D k) (by kernel_rfl) Tryz.func50 (by kernel_rfl) rfl fun ⟨a0,_⟩ r h=>(eq k a0).trans h
end ac
namespace d8
def C (k:Nat):Cn:=⟨[.val .str],[.str],true,false,fun x=>f k x.1⟩
def D (k:Nat):List Ce:=[q (bn.ctr k),q (gO.ctr k),q (dU.ctr k)]
def E (k:Nat):cD:=en (D k) [] 0 [] k
theorem eq (k:Nat) (a0:ByteArray):rn (E k) Tryz.f52 (C k) (a0,())=f k a0:=by kernel_rfl
theorem ctr (k:Nat):Cp 52 (C k):=rc rfl (D k) (by kernel_rfl) Tryz.func52 (by kernel_rfl) rfl fun ⟨a0,_⟩ r h=>(eq k a0).trans h
end d8
namespace fY
def C (k:Nat):Cn:=⟨[.io false ag,.val .str],[.str],true,true,fun x=>f k x.1 x.2.1⟩
def D (k:Nat):List Ce:=[q (bE.ctr k),q (aI.ctr k),q (dj.ctr k)]
def E (k:Nat):cD:=en (D k) [] 1 [] k
theorem eq (k:Nat) (a0:Ty.d ag) (a1:ByteArray):rn (E k) Tryz.f54 (C k) (a0,a1,())=f k a0 a1:=by kernel_rfl
theorem ctr (k:Nat):Cp 54 (C k):=rc rfl (D k) (by kernel_rfl) Tryz.func54 (by kernel_rfl) rfl fun ⟨a0,a1,_⟩ r h=>(eq k a0 a1).trans h
end fY
namespace dt
def C (k:Nat):Cn:=⟨[.io false ag],[.str],true,true,fun x=>f k x.1⟩
def D (k:Nat):List Ce:=[q (bD.ctr k),q (aI.ctr k),q (bE.ctr k),q (bL.ctr k),q (d8.ctr k),q (er.ctr k),q (fY.ctr k)]
def E (k:Nat):cD:=en (D k) [(5,[0,3,4,5,6])] 1 [] k
section
variable (k:Nat) (a0:Ty.d ag)
def K0:Ex→St→Rs:=c_ (E k) (eK (E k) Tryz.f51 (C k) (a0,())) [.blk 0,.code (at_ (bt 5 31) (body Tryz.f51))]
def V0 (n0:Nat):T0:=fun x0 x1 x2 x3 x4 x5 x6=>ao (bT (E k) (at_ (bt 8 47) (body Tryz.f51))) (ak 1 [0,3,4,5,6]) (K0 k a0) n0 (mk 57 3 [(0,.ptr 0 0 0),(3,.str x0),(4,.ref 1),(5,.ref 2),(6,.int .i64 x1)] [(0,.box [.sl true (.int .u8) x2,.int .i64 x3,.int .i64 x4]),(1,.own false bP x5),(2,.own false .str x6)])
theorem s0 (n0:Nat):V0 k a0 (n0+1)=b0 k (V0 k a0 n0):=by kernel_rfl
theorem e0:V0 k a0=l0 k:=aT rfl (s0 k a0) fun _=>rfl
end
theorem eq (k:Nat) (a0:Ty.d ag):rn (E k) Tryz.f51 (C k) (a0,())=f k a0:=(show _=t k (V0 k a0 k) a0 by kernel_rfl).trans (by rw [e0];rfl)
theorem ctr (k:Nat):Cp 51 (C k):=rc rfl (D k) (by kernel_rfl) Tryz.func51 (by kernel_rfl) rfl fun ⟨a0,_⟩ r h=>(eq k a0).trans h
end dt
namespace da
def C (k:Nat):Cn:=⟨[.val (.int .i64)],[.str],true,false,fun x=>f k x.1⟩
def E (k:Nat):cD:=en [] [(5,[0,3,4])] 0 [] k
section
variable (k:Nat) (a0:Int)
def K0:Ex→St→Rs:=c_ (E k) (eK (E k) Tryz.f87 (C k) (a0,())) [.blk 0,.code (at_ (bt 5 31) (body Tryz.f87))]
def V0 (n0:Nat):T0:=fun x0 x1 x2=>ao (bT (E k) (at_ (bt 7 15) (body Tryz.f87))) (ak 0 [0,3,4]) (K0 k a0) n0 (mk 31 0 [(0,.int .i64 x0),(3,.str x1),(4,.bool x2)] [])
theorem s0 (n0:Nat):V0 k a0 (n0+1)=b0 k (V0 k a0 n0):=by kernel_rfl
theorem e0:V0 k a0=l0 k:=aT rfl (s0 k a0) fun _=>rfl
end
theorem eq (k:Nat) (a0:Int):rn (E k) Tryz.f87 (C k) (a0,())=f k a0:=(show _=t k (V0 k a0 k) a0 by kernel_rfl).trans (by rw [e0];rfl)
theorem ctr (k:Nat):Cp 87 (C k):=rc rfl [] (by kernel_rfl) Tryz.func87 (by kernel_rfl) rfl fun ⟨a0,_⟩ r h=>(eq k a0).trans h
end da
namespace aV
def C (k:Nat):Cn:=⟨[.val (.int .i64)],[.str],true,false,fun x=>f k x.1⟩
def D (k:Nat):List Ce:=[q (aZ.ctr k),q (da.ctr k)]
def E (k:Nat):cD:=en (D k) [] 0 [] k
theorem eq (k:Nat) (a0:Int):rn (E k) Tryz.f33 (C k) (a0,())=f k a0:=by kernel_rfl
theorem ctr (k:Nat):Cp 33 (C k):=rc rfl (D k) (by kernel_rfl) Tryz.func33 (by kernel_rfl) rfl fun ⟨a0,_⟩ r h=>(eq k a0).trans h
end aV
namespace b_
def C (k:Nat):Cn:=⟨[.val (.slice aB),.val aB],[(.slice aB)],true,false,fun x=>f k x.1 x.2.1⟩
def E (k:Nat):cD:=en [] [(4,[0,3,5,6,7])] 0 [] k
section
variable (k:Nat) (a0:List (Ty.d aB)) (a1:Ty.d aB)
def K0:Ex→St→Rs:=c_ (E k) (eK (E k) Tryz.f55 (C k) (a0,a1,())) [.blk 0,.code (at_ (bt 4 15) (body Tryz.f55))]
def V0 (n0:Nat):T0:=fun x0 x1 x2 x3 x4 x5 x6=>ao (bT (E k) (at_ (bt 7 23) (body Tryz.f55))) (ak 0 [0,3,5,6,7]) (K0 k a0 a1) n0 (mk 45 2 [(0,.sl true aB x0),(3,.ptr 0 0 0),(5,.ref 1),(6,.bool x1),(7,.int .i64 x2)] [(0,.box [.str x3,.str x4,.int .i64 x5]),(1,.own false aB x6)])
theorem s0 (n0:Nat):V0 k a0 a1 (n0+1)=b0 k (V0 k a0 a1 n0):=by kernel_rfl
theorem e0:V0 k a0 a1=l0 k:=aT rfl (s0 k a0 a1) fun _=>rfl
end
theorem eq (k:Nat) (a0:List (Ty.d aB)) (a1:Ty.d aB):rn (E k) Tryz.f55 (C k) (a0,a1,())=f k a0 a1:=(show _=t k (V0 k a0 a1 k) a0 a1 by kernel_rfl).trans (by rw [e0];rfl)
theorem ctr (k:Nat):Cp 55 (C k):=rc rfl [] (by kernel_rfl) Tryz.func55 (by kernel_rfl) rfl fun ⟨a0,a1,_⟩ r h=>(eq k a0 a1).trans h
end b_
namespace am
def C (k:Nat):Cn:=⟨[.val .str],[(.int .i64),(.int .i64)],true,false,fun x=>f k x.1⟩
def D (k:Nat):List Ce:=[q (bn.ctr k)]
def E (k:Nat):cD:=en (D k) [(2,[0,4]),(6,[0,4,5,6])] 0 [] k
section
variable (k:Nat) (a0:ByteArray)
def K0:Ex→St→Rs:=c_ (E k) (eK (E k) Tryz.f86 (C k) (a0,())) [.blk 0,.code (at_ (bt 2 3) (body Tryz.f86))]
def B0 (n0:Nat):Ex→St→Rs:=Le (E k) (at_ (bt 5 5) (body Tryz.f86)) 0 [0,4] (K0 k a0) n0
def K1 (n0:Nat):Ex→St→Rs:=c_ (E k) (B0 k a0 n0) [.blk 2,.code (at_ (bt 10 805) (body Tryz.f86)),.blk 1,.code (at_ (bt 7 101) (body Tryz.f86))]
def V0 (n0:Nat):T0:=fun x0 x1=>ao (bT (E k) (at_ (bt 5 5) (body Tryz.f86))) (ak 0 [0,4]) (K0 k a0) n0 (mk 39 0 [(0,.str x0),(4,.int .i64 x1)] [])
def V1 (n0 n1:Nat):T1:=fun x0 x1 x2 x3=>ao (bT (E k) (at_ (bt 13 1317) (body Tryz.f86))) (ak 0 [0,4,5,6]) (K1 k a0 n0) n1 (mk 39 0 [(0,.str x0),(4,.int .i64 x1),(5,.int .i64 x2),(6,.int .i64 x3)] [])
theorem s0 (n0:Nat):V0 k a0 (n0+1)=b0 k (V1 k a0 n0 k) (V0 k a0 n0):=by kernel_rfl
theorem s1 (n0 n1:Nat):V1 k a0 n0 (n1+1)=b1 k (V0 k a0 n0) (V1 k a0 n0 n1):=by kernel_rfl
theorem e1 (n0:Nat):V1 k a0 n0=l1 k (V0 k a0 n0):=aT rfl (s1 k a0 n0) fun _=>rfl
theorem e0 (n0:Nat):V0 k a0 n0=l0 k n0:=by
 induction n0 with
 | zero=>rfl
 | succ n0 ih =>
  have h:V0 k a0 (n0+1)=b0 k (V1 k a0 n0 k) (V0 k a0 n0):=s0 k a0 n0
  rw [h,e1,ih]
  rfl
end
theorem eq (k:Nat) (a0:ByteArray):rn (E k) Tryz.f86 (C k) (a0,())=f k a0:=(show _=t k (V0 k a0 k) a0 by kernel_rfl).trans (by rw [e0];rfl)
theorem ctr (k:Nat):Cp 86 (C k):=rc rfl (D k) (by kernel_rfl) Tryz.func86 (by kernel_rfl) rfl fun ⟨a0,_⟩ r h=>(eq k a0).trans h
end am
namespace dm
def C (k:Nat):Cn:=⟨[.val .str],[.str,(.int .i64)],true,false,fun x=>f k x.1⟩
def D (k:Nat):List Ce:=[q (am.ctr k),q (d8.ctr k)]
def E (k:Nat):cD:=en (D k) [] 0 [] k
theorem eq (k:Nat) (a0:ByteArray):rn (E k) Tryz.f85 (C k) (a0,())=f k a0:=by kernel_rfl
theorem ctr (k:Nat):Cp 85 (C k):=rc rfl (D k) (by kernel_rfl) Tryz.func85 (by kernel_rfl) rfl fun ⟨a0,_⟩ r h=>(eq k a0).trans h
end dm
namespace cY
def C (k:Nat):Cn:=⟨[.val .str],[.str,.str,.bool],true,false,fun x=>f k x.1⟩
def D (k:Nat):List Ce:=[q (am.ctr k)]
def E (k:Nat):cD:=en (D k) [] 0 [] k
theorem eq (k:Nat) (a0:ByteArray):rn (E k) Tryz.f91 (C k) (a0,())=f k a0:=by kernel_rfl
theorem ctr (k:Nat):Cp 91 (C k):=rc rfl (D k) (by kernel_rfl) Tryz.func91 (by kernel_rfl) rfl fun ⟨a0,_⟩ r h=>(eq k a0).trans h
end cY
namespace bj
def C (k:Nat):Cn:=⟨[.val .str,.val (.int .i64)],[(.int .i64),.bool],true,false,fun x=>f k x.1 x.2.1⟩
def D (k:Nat):List Ce:=[q (aZ.ctr k)]
def E (k:Nat):cD:=en (D k) [(5,[0,1,6,7])] 0 [] k
section
variable (k:Nat) (a0:ByteArray) (a1:Int)
def K0:Ex→St→Rs:=c_ (E k) (eK (E k) Tryz.f143 (C k) (a0,a1,())) [.blk 0,.code (at_ (bt 4 15) (body Tryz.f143))]
def V0 (n0:Nat):T0:=fun x0 x1 x2 x3=>ao (bT (E k) (at_ (bt 7 23) (body Tryz.f143))) (ak 0 [0,1,6,7]) (K0 k a0 a1) n0 (mk 30 0 [(0,.str x0),(1,.int .i64 x1),(6,.int .i64 x2),(7,.int .i64 x3)] [])
theorem s0 (n0:Nat):V0 k a0 a1 (n0+1)=b0 k (V0 k a0 a1 n0):=by kernel_rfl
theorem e0:V0 k a0 a1=l0 k:=aT rfl (s0 k a0 a1) fun _=>rfl
end
theorem eq (k:Nat) (a0:ByteArray) (a1:Int):rn (E k) Tryz.f143 (C k) (a0,a1,())=f k a0 a1:=(show _=t k (V0 k a0 a1 k) a0 a1 by kernel_rfl).trans (by rw [e0];rfl)
theorem ctr (k:Nat):Cp 143 (C k):=rc rfl (D k) (by kernel_rfl) Tryz.func143 (by kernel_rfl) rfl fun ⟨a0,a1,_⟩ r h=>(eq k a0 a1).trans h
end bj
namespace eS
def C (k:Nat):Cn:=⟨[.val .str],[bP,.bool],true,false,fun x=>f k x.1⟩
def D (k:Nat):List Ce:=[q (am.ctr k),q (cY.ctr k),q (bL.ctr k),q (bj.ctr k)]
def E (k:Nat):cD:=en (D k) [] 0 [] k
theorem eq (k:Nat) (a0:ByteArray):rn (E k) Tryz.f88 (C k) (a0,())=f k a0:=by kernel_rfl
theorem ctr (k:Nat):Cp 88 (C k):=rc rfl (D k) (by kernel_rfl) Tryz.func88 (by kernel_rfl) rfl fun ⟨a0,_⟩ r h=>(eq k a0).trans h
end eS
namespace bg
def C (k:Nat):Cn:=⟨[.val .str],[(.slice bM),(.int .i64)],true,false,fun x=>f k x.1⟩
def D (k:Nat):List Ce:=[q (dm.ctr k),q (eS.ctr k)]
def E (k:Nat):cD:=en (D k) [(3,[0,4,5])] 0 [] k
section
variable (k:Nat) (a0:ByteArray)
def K0:Ex→St→Rs:=c_ (E k) (eK (E k) Tryz.f34 (C k) (a0,())) [.blk 0,.code (at_ (bt 4 15) (body Tryz.f34))]
def V0 (n0:Nat):T0:=fun x0 x1 x2=>ao (bT (E k) (at_ (bt 6 7) (body Tryz.f34))) (ak 0 [0,4,5]) (K0 k a0) n0 (mk 47 1 [(0,.str x0),(4,.ref 0),(5,.int .i64 x1)] [(0,.own false bM x2)])
theorem s0 (n0:Nat):V0 k a0 (n0+1)=b0 k (V0 k a0 n0):=by kernel_rfl
theorem e0:V0 k a0=l0 k:=aT rfl (s0 k a0) fun _=>rfl
end
theorem eq (k:Nat) (a0:ByteArray):rn (E k) Tryz.f34 (C k) (a0,())=f k a0:=(show _=t k (V0 k a0 k) a0 by kernel_rfl).trans (by rw [e0];rfl)
theorem ctr (k:Nat):Cp 34 (C k):=rc rfl (D k) (by kernel_rfl) Tryz.func34 (by kernel_rfl) rfl fun ⟨a0,_⟩ r h=>(eq k a0).trans h
end bg
namespace d5
def C (k:Nat):Cn:=⟨[.val (.int .i64),.val .str],[di,.bool],true,false,fun x=>f k x.1 x.2.1⟩
def D (k:Nat):List Ce:=[q (bg.ctr k),q (aV.ctr k),q (gG.ctr k)]
def E (k:Nat):cD:=en (D k) [(7,[0,4,6,8,9,10])] 0 [] k
section
variable (k:Nat) (a0:Int) (a1:ByteArray)
def K0:Ex→St→Rs:=c_ (E k) (eK (E k) Tryz.f56 (C k) (a0,a1,())) [.blk 0,.code (at_ (bt 6 63) (body Tryz.f56))]
def V0 (n0:Nat):T0:=fun x0 x1 x2 x3 x4 x5 x6 x7 x8 x9=>ao (bT (E k) (at_ (bt 9 95) (body Tryz.f56))) (ak 0 [0,4,6,8,9,10]) (K0 k a0 a1) n0 (mk 141 6 [(0,.int .i64 x0),(4,.ptr 0 0 0),(6,.ref 2),(8,.ptr 3 0 0),(9,.ref 5),(10,.int .i64 x1)] [(1,.own false aA x2),(0,.box [.int .i64 x3,.int .i64 x4,.ref 1]),(2,.own false bM x5),(4,.own false aA x6),(3,.box [.int .i64 x7,.int .i64 x8,.ref 4]),(5,.own false bP x9)])
theorem s0 (n0:Nat):V0 k a0 a1 (n0+1)=b0 k (V0 k a0 a1 n0):=by kernel_rfl
theorem e0:V0 k a0 a1=l0 k:=aT rfl (s0 k a0 a1) fun _=>rfl
end
theorem eq (k:Nat) (a0:Int) (a1:ByteArray):rn (E k) Tryz.f56 (C k) (a0,a1,())=f k a0 a1:=(show _=t k (V0 k a0 a1 k) a0 a1 by kernel_rfl).trans (by rw [e0];rfl)
theorem ctr (k:Nat):Cp 56 (C k):=rc rfl (D k) (by kernel_rfl) Tryz.func56 (by kernel_rfl) rfl fun ⟨a0,a1,_⟩ r h=>(eq k a0 a1).trans h
end d5
namespace fK
def C (k:Nat):Cn:=⟨[.val (.slice aA)],[.bool],true,false,fun x=>f k x.1⟩
def D (k:Nat):List Ce:=[q (eO.ctr k),q (aZ.ctr k)]
def E (k:Nat):cD:=en (D k) [(4,[0,3])] 0 [] k
section
variable (k:Nat) (a0:List (Ty.d aA))
def K0:Ex→St→Rs:=c_ (E k) (eK (E k) Tryz.f150 (C k) (a0,())) [.blk 0,.code (at_ (bt 3 7) (body Tryz.f150))]
def V0 (n0:Nat):T0:=fun x0 x1=>ao (bT (E k) (at_ (bt 6 11) (body Tryz.f150))) (ak 0 [0,3]) (K0 k a0) n0 (mk 60 0 [(0,.sl true aA x0),(3,.int .i64 x1)] [])
theorem s0 (n0:Nat):V0 k a0 (n0+1)=b0 k (V0 k a0 n0):=by kernel_rfl
theorem e0:V0 k a0=l0 k:=aT rfl (s0 k a0) fun _=>rfl
end
theorem eq (k:Nat) (a0:List (Ty.d aA)):rn (E k) Tryz.f150 (C k) (a0,())=f k a0:=(show _=t k (V0 k a0 k) a0 by kernel_rfl).trans (by rw [e0];rfl)
theorem ctr (k:Nat):Cp 150 (C k):=rc rfl (D k) (by kernel_rfl) Tryz.func150 (by kernel_rfl) rfl fun ⟨a0,_⟩ r h=>(eq k a0).trans h
end fK
namespace gw
def C (k:Nat):Cn:=⟨[.val di],[.bool],true,false,fun x=>f k x.1⟩
def D (k:Nat):List Ce:=[q (aZ.ctr k),q (fK.ctr k)]
def E (k:Nat):cD:=en (D k) [(4,[1,3])] 0 [] k
section
variable (k:Nat) (a0:Ty.d di)
def K0:Ex→St→Rs:=c_ (E k) (eK (E k) Tryz.f108 (C k) (a0,())) [.blk 0,.code (at_ (bt 3 7) (body Tryz.f108))]
def V0 (n0:Nat):T0:=fun x0 x1 x2 x3=>ao (bT (E k) (at_ (bt 6 11) (body Tryz.f108))) (ak 0 [1,3]) (K0 k a0) n0 (mk 48 1 [(1,.ptr 0 0 0),(3,.int .i64 x0)] [(0,.box [.int .i64 x1,.int .i64 x2,.sl true aA x3])])
theorem s0 (n0:Nat):V0 k a0 (n0+1)=b0 k (V0 k a0 n0):=by kernel_rfl
theorem e0:V0 k a0=l0 k:=aT rfl (s0 k a0) fun _=>rfl
end
theorem eq (k:Nat) (a0:Ty.d di):rn (E k) Tryz.f108 (C k) (a0,())=f k a0:=(show _=t k (V0 k a0 k) a0 by kernel_rfl).trans (by rw [e0];rfl)
theorem ctr (k:Nat):Cp 108 (C k):=rc rfl (D k) (by kernel_rfl) Tryz.func108 (by kernel_rfl) rfl fun ⟨a0,_⟩ r h=>(eq k a0).trans h
end gw
namespace cN
def C (k:Nat):Cn:=⟨[.val di],[.str],true,false,fun x=>f k x.1⟩
def D (k:Nat):List Ce:=[q (gw.ctr k),q (bn.ctr k),q (gO.ctr k),q (dU.ctr k)]
def E (k:Nat):cD:=en (D k) [(5,[1,3,4])] 0 [] k
section
variable (k:Nat) (a0:Ty.d di)
def K0:Ex→St→Rs:=c_ (E k) (eK (E k) Tryz.f57 (C k) (a0,())) [.blk 0,.code (at_ (bt 4 15) (body Tryz.f57))]
def V0 (n0:Nat):T0:=fun x0 x1 x2 x3 x4=>ao (bT (E k) (at_ (bt 7 23) (body Tryz.f57))) (ak 0 [1,3,4]) (K0 k a0) n0 (mk 63 1 [(1,.ptr 0 0 0),(3,.str x0),(4,.int .i64 x1)] [(0,.box [.int .i64 x2,.int .i64 x3,.sl true aA x4])])
theorem s0 (n0:Nat):V0 k a0 (n0+1)=b0 k (V0 k a0 n0):=by kernel_rfl
theorem e0:V0 k a0=l0 k:=aT rfl (s0 k a0) fun _=>rfl
end
theorem eq (k:Nat) (a0:Ty.d di):rn (E k) Tryz.f57 (C k) (a0,())=f k a0:=(show _=t k (V0 k a0 k) a0 by kernel_rfl).trans (by rw [e0];rfl)
theorem ctr (k:Nat):Cp 57 (C k):=rc rfl (D k) (by kernel_rfl) Tryz.func57 (by kernel_rfl) rfl fun ⟨a0,_⟩ r h=>(eq k a0).trans h
end cN
namespace bv
def C (k:Nat):Cn:=⟨[.val (.int .i64)],[.str],true,false,fun x=>f k x.1⟩
def D (k:Nat):List Ce:=[q (aZ.ctr k),q (da.ctr k)]
def E (k:Nat):cD:=en (D k) [] 0 [] k
theorem eq (k:Nat) (a0:Int):rn (E k) Tryz.f38 (C k) (a0,())=f k a0:=by kernel_rfl
theorem ctr (k:Nat):Cp 38 (C k):=rc rfl (D k) (by kernel_rfl) Tryz.func38 (by kernel_rfl) rfl fun ⟨a0,_⟩ r h=>(eq k a0).trans h
end bv
namespace dR
def C (k:Nat):Cn:=⟨[.val ay],[.bool],true,false,fun x=>f k x.1⟩
def D (k:Nat):List Ce:=[q (aZ.ctr k)]
def E (k:Nat):cD:=en (D k) [(4,[1,3])] 0 [] k
section
variable (k:Nat) (a0:Ty.d ay)
def K0:Ex→St→Rs:=c_ (E k) (eK (E k) Tryz.f109 (C k) (a0,())) [.blk 0,.code (at_ (bt 3 7) (body Tryz.f109))]
def V0 (n0:Nat):T0:=fun x0 x1 x2=>ao (bT (E k) (at_ (bt 6 11) (body Tryz.f109))) (ak 0 [1,3]) (K0 k a0) n0 (mk 50 1 [(1,.ptr 0 0 0),(3,.int .i64 x0)] [(0,.box [.int .i64 x1,.sl true (.int .i64) x2])])
theorem s0 (n0:Nat):V0 k a0 (n0+1)=b0 k (V0 k a0 n0):=by kernel_rfl
theorem e0:V0 k a0=l0 k:=aT rfl (s0 k a0) fun _=>rfl
end
theorem eq (k:Nat) (a0:Ty.d ay):rn (E k) Tryz.f109 (C k) (a0,())=f k a0:=(show _=t k (V0 k a0 k) a0 by kernel_rfl).trans (by rw [e0];rfl)
theorem ctr (k:Nat):Cp 109 (C k):=rc rfl (D k) (by kernel_rfl) Tryz.func109 (by kernel_rfl) rfl fun ⟨a0,_⟩ r h=>(eq k a0).trans h
end dR
namespace cV
def C (k:Nat):Cn:=⟨[.val ay],[.str],true,false,fun x=>f k x.1⟩
def D (k:Nat):List Ce:=[q (dR.ctr k),q (bn.ctr k),q (d8.ctr k)]
def E (k:Nat):cD:=en (D k) [(5,[1,3,4])] 0 [] k
section
variable (k:Nat) (a0:Ty.d ay)
def K0:Ex→St→Rs:=c_ (E k) (eK (E k) Tryz.f58 (C k) (a0,())) [.blk 0,.code (at_ (bt 4 15) (body Tryz.f58))]
def V0 (n0:Nat):T0:=fun x0 x1 x2 x3=>ao (bT (E k) (at_ (bt 7 23) (body Tryz.f58))) (ak 0 [1,3,4]) (K0 k a0) n0 (mk 33 1 [(1,.ptr 0 0 0),(3,.str x0),(4,.int .i64 x1)] [(0,.box [.int .i64 x2,.sl true (.int .i64) x3])])
theorem s0 (n0:Nat):V0 k a0 (n0+1)=b0 k (V0 k a0 n0):=by kernel_rfl
theorem e0:V0 k a0=l0 k:=aT rfl (s0 k a0) fun _=>rfl
end
theorem eq (k:Nat) (a0:Ty.d ay):rn (E k) Tryz.f58 (C k) (a0,())=f k a0:=(show _=t k (V0 k a0 k) a0 by kernel_rfl).trans (by rw [e0];rfl)
theorem ctr (k:Nat):Cp 58 (C k):=rc rfl (D k) (by kernel_rfl) Tryz.func58 (by kernel_rfl) rfl fun ⟨a0,_⟩ r h=>(eq k a0).trans h
end cV
namespace du
def C (k:Nat):Cn:=⟨[.val (.slice aB),.val (.int .i64)],[(.slice aB)],true,false,fun x=>f k x.1 x.2.1⟩
def E (k:Nat):cD:=en [] [] 0 [] k
theorem eq (k:Nat) (a0:List (Ty.d aB)) (a1:Int):rn (E k) Tryz.f60 (C k) (a0,a1,())=f k a0 a1:=by kernel_rfl
theorem ctr (k:Nat):Cp 60 (C k):=rc rfl [] (by kernel_rfl) Tryz.func60 (by kernel_rfl) rfl fun ⟨a0,a1,_⟩ r h=>(eq k a0 a1).trans h
end du
namespace cI
def C (k:Nat):Cn:=⟨[.val a_],[a_],true,false,fun x=>f k x.1⟩
def E (k:Nat):cD:=en [] [] 0 [] k
theorem eq (k:Nat) (a0:Ty.d a_):rn (E k) Tryz.f23 (C k) (a0,())=f k a0:=by kernel_rfl
theorem ctr (k:Nat):Cp 23 (C k):=rc rfl [] (by kernel_rfl) Tryz.func23 (by kernel_rfl) rfl fun ⟨a0,_⟩ r h=>(eq k a0).trans h
end cI
namespace dl
def C (k:Nat):Cn:=⟨[.val a_],[(.int .i64)],true,false,fun x=>f k x.1⟩
def E (k:Nat):cD:=en [] [(3,[1,3,4])] 0 [] k
section
variable (k:Nat) (a0:Ty.d a_)
def K0:Ex→St→Rs:=c_ (E k) (eK (E k) Tryz.f68 (C k) (a0,())) [.blk 0,.code (at_ (bt 3 7) (body Tryz.f68))]
def V0 (n0:Nat):T0:=fun x0 x1 x2 x3 x4 x5=>ao (bT (E k) (at_ (bt 6 11) (body Tryz.f68))) (ak 0 [1,3,4]) (K0 k a0) n0 (mk 22 1 [(1,.ptr 0 0 0),(3,.int .i64 x0),(4,.int .i64 x1)] [(0,.box [.sl true aB x2,.int .i64 x3,.int .i64 x4,.bool x5])])
theorem s0 (n0:Nat):V0 k a0 (n0+1)=b0 k (V0 k a0 n0):=by kernel_rfl
theorem e0:V0 k a0=l0 k:=aT rfl (s0 k a0) fun _=>rfl
end
theorem eq (k:Nat) (a0:Ty.d a_):rn (E k) Tryz.f68 (C k) (a0,())=f k a0:=(show _=t k (V0 k a0 k) a0 by kernel_rfl).trans (by rw [e0];rfl)
theorem ctr (k:Nat):Cp 68 (C k):=rc rfl [] (by kernel_rfl) Tryz.func68 (by kernel_rfl) rfl fun ⟨a0,_⟩ r h=>(eq k a0).trans h
end dl
namespace eE
def C (k:Nat):Cn:=⟨[.val .str],[.bool],true,false,fun x=>f k x.1⟩
def D (k:Nat):List Ce:=[q (aZ.ctr k)]
def E (k:Nat):cD:=en (D k) [(2,[0,3])] 0 [] k
section
variable (k:Nat) (a0:ByteArray)
def K0:Ex→St→Rs:=c_ (E k) (eK (E k) Tryz.f69 (C k) (a0,())) [.blk 0,.code (at_ (bt 2 3) (body Tryz.f69))]
def V0 (n0:Nat):T0:=fun x0 x1=>ao (bT (E k) (at_ (bt 5 5) (body Tryz.f69))) (ak 0 [0,3]) (K0 k a0) n0 (mk 36 0 [(0,.str x0),(3,.int .i64 x1)] [])
theorem s0 (n0:Nat):V0 k a0 (n0+1)=b0 k (V0 k a0 n0):=by kernel_rfl
theorem e0:V0 k a0=l0 k:=aT rfl (s0 k a0) fun _=>rfl
end
theorem eq (k:Nat) (a0:ByteArray):rn (E k) Tryz.f69 (C k) (a0,())=f k a0:=(show _=t k (V0 k a0 k) a0 by kernel_rfl).trans (by rw [e0];rfl)
theorem ctr (k:Nat):Cp 69 (C k):=rc rfl (D k) (by kernel_rfl) Tryz.func69 (by kernel_rfl) rfl fun ⟨a0,_⟩ r h=>(eq k a0).trans h
end eE
namespace bh
def C (k:Nat):Cn:=⟨[.val a_],[.bool],true,false,fun x=>f k x.1⟩
def D (k:Nat):List Ce:=[q (aZ.ctr k),q (dl.ctr k),q (eE.ctr k)]
def E (k:Nat):cD:=en (D k) [(4,[1,3])] 0 [] k
section
variable (k:Nat) (a0:Ty.d a_)
def K0:Ex→St→Rs:=c_ (E k) (eK (E k) Tryz.f24 (C k) (a0,())) [.blk 0,.code (at_ (bt 3 7) (body Tryz.f24))]
def V0 (n0:Nat):T0:=fun x0 x1 x2 x3 x4=>ao (bT (E k) (at_ (bt 6 11) (body Tryz.f24))) (ak 0 [1,3]) (K0 k a0) n0 (mk 79 1 [(1,.ptr 0 0 0),(3,.int .i64 x0)] [(0,.box [.sl true aB x1,.int .i64 x2,.int .i64 x3,.bool x4])])
theorem s0 (n0:Nat):V0 k a0 (n0+1)=b0 k (V0 k a0 n0):=by kernel_rfl
theorem e0:V0 k a0=l0 k:=aT rfl (s0 k a0) fun _=>rfl
end
theorem eq (k:Nat) (a0:Ty.d a_):rn (E k) Tryz.f24 (C k) (a0,())=f k a0:=(show _=t k (V0 k a0 k) a0 by kernel_rfl).trans (by rw [e0];rfl)
theorem ctr (k:Nat):Cp 24 (C k):=rc rfl (D k) (by kernel_rfl) Tryz.func24 (by kernel_rfl) rfl fun ⟨a0,_⟩ r h=>(eq k a0).trans h
end bh
namespace dE
def C (k:Nat):Cn:=⟨[.val a_],[a_,(.int .i64)],true,false,fun x=>f k x.1⟩
def D (k:Nat):List Ce:=[q (cI.ctr k),q (bh.ctr k)]
def E (k:Nat):cD:=en (D k) [] 0 [] k
theorem eq (k:Nat) (a0:Ty.d a_):rn (E k) Tryz.f89 (C k) (a0,())=f k a0:=by kernel_rfl
theorem ctr (k:Nat):Cp 89 (C k):=rc rfl (D k) (by kernel_rfl) Tryz.func89 (by kernel_rfl) rfl fun ⟨a0,_⟩ r h=>(eq k a0).trans h
end dE
namespace bS
def C (k:Nat):Cn:=⟨[.val a_,.val .str],[(.int .i64)],true,false,fun x=>f k x.1 x.2.1⟩
def E (k:Nat):cD:=en [] [(2,[1,2,5])] 0 [] k
section
variable (k:Nat) (a0:Ty.d a_) (a1:ByteArray)
def K0:Ex→St→Rs:=c_ (E k) (eK (E k) Tryz.f83 (C k) (a0,a1,())) [.blk 0,.code (at_ (bt 2 3) (body Tryz.f83))]
def V0 (n0:Nat):T0:=fun x0 x1 x2 x3 x4 x5=>ao (bT (E k) (at_ (bt 5 5) (body Tryz.f83))) (ak 0 [1,2,5]) (K0 k a0 a1) n0 (mk 22 1 [(1,.str x0),(2,.ptr 0 0 0),(5,.int .i64 x1)] [(0,.box [.sl true aB x2,.int .i64 x3,.int .i64 x4,.bool x5])])
theorem s0 (n0:Nat):V0 k a0 a1 (n0+1)=b0 k (V0 k a0 a1 n0):=by kernel_rfl
theorem e0:V0 k a0 a1=l0 k:=aT rfl (s0 k a0 a1) fun _=>rfl
end
theorem eq (k:Nat) (a0:Ty.d a_) (a1:ByteArray):rn (E k) Tryz.f83 (C k) (a0,a1,())=f k a0 a1:=(show _=t k (V0 k a0 a1 k) a0 a1 by kernel_rfl).trans (by rw [e0];rfl)
theorem ctr (k:Nat):Cp 83 (C k):=rc rfl [] (by kernel_rfl) Tryz.func83 (by kernel_rfl) rfl fun ⟨a0,a1,_⟩ r h=>(eq k a0 a1).trans h
end bS
namespace eG
def C (k:Nat):Cn:=⟨[.val a_,.val .str],[a_,(.int .i64)],true,false,fun x=>f k x.1 x.2.1⟩
def D (k:Nat):List Ce:=[q (dE.ctr k),q (eE.ctr k),q (bS.ctr k),q (b_.ctr k)]
def E (k:Nat):cD:=en (D k) [] 0 [] k
theorem eq (k:Nat) (a0:Ty.d a_) (a1:ByteArray):rn (E k) Tryz.f61 (C k) (a0,a1,())=f k a0 a1:=by kernel_rfl
theorem ctr (k:Nat):Cp 61 (C k):=rc rfl (D k) (by kernel_rfl) Tryz.func61 (by kernel_rfl) rfl fun ⟨a0,a1,_⟩ r h=>(eq k a0 a1).trans h
end eG
namespace bx
def C (k:Nat):Cn:=⟨[.io false ag],[a_],true,true,fun x=>f k x.1⟩
def D (k:Nat):List Ce:=[q (eR.ctr k),q (gN.ctr k),q (ac.ctr k),q (bD.ctr k),q (dt.ctr k),q (bL.ctr k),q (d8.ctr k),q (fY.ctr k),q (aV.ctr k),q (b_.ctr k),q (d5.ctr k),q (cN.ctr k),q (bv.ctr k),q (cV.ctr k),q (aI.ctr k),q (du.ctr k),q (eG.ctr k)]
def E (k:Nat):cD:=en (D k) [(4,[0,2,3,4,5]),(12,[0,2,3,4,5,6,7,8])] 1 [] k
section
variable (k:Nat) (a0:Ty.d ag)
def K0:Ex→St→Rs:=c_ (E k) (eK (E k) Tryz.f17 (C k) (a0,())) [.blk 0,.code (at_ (bt 4 15) (body Tryz.f17))]
def B0 (n0:Nat):Ex→St→Rs:=Le (E k) (at_ (bt 7 23) (body Tryz.f17)) 1 [0,2,3,4,5] (K0 k a0) n0
def K1 (n0:Nat):Ex→St→Rs:=c_ (E k) (B0 k a0 n0) [.blk 2,.code (at_ (bt 14 15511) (body Tryz.f17)),.blk 1,.code (at_ (bt 9 407) (body Tryz.f17))]
def V0 (n0:Nat):T0:=fun x0 x1 x2 x3 x4 x5 x6 x7 x8 x9 x10 x11 x12 x13=>ao (bT (E k) (at_ (bt 7 23) (body Tryz.f17))) (ak 1 [0,2,3,4,5]) (K0 k a0) n0 (mk 146 7 [(0,.ptr 0 0 0),(2,.ptr 1 0 0),(3,.ptr 3 0 0),(4,.ptr 5 0 0),(5,.int .i64 x0)] [(0,.box [.sl true (.int .u8) x1,.int .i64 x2,.int .i64 x3]),(2,.own false aB x4),(1,.box [.ref 2,.int .i64 x5,.int .i64 x6,.bool x7]),(4,.own false aB x8),(3,.box [.ref 4,.int .i64 x9,.int .i64 x10,.bool x11]),(6,.own false (.int .i64) x12),(5,.box [.int .i64 x13,.ref 6])])
def V1 (n0 n1:Nat):T1:=fun x0 x1 x2 x3 x4 x5 x6 x7 x8 x9 x10 x11 x12 x13 x14 x15 x16=>ao (bT (E k) (at_ (bt 17 23703) (body Tryz.f17))) (ak 1 [0,2,3,4,5,6,7,8]) (K1 k a0 n0) n1 (mk 146 8 [(0,.ptr 0 0 0),(2,.ptr 1 0 0),(3,.ptr 3 0 0),(4,.ptr 5 0 0),(5,.int .i64 x0),(6,.str x1),(7,.ref 7),(8,.int .i64 x2)] [(0,.box [.sl true (.int .u8) x3,.int .i64 x4,.int .i64 x5]),(2,.own false aB x6),(1,.box [.ref 2,.int .i64 x7,.int .i64 x8,.bool x9]),(4,.own false aB x10),(3,.box [.ref 4,.int .i64 x11,.int .i64 x12,.bool x13]),(6,.own false (.int .i64) x14),(5,.box [.int .i64 x15,.ref 6]),(7,.own false aD x16)])
theorem s0 (n0:Nat):V0 k a0 (n0+1)=b0 k (V1 k a0 n0 k) (V0 k a0 n0):=by kernel_rfl
theorem s1 (n0 n1:Nat):V1 k a0 n0 (n1+1)=b1 k (V0 k a0 n0) (V1 k a0 n0 n1):=by kernel_rfl
theorem e1 (n0:Nat):V1 k a0 n0=l1 k (V0 k a0 n0):=aT rfl (s1 k a0 n0) fun _=>rfl
theorem e0 (n0:Nat):V0 k a0 n0=l0 k n0:=by
 induction n0 with
 | zero=>rfl
 | succ n0 ih =>
  have h:V0 k a0 (n0+1)=b0 k (V1 k a0 n0 k) (V0 k a0 n0):=s0 k a0 n0
  rw [h,e1,ih]
  rfl
end
theorem eq (k:Nat) (a0:Ty.d ag):rn (E k) Tryz.f17 (C k) (a0,())=f k a0:=(show _=t k (V0 k a0 k) a0 by kernel_rfl).trans (by rw [e0];rfl)
theorem ctr (k:Nat):Cp 17 (C k):=rc rfl (D k) (by kernel_rfl) Tryz.func17 (by kernel_rfl) rfl fun ⟨a0,_⟩ r h=>(eq k a0).trans h
end bx
namespace cG
def C (k:Nat):Cn:=⟨[.io false ag,.val (.slice (.int .i64))],[(.int .i64)],true,true,fun x=>f k x.1 x.2.1⟩
def D (k:Nat):List Ce:=[q (aI.ctr k)]
def E (k:Nat):cD:=en (D k) [] 1 [] k
theorem eq (k:Nat) (a0:Ty.d ag) (a1:List Int):rn (E k) Tryz.f64 (C k) (a0,a1,())=f k a0 a1:=by kernel_rfl
theorem ctr (k:Nat):Cp 64 (C k):=rc rfl (D k) (by kernel_rfl) Tryz.func64 (by kernel_rfl) rfl fun ⟨a0,a1,_⟩ r h=>(eq k a0 a1).trans h
end cG
namespace bu
def C (k:Nat):Cn:=⟨[.val a_,.val .str],[.str,.bool],true,false,fun x=>f k x.1 x.2.1⟩
def D (k:Nat):List Ce:=[q (bh.ctr k),q (bS.ctr k)]
def E (k:Nat):cD:=en (D k) [] 0 [] k
theorem eq (k:Nat) (a0:Ty.d a_) (a1:ByteArray):rn (E k) Tryz.f30 (C k) (a0,a1,())=f k a0 a1:=by kernel_rfl
theorem ctr (k:Nat):Cp 30 (C k):=rc rfl (D k) (by kernel_rfl) Tryz.func30 (by kernel_rfl) rfl fun ⟨a0,a1,_⟩ r h=>(eq k a0 a1).trans h
end bu
namespace fG
def C (k:Nat):Cn:=⟨[.val .str],[(.int .i64),.bool],true,false,fun x=>f k x.1⟩
def D (k:Nat):List Ce:=[q (da.ctr k)]
def E (k:Nat):cD:=en (D k) [(4,[0,4,5,6])] 0 [] k
section
variable (k:Nat) (a0:ByteArray)
def K0:Ex→St→Rs:=c_ (E k) (eK (E k) Tryz.f185 (C k) (a0,())) [.blk 0,.code (at_ (bt 4 15) (body Tryz.f185))]
def V0 (n0:Nat):T0:=fun x0 x1 x2 x3=>ao (bT (E k) (at_ (bt 7 23) (body Tryz.f185))) (ak 0 [0,4,5,6]) (K0 k a0) n0 (mk 61 0 [(0,.str x0),(4,.int .i64 x1),(5,.int .i64 x2),(6,.int .i64 x3)] [])
theorem s0 (n0:Nat):V0 k a0 (n0+1)=b0 k (V0 k a0 n0):=by kernel_rfl
theorem e0:V0 k a0=l0 k:=aT rfl (s0 k a0) fun _=>rfl
end
theorem eq (k:Nat) (a0:ByteArray):rn (E k) Tryz.f185 (C k) (a0,())=f k a0:=(show _=t k (V0 k a0 k) a0 by kernel_rfl).trans (by rw [e0];rfl)
theorem ctr (k:Nat):Cp 185 (C k):=rc rfl (D k) (by kernel_rfl) Tryz.func185 (by kernel_rfl) rfl fun ⟨a0,_⟩ r h=>(eq k a0).trans h
end fG
namespace iM
def C (k:Nat):Cn:=⟨[.val .str],[(.int .i64),.bool],true,false,fun x=>f k x.1⟩
def D (k:Nat):List Ce:=[q (fG.ctr k),q (aV.ctr k),q (bv.ctr k)]
def E (k:Nat):cD:=en (D k) [(2,[0,4])] 0 [] k
section
variable (k:Nat) (a0:ByteArray)
def K0:Ex→St→Rs:=c_ (E k) (eK (E k) Tryz.f146 (C k) (a0,())) [.blk 0,.code (at_ (bt 2 3) (body Tryz.f146))]
def V0 (n0:Nat):T0:=fun x0 x1=>ao (bT (E k) (at_ (bt 5 5) (body Tryz.f146))) (ak 0 [0,4]) (K0 k a0) n0 (mk 40 0 [(0,.str x0),(4,.int .i64 x1)] [])
theorem s0 (n0:Nat):V0 k a0 (n0+1)=b0 k (V0 k a0 n0):=by kernel_rfl
theorem e0:V0 k a0=l0 k:=aT rfl (s0 k a0) fun _=>rfl
end
theorem eq (k:Nat) (a0:ByteArray):rn (E k) Tryz.f146 (C k) (a0,())=f k a0:=(show _=t k (V0 k a0 k) a0 by kernel_rfl).trans (by rw [e0];rfl)
theorem ctr (k:Nat):Cp 146 (C k):=rc rfl (D k) (by kernel_rfl) Tryz.func146 (by kernel_rfl) rfl fun ⟨a0,_⟩ r h=>(eq k a0).trans h
end iM
namespace bQ
def C (k:Nat):Cn:=⟨[.val a_,.val ay],[(.slice .str)],true,false,fun x=>f k x.1 x.2.1⟩
def D (k:Nat):List Ce:=[q (bh.ctr k),q (iM.ctr k)]
def E (k:Nat):cD:=en (D k) [(5,[2,3,5,6]),(10,[2,3,5,6,7,8,9,10])] 0 [] k
section
variable (k:Nat) (a0:Ty.d a_) (a1:Ty.d ay)
def K0:Ex→St→Rs:=c_ (E k) (eK (E k) Tryz.f96 (C k) (a0,a1,())) [.blk 0,.code (at_ (bt 4 15) (body Tryz.f96))]
def B0 (n0:Nat):Ex→St→Rs:=Le (E k) (at_ (bt 7 23) (body Tryz.f96)) 0 [2,3,5,6] (K0 k a0 a1) n0
def K1 (n0:Nat):Ex→St→Rs:=c_ (E k) (B0 k a0 a1 n0) [.blk 2,.code (at_ (bt 13 7319) (body Tryz.f96)),.blk 1,.code (at_ (bt 9 407) (body Tryz.f96))]
def V0 (n0:Nat):T0:=fun x0 x1 x2 x3 x4 x5 x6 x7=>ao (bT (E k) (at_ (bt 7 23) (body Tryz.f96))) (ak 0 [2,3,5,6]) (K0 k a0 a1) n0 (mk 74 3 [(2,.ptr 0 0 0),(3,.ptr 1 0 0),(5,.ref 2),(6,.int .i64 x0)] [(0,.box [.sl true aB x1,.int .i64 x2,.int .i64 x3,.bool x4]),(1,.box [.int .i64 x5,.sl true (.int .i64) x6]),(2,.own false .str x7)])
def V1 (n0 n1:Nat):T1:=fun x0 x1 x2 x3 x4 x5 x6 x7 x8 x9 x10 x11=>ao (bT (E k) (at_ (bt 16 11415) (body Tryz.f96))) (ak 0 [2,3,5,6,7,8,9,10]) (K1 k a0 a1 n0) n1 (mk 74 3 [(2,.ptr 0 0 0),(3,.ptr 1 0 0),(5,.ref 2),(6,.int .i64 x0),(7,.int .i64 x1),(8,.bool x2),(9,.bool x3),(10,.int .i64 x4)] [(0,.box [.sl true aB x5,.int .i64 x6,.int .i64 x7,.bool x8]),(1,.box [.int .i64 x9,.sl true (.int .i64) x10]),(2,.own false .str x11)])
theorem s0 (n0:Nat):V0 k a0 a1 (n0+1)=b0 k (V1 k a0 a1 n0 k) (V0 k a0 a1 n0):=by kernel_rfl
theorem s1 (n0 n1:Nat):V1 k a0 a1 n0 (n1+1)=b1 k (V0 k a0 a1 n0) (V1 k a0 a1 n0 n1):=by kernel_rfl
theorem e1 (n0:Nat):V1 k a0 a1 n0=l1 k (V0 k a0 a1 n0):=aT rfl (s1 k a0 a1 n0) fun _=>rfl
theorem e0 (n0:Nat):V0 k a0 a1 n0=l0 k n0:=by
 induction n0 with
 | zero=>rfl
 | succ n0 ih =>
  have h:V0 k a0 a1 (n0+1)=b0 k (V1 k a0 a1 n0 k) (V0 k a0 a1 n0):=s0 k a0 a1 n0
  rw [h,e1,ih]
  rfl
end
theorem eq (k:Nat) (a0:Ty.d a_) (a1:Ty.d ay):rn (E k) Tryz.f96 (C k) (a0,a1,())=f k a0 a1:=(show _=t k (V0 k a0 a1 k) a0 a1 by kernel_rfl).trans (by rw [e0];rfl)
theorem ctr (k:Nat):Cp 96 (C k):=rc rfl (D k) (by kernel_rfl) Tryz.func96 (by kernel_rfl) rfl fun ⟨a0,a1,_⟩ r h=>(eq k a0 a1).trans h
end bQ
namespace fL
def C (k:Nat):Cn:=⟨[.val a_,.val .str],[a_,(.int .i64)],true,false,fun x=>f k x.1 x.2.1⟩
def D (k:Nat):List Ce:=[q (dE.ctr k),q (bS.ctr k),q (du.ctr k)]
def E (k:Nat):cD:=en (D k) [] 0 [] k
theorem eq (k:Nat) (a0:Ty.d a_) (a1:ByteArray):rn (E k) Tryz.f97 (C k) (a0,a1,())=f k a0 a1:=by kernel_rfl
theorem ctr (k:Nat):Cp 97 (C k):=rc rfl (D k) (by kernel_rfl) Tryz.func97 (by kernel_rfl) rfl fun ⟨a0,a1,_⟩ r h=>(eq k a0 a1).trans h
end fL
namespace aX
def C (k:Nat):Cn:=⟨[.val (.int .i64)],[(.int .i64)],true,false,fun x=>f k x.1⟩
def E (k:Nat):cD:=en [] [] 0 [] k
theorem eq (k:Nat) (a0:Int):rn (E k) Tryz.f36 (C k) (a0,())=f k a0:=by kernel_rfl
theorem ctr (k:Nat):Cp 36 (C k):=rc rfl [] (by kernel_rfl) Tryz.func36 (by kernel_rfl) rfl fun ⟨a0,_⟩ r h=>(eq k a0).trans h
end aX
namespace ed
def C (k:Nat):Cn:=⟨[.val a_,.val ay],[a_,(.int .i64)],false,true,fun x=>f k x.1 x.2.1⟩
def D (k:Nat):List Ce:=[q (bQ.ctr k),q (fL.ctr k),q (aX.ctr k)]
def E (k:Nat):cD:=en (D k) [(3,[2,4,6,7])] 0 [] k
section
variable (k:Nat) (a0:Ty.d a_) (a1:Ty.d ay)
def K0:Ex→St→Rs:=c_ (E k) (eK (E k) Tryz.f43 (C k) (a0,a1,())) [.blk 0,.code (at_ (bt 3 7) (body Tryz.f43))]
def V0 (n0:Nat):T0:=fun x0 x1 x2 x3 x4 x5 x6 x7 x8 x9=>ao (bT (E k) (at_ (bt 6 11) (body Tryz.f43))) (ak 0 [2,4,6,7]) (K0 k a0 a1) n0 (mk 35 4 [(2,.ptr 0 0 0),(4,.ptr 1 0 0),(6,.ref 3),(7,.int .i64 x0)] [(0,.box [.sl true aB x1,.int .i64 x2,.int .i64 x3,.bool x4]),(2,.own false aB x5),(1,.box [.ref 2,.int .i64 x6,.int .i64 x7,.bool x8]),(3,.own false .str x9)])
def V1 (n0:Nat):T1:=fun x0 x1 x2 x3 x4 x5 x6 x7 x8 x9=>ao (bT (E k) (at_ (bt 6 11) (body Tryz.f43))) (ak 0 [2,4,6,7]) (K0 k a0 a1) n0 (mk 35 5 [(2,.ptr 0 0 0),(4,.ptr 2 0 0),(6,.ref 4),(7,.int .i64 x0)] [(1,.own false aB x1),(0,.box [.ref 1,.int .i64 x2,.int .i64 x3,.bool x4]),(3,.own false aB x5),(2,.box [.ref 3,.int .i64 x6,.int .i64 x7,.bool x8]),(4,.own false .str x9)])
theorem s0 (n0:Nat):V0 k a0 a1 (n0+1)=b0 k (V1 k a0 a1 n0):=by kernel_rfl
theorem s1 (n0:Nat):V1 k a0 a1 (n0+1)=b1 k (V1 k a0 a1 n0):=by kernel_rfl
theorem e1:V1 k a0 a1=l1 k:=aT rfl (s1 k a0 a1) fun _=>rfl
theorem e0 (n0:Nat):V0 k a0 a1 n0=l0 k n0:=by
 induction n0 with
 | zero=>rfl
 | succ n0 ih =>
  have h:V0 k a0 a1 (n0+1)=b0 k (V1 k a0 a1 n0):=s0 k a0 a1 n0
  rw [h,e1]
  rfl
end
theorem eq (k:Nat) (a0:Ty.d a_) (a1:Ty.d ay):rn (E k) Tryz.f43 (C k) (a0,a1,())=f k a0 a1:=(show _=t k (V0 k a0 a1 k) a0 a1 by kernel_rfl).trans (by rw [e0];rfl)
theorem ctr (k:Nat):Cp 43 (C k):=rc rfl (D k) (by kernel_rfl) Tryz.func43 (by kernel_rfl) rfl fun ⟨a0,a1,_⟩ r h=>(eq k a0 a1).trans h
end ed
namespace eC
def C (k:Nat):Cn:=⟨[.val a_,.val .str],[a_,(.int .i64)],true,false,fun x=>f k x.1 x.2.1⟩
def D (k:Nat):List Ce:=[q (bS.ctr k),q (fL.ctr k),q (eG.ctr k)]
def E (k:Nat):cD:=en (D k) [] 0 [] k
theorem eq (k:Nat) (a0:Ty.d a_) (a1:ByteArray):rn (E k) Tryz.f184 (C k) (a0,a1,())=f k a0 a1:=by kernel_rfl
theorem ctr (k:Nat):Cp 184 (C k):=rc rfl (D k) (by kernel_rfl) Tryz.func184 (by kernel_rfl) rfl fun ⟨a0,a1,_⟩ r h=>(eq k a0 a1).trans h
end eC
namespace cQ
def C (k:Nat):Cn:=⟨[.val a_,.val .str,.val .str],[a_,(.int .i64)],true,false,fun x=>f k x.1 x.2.1 x.2.2.1⟩
def D (k:Nat):List Ce:=[q (dE.ctr k),q (bS.ctr k),q (dl.ctr k)]
def E (k:Nat):cD:=en (D k) [] 0 [] k
theorem eq (k:Nat) (a0:Ty.d a_) (a1:ByteArray) (a2:ByteArray):rn (E k) Tryz.f158 (C k) (a0,a1,a2,())=f k a0 a1 a2:=by kernel_rfl
theorem ctr (k:Nat):Cp 158 (C k):=rc rfl (D k) (by kernel_rfl) Tryz.func158 (by kernel_rfl) rfl fun ⟨a0,a1,a2,_⟩ r h=>(eq k a0 a1 a2).trans h
end cQ
namespace d6
def C (k:Nat):Cn:=⟨[.val a_,.val .str],[a_,(.int .i64)],true,false,fun x=>f k x.1 x.2.1⟩
def D (k:Nat):List Ce:=[q (dE.ctr k),q (bS.ctr k)]
def E (k:Nat):cD:=en (D k) [] 0 [] k
theorem eq (k:Nat) (a0:Ty.d a_) (a1:ByteArray):rn (E k) Tryz.f37 (C k) (a0,a1,())=f k a0 a1:=by kernel_rfl
theorem ctr (k:Nat):Cp 37 (C k):=rc rfl (D k) (by kernel_rfl) Tryz.func37 (by kernel_rfl) rfl fun ⟨a0,a1,_⟩ r h=>(eq k a0 a1).trans h
end d6
namespace iD
def C (k:Nat):Cn:=⟨[.val a_,.val .str,.val .str],[a_,(.int .i64)],true,false,fun x=>f k x.1 x.2.1 x.2.2.1⟩
def D (k:Nat):List Ce:=[q (eC.ctr k),q (cQ.ctr k),q (d6.ctr k)]
def E (k:Nat):cD:=en (D k) [] 0 [] k
theorem eq (k:Nat) (a0:Ty.d a_) (a1:ByteArray) (a2:ByteArray):rn (E k) Tryz.f141 (C k) (a0,a1,a2,())=f k a0 a1 a2:=by kernel_rfl
theorem ctr (k:Nat):Cp 141 (C k):=rc rfl (D k) (by kernel_rfl) Tryz.func141 (by kernel_rfl) rfl fun ⟨a0,a1,a2,_⟩ r h=>(eq k a0 a1 a2).trans h
end iD
namespace fk
def C (k:Nat):Cn:=⟨[.val a_,.val .str,.val .str],[a_,(.int .i64)],true,false,fun x=>f k x.1 x.2.1 x.2.2.1⟩
def D (k:Nat):List Ce:=[q (dE.ctr k),q (eE.ctr k),q (bS.ctr k),q (du.ctr k),q (b_.ctr k)]
def E (k:Nat):cD:=en (D k) [] 0 [] k
theorem eq (k:Nat) (a0:Ty.d a_) (a1:ByteArray) (a2:ByteArray):rn (E k) Tryz.f142 (C k) (a0,a1,a2,())=f k a0 a1 a2:=by kernel_rfl
theorem ctr (k:Nat):Cp 142 (C k):=rc rfl (D k) (by kernel_rfl) Tryz.func142 (by kernel_rfl) rfl fun ⟨a0,a1,a2,_⟩ r h=>(eq k a0 a1 a2).trans h
end fk
namespace fE
def C (k:Nat):Cn:=⟨[.val a_,.val ay],[a_,(.int .i64)],true,false,fun x=>f k x.1 x.2.1⟩
def D (k:Nat):List Ce:=[q (bh.ctr k),q (cI.ctr k),q (dR.ctr k),q (cV.ctr k),q (iD.ctr k),q (fk.ctr k),q (aX.ctr k)]
def E (k:Nat):cD:=en (D k) [] 0 [] k
theorem eq (k:Nat) (a0:Ty.d a_) (a1:Ty.d ay):rn (E k) Tryz.f84 (C k) (a0,a1,())=f k a0 a1:=by kernel_rfl
theorem ctr (k:Nat):Cp 84 (C k):=rc rfl (D k) (by kernel_rfl) Tryz.func84 (by kernel_rfl) rfl fun ⟨a0,a1,_⟩ r h=>(eq k a0 a1).trans h
end fE
namespace im
def C (k:Nat):Cn:=⟨[.val a_],[aG,a_,(.int .i64)],false,true,fun x=>f k x.1⟩
def D (k:Nat):List Ce:=[q (ed.ctr k),q (aV.ctr k),q (eG.ctr k),q (aX.ctr k),q (fE.ctr k)]
def E (k:Nat):cD:=en (D k) [] 0 [] k
theorem eq (k:Nat) (a0:Ty.d a_):rn (E k) Tryz.f31 (C k) (a0,())=f k a0:=by kernel_rfl
theorem ctr (k:Nat):Cp 31 (C k):=rc rfl (D k) (by kernel_rfl) Tryz.func31 (by kernel_rfl) rfl fun ⟨a0,_⟩ r h=>(eq k a0).trans h
end im
namespace bY
def C (k:Nat):Cn:=⟨[.val .str],[ay,.bool],true,false,fun x=>f k x.1⟩
def D (k:Nat):List Ce:=[q (dm.ctr k),q (am.ctr k),q (cV.ctr k)]
def E (k:Nat):cD:=en (D k) [(9,[0,2,4,8,10,11,12])] 0 [] k
section
variable (k:Nat) (a0:ByteArray)
def K0:Ex→St→Rs:=c_ (E k) (eK (E k) Tryz.f32 (C k) (a0,())) [.blk 0,.code (at_ (bt 8 255) (body Tryz.f32))]
def V0 (n0:Nat):T0:=fun x0 x1 x2 x3 x4 x5 x6 x7 x8=>ao (bT (E k) (at_ (bt 11 383) (body Tryz.f32))) (ak 0 [0,2,4,8,10,11,12]) (K0 k a0) n0 (mk 81 4 [(0,.str x0),(2,.ptr 0 0 0),(4,.str x1),(8,.int .i64 x2),(10,.ptr 2 0 0),(11,.int .i64 x3),(12,.int .i64 x4)] [(1,.own false (.int .i64) x5),(0,.box [.int .i64 x6,.ref 1]),(3,.own false (.int .i64) x7),(2,.box [.int .i64 x8,.ref 3])])
theorem s0 (n0:Nat):V0 k a0 (n0+1)=b0 k (V0 k a0 n0):=by kernel_rfl
theorem e0:V0 k a0=l0 k:=aT rfl (s0 k a0) fun _=>rfl
end
theorem eq (k:Nat) (a0:ByteArray):rn (E k) Tryz.f32 (C k) (a0,())=f k a0:=(show _=t k (V0 k a0 k) a0 by kernel_rfl).trans (by rw [e0];rfl)
theorem ctr (k:Nat):Cp 32 (C k):=rc rfl (D k) (by kernel_rfl) Tryz.func32 (by kernel_rfl) rfl fun ⟨a0,_⟩ r h=>(eq k a0).trans h
end bY
namespace ip
def C (k:Nat):Cn:=⟨[.val a_,.val .str,.val (.int .i64)],[a_,(.int .i64)],true,false,fun x=>f k x.1 x.2.1 x.2.2.1⟩
def D (k:Nat):List Ce:=[q (dE.ctr k),q (bS.ctr k),q (aZ.ctr k)]
def E (k:Nat):cD:=en (D k) [] 0 [] k
theorem eq (k:Nat) (a0:Ty.d a_) (a1:ByteArray) (a2:Int):rn (E k) Tryz.f35 (C k) (a0,a1,a2,())=f k a0 a1 a2:=by kernel_rfl
theorem ctr (k:Nat):Cp 35 (C k):=rc rfl (D k) (by kernel_rfl) Tryz.func35 (by kernel_rfl) rfl fun ⟨a0,a1,a2,_⟩ r h=>(eq k a0 a1 a2).trans h
end ip
namespace bo
def C (k:Nat):Cn:=⟨[.val .str,.val (.int .i64),.val (.int .i64)],[(.slice (.int .i64)),(.int .i64)],true,false,fun x=>f k x.1 x.2.1 x.2.2.1⟩
def D (k:Nat):List Ce:=[q (am.ctr k)]
def E (k:Nat):cD:=en (D k) [(3,[0,1,2,8,9])] 0 [] k
section
variable (k:Nat) (a0:ByteArray) (a1:Int) (a2:Int)
def K0:Ex→St→Rs:=c_ (E k) (eK (E k) Tryz.f90 (C k) (a0,a1,a2,())) [.blk 0,.code (at_ (bt 3 7) (body Tryz.f90))]
def V0 (n0:Nat):T0:=fun x0 x1 x2 x3 x4=>ao (bT (E k) (at_ (bt 6 11) (body Tryz.f90))) (ak 0 [0,1,2,8,9]) (K0 k a0 a1 a2) n0 (mk 38 1 [(0,.str x0),(1,.int .i64 x1),(2,.int .i64 x2),(8,.ref 0),(9,.int .i64 x3)] [(0,.own false (.int .i64) x4)])
theorem s0 (n0:Nat):V0 k a0 a1 a2 (n0+1)=b0 k (V0 k a0 a1 a2 n0):=by kernel_rfl
theorem e0:V0 k a0 a1 a2=l0 k:=aT rfl (s0 k a0 a1 a2) fun _=>rfl
end
theorem eq (k:Nat) (a0:ByteArray) (a1:Int) (a2:Int):rn (E k) Tryz.f90 (C k) (a0,a1,a2,())=f k a0 a1 a2:=(show _=t k (V0 k a0 a1 a2 k) a0 a1 a2 by kernel_rfl).trans (by rw [e0];rfl)
theorem ctr (k:Nat):Cp 90 (C k):=rc rfl (D k) (by kernel_rfl) Tryz.func90 (by kernel_rfl) rfl fun ⟨a0,a1,a2,_⟩ r h=>(eq k a0 a1 a2).trans h
end bo
namespace bZ
def C (k:Nat):Cn:=⟨[.val .str],[di,.bool],true,false,fun x=>f k x.1⟩
def D (k:Nat):List Ce:=[q (bo.ctr k),q (cY.ctr k),q (cN.ctr k)]
def E (k:Nat):cD:=en (D k) [(8,[0,2,4,5,6,7])] 0 [] k
section
variable (k:Nat) (a0:ByteArray)
def K0:Ex→St→Rs:=c_ (E k) (eK (E k) Tryz.f39 (C k) (a0,())) [.blk 0,.code (at_ (bt 6 63) (body Tryz.f39))]
def V0 (n0:Nat):T0:=fun x0 x1 x2 x3 x4 x5 x6 x7 x8 x9=>ao (bT (E k) (at_ (bt 9 95) (body Tryz.f39))) (ak 0 [0,2,4,5,6,7]) (K0 k a0) n0 (mk 97 5 [(0,.str x0),(2,.ptr 0 0 0),(4,.ref 2),(5,.int .i64 x1),(6,.ptr 3 0 0),(7,.int .i64 x2)] [(1,.own false aA x3),(0,.box [.int .i64 x4,.int .i64 x5,.ref 1]),(2,.own false (.int .i64) x6),(4,.own false aA x7),(3,.box [.int .i64 x8,.int .i64 x9,.ref 4])])
theorem s0 (n0:Nat):V0 k a0 (n0+1)=b0 k (V0 k a0 n0):=by kernel_rfl
theorem e0:V0 k a0=l0 k:=aT rfl (s0 k a0) fun _=>rfl
end
theorem eq (k:Nat) (a0:ByteArray):rn (E k) Tryz.f39 (C k) (a0,())=f k a0:=(show _=t k (V0 k a0 k) a0 by kernel_rfl).trans (by rw [e0];rfl)
theorem ctr (k:Nat):Cp 39 (C k):=rc rfl (D k) (by kernel_rfl) Tryz.func39 (by kernel_rfl) rfl fun ⟨a0,_⟩ r h=>(eq k a0).trans h
end bZ
namespace eQ
def C (k:Nat):Cn:=⟨[.val (.slice aA),.val (.slice aA)],[.bool],true,false,fun x=>f k x.1 x.2.1⟩
def E (k:Nat):cD:=en [] [(4,[0,1,5])] 0 [] k
section
variable (k:Nat) (a0:List (Ty.d aA)) (a1:List (Ty.d aA))
def K0:Ex→St→Rs:=c_ (E k) (eK (E k) Tryz.f44 (C k) (a0,a1,())) [.blk 0,.code (at_ (bt 3 7) (body Tryz.f44))]
def V0 (n0:Nat):T0:=fun x0 x1 x2=>ao (bT (E k) (at_ (bt 6 11) (body Tryz.f44))) (ak 0 [0,1,5]) (K0 k a0 a1) n0 (mk 26 0 [(0,.sl true aA x0),(1,.sl true aA x1),(5,.int .i64 x2)] [])
theorem s0 (n0:Nat):V0 k a0 a1 (n0+1)=b0 k (V0 k a0 a1 n0):=by kernel_rfl
theorem e0:V0 k a0 a1=l0 k:=aT rfl (s0 k a0 a1) fun _=>rfl
end
theorem eq (k:Nat) (a0:List (Ty.d aA)) (a1:List (Ty.d aA)):rn (E k) Tryz.f44 (C k) (a0,a1,())=f k a0 a1:=(show _=t k (V0 k a0 a1 k) a0 a1 by kernel_rfl).trans (by rw [e0];rfl)
theorem ctr (k:Nat):Cp 44 (C k):=rc rfl [] (by kernel_rfl) Tryz.func44 (by kernel_rfl) rfl fun ⟨a0,a1,_⟩ r h=>(eq k a0 a1).trans h
end eQ
namespace i_
def C (k:Nat):Cn:=⟨[.val (.int .i64),.val .str,.val di],[.bool],true,false,fun x=>f k x.1 x.2.1 x.2.2.1⟩
def D (k:Nat):List Ce:=[q (d5.ctr k),q (eQ.ctr k)]
def E (k:Nat):cD:=en (D k) [] 0 [] k
theorem eq (k:Nat) (a0:Int) (a1:ByteArray) (a2:Ty.d di):rn (E k) Tryz.f40 (C k) (a0,a1,a2,())=f k a0 a1 a2:=by kernel_rfl
theorem ctr (k:Nat):Cp 40 (C k):=rc rfl (D k) (by kernel_rfl) Tryz.func40 (by kernel_rfl) rfl fun ⟨a0,a1,a2,_⟩ r h=>(eq k a0 a1 a2).trans h
end i_
namespace bm
def C (k:Nat):Cn:=⟨[.val (.int .i64),.val .str],[(.slice aD)],true,false,fun x=>f k x.1 x.2.1⟩
def D (k:Nat):List Ce:=[q (bg.ctr k)]
def E (k:Nat):cD:=en (D k) [(4,[0,5,6,8])] 0 [] k
section
variable (k:Nat) (a0:Int) (a1:ByteArray)
def K0:Ex→St→Rs:=c_ (E k) (eK (E k) Tryz.f41 (C k) (a0,a1,())) [.blk 0,.code (at_ (bt 4 15) (body Tryz.f41))]
def V0 (n0:Nat):T0:=fun x0 x1 x2 x3=>ao (bT (E k) (at_ (bt 7 23) (body Tryz.f41))) (ak 0 [0,5,6,8]) (K0 k a0 a1) n0 (mk 42 2 [(0,.int .i64 x0),(5,.ref 0),(6,.ref 1),(8,.int .i64 x1)] [(0,.own false aD x2),(1,.own false bM x3)])
theorem s0 (n0:Nat):V0 k a0 a1 (n0+1)=b0 k (V0 k a0 a1 n0):=by kernel_rfl
theorem e0:V0 k a0 a1=l0 k:=aT rfl (s0 k a0 a1) fun _=>rfl
end
theorem eq (k:Nat) (a0:Int) (a1:ByteArray):rn (E k) Tryz.f41 (C k) (a0,a1,())=f k a0 a1:=(show _=t k (V0 k a0 a1 k) a0 a1 by kernel_rfl).trans (by rw [e0];rfl)
theorem ctr (k:Nat):Cp 41 (C k):=rc rfl (D k) (by kernel_rfl) Tryz.func41 (by kernel_rfl) rfl fun ⟨a0,a1,_⟩ r h=>(eq k a0 a1).trans h
end bm
namespace iz
def C (k:Nat):Cn:=⟨[.val (.slice aD),.val (.int .i64),.val (.int .i64)],[(.slice aD)],true,false,fun x=>f k x.1 x.2.1 x.2.2.1⟩
def E (k:Nat):cD:=en [] [(3,[0,1,2,7,8])] 0 [] k
section
variable (k:Nat) (a0:List (Ty.d aD)) (a1:Int) (a2:Int)
def K0:Ex→St→Rs:=c_ (E k) (eK (E k) Tryz.f92 (C k) (a0,a1,a2,())) [.blk 0,.code (at_ (bt 3 7) (body Tryz.f92))]
def V0 (n0:Nat):T0:=fun x0 x1 x2 x3 x4=>ao (bT (E k) (at_ (bt 6 11) (body Tryz.f92))) (ak 0 [0,1,2,7,8]) (K0 k a0 a1 a2) n0 (mk 53 1 [(0,.sl true aD x0),(1,.int .i64 x1),(2,.int .i64 x2),(7,.ref 0),(8,.int .i64 x3)] [(0,.own false aD x4)])
theorem s0 (n0:Nat):V0 k a0 a1 a2 (n0+1)=b0 k (V0 k a0 a1 a2 n0):=by kernel_rfl
theorem e0:V0 k a0 a1 a2=l0 k:=aT rfl (s0 k a0 a1 a2) fun _=>rfl
end
theorem eq (k:Nat) (a0:List (Ty.d aD)) (a1:Int) (a2:Int):rn (E k) Tryz.f92 (C k) (a0,a1,a2,())=f k a0 a1 a2:=(show _=t k (V0 k a0 a1 a2 k) a0 a1 a2 by kernel_rfl).trans (by rw [e0];rfl)
theorem ctr (k:Nat):Cp 92 (C k):=rc rfl [] (by kernel_rfl) Tryz.func92 (by kernel_rfl) rfl fun ⟨a0,a1,a2,_⟩ r h=>(eq k a0 a1 a2).trans h
end iz
namespace gP
def C (k:Nat):Cn:=⟨[.val (.slice aD)],[(.slice bP)],true,false,fun x=>f k x.1⟩
def E (k:Nat):cD:=en [] [(3,[0,3,4])] 0 [] k
section
variable (k:Nat) (a0:List (Ty.d aD))
def K0:Ex→St→Rs:=c_ (E k) (eK (E k) Tryz.f144 (C k) (a0,())) [.blk 0,.code (at_ (bt 3 7) (body Tryz.f144))]
def V0 (n0:Nat):T0:=fun x0 x1 x2=>ao (bT (E k) (at_ (bt 6 11) (body Tryz.f144))) (ak 0 [0,3,4]) (K0 k a0) n0 (mk 21 1 [(0,.sl true aD x0),(3,.ref 0),(4,.int .i64 x1)] [(0,.own false bP x2)])
theorem s0 (n0:Nat):V0 k a0 (n0+1)=b0 k (V0 k a0 n0):=by kernel_rfl
theorem e0:V0 k a0=l0 k:=aT rfl (s0 k a0) fun _=>rfl
end
theorem eq (k:Nat) (a0:List (Ty.d aD)):rn (E k) Tryz.f144 (C k) (a0,())=f k a0:=(show _=t k (V0 k a0 k) a0 by kernel_rfl).trans (by rw [e0];rfl)
theorem ctr (k:Nat):Cp 144 (C k):=rc rfl [] (by kernel_rfl) Tryz.func144 (by kernel_rfl) rfl fun ⟨a0,_⟩ r h=>(eq k a0).trans h
end gP
namespace jR
def C (k:Nat):Cn:=⟨[.val bP,.val (.slice aD)],[.bool],true,false,fun x=>f k x.1 x.2.1⟩
def D (k:Nat):List Ce:=[q (gP.ctr k),q (gG.ctr k)]
def E (k:Nat):cD:=en (D k) [] 0 [] k
theorem eq (k:Nat) (a0:Ty.d bP) (a1:List (Ty.d aD)):rn (E k) Tryz.f93 (C k) (a0,a1,())=f k a0 a1:=by kernel_rfl
theorem ctr (k:Nat):Cp 93 (C k):=rc rfl (D k) (by kernel_rfl) Tryz.func93 (by kernel_rfl) rfl fun ⟨a0,a1,_⟩ r h=>(eq k a0 a1).trans h
end jR
namespace dD
def C (k:Nat):Cn:=⟨[.val (.slice aA),.val .str],[(.slice aA)],true,false,fun x=>f k x.1 x.2.1⟩
def E (k:Nat):cD:=en [] [(3,[0,1,5,6])] 0 [] k
section
variable (k:Nat) (a0:List (Ty.d aA)) (a1:ByteArray)
def K0:Ex→St→Rs:=c_ (E k) (eK (E k) Tryz.f145 (C k) (a0,a1,())) [.blk 0,.code (at_ (bt 3 7) (body Tryz.f145))]
def V0 (n0:Nat):T0:=fun x0 x1 x2 x3=>ao (bT (E k) (at_ (bt 6 11) (body Tryz.f145))) (ak 0 [0,1,5,6]) (K0 k a0 a1) n0 (mk 29 1 [(0,.sl true aA x0),(1,.str x1),(5,.ref 0),(6,.int .i64 x2)] [(0,.own false aA x3)])
theorem s0 (n0:Nat):V0 k a0 a1 (n0+1)=b0 k (V0 k a0 a1 n0):=by kernel_rfl
theorem e0:V0 k a0 a1=l0 k:=aT rfl (s0 k a0 a1) fun _=>rfl
end
theorem eq (k:Nat) (a0:List (Ty.d aA)) (a1:ByteArray):rn (E k) Tryz.f145 (C k) (a0,a1,())=f k a0 a1:=(show _=t k (V0 k a0 a1 k) a0 a1 by kernel_rfl).trans (by rw [e0];rfl)
theorem ctr (k:Nat):Cp 145 (C k):=rc rfl [] (by kernel_rfl) Tryz.func145 (by kernel_rfl) rfl fun ⟨a0,a1,_⟩ r h=>(eq k a0 a1).trans h
end dD
namespace br
def C (k:Nat):Cn:=⟨[.val (.slice aA),.val aA],[(.slice aA)],true,false,fun x=>f k x.1 x.2.1⟩
def E (k:Nat):cD:=en [] [(4,[0,3,5,6,7])] 0 [] k
section
variable (k:Nat) (a0:List (Ty.d aA)) (a1:Ty.d aA)
def K0:Ex→St→Rs:=c_ (E k) (eK (E k) Tryz.f113 (C k) (a0,a1,())) [.blk 0,.code (at_ (bt 4 15) (body Tryz.f113))]
def V0 (n0:Nat):T0:=fun x0 x1 x2 x3 x4 x5 x6 x7 x8=>ao (bT (E k) (at_ (bt 7 23) (body Tryz.f113))) (ak 0 [0,3,5,6,7]) (K0 k a0 a1) n0 (mk 53 2 [(0,.sl true aA x0),(3,.ptr 0 0 0),(5,.ref 1),(6,.bool x1),(7,.int .i64 x2)] [(0,.box [.str x3,.int .i64 x4,.int .i64 x5,.int .i64 x6,.int .i64 x7]),(1,.own false aA x8)])
theorem s0 (n0:Nat):V0 k a0 a1 (n0+1)=b0 k (V0 k a0 a1 n0):=by kernel_rfl
theorem e0:V0 k a0 a1=l0 k:=aT rfl (s0 k a0 a1) fun _=>rfl
end
theorem eq (k:Nat) (a0:List (Ty.d aA)) (a1:Ty.d aA):rn (E k) Tryz.f113 (C k) (a0,a1,())=f k a0 a1:=(show _=t k (V0 k a0 a1 k) a0 a1 by kernel_rfl).trans (by rw [e0];rfl)
theorem ctr (k:Nat):Cp 113 (C k):=rc rfl [] (by kernel_rfl) Tryz.func113 (by kernel_rfl) rfl fun ⟨a0,a1,_⟩ r h=>(eq k a0 a1).trans h
end br
namespace iR
def C (k:Nat):Cn:=⟨[.val (.slice aA),.val aD],[(.slice aA)],true,false,fun x=>f k x.1 x.2.1⟩
def D (k:Nat):List Ce:=[q (dD.ctr k),q (br.ctr k)]
def E (k:Nat):cD:=en (D k) [] 0 [] k
theorem eq (k:Nat) (a0:List (Ty.d aA)) (a1:Ty.d aD):rn (E k) Tryz.f95 (C k) (a0,a1,())=f k a0 a1:=by kernel_rfl
theorem ctr (k:Nat):Cp 95 (C k):=rc rfl (D k) (by kernel_rfl) Tryz.func95 (by kernel_rfl) rfl fun ⟨a0,a1,_⟩ r h=>(eq k a0 a1).trans h
end iR
namespace fV
def C (k:Nat):Cn:=⟨[.val (.slice aD),.val (.int .i64)],[(.slice aD)],true,false,fun x=>f k x.1 x.2.1⟩
def E (k:Nat):cD:=en [] [(3,[0,1,5,6])] 0 [] k
section
variable (k:Nat) (a0:List (Ty.d aD)) (a1:Int)
def K0:Ex→St→Rs:=c_ (E k) (eK (E k) Tryz.f94 (C k) (a0,a1,())) [.blk 0,.code (at_ (bt 3 7) (body Tryz.f94))]
def V0 (n0:Nat):T0:=fun x0 x1 x2 x3=>ao (bT (E k) (at_ (bt 6 11) (body Tryz.f94))) (ak 0 [0,1,5,6]) (K0 k a0 a1) n0 (mk 36 1 [(0,.sl true aD x0),(1,.int .i64 x1),(5,.ref 0),(6,.int .i64 x2)] [(0,.own false aD x3)])
theorem s0 (n0:Nat):V0 k a0 a1 (n0+1)=b0 k (V0 k a0 a1 n0):=by kernel_rfl
theorem e0:V0 k a0 a1=l0 k:=aT rfl (s0 k a0 a1) fun _=>rfl
end
theorem eq (k:Nat) (a0:List (Ty.d aD)) (a1:Int):rn (E k) Tryz.f94 (C k) (a0,a1,())=f k a0 a1:=(show _=t k (V0 k a0 a1 k) a0 a1 by kernel_rfl).trans (by rw [e0];rfl)
theorem ctr (k:Nat):Cp 94 (C k):=rc rfl [] (by kernel_rfl) Tryz.func94 (by kernel_rfl) rfl fun ⟨a0,a1,_⟩ r h=>(eq k a0 a1).trans h
end fV
namespace cM
def C (k:Nat):Cn:=⟨[.val gB,.val (.slice aD)],[gB],true,false,fun x=>f k x.1 x.2.1⟩
def D (k:Nat):List Ce:=[q (iz.ctr k),q (jR.ctr k),q (iR.ctr k),q (fV.ctr k)]
def E (k:Nat):cD:=en (D k) [(3,[1,4,5,6]),(17,[1,4,5,6,8,9])] 0 [] k
section
variable (k:Nat) (a0:Ty.d gB) (a1:List (Ty.d aD))
def K0:Ex→St→Rs:=c_ (E k) (eK (E k) Tryz.f42 (C k) (a0,a1,())) [.blk 0,.code (at_ (bt 3 7) (body Tryz.f42))]
def B0 (n0:Nat):Ex→St→Rs:=Le (E k) (at_ (bt 6 11) (body Tryz.f42)) 0 [1,4,5,6] (K0 k a0 a1) n0
def K1 (n0:Nat):Ex→St→Rs:=c_ (E k) (B0 k a0 a1 n0) [.blk 3,.code (at_ (bt 14 15947) (body Tryz.f42)),.blk 1,.code (at_ (bt 8 203) (body Tryz.f42))]
def V0 (n0:Nat):T0:=fun x0 x1 x2 x3 x4 x5 x6 x7=>ao (bT (E k) (at_ (bt 6 11) (body Tryz.f42))) (ak 0 [1,4,5,6]) (K0 k a0 a1) n0 (mk 97 4 [(1,.sl true aD x0),(4,.ptr 0 0 0),(5,.ptr 2 0 0),(6,.int .i64 x1)] [(1,.own false aA x2),(0,.box [.ref 1,.int .i64 x3,.int .i64 x4]),(3,.own false aA x5),(2,.box [.ref 3,.int .i64 x6,.int .i64 x7])])
def V1 (n0 n1:Nat):T1:=fun x0 x1 x2 x3 x4 x5 x6 x7 x8 x9=>ao (bT (E k) (at_ (bt 17 24139) (body Tryz.f42))) (ak 0 [1,4,5,6,8,9]) (K1 k a0 a1 n0) n1 (mk 97 5 [(1,.sl true aD x0),(4,.ptr 0 0 0),(5,.ptr 2 0 0),(6,.int .i64 x1),(8,.ref 4),(9,.int .i64 x2)] [(1,.own false aA x3),(0,.box [.ref 1,.int .i64 x4,.int .i64 x5]),(3,.own false aA x6),(2,.box [.ref 3,.int .i64 x7,.int .i64 x8]),(4,.own false aD x9)])
theorem s0 (n0:Nat):V0 k a0 a1 (n0+1)=b0 k (V1 k a0 a1 n0 k) (V0 k a0 a1 n0):=by kernel_rfl
theorem s1 (n0 n1:Nat):V1 k a0 a1 n0 (n1+1)=b1 k (V0 k a0 a1 n0) (V1 k a0 a1 n0 n1):=by kernel_rfl
theorem e1 (n0:Nat):V1 k a0 a1 n0=l1 k (V0 k a0 a1 n0):=aT rfl (s1 k a0 a1 n0) fun _=>rfl
theorem e0 (n0:Nat):V0 k a0 a1 n0=l0 k n0:=by
 induction n0 with
 | zero=>rfl
 | succ n0 ih =>
  have h:V0 k a0 a1 (n0+1)=b0 k (V1 k a0 a1 n0 k) (V0 k a0 a1 n0):=s0 k a0 a1 n0
  rw [h,e1,ih]
  rfl
end
theorem eq (k:Nat) (a0:Ty.d gB) (a1:List (Ty.d aD)):rn (E k) Tryz.f42 (C k) (a0,a1,())=f k a0 a1:=(show _=t k (V0 k a0 a1 k) a0 a1 by kernel_rfl).trans (by rw [e0];rfl)
theorem ctr (k:Nat):Cp 42 (C k):=rc rfl (D k) (by kernel_rfl) Tryz.func42 (by kernel_rfl) rfl fun ⟨a0,a1,_⟩ r h=>(eq k a0 a1).trans h
end cM
namespace bG
def C (k:Nat):Cn:=⟨[.give a_,.val ay],[a_,(.int .i64)],true,false,fun x=>f k x.1 x.2.1⟩
def D (k:Nat):List Ce:=[q (bQ.ctr k),q (fL.ctr k),q (aX.ctr k)]
def E (k:Nat):cD:=en (D k) [(3,[2,4,6,7])] 0 [] k
section
variable (k:Nat) (a0:Ty.d a_) (a1:Ty.d ay)
def K0:Ex→St→Rs:=c_ (E k) (eK (E k) Tryz.f43 (C k) (a0,a1,())) [.blk 0,.code (at_ (bt 3 7) (body Tryz.f43))]
def V0 (n0:Nat):T0:=fun x0 x1 x2 x3 x4 x5 x6 x7 x8 x9=>ao (bT (E k) (at_ (bt 6 11) (body Tryz.f43))) (ak 0 [2,4,6,7]) (K0 k a0 a1) n0 (mk 35 5 [(2,.ptr 0 0 0),(4,.ptr 2 0 0),(6,.ref 4),(7,.int .i64 x0)] [(1,.own false aB x1),(0,.box [.ref 1,.int .i64 x2,.int .i64 x3,.bool x4]),(3,.own false aB x5),(2,.box [.ref 3,.int .i64 x6,.int .i64 x7,.bool x8]),(4,.own false .str x9)])
theorem s0 (n0:Nat):V0 k a0 a1 (n0+1)=b0 k (V0 k a0 a1 n0):=by kernel_rfl
theorem e0:V0 k a0 a1=l0 k:=aT rfl (s0 k a0 a1) fun _=>rfl
end
theorem eq (k:Nat) (a0:Ty.d a_) (a1:Ty.d ay):rn (E k) Tryz.f43 (C k) (a0,a1,())=f k a0 a1:=(show _=t k (V0 k a0 a1 k) a0 a1 by kernel_rfl).trans (by rw [e0];rfl)
theorem ctr (k:Nat):Cp 43 (C k):=rc rfl (D k) (by kernel_rfl) Tryz.func43 (by kernel_rfl) rfl fun ⟨a0,a1,_⟩ r h=>(eq k a0 a1).trans h
end bG
namespace bd
def C (k:Nat):Cn:=⟨[.val a_],[aG,a_,(.int .i64)],false,true,fun x=>f k x.1⟩
def D (k:Nat):List Ce:=[q (bh.ctr k),q (cI.ctr k),q (bu.ctr k),q (im.ctr k),q (bY.ctr k),q (aV.ctr k),q (bg.ctr k),q (ip.ctr k),q (aX.ctr k),q (d6.ctr k),q (bv.ctr k),q (bZ.ctr k),q (i_.ctr k),q (bm.ctr k),q (cM.ctr k),q (bG.ctr k)]
def E (k:Nat):cD:=en (D k) [(14,[1,2,3,5,8,9,10]),(35,[2,3,5,8,19,23,24,25,26])] 0 [] k
section
variable (k:Nat) (a0:Ty.d a_)
def K0:Ex→St→Rs:=c_ (E k) (eK (E k) Tryz.f9 (C k) (a0,())) [.blk 0,.code (at_ (bt 10 1023) (body Tryz.f9))]
def K1:Ex→St→Rs:=c_ (E k) (eK (E k) Tryz.f9 (C k) (a0,())) [.blk 2,.code (at_ (bt 20 1048575) (body Tryz.f9))]
def V0 (n0:Nat):T0:=fun x0 x1 x2 x3 x4 x5 x6 x7 x8 x9 x10 x11 x12 x13 x14 x15 x16 x17 x18 x19 x20 x21 x22 x23=>ao (bT (E k) (at_ (bt 13 1535) (body Tryz.f9))) (ak 0 [1,2,3,5,8,9,10]) (K0 k a0) n0 (mk 268 11 [(1,.ptr 0 0 0),(2,.ptr 1 0 0),(3,.ptr 4 0 0),(5,.ptr 6 0 0),(8,.ptr 9 0 0),(9,.int .i64 x0),(10,.int .i64 x1)] [(0,.box [.sl true aB x2,.int .i64 x3,.int .i64 x4,.bool x5]),(2,.own false (.int .i64) x6),(3,.own false aA x7),(1,.box [.int .i64 x8,.ref 2,.ref 3,.int .i64 x9,.int .i64 x10,.int .i64 x11]),(5,.own false aB x12),(4,.box [.ref 5,.int .i64 x13,.int .i64 x14,.bool x15]),(7,.own false (.int .i64) x16),(8,.own false aA x17),(6,.box [.int .i64 x18,.ref 7,.ref 8,.int .i64 x19,.int .i64 x20,.int .i64 x21]),(10,.own false (.int .i64) x22),(9,.box [.int .i64 x23,.ref 10])])
def V1 (n1:Nat):T1:=fun x0 x1 x2 x3 x4 x5 x6 x7 x8 x9 x10 x11 x12 x13 x14 x15 x16 x17 x18 x19 x20 x21 x22 x23 x24 x25 x26 x27 x28 x29 x30 x31=>ao (bT (E k) (at_ (bt 23 1572863) (body Tryz.f9))) (ak 0 [2,3,5,8,19,23,24,25,26]) (K1 k a0) n1 (mk 268 17 [(2,.ptr 0 0 0),(3,.ptr 3 0 0),(5,.ptr 5 0 0),(8,.ptr 8 0 0),(19,.ptr 10 0 0),(23,.ptr 12 0 0),(24,.ptr 14 0 0),(25,.ref 16),(26,.int .i64 x0)] [(1,.own false (.int .i64) x1),(2,.own false aA x2),(0,.box [.int .i64 x3,.ref 1,.ref 2,.int .i64 x4,.int .i64 x5,.int .i64 x6]),(4,.own false aB x7),(3,.box [.ref 4,.int .i64 x8,.int .i64 x9,.bool x10]),(6,.own false (.int .i64) x11),(7,.own false aA x12),(5,.box [.int .i64 x13,.ref 6,.ref 7,.int .i64 x14,.int .i64 x15,.int .i64 x16]),(9,.own false (.int .i64) x17),(8,.box [.int .i64 x18,.ref 9]),(11,.own false aB x19),(10,.box [.ref 11,.int .i64 x20,.int .i64 x21,.bool x22]),(13,.own false aA x23),(12,.box [.int .i64 x24,.ref 9,.ref 13,.int .i64 x25,.int .i64 x26,.int .i64 x27]),(15,.own false aA x28),(14,.box [.ref 15,.int .i64 x29,.int .i64 x30]),(16,.own false aD x31)])
def V2 (n1:Nat):T2:=fun x0 x1 x2 x3 x4 x5 x6 x7 x8 x9 x10 x11 x12 x13 x14 x15 x16 x17 x18 x19 x20 x21 x22 x23 x24 x25 x26 x27 x28 x29 x30 x31=>ao (bT (E k) (at_ (bt 23 1572863) (body Tryz.f9))) (ak 0 [2,3,5,8,19,23,24,25,26]) (K1 k a0) n1 (mk 268 17 [(2,.ptr 0 0 0),(3,.ptr 3 0 0),(5,.ptr 5 0 0),(8,.ptr 8 0 0),(19,.ptr 10 0 0),(23,.ptr 12 0 0),(24,.ptr 14 0 0),(25,.ref 16),(26,.int .i64 x0)] [(1,.own false (.int .i64) x1),(2,.own false aA x2),(0,.box [.int .i64 x3,.ref 1,.ref 2,.int .i64 x4,.int .i64 x5,.int .i64 x6]),(4,.own false aB x7),(3,.box [.ref 4,.int .i64 x8,.int .i64 x9,.bool x10]),(6,.own false (.int .i64) x11),(7,.own false aA x12),(5,.box [.int .i64 x13,.ref 6,.ref 7,.int .i64 x14,.int .i64 x15,.int .i64 x16]),(9,.own false (.int .i64) x17),(8,.box [.int .i64 x18,.ref 9]),(11,.own false aB x19),(10,.box [.ref 11,.int .i64 x20,.int .i64 x21,.bool x22]),(13,.own false aA x23),(12,.box [.int .i64 x24,.ref 9,.ref 13,.int .i64 x25,.int .i64 x26,.int .i64 x27]),(15,.own false aA x28),(14,.box [.ref 15,.int .i64 x29,.int .i64 x30]),(16,.own false aD x31)])
theorem s0 (n0:Nat):V0 k a0 (n0+1)=b0 k (V1 k a0 k) (V2 k a0 k) (V0 k a0 n0):=by kernel_rfl
theorem s1 (n1:Nat):V1 k a0 (n1+1)=b1 k (V1 k a0 n1):=by kernel_rfl
theorem s2 (n1:Nat):V2 k a0 (n1+1)=b2 k (V2 k a0 n1):=by kernel_rfl
theorem e1:V1 k a0=l1 k:=aT rfl (s1 k a0) fun _=>rfl
theorem e2:V2 k a0=l2 k:=aT rfl (s2 k a0) fun _=>rfl
theorem e0 (n0:Nat):V0 k a0 n0=l0 k n0:=by
 induction n0 with
 | zero=>rfl
 | succ n0 ih =>
  have h:V0 k a0 (n0+1)=b0 k (V1 k a0 k) (V2 k a0 k) (V0 k a0 n0):=s0 k a0 n0
  rw [h,e1,e2,ih]
  rfl
end
theorem eq (k:Nat) (a0:Ty.d a_):rn (E k) Tryz.f9 (C k) (a0,())=f k a0:=(show _=t k (V0 k a0 k) a0 by kernel_rfl).trans (by rw [e0];rfl)
theorem ctr (k:Nat):Cp 9 (C k):=rc rfl (D k) (by kernel_rfl) Tryz.func9 (by kernel_rfl) rfl fun ⟨a0,_⟩ r h=>(eq k a0).trans h
end bd
namespace fb
def C (k:Nat):Cn:=⟨[.val aG],[aG],true,false,fun x=>f k x.1⟩
def E (k:Nat):cD:=en [] [] 0 [] k
theorem eq (k:Nat) (a0:Ty.d aG):rn (E k) Tryz.f151 (C k) (a0,())=f k a0:=by kernel_rfl
theorem ctr (k:Nat):Cp 151 (C k):=rc rfl [] (by kernel_rfl) Tryz.func151 (by kernel_rfl) rfl fun ⟨a0,_⟩ r h=>(eq k a0).trans h
end fb
namespace jY
def C (k:Nat):Cn:=⟨[.val .str,.val (.int .i64),.val (.int .i64)],[bP,.bool],true,false,fun x=>f k x.1 x.2.1 x.2.2.1⟩
def D (k:Nat):List Ce:=[q (aZ.ctr k),q (dm.ctr k),q (eS.ctr k)]
def E (k:Nat):cD:=en (D k) [] 0 [] k
theorem eq (k:Nat) (a0:ByteArray) (a1:Int) (a2:Int):rn (E k) Tryz.f160 (C k) (a0,a1,a2,())=f k a0 a1 a2:=by kernel_rfl
theorem ctr (k:Nat):Cp 160 (C k):=rc rfl (D k) (by kernel_rfl) Tryz.func160 (by kernel_rfl) rfl fun ⟨a0,a1,a2,_⟩ r h=>(eq k a0 a1 a2).trans h
end jY
namespace cL
def C (k:Nat):Cn:=⟨[.val aG,.val a_],[.bool],true,false,fun x=>f k x.1 x.2.1⟩
def D (k:Nat):List Ce:=[q (bh.ctr k),q (dR.ctr k),q (fK.ctr k),q (aZ.ctr k),q (aV.ctr k),q (bu.ctr k),q (bg.ctr k),q (jY.ctr k)]
def E (k:Nat):cD:=en (D k) [(4,[2,3,5]),(11,[2,3,10])] 0 [] k
section
variable (k:Nat) (a0:Ty.d aG) (a1:Ty.d a_)
def K0:Ex→St→Rs:=c_ (E k) (eK (E k) Tryz.f152 (C k) (a0,a1,())) [.blk 0,.code (at_ (bt 3 7) (body Tryz.f152))]
def K1:Ex→St→Rs:=c_ (E k) (eK (E k) Tryz.f152 (C k) (a0,a1,())) [.blk 2,.code (at_ (bt 4 15) (body Tryz.f152))]
def V0 (n0:Nat):T0:=fun x0 x1 x2 x3 x4 x5 x6 x7 x8 x9 x10=>ao (bT (E k) (at_ (bt 6 11) (body Tryz.f152))) (ak 0 [2,3,5]) (K0 k a0 a1) n0 (mk 148 2 [(2,.ptr 0 0 0),(3,.ptr 1 0 0),(5,.int .i64 x0)] [(0,.box [.int .i64 x1,.sl true (.int .i64) x2,.sl true aA x3,.int .i64 x4,.int .i64 x5,.int .i64 x6]),(1,.box [.sl true aB x7,.int .i64 x8,.int .i64 x9,.bool x10])])
def V1 (n1:Nat):T1:=fun x0 x1 x2 x3 x4 x5 x6 x7 x8 x9 x10=>ao (bT (E k) (at_ (bt 7 23) (body Tryz.f152))) (ak 0 [2,3,10]) (K1 k a0 a1) n1 (mk 148 2 [(2,.ptr 0 0 0),(3,.ptr 1 0 0),(10,.int .i64 x0)] [(0,.box [.int .i64 x1,.sl true (.int .i64) x2,.sl true aA x3,.int .i64 x4,.int .i64 x5,.int .i64 x6]),(1,.box [.sl true aB x7,.int .i64 x8,.int .i64 x9,.bool x10])])
theorem s0 (n0:Nat):V0 k a0 a1 (n0+1)=b0 k (V1 k a0 a1 k) (V0 k a0 a1 n0):=by kernel_rfl
theorem s1 (n1:Nat):V1 k a0 a1 (n1+1)=b1 k (V1 k a0 a1 n1):=by kernel_rfl
theorem e1:V1 k a0 a1=l1 k:=aT rfl (s1 k a0 a1) fun _=>rfl
theorem e0 (n0:Nat):V0 k a0 a1 n0=l0 k n0:=by
 induction n0 with
 | zero=>rfl
 | succ n0 ih =>
  have h:V0 k a0 a1 (n0+1)=b0 k (V1 k a0 a1 k) (V0 k a0 a1 n0):=s0 k a0 a1 n0
  rw [h,e1,ih]
  rfl
end
theorem eq (k:Nat) (a0:Ty.d aG) (a1:Ty.d a_):rn (E k) Tryz.f152 (C k) (a0,a1,())=f k a0 a1:=(show _=t k (V0 k a0 a1 k) a0 a1 by kernel_rfl).trans (by rw [e0];rfl)
theorem ctr (k:Nat):Cp 152 (C k):=rc rfl (D k) (by kernel_rfl) Tryz.func152 (by kernel_rfl) rfl fun ⟨a0,a1,_⟩ r h=>(eq k a0 a1).trans h
end cL
namespace gK
def C (k:Nat):Cn:=⟨[.val (.slice aA),.val .str],[aA,.bool],true,false,fun x=>f k x.1 x.2.1⟩
def E (k:Nat):cD:=en [] [(2,[0,1,4,6])] 0 [] k
section
variable (k:Nat) (a0:List (Ty.d aA)) (a1:ByteArray)
def K0:Ex→St→Rs:=c_ (E k) (eK (E k) Tryz.f159 (C k) (a0,a1,())) [.blk 0,.code (at_ (bt 2 3) (body Tryz.f159))]
def V0 (n0:Nat):T0:=fun x0 x1 x2 x3 x4 x5 x6 x7=>ao (bT (E k) (at_ (bt 5 5) (body Tryz.f159))) (ak 0 [0,1,4,6]) (K0 k a0 a1) n0 (mk 25 1 [(0,.sl true aA x0),(1,.str x1),(4,.ptr 0 0 0),(6,.int .i64 x2)] [(0,.box [.str x3,.int .i64 x4,.int .i64 x5,.int .i64 x6,.int .i64 x7])])
theorem s0 (n0:Nat):V0 k a0 a1 (n0+1)=b0 k (V0 k a0 a1 n0):=by kernel_rfl
theorem e0:V0 k a0 a1=l0 k:=aT rfl (s0 k a0 a1) fun _=>rfl
end
theorem eq (k:Nat) (a0:List (Ty.d aA)) (a1:ByteArray):rn (E k) Tryz.f159 (C k) (a0,a1,())=f k a0 a1:=(show _=t k (V0 k a0 a1 k) a0 a1 by kernel_rfl).trans (by rw [e0];rfl)
theorem ctr (k:Nat):Cp 159 (C k):=rc rfl [] (by kernel_rfl) Tryz.func159 (by kernel_rfl) rfl fun ⟨a0,a1,_⟩ r h=>(eq k a0 a1).trans h
end gK
namespace nI
def C (k:Nat):Cn:=⟨[.val aG,.val a_,.val .str],[aB,(.int .i64)],true,false,fun x=>f k x.1 x.2.1 x.2.2.1⟩
def D (k:Nat):List Ce:=[q (gK.ctr k),q (aV.ctr k),q (bu.ctr k),q (jY.ctr k)]
def E (k:Nat):cD:=en (D k) [] 0 [] k
theorem eq (k:Nat) (a0:Ty.d aG) (a1:Ty.d a_) (a2:ByteArray):rn (E k) Tryz.f117 (C k) (a0,a1,a2,())=f k a0 a1 a2:=by kernel_rfl
theorem ctr (k:Nat):Cp 117 (C k):=rc rfl (D k) (by kernel_rfl) Tryz.func117 (by kernel_rfl) rfl fun ⟨a0,a1,a2,_⟩ r h=>(eq k a0 a1 a2).trans h
end nI
namespace gu
def C (k:Nat):Cn:=⟨[.val aG,.val a_],[(.slice aB),(.int .i64)],true,false,fun x=>f k x.1 x.2.1⟩
def D (k:Nat):List Ce:=[q (nI.ctr k)]
def E (k:Nat):cD:=en (D k) [(3,[2,3,6,7])] 0 [] k
section
variable (k:Nat) (a0:Ty.d aG) (a1:Ty.d a_)
def K0:Ex→St→Rs:=c_ (E k) (eK (E k) Tryz.f66 (C k) (a0,a1,())) [.blk 0,.code (at_ (bt 3 7) (body Tryz.f66))]
def V0 (n0:Nat):T0:=fun x0 x1 x2 x3 x4 x5 x6 x7 x8 x9 x10 x11=>ao (bT (E k) (at_ (bt 6 11) (body Tryz.f66))) (ak 0 [2,3,6,7]) (K0 k a0 a1) n0 (mk 39 3 [(2,.ptr 0 0 0),(3,.ptr 1 0 0),(6,.ref 2),(7,.int .i64 x0)] [(0,.box [.int .i64 x1,.sl true (.int .i64) x2,.sl true aA x3,.int .i64 x4,.int .i64 x5,.int .i64 x6]),(1,.box [.sl true aB x7,.int .i64 x8,.int .i64 x9,.bool x10]),(2,.own false aB x11)])
theorem s0 (n0:Nat):V0 k a0 a1 (n0+1)=b0 k (V0 k a0 a1 n0):=by kernel_rfl
theorem e0:V0 k a0 a1=l0 k:=aT rfl (s0 k a0 a1) fun _=>rfl
end
theorem eq (k:Nat) (a0:Ty.d aG) (a1:Ty.d a_):rn (E k) Tryz.f66 (C k) (a0,a1,())=f k a0 a1:=(show _=t k (V0 k a0 a1 k) a0 a1 by kernel_rfl).trans (by rw [e0];rfl)
theorem ctr (k:Nat):Cp 66 (C k):=rc rfl (D k) (by kernel_rfl) Tryz.func66 (by kernel_rfl) rfl fun ⟨a0,a1,_⟩ r h=>(eq k a0 a1).trans h
end gu
namespace lB
def C (k:Nat):Cn:=⟨[.val aB],[bP],true,false,fun x=>f k x.1⟩
def E (k:Nat):cD:=en [] [] 0 [] k
theorem eq (k:Nat) (a0:Ty.d aB):rn (E k) Tryz.f208 (C k) (a0,())=f k a0:=by kernel_rfl
theorem ctr (k:Nat):Cp 208 (C k):=rc rfl [] (by kernel_rfl) Tryz.func208 (by kernel_rfl) rfl fun ⟨a0,_⟩ r h=>(eq k a0).trans h
end lB
namespace e_
def C (k:Nat):Cn:=⟨[.val a_,.val (.int .i64),.val (.slice aB),.val (.int .i64)],[a_,(.slice aA),(.int .i64)],true,false,fun x=>f k x.1 x.2.1 x.2.2.1 x.2.2.2.1⟩
def D (k:Nat):List Ce:=[q (aV.ctr k),q (eC.ctr k),q (lB.ctr k),q (bL.ctr k),q (d8.ctr k),q (cQ.ctr k),q (er.ctr k),q (d6.ctr k),q (aX.ctr k)]
def E (k:Nat):cD:=en (D k) [(6,[1,2,3,8,11,12,13,14,15,16])] 0 [] k
section
variable (k:Nat) (a0:Ty.d a_) (a1:Int) (a2:List (Ty.d aB)) (a3:Int)
def K0:Ex→St→Rs:=c_ (E k) (eK (E k) Tryz.f188 (C k) (a0,a1,a2,a3,())) [.blk 0,.code (at_ (bt 6 63) (body Tryz.f188))]
def V0 (n0:Nat):T0:=fun x0 x1 x2 x3 x4 x5 x6 x7 x8 x9 x10 x11 x12 x13 x14 x15=>ao (bT (E k) (at_ (bt 9 95) (body Tryz.f188))) (ak 0 [1,2,3,8,11,12,13,14,15,16]) (K0 k a0 a1 a2 a3) n0 (mk 101 6 [(1,.int .i64 x0),(2,.sl true aB x1),(3,.int .i64 x2),(8,.ptr 0 0 0),(11,.ref 2),(12,.ptr 3 0 0),(13,.int .i64 x3),(14,.ref 5),(15,.int .i64 x4),(16,.int .i64 x5)] [(1,.own false aB x6),(0,.box [.ref 1,.int .i64 x7,.int .i64 x8,.bool x9]),(2,.own false aA x10),(4,.own false aB x11),(3,.box [.ref 4,.int .i64 x12,.int .i64 x13,.bool x14]),(5,.own false bP x15)])
theorem s0 (n0:Nat):V0 k a0 a1 a2 a3 (n0+1)=b0 k (V0 k a0 a1 a2 a3 n0):=by kernel_rfl
theorem e0:V0 k a0 a1 a2 a3=l0 k:=aT rfl (s0 k a0 a1 a2 a3) fun _=>rfl
end
theorem eq (k:Nat) (a0:Ty.d a_) (a1:Int) (a2:List (Ty.d aB)) (a3:Int):rn (E k) Tryz.f188 (C k) (a0,a1,a2,a3,())=f k a0 a1 a2 a3:=(show _=t k (V0 k a0 a1 a2 a3 k) a0 a1 a2 a3 by kernel_rfl).trans (by rw [e0];rfl)
theorem ctr (k:Nat):Cp 188 (C k):=rc rfl (D k) (by kernel_rfl) Tryz.func188 (by kernel_rfl) rfl fun ⟨a0,a1,a2,a3,_⟩ r h=>(eq k a0 a1 a2 a3).trans h
end e_
namespace cE
def C (k:Nat):Cn:=⟨[.give a_,.val (.slice .str)],[a_,(.int .i64)],true,false,fun x=>f k x.1 x.2.1⟩
def D (k:Nat):List Ce:=[q (bS.ctr k),q (fL.ctr k)]
def E (k:Nat):cD:=en (D k) [(2,[1,2,4,6])] 0 [] k
section
variable (k:Nat) (a0:Ty.d a_) (a1:List ByteArray)
def K0:Ex→St→Rs:=c_ (E k) (eK (E k) Tryz.f190 (C k) (a0,a1,())) [.blk 0,.code (at_ (bt 2 3) (body Tryz.f190))]
def V0 (n0:Nat):T0:=fun x0 x1 x2 x3 x4 x5 x6 x7 x8 x9=>ao (bT (E k) (at_ (bt 5 5) (body Tryz.f190))) (ak 0 [1,2,4,6]) (K0 k a0 a1) n0 (mk 37 4 [(1,.sl true .str x0),(2,.ptr 0 0 0),(4,.ptr 2 0 0),(6,.int .i64 x1)] [(1,.own false aB x2),(0,.box [.ref 1,.int .i64 x3,.int .i64 x4,.bool x5]),(3,.own false aB x6),(2,.box [.ref 3,.int .i64 x7,.int .i64 x8,.bool x9])])
theorem s0 (n0:Nat):V0 k a0 a1 (n0+1)=b0 k (V0 k a0 a1 n0):=by kernel_rfl
theorem e0:V0 k a0 a1=l0 k:=aT rfl (s0 k a0 a1) fun _=>rfl
end
theorem eq (k:Nat) (a0:Ty.d a_) (a1:List ByteArray):rn (E k) Tryz.f190 (C k) (a0,a1,())=f k a0 a1:=(show _=t k (V0 k a0 a1 k) a0 a1 by kernel_rfl).trans (by rw [e0];rfl)
theorem ctr (k:Nat):Cp 190 (C k):=rc rfl (D k) (by kernel_rfl) Tryz.func190 (by kernel_rfl) rfl fun ⟨a0,a1,_⟩ r h=>(eq k a0 a1).trans h
end cE
namespace dr
def C (k:Nat):Cn:=⟨[.give aG,.give a_,.val (.int .i64),.val (.int .i64)],[aG,a_,(.int .i64)],true,false,fun x=>f k x.1 x.2.1 x.2.2.1 x.2.2.2.1⟩
def D (k:Nat):List Ce:=[q (aV.ctr k),q (bv.ctr k),q (cE.ctr k),q (aX.ctr k)]
def E (k:Nat):cD:=en (D k) [] 0 [] k
theorem eq (k:Nat) (a0:Ty.d aG) (a1:Ty.d a_) (a2:Int) (a3:Int):rn (E k) Tryz.f189 (C k) (a0,a1,a2,a3,())=f k a0 a1 a2 a3:=by kernel_rfl
theorem ctr (k:Nat):Cp 189 (C k):=rc rfl (D k) (by kernel_rfl) Tryz.func189 (by kernel_rfl) rfl fun ⟨a0,a1,a2,a3,_⟩ r h=>(eq k a0 a1 a2 a3).trans h
end dr
namespace cA
def C (k:Nat):Cn:=⟨[.give aG,.val a_,.val (.slice aB)],[aG,a_,(.int .i64)],true,false,fun x=>f k x.1 x.2.1 x.2.2.1⟩
def D (k:Nat):List Ce:=[q (e_.ctr k),q (dr.ctr k),q (aV.ctr k),q (eC.ctr k),q (aX.ctr k),q (bu.ctr k),q (d5.ctr k),q (bv.ctr k),q (cN.ctr k),q (iD.ctr k),q (cE.ctr k),q (fE.ctr k)]
def E (k:Nat):cD:=en (D k) [(26,[3,6,7,10,18,20])] 0 [] k
section
variable (k:Nat) (a0:Ty.d aG) (a1:Ty.d a_) (a2:List (Ty.d aB))
def K0:Ex→St→Rs:=c_ (E k) (eK (E k) Tryz.f153 (C k) (a0,a1,a2,())) [.blk 0,.code (at_ (bt 21 2097151) (body Tryz.f153))]
def V0 (n0:Nat):T0:=fun x0 x1 x2 x3 x4 x5 x6 x7 x8 x9 x10 x11 x12 x13 x14 x15 x16 x17 x18 x19 x20 x21=>ao (bT (E k) (at_ (bt 24 3145727) (body Tryz.f153))) (ak 0 [3,6,7,10,18,20]) (K0 k a0 a1 a2) n0 (mk 170 11 [(3,.ptr 0 0 0),(6,.ptr 3 0 0),(7,.ptr 6 0 0),(10,.ptr 8 0 0),(18,.ref 10),(20,.int .i64 x0)] [(1,.own false (.int .i64) x1),(2,.own false aA x2),(0,.box [.int .i64 x3,.ref 1,.ref 2,.int .i64 x4,.int .i64 x5,.int .i64 x6]),(4,.own false (.int .i64) x7),(5,.own false aA x8),(3,.box [.int .i64 x9,.ref 4,.ref 5,.int .i64 x10,.int .i64 x11,.int .i64 x12]),(7,.own false aB x13),(6,.box [.ref 7,.int .i64 x14,.int .i64 x15,.bool x16]),(9,.own false aB x17),(8,.box [.ref 9,.int .i64 x18,.int .i64 x19,.bool x20]),(10,.own false (.int .i64) x21)])
theorem s0 (n0:Nat):V0 k a0 a1 a2 (n0+1)=b0 k (V0 k a0 a1 a2 n0):=by kernel_rfl
theorem e0:V0 k a0 a1 a2=l0 k:=aT rfl (s0 k a0 a1 a2) fun _=>rfl
end
theorem eq (k:Nat) (a0:Ty.d aG) (a1:Ty.d a_) (a2:List (Ty.d aB)):rn (E k) Tryz.f153 (C k) (a0,a1,a2,())=f k a0 a1 a2:=(show _=t k (V0 k a0 a1 a2 k) a0 a1 a2 by kernel_rfl).trans (by rw [e0];rfl)
theorem ctr (k:Nat):Cp 153 (C k):=rc rfl (D k) (by kernel_rfl) Tryz.func153 (by kernel_rfl) rfl fun ⟨a0,a1,a2,_⟩ r h=>(eq k a0 a1 a2).trans h
end cA
namespace kB
def C (k:Nat):Cn:=⟨[.val aG,.val a_],[aG,a_,(.int .i64)],true,false,fun x=>f k x.1 x.2.1⟩
def D (k:Nat):List Ce:=[q (fb.ctr k),q (cI.ctr k),q (cL.ctr k),q (gu.ctr k),q (cA.ctr k)]
def E (k:Nat):cD:=en (D k) [] 0 [] k
theorem eq (k:Nat) (a0:Ty.d aG) (a1:Ty.d a_):rn (E k) Tryz.f110 (C k) (a0,a1,())=f k a0 a1:=by kernel_rfl
theorem ctr (k:Nat):Cp 110 (C k):=rc rfl (D k) (by kernel_rfl) Tryz.func110 (by kernel_rfl) rfl fun ⟨a0,a1,_⟩ r h=>(eq k a0 a1).trans h
end kB
namespace fF
def C (k:Nat):Cn:=⟨[.io false ag],[(.slice gZ)],true,true,fun x=>f k x.1⟩
def D (k:Nat):List Ce:=[q (aI.ctr k),q (eP.ctr k),q (bE.ctr k),q (bD.ctr k)]
def E (k:Nat):cD:=en (D k) [(3,[0,3,4])] 1 [] k
section
variable (k:Nat) (a0:Ty.d ag)
def K0:Ex→St→Rs:=c_ (E k) (eK (E k) Tryz.f112 (C k) (a0,())) [.blk 0,.code (at_ (bt 3 7) (body Tryz.f112))]
def V0 (n0:Nat):T0:=fun x0 x1 x2 x3 x4=>ao (bT (E k) (at_ (bt 6 11) (body Tryz.f112))) (ak 1 [0,3,4]) (K0 k a0) n0 (mk 28 2 [(0,.ptr 0 0 0),(3,.ref 1),(4,.int .i64 x0)] [(0,.box [.sl true (.int .u8) x1,.int .i64 x2,.int .i64 x3]),(1,.own false gZ x4)])
theorem s0 (n0:Nat):V0 k a0 (n0+1)=b0 k (V0 k a0 n0):=by kernel_rfl
theorem e0:V0 k a0=l0 k:=aT rfl (s0 k a0) fun _=>rfl
end
theorem eq (k:Nat) (a0:Ty.d ag):rn (E k) Tryz.f112 (C k) (a0,())=f k a0:=(show _=t k (V0 k a0 k) a0 by kernel_rfl).trans (by rw [e0];rfl)
theorem ctr (k:Nat):Cp 112 (C k):=rc rfl (D k) (by kernel_rfl) Tryz.func112 (by kernel_rfl) rfl fun ⟨a0,_⟩ r h=>(eq k a0).trans h
end fF
namespace fO
def C (k:Nat):Cn:=⟨[.val (.slice gZ)],[.bool],true,false,fun x=>f k x.1⟩
def D (k:Nat):List Ce:=[q (eO.ctr k)]
def E (k:Nat):cD:=en (D k) [(4,[0,3])] 0 [] k
section
variable (k:Nat) (a0:List (Ty.d gZ))
def K0:Ex→St→Rs:=c_ (E k) (eK (E k) Tryz.f154 (C k) (a0,())) [.blk 0,.code (at_ (bt 3 7) (body Tryz.f154))]
def V0 (n0:Nat):T0:=fun x0 x1=>ao (bT (E k) (at_ (bt 6 11) (body Tryz.f154))) (ak 0 [0,3]) (K0 k a0) n0 (mk 44 0 [(0,.sl true gZ x0),(3,.int .i64 x1)] [])
theorem s0 (n0:Nat):V0 k a0 (n0+1)=b0 k (V0 k a0 n0):=by kernel_rfl
theorem e0:V0 k a0=l0 k:=aT rfl (s0 k a0) fun _=>rfl
end
theorem eq (k:Nat) (a0:List (Ty.d gZ)):rn (E k) Tryz.f154 (C k) (a0,())=f k a0:=(show _=t k (V0 k a0 k) a0 by kernel_rfl).trans (by rw [e0];rfl)
theorem ctr (k:Nat):Cp 154 (C k):=rc rfl (D k) (by kernel_rfl) Tryz.func154 (by kernel_rfl) rfl fun ⟨a0,_⟩ r h=>(eq k a0).trans h
end fO
namespace dI
def C (k:Nat):Cn:=⟨[.val (.slice aA),.val (.slice gZ)],[(.int .i64)],true,false,fun x=>f k x.1 x.2.1⟩
def D (k:Nat):List Ce:=[q (dD.ctr k),q (br.ctr k)]
def E (k:Nat):cD:=en (D k) [(2,[0,1,5])] 0 [] k
section
variable (k:Nat) (a0:List (Ty.d aA)) (a1:List (Ty.d gZ))
def K0:Ex→St→Rs:=c_ (E k) (eK (E k) Tryz.f155 (C k) (a0,a1,())) [.blk 0,.code (at_ (bt 2 3) (body Tryz.f155))]
def V0 (n0:Nat):T0:=fun x0 x1 x2=>ao (bT (E k) (at_ (bt 5 5) (body Tryz.f155))) (ak 0 [0,1,5]) (K0 k a0 a1) n0 (mk 34 0 [(0,.sl true aA x0),(1,.sl true gZ x1),(5,.int .i64 x2)] [])
def V1 (n0:Nat):T1:=fun x0 x1 x2=>ao (bT (E k) (at_ (bt 5 5) (body Tryz.f155))) (ak 0 [0,1,5]) (K0 k a0 a1) n0 (mk 34 1 [(0,.ref 0),(1,.sl true gZ x0),(5,.int .i64 x1)] [(0,.own false aA x2)])
theorem s0 (n0:Nat):V0 k a0 a1 (n0+1)=b0 k (V1 k a0 a1 n0):=by kernel_rfl
theorem s1 (n0:Nat):V1 k a0 a1 (n0+1)=b1 k (V1 k a0 a1 n0):=by kernel_rfl
theorem e1:V1 k a0 a1=l1 k:=aT rfl (s1 k a0 a1) fun _=>rfl
theorem e0 (n0:Nat):V0 k a0 a1 n0=l0 k n0:=by
 induction n0 with
 | zero=>rfl
 | succ n0 ih =>
  have h:V0 k a0 a1 (n0+1)=b0 k (V1 k a0 a1 n0):=s0 k a0 a1 n0
  rw [h,e1]
  rfl
end
theorem eq (k:Nat) (a0:List (Ty.d aA)) (a1:List (Ty.d gZ)):rn (E k) Tryz.f155 (C k) (a0,a1,())=f k a0 a1:=(show _=t k (V0 k a0 a1 k) a0 a1 by kernel_rfl).trans (by rw [e0];rfl)
theorem ctr (k:Nat):Cp 155 (C k):=rc rfl (D k) (by kernel_rfl) Tryz.func155 (by kernel_rfl) rfl fun ⟨a0,a1,_⟩ r h=>(eq k a0 a1).trans h
end dI
namespace dC
def C (k:Nat):Cn:=⟨[.val aG],[.str],true,false,fun x=>f k x.1⟩
def D (k:Nat):List Ce:=[q (aV.ctr k)]
def E (k:Nat):cD:=en (D k) [] 0 [] k
theorem eq (k:Nat) (a0:Ty.d aG):rn (E k) Tryz.f192 (C k) (a0,())=f k a0:=by kernel_rfl
theorem ctr (k:Nat):Cp 192 (C k):=rc rfl (D k) (by kernel_rfl) Tryz.func192 (by kernel_rfl) rfl fun ⟨a0,_⟩ r h=>(eq k a0).trans h
end dC
namespace fo
def C (k:Nat):Cn:=⟨[.give aG,.give a_],[aG,a_,(.int .i64)],true,false,fun x=>f k x.1 x.2.1⟩
def D (k:Nat):List Ce:=[q (dC.ctr k),q (d6.ctr k),q (aX.ctr k),q (aV.ctr k),q (eC.ctr k),q (fE.ctr k),q (cE.ctr k)]
def E (k:Nat):cD:=en (D k) [] 0 [] k
theorem eq (k:Nat) (a0:Ty.d aG) (a1:Ty.d a_):rn (E k) Tryz.f209 (C k) (a0,a1,())=f k a0 a1:=by kernel_rfl
theorem ctr (k:Nat):Cp 209 (C k):=rc rfl (D k) (by kernel_rfl) Tryz.func209 (by kernel_rfl) rfl fun ⟨a0,a1,_⟩ r h=>(eq k a0 a1).trans h
end fo
namespace eX
def C (k:Nat):Cn:=⟨[.give aG,.give a_,.val bP],[aG,a_,aD,(.int .i64)],true,false,fun x=>f k x.1 x.2.1 x.2.2.1⟩
def D (k:Nat):List Ce:=[q (bL.ctr k),q (d8.ctr k),q (fo.ctr k),q (dC.ctr k),q (cQ.ctr k),q (aX.ctr k)]
def E (k:Nat):cD:=en (D k) [] 0 [] k
theorem eq (k:Nat) (a0:Ty.d aG) (a1:Ty.d a_) (a2:Ty.d bP):rn (E k) Tryz.f191 (C k) (a0,a1,a2,())=f k a0 a1 a2:=by kernel_rfl
theorem ctr (k:Nat):Cp 191 (C k):=rc rfl (D k) (by kernel_rfl) Tryz.func191 (by kernel_rfl) rfl fun ⟨a0,a1,a2,_⟩ r h=>(eq k a0 a1 a2).trans h
end eX
namespace bf
def C (k:Nat):Cn:=⟨[.give aG,.give a_,.give (.slice gZ)],[aG,a_,(.int .i64)],true,false,fun x=>f k x.1 x.2.1 x.2.2.1⟩
def D (k:Nat):List Ce:=[q (eX.ctr k),q (iR.ctr k),q (er.ctr k),q (dC.ctr k),q (d6.ctr k),q (aX.ctr k)]
def E (k:Nat):cD:=en (D k) [(6,[2,3,4,6,7,9,10,11,12])] 0 [] k
section
variable (k:Nat) (a0:Ty.d aG) (a1:Ty.d a_) (a2:List (Ty.d gZ))
def K0:Ex→St→Rs:=c_ (E k) (eK (E k) Tryz.f156 (C k) (a0,a1,a2,())) [.blk 0,.code (at_ (bt 6 63) (body Tryz.f156))]
def V0 (n0:Nat):T0:=fun x0 x1 x2 x3 x4 x5 x6 x7 x8 x9 x10 x11 x12 x13 x14 x15 x16 x17 x18 x19 x20 x21 x22 x23 x24=>ao (bT (E k) (at_ (bt 9 95) (body Tryz.f156))) (ak 0 [2,3,4,6,7,9,10,11,12]) (K0 k a0 a1 a2) n0 (mk 111 13 [(2,.ref 0),(3,.ptr 1 0 0),(4,.ptr 4 0 0),(6,.ptr 6 0 0),(7,.ptr 9 0 0),(9,.int .i64 x0),(10,.ref 11),(11,.ref 12),(12,.int .i64 x1)] [(0,.own false gZ x2),(2,.own false (.int .i64) x3),(3,.own false aA x4),(1,.box [.int .i64 x5,.ref 2,.ref 3,.int .i64 x6,.int .i64 x7,.int .i64 x8]),(5,.own false aB x9),(4,.box [.ref 5,.int .i64 x10,.int .i64 x11,.bool x12]),(7,.own false (.int .i64) x13),(8,.own false aA x14),(6,.box [.int .i64 x15,.ref 7,.ref 8,.int .i64 x16,.int .i64 x17,.int .i64 x18]),(10,.own false aB x19),(9,.box [.ref 10,.int .i64 x20,.int .i64 x21,.bool x22]),(11,.own false bP x23),(12,.own false aA x24)])
theorem s0 (n0:Nat):V0 k a0 a1 a2 (n0+1)=b0 k (V0 k a0 a1 a2 n0):=by kernel_rfl
theorem e0:V0 k a0 a1 a2=l0 k:=aT rfl (s0 k a0 a1 a2) fun _=>rfl
end
theorem eq (k:Nat) (a0:Ty.d aG) (a1:Ty.d a_) (a2:List (Ty.d gZ)):rn (E k) Tryz.f156 (C k) (a0,a1,a2,())=f k a0 a1 a2:=(show _=t k (V0 k a0 a1 a2 k) a0 a1 a2 by kernel_rfl).trans (by rw [e0];rfl)
theorem ctr (k:Nat):Cp 156 (C k):=rc rfl (D k) (by kernel_rfl) Tryz.func156 (by kernel_rfl) rfl fun ⟨a0,a1,a2,_⟩ r h=>(eq k a0 a1 a2).trans h
end bf
namespace gU
def C (k:Nat):Cn:=⟨[.val aG,.val a_,.give (.slice gZ)],[aG,a_,(.int .i64)],true,false,fun x=>f k x.1 x.2.1 x.2.2.1⟩
def D (k:Nat):List Ce:=[q (fb.ctr k),q (cI.ctr k),q (cL.ctr k),q (fO.ctr k),q (dI.ctr k),q (bf.ctr k)]
def E (k:Nat):cD:=en (D k) [] 0 [] k
theorem eq (k:Nat) (a0:Ty.d aG) (a1:Ty.d a_) (a2:List (Ty.d gZ)):rn (E k) Tryz.f111 (C k) (a0,a1,a2,())=f k a0 a1 a2:=by kernel_rfl
theorem ctr (k:Nat):Cp 111 (C k):=rc rfl (D k) (by kernel_rfl) Tryz.func111 (by kernel_rfl) rfl fun ⟨a0,a1,a2,_⟩ r h=>(eq k a0 a1 a2).trans h
end gU
namespace cB
def C (k:Nat):Cn:=⟨[.io false ag],[aG,a_],false,true,fun x=>f k x.1⟩
def D (k:Nat):List Ce:=[q (cG.ctr k),q (eR.ctr k),q (bd.ctr k),q (aI.ctr k),q (bD.ctr k),q (kB.ctr k),q (fF.ctr k),q (gU.ctr k)]
def E (k:Nat):cD:=en (D k) [(3,[0,2,3,4,5,7])] 1 [] k
section
variable (k:Nat) (a0:Ty.d ag)
def K0:Ex→St→Rs:=c_ (E k) (eK (E k) Tryz.f62 (C k) (a0,())) [.blk 0,.code (at_ (bt 3 7) (body Tryz.f62))]
def V0 (n0:Nat):T0:=fun x0 x1 x2 x3 x4 x5 x6 x7 x8 x9 x10 x11 x12 x13 x14 x15 x16 x17 x18 x19 x20 x21 x22 x23=>ao (bT (E k) (at_ (bt 6 11) (body Tryz.f62))) (ak 1 [0,2,3,4,5,7]) (K0 k a0) n0 (mk 60 8 [(0,.ptr 0 0 0),(2,.ptr 1 0 0),(3,.ptr 4 0 0),(4,.ptr 6 0 0),(5,.ptr 7 0 0),(7,.int .i64 x0)] [(0,.box [.sl true (.int .u8) x1,.int .i64 x2,.int .i64 x3]),(2,.own false (.int .i64) x4),(3,.own false aA x5),(1,.box [.int .i64 x6,.ref 2,.ref 3,.int .i64 x7,.int .i64 x8,.int .i64 x9]),(5,.own false aB x10),(4,.box [.ref 5,.int .i64 x11,.int .i64 x12,.bool x13]),(6,.box [.int .i64 x14,.sl true (.int .i64) x15,.sl true aA x16,.int .i64 x17,.int .i64 x18,.int .i64 x19]),(7,.box [.sl true aB x20,.int .i64 x21,.int .i64 x22,.bool x23])])
def V1 (n0:Nat):T1:=fun x0 x1 x2 x3 x4 x5 x6 x7 x8 x9 x10 x11 x12 x13 x14 x15 x16 x17 x18 x19 x20 x21 x22 x23=>ao (bT (E k) (at_ (bt 6 11) (body Tryz.f62))) (ak 1 [0,2,3,4,5,7]) (K0 k a0) n0 (mk 60 11 [(0,.ptr 0 0 0),(2,.ptr 1 0 0),(3,.ptr 4 0 0),(4,.ptr 6 0 0),(5,.ptr 9 0 0),(7,.int .i64 x0)] [(0,.box [.sl true (.int .u8) x1,.int .i64 x2,.int .i64 x3]),(2,.own false (.int .i64) x4),(3,.own false aA x5),(1,.box [.int .i64 x6,.ref 2,.ref 3,.int .i64 x7,.int .i64 x8,.int .i64 x9]),(5,.own false aB x10),(4,.box [.ref 5,.int .i64 x11,.int .i64 x12,.bool x13]),(7,.own false (.int .i64) x14),(8,.own false aA x15),(6,.box [.int .i64 x16,.ref 7,.ref 8,.int .i64 x17,.int .i64 x18,.int .i64 x19]),(10,.own false aB x20),(9,.box [.ref 10,.int .i64 x21,.int .i64 x22,.bool x23])])
theorem s0 (n0:Nat):V0 k a0 (n0+1)=b0 k (V1 k a0 n0):=by kernel_rfl
theorem s1 (n0:Nat):V1 k a0 (n0+1)=b1 k (V1 k a0 n0):=by kernel_rfl
theorem e1:V1 k a0=l1 k:=aT rfl (s1 k a0) fun _=>rfl
theorem e0 (n0:Nat):V0 k a0 n0=l0 k n0:=by
 induction n0 with
 | zero=>rfl
 | succ n0 ih =>
  have h:V0 k a0 (n0+1)=b0 k (V1 k a0 n0):=s0 k a0 n0
  rw [h,e1]
  rfl
end
theorem eq (k:Nat) (a0:Ty.d ag):rn (E k) Tryz.f62 (C k) (a0,())=f k a0:=(show _=t k (V0 k a0 k) a0 by kernel_rfl).trans (by rw [e0];rfl)
theorem ctr (k:Nat):Cp 62 (C k):=rc rfl (D k) (by kernel_rfl) Tryz.func62 (by kernel_rfl) rfl fun ⟨a0,_⟩ r h=>(eq k a0).trans h
end cB
namespace jQ
def C (k:Nat):Cn:=⟨[.io false ag],[aA],true,true,fun x=>f k x.1⟩
def D (k:Nat):List Ce:=[q (eP.ctr k),q (aI.ctr k)]
def E (k:Nat):cD:=en (D k) [] 1 [] k
theorem eq (k:Nat) (a0:Ty.d ag):rn (E k) Tryz.f114 (C k) (a0,())=f k a0:=by kernel_rfl
theorem ctr (k:Nat):Cp 114 (C k):=rc rfl (D k) (by kernel_rfl) Tryz.func114 (by kernel_rfl) rfl fun ⟨a0,_⟩ r h=>(eq k a0).trans h
end jQ
namespace gq
def C (k:Nat):Cn:=⟨[.io false ag],[(.slice aA)],true,true,fun x=>f k x.1⟩
def D (k:Nat):List Ce:=[q (aI.ctr k),q (jQ.ctr k),q (br.ctr k),q (bD.ctr k),q (eM.ctr k),q (cG.ctr k)]
def E (k:Nat):cD:=en (D k) [(3,[0,3,4])] 1 [] k
section
variable (k:Nat) (a0:Ty.d ag)
def K0:Ex→St→Rs:=c_ (E k) (eK (E k) Tryz.f63 (C k) (a0,())) [.blk 0,.code (at_ (bt 3 7) (body Tryz.f63))]
def V0 (n0:Nat):T0:=fun x0 x1 x2 x3 x4=>ao (bT (E k) (at_ (bt 6 11) (body Tryz.f63))) (ak 1 [0,3,4]) (K0 k a0) n0 (mk 62 2 [(0,.ptr 0 0 0),(3,.ref 1),(4,.int .i64 x0)] [(0,.box [.sl true (.int .u8) x1,.int .i64 x2,.int .i64 x3]),(1,.own false aA x4)])
theorem s0 (n0:Nat):V0 k a0 (n0+1)=b0 k (V0 k a0 n0):=by kernel_rfl
theorem e0:V0 k a0=l0 k:=aT rfl (s0 k a0) fun _=>rfl
end
theorem eq (k:Nat) (a0:Ty.d ag):rn (E k) Tryz.f63 (C k) (a0,())=f k a0:=(show _=t k (V0 k a0 k) a0 by kernel_rfl).trans (by rw [e0];rfl)
theorem ctr (k:Nat):Cp 63 (C k):=rc rfl (D k) (by kernel_rfl) Tryz.func63 (by kernel_rfl) rfl fun ⟨a0,_⟩ r h=>(eq k a0).trans h
end gq
namespace gJ
def C (k:Nat):Cn:=⟨[.io false ag],[.str],true,true,fun x=>f k x.1⟩
def D (k:Nat):List Ce:=[q (eM.ctr k)]
def E (k:Nat):cD:=en (D k) [] 1 [] k
theorem eq (k:Nat) (a0:Ty.d ag):rn (E k) Tryz.f157 (C k) (a0,())=f k a0:=by kernel_rfl
theorem ctr (k:Nat):Cp 157 (C k):=rc rfl (D k) (by kernel_rfl) Tryz.func157 (by kernel_rfl) rfl fun ⟨a0,_⟩ r h=>(eq k a0).trans h
end gJ
namespace eD
def C (k:Nat):Cn:=⟨[.io false ag],[a_],true,true,fun x=>f k x.1⟩
def D (k:Nat):List Ce:=[q (eR.ctr k),q (aI.ctr k),q (gJ.ctr k),q (eG.ctr k),q (bE.ctr k),q (cQ.ctr k),q (d6.ctr k),q (fk.ctr k)]
def E (k:Nat):cD:=en (D k) [(3,[0,2,3,4])] 1 [] k
section
variable (k:Nat) (a0:Ty.d ag)
def K0:Ex→St→Rs:=c_ (E k) (eK (E k) Tryz.f116 (C k) (a0,())) [.blk 0,.code (at_ (bt 3 7) (body Tryz.f116))]
def V0 (n0:Nat):T0:=fun x0 x1 x2 x3 x4 x5 x6 x7 x8 x9 x10 x11=>ao (bT (E k) (at_ (bt 6 11) (body Tryz.f116))) (ak 1 [0,2,3,4]) (K0 k a0) n0 (mk 57 5 [(0,.ptr 0 0 0),(2,.ptr 1 0 0),(3,.ptr 3 0 0),(4,.int .i64 x0)] [(0,.box [.sl true (.int .u8) x1,.int .i64 x2,.int .i64 x3]),(2,.own false aB x4),(1,.box [.ref 2,.int .i64 x5,.int .i64 x6,.bool x7]),(4,.own false aB x8),(3,.box [.ref 4,.int .i64 x9,.int .i64 x10,.bool x11])])
theorem s0 (n0:Nat):V0 k a0 (n0+1)=b0 k (V0 k a0 n0):=by kernel_rfl
theorem e0:V0 k a0=l0 k:=aT rfl (s0 k a0) fun _=>rfl
end
theorem eq (k:Nat) (a0:Ty.d ag):rn (E k) Tryz.f116 (C k) (a0,())=f k a0:=(show _=t k (V0 k a0 k) a0 by kernel_rfl).trans (by rw [e0];rfl)
theorem ctr (k:Nat):Cp 116 (C k):=rc rfl (D k) (by kernel_rfl) Tryz.func116 (by kernel_rfl) rfl fun ⟨a0,_⟩ r h=>(eq k a0).trans h
end eD
namespace gy
def C (k:Nat):Cn:=⟨[.io false ag],[a_],true,true,fun x=>f k x.1⟩
def D (k:Nat):List Ce:=[q (eD.ctr k),q (aI.ctr k),q (cG.ctr k),q (dl.ctr k),q (eM.ctr k),q (da.ctr k)]
def E (k:Nat):cD:=en (D k) [(17,[0,2,3,4])] 1 [] k
section
variable (k:Nat) (a0:Ty.d ag)
def K0:Ex→St→Rs:=c_ (E k) (eK (E k) Tryz.f65 (C k) (a0,())) [.blk 1,.blk 0,.code (at_ (bt 3 7) (body Tryz.f65))]
def V0 (n0:Nat):T0:=fun x0 x1 x2 x3 x4 x5 x6 x7 x8 x9 x10 x11=>ao (bT (E k) (at_ (bt 20 196587) (body Tryz.f65))) (ak 1 [0,2,3,4]) (K0 k a0) n0 (mk 81 5 [(0,.ptr 0 0 0),(2,.ptr 1 0 0),(3,.ptr 3 0 0),(4,.int .i64 x0)] [(0,.box [.sl true (.int .u8) x1,.int .i64 x2,.int .i64 x3]),(2,.own false aB x4),(1,.box [.ref 2,.int .i64 x5,.int .i64 x6,.bool x7]),(4,.own false aB x8),(3,.box [.ref 4,.int .i64 x9,.int .i64 x10,.bool x11])])
theorem s0 (n0:Nat):V0 k a0 (n0+1)=b0 k (V0 k a0 n0):=by kernel_rfl
theorem e0:V0 k a0=l0 k:=aT rfl (s0 k a0) fun _=>rfl
end
theorem eq (k:Nat) (a0:Ty.d ag):rn (E k) Tryz.f65 (C k) (a0,())=f k a0:=(show _=t k (V0 k a0 k) a0 by kernel_rfl).trans (by rw [e0];rfl)
theorem ctr (k:Nat):Cp 65 (C k):=rc rfl (D k) (by kernel_rfl) Tryz.func65 (by kernel_rfl) rfl fun ⟨a0,_⟩ r h=>(eq k a0).trans h
end gy
namespace jz
def C (k:Nat):Cn:=⟨[.io false ag],[aG,a_],false,true,fun x=>f k x.1⟩
def D (k:Nat):List Ce:=[q (cB.ctr k),q (aI.ctr k),q (gq.ctr k),q (cG.ctr k),q (gy.ctr k)]
def E (k:Nat):cD:=en (D k) [] 1 [] k
theorem eq (k:Nat) (a0:Ty.d ag):rn (E k) Tryz.f19 (C k) (a0,())=f k a0:=by kernel_rfl
theorem ctr (k:Nat):Cp 19 (C k):=rc rfl (D k) (by kernel_rfl) Tryz.func19 (by kernel_rfl) rfl fun ⟨a0,_⟩ r h=>(eq k a0).trans h
end jz
namespace fC
def C (k:Nat):Cn:=⟨[.io false ag],[(.slice (.int .i64))],true,true,fun x=>f k x.1⟩
def D (k:Nat):List Ce:=[q (aI.ctr k),q (cG.ctr k)]
def E (k:Nat):cD:=en (D k) [(3,[0,3,4])] 1 [] k
section
variable (k:Nat) (a0:Ty.d ag)
def K0:Ex→St→Rs:=c_ (E k) (eK (E k) Tryz.f20 (C k) (a0,())) [.blk 0,.code (at_ (bt 3 7) (body Tryz.f20))]
def V0 (n0:Nat):T0:=fun x0 x1 x2 x3 x4=>ao (bT (E k) (at_ (bt 6 11) (body Tryz.f20))) (ak 1 [0,3,4]) (K0 k a0) n0 (mk 21 2 [(0,.ptr 0 0 0),(3,.ref 1),(4,.int .i64 x0)] [(0,.box [.sl true (.int .u8) x1,.int .i64 x2,.int .i64 x3]),(1,.own false (.int .i64) x4)])
theorem s0 (n0:Nat):V0 k a0 (n0+1)=b0 k (V0 k a0 n0):=by kernel_rfl
theorem e0:V0 k a0=l0 k:=aT rfl (s0 k a0) fun _=>rfl
end
theorem eq (k:Nat) (a0:Ty.d ag):rn (E k) Tryz.f20 (C k) (a0,())=f k a0:=(show _=t k (V0 k a0 k) a0 by kernel_rfl).trans (by rw [e0];rfl)
theorem ctr (k:Nat):Cp 20 (C k):=rc rfl (D k) (by kernel_rfl) Tryz.func20 (by kernel_rfl) rfl fun ⟨a0,_⟩ r h=>(eq k a0).trans h
end fC
namespace fp
def C (k:Nat):Cn:=⟨[.val (.slice (.int .u8))],[a_,(.slice (.int .i64))],false,true,fun x=>f k x.1⟩
def D (k:Nat):List Ce:=[q (gT.ctr k),q (bx.ctr k),q (bD.ctr k),q (jz.ctr k),q (fC.ctr k)]
def E (k:Nat):cD:=en (D k) [] 0 [] k
theorem eq (k:Nat) (a0:List Int):rn (E k) Tryz.f5 (C k) (a0,())=f k a0:=by kernel_rfl
theorem ctr (k:Nat):Cp 5 (C k):=rc rfl (D k) (by kernel_rfl) Tryz.func5 (by kernel_rfl) rfl fun ⟨a0,_⟩ r h=>(eq k a0).trans h
end fp
namespace fP
def C (k:Nat):Cn:=⟨[.val a_,.val (.slice (.int .i64))],[a_],true,false,fun x=>f k x.1 x.2.1⟩
def D (k:Nat):List Ce:=[q (cI.ctr k),q (bh.ctr k)]
def E (k:Nat):cD:=en (D k) [(5,[1,4,5,6])] 0 [] k
section
variable (k:Nat) (a0:Ty.d a_) (a1:List Int)
def K0:Ex→St→Rs:=c_ (E k) (eK (E k) Tryz.f7 (C k) (a0,a1,())) [.blk 0,.code (at_ (bt 4 15) (body Tryz.f7))]
def V0 (n0:Nat):T0:=fun x0 x1 x2 x3 x4 x5 x6 x7 x8 x9=>ao (bT (E k) (at_ (bt 7 23) (body Tryz.f7))) (ak 0 [1,4,5,6]) (K0 k a0 a1) n0 (mk 75 4 [(1,.sl true (.int .i64) x0),(4,.ptr 0 0 0),(5,.ptr 2 0 0),(6,.int .i64 x1)] [(1,.own false aB x2),(0,.box [.ref 1,.int .i64 x3,.int .i64 x4,.bool x5]),(3,.own false aB x6),(2,.box [.ref 3,.int .i64 x7,.int .i64 x8,.bool x9])])
theorem s0 (n0:Nat):V0 k a0 a1 (n0+1)=b0 k (V0 k a0 a1 n0):=by kernel_rfl
theorem e0:V0 k a0 a1=l0 k:=aT rfl (s0 k a0 a1) fun _=>rfl
end
theorem eq (k:Nat) (a0:Ty.d a_) (a1:List Int):rn (E k) Tryz.f7 (C k) (a0,a1,())=f k a0 a1:=(show _=t k (V0 k a0 a1 k) a0 a1 by kernel_rfl).trans (by rw [e0];rfl)
theorem ctr (k:Nat):Cp 7 (C k):=rc rfl (D k) (by kernel_rfl) Tryz.func7 (by kernel_rfl) rfl fun ⟨a0,a1,_⟩ r h=>(eq k a0 a1).trans h
end fP
namespace iJ
def C (k:Nat):Cn:=⟨[.val a_],[mL,(.int .i64)],false,true,fun x=>f k x.1⟩
def D (k:Nat):List Ce:=[q (bd.ctr k)]
def E (k:Nat):cD:=en (D k) [] 0 [] k
theorem eq (k:Nat) (a0:Ty.d a_):rn (E k) Tryz.f21 (C k) (a0,())=f k a0:=by kernel_rfl
theorem ctr (k:Nat):Cp 21 (C k):=rc rfl (D k) (by kernel_rfl) Tryz.func21 (by kernel_rfl) rfl fun ⟨a0,_⟩ r h=>(eq k a0).trans h
end iJ
namespace j5
def C (k:Nat):Cn:=⟨[.val mL],[(.slice aB),(.int .i64)],true,false,fun x=>f k x.1⟩
def D (k:Nat):List Ce:=[q (gu.ctr k)]
def E (k:Nat):cD:=en (D k) [] 0 [] k
theorem eq (k:Nat) (a0:Ty.d mL):rn (E k) Tryz.f22 (C k) (a0,())=f k a0:=by kernel_rfl
theorem ctr (k:Nat):Cp 22 (C k):=rc rfl (D k) (by kernel_rfl) Tryz.func22 (by kernel_rfl) rfl fun ⟨a0,_⟩ r h=>(eq k a0).trans h
end j5
namespace ik
def C (k:Nat):Cn:=⟨[.val a_,.val (.slice (.int .i64))],[(.slice aB),(.int .i64)],true,false,fun x=>f k x.1 x.2.1⟩
def D (k:Nat):List Ce:=[q (fP.ctr k),q (iJ.ctr k),q (j5.ctr k)]
def E (k:Nat):cD:=en (D k) [] 0 [] k
theorem eq (k:Nat) (a0:Ty.d a_) (a1:List Int):rn (E k) Tryz.f6 (C k) (a0,a1,())=f k a0 a1:=by kernel_rfl
theorem ctr (k:Nat):Cp 6 (C k):=rc rfl (D k) (by kernel_rfl) Tryz.func6 (by kernel_rfl) rfl fun ⟨a0,a1,_⟩ r h=>(eq k a0 a1).trans h
end ik
namespace bU
def C (k:Nat):Cn:=⟨[.val a_],[a_],true,false,fun x=>f k x.1⟩
def E (k:Nat):cD:=en [] [] 0 [] k
theorem eq (k:Nat) (a0:Ty.d a_):rn (E k) Tryz.f25 (C k) (a0,())=f k a0:=by kernel_rfl
theorem ctr (k:Nat):Cp 25 (C k):=rc rfl [] (by kernel_rfl) Tryz.func25 (by kernel_rfl) rfl fun ⟨a0,_⟩ r h=>(eq k a0).trans h
end bU
namespace au
def C (k:Nat):Cn:=⟨[.val (.int .i64),.val (.int .i64),.val (.int .i64)],[.bool],true,false,fun x=>f k x.1 x.2.1 x.2.2.1⟩
def E (k:Nat):cD:=en [] [] 0 [] k
theorem eq (k:Nat) (a0:Int) (a1:Int) (a2:Int):rn (E k) Tryz.f45 (C k) (a0,a1,a2,())=f k a0 a1 a2:=by kernel_rfl
theorem ctr (k:Nat):Cp 45 (C k):=rc rfl [] (by kernel_rfl) Tryz.func45 (by kernel_rfl) rfl fun ⟨a0,a1,a2,_⟩ r h=>(eq k a0 a1 a2).trans h
end au
namespace eI
def C (k:Nat):Cn:=⟨[.val .str],[.bool],true,false,fun x=>f k x.1⟩
def D (k:Nat):List Ce:=[q (au.ctr k)]
def E (k:Nat):cD:=en (D k) [(2,[0,3])] 0 [] k
section
variable (k:Nat) (a0:ByteArray)
def K0:Ex→St→Rs:=c_ (E k) (eK (E k) Tryz.f70 (C k) (a0,())) [.blk 0,.code (at_ (bt 2 3) (body Tryz.f70))]
def V0 (n0:Nat):T0:=fun x0 x1=>ao (bT (E k) (at_ (bt 5 5) (body Tryz.f70))) (ak 0 [0,3]) (K0 k a0) n0 (mk 37 0 [(0,.str x0),(3,.int .i64 x1)] [])
theorem s0 (n0:Nat):V0 k a0 (n0+1)=b0 k (V0 k a0 n0):=by kernel_rfl
theorem e0:V0 k a0=l0 k:=aT rfl (s0 k a0) fun _=>rfl
end
theorem eq (k:Nat) (a0:ByteArray):rn (E k) Tryz.f70 (C k) (a0,())=f k a0:=(show _=t k (V0 k a0 k) a0 by kernel_rfl).trans (by rw [e0];rfl)
theorem ctr (k:Nat):Cp 70 (C k):=rc rfl (D k) (by kernel_rfl) Tryz.func70 (by kernel_rfl) rfl fun ⟨a0,_⟩ r h=>(eq k a0).trans h
end eI
namespace bC
def C (k:Nat):Cn:=⟨[.val a_],[.bool],true,false,fun x=>f k x.1⟩
def D (k:Nat):List Ce:=[q (au.ctr k),q (eI.ctr k)]
def E (k:Nat):cD:=en (D k) [(5,[1,3,23,24,25])] 0 [] k
section
variable (k:Nat) (a0:Ty.d a_)
def K0:Ex→St→Rs:=c_ (E k) (eK (E k) Tryz.f26 (C k) (a0,())) [.blk 0,.code (at_ (bt 4 15) (body Tryz.f26))]
def V0 (n0:Nat):T0:=fun x0 x1 x2 x3 x4 x5 x6 x7=>ao (bT (E k) (at_ (bt 7 23) (body Tryz.f26))) (ak 0 [1,3,23,24,25]) (K0 k a0) n0 (mk 69 1 [(1,.ptr 0 0 0),(3,.int .i64 x0),(23,.sl true aB x1),(24,.int .i64 x2),(25,.int .i64 x3)] [(0,.box [.sl true aB x4,.int .i64 x5,.int .i64 x6,.bool x7])])
theorem s0 (n0:Nat):V0 k a0 (n0+1)=b0 k (V0 k a0 n0):=by kernel_rfl
theorem e0:V0 k a0=l0 k:=aT rfl (s0 k a0) fun _=>rfl
end
theorem eq (k:Nat) (a0:Ty.d a_):rn (E k) Tryz.f26 (C k) (a0,())=f k a0:=(show _=t k (V0 k a0 k) a0 by kernel_rfl).trans (by rw [e0];rfl)
theorem ctr (k:Nat):Cp 26 (C k):=rc rfl (D k) (by kernel_rfl) Tryz.func26 (by kernel_rfl) rfl fun ⟨a0,_⟩ r h=>(eq k a0).trans h
end bC
namespace bV
def C (k:Nat):Cn:=⟨[.val a_,.val .str],[(.int .i64)],true,false,fun x=>f k x.1 x.2.1⟩
def E (k:Nat):cD:=en [] [(2,[1,8,9,10])] 0 [] k
section
variable (k:Nat) (a0:Ty.d a_) (a1:ByteArray)
def K0:Ex→St→Rs:=c_ (E k) (eK (E k) Tryz.f71 (C k) (a0,a1,())) [.blk 0,.code (at_ (bt 2 3) (body Tryz.f71))]
def V0 (n0:Nat):T0:=fun x0 x1 x2 x3=>ao (bT (E k) (at_ (bt 5 5) (body Tryz.f71))) (ak 0 [1,8,9,10]) (K0 k a0 a1) n0 (mk 21 0 [(1,.str x0),(8,.sl true aB x1),(9,.int .i64 x2),(10,.int .i64 x3)] [])
theorem s0 (n0:Nat):V0 k a0 a1 (n0+1)=b0 k (V0 k a0 a1 n0):=by kernel_rfl
theorem e0:V0 k a0 a1=l0 k:=aT rfl (s0 k a0 a1) fun _=>rfl
end
theorem eq (k:Nat) (a0:Ty.d a_) (a1:ByteArray):rn (E k) Tryz.f71 (C k) (a0,a1,())=f k a0 a1:=(show _=t k (V0 k a0 a1 k) a0 a1 by kernel_rfl).trans (by rw [e0];rfl)
theorem ctr (k:Nat):Cp 71 (C k):=rc rfl [] (by kernel_rfl) Tryz.func71 (by kernel_rfl) rfl fun ⟨a0,a1,_⟩ r h=>(eq k a0 a1).trans h
end bV
namespace cy
def C (k:Nat):Cn:=⟨[.val a_,.val .str],[.str,.bool],true,false,fun x=>f k x.1 x.2.1⟩
def D (k:Nat):List Ce:=[q (bV.ctr k),q (bC.ctr k)]
def E (k:Nat):cD:=en (D k) [] 0 [] k
theorem eq (k:Nat) (a0:Ty.d a_) (a1:ByteArray):rn (E k) Tryz.f27 (C k) (a0,a1,())=f k a0 a1:=by kernel_rfl
theorem ctr (k:Nat):Cp 27 (C k):=rc rfl (D k) (by kernel_rfl) Tryz.func27 (by kernel_rfl) rfl fun ⟨a0,a1,_⟩ r h=>(eq k a0 a1).trans h
end cy
namespace cw
def C (k:Nat):Cn:=⟨[.val .str],[(.int .i64),(.int .i64)],true,false,fun x=>f k x.1⟩
def E (k:Nat):cD:=en [] [(3,[0,4,5])] 0 [] k
section
variable (k:Nat) (a0:ByteArray)
def K0:Ex→St→Rs:=c_ (E k) (eK (E k) Tryz.f161 (C k) (a0,())) [.blk 0,.code (at_ (bt 3 7) (body Tryz.f161))]
def V0 (n0:Nat):T0:=fun x0 x1 x2=>ao (bT (E k) (at_ (bt 6 11) (body Tryz.f161))) (ak 0 [0,4,5]) (K0 k a0) n0 (mk 39 0 [(0,.str x0),(4,.int .i64 x1),(5,.int .i64 x2)] [])
theorem s0 (n0:Nat):V0 k a0 (n0+1)=b0 k (V0 k a0 n0):=by kernel_rfl
theorem e0:V0 k a0=l0 k:=aT rfl (s0 k a0) fun _=>rfl
end
theorem eq (k:Nat) (a0:ByteArray):rn (E k) Tryz.f161 (C k) (a0,())=f k a0:=(show _=t k (V0 k a0 k) a0 by kernel_rfl).trans (by rw [e0];rfl)
theorem ctr (k:Nat):Cp 161 (C k):=rc rfl [] (by kernel_rfl) Tryz.func161 (by kernel_rfl) rfl fun ⟨a0,_⟩ r h=>(eq k a0).trans h
end cw
namespace fg
def C (k:Nat):Cn:=⟨[.val (.int .i64)],[.str],true,false,fun x=>f k x.1⟩
def D (k:Nat):List Ce:=[q (au.ctr k)]
def E (k:Nat):cD:=en (D k) [(4,[0,3])] 0 [] k
section
variable (k:Nat) (a0:Int)
def K0:Ex→St→Rs:=c_ (E k) (eK (E k) Tryz.f206 (C k) (a0,())) [.blk 0,.code (at_ (bt 4 15) (body Tryz.f206))]
def V0 (n0:Nat):T0:=fun x0 x1=>ao (bT (E k) (at_ (bt 6 7) (body Tryz.f206))) (ak 0 [0,3]) (K0 k a0) n0 (mk 24 1 [(0,.int .i64 x0),(3,.ref 0)] [(0,.own false (.int .u8) x1)])
theorem s0 (n0:Nat):V0 k a0 (n0+1)=b0 k (V0 k a0 n0):=by kernel_rfl
theorem e0:V0 k a0=l0 k:=aT rfl (s0 k a0) fun _=>rfl
end
theorem eq (k:Nat) (a0:Int):rn (E k) Tryz.f206 (C k) (a0,())=f k a0:=(show _=t k (V0 k a0 k) a0 by kernel_rfl).trans (by rw [e0];rfl)
theorem ctr (k:Nat):Cp 206 (C k):=rc rfl (D k) (by kernel_rfl) Tryz.func206 (by kernel_rfl) rfl fun ⟨a0,_⟩ r h=>(eq k a0).trans h
end fg
namespace eH
def C (k:Nat):Cn:=⟨[.val .str],[.str],true,false,fun x=>f k x.1⟩
def D (k:Nat):List Ce:=[q (fg.ctr k)]
def E (k:Nat):cD:=en (D k) [] 0 [] k
theorem eq (k:Nat) (a0:ByteArray):rn (E k) Tryz.f193 (C k) (a0,())=f k a0:=by kernel_rfl
theorem ctr (k:Nat):Cp 193 (C k):=rc rfl (D k) (by kernel_rfl) Tryz.func193 (by kernel_rfl) rfl fun ⟨a0,_⟩ r h=>(eq k a0).trans h
end eH
namespace gL
def C (k:Nat):Cn:=⟨[.val .str],[(.int .i64)],true,false,fun x=>f k x.1⟩
def E (k:Nat):cD:=en [] [(3,[0,3,4]),(7,[0,3,4,18])] 0 [] k
section
variable (k:Nat) (a0:ByteArray)
def K0:Ex→St→Rs:=c_ (E k) (eK (E k) Tryz.f195 (C k) (a0,())) [.blk 0,.code (at_ (bt 3 7) (body Tryz.f195))]
def B0 (n0:Nat):Ex→St→Rs:=Le (E k) (at_ (bt 6 11) (body Tryz.f195)) 0 [0,3,4] (K0 k a0) n0
def K1 (n0:Nat):Ex→St→Rs:=c_ (E k) (B0 k a0 n0) [.blk 2,.blk 1,.code (at_ (bt 8 203) (body Tryz.f195))]
def V0 (n0:Nat):T0:=fun x0 x1 x2=>ao (bT (E k) (at_ (bt 6 11) (body Tryz.f195))) (ak 0 [0,3,4]) (K0 k a0) n0 (mk 32 0 [(0,.str x0),(3,.int .u32 x1),(4,.int .i64 x2)] [])
def V1 (n0 n1:Nat):T1:=fun x0 x1 x2 x3=>ao (bT (E k) (at_ (bt 13 1611) (body Tryz.f195))) (ak 0 [0,3,4,18]) (K1 k a0 n0) n1 (mk 32 0 [(0,.str x0),(3,.int .u32 x1),(4,.int .i64 x2),(18,.int .i64 x3)] [])
theorem s0 (n0:Nat):V0 k a0 (n0+1)=b0 k (V1 k a0 n0 k) (V0 k a0 n0):=by kernel_rfl
theorem s1 (n0 n1:Nat):V1 k a0 n0 (n1+1)=b1 k (V0 k a0 n0) (V1 k a0 n0 n1):=by kernel_rfl
theorem e1 (n0:Nat):V1 k a0 n0=l1 k (V0 k a0 n0):=aT rfl (s1 k a0 n0) fun _=>rfl
theorem e0 (n0:Nat):V0 k a0 n0=l0 k n0:=by
 induction n0 with
 | zero=>rfl
 | succ n0 ih =>
  have h:V0 k a0 (n0+1)=b0 k (V1 k a0 n0 k) (V0 k a0 n0):=s0 k a0 n0
  rw [h,e1,ih]
  rfl
end
theorem eq (k:Nat) (a0:ByteArray):rn (E k) Tryz.f195 (C k) (a0,())=f k a0:=(show _=t k (V0 k a0 k) a0 by kernel_rfl).trans (by rw [e0];rfl)
theorem ctr (k:Nat):Cp 195 (C k):=rc rfl [] (by kernel_rfl) Tryz.func195 (by kernel_rfl) rfl fun ⟨a0,_⟩ r h=>(eq k a0).trans h
end gL
namespace dX
def C (k:Nat):Cn:=⟨[.val (.int .i64),.val (.int .i64)],[.str],true,false,fun x=>f k x.1 x.2.1⟩
def D (k:Nat):List Ce:=[q (au.ctr k)]
def E (k:Nat):cD:=en (D k) [(5,[0,5,6])] 0 [] k
section
variable (k:Nat) (a0:Int) (a1:Int)
def K0:Ex→St→Rs:=c_ (E k) (eK (E k) Tryz.f194 (C k) (a0,a1,())) [.blk 0,.code (at_ (bt 4 15) (body Tryz.f194))]
def V0 (n0:Nat):T0:=fun x0 x1 x2=>ao (bT (E k) (at_ (bt 7 23) (body Tryz.f194))) (ak 0 [0,5,6]) (K0 k a0 a1) n0 (mk 35 1 [(0,.int .i64 x0),(5,.ref 0),(6,.int .i64 x1)] [(0,.own false (.int .u8) x2)])
theorem s0 (n0:Nat):V0 k a0 a1 (n0+1)=b0 k (V0 k a0 a1 n0):=by kernel_rfl
theorem e0:V0 k a0 a1=l0 k:=aT rfl (s0 k a0 a1) fun _=>rfl
end
theorem eq (k:Nat) (a0:Int) (a1:Int):rn (E k) Tryz.f194 (C k) (a0,a1,())=f k a0 a1:=(show _=t k (V0 k a0 a1 k) a0 a1 by kernel_rfl).trans (by rw [e0];rfl)
theorem ctr (k:Nat):Cp 194 (C k):=rc rfl (D k) (by kernel_rfl) Tryz.func194 (by kernel_rfl) rfl fun ⟨a0,a1,_⟩ r h=>(eq k a0 a1).trans h
end dX
namespace jU
def C (k:Nat):Cn:=⟨[.val .str],[.str],true,false,fun x=>f k x.1⟩
def D (k:Nat):List Ce:=[q (eH.ctr k),q (gL.ctr k),q (dX.ctr k)]
def E (k:Nat):cD:=en (D k) [] 0 [] k
theorem eq (k:Nat) (a0:ByteArray):rn (E k) Tryz.f162 (C k) (a0,())=f k a0:=by kernel_rfl
theorem ctr (k:Nat):Cp 162 (C k):=rc rfl (D k) (by kernel_rfl) Tryz.func162 (by kernel_rfl) rfl fun ⟨a0,_⟩ r h=>(eq k a0).trans h
end jU
namespace dq
def C (k:Nat):Cn:=⟨[.val .str],[.str,(.int .i64)],true,false,fun x=>f k x.1⟩
def D (k:Nat):List Ce:=[q (cw.ctr k),q (jU.ctr k)]
def E (k:Nat):cD:=en (D k) [] 0 [] k
theorem eq (k:Nat) (a0:ByteArray):rn (E k) Tryz.f118 (C k) (a0,())=f k a0:=by kernel_rfl
theorem ctr (k:Nat):Cp 118 (C k):=rc rfl (D k) (by kernel_rfl) Tryz.func118 (by kernel_rfl) rfl fun ⟨a0,_⟩ r h=>(eq k a0).trans h
end dq
namespace aJ
def C (k:Nat):Cn:=⟨[.io true kQ],[(.int .i64)],true,false,fun x=>f k x.1⟩
def D (k:Nat):List Ce:=[q (cw.ctr k)]
def E (k:Nat):cD:=en (D k) [] 1 [] k
theorem eq (k:Nat) (a0:Ty.d kQ):rn (E k) Tryz.f119 (C k) (a0,())=f k a0:=by kernel_rfl
theorem ctr (k:Nat):Cp 119 (C k):=rc rfl (D k) (by kernel_rfl) Tryz.func119 (by kernel_rfl) rfl fun ⟨a0,_⟩ r h=>(eq k a0).trans h
end aJ
namespace dQ
def C (k:Nat):Cn:=⟨[.val ay],[.bool],true,false,fun x=>f k x.1⟩
def D (k:Nat):List Ce:=[q (au.ctr k)]
def E (k:Nat):cD:=en (D k) [(2,[1,6,7,8])] 0 [] k
section
variable (k:Nat) (a0:Ty.d ay)
def K0:Ex→St→Rs:=c_ (E k) (eK (E k) Tryz.f120 (C k) (a0,())) [.blk 0,.code (at_ (bt 2 3) (body Tryz.f120))]
def V0 (n0:Nat):T0:=fun x0 x1 x2 x3 x4=>ao (bT (E k) (at_ (bt 5 5) (body Tryz.f120))) (ak 0 [1,6,7,8]) (K0 k a0) n0 (mk 43 1 [(1,.ptr 0 0 0),(6,.sl true (.int .i64) x0),(7,.int .i64 x1),(8,.int .i64 x2)] [(0,.box [.int .i64 x3,.sl true (.int .i64) x4])])
theorem s0 (n0:Nat):V0 k a0 (n0+1)=b0 k (V0 k a0 n0):=by kernel_rfl
theorem e0:V0 k a0=l0 k:=aT rfl (s0 k a0) fun _=>rfl
end
theorem eq (k:Nat) (a0:Ty.d ay):rn (E k) Tryz.f120 (C k) (a0,())=f k a0:=(show _=t k (V0 k a0 k) a0 by kernel_rfl).trans (by rw [e0];rfl)
theorem ctr (k:Nat):Cp 120 (C k):=rc rfl (D k) (by kernel_rfl) Tryz.func120 (by kernel_rfl) rfl fun ⟨a0,_⟩ r h=>(eq k a0).trans h
end dQ
namespace b7
def C (k:Nat):Cn:=⟨[.val .str],[ay,.bool],true,false,fun x=>f k x.1⟩
def D (k:Nat):List Ce:=[q (dq.ctr k),q (aJ.ctr k),q (dQ.ctr k)]
def E (k:Nat):cD:=en (D k) [(6,[0,2,5,6,7,8,9])] 0 [] k
section
variable (k:Nat) (a0:ByteArray)
def K0:Ex→St→Rs:=c_ (E k) (eK (E k) Tryz.f72 (C k) (a0,())) [.blk 0,.code (at_ (bt 6 63) (body Tryz.f72))]
def V0 (n0:Nat):T0:=fun x0 x1 x2 x3 x4 x5 x6 x7 x8 x9=>ao (bT (E k) (at_ (bt 9 95) (body Tryz.f72))) (ak 0 [0,2,5,6,7,8,9]) (K0 k a0) n0 (mk 72 5 [(0,.str x0),(2,.ptr 0 0 0),(5,.int .i64 x1),(6,.ptr 2 0 0),(7,.ptr 3 0 0),(8,.int .i64 x2),(9,.int .i64 x3)] [(1,.own false (.int .i64) x4),(0,.box [.int .i64 x5,.ref 1]),(2,.box [.str x6,.bool x7]),(4,.own false (.int .i64) x8),(3,.box [.int .i64 x9,.ref 4])])
theorem s0 (n0:Nat):V0 k a0 (n0+1)=b0 k (V0 k a0 n0):=by kernel_rfl
theorem e0:V0 k a0=l0 k:=aT rfl (s0 k a0) fun _=>rfl
end
theorem eq (k:Nat) (a0:ByteArray):rn (E k) Tryz.f72 (C k) (a0,())=f k a0:=(show _=t k (V0 k a0 k) a0 by kernel_rfl).trans (by rw [e0];rfl)
theorem ctr (k:Nat):Cp 72 (C k):=rc rfl (D k) (by kernel_rfl) Tryz.func72 (by kernel_rfl) rfl fun ⟨a0,_⟩ r h=>(eq k a0).trans h
end b7
namespace nA
def C (k:Nat):Cn:=⟨[.val (.int .i64)],[.str],true,false,fun x=>f k x.1⟩
def D (k:Nat):List Ce:=[q (nG.ctr k)]
def E (k:Nat):cD:=en (D k) [] 0 [] k
theorem eq (k:Nat) (a0:Int):rn (E k) Tryz.f164 (C k) (a0,())=f k a0:=by kernel_rfl
theorem ctr (k:Nat):Cp 164 (C k):=rc rfl (D k) (by kernel_rfl) Tryz.func164 (by kernel_rfl) rfl fun ⟨a0,_⟩ r h=>(eq k a0).trans h
end nA
namespace jV
def C (k:Nat):Cn:=⟨[.val .str,.val (.int .i64)],[.str],true,false,fun x=>f k x.1 x.2.1⟩
def D (k:Nat):List Ce:=[q (au.ctr k),q (nA.ctr k)]
def E (k:Nat):cD:=en (D k) [] 0 [] k
theorem eq (k:Nat) (a0:ByteArray) (a1:Int):rn (E k) Tryz.f123 (C k) (a0,a1,())=f k a0 a1:=by kernel_rfl
theorem ctr (k:Nat):Cp 123 (C k):=rc rfl (D k) (by kernel_rfl) Tryz.func123 (by kernel_rfl) rfl fun ⟨a0,a1,_⟩ r h=>(eq k a0 a1).trans h
end jV
namespace dp
def C (k:Nat):Cn:=⟨[.val (.int .i64)],[.str],true,false,fun x=>f k x.1⟩
def D (k:Nat):List Ce:=[q (jV.ctr k)]
def E (k:Nat):cD:=en (D k) [] 0 [] k
theorem eq (k:Nat) (a0:Int):rn (E k) Tryz.f74 (C k) (a0,())=f k a0:=by kernel_rfl
theorem ctr (k:Nat):Cp 74 (C k):=rc rfl (D k) (by kernel_rfl) Tryz.func74 (by kernel_rfl) rfl fun ⟨a0,_⟩ r h=>(eq k a0).trans h
end dp
namespace an
def C (k:Nat):Cn:=⟨[.io true kQ,.val (.int .i64)],[.str],true,false,fun x=>f k x.1 x.2.1⟩
def E (k:Nat):cD:=en [] [] 1 [] k
theorem eq (k:Nat) (a0:Ty.d kQ) (a1:Int):rn (E k) Tryz.f166 (C k) (a0,a1,())=f k a0 a1:=by kernel_rfl
theorem ctr (k:Nat):Cp 166 (C k):=rc rfl [] (by kernel_rfl) Tryz.func166 (by kernel_rfl) rfl fun ⟨a0,a1,_⟩ r h=>(eq k a0 a1).trans h
end an
namespace ai
def C (k:Nat):Cn:=⟨[.io true kQ],[.str],true,false,fun x=>f k x.1⟩
def D (k:Nat):List Ce:=[q (aJ.ctr k),q (an.ctr k)]
def E (k:Nat):cD:=en (D k) [] 1 [] k
theorem eq (k:Nat) (a0:Ty.d kQ):rn (E k) Tryz.f167 (C k) (a0,())=f k a0:=by kernel_rfl
theorem ctr (k:Nat):Cp 167 (C k):=rc rfl (D k) (by kernel_rfl) Tryz.func167 (by kernel_rfl) rfl fun ⟨a0,_⟩ r h=>(eq k a0).trans h
end ai
namespace h_
def C (k:Nat):Cn:=⟨[.val .str],[.bool],true,false,fun x=>f k x.1⟩
def D (k:Nat):List Ce:=[q (au.ctr k)]
def E (k:Nat):cD:=en (D k) [] 0 [] k
theorem eq (k:Nat) (a0:ByteArray):rn (E k) Tryz.f210 (C k) (a0,())=f k a0:=by kernel_rfl
theorem ctr (k:Nat):Cp 210 (C k):=rc rfl (D k) (by kernel_rfl) Tryz.func210 (by kernel_rfl) rfl fun ⟨a0,_⟩ r h=>(eq k a0).trans h
end h_
namespace gF
def C (k:Nat):Cn:=⟨[.val bP],[.bool],true,false,fun x=>f k x.1⟩
def D (k:Nat):List Ce:=[q (h_.ctr k),q (au.ctr k)]
def E (k:Nat):cD:=en (D k) [] 0 [] k
theorem eq (k:Nat) (a0:Ty.d bP):rn (E k) Tryz.f197 (C k) (a0,())=f k a0:=by kernel_rfl
theorem ctr (k:Nat):Cp 197 (C k):=rc rfl (D k) (by kernel_rfl) Tryz.func197 (by kernel_rfl) rfl fun ⟨a0,_⟩ r h=>(eq k a0).trans h
end gF
namespace bw
def C (k:Nat):Cn:=⟨[.val .str,.val (.int .i64)],[(.int .i64),.bool],true,false,fun x=>f k x.1 x.2.1⟩
def D (k:Nat):List Ce:=[q (au.ctr k)]
def E (k:Nat):cD:=en (D k) [(5,[0,6,17,18])] 0 [] k
section
variable (k:Nat) (a0:ByteArray) (a1:Int)
def K0:Ex→St→Rs:=c_ (E k) (eK (E k) Tryz.f196 (C k) (a0,a1,())) [.blk 0,.code (at_ (bt 4 15) (body Tryz.f196))]
def V0 (n0:Nat):T0:=fun x0 x1 x2 x3=>ao (bT (E k) (at_ (bt 7 23) (body Tryz.f196))) (ak 0 [0,6,17,18]) (K0 k a0 a1) n0 (mk 30 0 [(0,.str x0),(6,.int .i64 x1),(17,.int .i64 x2),(18,.int .i64 x3)] [])
theorem s0 (n0:Nat):V0 k a0 a1 (n0+1)=b0 k (V0 k a0 a1 n0):=by kernel_rfl
theorem e0:V0 k a0 a1=l0 k:=aT rfl (s0 k a0 a1) fun _=>rfl
end
theorem eq (k:Nat) (a0:ByteArray) (a1:Int):rn (E k) Tryz.f196 (C k) (a0,a1,())=f k a0 a1:=(show _=t k (V0 k a0 a1 k) a0 a1 by kernel_rfl).trans (by rw [e0];rfl)
theorem ctr (k:Nat):Cp 196 (C k):=rc rfl (D k) (by kernel_rfl) Tryz.func196 (by kernel_rfl) rfl fun ⟨a0,a1,_⟩ r h=>(eq k a0 a1).trans h
end bw
namespace cv
def C (k:Nat):Cn:=⟨[.val .str],[bP,.bool],true,false,fun x=>f k x.1⟩
def D (k:Nat):List Ce:=[q (aJ.ctr k),q (ai.ctr k),q (gF.ctr k),q (an.ctr k),q (bw.ctr k)]
def E (k:Nat):cD:=en (D k) [] 0 [] k
theorem eq (k:Nat) (a0:ByteArray):rn (E k) Tryz.f163 (C k) (a0,())=f k a0:=by kernel_rfl
theorem ctr (k:Nat):Cp 163 (C k):=rc rfl (D k) (by kernel_rfl) Tryz.func163 (by kernel_rfl) rfl fun ⟨a0,_⟩ r h=>(eq k a0).trans h
end cv
namespace dZ
def C (k:Nat):Cn:=⟨[.val .str],[(.slice bM),(.int .i64)],true,false,fun x=>f k x.1⟩
def D (k:Nat):List Ce:=[q (dq.ctr k),q (cv.ctr k)]
def E (k:Nat):cD:=en (D k) [(3,[0,4,5])] 0 [] k
section
variable (k:Nat) (a0:ByteArray)
def K0:Ex→St→Rs:=c_ (E k) (eK (E k) Tryz.f121 (C k) (a0,())) [.blk 0]
def V0 (n0:Nat):T0:=fun x0 x1 x2=>ao (bT (E k) (at_ (bt 5 7) (body Tryz.f121))) (ak 0 [0,4,5]) (K0 k a0) n0 (mk 40 1 [(0,.str x0),(4,.ref 0),(5,.int .i64 x1)] [(0,.own false bM x2)])
theorem s0 (n0:Nat):V0 k a0 (n0+1)=b0 k (V0 k a0 n0):=by kernel_rfl
theorem e0:V0 k a0=l0 k:=aT rfl (s0 k a0) fun _=>rfl
end
theorem eq (k:Nat) (a0:ByteArray):rn (E k) Tryz.f121 (C k) (a0,())=f k a0:=(show _=t k (V0 k a0 k) a0 by kernel_rfl).trans (by rw [e0];rfl)
theorem ctr (k:Nat):Cp 121 (C k):=rc rfl (D k) (by kernel_rfl) Tryz.func121 (by kernel_rfl) rfl fun ⟨a0,_⟩ r h=>(eq k a0).trans h
end dZ
namespace eo
def C (k:Nat):Cn:=⟨[.val (.int .i64),.val (.slice bM)],[(.slice aD)],true,false,fun x=>f k x.1 x.2.1⟩
def E (k:Nat):cD:=en [] [(3,[0,5,8,9,10])] 0 [] k
section
variable (k:Nat) (a0:Int) (a1:List (Ty.d bM))
def K0:Ex→St→Rs:=c_ (E k) (eK (E k) Tryz.f122 (C k) (a0,a1,())) [.blk 0,.code (at_ (bt 3 7) (body Tryz.f122))]
def V0 (n0:Nat):T0:=fun x0 x1 x2 x3 x4=>ao (bT (E k) (at_ (bt 6 11) (body Tryz.f122))) (ak 0 [0,5,8,9,10]) (K0 k a0 a1) n0 (mk 27 1 [(0,.int .i64 x0),(5,.ref 0),(8,.sl true bM x1),(9,.int .i64 x2),(10,.int .i64 x3)] [(0,.own false aD x4)])
theorem s0 (n0:Nat):V0 k a0 a1 (n0+1)=b0 k (V0 k a0 a1 n0):=by kernel_rfl
theorem e0:V0 k a0 a1=l0 k:=aT rfl (s0 k a0 a1) fun _=>rfl
end
theorem eq (k:Nat) (a0:Int) (a1:List (Ty.d bM)):rn (E k) Tryz.f122 (C k) (a0,a1,())=f k a0 a1:=(show _=t k (V0 k a0 a1 k) a0 a1 by kernel_rfl).trans (by rw [e0];rfl)
theorem ctr (k:Nat):Cp 122 (C k):=rc rfl [] (by kernel_rfl) Tryz.func122 (by kernel_rfl) rfl fun ⟨a0,a1,_⟩ r h=>(eq k a0 a1).trans h
end eo
namespace bN
def C (k:Nat):Cn:=⟨[.io true bA,.val ay],[(.slice (.slice aD)),(.int .i64),.bool],true,false,fun x=>f k x.1 x.2.1⟩
def D (k:Nat):List Ce:=[q (dp.ctr k),q (cy.ctr k),q (dZ.ctr k),q (eo.ctr k)]
def E (k:Nat):cD:=en (D k) [(4,[0,3,7,8,16,17,18])] 1 [] k
section
variable (k:Nat) (a0:Ty.d bA) (a1:Ty.d ay)
def K0:Ex→St→Rs:=c_ (E k) (eK (E k) Tryz.f73 (C k) (a0,a1,())) [.blk 0,.code (at_ (bt 4 15) (body Tryz.f73))]
def V0 (n0:Nat):T0:=fun x0 x1 x2 x3 x4 x5 x6 x7 x8 x9 x10 x11=>ao (bT (E k) (at_ (bt 7 23) (body Tryz.f73))) (ak 1 [0,3,7,8,16,17,18]) (K0 k a0 a1) n0 (mk 64 4 [(0,.ptr 0 0 0),(3,.ptr 2 0 0),(7,.ref 3),(8,.int .i64 x0),(16,.sl true (.int .i64) x1),(17,.int .i64 x2),(18,.int .i64 x3)] [(1,.own false aB x4),(0,.box [.ref 1,.int .i64 x5,.int .i64 x6,.bool x7,.int .i64 x8]),(2,.box [.int .i64 x9,.sl true (.int .i64) x10]),(3,.own false (.slice aD) x11)])
theorem s0 (n0:Nat):V0 k a0 a1 (n0+1)=b0 k (V0 k a0 a1 n0):=by kernel_rfl
theorem e0:V0 k a0 a1=l0 k:=aT rfl (s0 k a0 a1) fun _=>rfl
end
theorem eq (k:Nat) (a0:Ty.d bA) (a1:Ty.d ay):rn (E k) Tryz.f73 (C k) (a0,a1,())=f k a0 a1:=(show _=t k (V0 k a0 a1 k) a0 a1 by kernel_rfl).trans (by rw [e0];rfl)
theorem ctr (k:Nat):Cp 73 (C k):=rc rfl (D k) (by kernel_rfl) Tryz.func73 (by kernel_rfl) rfl fun ⟨a0,a1,_⟩ r h=>(eq k a0 a1).trans h
end bN
namespace ea
def C (k:Nat):Cn:=⟨[.io true a_,.io true .str,.io true (.int .i64)],[(.int .i64)],true,false,fun x=>f k x.1 x.2.1 x.2.2.1⟩
def D (k:Nat):List Ce:=[q (bV.ctr k),q (au.ctr k)]
def E (k:Nat):cD:=en (D k) [] 3 [] k
theorem eq (k:Nat) (a0:Ty.d a_) (a1:ByteArray) (a2:Int):rn (E k) Tryz.f126 (C k) (a0,a1,a2,())=f k a0 a1 a2:=by kernel_rfl
theorem ctr (k:Nat):Cp 126 (C k):=rc rfl (D k) (by kernel_rfl) Tryz.func126 (by kernel_rfl) rfl fun ⟨a0,a1,a2,_⟩ r h=>(eq k a0 a1 a2).trans h
end ea
namespace fN
def C (k:Nat):Cn:=⟨[.val a_,.fn 126 2,.io true .str,.io true (.int .i64)],[a_,(.int .i64)],true,false,fun x=>f k x.1 x.2.1 x.2.2.1⟩
def D (k:Nat):List Ce:=[q (bU.ctr k),q (bC.ctr k),q (ea.ctr k)]
def E (k:Nat):cD:=en (D k) [] 2 [] k
theorem eq (k:Nat) (a0:Ty.d a_) (a1:ByteArray) (a2:Int):rn (E k) Tryz.f125 (C k) (a0,a1,a2,())=f k a0 a1 a2:=by kernel_rfl
theorem ctr (k:Nat):Cp 125 (C k):=rc rfl (D k) (by kernel_rfl) Tryz.func125 (by kernel_rfl) rfl fun ⟨a0,a1,a2,_⟩ r h=>(eq k a0 a1 a2).trans h
end fN
namespace iu
def C (k:Nat):Cn:=⟨[.val a_,.val .str,.val (.int .i64)],[a_,(.int .i64)],true,false,fun x=>f k x.1 x.2.1 x.2.2.1⟩
def D (k:Nat):List Ce:=[q (fN.ctr k)]
def E (k:Nat):cD:=en (D k) [] 0 [] k
theorem eq (k:Nat) (a0:Ty.d a_) (a1:ByteArray) (a2:Int):rn (E k) Tryz.f76 (C k) (a0,a1,a2,())=f k a0 a1 a2:=by kernel_rfl
theorem ctr (k:Nat):Cp 76 (C k):=rc rfl (D k) (by kernel_rfl) Tryz.func76 (by kernel_rfl) rfl fun ⟨a0,a1,a2,_⟩ r h=>(eq k a0 a1 a2).trans h
end iu
namespace m4
def C (k:Nat):Cn:=⟨[.val (.int .i64)],[(.int .i64)],true,false,fun x=>f k x.1⟩
def E (k:Nat):cD:=en [] [] 0 [] k
theorem eq (k:Nat) (a0:Int):rn (E k) Tryz.f124 (C k) (a0,())=f k a0:=by kernel_rfl
theorem ctr (k:Nat):Cp 124 (C k):=rc rfl [] (by kernel_rfl) Tryz.func124 (by kernel_rfl) rfl fun ⟨a0,_⟩ r h=>(eq k a0).trans h
end m4
namespace az
def C (k:Nat):Cn:=⟨[.io true bA,.give a_,.val (.int .i64)],[],true,false,fun x=>f k x.1 x.2.1 x.2.2.1⟩
def D (k:Nat):List Ce:=[q (m4.ctr k)]
def E (k:Nat):cD:=en (D k) [] 1 [] k
theorem eq (k:Nat) (a0:Ty.d bA) (a1:Ty.d a_) (a2:Int):rn (E k) Tryz.f75 (C k) (a0,a1,a2,())=f k a0 a1 a2:=by kernel_rfl
theorem ctr (k:Nat):Cp 75 (C k):=rc rfl (D k) (by kernel_rfl) Tryz.func75 (by kernel_rfl) rfl fun ⟨a0,a1,a2,_⟩ r h=>(eq k a0 a1 a2).trans h
end az
namespace iH
def C (k:Nat):Cn:=⟨[.io true a_,.io true .str],[(.int .i64)],true,false,fun x=>f k x.1 x.2.1⟩
def D (k:Nat):List Ce:=[q (bV.ctr k)]
def E (k:Nat):cD:=en (D k) [] 2 [] k
theorem eq (k:Nat) (a0:Ty.d a_) (a1:ByteArray):rn (E k) Tryz.f165 (C k) (a0,a1,())=f k a0 a1:=by kernel_rfl
theorem ctr (k:Nat):Cp 165 (C k):=rc rfl (D k) (by kernel_rfl) Tryz.func165 (by kernel_rfl) rfl fun ⟨a0,a1,_⟩ r h=>(eq k a0 a1).trans h
end iH
namespace hZ
def C (k:Nat):Cn:=⟨[.val a_,.fn 165 1,.io true .str],[a_,(.int .i64)],true,false,fun x=>f k x.1 x.2.1⟩
def D (k:Nat):List Ce:=[q (bU.ctr k),q (bC.ctr k),q (iH.ctr k)]
def E (k:Nat):cD:=en (D k) [] 1 [] k
theorem eq (k:Nat) (a0:Ty.d a_) (a1:ByteArray):rn (E k) Tryz.f125 (C k) (a0,a1,())=f k a0 a1:=by kernel_rfl
theorem ctr (k:Nat):Cp 125 (C k):=rc rfl (D k) (by kernel_rfl) Tryz.func125 (by kernel_rfl) rfl fun ⟨a0,a1,_⟩ r h=>(eq k a0 a1).trans h
end hZ
namespace lz
def C (k:Nat):Cn:=⟨[.val a_,.val .str],[a_,(.int .i64)],true,false,fun x=>f k x.1 x.2.1⟩
def D (k:Nat):List Ce:=[q (hZ.ctr k)]
def E (k:Nat):cD:=en (D k) [] 0 [] k
theorem eq (k:Nat) (a0:Ty.d a_) (a1:ByteArray):rn (E k) Tryz.f127 (C k) (a0,a1,())=f k a0 a1:=by kernel_rfl
theorem ctr (k:Nat):Cp 127 (C k):=rc rfl (D k) (by kernel_rfl) Tryz.func127 (by kernel_rfl) rfl fun ⟨a0,a1,_⟩ r h=>(eq k a0 a1).trans h
end lz
namespace d7
def C (k:Nat):Cn:=⟨[.io true bA,.val .str],[],true,false,fun x=>f k x.1 x.2.1⟩
def D (k:Nat):List Ce:=[q (lz.ctr k),q (az.ctr k)]
def E (k:Nat):cD:=en (D k) [] 1 [] k
theorem eq (k:Nat) (a0:Ty.d bA) (a1:ByteArray):rn (E k) Tryz.f77 (C k) (a0,a1,())=f k a0 a1:=by kernel_rfl
theorem ctr (k:Nat):Cp 77 (C k):=rc rfl (D k) (by kernel_rfl) Tryz.func77 (by kernel_rfl) rfl fun ⟨a0,a1,_⟩ r h=>(eq k a0 a1).trans h
end d7
namespace iq
def C (k:Nat):Cn:=⟨[.val (.int .i64)],[.str],true,false,fun x=>f k x.1⟩
def D (k:Nat):List Ce:=[q (jV.ctr k)]
def E (k:Nat):cD:=en (D k) [] 0 [] k
theorem eq (k:Nat) (a0:Int):rn (E k) Tryz.f128 (C k) (a0,())=f k a0:=by kernel_rfl
theorem ctr (k:Nat):Cp 128 (C k):=rc rfl (D k) (by kernel_rfl) Tryz.func128 (by kernel_rfl) rfl fun ⟨a0,_⟩ r h=>(eq k a0).trans h
end iq
namespace fS
def C (k:Nat):Cn:=⟨[.val (.slice aA)],[.bool],true,false,fun x=>f k x.1⟩
def D (k:Nat):List Ce:=[q (h_.ctr k),q (au.ctr k)]
def E (k:Nat):cD:=en (D k) [(2,[0,5,6,7])] 0 [] k
section
variable (k:Nat) (a0:List (Ty.d aA))
def K0:Ex→St→Rs:=c_ (E k) (eK (E k) Tryz.f199 (C k) (a0,())) [.blk 0,.code (at_ (bt 2 3) (body Tryz.f199))]
def V0 (n0:Nat):T0:=fun x0 x1 x2 x3=>ao (bT (E k) (at_ (bt 5 5) (body Tryz.f199))) (ak 0 [0,5,6,7]) (K0 k a0) n0 (mk 58 0 [(0,.sl true aA x0),(5,.sl true aA x1),(6,.int .i64 x2),(7,.int .i64 x3)] [])
theorem s0 (n0:Nat):V0 k a0 (n0+1)=b0 k (V0 k a0 n0):=by kernel_rfl
theorem e0:V0 k a0=l0 k:=aT rfl (s0 k a0) fun _=>rfl
end
theorem eq (k:Nat) (a0:List (Ty.d aA)):rn (E k) Tryz.f199 (C k) (a0,())=f k a0:=(show _=t k (V0 k a0 k) a0 by kernel_rfl).trans (by rw [e0];rfl)
theorem ctr (k:Nat):Cp 199 (C k):=rc rfl (D k) (by kernel_rfl) Tryz.func199 (by kernel_rfl) rfl fun ⟨a0,_⟩ r h=>(eq k a0).trans h
end fS
namespace eJ
def C (k:Nat):Cn:=⟨[.val di],[.bool],true,false,fun x=>f k x.1⟩
def D (k:Nat):List Ce:=[q (au.ctr k),q (fS.ctr k)]
def E (k:Nat):cD:=en (D k) [(2,[1,6,7,8])] 0 [] k
section
variable (k:Nat) (a0:Ty.d di)
def K0:Ex→St→Rs:=c_ (E k) (eK (E k) Tryz.f168 (C k) (a0,())) [.blk 0,.code (at_ (bt 2 3) (body Tryz.f168))]
def V0 (n0:Nat):T0:=fun x0 x1 x2 x3 x4 x5=>ao (bT (E k) (at_ (bt 5 5) (body Tryz.f168))) (ak 0 [1,6,7,8]) (K0 k a0) n0 (mk 39 1 [(1,.ptr 0 0 0),(6,.sl true aA x0),(7,.int .i64 x1),(8,.int .i64 x2)] [(0,.box [.int .i64 x3,.int .i64 x4,.sl true aA x5])])
theorem s0 (n0:Nat):V0 k a0 (n0+1)=b0 k (V0 k a0 n0):=by kernel_rfl
theorem e0:V0 k a0=l0 k:=aT rfl (s0 k a0) fun _=>rfl
end
theorem eq (k:Nat) (a0:Ty.d di):rn (E k) Tryz.f168 (C k) (a0,())=f k a0:=(show _=t k (V0 k a0 k) a0 by kernel_rfl).trans (by rw [e0];rfl)
theorem ctr (k:Nat):Cp 168 (C k):=rc rfl (D k) (by kernel_rfl) Tryz.func168 (by kernel_rfl) rfl fun ⟨a0,_⟩ r h=>(eq k a0).trans h
end eJ
namespace dM
def C (k:Nat):Cn:=⟨[.val (.slice (.int .i64))],[.str],true,false,fun x=>f k x.1⟩
def D (k:Nat):List Ce:=[q (fg.ctr k)]
def E (k:Nat):cD:=en (D k) [(3,[3,6,7,8])] 0 [] k
section
variable (k:Nat) (a0:List Int)
def K0:Ex→St→Rs:=c_ (E k) (eK (E k) Tryz.f182 (C k) (a0,())) [.blk 0,.code (at_ (bt 3 7) (body Tryz.f182))]
def V0 (n0:Nat):T0:=fun x0 x1 x2 x3=>ao (bT (E k) (at_ (bt 6 11) (body Tryz.f182))) (ak 0 [3,6,7,8]) (K0 k a0) n0 (mk 18 0 [(3,.str x0),(6,.sl true (.int .i64) x1),(7,.int .i64 x2),(8,.int .i64 x3)] [])
theorem s0 (n0:Nat):V0 k a0 (n0+1)=b0 k (V0 k a0 n0):=by kernel_rfl
theorem e0:V0 k a0=l0 k:=aT rfl (s0 k a0) fun _=>rfl
end
theorem eq (k:Nat) (a0:List Int):rn (E k) Tryz.f182 (C k) (a0,())=f k a0:=(show _=t k (V0 k a0 k) a0 by kernel_rfl).trans (by rw [e0];rfl)
theorem ctr (k:Nat):Cp 182 (C k):=rc rfl (D k) (by kernel_rfl) Tryz.func182 (by kernel_rfl) rfl fun ⟨a0,_⟩ r h=>(eq k a0).trans h
end dM
namespace dW
def C (k:Nat):Cn:=⟨[.val di],[.str],true,false,fun x=>f k x.1⟩
def D (k:Nat):List Ce:=[q (eJ.ctr k),q (dM.ctr k),q (eH.ctr k),q (gL.ctr k),q (dX.ctr k)]
def E (k:Nat):cD:=en (D k) [(5,[3,19,20,21])] 0 [] k
section
variable (k:Nat) (a0:Ty.d di)
def K0:Ex→St→Rs:=c_ (E k) (eK (E k) Tryz.f169 (C k) (a0,())) [.blk 0,.code (at_ (bt 4 15) (body Tryz.f169))]
def V0 (n0:Nat):T0:=fun x0 x1 x2 x3=>ao (bT (E k) (at_ (bt 7 23) (body Tryz.f169))) (ak 0 [3,19,20,21]) (K0 k a0) n0 (mk 47 0 [(3,.str x0),(19,.sl true aA x1),(20,.int .i64 x2),(21,.int .i64 x3)] [])
theorem s0 (n0:Nat):V0 k a0 (n0+1)=b0 k (V0 k a0 n0):=by kernel_rfl
theorem e0:V0 k a0=l0 k:=aT rfl (s0 k a0) fun _=>rfl
end
theorem eq (k:Nat) (a0:Ty.d di):rn (E k) Tryz.f169 (C k) (a0,())=f k a0:=(show _=t k (V0 k a0 k) a0 by kernel_rfl).trans (by rw [e0];rfl)
theorem ctr (k:Nat):Cp 169 (C k):=rc rfl (D k) (by kernel_rfl) Tryz.func169 (by kernel_rfl) rfl fun ⟨a0,_⟩ r h=>(eq k a0).trans h
end dW
namespace bF
def C (k:Nat):Cn:=⟨[.val .str],[di,.bool],true,false,fun x=>f k x.1⟩
def D (k:Nat):List Ce:=[q (an.ctr k),q (aJ.ctr k),q (ai.ctr k),q (eJ.ctr k),q (dW.ctr k)]
def E (k:Nat):cD:=en (D k) [(8,[0,2,4,5,6,7])] 0 [] k
section
variable (k:Nat) (a0:ByteArray)
def K0:Ex→St→Rs:=c_ (E k) (eK (E k) Tryz.f129 (C k) (a0,())) [.blk 0,.code (at_ (bt 8 255) (body Tryz.f129))]
def V0 (n0:Nat):T0:=fun x0 x1 x2 x3 x4 x5 x6 x7 x8 x9 x10=>ao (bT (E k) (at_ (bt 11 383) (body Tryz.f129))) (ak 0 [0,2,4,5,6,7]) (K0 k a0) n0 (mk 72 5 [(0,.str x0),(2,.ptr 0 0 0),(4,.ptr 2 0 0),(5,.ptr 3 0 0),(6,.int .i64 x1),(7,.int .i64 x2)] [(1,.own false aA x3),(0,.box [.int .i64 x4,.int .i64 x5,.ref 1]),(2,.box [.str x6,.bool x7]),(4,.own false aA x8),(3,.box [.int .i64 x9,.int .i64 x10,.ref 4])])
theorem s0 (n0:Nat):V0 k a0 (n0+1)=b0 k (V0 k a0 n0):=by kernel_rfl
theorem e0:V0 k a0=l0 k:=aT rfl (s0 k a0) fun _=>rfl
end
theorem eq (k:Nat) (a0:ByteArray):rn (E k) Tryz.f129 (C k) (a0,())=f k a0:=(show _=t k (V0 k a0 k) a0 by kernel_rfl).trans (by rw [e0];rfl)
theorem ctr (k:Nat):Cp 129 (C k):=rc rfl (D k) (by kernel_rfl) Tryz.func129 (by kernel_rfl) rfl fun ⟨a0,_⟩ r h=>(eq k a0).trans h
end bF
namespace jN
def C (k:Nat):Cn:=⟨[.val bP],[.str],true,false,fun x=>f k x.1⟩
def D (k:Nat):List Ce:=[q (gF.ctr k),q (dM.ctr k),q (eH.ctr k),q (fg.ctr k),q (dX.ctr k)]
def E (k:Nat):cD:=en (D k) [] 0 [] k
theorem eq (k:Nat) (a0:Ty.d bP):rn (E k) Tryz.f200 (C k) (a0,())=f k a0:=by kernel_rfl
theorem ctr (k:Nat):Cp 200 (C k):=rc rfl (D k) (by kernel_rfl) Tryz.func200 (by kernel_rfl) rfl fun ⟨a0,_⟩ r h=>(eq k a0).trans h
end jN
namespace jE
def C (k:Nat):Cn:=⟨[.val (.slice bP)],[(.int .i64)],true,false,fun x=>f k x.1⟩
def D (k:Nat):List Ce:=[q (jN.ctr k),q (gL.ctr k)]
def E (k:Nat):cD:=en (D k) [(3,[3,6,7,8])] 0 [] k
section
variable (k:Nat) (a0:List (Ty.d bP))
def K0:Ex→St→Rs:=c_ (E k) (eK (E k) Tryz.f172 (C k) (a0,())) [.blk 0,.code (at_ (bt 3 7) (body Tryz.f172))]
def V0 (n0:Nat):T0:=fun x0 x1 x2 x3=>ao (bT (E k) (at_ (bt 6 11) (body Tryz.f172))) (ak 0 [3,6,7,8]) (K0 k a0) n0 (mk 19 0 [(3,.str x0),(6,.sl true bP x1),(7,.int .i64 x2),(8,.int .i64 x3)] [])
theorem s0 (n0:Nat):V0 k a0 (n0+1)=b0 k (V0 k a0 n0):=by kernel_rfl
theorem e0:V0 k a0=l0 k:=aT rfl (s0 k a0) fun _=>rfl
end
theorem eq (k:Nat) (a0:List (Ty.d bP)):rn (E k) Tryz.f172 (C k) (a0,())=f k a0:=(show _=t k (V0 k a0 k) a0 by kernel_rfl).trans (by rw [e0];rfl)
theorem ctr (k:Nat):Cp 172 (C k):=rc rfl (D k) (by kernel_rfl) Tryz.func172 (by kernel_rfl) rfl fun ⟨a0,_⟩ r h=>(eq k a0).trans h
end jE
namespace gb
def C (k:Nat):Cn:=⟨[.val bP,.val (.slice aD)],[.bool],true,false,fun x=>f k x.1 x.2.1⟩
def D (k:Nat):List Ce:=[q (jE.ctr k)]
def E (k:Nat):cD:=en (D k) [(3,[2,5,8,9,10])] 0 [] k
section
variable (k:Nat) (a0:Ty.d bP) (a1:List (Ty.d aD))
def K0:Ex→St→Rs:=c_ (E k) (eK (E k) Tryz.f133 (C k) (a0,a1,())) [.blk 0,.code (at_ (bt 3 7) (body Tryz.f133))]
def V0 (n0:Nat):T0:=fun x0 x1 x2 x3 x4 x5 x6 x7 x8 x9=>ao (bT (E k) (at_ (bt 6 11) (body Tryz.f133))) (ak 0 [2,5,8,9,10]) (K0 k a0 a1) n0 (mk 32 2 [(2,.ptr 0 0 0),(5,.ref 1),(8,.sl true aD x0),(9,.int .i64 x1),(10,.int .i64 x2)] [(0,.box [.int .i64 x3,.int .i64 x4,.str x5,.str x6,.int .i64 x7,.int .i64 x8]),(1,.own false bP x9)])
theorem s0 (n0:Nat):V0 k a0 a1 (n0+1)=b0 k (V0 k a0 a1 n0):=by kernel_rfl
theorem e0:V0 k a0 a1=l0 k:=aT rfl (s0 k a0 a1) fun _=>rfl
end
theorem eq (k:Nat) (a0:Ty.d bP) (a1:List (Ty.d aD)):rn (E k) Tryz.f133 (C k) (a0,a1,())=f k a0 a1:=(show _=t k (V0 k a0 a1 k) a0 a1 by kernel_rfl).trans (by rw [e0];rfl)
theorem ctr (k:Nat):Cp 133 (C k):=rc rfl (D k) (by kernel_rfl) Tryz.func133 (by kernel_rfl) rfl fun ⟨a0,a1,_⟩ r h=>(eq k a0 a1).trans h
end gb
namespace fR
def C (k:Nat):Cn:=⟨[.val (.int .i64),.val .str],[di,.bool],true,false,fun x=>f k x.1 x.2.1⟩
def D (k:Nat):List Ce:=[q (dZ.ctr k),q (au.ctr k),q (eo.ctr k),q (gb.ctr k)]
def E (k:Nat):cD:=en (D k) [(7,[0,4,6,9,67,68,69])] 0 [] k
section
variable (k:Nat) (a0:Int) (a1:ByteArray)
def K0:Ex→St→Rs:=c_ (E k) (eK (E k) Tryz.f170 (C k) (a0,a1,())) [.blk 0,.code (at_ (bt 6 63) (body Tryz.f170))]
def V0 (n0:Nat):T0:=fun x0 x1 x2 x3 x4 x5 x6 x7 x8 x9 x10=>ao (bT (E k) (at_ (bt 9 95) (body Tryz.f170))) (ak 0 [0,4,6,9,67,68,69]) (K0 k a0 a1) n0 (mk 123 4 [(0,.int .i64 x0),(4,.ptr 0 0 0),(6,.sl false bM x1),(9,.ptr 2 0 0),(67,.sl false bM x2),(68,.int .i64 x3),(69,.int .i64 x4)] [(1,.own false aA x5),(0,.box [.int .i64 x6,.int .i64 x7,.ref 1]),(3,.own false aA x8),(2,.box [.int .i64 x9,.int .i64 x10,.ref 3])])
theorem s0 (n0:Nat):V0 k a0 a1 (n0+1)=b0 k (V0 k a0 a1 n0):=by kernel_rfl
theorem e0:V0 k a0 a1=l0 k:=aT rfl (s0 k a0 a1) fun _=>rfl
end
theorem eq (k:Nat) (a0:Int) (a1:ByteArray):rn (E k) Tryz.f170 (C k) (a0,a1,())=f k a0 a1:=(show _=t k (V0 k a0 a1 k) a0 a1 by kernel_rfl).trans (by rw [e0];rfl)
theorem ctr (k:Nat):Cp 170 (C k):=rc rfl (D k) (by kernel_rfl) Tryz.func170 (by kernel_rfl) rfl fun ⟨a0,a1,_⟩ r h=>(eq k a0 a1).trans h
end fR
namespace fa
def C (k:Nat):Cn:=⟨[.val (.slice aA),.val (.slice aA)],[.bool],true,false,fun x=>f k x.1 x.2.1⟩
def E (k:Nat):cD:=en [] [(4,[0,1,12,13])] 0 [] k
section
variable (k:Nat) (a0:List (Ty.d aA)) (a1:List (Ty.d aA))
def K0:Ex→St→Rs:=c_ (E k) (eK (E k) Tryz.f171 (C k) (a0,a1,())) [.blk 0,.code (at_ (bt 3 7) (body Tryz.f171))]
def V0 (n0:Nat):T0:=fun x0 x1 x2 x3=>ao (bT (E k) (at_ (bt 6 11) (body Tryz.f171))) (ak 0 [0,1,12,13]) (K0 k a0 a1) n0 (mk 26 0 [(0,.sl true aA x0),(1,.sl true aA x1),(12,.int .i64 x2),(13,.int .i64 x3)] [])
theorem s0 (n0:Nat):V0 k a0 a1 (n0+1)=b0 k (V0 k a0 a1 n0):=by kernel_rfl
theorem e0:V0 k a0 a1=l0 k:=aT rfl (s0 k a0 a1) fun _=>rfl
end
theorem eq (k:Nat) (a0:List (Ty.d aA)) (a1:List (Ty.d aA)):rn (E k) Tryz.f171 (C k) (a0,a1,())=f k a0 a1:=(show _=t k (V0 k a0 a1 k) a0 a1 by kernel_rfl).trans (by rw [e0];rfl)
theorem ctr (k:Nat):Cp 171 (C k):=rc rfl [] (by kernel_rfl) Tryz.func171 (by kernel_rfl) rfl fun ⟨a0,a1,_⟩ r h=>(eq k a0 a1).trans h
end fa
namespace il
def C (k:Nat):Cn:=⟨[.val (.int .i64),.val .str,.val di],[.bool],true,false,fun x=>f k x.1 x.2.1 x.2.2.1⟩
def D (k:Nat):List Ce:=[q (fR.ctr k),q (fa.ctr k)]
def E (k:Nat):cD:=en (D k) [] 0 [] k
theorem eq (k:Nat) (a0:Int) (a1:ByteArray) (a2:Ty.d di):rn (E k) Tryz.f130 (C k) (a0,a1,a2,())=f k a0 a1 a2:=by kernel_rfl
theorem ctr (k:Nat):Cp 130 (C k):=rc rfl (D k) (by kernel_rfl) Tryz.func130 (by kernel_rfl) rfl fun ⟨a0,a1,a2,_⟩ r h=>(eq k a0 a1 a2).trans h
end il
namespace ck
def C (k:Nat):Cn:=⟨[.io true bA,.val (.int .i64)],[gB,.bool],true,false,fun x=>f k x.1 x.2.1⟩
def D (k:Nat):List Ce:=[q (iq.ctr k),q (cy.ctr k),q (bF.ctr k),q (dp.ctr k),q (il.ctr k)]
def E (k:Nat):cD:=en (D k) [] 1 [] k
theorem eq (k:Nat) (a0:Ty.d bA) (a1:Int):rn (E k) Tryz.f78 (C k) (a0,a1,())=f k a0 a1:=by kernel_rfl
theorem ctr (k:Nat):Cp 78 (C k):=rc rfl (D k) (by kernel_rfl) Tryz.func78 (by kernel_rfl) rfl fun ⟨a0,a1,_⟩ r h=>(eq k a0 a1).trans h
end ck
namespace fA
def C (k:Nat):Cn:=⟨[.val (.slice aA)],[(.slice aA)],true,false,fun x=>f k x.1⟩
def E (k:Nat):cD:=en [] [] 0 [] k
theorem eq (k:Nat) (a0:List (Ty.d aA)):rn (E k) Tryz.f131 (C k) (a0,())=f k a0:=by kernel_rfl
theorem ctr (k:Nat):Cp 131 (C k):=rc rfl [] (by kernel_rfl) Tryz.func131 (by kernel_rfl) rfl fun ⟨a0,_⟩ r h=>(eq k a0).trans h
end fA
namespace d9
def C (k:Nat):Cn:=⟨[.val (.slice aD),.val bP],[(.slice aD)],true,false,fun x=>f k x.1 x.2.1⟩
def E (k:Nat):cD:=en [] [(3,[3,5,9,10,11])] 0 [] k
section
variable (k:Nat) (a0:List (Ty.d aD)) (a1:Ty.d bP)
def K0:Ex→St→Rs:=c_ (E k) (eK (E k) Tryz.f132 (C k) (a0,a1,())) [.blk 0,.code (at_ (bt 3 7) (body Tryz.f132))]
def V0 (n0:Nat):T0:=fun x0 x1 x2 x3 x4 x5 x6 x7 x8 x9=>ao (bT (E k) (at_ (bt 6 11) (body Tryz.f132))) (ak 0 [3,5,9,10,11]) (K0 k a0 a1) n0 (mk 62 2 [(3,.ptr 0 0 0),(5,.ref 1),(9,.sl true aD x0),(10,.int .i64 x1),(11,.int .i64 x2)] [(0,.box [.int .i64 x3,.int .i64 x4,.str x5,.str x6,.int .i64 x7,.int .i64 x8]),(1,.own false aD x9)])
theorem s0 (n0:Nat):V0 k a0 a1 (n0+1)=b0 k (V0 k a0 a1 n0):=by kernel_rfl
theorem e0:V0 k a0 a1=l0 k:=aT rfl (s0 k a0 a1) fun _=>rfl
end
theorem eq (k:Nat) (a0:List (Ty.d aD)) (a1:Ty.d bP):rn (E k) Tryz.f132 (C k) (a0,a1,())=f k a0 a1:=(show _=t k (V0 k a0 a1 k) a0 a1 by kernel_rfl).trans (by rw [e0];rfl)
theorem ctr (k:Nat):Cp 132 (C k):=rc rfl [] (by kernel_rfl) Tryz.func132 (by kernel_rfl) rfl fun ⟨a0,a1,_⟩ r h=>(eq k a0 a1).trans h
end d9
namespace dT
def C (k:Nat):Cn:=⟨[.val (.slice aA),.val .str],[(.slice aA)],true,false,fun x=>f k x.1 x.2.1⟩
def E (k:Nat):cD:=en [] [(3,[1,5,8,9,10])] 0 [] k
section
variable (k:Nat) (a0:List (Ty.d aA)) (a1:ByteArray)
def K0:Ex→St→Rs:=c_ (E k) (eK (E k) Tryz.f173 (C k) (a0,a1,())) [.blk 0,.code (at_ (bt 3 7) (body Tryz.f173))]
def V0 (n0:Nat):T0:=fun x0 x1 x2 x3 x4=>ao (bT (E k) (at_ (bt 6 11) (body Tryz.f173))) (ak 0 [1,5,8,9,10]) (K0 k a0 a1) n0 (mk 24 1 [(1,.str x0),(5,.ref 0),(8,.sl true aA x1),(9,.int .i64 x2),(10,.int .i64 x3)] [(0,.own false aA x4)])
theorem s0 (n0:Nat):V0 k a0 a1 (n0+1)=b0 k (V0 k a0 a1 n0):=by kernel_rfl
theorem e0:V0 k a0 a1=l0 k:=aT rfl (s0 k a0 a1) fun _=>rfl
end
theorem eq (k:Nat) (a0:List (Ty.d aA)) (a1:ByteArray):rn (E k) Tryz.f173 (C k) (a0,a1,())=f k a0 a1:=(show _=t k (V0 k a0 a1 k) a0 a1 by kernel_rfl).trans (by rw [e0];rfl)
theorem ctr (k:Nat):Cp 173 (C k):=rc rfl [] (by kernel_rfl) Tryz.func173 (by kernel_rfl) rfl fun ⟨a0,a1,_⟩ r h=>(eq k a0 a1).trans h
end dT
namespace fM
def C (k:Nat):Cn:=⟨[.val (.slice aA),.val aA],[(.slice aA)],true,false,fun x=>f k x.1 x.2.1⟩
def D (k:Nat):List Ce:=[q (dT.ctr k),q (fA.ctr k)]
def E (k:Nat):cD:=en (D k) [(3,[3,5,6])] 0 [] k
section
variable (k:Nat) (a0:List (Ty.d aA)) (a1:Ty.d aA)
def K0:Ex→St→Rs:=c_ (E k) (eK (E k) Tryz.f174 (C k) (a0,a1,())) [.blk 0,.code (at_ (bt 4 15) (body Tryz.f174))]
def V0 (n0:Nat):T0:=fun x0 x1 x2 x3 x4 x5 x6=>ao (bT (E k) (at_ (bt 6 7) (body Tryz.f174))) (ak 0 [3,5,6]) (K0 k a0 a1) n0 (mk 38 2 [(3,.ptr 0 0 0),(5,.ref 1),(6,.int .i64 x0)] [(0,.box [.str x1,.int .i64 x2,.int .i64 x3,.int .i64 x4,.int .i64 x5]),(1,.own false aA x6)])
theorem s0 (n0:Nat):V0 k a0 a1 (n0+1)=b0 k (V0 k a0 a1 n0):=by kernel_rfl
theorem e0:V0 k a0 a1=l0 k:=aT rfl (s0 k a0 a1) fun _=>rfl
end
theorem eq (k:Nat) (a0:List (Ty.d aA)) (a1:Ty.d aA):rn (E k) Tryz.f174 (C k) (a0,a1,())=f k a0 a1:=(show _=t k (V0 k a0 a1 k) a0 a1 by kernel_rfl).trans (by rw [e0];rfl)
theorem ctr (k:Nat):Cp 174 (C k):=rc rfl (D k) (by kernel_rfl) Tryz.func174 (by kernel_rfl) rfl fun ⟨a0,a1,_⟩ r h=>(eq k a0 a1).trans h
end fM
namespace cJ
def C (k:Nat):Cn:=⟨[.io true gB,.val (.slice aD)],[],true,false,fun x=>f k x.1 x.2.1⟩
def D (k:Nat):List Ce:=[q (dT.ctr k),q (fM.ctr k)]
def E (k:Nat):cD:=en (D k) [(1,[0,6,7,8])] 1 [] k
section
variable (k:Nat) (a0:Ty.d gB) (a1:List (Ty.d aD))
def K0:Ex→St→Rs:=c_ (E k) (eK (E k) Tryz.f134 (C k) (a0,a1,())) [.blk 0,.code (at_ (bt 1 1) (body Tryz.f134))]
def V0 (n0:Nat):T0:=fun x0 x1 x2 x3 x4 x5=>ao (bT (E k) (at_ (bt 4 2) (body Tryz.f134))) (ak 1 [0,6,7,8]) (K0 k a0 a1) n0 (mk 58 2 [(0,.ptr 0 0 0),(6,.sl true aD x0),(7,.int .i64 x1),(8,.int .i64 x2)] [(1,.own false aA x3),(0,.box [.ref 1,.int .i64 x4,.int .i64 x5])])
theorem s0 (n0:Nat):V0 k a0 a1 (n0+1)=b0 k (V0 k a0 a1 n0):=by kernel_rfl
theorem e0:V0 k a0 a1=l0 k:=aT rfl (s0 k a0 a1) fun _=>rfl
end
theorem eq (k:Nat) (a0:Ty.d gB) (a1:List (Ty.d aD)):rn (E k) Tryz.f134 (C k) (a0,a1,())=f k a0 a1:=(show _=t k (V0 k a0 a1 k) a0 a1 by kernel_rfl).trans (by rw [e0];rfl)
theorem ctr (k:Nat):Cp 134 (C k):=rc rfl (D k) (by kernel_rfl) Tryz.func134 (by kernel_rfl) rfl fun ⟨a0,a1,_⟩ r h=>(eq k a0 a1).trans h
end cJ
namespace dN
def C (k:Nat):Cn:=⟨[.val gB,.val (.slice aD)],[gB],true,false,fun x=>f k x.1 x.2.1⟩
def D (k:Nat):List Ce:=[q (fA.ctr k),q (d9.ctr k),q (gb.ctr k),q (cJ.ctr k)]
def E (k:Nat):cD:=en (D k) [(3,[1,4,5,17,18,19])] 0 [] k
section
variable (k:Nat) (a0:Ty.d gB) (a1:List (Ty.d aD))
def K0:Ex→St→Rs:=c_ (E k) (eK (E k) Tryz.f79 (C k) (a0,a1,())) [.blk 0,.code (at_ (bt 3 7) (body Tryz.f79))]
def V0 (n0:Nat):T0:=fun x0 x1 x2 x3 x4 x5 x6 x7 x8 x9=>ao (bT (E k) (at_ (bt 6 11) (body Tryz.f79))) (ak 0 [1,4,5,17,18,19]) (K0 k a0 a1) n0 (mk 77 4 [(1,.sl true aD x0),(4,.ptr 0 0 0),(5,.ptr 2 0 0),(17,.sl true aD x1),(18,.int .i64 x2),(19,.int .i64 x3)] [(1,.own false aA x4),(0,.box [.ref 1,.int .i64 x5,.int .i64 x6]),(3,.own false aA x7),(2,.box [.ref 3,.int .i64 x8,.int .i64 x9])])
theorem s0 (n0:Nat):V0 k a0 a1 (n0+1)=b0 k (V0 k a0 a1 n0):=by kernel_rfl
theorem e0:V0 k a0 a1=l0 k:=aT rfl (s0 k a0 a1) fun _=>rfl
end
theorem eq (k:Nat) (a0:Ty.d gB) (a1:List (Ty.d aD)):rn (E k) Tryz.f79 (C k) (a0,a1,())=f k a0 a1:=(show _=t k (V0 k a0 a1 k) a0 a1 by kernel_rfl).trans (by rw [e0];rfl)
theorem ctr (k:Nat):Cp 79 (C k):=rc rfl (D k) (by kernel_rfl) Tryz.func79 (by kernel_rfl) rfl fun ⟨a0,a1,_⟩ r h=>(eq k a0 a1).trans h
end dN
namespace lF
def C (k:Nat):Cn:=⟨[.val .str],[(.int .i64),.bool],true,false,fun x=>f k x.1⟩
def D (k:Nat):List Ce:=[q (iB.ctr k),q (cT.ctr k),q (au.ctr k)]
def E (k:Nat):cD:=en (D k) [] 0 [] k
theorem eq (k:Nat) (a0:ByteArray):rn (E k) Tryz.f175 (C k) (a0,())=f k a0:=by kernel_rfl
theorem ctr (k:Nat):Cp 175 (C k):=rc rfl (D k) (by kernel_rfl) Tryz.func175 (by kernel_rfl) rfl fun ⟨a0,_⟩ r h=>(eq k a0).trans h
end lF
namespace gR
def C (k:Nat):Cn:=⟨[.val (.slice (.int .i64)),.val (.int .i64)],[.bool],true,false,fun x=>f k x.1 x.2.1⟩
def E (k:Nat):cD:=en [] [(2,[1,7,8,9])] 0 [] k
section
variable (k:Nat) (a0:List Int) (a1:Int)
def K0:Ex→St→Rs:=c_ (E k) (eK (E k) Tryz.f176 (C k) (a0,a1,())) [.blk 0,.code (at_ (bt 2 3) (body Tryz.f176))]
def V0 (n0:Nat):T0:=fun x0 x1 x2 x3=>ao (bT (E k) (at_ (bt 5 5) (body Tryz.f176))) (ak 0 [1,7,8,9]) (K0 k a0 a1) n0 (mk 17 0 [(1,.int .i64 x0),(7,.sl true (.int .i64) x1),(8,.int .i64 x2),(9,.int .i64 x3)] [])
theorem s0 (n0:Nat):V0 k a0 a1 (n0+1)=b0 k (V0 k a0 a1 n0):=by kernel_rfl
theorem e0:V0 k a0 a1=l0 k:=aT rfl (s0 k a0 a1) fun _=>rfl
end
theorem eq (k:Nat) (a0:List Int) (a1:Int):rn (E k) Tryz.f176 (C k) (a0,a1,())=f k a0 a1:=(show _=t k (V0 k a0 a1 k) a0 a1 by kernel_rfl).trans (by rw [e0];rfl)
theorem ctr (k:Nat):Cp 176 (C k):=rc rfl [] (by kernel_rfl) Tryz.func176 (by kernel_rfl) rfl fun ⟨a0,a1,_⟩ r h=>(eq k a0 a1).trans h
end gR
namespace fZ
def C (k:Nat):Cn:=⟨[.val a_,.val ay],[(.slice .str)],true,false,fun x=>f k x.1 x.2.1⟩
def D (k:Nat):List Ce:=[q (bC.ctr k),q (lF.ctr k),q (gR.ctr k)]
def E (k:Nat):cD:=en (D k) [(5,[3,5,14,15,16])] 0 [] k
section
variable (k:Nat) (a0:Ty.d a_) (a1:Ty.d ay)
def K0:Ex→St→Rs:=c_ (E k) (eK (E k) Tryz.f135 (C k) (a0,a1,())) [.blk 0,.code (at_ (bt 4 15) (body Tryz.f135))]
def V0 (n0:Nat):T0:=fun x0 x1 x2 x3 x4 x5=>ao (bT (E k) (at_ (bt 7 23) (body Tryz.f135))) (ak 0 [3,5,14,15,16]) (K0 k a0 a1) n0 (mk 46 2 [(3,.ptr 0 0 0),(5,.ref 1),(14,.sl true aB x0),(15,.int .i64 x1),(16,.int .i64 x2)] [(0,.box [.int .i64 x3,.sl true (.int .i64) x4]),(1,.own false .str x5)])
theorem s0 (n0:Nat):V0 k a0 a1 (n0+1)=b0 k (V0 k a0 a1 n0):=by kernel_rfl
theorem e0:V0 k a0 a1=l0 k:=aT rfl (s0 k a0 a1) fun _=>rfl
end
theorem eq (k:Nat) (a0:Ty.d a_) (a1:Ty.d ay):rn (E k) Tryz.f135 (C k) (a0,a1,())=f k a0 a1:=(show _=t k (V0 k a0 a1 k) a0 a1 by kernel_rfl).trans (by rw [e0];rfl)
theorem ctr (k:Nat):Cp 135 (C k):=rc rfl (D k) (by kernel_rfl) Tryz.func135 (by kernel_rfl) rfl fun ⟨a0,a1,_⟩ r h=>(eq k a0 a1).trans h
end fZ
namespace eW
def C (k:Nat):Cn:=⟨[.io true a_,.val .str],[],true,false,fun x=>f k x.1 x.2.1⟩
def D (k:Nat):List Ce:=[q (bV.ctr k)]
def E (k:Nat):cD:=en (D k) [] 1 [] k
theorem eq (k:Nat) (a0:Ty.d a_) (a1:ByteArray):rn (E k) Tryz.f204 (C k) (a0,a1,())=f k a0 a1:=by kernel_rfl
theorem ctr (k:Nat):Cp 204 (C k):=rc rfl (D k) (by kernel_rfl) Tryz.func204 (by kernel_rfl) rfl fun ⟨a0,a1,_⟩ r h=>(eq k a0 a1).trans h
end eW
namespace fz
def C (k:Nat):Cn:=⟨[.io true a_,.io true .str],[(.int .i64)],true,false,fun x=>f k x.1 x.2.1⟩
def D (k:Nat):List Ce:=[q (bV.ctr k),q (eW.ctr k)]
def E (k:Nat):cD:=en (D k) [] 2 [] k
theorem eq (k:Nat) (a0:Ty.d a_) (a1:ByteArray):rn (E k) Tryz.f203 (C k) (a0,a1,())=f k a0 a1:=by kernel_rfl
theorem ctr (k:Nat):Cp 203 (C k):=rc rfl (D k) (by kernel_rfl) Tryz.func203 (by kernel_rfl) rfl fun ⟨a0,a1,_⟩ r h=>(eq k a0 a1).trans h
end fz
namespace gE
def C (k:Nat):Cn:=⟨[.val a_,.fn 203 1,.io true .str],[a_,(.int .i64)],true,false,fun x=>f k x.1 x.2.1⟩
def D (k:Nat):List Ce:=[q (bU.ctr k),q (bC.ctr k),q (fz.ctr k)]
def E (k:Nat):cD:=en (D k) [] 1 [] k
theorem eq (k:Nat) (a0:Ty.d a_) (a1:ByteArray):rn (E k) Tryz.f125 (C k) (a0,a1,())=f k a0 a1:=by kernel_rfl
theorem ctr (k:Nat):Cp 125 (C k):=rc rfl (D k) (by kernel_rfl) Tryz.func125 (by kernel_rfl) rfl fun ⟨a0,a1,_⟩ r h=>(eq k a0 a1).trans h
end gE
namespace jy
def C (k:Nat):Cn:=⟨[.val a_,.val .str],[a_,(.int .i64)],true,false,fun x=>f k x.1 x.2.1⟩
def D (k:Nat):List Ce:=[q (gE.ctr k)]
def E (k:Nat):cD:=en (D k) [] 0 [] k
theorem eq (k:Nat) (a0:Ty.d a_) (a1:ByteArray):rn (E k) Tryz.f177 (C k) (a0,a1,())=f k a0 a1:=by kernel_rfl
theorem ctr (k:Nat):Cp 177 (C k):=rc rfl (D k) (by kernel_rfl) Tryz.func177 (by kernel_rfl) rfl fun ⟨a0,a1,_⟩ r h=>(eq k a0 a1).trans h
end jy
namespace eA
def C (k:Nat):Cn:=⟨[.io true bA,.val .str],[],true,false,fun x=>f k x.1 x.2.1⟩
def D (k:Nat):List Ce:=[q (bV.ctr k),q (jy.ctr k),q (az.ctr k)]
def E (k:Nat):cD:=en (D k) [] 1 [] k
theorem eq (k:Nat) (a0:Ty.d bA) (a1:ByteArray):rn (E k) Tryz.f136 (C k) (a0,a1,())=f k a0 a1:=by kernel_rfl
theorem ctr (k:Nat):Cp 136 (C k):=rc rfl (D k) (by kernel_rfl) Tryz.func136 (by kernel_rfl) rfl fun ⟨a0,a1,_⟩ r h=>(eq k a0 a1).trans h
end eA
namespace af
def C (k:Nat):Cn:=⟨[.io true bA,.val ay],[],true,false,fun x=>f k x.1 x.2.1⟩
def D (k:Nat):List Ce:=[q (fZ.ctr k),q (eA.ctr k)]
def E (k:Nat):cD:=en (D k) [(2,[0,11,12,13])] 1 [] k
section
variable (k:Nat) (a0:Ty.d bA) (a1:Ty.d ay)
def K0:Ex→St→Rs:=c_ (E k) (eK (E k) Tryz.f80 (C k) (a0,a1,())) [.blk 0]
def V0 (n0:Nat):T0:=fun x0 x1 x2 x3 x4 x5 x6 x7=>ao (bT (E k) (at_ (bt 4 3) (body Tryz.f80))) (ak 1 [0,11,12,13]) (K0 k a0 a1) n0 (mk 21 3 [(0,.ptr 0 0 0),(11,.ref 2),(12,.int .i64 x0),(13,.int .i64 x1)] [(1,.own false aB x2),(0,.box [.ref 1,.int .i64 x3,.int .i64 x4,.bool x5,.int .i64 x6]),(2,.own false .str x7)])
theorem s0 (n0:Nat):V0 k a0 a1 (n0+1)=b0 k (V0 k a0 a1 n0):=by kernel_rfl
theorem e0:V0 k a0 a1=l0 k:=aT rfl (s0 k a0 a1) fun _=>rfl
end
theorem eq (k:Nat) (a0:Ty.d bA) (a1:Ty.d ay):rn (E k) Tryz.f80 (C k) (a0,a1,())=f k a0 a1:=(show _=t k (V0 k a0 a1 k) a0 a1 by kernel_rfl).trans (by rw [e0];rfl)
theorem ctr (k:Nat):Cp 80 (C k):=rc rfl (D k) (by kernel_rfl) Tryz.func80 (by kernel_rfl) rfl fun ⟨a0,a1,_⟩ r h=>(eq k a0 a1).trans h
end af
namespace aR
def C (k:Nat):Cn:=⟨[.io true bA,.val .str],[aG],true,false,fun x=>f k x.1 x.2.1⟩
def D (k:Nat):List Ce:=[q (b7.ctr k),q (bN.ctr k),q (dp.ctr k),q (cy.ctr k),q (iu.ctr k),q (az.ctr k),q (d7.ctr k),q (ck.ctr k),q (dN.ctr k),q (af.ctr k)]
def E (k:Nat):cD:=en (D k) [(20,[0,4,5,13,14,16,103,104,105])] 1 [] k
section
variable (k:Nat) (a0:Ty.d bA) (a1:ByteArray)
def K0:Ex→St→Rs:=c_ (E k) (eK (E k) Tryz.f28 (C k) (a0,a1,())) [.blk 0,.code (at_ (bt 13 8191) (body Tryz.f28))]
def V0 (n0:Nat):T0:=fun x0 x1 x2 x3 x4 x5 x6 x7 x8 x9 x10 x11 x12 x13 x14 x15 x16 x17 x18 x19 x20 x21 x22 x23 x24=>ao (bT (E k) (at_ (bt 16 12287) (body Tryz.f28))) (ak 1 [0,4,5,13,14,16,103,104,105]) (K0 k a0 a1) n0 (mk 134 12 [(0,.ptr 0 0 0),(4,.ptr 2 0 0),(5,.ptr 5 0 0),(13,.ptr 7 0 0),(14,.ptr 9 0 0),(16,.ref 11),(103,.sl false (.slice aD) x0),(104,.int .i64 x1),(105,.int .i64 x2)] [(1,.own false aB x3),(0,.box [.ref 1,.int .i64 x4,.int .i64 x5,.bool x6,.int .i64 x7]),(3,.own false (.int .i64) x8),(4,.own false aA x9),(2,.box [.int .i64 x10,.ref 3,.ref 4,.int .i64 x11,.int .i64 x12,.int .i64 x13]),(6,.own false (.int .i64) x14),(5,.box [.int .i64 x15,.ref 6]),(8,.own false aA x16),(7,.box [.int .i64 x17,.ref 6,.ref 8,.int .i64 x18,.int .i64 x19,.int .i64 x20]),(10,.own false aA x21),(9,.box [.ref 10,.int .i64 x22,.int .i64 x23]),(11,.own false aD x24)])
def V1 (n0:Nat):T1:=fun x0 x1 x2 x3 x4 x5 x6 x7 x8 x9 x10 x11 x12 x13 x14 x15 x16 x17 x18 x19 x20 x21 x22 x23 x24=>ao (bT (E k) (at_ (bt 16 12287) (body Tryz.f28))) (ak 1 [0,4,5,13,14,16,103,104,105]) (K0 k a0 a1) n0 (mk 134 13 [(0,.ptr 0 0 0),(4,.ptr 2 0 0),(5,.ptr 5 0 0),(13,.ptr 7 0 0),(14,.ptr 9 0 0),(16,.ref 11),(103,.ref 12),(104,.int .i64 x0),(105,.int .i64 x1)] [(1,.own false aB x2),(0,.box [.ref 1,.int .i64 x3,.int .i64 x4,.bool x5,.int .i64 x6]),(3,.own false (.int .i64) x7),(4,.own false aA x8),(2,.box [.int .i64 x9,.ref 3,.ref 4,.int .i64 x10,.int .i64 x11,.int .i64 x12]),(6,.own false (.int .i64) x13),(5,.box [.int .i64 x14,.ref 6]),(8,.own false aA x15),(7,.box [.int .i64 x16,.ref 6,.ref 8,.int .i64 x17,.int .i64 x18,.int .i64 x19]),(10,.own false aA x20),(9,.box [.ref 10,.int .i64 x21,.int .i64 x22]),(11,.own false aD x23),(12,.own false (.slice aD) x24)])
def V2 (n0:Nat):T2:=fun x0 x1 x2 x3 x4 x5 x6 x7 x8 x9 x10 x11 x12 x13 x14 x15 x16 x17 x18 x19 x20 x21 x22 x23 x24=>ao (bT (E k) (at_ (bt 16 12287) (body Tryz.f28))) (ak 1 [0,4,5,13,14,16,103,104,105]) (K0 k a0 a1) n0 (mk 134 12 [(0,.ptr 0 0 0),(4,.ptr 2 0 0),(5,.ptr 5 0 0),(13,.ptr 7 0 0),(14,.ptr 9 0 0),(16,.ref 11),(103,.sl false (.slice aD) x0),(104,.int .i64 x1),(105,.int .i64 x2)] [(1,.own false aB x3),(0,.box [.ref 1,.int .i64 x4,.int .i64 x5,.bool x6,.int .i64 x7]),(3,.own false (.int .i64) x8),(4,.own false aA x9),(2,.box [.int .i64 x10,.ref 3,.ref 4,.int .i64 x11,.int .i64 x12,.int .i64 x13]),(6,.own false (.int .i64) x14),(5,.box [.int .i64 x15,.ref 6]),(8,.own false aA x16),(7,.box [.int .i64 x17,.ref 6,.ref 8,.int .i64 x18,.int .i64 x19,.int .i64 x20]),(10,.own false aA x21),(9,.box [.ref 10,.int .i64 x22,.int .i64 x23]),(11,.own false aD x24)])
def V3 (n0:Nat):T3:=fun x0 x1 x2 x3 x4 x5 x6 x7 x8 x9 x10 x11 x12 x13 x14 x15 x16 x17 x18 x19 x20 x21 x22 x23 x24=>ao (bT (E k) (at_ (bt 16 12287) (body Tryz.f28))) (ak 1 [0,4,5,13,14,16,103,104,105]) (K0 k a0 a1) n0 (mk 134 13 [(0,.ptr 0 0 0),(4,.ptr 2 0 0),(5,.ptr 5 0 0),(13,.ptr 7 0 0),(14,.ptr 9 0 0),(16,.ref 11),(103,.ref 12),(104,.int .i64 x0),(105,.int .i64 x1)] [(1,.own false aB x2),(0,.box [.ref 1,.int .i64 x3,.int .i64 x4,.bool x5,.int .i64 x6]),(3,.own false (.int .i64) x7),(4,.own false aA x8),(2,.box [.int .i64 x9,.ref 3,.ref 4,.int .i64 x10,.int .i64 x11,.int .i64 x12]),(6,.own false (.int .i64) x13),(5,.box [.int .i64 x14,.ref 6]),(8,.own false aA x15),(7,.box [.int .i64 x16,.ref 6,.ref 8,.int .i64 x17,.int .i64 x18,.int .i64 x19]),(10,.own false aA x20),(9,.box [.ref 10,.int .i64 x21,.int .i64 x22]),(11,.own false aD x23),(12,.own false (.slice aD) x24)])
theorem s0 (n0:Nat):V0 k a0 a1 (n0+1)=b0 k (V0 k a0 a1 n0):=by kernel_rfl
theorem s1 (n0:Nat):V1 k a0 a1 (n0+1)=b1 k (V1 k a0 a1 n0):=by kernel_rfl
theorem s2 (n0:Nat):V2 k a0 a1 (n0+1)=b2 k (V2 k a0 a1 n0):=by kernel_rfl
theorem s3 (n0:Nat):V3 k a0 a1 (n0+1)=b3 k (V3 k a0 a1 n0):=by kernel_rfl
theorem e0:V0 k a0 a1=l0 k:=aT rfl (s0 k a0 a1) fun _=>rfl
theorem e1:V1 k a0 a1=l1 k:=aT rfl (s1 k a0 a1) fun _=>rfl
theorem e2:V2 k a0 a1=l2 k:=aT rfl (s2 k a0 a1) fun _=>rfl
theorem e3:V3 k a0 a1=l3 k:=aT rfl (s3 k a0 a1) fun _=>rfl
end
theorem eq (k:Nat) (a0:Ty.d bA) (a1:ByteArray):rn (E k) Tryz.f28 (C k) (a0,a1,())=f k a0 a1:=(show _=t k (V0 k a0 a1 k) (V1 k a0 a1 k) (V2 k a0 a1 k) (V3 k a0 a1 k) a0 a1 by kernel_rfl).trans (by rw [e0,e1,e2,e3];rfl)
theorem ctr (k:Nat):Cp 28 (C k):=rc rfl (D k) (by kernel_rfl) Tryz.func28 (by kernel_rfl) rfl fun ⟨a0,a1,_⟩ r h=>(eq k a0 a1).trans h
end aR
namespace dA
def C (k:Nat):Cn:=⟨[.io true a_,.val aB],[],true,false,fun x=>f k x.1 x.2.1⟩
def E (k:Nat):cD:=en [] [(2,[0,3,4])] 1 [] k
section
variable (k:Nat) (a0:Ty.d a_) (a1:Ty.d aB)
def K0:Ex→St→Rs:=c_ (E k) (eK (E k) Tryz.f179 (C k) (a0,a1,())) [.blk 0,.code (at_ (bt 3 7) (body Tryz.f179))]
def V0 (n0:Nat):T0:=fun x0 x1 x2 x3 x4 x5 x6 x7=>ao (bT (E k) (at_ (bt 5 3) (body Tryz.f179))) (ak 1 [0,3,4]) (K0 k a0 a1) n0 (mk 47 3 [(0,.ptr 0 0 0),(3,.ptr 2 0 0),(4,.int .i64 x0)] [(1,.own false aB x1),(0,.box [.ref 1,.int .i64 x2,.int .i64 x3,.bool x4]),(2,.box [.str x5,.str x6,.int .i64 x7])])
theorem s0 (n0:Nat):V0 k a0 a1 (n0+1)=b0 k (V0 k a0 a1 n0):=by kernel_rfl
theorem e0:V0 k a0 a1=l0 k:=aT rfl (s0 k a0 a1) fun _=>rfl
end
theorem eq (k:Nat) (a0:Ty.d a_) (a1:Ty.d aB):rn (E k) Tryz.f179 (C k) (a0,a1,())=f k a0 a1:=(show _=t k (V0 k a0 a1 k) a0 a1 by kernel_rfl).trans (by rw [e0];rfl)
theorem ctr (k:Nat):Cp 179 (C k):=rc rfl [] (by kernel_rfl) Tryz.func179 (by kernel_rfl) rfl fun ⟨a0,a1,_⟩ r h=>(eq k a0 a1).trans h
end dA
namespace g8
def C (k:Nat):Cn:=⟨[.io true a_,.io true .str],[(.int .i64)],true,false,fun x=>f k x.1 x.2.1⟩
def D (k:Nat):List Ce:=[q (eI.ctr k),q (bV.ctr k),q (dA.ctr k)]
def E (k:Nat):cD:=en (D k) [] 2 [] k
theorem eq (k:Nat) (a0:Ty.d a_) (a1:ByteArray):rn (E k) Tryz.f178 (C k) (a0,a1,())=f k a0 a1:=by kernel_rfl
theorem ctr (k:Nat):Cp 178 (C k):=rc rfl (D k) (by kernel_rfl) Tryz.func178 (by kernel_rfl) rfl fun ⟨a0,a1,_⟩ r h=>(eq k a0 a1).trans h
end g8
namespace gH
def C (k:Nat):Cn:=⟨[.val a_,.fn 178 1,.io true .str],[a_,(.int .i64)],true,false,fun x=>f k x.1 x.2.1⟩
def D (k:Nat):List Ce:=[q (bU.ctr k),q (bC.ctr k),q (g8.ctr k)]
def E (k:Nat):cD:=en (D k) [] 1 [] k
theorem eq (k:Nat) (a0:Ty.d a_) (a1:ByteArray):rn (E k) Tryz.f125 (C k) (a0,a1,())=f k a0 a1:=by kernel_rfl
theorem ctr (k:Nat):Cp 125 (C k):=rc rfl (D k) (by kernel_rfl) Tryz.func125 (by kernel_rfl) rfl fun ⟨a0,a1,_⟩ r h=>(eq k a0 a1).trans h
end gH
namespace k6
def C (k:Nat):Cn:=⟨[.val a_,.val .str],[a_,(.int .i64)],true,false,fun x=>f k x.1 x.2.1⟩
def D (k:Nat):List Ce:=[q (gH.ctr k)]
def E (k:Nat):cD:=en (D k) [] 0 [] k
theorem eq (k:Nat) (a0:Ty.d a_) (a1:ByteArray):rn (E k) Tryz.f137 (C k) (a0,a1,())=f k a0 a1:=by kernel_rfl
theorem ctr (k:Nat):Cp 137 (C k):=rc rfl (D k) (by kernel_rfl) Tryz.func137 (by kernel_rfl) rfl fun ⟨a0,a1,_⟩ r h=>(eq k a0 a1).trans h
end k6
namespace dJ
def C (k:Nat):Cn:=⟨[.io true bA,.val .str],[],true,false,fun x=>f k x.1 x.2.1⟩
def D (k:Nat):List Ce:=[q (k6.ctr k),q (az.ctr k)]
def E (k:Nat):cD:=en (D k) [] 1 [] k
theorem eq (k:Nat) (a0:Ty.d bA) (a1:ByteArray):rn (E k) Tryz.f81 (C k) (a0,a1,())=f k a0 a1:=by kernel_rfl
theorem ctr (k:Nat):Cp 81 (C k):=rc rfl (D k) (by kernel_rfl) Tryz.func81 (by kernel_rfl) rfl fun ⟨a0,a1,_⟩ r h=>(eq k a0 a1).trans h
end dJ
namespace ir
def C (k:Nat):Cn:=⟨[.val ay],[.str],true,false,fun x=>f k x.1⟩
def D (k:Nat):List Ce:=[q (dQ.ctr k),q (dM.ctr k),q (jU.ctr k)]
def E (k:Nat):cD:=en (D k) [] 0 [] k
theorem eq (k:Nat) (a0:Ty.d ay):rn (E k) Tryz.f139 (C k) (a0,())=f k a0:=by kernel_rfl
theorem ctr (k:Nat):Cp 139 (C k):=rc rfl (D k) (by kernel_rfl) Tryz.func139 (by kernel_rfl) rfl fun ⟨a0,_⟩ r h=>(eq k a0).trans h
end ir
namespace fm
def C (k:Nat):Cn:=⟨[.io true bA,.val .str],[],true,false,fun x=>f k x.1 x.2.1⟩
def D (k:Nat):List Ce:=[q (eA.ctr k),q (dJ.ctr k)]
def E (k:Nat):cD:=en (D k) [] 1 [] k
theorem eq (k:Nat) (a0:Ty.d bA) (a1:ByteArray):rn (E k) Tryz.f180 (C k) (a0,a1,())=f k a0 a1:=by kernel_rfl
theorem ctr (k:Nat):Cp 180 (C k):=rc rfl (D k) (by kernel_rfl) Tryz.func180 (by kernel_rfl) rfl fun ⟨a0,a1,_⟩ r h=>(eq k a0 a1).trans h
end fm
namespace ix
def C (k:Nat):Cn:=⟨[.val a_],[(.int .i64)],true,false,fun x=>f k x.1⟩
def E (k:Nat):cD:=en [] [(3,[3,7,8,9])] 0 [] k
section
variable (k:Nat) (a0:Ty.d a_)
def K0:Ex→St→Rs:=c_ (E k) (eK (E k) Tryz.f215 (C k) (a0,())) [.blk 0,.code (at_ (bt 3 7) (body Tryz.f215))]
def V0 (n0:Nat):T0:=fun x0 x1 x2 x3=>ao (bT (E k) (at_ (bt 6 11) (body Tryz.f215))) (ak 0 [3,7,8,9]) (K0 k a0) n0 (mk 20 0 [(3,.int .i64 x0),(7,.sl true aB x1),(8,.int .i64 x2),(9,.int .i64 x3)] [])
theorem s0 (n0:Nat):V0 k a0 (n0+1)=b0 k (V0 k a0 n0):=by kernel_rfl
theorem e0:V0 k a0=l0 k:=aT rfl (s0 k a0) fun _=>rfl
end
theorem eq (k:Nat) (a0:Ty.d a_):rn (E k) Tryz.f215 (C k) (a0,())=f k a0:=(show _=t k (V0 k a0 k) a0 by kernel_rfl).trans (by rw [e0];rfl)
theorem ctr (k:Nat):Cp 215 (C k):=rc rfl [] (by kernel_rfl) Tryz.func215 (by kernel_rfl) rfl fun ⟨a0,_⟩ r h=>(eq k a0).trans h
end ix
namespace fw
def C (k:Nat):Cn:=⟨[.io true a_,.io true .str,.io true .str],[(.int .i64)],true,false,fun x=>f k x.1 x.2.1 x.2.2.1⟩
def D (k:Nat):List Ce:=[q (bV.ctr k),q (ix.ctr k)]
def E (k:Nat):cD:=en (D k) [] 3 [] k
theorem eq (k:Nat) (a0:Ty.d a_) (a1:ByteArray) (a2:ByteArray):rn (E k) Tryz.f214 (C k) (a0,a1,a2,())=f k a0 a1 a2:=by kernel_rfl
theorem ctr (k:Nat):Cp 214 (C k):=rc rfl (D k) (by kernel_rfl) Tryz.func214 (by kernel_rfl) rfl fun ⟨a0,a1,a2,_⟩ r h=>(eq k a0 a1 a2).trans h
end fw
namespace gC
def C (k:Nat):Cn:=⟨[.val a_,.fn 214 2,.io true .str,.io true .str],[a_,(.int .i64)],true,false,fun x=>f k x.1 x.2.1 x.2.2.1⟩
def D (k:Nat):List Ce:=[q (bU.ctr k),q (bC.ctr k),q (fw.ctr k)]
def E (k:Nat):cD:=en (D k) [] 2 [] k
theorem eq (k:Nat) (a0:Ty.d a_) (a1:ByteArray) (a2:ByteArray):rn (E k) Tryz.f125 (C k) (a0,a1,a2,())=f k a0 a1 a2:=by kernel_rfl
theorem ctr (k:Nat):Cp 125 (C k):=rc rfl (D k) (by kernel_rfl) Tryz.func125 (by kernel_rfl) rfl fun ⟨a0,a1,a2,_⟩ r h=>(eq k a0 a1 a2).trans h
end gC
namespace k8
def C (k:Nat):Cn:=⟨[.val a_,.val .str,.val .str],[a_,(.int .i64)],true,false,fun x=>f k x.1 x.2.1 x.2.2.1⟩
def D (k:Nat):List Ce:=[q (gC.ctr k)]
def E (k:Nat):cD:=en (D k) [] 0 [] k
theorem eq (k:Nat) (a0:Ty.d a_) (a1:ByteArray) (a2:ByteArray):rn (E k) Tryz.f205 (C k) (a0,a1,a2,())=f k a0 a1 a2:=by kernel_rfl
theorem ctr (k:Nat):Cp 205 (C k):=rc rfl (D k) (by kernel_rfl) Tryz.func205 (by kernel_rfl) rfl fun ⟨a0,a1,a2,_⟩ r h=>(eq k a0 a1 a2).trans h
end k8
namespace gM
def C (k:Nat):Cn:=⟨[.io true bA,.val .str,.val .str],[],true,false,fun x=>f k x.1 x.2.1 x.2.2.1⟩
def D (k:Nat):List Ce:=[q (k8.ctr k),q (az.ctr k)]
def E (k:Nat):cD:=en (D k) [] 1 [] k
theorem eq (k:Nat) (a0:Ty.d bA) (a1:ByteArray) (a2:ByteArray):rn (E k) Tryz.f181 (C k) (a0,a1,a2,())=f k a0 a1 a2:=by kernel_rfl
theorem ctr (k:Nat):Cp 181 (C k):=rc rfl (D k) (by kernel_rfl) Tryz.func181 (by kernel_rfl) rfl fun ⟨a0,a1,a2,_⟩ r h=>(eq k a0 a1 a2).trans h
end gM
namespace ek
def C (k:Nat):Cn:=⟨[.io true bA,.val .str,.val .str],[],true,false,fun x=>f k x.1 x.2.1 x.2.2.1⟩
def D (k:Nat):List Ce:=[q (fm.ctr k),q (gM.ctr k),q (d7.ctr k)]
def E (k:Nat):cD:=en (D k) [] 1 [] k
theorem eq (k:Nat) (a0:Ty.d bA) (a1:ByteArray) (a2:ByteArray):rn (E k) Tryz.f138 (C k) (a0,a1,a2,())=f k a0 a1 a2:=by kernel_rfl
theorem ctr (k:Nat):Cp 138 (C k):=rc rfl (D k) (by kernel_rfl) Tryz.func138 (by kernel_rfl) rfl fun ⟨a0,a1,a2,_⟩ r h=>(eq k a0 a1 a2).trans h
end ek
namespace g7
def C (k:Nat):Cn:=⟨[.io true a_,.io true .str,.io true .str],[(.int .i64)],true,false,fun x=>f k x.1 x.2.1 x.2.2.1⟩
def D (k:Nat):List Ce:=[q (bV.ctr k),q (eI.ctr k),q (eW.ctr k),q (dA.ctr k)]
def E (k:Nat):cD:=en (D k) [] 3 [] k
theorem eq (k:Nat) (a0:Ty.d a_) (a1:ByteArray) (a2:ByteArray):rn (E k) Tryz.f207 (C k) (a0,a1,a2,())=f k a0 a1 a2:=by kernel_rfl
theorem ctr (k:Nat):Cp 207 (C k):=rc rfl (D k) (by kernel_rfl) Tryz.func207 (by kernel_rfl) rfl fun ⟨a0,a1,a2,_⟩ r h=>(eq k a0 a1 a2).trans h
end g7
namespace gI
def C (k:Nat):Cn:=⟨[.val a_,.fn 207 2,.io true .str,.io true .str],[a_,(.int .i64)],true,false,fun x=>f k x.1 x.2.1 x.2.2.1⟩
def D (k:Nat):List Ce:=[q (bU.ctr k),q (bC.ctr k),q (g7.ctr k)]
def E (k:Nat):cD:=en (D k) [] 2 [] k
theorem eq (k:Nat) (a0:Ty.d a_) (a1:ByteArray) (a2:ByteArray):rn (E k) Tryz.f125 (C k) (a0,a1,a2,())=f k a0 a1 a2:=by kernel_rfl
theorem ctr (k:Nat):Cp 125 (C k):=rc rfl (D k) (by kernel_rfl) Tryz.func125 (by kernel_rfl) rfl fun ⟨a0,a1,a2,_⟩ r h=>(eq k a0 a1 a2).trans h
end gI
namespace k7
def C (k:Nat):Cn:=⟨[.val a_,.val .str,.val .str],[a_,(.int .i64)],true,false,fun x=>f k x.1 x.2.1 x.2.2.1⟩
def D (k:Nat):List Ce:=[q (gI.ctr k)]
def E (k:Nat):cD:=en (D k) [] 0 [] k
theorem eq (k:Nat) (a0:Ty.d a_) (a1:ByteArray) (a2:ByteArray):rn (E k) Tryz.f183 (C k) (a0,a1,a2,())=f k a0 a1 a2:=by kernel_rfl
theorem ctr (k:Nat):Cp 183 (C k):=rc rfl (D k) (by kernel_rfl) Tryz.func183 (by kernel_rfl) rfl fun ⟨a0,a1,a2,_⟩ r h=>(eq k a0 a1 a2).trans h
end k7
namespace eu
def C (k:Nat):Cn:=⟨[.io true bA,.val .str,.val .str],[],true,false,fun x=>f k x.1 x.2.1 x.2.2.1⟩
def D (k:Nat):List Ce:=[q (k7.ctr k),q (az.ctr k)]
def E (k:Nat):cD:=en (D k) [] 1 [] k
theorem eq (k:Nat) (a0:Ty.d bA) (a1:ByteArray) (a2:ByteArray):rn (E k) Tryz.f140 (C k) (a0,a1,a2,())=f k a0 a1 a2:=by kernel_rfl
theorem ctr (k:Nat):Cp 140 (C k):=rc rfl (D k) (by kernel_rfl) Tryz.func140 (by kernel_rfl) rfl fun ⟨a0,a1,a2,_⟩ r h=>(eq k a0 a1 a2).trans h
end eu
namespace eN
def C (k:Nat):Cn:=⟨[.io true bA,.val ay],[],true,false,fun x=>f k x.1 x.2.1⟩
def D (k:Nat):List Ce:=[q (ir.ctr k),q (ek.ctr k),q (eu.ctr k)]
def E (k:Nat):cD:=en (D k) [] 1 [] k
theorem eq (k:Nat) (a0:Ty.d bA) (a1:Ty.d ay):rn (E k) Tryz.f82 (C k) (a0,a1,())=f k a0 a1:=by kernel_rfl
theorem ctr (k:Nat):Cp 82 (C k):=rc rfl (D k) (by kernel_rfl) Tryz.func82 (by kernel_rfl) rfl fun ⟨a0,a1,_⟩ r h=>(eq k a0 a1).trans h
end eN
namespace fU
def C (k:Nat):Cn:=⟨[.io true bA],[aG],true,false,fun x=>f k x.1⟩
def D (k:Nat):List Ce:=[q (af.ctr k),q (dp.ctr k),q (dJ.ctr k),q (eN.ctr k)]
def E (k:Nat):cD:=en (D k) [] 1 [] k
theorem eq (k:Nat) (a0:Ty.d bA):rn (E k) Tryz.f29 (C k) (a0,())=f k a0:=by kernel_rfl
theorem ctr (k:Nat):Cp 29 (C k):=rc rfl (D k) (by kernel_rfl) Tryz.func29 (by kernel_rfl) rfl fun ⟨a0,_⟩ r h=>(eq k a0).trans h
end fU
namespace jK
def C (k:Nat):Cn:=⟨[.val a_],[aG,a_,(.int .i64)],true,false,fun x=>f k x.1⟩
def D (k:Nat):List Ce:=[q (bU.ctr k),q (bC.ctr k),q (cy.ctr k),q (aR.ctr k),q (fU.ctr k)]
def E (k:Nat):cD:=en (D k) [] 0 [] k
theorem eq (k:Nat) (a0:Ty.d a_):rn (E k) Tryz.f8 (C k) (a0,())=f k a0:=by kernel_rfl
theorem ctr (k:Nat):Cp 8 (C k):=rc rfl (D k) (by kernel_rfl) Tryz.func8 (by kernel_rfl) rfl fun ⟨a0,_⟩ r h=>(eq k a0).trans h
end jK
namespace dy
def C (k:Nat):Cn:=⟨[.val aG,.val aG],[.bool],true,false,fun x=>f k x.1 x.2.1⟩
def D (k:Nat):List Ce:=[q (eQ.ctr k)]
def E (k:Nat):cD:=en (D k) [(4,[2,3,5])] 0 [] k
section
variable (k:Nat) (a0:Ty.d aG) (a1:Ty.d aG)
def K0:Ex→St→Rs:=c_ (E k) (eK (E k) Tryz.f10 (C k) (a0,a1,())) [.blk 0,.code (at_ (bt 3 7) (body Tryz.f10))]
def V0 (n0:Nat):T0:=fun x0 x1 x2 x3 x4 x5 x6 x7 x8 x9 x10 x11 x12=>ao (bT (E k) (at_ (bt 6 11) (body Tryz.f10))) (ak 0 [2,3,5]) (K0 k a0 a1) n0 (mk 71 2 [(2,.ptr 0 0 0),(3,.ptr 1 0 0),(5,.int .i64 x0)] [(0,.box [.int .i64 x1,.sl true (.int .i64) x2,.sl true aA x3,.int .i64 x4,.int .i64 x5,.int .i64 x6]),(1,.box [.int .i64 x7,.sl true (.int .i64) x8,.sl true aA x9,.int .i64 x10,.int .i64 x11,.int .i64 x12])])
theorem s0 (n0:Nat):V0 k a0 a1 (n0+1)=b0 k (V0 k a0 a1 n0):=by kernel_rfl
theorem e0:V0 k a0 a1=l0 k:=aT rfl (s0 k a0 a1) fun _=>rfl
end
theorem eq (k:Nat) (a0:Ty.d aG) (a1:Ty.d aG):rn (E k) Tryz.f10 (C k) (a0,a1,())=f k a0 a1:=(show _=t k (V0 k a0 a1 k) a0 a1 by kernel_rfl).trans (by rw [e0];rfl)
theorem ctr (k:Nat):Cp 10 (C k):=rc rfl (D k) (by kernel_rfl) Tryz.func10 (by kernel_rfl) rfl fun ⟨a0,a1,_⟩ r h=>(eq k a0 a1).trans h
end dy
namespace nZ
def C (k:Nat):Cn:=⟨[.val (.slice (.int .u8)),.val (.int .i64)],[(.int .i64)],true,false,fun x=>f k x.1 x.2.1⟩
def E (k:Nat):cD:=en [] [] 0 [] k
theorem eq (k:Nat) (a0:List Int) (a1:Int):rn (E k) Tryz.f12 (C k) (a0,a1,())=f k a0 a1:=by kernel_rfl
theorem ctr (k:Nat):Cp 12 (C k):=rc rfl [] (by kernel_rfl) Tryz.func12 (by kernel_rfl) rfl fun ⟨a0,a1,_⟩ r h=>(eq k a0 a1).trans h
end nZ
namespace iC
def C (k:Nat):Cn:=⟨[.val a_,.val (.int .i64)],[a_],true,false,fun x=>f k x.1 x.2.1⟩
def D (k:Nat):List Ce:=[q (bU.ctr k),q (bC.ctr k),q (au.ctr k)]
def E (k:Nat):cD:=en (D k) [] 0 [] k
theorem eq (k:Nat) (a0:Ty.d a_) (a1:Int):rn (E k) Tryz.f11 (C k) (a0,a1,())=f k a0 a1:=by kernel_rfl
theorem ctr (k:Nat):Cp 11 (C k):=rc rfl (D k) (by kernel_rfl) Tryz.func11 (by kernel_rfl) rfl fun ⟨a0,a1,_⟩ r h=>(eq k a0 a1).trans h
end iC
namespace ez
def C (k:Nat):Cn:=⟨[.val a_,.val (.slice (.int .i64))],[a_],true,false,fun x=>f k x.1 x.2.1⟩
def D (k:Nat):List Ce:=[q (bU.ctr k),q (bC.ctr k)]
def E (k:Nat):cD:=en (D k) [(5,[1,4,5,17,18])] 0 [] k
section
variable (k:Nat) (a0:Ty.d a_) (a1:List Int)
def K0:Ex→St→Rs:=c_ (E k) (eK (E k) Tryz.f13 (C k) (a0,a1,())) [.blk 0,.code (at_ (bt 4 15) (body Tryz.f13))]
def V0 (n0:Nat):T0:=fun x0 x1 x2 x3 x4 x5 x6 x7 x8 x9 x10=>ao (bT (E k) (at_ (bt 7 23) (body Tryz.f13))) (ak 0 [1,4,5,17,18]) (K0 k a0 a1) n0 (mk 72 4 [(1,.sl true (.int .i64) x0),(4,.ptr 0 0 0),(5,.ptr 2 0 0),(17,.int .i64 x1),(18,.int .i64 x2)] [(1,.own false aB x3),(0,.box [.ref 1,.int .i64 x4,.int .i64 x5,.bool x6]),(3,.own false aB x7),(2,.box [.ref 3,.int .i64 x8,.int .i64 x9,.bool x10])])
theorem s0 (n0:Nat):V0 k a0 a1 (n0+1)=b0 k (V0 k a0 a1 n0):=by kernel_rfl
theorem e0:V0 k a0 a1=l0 k:=aT rfl (s0 k a0 a1) fun _=>rfl
end
theorem eq (k:Nat) (a0:Ty.d a_) (a1:List Int):rn (E k) Tryz.f13 (C k) (a0,a1,())=f k a0 a1:=(show _=t k (V0 k a0 a1 k) a0 a1 by kernel_rfl).trans (by rw [e0];rfl)
theorem ctr (k:Nat):Cp 13 (C k):=rc rfl (D k) (by kernel_rfl) Tryz.func13 (by kernel_rfl) rfl fun ⟨a0,a1,_⟩ r h=>(eq k a0 a1).trans h
end ez
namespace iG
def C (k:Nat):Cn:=⟨[.val a_],[mL,(.int .i64)],true,false,fun x=>f k x.1⟩
def D (k:Nat):List Ce:=[q (jK.ctr k)]
def E (k:Nat):cD:=en (D k) [] 0 [] k
theorem eq (k:Nat) (a0:Ty.d a_):rn (E k) Tryz.f46 (C k) (a0,())=f k a0:=by kernel_rfl
theorem ctr (k:Nat):Cp 46 (C k):=rc rfl (D k) (by kernel_rfl) Tryz.func46 (by kernel_rfl) rfl fun ⟨a0,_⟩ r h=>(eq k a0).trans h
end iG
namespace fe
def C (k:Nat):Cn:=⟨[.val (.slice aA)],[(.slice .str)],true,false,fun x=>f k x.1⟩
def E (k:Nat):cD:=en [] [(3,[3,6,7,8])] 0 [] k
section
variable (k:Nat) (a0:List (Ty.d aA))
def K0:Ex→St→Rs:=c_ (E k) (eK (E k) Tryz.f147 (C k) (a0,())) [.blk 0,.code (at_ (bt 3 7) (body Tryz.f147))]
def V0 (n0:Nat):T0:=fun x0 x1 x2 x3=>ao (bT (E k) (at_ (bt 6 11) (body Tryz.f147))) (ak 0 [3,6,7,8]) (K0 k a0) n0 (mk 19 1 [(3,.ref 0),(6,.sl true aA x0),(7,.int .i64 x1),(8,.int .i64 x2)] [(0,.own false .str x3)])
theorem s0 (n0:Nat):V0 k a0 (n0+1)=b0 k (V0 k a0 n0):=by kernel_rfl
theorem e0:V0 k a0=l0 k:=aT rfl (s0 k a0) fun _=>rfl
end
theorem eq (k:Nat) (a0:List (Ty.d aA)):rn (E k) Tryz.f147 (C k) (a0,())=f k a0:=(show _=t k (V0 k a0 k) a0 by kernel_rfl).trans (by rw [e0];rfl)
theorem ctr (k:Nat):Cp 147 (C k):=rc rfl [] (by kernel_rfl) Tryz.func147 (by kernel_rfl) rfl fun ⟨a0,_⟩ r h=>(eq k a0).trans h
end fe
namespace gQ
def C (k:Nat):Cn:=⟨[.val (.slice aA),.val .str],[aA,.bool],true,false,fun x=>f k x.1 x.2.1⟩
def E (k:Nat):cD:=en [] [(2,[1,4,8,9,10])] 0 [] k
section
variable (k:Nat) (a0:List (Ty.d aA)) (a1:ByteArray)
def K0:Ex→St→Rs:=c_ (E k) (eK (E k) Tryz.f186 (C k) (a0,a1,())) [.blk 0,.code (at_ (bt 2 3) (body Tryz.f186))]
def V0 (n0:Nat):T0:=fun x0 x1 x2 x3 x4 x5 x6 x7 x8=>ao (bT (E k) (at_ (bt 5 5) (body Tryz.f186))) (ak 0 [1,4,8,9,10]) (K0 k a0 a1) n0 (mk 21 1 [(1,.str x0),(4,.ptr 0 0 0),(8,.sl true aA x1),(9,.int .i64 x2),(10,.int .i64 x3)] [(0,.box [.str x4,.int .i64 x5,.int .i64 x6,.int .i64 x7,.int .i64 x8])])
theorem s0 (n0:Nat):V0 k a0 a1 (n0+1)=b0 k (V0 k a0 a1 n0):=by kernel_rfl
theorem e0:V0 k a0 a1=l0 k:=aT rfl (s0 k a0 a1) fun _=>rfl
end
theorem eq (k:Nat) (a0:List (Ty.d aA)) (a1:ByteArray):rn (E k) Tryz.f186 (C k) (a0,a1,())=f k a0 a1:=(show _=t k (V0 k a0 a1 k) a0 a1 by kernel_rfl).trans (by rw [e0];rfl)
theorem ctr (k:Nat):Cp 186 (C k):=rc rfl [] (by kernel_rfl) Tryz.func186 (by kernel_rfl) rfl fun ⟨a0,a1,_⟩ r h=>(eq k a0 a1).trans h
end gQ
namespace kp
def C (k:Nat):Cn:=⟨[.val .str,.val (.int .i64),.val (.int .i64)],[bP,.bool],true,false,fun x=>f k x.1 x.2.1 x.2.2.1⟩
def D (k:Nat):List Ce:=[q (au.ctr k),q (dq.ctr k),q (cv.ctr k)]
def E (k:Nat):cD:=en (D k) [] 0 [] k
theorem eq (k:Nat) (a0:ByteArray) (a1:Int) (a2:Int):rn (E k) Tryz.f187 (C k) (a0,a1,a2,())=f k a0 a1 a2:=by kernel_rfl
theorem ctr (k:Nat):Cp 187 (C k):=rc rfl (D k) (by kernel_rfl) Tryz.func187 (by kernel_rfl) rfl fun ⟨a0,a1,a2,_⟩ r h=>(eq k a0 a1 a2).trans h
end kp
namespace nJ
def C (k:Nat):Cn:=⟨[.val aG,.val a_,.val .str],[aB,(.int .i64)],true,false,fun x=>f k x.1 x.2.1 x.2.2.1⟩
def D (k:Nat):List Ce:=[q (gQ.ctr k),q (dp.ctr k),q (cy.ctr k),q (kp.ctr k)]
def E (k:Nat):cD:=en (D k) [] 0 [] k
theorem eq (k:Nat) (a0:Ty.d aG) (a1:Ty.d a_) (a2:ByteArray):rn (E k) Tryz.f148 (C k) (a0,a1,a2,())=f k a0 a1 a2:=by kernel_rfl
theorem ctr (k:Nat):Cp 148 (C k):=rc rfl (D k) (by kernel_rfl) Tryz.func148 (by kernel_rfl) rfl fun ⟨a0,a1,a2,_⟩ r h=>(eq k a0 a1 a2).trans h
end nJ
namespace iw
def C (k:Nat):Cn:=⟨[.val aG,.val a_],[(.slice aB),(.int .i64)],true,false,fun x=>f k x.1 x.2.1⟩
def D (k:Nat):List Ce:=[q (fe.ctr k),q (nJ.ctr k)]
def E (k:Nat):cD:=en (D k) [(3,[2,3,6,13,14,15])] 0 [] k
section
variable (k:Nat) (a0:Ty.d aG) (a1:Ty.d a_)
def K0:Ex→St→Rs:=c_ (E k) (eK (E k) Tryz.f98 (C k) (a0,a1,())) [.blk 0,.code (at_ (bt 3 7) (body Tryz.f98))]
def V0 (n0:Nat):T0:=fun x0 x1 x2 x3 x4 x5 x6 x7 x8 x9 x10 x11 x12 x13=>ao (bT (E k) (at_ (bt 6 11) (body Tryz.f98))) (ak 0 [2,3,6,13,14,15]) (K0 k a0 a1) n0 (mk 35 4 [(2,.ptr 0 0 0),(3,.ptr 1 0 0),(6,.ref 2),(13,.ref 3),(14,.int .i64 x0),(15,.int .i64 x1)] [(0,.box [.int .i64 x2,.sl true (.int .i64) x3,.sl true aA x4,.int .i64 x5,.int .i64 x6,.int .i64 x7]),(1,.box [.sl true aB x8,.int .i64 x9,.int .i64 x10,.bool x11]),(2,.own false aB x12),(3,.own false .str x13)])
theorem s0 (n0:Nat):V0 k a0 a1 (n0+1)=b0 k (V0 k a0 a1 n0):=by kernel_rfl
theorem e0:V0 k a0 a1=l0 k:=aT rfl (s0 k a0 a1) fun _=>rfl
end
theorem eq (k:Nat) (a0:Ty.d aG) (a1:Ty.d a_):rn (E k) Tryz.f98 (C k) (a0,a1,())=f k a0 a1:=(show _=t k (V0 k a0 a1 k) a0 a1 by kernel_rfl).trans (by rw [e0];rfl)
theorem ctr (k:Nat):Cp 98 (C k):=rc rfl (D k) (by kernel_rfl) Tryz.func98 (by kernel_rfl) rfl fun ⟨a0,a1,_⟩ r h=>(eq k a0 a1).trans h
end iw
namespace j4
def C (k:Nat):Cn:=⟨[.val mL],[(.slice aB),(.int .i64)],true,false,fun x=>f k x.1⟩
def D (k:Nat):List Ce:=[q (iw.ctr k)]
def E (k:Nat):cD:=en (D k) [] 0 [] k
theorem eq (k:Nat) (a0:Ty.d mL):rn (E k) Tryz.f47 (C k) (a0,())=f k a0:=by kernel_rfl
theorem ctr (k:Nat):Cp 47 (C k):=rc rfl (D k) (by kernel_rfl) Tryz.func47 (by kernel_rfl) rfl fun ⟨a0,_⟩ r h=>(eq k a0).trans h
end j4
namespace fX
def C (k:Nat):Cn:=⟨[.val a_,.val (.slice (.int .i64))],[(.slice aB),(.int .i64)],true,false,fun x=>f k x.1 x.2.1⟩
def D (k:Nat):List Ce:=[q (ez.ctr k),q (iG.ctr k),q (j4.ctr k)]
def E (k:Nat):cD:=en (D k) [] 0 [] k
theorem eq (k:Nat) (a0:Ty.d a_) (a1:List Int):rn (E k) Tryz.f14 (C k) (a0,a1,())=f k a0 a1:=by kernel_rfl
theorem ctr (k:Nat):Cp 14 (C k):=rc rfl (D k) (by kernel_rfl) Tryz.func14 (by kernel_rfl) rfl fun ⟨a0,a1,_⟩ r h=>(eq k a0 a1).trans h
end fX
namespace cP
def C (k:Nat):Cn:=⟨[.val (.slice aB),.val (.slice aB)],[.bool],true,false,fun x=>f k x.1 x.2.1⟩
def E (k:Nat):cD:=en [] [(4,[0,1,5])] 0 [] k
section
variable (k:Nat) (a0:List (Ty.d aB)) (a1:List (Ty.d aB))
def K0:Ex→St→Rs:=c_ (E k) (eK (E k) Tryz.f15 (C k) (a0,a1,())) [.blk 0,.code (at_ (bt 3 7) (body Tryz.f15))]
def V0 (n0:Nat):T0:=fun x0 x1 x2=>ao (bT (E k) (at_ (bt 6 11) (body Tryz.f15))) (ak 0 [0,1,5]) (K0 k a0 a1) n0 (mk 26 0 [(0,.sl true aB x0),(1,.sl true aB x1),(5,.int .i64 x2)] [])
theorem s0 (n0:Nat):V0 k a0 a1 (n0+1)=b0 k (V0 k a0 a1 n0):=by kernel_rfl
theorem e0:V0 k a0 a1=l0 k:=aT rfl (s0 k a0 a1) fun _=>rfl
end
theorem eq (k:Nat) (a0:List (Ty.d aB)) (a1:List (Ty.d aB)):rn (E k) Tryz.f15 (C k) (a0,a1,())=f k a0 a1:=(show _=t k (V0 k a0 a1 k) a0 a1 by kernel_rfl).trans (by rw [e0];rfl)
theorem ctr (k:Nat):Cp 15 (C k):=rc rfl [] (by kernel_rfl) Tryz.func15 (by kernel_rfl) rfl fun ⟨a0,a1,_⟩ r h=>(eq k a0 a1).trans h
end cP
namespace bH
def C (k:Nat):Cn:=⟨[.val (.slice (.int .u8))],[.bool],true,false,fun x=>f k x.1⟩
def D (k:Nat):List Ce:=[q (pc.ctr k),q (fp.ctr k),q (ik.ctr k),q (fP.ctr k),q (jK.ctr k),q (bd.ctr k),q (dy.ctr k),q (nZ.ctr k),q (iC.ctr k),q (fX.ctr k),q (cP.ctr k),q (ez.ctr k)]
def E (k:Nat):cD:=en (D k) [(11,[0,4,5,6,7,14])] 0 [] k
section
variable (k:Nat) (a0:List Int)
def K0:Ex→St→Rs:=c_ (E k) (eK (E k) Tryz.f3 (C k) (a0,())) [.blk 0,.code (at_ (bt 9 511) (body Tryz.f3))]
def V0 (n0:Nat):T0:=fun x0 x1 x2 x3 x4 x5 x6 x7 x8=>ao (bT (E k) (at_ (bt 12 767) (body Tryz.f3))) (ak 0 [0,4,5,6,7,14]) (K0 k a0) n0 (mk 91 2 [(0,.sl true (.int .u8) x0),(4,.sl true (.int .i64) x1),(5,.ref 0),(6,.int .i64 x2),(7,.ptr 1 0 0),(14,.int .i64 x3)] [(0,.own false aB x4),(1,.box [.sl false aB x5,.int .i64 x6,.int .i64 x7,.bool x8])])
def V1 (n0:Nat):T1:=fun x0 x1 x2 x3 x4 x5 x6 x7 x8=>ao (bT (E k) (at_ (bt 12 767) (body Tryz.f3))) (ak 0 [0,4,5,6,7,14]) (K0 k a0) n0 (mk 91 3 [(0,.sl true (.int .u8) x0),(4,.sl true (.int .i64) x1),(5,.ref 0),(6,.int .i64 x2),(7,.ptr 1 0 0),(14,.int .i64 x3)] [(0,.own false aB x4),(2,.own false aB x5),(1,.box [.ref 2,.int .i64 x6,.int .i64 x7,.bool x8])])
theorem s0 (n0:Nat):V0 k a0 (n0+1)=b0 k (V1 k a0 n0):=by kernel_rfl
theorem s1 (n0:Nat):V1 k a0 (n0+1)=b1 k (V1 k a0 n0):=by kernel_rfl
theorem e1:V1 k a0=l1 k:=aT rfl (s1 k a0) fun _=>rfl
theorem e0 (n0:Nat):V0 k a0 n0=l0 k n0:=by
 induction n0 with
 | zero=>rfl
 | succ n0 ih =>
  have h:V0 k a0 (n0+1)=b0 k (V1 k a0 n0):=s0 k a0 n0
  rw [h,e1]
  rfl
end
theorem eq (k:Nat) (a0:List Int):rn (E k) Tryz.f3 (C k) (a0,())=f k a0:=(show _=t k (V0 k a0 k) a0 by kernel_rfl).trans (by rw [e0];rfl)
theorem ctr (k:Nat):Cp 3 (C k):=rc rfl (D k) (by kernel_rfl) Tryz.func3 (by kernel_rfl) rfl fun ⟨a0,_⟩ r h=>(eq k a0).trans h
end bH
end
end Go.Proofs.YtgnakpiicdfpkaaGreatDoor.G

/- Functions keep their contracts. -/
import Derived.Test.YtbgnhoggngbhhaaGreatDoorVTab
import Derived.Test.YtbgnhoggngbhhaaGreatDoorFU
import Derived.Test.YtbgnhoggngbhhaaGreatDoorCLib
set_option linter.unusedVariables false
set_option maxRecDepth 100000
namespace Go.Proofs.YtbgnhoggngbhhaaGreatDoor.G
open Go.V
noncomputable section
variable (k:Nat)
namespace qJ
def C:Cn:=⟨[.val (.slice (.int .u8))],[.bool],true,false,fun x=>f k x.1⟩
theorem ctr:Cp 4 (C k):=rz k rfl [] Tryz.func4 rfl fun _=>by kernel_rfl
end qJ
namespace gT
def C:Cn:=⟨[.val (.slice (.int .u8))],[.opq,fk],false,true,fun x=>f k x.1⟩
def E:jF:=en [] [(3,[0,3,4])] 0 [] k
section
variable (a0:List Int)
def K0:Ex→St→Rs:=dG (E k) (eB (E k) Tryz.f12 (C k) (a0,())) [.blk 0,.code (dU Tryz.f12 3 7)]
def V0 (n0:Nat):T0:=fun x0 x1 x2=>bU (cH (E k) (dU Tryz.f12 6 11)) (bH 0 [0,3,4]) (K0 k a0) n0 (mk 32 0 [(0,.sl true (.int .u8) x0),(3,.int .i64 x1),(4,.int .i64 x2)] [])
theorem e0:V0 k a0=l0 k:=ap (b:=b0 k) rfl (fun _=>by kernel_rfl) fun _=>rfl
end
theorem ctr:Cp 12 (C k):=Ql rfl rfl [] (E:=E k) rfl rfl Tryz.func12 rfl fun ⟨a0,_⟩=>(show _=t k (V0 k a0 k) a0 by kernel_rfl).trans (by rw [e0];rfl)
end gT
namespace fB
def C:Cn:=⟨[.io false 0 fk],[(.int .i64)],true,true,fun x=>f k x.1⟩
theorem ctr:Cp 42 (C k):=rz k rfl [] Tryz.func42 rfl fun _=>by kernel_rfl
end fB
namespace bN
def C:Cn:=⟨[.io false 0 fk,.val (.int .i64)],[(.int .i64)],true,true,fun x=>f k x.1 x.2.1⟩
def D:List Ce:=[q (fB.ctr k)]
theorem ctr:Cp 25 (C k):=rz k rfl (D k) Tryz.func25 rfl fun _=>by kernel_rfl
end bN
namespace ai
def C:Cn:=⟨[.io false 0 fk,.val (.slice (.int .i64))],[(.int .i64)],true,true,fun x=>f k x.1 x.2.1⟩
def D:List Ce:=[q (bN.ctr k)]
theorem ctr:Cp 43 (C k):=rz k rfl (D k) Tryz.func43 rfl fun _=>by kernel_rfl
end ai
namespace cr
def C:Cn:=⟨[.io false 0 fk,.val (.slice .str)],[.str],true,true,fun x=>f k x.1 x.2.1⟩
def D:List Ce:=[q (bN.ctr k)]
theorem ctr:Cp 46 (C k):=rz k rfl (D k) Tryz.func46 rfl fun _=>by kernel_rfl
end cr
namespace ix
def C:Cn:=⟨[.io false 0 fk],[.str],true,true,fun x=>f k x.1⟩
def D:List Ce:=[q (cr.ctr k)]
theorem ctr:Cp 44 (C k):=rz k rfl (D k) Tryz.func44 rfl fun _=>by kernel_rfl
end ix
namespace fH
def C:Cn:=⟨[.io false 0 fk,.val (.int .i64)],[.str],true,true,fun x=>f k x.1 x.2.1⟩
def D:List Ce:=[q (bN.ctr k),q (fB.ctr k)]
def E:jF:=en (D k) [(4,[0,5,6,7])] 1 [] k
section
variable (a0:Ty.d fk) (a1:Int)
def K0:Ex→St→Rs:=dG (E k) (eK (E k) Tryz.f45 (C k) (a0,a1,())) [.blk 0,.code (dU Tryz.f45 4 15)]
def V0 (n0:Nat):T0:=fun x0 x1 x2 x3 x4 x5=>bU (cH (E k) (dU Tryz.f45 7 23)) (bH 1 [0,5,6,7]) (K0 k a0 a1) n0 (mk 38 2 [(0,.ptr 0 0 0),(5,.ref 1),(6,.int .i64 x0),(7,.int .i64 x1)] [(0,.box [.sl true (.int .u8) x2,.int .i64 x3,.int .i64 x4]),(1,.own false (.int .u8) x5)])
theorem e0:V0 k a0 a1=l0 k:=ap (b:=b0 k) rfl (fun _=>by kernel_rfl) fun _=>rfl
end
theorem ctr:Cp 45 (C k):=ry (D k) (E:=E k) rfl rfl Tryz.func45 rfl fun ⟨a0,a1,_⟩=>(show _=t k (V0 k a0 a1 k) a0 a1 by kernel_rfl).trans (by rw [e0];rfl)
end fH
namespace jO
def C:Cn:=⟨[.io false 0 fk],[aC],true,true,fun x=>f k x.1⟩
def D:List Ce:=[q (ai.ctr k),q (bN.ctr k),q (ix.ctr k),q (cr.ctr k),q (fH.ctr k)]
theorem ctr:Cp 26 (C k):=rz k rfl (D k) Tryz.func26 rfl fun _=>by kernel_rfl
end jO
namespace bP
def C:Cn:=⟨[.val (.int .i64),.val (.int .i64),.val (.int .i64)],[.bool],true,false,fun x=>f k x.1 x.2.1 x.2.2.1⟩
theorem ctr:Cp 16 (C k):=rz k rfl [] Tryz.func16 rfl fun _=>by kernel_rfl
end bP
namespace gl
def C:Cn:=⟨[.io false 0 fk,.val (.int .i64)],[.bool],true,true,fun x=>f k x.1 x.2.1⟩
def D:List Ce:=[q (bN.ctr k)]
theorem ctr:Cp 27 (C k):=rz k rfl (D k) Tryz.func27 rfl fun _=>by kernel_rfl
end gl
namespace eO
def C:Cn:=⟨[.io false 0 fk,.val (.int .i64)],[(.slice aC)],true,true,fun x=>f k x.1 x.2.1⟩
def D:List Ce:=[q (bN.ctr k),q (jO.ctr k),q (bP.ctr k),q (gl.ctr k)]
def E:jF:=en (D k) [(4,[0,5,6,7])] 1 [] k
section
variable (a0:Ty.d fk) (a1:Int)
def K0:Ex→St→Rs:=dG (E k) (eK (E k) Tryz.f13 (C k) (a0,a1,())) [.blk 0,.code (dU Tryz.f13 4 15)]
def V0 (n0:Nat):T0:=fun x0 x1 x2 x3 x4 x5=>bU (cH (E k) (dU Tryz.f13 7 23)) (bH 1 [0,5,6,7]) (K0 k a0 a1) n0 (mk 85 3 [(0,.ptr 0 0 0),(5,.ref 1),(6,.ref 2),(7,.int .i64 x0)] [(0,.box [.sl true (.int .u8) x1,.int .i64 x2,.int .i64 x3]),(1,.own false aC x4),(2,.own false .bool x5)])
theorem e0:V0 k a0 a1=l0 k:=ap (b:=b0 k) rfl (fun _=>by kernel_rfl) fun _=>rfl
end
theorem ctr:Cp 13 (C k):=ry (D k) (E:=E k) rfl rfl Tryz.func13 rfl fun ⟨a0,a1,_⟩=>(show _=t k (V0 k a0 a1 k) a0 a1 by kernel_rfl).trans (by rw [e0];rfl)
end eO
namespace f_
def C:Cn:=⟨[.val (.slice (.int .u8))],[(.slice aC)],true,false,fun x=>f k x.1⟩
def D:List Ce:=[q (gT.ctr k),q (eO.ctr k)]
theorem ctr:Cp 5 (C k):=rz k rfl (D k) Tryz.func5 rfl fun _=>by kernel_rfl
end f_
namespace jV
def C:Cn:=⟨[],[af],true,false,fun x=>f k⟩
theorem ctr:Cp 14 (C k):=rz k rfl [] Tryz.func14 rfl fun _=>by kernel_rfl
end jV
namespace eZ
def C:Cn:=⟨[.val aK],[aK],true,false,fun x=>f k x.1⟩
theorem ctr:Cp 28 (C k):=rz k rfl [] Tryz.func28 rfl fun _=>by kernel_rfl
end eZ
namespace fM
def C:Cn:=⟨[.val (.slice aL)],[(.slice aB)],true,false,fun x=>f k x.1⟩
def E:jF:=en [] [(3,[0,3,4])] 0 [] k
section
variable (a0:List (Ty.d aL))
def K0:Ex→St→Rs:=dG (E k) (eK (E k) Tryz.f30 (C k) (a0,())) [.blk 0,.code (dU Tryz.f30 3 7)]
def V0 (n0:Nat):T0:=fun x0 x1 x2=>bU (cH (E k) (dU Tryz.f30 6 11)) (bH 0 [0,3,4]) (K0 k a0) n0 (mk 27 1 [(0,.sl true aL x0),(3,.ref 0),(4,.int .i64 x1)] [(0,.own false aB x2)])
theorem e0:V0 k a0=l0 k:=ap (b:=b0 k) rfl (fun _=>by kernel_rfl) fun _=>rfl
end
theorem ctr:Cp 30 (C k):=ry [] (E:=E k) rfl rfl Tryz.func30 rfl fun ⟨a0,_⟩=>(show _=t k (V0 k a0 k) a0 by kernel_rfl).trans (by rw [e0];rfl)
end fM
namespace fU
def C:Cn:=⟨[.val (.slice aB)],[(.slice .str)],true,false,fun x=>f k x.1⟩
def E:jF:=en [] [(3,[0,3,4])] 0 [] k
section
variable (a0:List (Ty.d aB))
def K0:Ex→St→Rs:=dG (E k) (eK (E k) Tryz.f29 (C k) (a0,())) [.blk 0,.code (dU Tryz.f29 3 7)]
def V0 (n0:Nat):T0:=fun x0 x1 x2=>bU (cH (E k) (dU Tryz.f29 6 11)) (bH 0 [0,3,4]) (K0 k a0) n0 (mk 21 1 [(0,.sl true aB x0),(3,.ref 0),(4,.int .i64 x1)] [(0,.own false .str x2)])
theorem e0:V0 k a0=l0 k:=ap (b:=b0 k) rfl (fun _=>by kernel_rfl) fun _=>rfl
end
theorem ctr:Cp 29 (C k):=ry [] (E:=E k) rfl rfl Tryz.func29 rfl fun ⟨a0,_⟩=>(show _=t k (V0 k a0 k) a0 by kernel_rfl).trans (by rw [e0];rfl)
end fU
namespace gM
def C:Cn:=⟨[.val (.slice aB),.val .str],[aB,.bool],true,false,fun x=>f k x.1 x.2.1⟩
def E:jF:=en [] [(2,[0,1,4,6])] 0 [] k
section
variable (a0:List (Ty.d aB)) (a1:ByteArray)
def K0:Ex→St→Rs:=dG (E k) (eK (E k) Tryz.f63 (C k) (a0,a1,())) [.blk 0,.code (dU Tryz.f63 2 3)]
def V0 (n0:Nat):T0:=fun x0 x1 x2 x3 x4 x5 x6 x7=>bU (cH (E k) (dU Tryz.f63 5 5)) (bH 0 [0,1,4,6]) (K0 k a0 a1) n0 (mk 25 1 [(0,.sl true aB x0),(1,.str x1),(4,.ptr 0 0 0),(6,.int .i64 x2)] [(0,.box [.str x3,.int .i64 x4,.int .i64 x5,.int .i64 x6,.int .i64 x7])])
theorem e0:V0 k a0 a1=l0 k:=ap (b:=b0 k) rfl (fun _=>by kernel_rfl) fun _=>rfl
end
theorem ctr:Cp 63 (C k):=ry [] (E:=E k) rfl rfl Tryz.func63 rfl fun ⟨a0,a1,_⟩=>(show _=t k (V0 k a0 a1 k) a0 a1 by kernel_rfl).trans (by rw [e0];rfl)
end gM
namespace hO
def C:Cn:=⟨[.val aK,.val (.slice aB)],[.bool],true,false,fun x=>f k x.1 x.2.1⟩
def D:List Ce:=[q (gM.ctr k)]
def E:jF:=en (D k) [(2,[1,2,5])] 0 [] k
section
variable (a0:Ty.d aK) (a1:List (Ty.d aB))
def K0:Ex→St→Rs:=dG (E k) (eK (E k) Tryz.f47 (C k) (a0,a1,())) [.blk 0,.code (dU Tryz.f47 2 3)]
def V0 (n0:Nat):T0:=fun x0 x1 x2 x3 x4=>bU (cH (E k) (dU Tryz.f47 5 5)) (bH 0 [1,2,5]) (K0 k a0 a1) n0 (mk 35 1 [(1,.sl true aB x0),(2,.ptr 0 0 0),(5,.int .i64 x1)] [(0,.box [.bool x2,.sl true bF x3,.sl true aW x4])])
theorem e0:V0 k a0 a1=l0 k:=ap (b:=b0 k) rfl (fun _=>by kernel_rfl) fun _=>rfl
end
theorem ctr:Cp 47 (C k):=ry (D k) (E:=E k) rfl rfl Tryz.func47 rfl fun ⟨a0,a1,_⟩=>(show _=t k (V0 k a0 a1 k) a0 a1 by kernel_rfl).trans (by rw [e0];rfl)
end hO
namespace dF
def C:Cn:=⟨[.val aK,.val .str],[aW,.bool],true,false,fun x=>f k x.1 x.2.1⟩
def E:jF:=en [] [(2,[1,2,4,6])] 0 [] k
section
variable (a0:Ty.d aK) (a1:ByteArray)
def K0:Ex→St→Rs:=dG (E k) (eK (E k) Tryz.f35 (C k) (a0,a1,())) [.blk 0,.code (dU Tryz.f35 2 3)]
def V0 (n0:Nat):T0:=fun x0 x1 x2 x3 x4 x5 x6 x7=>bU (cH (E k) (dU Tryz.f35 5 5)) (bH 0 [1,2,4,6]) (K0 k a0 a1) n0 (mk 29 2 [(1,.str x0),(2,.ptr 0 0 0),(4,.ptr 1 0 0),(6,.int .i64 x1)] [(0,.box [.bool x2,.sl true bF x3,.sl true aW x4]),(1,.box [.str x5,.bool x6,.str x7])])
theorem e0:V0 k a0 a1=l0 k:=ap (b:=b0 k) rfl (fun _=>by kernel_rfl) fun _=>rfl
end
theorem ctr:Cp 35 (C k):=ry [] (E:=E k) rfl rfl Tryz.func35 rfl fun ⟨a0,a1,_⟩=>(show _=t k (V0 k a0 a1 k) a0 a1 by kernel_rfl).trans (by rw [e0];rfl)
end dF
namespace bI
def C:Cn:=⟨[.val aK],[(.slice aW)],true,false,fun x=>f k x.1⟩
def D:List Ce:=[q (dF.ctr k)]
def E:jF:=en (D k) [(3,[1,3,4]),(7,[1,3,4,5,6])] 0 [] k
section
variable (a0:Ty.d aK)
def K0:Ex→St→Rs:=dG (E k) (eK (E k) Tryz.f17 (C k) (a0,())) [.blk 0,.code (dU Tryz.f17 3 7)]
def B0 (n0:Nat):Ex→St→Rs:=QN (E k) (dU Tryz.f17 6 11) 0 [1,3,4] (K0 k a0) n0
def K1 (n0:Nat):Ex→St→Rs:=dG (E k) (B0 k a0 n0) [.blk 2,.code (dU Tryz.f17 11 1611),.blk 1,.code (dU Tryz.f17 8 203)]
def V0 (n0:Nat):T0:=fun x0 x1 x2 x3 x4=>bU (cH (E k) (dU Tryz.f17 6 11)) (bH 0 [1,3,4]) (K0 k a0) n0 (mk 55 2 [(1,.ptr 0 0 0),(3,.ref 1),(4,.int .i64 x0)] [(0,.box [.bool x1,.sl true bF x2,.sl true aW x3]),(1,.own false aW x4)])
def V1 (n0 n1:Nat):T1:=fun x0 x1 x2 x3 x4 x5 x6=>bU (cH (E k) (dU Tryz.f17 14 2635)) (bH 0 [1,3,4,5,6]) (K1 k a0 n0) n1 (mk 55 2 [(1,.ptr 0 0 0),(3,.ref 1),(4,.int .i64 x0),(5,.bool x1),(6,.int .i64 x2)] [(0,.box [.bool x3,.sl true bF x4,.sl true aW x5]),(1,.own false aW x6)])
theorem e1 (n0:Nat):V1 k a0 n0=l1 k (V0 k a0 n0):=ap (b:=b1 k (V0 k a0 n0)) rfl (fun _=>by kernel_rfl) fun _=>rfl
theorem e0 (n0:Nat):V0 k a0 n0=l0 k n0:=by
 induction n0 with
 | zero=>rfl
 | succ n0 ih =>
  have h:V0 k a0 (n0+1)=b0 k (V1 k a0 n0 k) (V0 k a0 n0):=by kernel_rfl
  rw [h,e1,ih]
  rfl
end
theorem ctr:Cp 17 (C k):=ry (D k) (E:=E k) rfl rfl Tryz.func17 rfl fun ⟨a0,_⟩=>(show _=t k (V0 k a0 k) a0 by kernel_rfl).trans (by rw [e0];rfl)
end bI
namespace gL
def C:Cn:=⟨[.val (.slice aL),.val aL,.val .bool],[(.slice aL)],true,false,fun x=>f k x.1 x.2.1 x.2.2.1⟩
def E:jF:=en [] [(4,[0,4,7,8,9])] 0 [] k
section
variable (a0:List (Ty.d aL)) (a1:Ty.d aL) (a2:Bool)
def K0:Ex→St→Rs:=dG (E k) (eK (E k) Tryz.f64 (C k) (a0,a1,a2,())) [.blk 0,.code (dU Tryz.f64 4 15)]
def V0 (n0:Nat):T0:=fun x0 x1 x2 x3 x4 x5 x6=>bU (cH (E k) (dU Tryz.f64 7 23)) (bH 0 [0,4,7,8,9]) (K0 k a0 a1 a2) n0 (mk 56 2 [(0,.sl true aL x0),(4,.ptr 0 0 0),(7,.ref 1),(8,.bool x1),(9,.int .i64 x2)] [(0,.box [.str x3,.str x4,.int .i64 x5]),(1,.own false aL x6)])
theorem e0:V0 k a0 a1 a2=l0 k:=ap (b:=b0 k) rfl (fun _=>by kernel_rfl) fun _=>rfl
end
theorem ctr:Cp 64 (C k):=ry [] (E:=E k) rfl rfl Tryz.func64 rfl fun ⟨a0,a1,a2,_⟩=>(show _=t k (V0 k a0 a1 a2 k) a0 a1 a2 by kernel_rfl).trans (by rw [e0];rfl)
end gL
namespace iv
def C:Cn:=⟨[.val (.slice aL),.val (.slice aW),.val (.int .i64)],[(.slice aL)],true,false,fun x=>f k x.1 x.2.1 x.2.2.1⟩
def D:List Ce:=[q (gL.ctr k)]
def E:jF:=en (D k) [(3,[1,2,7,8])] 0 [] k
section
variable (a0:List (Ty.d aL)) (a1:List (Ty.d aW)) (a2:Int)
def K0:Ex→St→Rs:=dG (E k) (eK (E k) Tryz.f48 (C k) (a0,a1,a2,())) [.blk 0,.code (dU Tryz.f48 3 7)]
def V0 (n0:Nat):T0:=fun x0 x1 x2 x3=>bU (cH (E k) (dU Tryz.f48 6 11)) (bH 0 [1,2,7,8]) (K0 k a0 a1 a2) n0 (mk 38 1 [(1,.sl true aW x0),(2,.int .i64 x1),(7,.ref 0),(8,.int .i64 x2)] [(0,.own false aL x3)])
theorem e0:V0 k a0 a1 a2=l0 k:=ap (b:=b0 k) rfl (fun _=>by kernel_rfl) fun _=>rfl
end
theorem ctr:Cp 48 (C k):=ry (D k) (E:=E k) rfl rfl Tryz.func48 rfl fun ⟨a0,a1,a2,_⟩=>(show _=t k (V0 k a0 a1 a2 k) a0 a1 a2 by kernel_rfl).trans (by rw [e0];rfl)
end iv
namespace gG
def C:Cn:=⟨[.give af,.val aK],[af,aG],true,true,fun x=>f k x.1 x.2.1⟩
def D:List Ce:=[q (fM.ctr k),q (hO.ctr k),q (bI.ctr k),q (iv.ctr k)]
theorem ctr:Cp 31 (C k):=rz k rfl (D k) Tryz.func31 rfl fun _=>by kernel_rfl
end gG
namespace dX
def C:Cn:=⟨[.val .str],[.bool],true,false,fun x=>f k x.1⟩
def D:List Ce:=[q (bP.ctr k)]
theorem ctr:Cp 49 (C k):=rz k rfl (D k) Tryz.func49 rfl fun _=>by kernel_rfl
end dX
namespace eX
def C:Cn:=⟨[.val (.slice aL),.val .str],[aL,(.int .i64)],true,false,fun x=>f k x.1 x.2.1⟩
def E:jF:=en [] [(2,[0,1,4,6])] 0 [] k
section
variable (a0:List (Ty.d aL)) (a1:ByteArray)
def K0:Ex→St→Rs:=dG (E k) (eK (E k) Tryz.f50 (C k) (a0,a1,())) [.blk 0,.code (dU Tryz.f50 2 3)]
def V0 (n0:Nat):T0:=fun x0 x1 x2 x3 x4 x5=>bU (cH (E k) (dU Tryz.f50 5 5)) (bH 0 [0,1,4,6]) (K0 k a0 a1) n0 (mk 25 1 [(0,.sl true aL x0),(1,.str x1),(4,.ptr 0 0 0),(6,.int .i64 x2)] [(0,.box [.str x3,.str x4,.int .i64 x5])])
theorem e0:V0 k a0 a1=l0 k:=ap (b:=b0 k) rfl (fun _=>by kernel_rfl) fun _=>rfl
end
theorem ctr:Cp 50 (C k):=ry [] (E:=E k) rfl rfl Tryz.func50 rfl fun ⟨a0,a1,_⟩=>(show _=t k (V0 k a0 a1 k) a0 a1 by kernel_rfl).trans (by rw [e0];rfl)
end eX
namespace eY
def C:Cn:=⟨[.val aK,.val .str,.val (.int .i64)],[aK,(.int .i64)],true,false,fun x=>f k x.1 x.2.1 x.2.2.1⟩
def D:List Ce:=[q (eZ.ctr k),q (dX.ctr k)]
def E:jF:=en (D k) [(5,[1,2,3,6,8,9])] 0 [] k
section
variable (a0:Ty.d aK) (a1:ByteArray) (a2:Int)
def K0:Ex→St→Rs:=dG (E k) (eK (E k) Tryz.f51 (C k) (a0,a1,a2,())) [.blk 0,.code (dU Tryz.f51 4 15)]
def V0 (n0:Nat):T0:=fun x0 x1 x2 x3 x4 x5 x6 x7 x8 x9 x10 x11=>bU (cH (E k) (dU Tryz.f51 7 23)) (bH 0 [1,2,3,6,8,9]) (K0 k a0 a1 a2) n0 (mk 60 7 [(1,.str x0),(2,.int .i64 x1),(3,.ptr 0 0 0),(6,.ptr 1 0 0),(8,.ptr 4 0 0),(9,.int .i64 x2)] [(0,.box [.bool x3,.sl true bF x4,.sl true aW x5]),(2,.own false bF x6),(3,.own false aW x7),(1,.box [.bool x8,.ref 2,.ref 3]),(5,.own false bF x9),(6,.own false aW x10),(4,.box [.bool x11,.ref 5,.ref 6])])
theorem e0:V0 k a0 a1 a2=l0 k:=ap (b:=b0 k) rfl (fun _=>by kernel_rfl) fun _=>rfl
end
theorem ctr:Cp 51 (C k):=ry (D k) (E:=E k) rfl rfl Tryz.func51 rfl fun ⟨a0,a1,a2,_⟩=>(show _=t k (V0 k a0 a1 a2 k) a0 a1 a2 by kernel_rfl).trans (by rw [e0];rfl)
end eY
namespace ij
def C:Cn:=⟨[.give af,.val aC,.val aK],[af,aG],true,true,fun x=>f k x.1 x.2.1 x.2.2.1⟩
def D:List Ce:=[q (dX.ctr k),q (dF.ctr k),q (eX.ctr k),q (eY.ctr k)]
theorem ctr:Cp 32 (C k):=rz k rfl (D k) Tryz.func32 rfl fun _=>by kernel_rfl
end ij
namespace e_
def C:Cn:=⟨[.val (.slice aW)],[.bool],true,false,fun x=>f k x.1⟩
def D:List Ce:=[q (dX.ctr k)]
def E:jF:=en (D k) [(4,[0,3])] 0 [] k
section
variable (a0:List (Ty.d aW))
def K0:Ex→St→Rs:=dG (E k) (eK (E k) Tryz.f34 (C k) (a0,())) [.blk 0,.code (dU Tryz.f34 3 7)]
def V0 (n0:Nat):T0:=fun x0 x1=>bU (cH (E k) (dU Tryz.f34 6 11)) (bH 0 [0,3]) (K0 k a0) n0 (mk 44 0 [(0,.sl true aW x0),(3,.int .i64 x1)] [])
theorem e0:V0 k a0=l0 k:=ap (b:=b0 k) rfl (fun _=>by kernel_rfl) fun _=>rfl
end
theorem ctr:Cp 34 (C k):=ry (D k) (E:=E k) rfl rfl Tryz.func34 rfl fun ⟨a0,_⟩=>(show _=t k (V0 k a0 k) a0 by kernel_rfl).trans (by rw [e0];rfl)
end e_
namespace ik
def C:Cn:=⟨[.val aK,.val aW],[aK,.bool],true,false,fun x=>f k x.1 x.2.1⟩
def D:List Ce:=[q (eZ.ctr k),q (e_.ctr k),q (bI.ctr k)]
theorem ctr:Cp 33 (C k):=rz k rfl (D k) Tryz.func33 rfl fun _=>by kernel_rfl
end ik
namespace bT
def C:Cn:=⟨[.val af,.val aC],[af,aG],true,true,fun x=>f k x.1 x.2.1⟩
def D:List Ce:=[q (eZ.ctr k),q (fM.ctr k),q (fU.ctr k),q (bP.ctr k),q (gG.ctr k),q (ij.ctr k),q (ik.ctr k),q (e_.ctr k)]
def E:jF:=en (D k) [(5,[2,3,4,5,6,7])] 0 [(30,[3,4,5,6]),(43,[3,4,5,6,8])] k
section
variable (a0:Ty.d af) (a1:Ty.d aC)
def K0:Ex→St→Rs:=dG (E k) (eK (E k) Tryz.f15 (C k) (a0,a1,())) [.blk 0,.code (dU Tryz.f15 5 31)]
def K1:Ex→St→Rs:=dG (E k) (eK (E k) Tryz.f15 (C k) (a0,a1,())) []
def K2:Ex→St→Rs:=dG (E k) (eK (E k) Tryz.f15 (C k) (a0,a1,())) []
def V0 (n0:Nat):T0:=fun x0 x1 x2 x3 x4 x5 x6 x7 x8 x9 x10 x11 x12 x13 x14 x15 x16 x17 x18 x19 x20=>bU (cH (E k) (dU Tryz.f15 8 47)) (bH 0 [2,3,4,5,6,7]) (K0 k a0 a1) n0 (mk 207 10 [(2,.ptr 0 0 0),(3,.ptr 1 0 0),(4,.ptr 2 0 0),(5,.ptr 5 0 0),(6,.ptr 7 0 0),(7,.int .i64 x0)] [(0,.box [.bool x1,.sl true aL x2,.int .i64 x3,.sl true aK x4]),(1,.box [.int .i64 x5,.int .i64 x6,.str x7,.str x8,.int .i64 x9]),(3,.own false aL x10),(4,.own false aK x11),(2,.box [.bool x12,.ref 3,.int .i64 x13,.ref 4]),(6,.own false .str x14),(5,.box [.int .i64 x15,.str x16,.ref 6]),(8,.own false aL x17),(9,.own false aK x18),(7,.box [.bool x19,.ref 8,.int .i64 x20,.ref 9])])
def V1 (n1:Nat):T1:=fun x0 x1 x2 x3 x4 x5 x6 x7 x8 x9 x10 x11 x12 x13 x14 x15=>qC (cH (E k) (dU Tryz.f15 9 511)) (K1 k a0 a1) n1 (mk 207 9 [(3,.ptr 0 0 0),(4,.ptr 1 0 0),(5,.ptr 4 0 0),(6,.ptr 6 0 0)] [(0,.box [.int .i64 x0,.int .i64 x1,.str x2,.str x3,.int .i64 x4]),(2,.own false aL x5),(3,.own false aK x6),(1,.box [.bool x7,.ref 2,.int .i64 x8,.ref 3]),(5,.own false .str x9),(4,.box [.int .i64 x10,.str x11,.ref 5]),(7,.own false aL x12),(8,.own false aK x13),(6,.box [.bool x14,.ref 7,.int .i64 x15,.ref 8])])
def V2 (n2:Nat):T2:=fun x0 x1 x2 x3 x4 x5 x6 x7 x8 x9 x10 x11 x12 x13 x14 x15 x16 x17 x18=>qC (cH (E k) (dU Tryz.f15 11 2047)) (K2 k a0 a1) n2 (mk 207 10 [(3,.ptr 0 0 0),(4,.ptr 1 0 0),(5,.ptr 4 0 0),(6,.ptr 6 0 0),(8,.ptr 9 0 0)] [(0,.box [.int .i64 x0,.int .i64 x1,.str x2,.str x3,.int .i64 x4]),(2,.own false aL x5),(3,.own false aK x6),(1,.box [.bool x7,.ref 2,.int .i64 x8,.ref 3]),(5,.own false .str x9),(4,.box [.int .i64 x10,.str x11,.ref 5]),(7,.own false aL x12),(8,.own false aK x13),(6,.box [.bool x14,.ref 7,.int .i64 x15,.ref 8]),(9,.box [.bool x16,.sl false bF x17,.sl false aW x18])])
theorem e2 (n2:Nat):V2 k a0 a1 n2=l2 k n2:=by
 induction n2 with
 | zero=>rfl
 | succ n2 ih =>
  have h:V2 k a0 a1 (n2+1)=b2 k:=by kernel_rfl
  rw [h]
  rfl
theorem e1 (n1:Nat):V1 k a0 a1 n1=l1 k n1:=by
 induction n1 with
 | zero=>rfl
 | succ n1 ih =>
  have h:V1 k a0 a1 (n1+1)=b1 k (V2 k a0 a1 k):=by kernel_rfl
  rw [h,e2]
  rfl
theorem e0 (n0:Nat):V0 k a0 a1 n0=l0 k n0:=by
 induction n0 with
 | zero=>rfl
 | succ n0 ih =>
  have h:V0 k a0 a1 (n0+1)=b0 k (V1 k a0 a1 k) (V0 k a0 a1 n0):=by kernel_rfl
  rw [h,e1,ih]
  rfl
end
theorem ctr:Cp 15 (C k):=ry (D k) (E:=E k) rfl rfl Tryz.func15 rfl fun ⟨a0,a1,_⟩=>(show _=t k (V0 k a0 a1 k) a0 a1 by kernel_rfl).trans (by rw [e0];rfl)
end bT
namespace d6
def C:Cn:=⟨[.val (.slice aC)],[af,(.slice aG)],true,true,fun x=>f k x.1⟩
def D:List Ce:=[q (jV.ctr k),q (bT.ctr k)]
def E:jF:=en (D k) [(4,[0,2,4,5,6])] 0 [] k
section
variable (a0:List (Ty.d aC))
def K0:Ex→St→Rs:=dG (E k) (eK (E k) Tryz.f6 (C k) (a0,())) [.blk 0,.code (dU Tryz.f6 4 15)]
def V0 (n0:Nat):T0:=fun x0 x1 x2 x3 x4 x5 x6 x7 x8 x9 x10=>bU (cH (E k) (dU Tryz.f6 7 23)) (bH 0 [0,2,4,5,6]) (K0 k a0) n0 (mk 37 7 [(0,.sl true aC x0),(2,.ptr 0 0 0),(4,.ptr 3 0 0),(5,.ref 6),(6,.int .i64 x1)] [(1,.own false aL x2),(2,.own false aK x3),(0,.box [.bool x4,.ref 1,.int .i64 x5,.ref 2]),(4,.own false aL x6),(5,.own false aK x7),(3,.box [.bool x8,.ref 4,.int .i64 x9,.ref 5]),(6,.own false aG x10)])
def V1 (n0:Nat):T1:=fun x0 x1 x2 x3 x4 x5 x6 x7 x8 x9 x10=>bU (cH (E k) (dU Tryz.f6 7 23)) (bH 0 [0,2,4,5,6]) (K0 k a0) n0 (mk 37 7 [(0,.sl true aC x0),(2,.ptr 0 0 0),(4,.ptr 3 0 0),(5,.ref 6),(6,.int .i64 x1)] [(1,.own false aL x2),(2,.own false aK x3),(0,.box [.bool x4,.ref 1,.int .i64 x5,.ref 2]),(4,.own false aL x6),(5,.own true aK x7),(3,.box [.bool x8,.ref 4,.int .i64 x9,.ref 5]),(6,.own false aG x10)])
theorem e1:V1 k a0=l1 k:=ap (b:=b1 k) rfl (fun _=>by kernel_rfl) fun _=>rfl
theorem e0 (n0:Nat):V0 k a0 n0=l0 k n0:=by
 induction n0 with
 | zero=>rfl
 | succ n0 ih =>
  have h:V0 k a0 (n0+1)=b0 k (V1 k a0 n0):=by kernel_rfl
  rw [h,e1]
  rfl
end
theorem ctr:Cp 6 (C k):=ry (D k) (E:=E k) rfl rfl Tryz.func6 rfl fun ⟨a0,_⟩=>(show _=t k (V0 k a0 k) a0 by kernel_rfl).trans (by rw [e0];rfl)
end d6
namespace fj
def C:Cn:=⟨[.val aK,.val .str],[.bool],true,false,fun x=>f k x.1 x.2.1⟩
def D:List Ce:=[q (dF.ctr k)]
theorem ctr:Cp 18 (C k):=rz k rfl (D k) Tryz.func18 rfl fun _=>by kernel_rfl
end fj
namespace aH
def C:Cn:=⟨[.val (.slice aC),.val (.slice aG)],[(.slice cF)],true,false,fun x=>f k x.1 x.2.1⟩
def D:List Ce:=[q (bP.ctr k),q (bI.ctr k),q (fj.ctr k)]
def E:jF:=en (D k) [(5,[0,1,5,6,7,8])] 0 [(7,[0,1,5,6,7,8]),(12,[0,1,5,6,7,8,9,10]),(13,[0,1,5,6,7,8,9,10]),(1015017,[0,1,5,6,7,8,9,10,11,57]),(20,[0,1,5,6,7,8,11]),(1025026,[0,1,5,6,7,8,9,10,11,148]),(1027028,[0,1,5,6,7,8,9,10,11,187]),(1029000,[0,1,5,6,7,8,9,11,220])] k
section
variable (a0:List (Ty.d aC)) (a1:List (Ty.d aG))
def K0:Ex→St→Rs:=dG (E k) (eK (E k) Tryz.f7 (C k) (a0,a1,())) [.blk 0,.code (dU Tryz.f7 5 31)]
def B0 (n0:Nat):Ex→St→Rs:=QN (E k) (dU Tryz.f7 8 47) 0 [0,1,5,6,7,8] (K0 k a0 a1) n0
def K1 (n0:Nat):Ex→St→Rs:=dG (E k) (B0 k a0 a1 n0) []
def K2 (n0:Nat):Ex→St→Rs:=dG (E k) (B0 k a0 a1 n0) [.blk 1,.code (dU Tryz.f7 10 815)]
def K3 (n0:Nat):Ex→St→Rs:=dG (E k) (B0 k a0 a1 n0) [.blk 1,.code (dU Tryz.f7 10 815)]
def K4 (n0:Nat):Ex→St→Rs:=dG (E k) (B0 k a0 a1 n0) [.blk 2,.blk 1,.code (dU Tryz.f7 10 815)]
def K5 (n0:Nat):Ex→St→Rs:=dG (E k) (B0 k a0 a1 n0) [.blk 2,.blk 1,.code (dU Tryz.f7 10 815)]
def K6 (n0:Nat):Ex→St→Rs:=dG (E k) (B0 k a0 a1 n0) [.blk 2,.blk 1,.code (dU Tryz.f7 10 815)]
def K7 (n0:Nat):Ex→St→Rs:=dG (E k) (B0 k a0 a1 n0) [.blk 2,.blk 1,.code (dU Tryz.f7 10 815)]
def K8 (n0:Nat):Ex→St→Rs:=dG (E k) (B0 k a0 a1 n0) [.blk 2,.blk 1,.code (dU Tryz.f7 10 815)]
def V0 (n0:Nat):T0:=fun x0 x1 x2 x3 x4 x5=>bU (cH (E k) (dU Tryz.f7 8 47)) (bH 0 [0,1,5,6,7,8]) (K0 k a0 a1) n0 (mk 255 3 [(0,.sl true aC x0),(1,.sl true aG x1),(5,.ref 0),(6,.ref 1),(7,.ref 2),(8,.int .i64 x2)] [(0,.own false cF x3),(1,.own false cF x4),(2,.own false aK x5)])
def V1 (n0 n1:Nat):T1:=fun x0 x1 x2 x3 x4 x5=>qC (cH (E k) (dU Tryz.f7 9 303)) (K1 k a0 a1 n0) n1 (mk 255 3 [(0,.sl true aC x0),(1,.sl true aG x1),(5,.ref 0),(6,.ref 1),(7,.ref 2),(8,.int .i64 x2)] [(0,.own false cF x3),(1,.own false cF x4),(2,.own false aK x5)])
def V2 (n0 n2:Nat):T2:=fun x0 x1 x2 x3 x4 x5 x6 x7 x8 x9 x10 x11=>qC (cH (E k) (dU Tryz.f7 14 14639)) (K2 k a0 a1 n0) n2 (mk 255 4 [(0,.sl true aC x0),(1,.sl true aG x1),(5,.ref 0),(6,.ref 1),(7,.ref 2),(8,.int .i64 x2),(9,.ptr 3 0 0),(10,.int .i64 x3)] [(0,.own false cF x4),(1,.own false cF x5),(2,.own false aK x6),(3,.box [.int .i64 x7,.int .i64 x8,.str x9,.str x10,.int .i64 x11])])
def V3 (n0 n3:Nat):T3:=fun x0 x1 x2 x3 x4 x5 x6 x7 x8 x9 x10 x11=>qC (cH (E k) (dU Tryz.f7 15 31023)) (K3 k a0 a1 n0) n3 (mk 255 4 [(0,.sl true aC x0),(1,.sl true aG x1),(5,.ref 0),(6,.ref 1),(7,.ref 2),(8,.int .i64 x2),(9,.ptr 3 0 0),(10,.int .i64 x3)] [(0,.own false cF x4),(1,.own false cF x5),(2,.own false aK x6),(3,.box [.int .i64 x7,.int .i64 x8,.str x9,.str x10,.int .i64 x11])])
def V4 (n0 n4:Nat):T4:=fun x0 x1 x2 x3 x4 x5 x6 x7 x8 x9 x10 x11 x12 x13=>qC (cH (E k) (dU Tryz.f7 18 194863)) (K4 k a0 a1 n0) n4 (mk 255 4 [(0,.sl true aC x0),(1,.sl true aG x1),(5,.ref 0),(6,.ref 1),(7,.ref 2),(8,.int .i64 x2),(9,.ptr 3 0 0),(10,.int .i64 x3),(11,.int .i64 x4),(57,.bool x5)] [(0,.own false cF x6),(1,.own false cF x7),(2,.own false aK x8),(3,.box [.int .i64 x9,.int .i64 x10,.str x11,.str x12,.int .i64 x13])])
def V5 (n0 n5:Nat):T5:=fun x0 x1 x2 x3 x4 x5 x6=>qC (cH (E k) (dU Tryz.f7 23 7272751)) (K5 k a0 a1 n0) n5 (mk 255 3 [(0,.sl true aC x0),(1,.sl true aG x1),(5,.ref 0),(6,.ref 1),(7,.ref 2),(8,.int .i64 x2),(11,.int .i64 x3)] [(0,.own false cF x4),(1,.own false cF x5),(2,.own false aK x6)])
def V6 (n0 n6:Nat):T6:=fun x0 x1 x2 x3 x4 x5 x6 x7 x8 x9 x10 x11 x12 x13=>qC (cH (E k) (dU Tryz.f7 24 16709935)) (K6 k a0 a1 n0) n6 (mk 255 4 [(0,.sl true aC x0),(1,.sl true aG x1),(5,.ref 0),(6,.ref 1),(7,.ref 2),(8,.int .i64 x2),(9,.ptr 3 0 0),(10,.int .i64 x3),(11,.int .i64 x4),(148,.bool x5)] [(0,.own false cF x6),(1,.own false cF x7),(2,.own false aK x8),(3,.box [.int .i64 x9,.int .i64 x10,.str x11,.str x12,.int .i64 x13])])
def V7 (n0 n7:Nat):T7:=fun x0 x1 x2 x3 x4 x5 x6 x7 x8 x9 x10 x11 x12 x13=>qC (cH (E k) (dU Tryz.f7 26 67041583)) (K7 k a0 a1 n0) n7 (mk 255 4 [(0,.sl true aC x0),(1,.sl true aG x1),(5,.ref 0),(6,.ref 1),(7,.ref 2),(8,.int .i64 x2),(9,.ptr 3 0 0),(10,.int .i64 x3),(11,.int .i64 x4),(187,.bool x5)] [(0,.own false cF x6),(1,.own false cF x7),(2,.own false aK x8),(3,.box [.int .i64 x9,.int .i64 x10,.str x11,.str x12,.int .i64 x13])])
def V8 (n0 n8:Nat):T8:=fun x0 x1 x2 x3 x4 x5 x6 x7 x8 x9 x10 x11 x12=>qC (cH (E k) (dU Tryz.f7 28 268368175)) (K8 k a0 a1 n0) n8 (mk 255 4 [(0,.sl true aC x0),(1,.sl true aG x1),(5,.ref 0),(6,.ref 1),(7,.ref 2),(8,.int .i64 x2),(9,.ptr 3 0 0),(11,.int .i64 x3),(220,.bool x4)] [(0,.own false cF x5),(1,.own false cF x6),(2,.own false aK x7),(3,.box [.int .i64 x8,.int .i64 x9,.str x10,.str x11,.int .i64 x12])])
theorem e5 (n0 n5:Nat):V5 k a0 a1 n0 n5=l5 k (V0 k a0 a1 n0) n5:=by
 induction n5 with
 | zero=>rfl
 | succ n5 ih =>
  have h:V5 k a0 a1 n0 (n5+1)=b5 k (V0 k a0 a1 n0):=by kernel_rfl
  rw [h]
  rfl
theorem e8 (n0 n8:Nat):V8 k a0 a1 n0 n8=l8 k (V0 k a0 a1 n0) n8:=by
 induction n8 with
 | zero=>rfl
 | succ n8 ih =>
  have h:V8 k a0 a1 n0 (n8+1)=b8 k (V0 k a0 a1 n0):=by kernel_rfl
  rw [h]
  rfl
theorem e7 (n0 n7:Nat):V7 k a0 a1 n0 n7=l7 k (V0 k a0 a1 n0) n7:=by
 induction n7 with
 | zero=>rfl
 | succ n7 ih =>
  have h:V7 k a0 a1 n0 (n7+1)=b7 k (V8 k a0 a1 n0 k) (V0 k a0 a1 n0):=by kernel_rfl
  rw [h,e8]
  rfl
theorem e6 (n0 n6:Nat):V6 k a0 a1 n0 n6=l6 k (V0 k a0 a1 n0) n6:=by
 induction n6 with
 | zero=>rfl
 | succ n6 ih =>
  have h:V6 k a0 a1 n0 (n6+1)=b6 k (V7 k a0 a1 n0 k) (V0 k a0 a1 n0):=by kernel_rfl
  rw [h,e7]
  rfl
theorem e4 (n0 n4:Nat):V4 k a0 a1 n0 n4=l4 k (V0 k a0 a1 n0) n4:=by
 induction n4 with
 | zero=>rfl
 | succ n4 ih =>
  have h:V4 k a0 a1 n0 (n4+1)=b4 k (V5 k a0 a1 n0 k) (V6 k a0 a1 n0 k) (V0 k a0 a1 n0):=by kernel_rfl
  rw [h,e5,e6]
  rfl
theorem e3 (n0 n3:Nat):V3 k a0 a1 n0 n3=l3 k (V0 k a0 a1 n0) n3:=by
 induction n3 with
 | zero=>rfl
 | succ n3 ih =>
  have h:V3 k a0 a1 n0 (n3+1)=b3 k (V4 k a0 a1 n0 k) (V0 k a0 a1 n0):=by kernel_rfl
  rw [h,e4]
  rfl
theorem e2 (n0 n2:Nat):V2 k a0 a1 n0 n2=l2 k (V0 k a0 a1 n0) n2:=by
 induction n2 with
 | zero=>rfl
 | succ n2 ih =>
  have h:V2 k a0 a1 n0 (n2+1)=b2 k (V3 k a0 a1 n0 k) (V0 k a0 a1 n0):=by kernel_rfl
  rw [h,e3]
  rfl
theorem e1 (n0 n1:Nat):V1 k a0 a1 n0 n1=l1 k (V0 k a0 a1 n0) n1:=by
 induction n1 with
 | zero=>rfl
 | succ n1 ih =>
  have h:V1 k a0 a1 n0 (n1+1)=b1 k (V2 k a0 a1 n0 k) (V0 k a0 a1 n0):=by kernel_rfl
  rw [h,e2]
  rfl
theorem e0 (n0:Nat):V0 k a0 a1 n0=l0 k n0:=by
 induction n0 with
 | zero=>rfl
 | succ n0 ih =>
  have h:V0 k a0 a1 (n0+1)=b0 k (V1 k a0 a1 n0 k) (V0 k a0 a1 n0):=by kernel_rfl
  rw [h,e1,ih]
  rfl
end
theorem ctr:Cp 7 (C k):=ry (D k) (E:=E k) rfl rfl Tryz.func7 rfl fun ⟨a0,a1,_⟩=>(show _=t k (V0 k a0 a1 k) a0 a1 by kernel_rfl).trans (by rw [e0];rfl)
end aH
namespace nO
def C:Cn:=⟨[.val (.slice (.int .u8)),.val (.int .i64)],[(.int .i64)],true,false,fun x=>f k x.1 x.2.1⟩
theorem ctr:Cp 8 (C k):=rz k rfl [] Tryz.func8 rfl fun _=>by kernel_rfl
end nO
namespace iR
def C:Cn:=⟨[.val (.slice aC)],[yF],false,true,fun x=>f k x.1⟩
theorem ctr:Cp 11 (C k):=rz k rfl [] Tryz.func11 rfl fun _=>by kernel_rfl
end iR
namespace ac
def C:Cn:=⟨[.val (.int .i64),.val (.int .i64),.val (.int .i64)],[.bool],true,false,fun x=>f k x.1 x.2.1 x.2.2.1⟩
theorem ctr:Cp 20 (C k):=rz k rfl [] Tryz.func20 rfl fun _=>by kernel_rfl
end ac
namespace jS
def C:Cn:=⟨[.val (.int .i64)],[aA],true,false,fun x=>f k x.1⟩
def D:List Ce:=[q (ac.ctr k)]
theorem ctr:Cp 23 (C k):=rz k rfl (D k) Tryz.func23 rfl fun _=>by kernel_rfl
end jS
namespace bA
def C:Cn:=⟨[.val aA],[aA],true,false,fun x=>f k x.1⟩
theorem ctr:Cp 37 (C k):=rz k rfl [] Tryz.func37 rfl fun _=>by kernel_rfl
end bA
namespace eC
def C:Cn:=⟨[.val .str],[.bool],true,false,fun x=>f k x.1⟩
def D:List Ce:=[q (ac.ctr k)]
def E:jF:=en (D k) [(2,[0,3])] 0 [] k
section
variable (a0:ByteArray)
def K0:Ex→St→Rs:=dG (E k) (eK (E k) Tryz.f55 (C k) (a0,())) [.blk 0,.code (dU Tryz.f55 2 3)]
def V0 (n0:Nat):T0:=fun x0 x1=>bU (cH (E k) (dU Tryz.f55 5 5)) (bH 0 [0,3]) (K0 k a0) n0 (mk 37 0 [(0,.str x0),(3,.int .i64 x1)] [])
theorem e0:V0 k a0=l0 k:=ap (b:=b0 k) rfl (fun _=>by kernel_rfl) fun _=>rfl
end
theorem ctr:Cp 55 (C k):=ry (D k) (E:=E k) rfl rfl Tryz.func55 rfl fun ⟨a0,_⟩=>(show _=t k (V0 k a0 k) a0 by kernel_rfl).trans (by rw [e0];rfl)
end eC
namespace ay
def C:Cn:=⟨[.val aA],[.bool],true,false,fun x=>f k x.1⟩
def D:List Ce:=[q (ac.ctr k),q (eC.ctr k)]
def E:jF:=en (D k) [(5,[1,3,23,24,25])] 0 [] k
section
variable (a0:Ty.d aA)
def K0:Ex→St→Rs:=dG (E k) (eK (E k) Tryz.f38 (C k) (a0,())) [.blk 0,.code (dU Tryz.f38 4 15)]
def V0 (n0:Nat):T0:=fun x0 x1 x2 x3 x4 x5 x6 x7=>bU (cH (E k) (dU Tryz.f38 7 23)) (bH 0 [1,3,23,24,25]) (K0 k a0) n0 (mk 69 1 [(1,.ptr 0 0 0),(3,.int .i64 x0),(23,.sl true aL x1),(24,.int .i64 x2),(25,.int .i64 x3)] [(0,.box [.sl true aL x4,.int .i64 x5,.int .i64 x6,.bool x7])])
theorem e0:V0 k a0=l0 k:=ap (b:=b0 k) rfl (fun _=>by kernel_rfl) fun _=>rfl
end
theorem ctr:Cp 38 (C k):=ry (D k) (E:=E k) rfl rfl Tryz.func38 rfl fun ⟨a0,_⟩=>(show _=t k (V0 k a0 k) a0 by kernel_rfl).trans (by rw [e0];rfl)
end ay
namespace ie
def C:Cn:=⟨[.val aA,.val (.int .i64)],[aA],true,false,fun x=>f k x.1 x.2.1⟩
def D:List Ce:=[q (bA.ctr k),q (ay.ctr k),q (ac.ctr k)]
theorem ctr:Cp 22 (C k):=rz k rfl (D k) Tryz.func22 rfl fun _=>by kernel_rfl
end ie
namespace bW
def C:Cn:=⟨[.val aA,.val .str],[(.int .i64)],true,false,fun x=>f k x.1 x.2.1⟩
def E:jF:=en [] [(2,[1,8,9,10])] 0 [] k
section
variable (a0:Ty.d aA) (a1:ByteArray)
def K0:Ex→St→Rs:=dG (E k) (eK (E k) Tryz.f65 (C k) (a0,a1,())) [.blk 0,.code (dU Tryz.f65 2 3)]
def V0 (n0:Nat):T0:=fun x0 x1 x2 x3=>bU (cH (E k) (dU Tryz.f65 5 5)) (bH 0 [1,8,9,10]) (K0 k a0 a1) n0 (mk 21 0 [(1,.str x0),(8,.sl true aL x1),(9,.int .i64 x2),(10,.int .i64 x3)] [])
theorem e0:V0 k a0 a1=l0 k:=ap (b:=b0 k) rfl (fun _=>by kernel_rfl) fun _=>rfl
end
theorem ctr:Cp 65 (C k):=ry [] (E:=E k) rfl rfl Tryz.func65 rfl fun ⟨a0,a1,_⟩=>(show _=t k (V0 k a0 a1 k) a0 a1 by kernel_rfl).trans (by rw [e0];rfl)
end bW
namespace bq
def C:Cn:=⟨[.val aA,.val .str],[.str,.bool],true,false,fun x=>f k x.1 x.2.1⟩
def D:List Ce:=[q (bW.ctr k),q (ay.ctr k)]
theorem ctr:Cp 52 (C k):=rz k rfl (D k) Tryz.func52 rfl fun _=>by kernel_rfl
end bq
namespace d9
def C:Cn:=⟨[.val .str],[(.int .i64),(.int .i64)],true,false,fun x=>f k x.1⟩
def E:jF:=en [] [(3,[0,4,5])] 0 [] k
section
variable (a0:ByteArray)
def K0:Ex→St→Rs:=dG (E k) (eK (E k) Tryz.f128 (C k) (a0,())) [.blk 0,.code (dU Tryz.f128 3 7)]
def V0 (n0:Nat):T0:=fun x0 x1 x2=>bU (cH (E k) (dU Tryz.f128 6 11)) (bH 0 [0,4,5]) (K0 k a0) n0 (mk 39 0 [(0,.str x0),(4,.int .i64 x1),(5,.int .i64 x2)] [])
theorem e0:V0 k a0=l0 k:=ap (b:=b0 k) rfl (fun _=>by kernel_rfl) fun _=>rfl
end
theorem ctr:Cp 128 (C k):=ry [] (E:=E k) rfl rfl Tryz.func128 rfl fun ⟨a0,_⟩=>(show _=t k (V0 k a0 k) a0 by kernel_rfl).trans (by rw [e0];rfl)
end d9
namespace fW
def C:Cn:=⟨[.val (.int .i64)],[.str],true,false,fun x=>f k x.1⟩
def D:List Ce:=[q (ac.ctr k)]
def E:jF:=en (D k) [(4,[0,3])] 0 [] k
section
variable (a0:Int)
def K0:Ex→St→Rs:=dG (E k) (eK (E k) Tryz.f169 (C k) (a0,())) [.blk 0,.code (dU Tryz.f169 4 15)]
def V0 (n0:Nat):T0:=fun x0 x1=>bU (cH (E k) (dU Tryz.f169 6 7)) (bH 0 [0,3]) (K0 k a0) n0 (mk 24 1 [(0,.int .i64 x0),(3,.ref 0)] [(0,.own false (.int .u8) x1)])
theorem e0:V0 k a0=l0 k:=ap (b:=b0 k) rfl (fun _=>by kernel_rfl) fun _=>rfl
end
theorem ctr:Cp 169 (C k):=ry (D k) (E:=E k) rfl rfl Tryz.func169 rfl fun ⟨a0,_⟩=>(show _=t k (V0 k a0 k) a0 by kernel_rfl).trans (by rw [e0];rfl)
end fW
namespace dz
def C:Cn:=⟨[.val .str],[.str],true,false,fun x=>f k x.1⟩
def D:List Ce:=[q (fW.ctr k)]
theorem ctr:Cp 158 (C k):=rz k rfl (D k) Tryz.func158 rfl fun _=>by kernel_rfl
end dz
namespace gI
def C:Cn:=⟨[.val .str],[(.int .i64)],true,false,fun x=>f k x.1⟩
def E:jF:=en [] [(3,[0,3,4]),(7,[0,3,4,18])] 0 [] k
section
variable (a0:ByteArray)
def K0:Ex→St→Rs:=dG (E k) (eK (E k) Tryz.f160 (C k) (a0,())) [.blk 0,.code (dU Tryz.f160 3 7)]
def B0 (n0:Nat):Ex→St→Rs:=QN (E k) (dU Tryz.f160 6 11) 0 [0,3,4] (K0 k a0) n0
def K1 (n0:Nat):Ex→St→Rs:=dG (E k) (B0 k a0 n0) [.blk 2,.blk 1,.code (dU Tryz.f160 8 203)]
def V0 (n0:Nat):T0:=fun x0 x1 x2=>bU (cH (E k) (dU Tryz.f160 6 11)) (bH 0 [0,3,4]) (K0 k a0) n0 (mk 32 0 [(0,.str x0),(3,.int .u32 x1),(4,.int .i64 x2)] [])
def V1 (n0 n1:Nat):T1:=fun x0 x1 x2 x3=>bU (cH (E k) (dU Tryz.f160 13 1611)) (bH 0 [0,3,4,18]) (K1 k a0 n0) n1 (mk 32 0 [(0,.str x0),(3,.int .u32 x1),(4,.int .i64 x2),(18,.int .i64 x3)] [])
theorem e1 (n0:Nat):V1 k a0 n0=l1 k (V0 k a0 n0):=ap (b:=b1 k (V0 k a0 n0)) rfl (fun _=>by kernel_rfl) fun _=>rfl
theorem e0 (n0:Nat):V0 k a0 n0=l0 k n0:=by
 induction n0 with
 | zero=>rfl
 | succ n0 ih =>
  have h:V0 k a0 (n0+1)=b0 k (V1 k a0 n0 k) (V0 k a0 n0):=by kernel_rfl
  rw [h,e1,ih]
  rfl
end
theorem ctr:Cp 160 (C k):=ry [] (E:=E k) rfl rfl Tryz.func160 rfl fun ⟨a0,_⟩=>(show _=t k (V0 k a0 k) a0 by kernel_rfl).trans (by rw [e0];rfl)
end gI
namespace dh
def C:Cn:=⟨[.val (.int .i64),.val (.int .i64)],[.str],true,false,fun x=>f k x.1 x.2.1⟩
def D:List Ce:=[q (ac.ctr k)]
def E:jF:=en (D k) [(5,[0,5,6])] 0 [] k
section
variable (a0:Int) (a1:Int)
def K0:Ex→St→Rs:=dG (E k) (eK (E k) Tryz.f159 (C k) (a0,a1,())) [.blk 0,.code (dU Tryz.f159 4 15)]
def V0 (n0:Nat):T0:=fun x0 x1 x2=>bU (cH (E k) (dU Tryz.f159 7 23)) (bH 0 [0,5,6]) (K0 k a0 a1) n0 (mk 35 1 [(0,.int .i64 x0),(5,.ref 0),(6,.int .i64 x1)] [(0,.own false (.int .u8) x2)])
theorem e0:V0 k a0 a1=l0 k:=ap (b:=b0 k) rfl (fun _=>by kernel_rfl) fun _=>rfl
end
theorem ctr:Cp 159 (C k):=ry (D k) (E:=E k) rfl rfl Tryz.func159 rfl fun ⟨a0,a1,_⟩=>(show _=t k (V0 k a0 a1 k) a0 a1 by kernel_rfl).trans (by rw [e0];rfl)
end dh
namespace gY
def C:Cn:=⟨[.val .str],[.str],true,false,fun x=>f k x.1⟩
def D:List Ce:=[q (dz.ctr k),q (gI.ctr k),q (dh.ctr k)]
theorem ctr:Cp 129 (C k):=rz k rfl (D k) Tryz.func129 rfl fun _=>by kernel_rfl
end gY
namespace dm
def C:Cn:=⟨[.val .str],[.str,(.int .i64)],true,false,fun x=>f k x.1⟩
def D:List Ce:=[q (d9.ctr k),q (gY.ctr k)]
theorem ctr:Cp 89 (C k):=rz k rfl (D k) Tryz.func89 rfl fun _=>by kernel_rfl
end dm
namespace aO
def C:Cn:=⟨[.io true 0 me],[(.int .i64)],true,false,fun x=>f k x.1⟩
def D:List Ce:=[q (d9.ctr k)]
theorem ctr:Cp 90 (C k):=rz k rfl (D k) Tryz.func90 rfl fun _=>by kernel_rfl
end aO
namespace dE
def C:Cn:=⟨[.val ch],[.bool],true,false,fun x=>f k x.1⟩
def D:List Ce:=[q (ac.ctr k)]
def E:jF:=en (D k) [(2,[1,6,7,8])] 0 [] k
section
variable (a0:Ty.d ch)
def K0:Ex→St→Rs:=dG (E k) (eK (E k) Tryz.f91 (C k) (a0,())) [.blk 0,.code (dU Tryz.f91 2 3)]
def V0 (n0:Nat):T0:=fun x0 x1 x2 x3 x4=>bU (cH (E k) (dU Tryz.f91 5 5)) (bH 0 [1,6,7,8]) (K0 k a0) n0 (mk 43 1 [(1,.ptr 0 0 0),(6,.sl true (.int .i64) x0),(7,.int .i64 x1),(8,.int .i64 x2)] [(0,.box [.int .i64 x3,.sl true (.int .i64) x4])])
theorem e0:V0 k a0=l0 k:=ap (b:=b0 k) rfl (fun _=>by kernel_rfl) fun _=>rfl
end
theorem ctr:Cp 91 (C k):=ry (D k) (E:=E k) rfl rfl Tryz.func91 rfl fun ⟨a0,_⟩=>(show _=t k (V0 k a0 k) a0 by kernel_rfl).trans (by rw [e0];rfl)
end dE
namespace b9
def C:Cn:=⟨[.val .str],[ch,.bool],true,false,fun x=>f k x.1⟩
def D:List Ce:=[q (dm.ctr k),q (aO.ctr k),q (dE.ctr k)]
def E:jF:=en (D k) [(6,[0,2,5,6,7,8,9])] 0 [] k
section
variable (a0:ByteArray)
def K0:Ex→St→Rs:=dG (E k) (eK (E k) Tryz.f66 (C k) (a0,())) [.blk 0,.code (dU Tryz.f66 6 63)]
def V0 (n0:Nat):T0:=fun x0 x1 x2 x3 x4 x5 x6 x7 x8 x9=>bU (cH (E k) (dU Tryz.f66 9 95)) (bH 0 [0,2,5,6,7,8,9]) (K0 k a0) n0 (mk 72 5 [(0,.str x0),(2,.ptr 0 0 0),(5,.int .i64 x1),(6,.ptr 2 0 0),(7,.ptr 3 0 0),(8,.int .i64 x2),(9,.int .i64 x3)] [(1,.own false (.int .i64) x4),(0,.box [.int .i64 x5,.ref 1]),(2,.box [.str x6,.bool x7]),(4,.own false (.int .i64) x8),(3,.box [.int .i64 x9,.ref 4])])
theorem e0:V0 k a0=l0 k:=ap (b:=b0 k) rfl (fun _=>by kernel_rfl) fun _=>rfl
end
theorem ctr:Cp 66 (C k):=ry (D k) (E:=E k) rfl rfl Tryz.func66 rfl fun ⟨a0,_⟩=>(show _=t k (V0 k a0 k) a0 by kernel_rfl).trans (by rw [e0];rfl)
end b9
namespace nY
def C:Cn:=⟨[.val (.int .i64)],[.str],true,false,fun x=>f k x.1⟩
def D:List Ce:=[q (nW.ctr k)]
theorem ctr:Cp 131 (C k):=rz k rfl (D k) Tryz.func131 rfl fun _=>by kernel_rfl
end nY
namespace jZ
def C:Cn:=⟨[.val .str,.val (.int .i64)],[.str],true,false,fun x=>f k x.1 x.2.1⟩
def D:List Ce:=[q (ac.ctr k),q (nY.ctr k)]
theorem ctr:Cp 94 (C k):=rz k rfl (D k) Tryz.func94 rfl fun _=>by kernel_rfl
end jZ
namespace aj
def C:Cn:=⟨[.val (.int .i64)],[.str],true,false,fun x=>f k x.1⟩
def D:List Ce:=[q (jZ.ctr k)]
theorem ctr:Cp 68 (C k):=rz k rfl (D k) Tryz.func68 rfl fun _=>by kernel_rfl
end aj
namespace aq
def C:Cn:=⟨[.io true 0 me,.val (.int .i64)],[.str],true,false,fun x=>f k x.1 x.2.1⟩
theorem ctr:Cp 133 (C k):=rz k rfl [] Tryz.func133 rfl fun _=>by kernel_rfl
end aq
namespace am
def C:Cn:=⟨[.io true 0 me],[.str],true,false,fun x=>f k x.1⟩
def D:List Ce:=[q (aO.ctr k),q (aq.ctr k)]
theorem ctr:Cp 134 (C k):=rz k rfl (D k) Tryz.func134 rfl fun _=>by kernel_rfl
end am
namespace df
def C:Cn:=⟨[.val .str],[.bool],true,false,fun x=>f k x.1⟩
def D:List Ce:=[q (ac.ctr k)]
theorem ctr:Cp 119 (C k):=rz k rfl (D k) Tryz.func119 rfl fun _=>by kernel_rfl
end df
namespace gD
def C:Cn:=⟨[.val ba],[.bool],true,false,fun x=>f k x.1⟩
def D:List Ce:=[q (df.ctr k),q (ac.ctr k)]
theorem ctr:Cp 162 (C k):=rz k rfl (D k) Tryz.func162 rfl fun _=>by kernel_rfl
end gD
namespace cC
def C:Cn:=⟨[.val .str,.val (.int .i64)],[(.int .i64),.bool],true,false,fun x=>f k x.1 x.2.1⟩
def D:List Ce:=[q (ac.ctr k)]
def E:jF:=en (D k) [(5,[0,6,17,18])] 0 [] k
section
variable (a0:ByteArray) (a1:Int)
def K0:Ex→St→Rs:=dG (E k) (eK (E k) Tryz.f161 (C k) (a0,a1,())) [.blk 0,.code (dU Tryz.f161 4 15)]
def V0 (n0:Nat):T0:=fun x0 x1 x2 x3=>bU (cH (E k) (dU Tryz.f161 7 23)) (bH 0 [0,6,17,18]) (K0 k a0 a1) n0 (mk 30 0 [(0,.str x0),(6,.int .i64 x1),(17,.int .i64 x2),(18,.int .i64 x3)] [])
theorem e0:V0 k a0 a1=l0 k:=ap (b:=b0 k) rfl (fun _=>by kernel_rfl) fun _=>rfl
end
theorem ctr:Cp 161 (C k):=ry (D k) (E:=E k) rfl rfl Tryz.func161 rfl fun ⟨a0,a1,_⟩=>(show _=t k (V0 k a0 a1 k) a0 a1 by kernel_rfl).trans (by rw [e0];rfl)
end cC
namespace d_
def C:Cn:=⟨[.val .str],[ba,.bool],true,false,fun x=>f k x.1⟩
def D:List Ce:=[q (aO.ctr k),q (am.ctr k),q (gD.ctr k),q (aq.ctr k),q (cC.ctr k)]
theorem ctr:Cp 130 (C k):=rz k rfl (D k) Tryz.func130 rfl fun _=>by kernel_rfl
end d_
namespace dD
def C:Cn:=⟨[.val .str],[(.slice cz),(.int .i64)],true,false,fun x=>f k x.1⟩
def D:List Ce:=[q (dm.ctr k),q (d_.ctr k)]
def E:jF:=en (D k) [(3,[0,4,5])] 0 [] k
section
variable (a0:ByteArray)
def K0:Ex→St→Rs:=dG (E k) (eK (E k) Tryz.f92 (C k) (a0,())) [.blk 0]
def V0 (n0:Nat):T0:=fun x0 x1 x2=>bU (cH (E k) (dU Tryz.f92 5 7)) (bH 0 [0,4,5]) (K0 k a0) n0 (mk 40 1 [(0,.str x0),(4,.ref 0),(5,.int .i64 x1)] [(0,.own false cz x2)])
theorem e0:V0 k a0=l0 k:=ap (b:=b0 k) rfl (fun _=>by kernel_rfl) fun _=>rfl
end
theorem ctr:Cp 92 (C k):=ry (D k) (E:=E k) rfl rfl Tryz.func92 rfl fun ⟨a0,_⟩=>(show _=t k (V0 k a0 k) a0 by kernel_rfl).trans (by rw [e0];rfl)
end dD
namespace eQ
def C:Cn:=⟨[.val (.int .i64),.val (.slice cz)],[(.slice aM)],true,false,fun x=>f k x.1 x.2.1⟩
def E:jF:=en [] [(3,[0,5,8,9,10])] 0 [] k
section
variable (a0:Int) (a1:List (Ty.d cz))
def K0:Ex→St→Rs:=dG (E k) (eK (E k) Tryz.f93 (C k) (a0,a1,())) [.blk 0,.code (dU Tryz.f93 3 7)]
def V0 (n0:Nat):T0:=fun x0 x1 x2 x3 x4=>bU (cH (E k) (dU Tryz.f93 6 11)) (bH 0 [0,5,8,9,10]) (K0 k a0 a1) n0 (mk 27 1 [(0,.int .i64 x0),(5,.ref 0),(8,.sl true cz x1),(9,.int .i64 x2),(10,.int .i64 x3)] [(0,.own false aM x4)])
theorem e0:V0 k a0 a1=l0 k:=ap (b:=b0 k) rfl (fun _=>by kernel_rfl) fun _=>rfl
end
theorem ctr:Cp 93 (C k):=ry [] (E:=E k) rfl rfl Tryz.func93 rfl fun ⟨a0,a1,_⟩=>(show _=t k (V0 k a0 a1 k) a0 a1 by kernel_rfl).trans (by rw [e0];rfl)
end eQ
namespace bJ
def C:Cn:=⟨[.io true 0 an,.val ch],[(.slice (.slice aM)),(.int .i64),.bool],true,false,fun x=>f k x.1 x.2.1⟩
def D:List Ce:=[q (aj.ctr k),q (bq.ctr k),q (dD.ctr k),q (eQ.ctr k)]
def E:jF:=en (D k) [(4,[0,3,7,8,16,17,18])] 1 [] k
section
variable (a0:Ty.d an) (a1:Ty.d ch)
def K0:Ex→St→Rs:=dG (E k) (eK (E k) Tryz.f67 (C k) (a0,a1,())) [.blk 0,.code (dU Tryz.f67 4 15)]
def V0 (n0:Nat):T0:=fun x0 x1 x2 x3 x4 x5 x6 x7 x8 x9 x10 x11=>bU (cH (E k) (dU Tryz.f67 7 23)) (bH 1 [0,3,7,8,16,17,18]) (K0 k a0 a1) n0 (mk 64 4 [(0,.ptr 0 0 0),(3,.ptr 2 0 0),(7,.ref 3),(8,.int .i64 x0),(16,.sl true (.int .i64) x1),(17,.int .i64 x2),(18,.int .i64 x3)] [(1,.own false aL x4),(0,.box [.ref 1,.int .i64 x5,.int .i64 x6,.bool x7,.int .i64 x8]),(2,.box [.int .i64 x9,.sl true (.int .i64) x10]),(3,.own false (.slice aM) x11)])
theorem e0:V0 k a0 a1=l0 k:=ap (b:=b0 k) rfl (fun _=>by kernel_rfl) fun _=>rfl
end
theorem ctr:Cp 67 (C k):=ry (D k) (E:=E k) rfl rfl Tryz.func67 rfl fun ⟨a0,a1,_⟩=>(show _=t k (V0 k a0 a1 k) a0 a1 by kernel_rfl).trans (by rw [e0];rfl)
end bJ
namespace eH
def C:Cn:=⟨[.io true 0 aA,.io true 0 .str,.io true 0 (.int .i64)],[(.int .i64)],true,false,fun x=>f k x.1 x.2.1 x.2.2.1⟩
def D:List Ce:=[q (bW.ctr k),q (ac.ctr k)]
theorem ctr:Cp 97 (C k):=rz k rfl (D k) Tryz.func97 rfl fun _=>by kernel_rfl
end eH
namespace fJ
def C:Cn:=⟨[.val aA,.fn 97 2,.io true 0 .str,.io true 0 (.int .i64)],[aA,(.int .i64)],true,false,fun x=>f k x.1 x.2.1 x.2.2.1⟩
def D:List Ce:=[q (bA.ctr k),q (ay.ctr k),q (eH.ctr k)]
theorem ctr:Cp 96 (C k):=rz k rfl (D k) Tryz.func96 rfl fun _=>by kernel_rfl
end fJ
namespace ic
def C:Cn:=⟨[.val aA,.val .str,.val (.int .i64)],[aA,(.int .i64)],true,false,fun x=>f k x.1 x.2.1 x.2.2.1⟩
def D:List Ce:=[q (fJ.ctr k)]
theorem ctr:Cp 70 (C k):=rz k rfl (D k) Tryz.func70 rfl fun _=>by kernel_rfl
end ic
namespace mG
def C:Cn:=⟨[.val (.int .i64)],[(.int .i64)],true,false,fun x=>f k x.1⟩
theorem ctr:Cp 95 (C k):=rz k rfl [] Tryz.func95 rfl fun _=>by kernel_rfl
end mG
namespace az
def C:Cn:=⟨[.io true 0 an,.give aA,.val (.int .i64)],[],true,false,fun x=>f k x.1 x.2.1 x.2.2.1⟩
def D:List Ce:=[q (mG.ctr k)]
theorem ctr:Cp 69 (C k):=rz k rfl (D k) Tryz.func69 rfl fun _=>by kernel_rfl
end az
namespace iL
def C:Cn:=⟨[.io true 0 aA,.io true 0 .str],[(.int .i64)],true,false,fun x=>f k x.1 x.2.1⟩
def D:List Ce:=[q (bW.ctr k)]
theorem ctr:Cp 132 (C k):=rz k rfl (D k) Tryz.func132 rfl fun _=>by kernel_rfl
end iL
namespace i7
def C:Cn:=⟨[.val aA,.fn 132 1,.io true 0 .str],[aA,(.int .i64)],true,false,fun x=>f k x.1 x.2.1⟩
def D:List Ce:=[q (bA.ctr k),q (ay.ctr k),q (iL.ctr k)]
theorem ctr:Cp 96 (C k):=rz k rfl (D k) Tryz.func96 rfl fun _=>by kernel_rfl
end i7
namespace mA
def C:Cn:=⟨[.val aA,.val .str],[aA,(.int .i64)],true,false,fun x=>f k x.1 x.2.1⟩
def D:List Ce:=[q (i7.ctr k)]
theorem ctr:Cp 98 (C k):=rz k rfl (D k) Tryz.func98 rfl fun _=>by kernel_rfl
end mA
namespace bL
def C:Cn:=⟨[.io true 0 an,.val .str],[],true,false,fun x=>f k x.1 x.2.1⟩
def D:List Ce:=[q (mA.ctr k),q (az.ctr k)]
theorem ctr:Cp 71 (C k):=rz k rfl (D k) Tryz.func71 rfl fun _=>by kernel_rfl
end bL
namespace dP
def C:Cn:=⟨[.val (.int .i64)],[.str],true,false,fun x=>f k x.1⟩
def D:List Ce:=[q (jZ.ctr k)]
theorem ctr:Cp 99 (C k):=rz k rfl (D k) Tryz.func99 rfl fun _=>by kernel_rfl
end dP
namespace eD
def C:Cn:=⟨[.val (.slice aB)],[.bool],true,false,fun x=>f k x.1⟩
def D:List Ce:=[q (df.ctr k),q (ac.ctr k)]
def E:jF:=en (D k) [(2,[0,5,6,7])] 0 [] k
section
variable (a0:List (Ty.d aB))
def K0:Ex→St→Rs:=dG (E k) (eK (E k) Tryz.f113 (C k) (a0,())) [.blk 0,.code (dU Tryz.f113 2 3)]
def V0 (n0:Nat):T0:=fun x0 x1 x2 x3=>bU (cH (E k) (dU Tryz.f113 5 5)) (bH 0 [0,5,6,7]) (K0 k a0) n0 (mk 58 0 [(0,.sl true aB x0),(5,.sl true aB x1),(6,.int .i64 x2),(7,.int .i64 x3)] [])
theorem e0:V0 k a0=l0 k:=ap (b:=b0 k) rfl (fun _=>by kernel_rfl) fun _=>rfl
end
theorem ctr:Cp 113 (C k):=ry (D k) (E:=E k) rfl rfl Tryz.func113 rfl fun ⟨a0,_⟩=>(show _=t k (V0 k a0 k) a0 by kernel_rfl).trans (by rw [e0];rfl)
end eD
namespace eA
def C:Cn:=⟨[.val iS],[.bool],true,false,fun x=>f k x.1⟩
def D:List Ce:=[q (ac.ctr k),q (eD.ctr k)]
def E:jF:=en (D k) [(2,[1,6,7,8])] 0 [] k
section
variable (a0:Ty.d iS)
def K0:Ex→St→Rs:=dG (E k) (eK (E k) Tryz.f135 (C k) (a0,())) [.blk 0,.code (dU Tryz.f135 2 3)]
def V0 (n0:Nat):T0:=fun x0 x1 x2 x3 x4 x5=>bU (cH (E k) (dU Tryz.f135 5 5)) (bH 0 [1,6,7,8]) (K0 k a0) n0 (mk 39 1 [(1,.ptr 0 0 0),(6,.sl true aB x0),(7,.int .i64 x1),(8,.int .i64 x2)] [(0,.box [.int .i64 x3,.int .i64 x4,.sl true aB x5])])
theorem e0:V0 k a0=l0 k:=ap (b:=b0 k) rfl (fun _=>by kernel_rfl) fun _=>rfl
end
theorem ctr:Cp 135 (C k):=ry (D k) (E:=E k) rfl rfl Tryz.func135 rfl fun ⟨a0,_⟩=>(show _=t k (V0 k a0 k) a0 by kernel_rfl).trans (by rw [e0];rfl)
end eA
namespace dY
def C:Cn:=⟨[.val (.slice (.int .i64))],[.str],true,false,fun x=>f k x.1⟩
def D:List Ce:=[q (fW.ctr k)]
def E:jF:=en (D k) [(3,[3,6,7,8])] 0 [] k
section
variable (a0:List Int)
def K0:Ex→St→Rs:=dG (E k) (eK (E k) Tryz.f149 (C k) (a0,())) [.blk 0,.code (dU Tryz.f149 3 7)]
def V0 (n0:Nat):T0:=fun x0 x1 x2 x3=>bU (cH (E k) (dU Tryz.f149 6 11)) (bH 0 [3,6,7,8]) (K0 k a0) n0 (mk 18 0 [(3,.str x0),(6,.sl true (.int .i64) x1),(7,.int .i64 x2),(8,.int .i64 x3)] [])
theorem e0:V0 k a0=l0 k:=ap (b:=b0 k) rfl (fun _=>by kernel_rfl) fun _=>rfl
end
theorem ctr:Cp 149 (C k):=ry (D k) (E:=E k) rfl rfl Tryz.func149 rfl fun ⟨a0,_⟩=>(show _=t k (V0 k a0 k) a0 by kernel_rfl).trans (by rw [e0];rfl)
end dY
namespace dA
def C:Cn:=⟨[.val iS],[.str],true,false,fun x=>f k x.1⟩
def D:List Ce:=[q (eA.ctr k),q (dY.ctr k),q (dz.ctr k),q (gI.ctr k),q (dh.ctr k)]
def E:jF:=en (D k) [(5,[3,19,20,21])] 0 [] k
section
variable (a0:Ty.d iS)
def K0:Ex→St→Rs:=dG (E k) (eK (E k) Tryz.f136 (C k) (a0,())) [.blk 0,.code (dU Tryz.f136 4 15)]
def V0 (n0:Nat):T0:=fun x0 x1 x2 x3=>bU (cH (E k) (dU Tryz.f136 7 23)) (bH 0 [3,19,20,21]) (K0 k a0) n0 (mk 47 0 [(3,.str x0),(19,.sl true aB x1),(20,.int .i64 x2),(21,.int .i64 x3)] [])
theorem e0:V0 k a0=l0 k:=ap (b:=b0 k) rfl (fun _=>by kernel_rfl) fun _=>rfl
end
theorem ctr:Cp 136 (C k):=ry (D k) (E:=E k) rfl rfl Tryz.func136 rfl fun ⟨a0,_⟩=>(show _=t k (V0 k a0 k) a0 by kernel_rfl).trans (by rw [e0];rfl)
end dA
namespace b_
def C:Cn:=⟨[.val .str],[iS,.bool],true,false,fun x=>f k x.1⟩
def D:List Ce:=[q (aq.ctr k),q (aO.ctr k),q (am.ctr k),q (eA.ctr k),q (dA.ctr k)]
def E:jF:=en (D k) [(8,[0,2,4,5,6,7])] 0 [] k
section
variable (a0:ByteArray)
def K0:Ex→St→Rs:=dG (E k) (eK (E k) Tryz.f100 (C k) (a0,())) [.blk 0,.code (dU Tryz.f100 8 255)]
def V0 (n0:Nat):T0:=fun x0 x1 x2 x3 x4 x5 x6 x7 x8 x9 x10=>bU (cH (E k) (dU Tryz.f100 11 383)) (bH 0 [0,2,4,5,6,7]) (K0 k a0) n0 (mk 72 5 [(0,.str x0),(2,.ptr 0 0 0),(4,.ptr 2 0 0),(5,.ptr 3 0 0),(6,.int .i64 x1),(7,.int .i64 x2)] [(1,.own false aB x3),(0,.box [.int .i64 x4,.int .i64 x5,.ref 1]),(2,.box [.str x6,.bool x7]),(4,.own false aB x8),(3,.box [.int .i64 x9,.int .i64 x10,.ref 4])])
theorem e0:V0 k a0=l0 k:=ap (b:=b0 k) rfl (fun _=>by kernel_rfl) fun _=>rfl
end
theorem ctr:Cp 100 (C k):=ry (D k) (E:=E k) rfl rfl Tryz.func100 rfl fun ⟨a0,_⟩=>(show _=t k (V0 k a0 k) a0 by kernel_rfl).trans (by rw [e0];rfl)
end b_
namespace fw
def C:Cn:=⟨[.val ba],[.str],true,false,fun x=>f k x.1⟩
def D:List Ce:=[q (gD.ctr k),q (dY.ctr k),q (dz.ctr k),q (fW.ctr k),q (dh.ctr k)]
theorem ctr:Cp 151 (C k):=rz k rfl (D k) Tryz.func151 rfl fun _=>by kernel_rfl
end fw
namespace gC
def C:Cn:=⟨[.val (.slice ba)],[(.int .i64)],true,false,fun x=>f k x.1⟩
def D:List Ce:=[q (fw.ctr k),q (gI.ctr k)]
def E:jF:=en (D k) [(3,[3,6,7,8])] 0 [] k
section
variable (a0:List (Ty.d ba))
def K0:Ex→St→Rs:=dG (E k) (eK (E k) Tryz.f139 (C k) (a0,())) [.blk 0,.code (dU Tryz.f139 3 7)]
def V0 (n0:Nat):T0:=fun x0 x1 x2 x3=>bU (cH (E k) (dU Tryz.f139 6 11)) (bH 0 [3,6,7,8]) (K0 k a0) n0 (mk 19 0 [(3,.str x0),(6,.sl true ba x1),(7,.int .i64 x2),(8,.int .i64 x3)] [])
theorem e0:V0 k a0=l0 k:=ap (b:=b0 k) rfl (fun _=>by kernel_rfl) fun _=>rfl
end
theorem ctr:Cp 139 (C k):=ry (D k) (E:=E k) rfl rfl Tryz.func139 rfl fun ⟨a0,_⟩=>(show _=t k (V0 k a0 k) a0 by kernel_rfl).trans (by rw [e0];rfl)
end gC
namespace gh
def C:Cn:=⟨[.val ba,.val (.slice aM)],[.bool],true,false,fun x=>f k x.1 x.2.1⟩
def D:List Ce:=[q (gC.ctr k)]
def E:jF:=en (D k) [(3,[2,5,8,9,10])] 0 [] k
section
variable (a0:Ty.d ba) (a1:List (Ty.d aM))
def K0:Ex→St→Rs:=dG (E k) (eK (E k) Tryz.f103 (C k) (a0,a1,())) [.blk 0,.code (dU Tryz.f103 3 7)]
def V0 (n0:Nat):T0:=fun x0 x1 x2 x3 x4 x5 x6 x7 x8 x9=>bU (cH (E k) (dU Tryz.f103 6 11)) (bH 0 [2,5,8,9,10]) (K0 k a0 a1) n0 (mk 32 2 [(2,.ptr 0 0 0),(5,.ref 1),(8,.sl true aM x0),(9,.int .i64 x1),(10,.int .i64 x2)] [(0,.box [.int .i64 x3,.int .i64 x4,.str x5,.str x6,.int .i64 x7,.int .i64 x8]),(1,.own false ba x9)])
theorem e0:V0 k a0 a1=l0 k:=ap (b:=b0 k) rfl (fun _=>by kernel_rfl) fun _=>rfl
end
theorem ctr:Cp 103 (C k):=ry (D k) (E:=E k) rfl rfl Tryz.func103 rfl fun ⟨a0,a1,_⟩=>(show _=t k (V0 k a0 a1 k) a0 a1 by kernel_rfl).trans (by rw [e0];rfl)
end gh
namespace dy
def C:Cn:=⟨[.val (.int .i64),.val .str],[iS,.bool],true,false,fun x=>f k x.1 x.2.1⟩
def D:List Ce:=[q (dD.ctr k),q (ac.ctr k),q (eQ.ctr k),q (gh.ctr k)]
def E:jF:=en (D k) [(7,[0,4,6,9,67,68,69])] 0 [] k
section
variable (a0:Int) (a1:ByteArray)
def K0:Ex→St→Rs:=dG (E k) (eK (E k) Tryz.f137 (C k) (a0,a1,())) [.blk 0,.code (dU Tryz.f137 6 63)]
def V0 (n0:Nat):T0:=fun x0 x1 x2 x3 x4 x5 x6 x7 x8 x9 x10=>bU (cH (E k) (dU Tryz.f137 9 95)) (bH 0 [0,4,6,9,67,68,69]) (K0 k a0 a1) n0 (mk 123 4 [(0,.int .i64 x0),(4,.ptr 0 0 0),(6,.sl false cz x1),(9,.ptr 2 0 0),(67,.sl false cz x2),(68,.int .i64 x3),(69,.int .i64 x4)] [(1,.own false aB x5),(0,.box [.int .i64 x6,.int .i64 x7,.ref 1]),(3,.own false aB x8),(2,.box [.int .i64 x9,.int .i64 x10,.ref 3])])
theorem e0:V0 k a0 a1=l0 k:=ap (b:=b0 k) rfl (fun _=>by kernel_rfl) fun _=>rfl
end
theorem ctr:Cp 137 (C k):=ry (D k) (E:=E k) rfl rfl Tryz.func137 rfl fun ⟨a0,a1,_⟩=>(show _=t k (V0 k a0 a1 k) a0 a1 by kernel_rfl).trans (by rw [e0];rfl)
end dy
namespace fV
def C:Cn:=⟨[.val (.slice aB),.val (.slice aB)],[.bool],true,false,fun x=>f k x.1 x.2.1⟩
def E:jF:=en [] [(4,[0,1,12,13])] 0 [] k
section
variable (a0:List (Ty.d aB)) (a1:List (Ty.d aB))
def K0:Ex→St→Rs:=dG (E k) (eK (E k) Tryz.f138 (C k) (a0,a1,())) [.blk 0,.code (dU Tryz.f138 3 7)]
def V0 (n0:Nat):T0:=fun x0 x1 x2 x3=>bU (cH (E k) (dU Tryz.f138 6 11)) (bH 0 [0,1,12,13]) (K0 k a0 a1) n0 (mk 26 0 [(0,.sl true aB x0),(1,.sl true aB x1),(12,.int .i64 x2),(13,.int .i64 x3)] [])
theorem e0:V0 k a0 a1=l0 k:=ap (b:=b0 k) rfl (fun _=>by kernel_rfl) fun _=>rfl
end
theorem ctr:Cp 138 (C k):=ry [] (E:=E k) rfl rfl Tryz.func138 rfl fun ⟨a0,a1,_⟩=>(show _=t k (V0 k a0 a1 k) a0 a1 by kernel_rfl).trans (by rw [e0];rfl)
end fV
namespace il
def C:Cn:=⟨[.val (.int .i64),.val .str,.val iS],[.bool],true,false,fun x=>f k x.1 x.2.1 x.2.2.1⟩
def D:List Ce:=[q (dy.ctr k),q (fV.ctr k)]
theorem ctr:Cp 101 (C k):=rz k rfl (D k) Tryz.func101 rfl fun _=>by kernel_rfl
end il
namespace d7
def C:Cn:=⟨[.io true 0 an,.val (.int .i64)],[kH,.bool],true,false,fun x=>f k x.1 x.2.1⟩
def D:List Ce:=[q (dP.ctr k),q (bq.ctr k),q (b_.ctr k),q (aj.ctr k),q (il.ctr k)]
theorem ctr:Cp 72 (C k):=rz k rfl (D k) Tryz.func72 rfl fun _=>by kernel_rfl
end d7
namespace cJ
def C:Cn:=⟨[.val (.slice aB)],[(.slice aB)],true,false,fun x=>f k x.1⟩
theorem ctr:Cp 78 (C k):=rz k rfl [] Tryz.func78 rfl fun _=>by kernel_rfl
end cJ
namespace dK
def C:Cn:=⟨[.val (.slice aM),.val ba],[(.slice aM)],true,false,fun x=>f k x.1 x.2.1⟩
def E:jF:=en [] [(3,[3,5,9,10,11])] 0 [] k
section
variable (a0:List (Ty.d aM)) (a1:Ty.d ba)
def K0:Ex→St→Rs:=dG (E k) (eK (E k) Tryz.f102 (C k) (a0,a1,())) [.blk 0,.code (dU Tryz.f102 3 7)]
def V0 (n0:Nat):T0:=fun x0 x1 x2 x3 x4 x5 x6 x7 x8 x9=>bU (cH (E k) (dU Tryz.f102 6 11)) (bH 0 [3,5,9,10,11]) (K0 k a0 a1) n0 (mk 62 2 [(3,.ptr 0 0 0),(5,.ref 1),(9,.sl true aM x0),(10,.int .i64 x1),(11,.int .i64 x2)] [(0,.box [.int .i64 x3,.int .i64 x4,.str x5,.str x6,.int .i64 x7,.int .i64 x8]),(1,.own false aM x9)])
theorem e0:V0 k a0 a1=l0 k:=ap (b:=b0 k) rfl (fun _=>by kernel_rfl) fun _=>rfl
end
theorem ctr:Cp 102 (C k):=ry [] (E:=E k) rfl rfl Tryz.func102 rfl fun ⟨a0,a1,_⟩=>(show _=t k (V0 k a0 a1 k) a0 a1 by kernel_rfl).trans (by rw [e0];rfl)
end dK
namespace cB
def C:Cn:=⟨[.val (.slice aB),.val .str],[(.slice aB)],true,false,fun x=>f k x.1 x.2.1⟩
def E:jF:=en [] [(3,[1,5,8,9,10])] 0 [] k
section
variable (a0:List (Ty.d aB)) (a1:ByteArray)
def K0:Ex→St→Rs:=dG (E k) (eK (E k) Tryz.f140 (C k) (a0,a1,())) [.blk 0,.code (dU Tryz.f140 3 7)]
def V0 (n0:Nat):T0:=fun x0 x1 x2 x3 x4=>bU (cH (E k) (dU Tryz.f140 6 11)) (bH 0 [1,5,8,9,10]) (K0 k a0 a1) n0 (mk 24 1 [(1,.str x0),(5,.ref 0),(8,.sl true aB x1),(9,.int .i64 x2),(10,.int .i64 x3)] [(0,.own false aB x4)])
theorem e0:V0 k a0 a1=l0 k:=ap (b:=b0 k) rfl (fun _=>by kernel_rfl) fun _=>rfl
end
theorem ctr:Cp 140 (C k):=ry [] (E:=E k) rfl rfl Tryz.func140 rfl fun ⟨a0,a1,_⟩=>(show _=t k (V0 k a0 a1 k) a0 a1 by kernel_rfl).trans (by rw [e0];rfl)
end cB
namespace dC
def C:Cn:=⟨[.val (.slice aB),.val aB],[(.slice aB)],true,false,fun x=>f k x.1 x.2.1⟩
def D:List Ce:=[q (cB.ctr k),q (cJ.ctr k)]
def E:jF:=en (D k) [(3,[3,5,6])] 0 [] k
section
variable (a0:List (Ty.d aB)) (a1:Ty.d aB)
def K0:Ex→St→Rs:=dG (E k) (eK (E k) Tryz.f141 (C k) (a0,a1,())) [.blk 0,.code (dU Tryz.f141 4 15)]
def V0 (n0:Nat):T0:=fun x0 x1 x2 x3 x4 x5 x6=>bU (cH (E k) (dU Tryz.f141 6 7)) (bH 0 [3,5,6]) (K0 k a0 a1) n0 (mk 38 2 [(3,.ptr 0 0 0),(5,.ref 1),(6,.int .i64 x0)] [(0,.box [.str x1,.int .i64 x2,.int .i64 x3,.int .i64 x4,.int .i64 x5]),(1,.own false aB x6)])
theorem e0:V0 k a0 a1=l0 k:=ap (b:=b0 k) rfl (fun _=>by kernel_rfl) fun _=>rfl
end
theorem ctr:Cp 141 (C k):=ry (D k) (E:=E k) rfl rfl Tryz.func141 rfl fun ⟨a0,a1,_⟩=>(show _=t k (V0 k a0 a1 k) a0 a1 by kernel_rfl).trans (by rw [e0];rfl)
end dC
namespace cO
def C:Cn:=⟨[.io true 0 kH,.val (.slice aM)],[],true,false,fun x=>f k x.1 x.2.1⟩
def D:List Ce:=[q (cB.ctr k),q (dC.ctr k)]
def E:jF:=en (D k) [(1,[0,6,7,8])] 1 [] k
section
variable (a0:Ty.d kH) (a1:List (Ty.d aM))
def K0:Ex→St→Rs:=dG (E k) (eK (E k) Tryz.f104 (C k) (a0,a1,())) [.blk 0,.code (dU Tryz.f104 1 1)]
def V0 (n0:Nat):T0:=fun x0 x1 x2 x3 x4 x5=>bU (cH (E k) (dU Tryz.f104 4 2)) (bH 1 [0,6,7,8]) (K0 k a0 a1) n0 (mk 58 2 [(0,.ptr 0 0 0),(6,.sl true aM x0),(7,.int .i64 x1),(8,.int .i64 x2)] [(1,.own false aB x3),(0,.box [.ref 1,.int .i64 x4,.int .i64 x5])])
theorem e0:V0 k a0 a1=l0 k:=ap (b:=b0 k) rfl (fun _=>by kernel_rfl) fun _=>rfl
end
theorem ctr:Cp 104 (C k):=ry (D k) (E:=E k) rfl rfl Tryz.func104 rfl fun ⟨a0,a1,_⟩=>(show _=t k (V0 k a0 a1 k) a0 a1 by kernel_rfl).trans (by rw [e0];rfl)
end cO
namespace db
def C:Cn:=⟨[.val kH,.val (.slice aM)],[kH],true,false,fun x=>f k x.1 x.2.1⟩
def D:List Ce:=[q (cJ.ctr k),q (dK.ctr k),q (gh.ctr k),q (cO.ctr k)]
def E:jF:=en (D k) [(3,[1,4,5,17,18,19])] 0 [] k
section
variable (a0:Ty.d kH) (a1:List (Ty.d aM))
def K0:Ex→St→Rs:=dG (E k) (eK (E k) Tryz.f73 (C k) (a0,a1,())) [.blk 0,.code (dU Tryz.f73 3 7)]
def V0 (n0:Nat):T0:=fun x0 x1 x2 x3 x4 x5 x6 x7 x8 x9=>bU (cH (E k) (dU Tryz.f73 6 11)) (bH 0 [1,4,5,17,18,19]) (K0 k a0 a1) n0 (mk 77 4 [(1,.sl true aM x0),(4,.ptr 0 0 0),(5,.ptr 2 0 0),(17,.sl true aM x1),(18,.int .i64 x2),(19,.int .i64 x3)] [(1,.own false aB x4),(0,.box [.ref 1,.int .i64 x5,.int .i64 x6]),(3,.own false aB x7),(2,.box [.ref 3,.int .i64 x8,.int .i64 x9])])
theorem e0:V0 k a0 a1=l0 k:=ap (b:=b0 k) rfl (fun _=>by kernel_rfl) fun _=>rfl
end
theorem ctr:Cp 73 (C k):=ry (D k) (E:=E k) rfl rfl Tryz.func73 rfl fun ⟨a0,a1,_⟩=>(show _=t k (V0 k a0 a1 k) a0 a1 by kernel_rfl).trans (by rw [e0];rfl)
end db
namespace lW
def C:Cn:=⟨[.val .str],[(.int .i64),.bool],true,false,fun x=>f k x.1⟩
def D:List Ce:=[q (iD.ctr k),q (co.ctr k),q (ac.ctr k)]
theorem ctr:Cp 142 (C k):=rz k rfl (D k) Tryz.func142 rfl fun _=>by kernel_rfl
end lW
namespace gK
def C:Cn:=⟨[.val (.slice (.int .i64)),.val (.int .i64)],[.bool],true,false,fun x=>f k x.1 x.2.1⟩
def E:jF:=en [] [(2,[1,7,8,9])] 0 [] k
section
variable (a0:List Int) (a1:Int)
def K0:Ex→St→Rs:=dG (E k) (eK (E k) Tryz.f143 (C k) (a0,a1,())) [.blk 0,.code (dU Tryz.f143 2 3)]
def V0 (n0:Nat):T0:=fun x0 x1 x2 x3=>bU (cH (E k) (dU Tryz.f143 5 5)) (bH 0 [1,7,8,9]) (K0 k a0 a1) n0 (mk 17 0 [(1,.int .i64 x0),(7,.sl true (.int .i64) x1),(8,.int .i64 x2),(9,.int .i64 x3)] [])
theorem e0:V0 k a0 a1=l0 k:=ap (b:=b0 k) rfl (fun _=>by kernel_rfl) fun _=>rfl
end
theorem ctr:Cp 143 (C k):=ry [] (E:=E k) rfl rfl Tryz.func143 rfl fun ⟨a0,a1,_⟩=>(show _=t k (V0 k a0 a1 k) a0 a1 by kernel_rfl).trans (by rw [e0];rfl)
end gK
namespace fP
def C:Cn:=⟨[.val aA,.val ch],[(.slice .str)],true,false,fun x=>f k x.1 x.2.1⟩
def D:List Ce:=[q (ay.ctr k),q (lW.ctr k),q (gK.ctr k)]
def E:jF:=en (D k) [(5,[3,5,14,15,16])] 0 [] k
section
variable (a0:Ty.d aA) (a1:Ty.d ch)
def K0:Ex→St→Rs:=dG (E k) (eK (E k) Tryz.f105 (C k) (a0,a1,())) [.blk 0,.code (dU Tryz.f105 4 15)]
def V0 (n0:Nat):T0:=fun x0 x1 x2 x3 x4 x5=>bU (cH (E k) (dU Tryz.f105 7 23)) (bH 0 [3,5,14,15,16]) (K0 k a0 a1) n0 (mk 46 2 [(3,.ptr 0 0 0),(5,.ref 1),(14,.sl true aL x0),(15,.int .i64 x1),(16,.int .i64 x2)] [(0,.box [.int .i64 x3,.sl true (.int .i64) x4]),(1,.own false .str x5)])
theorem e0:V0 k a0 a1=l0 k:=ap (b:=b0 k) rfl (fun _=>by kernel_rfl) fun _=>rfl
end
theorem ctr:Cp 105 (C k):=ry (D k) (E:=E k) rfl rfl Tryz.func105 rfl fun ⟨a0,a1,_⟩=>(show _=t k (V0 k a0 a1 k) a0 a1 by kernel_rfl).trans (by rw [e0];rfl)
end fP
namespace eG
def C:Cn:=⟨[.io true 0 aA,.val .str],[],true,false,fun x=>f k x.1 x.2.1⟩
def D:List Ce:=[q (bW.ctr k)]
theorem ctr:Cp 167 (C k):=rz k rfl (D k) Tryz.func167 rfl fun _=>by kernel_rfl
end eG
namespace fh
def C:Cn:=⟨[.io true 0 aA,.io true 0 .str],[(.int .i64)],true,false,fun x=>f k x.1 x.2.1⟩
def D:List Ce:=[q (bW.ctr k),q (eG.ctr k)]
theorem ctr:Cp 166 (C k):=rz k rfl (D k) Tryz.func166 rfl fun _=>by kernel_rfl
end fh
namespace gB
def C:Cn:=⟨[.val aA,.fn 166 1,.io true 0 .str],[aA,(.int .i64)],true,false,fun x=>f k x.1 x.2.1⟩
def D:List Ce:=[q (bA.ctr k),q (ay.ctr k),q (fh.ctr k)]
theorem ctr:Cp 96 (C k):=rz k rfl (D k) Tryz.func96 rfl fun _=>by kernel_rfl
end gB
namespace k9
def C:Cn:=⟨[.val aA,.val .str],[aA,(.int .i64)],true,false,fun x=>f k x.1 x.2.1⟩
def D:List Ce:=[q (gB.ctr k)]
theorem ctr:Cp 144 (C k):=rz k rfl (D k) Tryz.func144 rfl fun _=>by kernel_rfl
end k9
namespace bD
def C:Cn:=⟨[.io true 0 an,.val .str],[],true,false,fun x=>f k x.1 x.2.1⟩
def D:List Ce:=[q (bW.ctr k),q (k9.ctr k),q (az.ctr k)]
theorem ctr:Cp 106 (C k):=rz k rfl (D k) Tryz.func106 rfl fun _=>by kernel_rfl
end bD
namespace ag
def C:Cn:=⟨[.io true 0 an,.val ch],[],true,false,fun x=>f k x.1 x.2.1⟩
def D:List Ce:=[q (fP.ctr k),q (bD.ctr k)]
def E:jF:=en (D k) [(2,[0,11,12,13])] 1 [] k
section
variable (a0:Ty.d an) (a1:Ty.d ch)
def K0:Ex→St→Rs:=dG (E k) (eK (E k) Tryz.f74 (C k) (a0,a1,())) [.blk 0]
def V0 (n0:Nat):T0:=fun x0 x1 x2 x3 x4 x5 x6 x7=>bU (cH (E k) (dU Tryz.f74 4 3)) (bH 1 [0,11,12,13]) (K0 k a0 a1) n0 (mk 21 3 [(0,.ptr 0 0 0),(11,.ref 2),(12,.int .i64 x0),(13,.int .i64 x1)] [(1,.own false aL x2),(0,.box [.ref 1,.int .i64 x3,.int .i64 x4,.bool x5,.int .i64 x6]),(2,.own false .str x7)])
theorem e0:V0 k a0 a1=l0 k:=ap (b:=b0 k) rfl (fun _=>by kernel_rfl) fun _=>rfl
end
theorem ctr:Cp 74 (C k):=ry (D k) (E:=E k) rfl rfl Tryz.func74 rfl fun ⟨a0,a1,_⟩=>(show _=t k (V0 k a0 a1 k) a0 a1 by kernel_rfl).trans (by rw [e0];rfl)
end ag
namespace aR
def C:Cn:=⟨[.io true 0 an,.val .str],[aD],true,false,fun x=>f k x.1 x.2.1⟩
def D:List Ce:=[q (b9.ctr k),q (bJ.ctr k),q (aj.ctr k),q (bq.ctr k),q (ic.ctr k),q (az.ctr k),q (bL.ctr k),q (d7.ctr k),q (db.ctr k),q (ag.ctr k)]
def E:jF:=en (D k) [(20,[0,4,5,13,14,16,103,104,105])] 1 [] k
section
variable (a0:Ty.d an) (a1:ByteArray)
def K0:Ex→St→Rs:=dG (E k) (eK (E k) Tryz.f53 (C k) (a0,a1,())) [.blk 0,.code (dU Tryz.f53 13 8191)]
def V0 (n0:Nat):T0:=fun x0 x1 x2 x3 x4 x5 x6 x7 x8 x9 x10 x11 x12 x13 x14 x15 x16 x17 x18 x19 x20 x21 x22 x23 x24=>bU (cH (E k) (dU Tryz.f53 16 12287)) (bH 1 [0,4,5,13,14,16,103,104,105]) (K0 k a0 a1) n0 (mk 134 12 [(0,.ptr 0 0 0),(4,.ptr 2 0 0),(5,.ptr 5 0 0),(13,.ptr 7 0 0),(14,.ptr 9 0 0),(16,.ref 11),(103,.sl false (.slice aM) x0),(104,.int .i64 x1),(105,.int .i64 x2)] [(1,.own false aL x3),(0,.box [.ref 1,.int .i64 x4,.int .i64 x5,.bool x6,.int .i64 x7]),(3,.own false (.int .i64) x8),(4,.own false aB x9),(2,.box [.int .i64 x10,.ref 3,.ref 4,.int .i64 x11,.int .i64 x12,.int .i64 x13]),(6,.own false (.int .i64) x14),(5,.box [.int .i64 x15,.ref 6]),(8,.own false aB x16),(7,.box [.int .i64 x17,.ref 6,.ref 8,.int .i64 x18,.int .i64 x19,.int .i64 x20]),(10,.own false aB x21),(9,.box [.ref 10,.int .i64 x22,.int .i64 x23]),(11,.own false aM x24)])
def V1 (n0:Nat):T1:=fun x0 x1 x2 x3 x4 x5 x6 x7 x8 x9 x10 x11 x12 x13 x14 x15 x16 x17 x18 x19 x20 x21 x22 x23 x24=>bU (cH (E k) (dU Tryz.f53 16 12287)) (bH 1 [0,4,5,13,14,16,103,104,105]) (K0 k a0 a1) n0 (mk 134 13 [(0,.ptr 0 0 0),(4,.ptr 2 0 0),(5,.ptr 5 0 0),(13,.ptr 7 0 0),(14,.ptr 9 0 0),(16,.ref 11),(103,.ref 12),(104,.int .i64 x0),(105,.int .i64 x1)] [(1,.own false aL x2),(0,.box [.ref 1,.int .i64 x3,.int .i64 x4,.bool x5,.int .i64 x6]),(3,.own false (.int .i64) x7),(4,.own false aB x8),(2,.box [.int .i64 x9,.ref 3,.ref 4,.int .i64 x10,.int .i64 x11,.int .i64 x12]),(6,.own false (.int .i64) x13),(5,.box [.int .i64 x14,.ref 6]),(8,.own false aB x15),(7,.box [.int .i64 x16,.ref 6,.ref 8,.int .i64 x17,.int .i64 x18,.int .i64 x19]),(10,.own false aB x20),(9,.box [.ref 10,.int .i64 x21,.int .i64 x22]),(11,.own false aM x23),(12,.own false (.slice aM) x24)])
def V2 (n0:Nat):T2:=fun x0 x1 x2 x3 x4 x5 x6 x7 x8 x9 x10 x11 x12 x13 x14 x15 x16 x17 x18 x19 x20 x21 x22 x23 x24=>bU (cH (E k) (dU Tryz.f53 16 12287)) (bH 1 [0,4,5,13,14,16,103,104,105]) (K0 k a0 a1) n0 (mk 134 12 [(0,.ptr 0 0 0),(4,.ptr 2 0 0),(5,.ptr 5 0 0),(13,.ptr 7 0 0),(14,.ptr 9 0 0),(16,.ref 11),(103,.sl false (.slice aM) x0),(104,.int .i64 x1),(105,.int .i64 x2)] [(1,.own false aL x3),(0,.box [.ref 1,.int .i64 x4,.int .i64 x5,.bool x6,.int .i64 x7]),(3,.own false (.int .i64) x8),(4,.own false aB x9),(2,.box [.int .i64 x10,.ref 3,.ref 4,.int .i64 x11,.int .i64 x12,.int .i64 x13]),(6,.own false (.int .i64) x14),(5,.box [.int .i64 x15,.ref 6]),(8,.own false aB x16),(7,.box [.int .i64 x17,.ref 6,.ref 8,.int .i64 x18,.int .i64 x19,.int .i64 x20]),(10,.own false aB x21),(9,.box [.ref 10,.int .i64 x22,.int .i64 x23]),(11,.own false aM x24)])
def V3 (n0:Nat):T3:=fun x0 x1 x2 x3 x4 x5 x6 x7 x8 x9 x10 x11 x12 x13 x14 x15 x16 x17 x18 x19 x20 x21 x22 x23 x24=>bU (cH (E k) (dU Tryz.f53 16 12287)) (bH 1 [0,4,5,13,14,16,103,104,105]) (K0 k a0 a1) n0 (mk 134 13 [(0,.ptr 0 0 0),(4,.ptr 2 0 0),(5,.ptr 5 0 0),(13,.ptr 7 0 0),(14,.ptr 9 0 0),(16,.ref 11),(103,.ref 12),(104,.int .i64 x0),(105,.int .i64 x1)] [(1,.own false aL x2),(0,.box [.ref 1,.int .i64 x3,.int .i64 x4,.bool x5,.int .i64 x6]),(3,.own false (.int .i64) x7),(4,.own false aB x8),(2,.box [.int .i64 x9,.ref 3,.ref 4,.int .i64 x10,.int .i64 x11,.int .i64 x12]),(6,.own false (.int .i64) x13),(5,.box [.int .i64 x14,.ref 6]),(8,.own false aB x15),(7,.box [.int .i64 x16,.ref 6,.ref 8,.int .i64 x17,.int .i64 x18,.int .i64 x19]),(10,.own false aB x20),(9,.box [.ref 10,.int .i64 x21,.int .i64 x22]),(11,.own false aM x23),(12,.own false (.slice aM) x24)])
theorem e0:V0 k a0 a1=l0 k:=ap (b:=b0 k) rfl (fun _=>by kernel_rfl) fun _=>rfl
theorem e1:V1 k a0 a1=l1 k:=ap (b:=b1 k) rfl (fun _=>by kernel_rfl) fun _=>rfl
theorem e2:V2 k a0 a1=l2 k:=ap (b:=b2 k) rfl (fun _=>by kernel_rfl) fun _=>rfl
theorem e3:V3 k a0 a1=l3 k:=ap (b:=b3 k) rfl (fun _=>by kernel_rfl) fun _=>rfl
end
theorem ctr:Cp 53 (C k):=ry (D k) (E:=E k) rfl rfl Tryz.func53 rfl fun ⟨a0,a1,_⟩=>(show _=t k (V0 k a0 a1 k) (V1 k a0 a1 k) (V2 k a0 a1 k) (V3 k a0 a1 k) a0 a1 by kernel_rfl).trans (by rw [e0,e1,e2,e3];rfl)
end aR
namespace dJ
def C:Cn:=⟨[.io true 0 aA,.val aL],[],true,false,fun x=>f k x.1 x.2.1⟩
def E:jF:=en [] [(2,[0,3,4])] 1 [] k
section
variable (a0:Ty.d aA) (a1:Ty.d aL)
def K0:Ex→St→Rs:=dG (E k) (eK (E k) Tryz.f146 (C k) (a0,a1,())) [.blk 0,.code (dU Tryz.f146 3 7)]
def V0 (n0:Nat):T0:=fun x0 x1 x2 x3 x4 x5 x6 x7=>bU (cH (E k) (dU Tryz.f146 5 3)) (bH 1 [0,3,4]) (K0 k a0 a1) n0 (mk 47 3 [(0,.ptr 0 0 0),(3,.ptr 2 0 0),(4,.int .i64 x0)] [(1,.own false aL x1),(0,.box [.ref 1,.int .i64 x2,.int .i64 x3,.bool x4]),(2,.box [.str x5,.str x6,.int .i64 x7])])
theorem e0:V0 k a0 a1=l0 k:=ap (b:=b0 k) rfl (fun _=>by kernel_rfl) fun _=>rfl
end
theorem ctr:Cp 146 (C k):=ry [] (E:=E k) rfl rfl Tryz.func146 rfl fun ⟨a0,a1,_⟩=>(show _=t k (V0 k a0 a1 k) a0 a1 by kernel_rfl).trans (by rw [e0];rfl)
end dJ
namespace fp
def C:Cn:=⟨[.io true 0 aA,.io true 0 .str],[(.int .i64)],true,false,fun x=>f k x.1 x.2.1⟩
def D:List Ce:=[q (eC.ctr k),q (bW.ctr k),q (dJ.ctr k)]
theorem ctr:Cp 145 (C k):=rz k rfl (D k) Tryz.func145 rfl fun _=>by kernel_rfl
end fp
namespace gE
def C:Cn:=⟨[.val aA,.fn 145 1,.io true 0 .str],[aA,(.int .i64)],true,false,fun x=>f k x.1 x.2.1⟩
def D:List Ce:=[q (bA.ctr k),q (ay.ctr k),q (fp.ctr k)]
theorem ctr:Cp 96 (C k):=rz k rfl (D k) Tryz.func96 rfl fun _=>by kernel_rfl
end gE
namespace k_
def C:Cn:=⟨[.val aA,.val .str],[aA,(.int .i64)],true,false,fun x=>f k x.1 x.2.1⟩
def D:List Ce:=[q (gE.ctr k)]
theorem ctr:Cp 107 (C k):=rz k rfl (D k) Tryz.func107 rfl fun _=>by kernel_rfl
end k_
namespace dQ
def C:Cn:=⟨[.io true 0 an,.val .str],[],true,false,fun x=>f k x.1 x.2.1⟩
def D:List Ce:=[q (k_.ctr k),q (az.ctr k)]
theorem ctr:Cp 75 (C k):=rz k rfl (D k) Tryz.func75 rfl fun _=>by kernel_rfl
end dQ
namespace ib
def C:Cn:=⟨[.val ch],[.str],true,false,fun x=>f k x.1⟩
def D:List Ce:=[q (dE.ctr k),q (dY.ctr k),q (gY.ctr k)]
theorem ctr:Cp 109 (C k):=rz k rfl (D k) Tryz.func109 rfl fun _=>by kernel_rfl
end ib
namespace ck
def C:Cn:=⟨[.io true 0 an,.val .str],[],true,false,fun x=>f k x.1 x.2.1⟩
def D:List Ce:=[q (bD.ctr k),q (dQ.ctr k)]
theorem ctr:Cp 147 (C k):=rz k rfl (D k) Tryz.func147 rfl fun _=>by kernel_rfl
end ck
namespace gi
def C:Cn:=⟨[.val aA],[(.int .i64)],true,false,fun x=>f k x.1⟩
def E:jF:=en [] [(3,[3,7,8,9])] 0 [] k
section
variable (a0:Ty.d aA)
def K0:Ex→St→Rs:=dG (E k) (eK (E k) Tryz.f59 (C k) (a0,())) [.blk 0,.code (dU Tryz.f59 3 7)]
def V0 (n0:Nat):T0:=fun x0 x1 x2 x3=>bU (cH (E k) (dU Tryz.f59 6 11)) (bH 0 [3,7,8,9]) (K0 k a0) n0 (mk 20 0 [(3,.int .i64 x0),(7,.sl true aL x1),(8,.int .i64 x2),(9,.int .i64 x3)] [])
theorem e0:V0 k a0=l0 k:=ap (b:=b0 k) rfl (fun _=>by kernel_rfl) fun _=>rfl
end
theorem ctr:Cp 59 (C k):=ry [] (E:=E k) rfl rfl Tryz.func59 rfl fun ⟨a0,_⟩=>(show _=t k (V0 k a0 k) a0 by kernel_rfl).trans (by rw [e0];rfl)
end gi
namespace fu
def C:Cn:=⟨[.io true 0 aA,.io true 0 .str,.io true 0 .str],[(.int .i64)],true,false,fun x=>f k x.1 x.2.1 x.2.2.1⟩
def D:List Ce:=[q (bW.ctr k),q (gi.ctr k)]
theorem ctr:Cp 175 (C k):=rz k rfl (D k) Tryz.func175 rfl fun _=>by kernel_rfl
end fu
namespace g9
def C:Cn:=⟨[.val aA,.fn 175 2,.io true 0 .str,.io true 0 .str],[aA,(.int .i64)],true,false,fun x=>f k x.1 x.2.1 x.2.2.1⟩
def D:List Ce:=[q (bA.ctr k),q (ay.ctr k),q (fu.ctr k)]
theorem ctr:Cp 96 (C k):=rz k rfl (D k) Tryz.func96 rfl fun _=>by kernel_rfl
end g9
namespace kB
def C:Cn:=⟨[.val aA,.val .str,.val .str],[aA,(.int .i64)],true,false,fun x=>f k x.1 x.2.1 x.2.2.1⟩
def D:List Ce:=[q (g9.ctr k)]
theorem ctr:Cp 168 (C k):=rz k rfl (D k) Tryz.func168 rfl fun _=>by kernel_rfl
end kB
namespace cT
def C:Cn:=⟨[.io true 0 an,.val .str,.val .str],[],true,false,fun x=>f k x.1 x.2.1 x.2.2.1⟩
def D:List Ce:=[q (kB.ctr k),q (az.ctr k)]
theorem ctr:Cp 148 (C k):=rz k rfl (D k) Tryz.func148 rfl fun _=>by kernel_rfl
end cT
namespace dO
def C:Cn:=⟨[.io true 0 an,.val .str,.val .str],[],true,false,fun x=>f k x.1 x.2.1 x.2.2.1⟩
def D:List Ce:=[q (ck.ctr k),q (cT.ctr k),q (bL.ctr k)]
theorem ctr:Cp 108 (C k):=rz k rfl (D k) Tryz.func108 rfl fun _=>by kernel_rfl
end dO
namespace fo
def C:Cn:=⟨[.io true 0 aA,.io true 0 .str,.io true 0 .str],[(.int .i64)],true,false,fun x=>f k x.1 x.2.1 x.2.2.1⟩
def D:List Ce:=[q (bW.ctr k),q (eC.ctr k),q (eG.ctr k),q (dJ.ctr k)]
theorem ctr:Cp 170 (C k):=rz k rfl (D k) Tryz.func170 rfl fun _=>by kernel_rfl
end fo
namespace g8
def C:Cn:=⟨[.val aA,.fn 170 2,.io true 0 .str,.io true 0 .str],[aA,(.int .i64)],true,false,fun x=>f k x.1 x.2.1 x.2.2.1⟩
def D:List Ce:=[q (bA.ctr k),q (ay.ctr k),q (fo.ctr k)]
theorem ctr:Cp 96 (C k):=rz k rfl (D k) Tryz.func96 rfl fun _=>by kernel_rfl
end g8
namespace kC
def C:Cn:=⟨[.val aA,.val .str,.val .str],[aA,(.int .i64)],true,false,fun x=>f k x.1 x.2.1 x.2.2.1⟩
def D:List Ce:=[q (g8.ctr k)]
theorem ctr:Cp 150 (C k):=rz k rfl (D k) Tryz.func150 rfl fun _=>by kernel_rfl
end kC
namespace eR
def C:Cn:=⟨[.io true 0 an,.val .str,.val .str],[],true,false,fun x=>f k x.1 x.2.1 x.2.2.1⟩
def D:List Ce:=[q (kC.ctr k),q (az.ctr k)]
theorem ctr:Cp 110 (C k):=rz k rfl (D k) Tryz.func110 rfl fun _=>by kernel_rfl
end eR
namespace cG
def C:Cn:=⟨[.io true 0 an,.val ch],[],true,false,fun x=>f k x.1 x.2.1⟩
def D:List Ce:=[q (ib.ctr k),q (dO.ctr k),q (eR.ctr k)]
theorem ctr:Cp 76 (C k):=rz k rfl (D k) Tryz.func76 rfl fun _=>by kernel_rfl
end cG
namespace fL
def C:Cn:=⟨[.io true 0 an],[aD],true,false,fun x=>f k x.1⟩
def D:List Ce:=[q (ag.ctr k),q (aj.ctr k),q (dQ.ctr k),q (cG.ctr k)]
theorem ctr:Cp 54 (C k):=rz k rfl (D k) Tryz.func54 rfl fun _=>by kernel_rfl
end fL
namespace mI
def C:Cn:=⟨[.val aA],[aD,aA,(.int .i64)],true,false,fun x=>f k x.1⟩
def D:List Ce:=[q (bA.ctr k),q (ay.ctr k),q (bq.ctr k),q (aR.ctr k),q (fL.ctr k)]
theorem ctr:Cp 36 (C k):=rz k rfl (D k) Tryz.func36 rfl fun _=>by kernel_rfl
end mI
namespace fK
def C:Cn:=⟨[.val aA],[bO,(.int .i64)],true,false,fun x=>f k x.1⟩
def D:List Ce:=[q (mI.ctr k)]
theorem ctr:Cp 21 (C k):=rz k rfl (D k) Tryz.func21 rfl fun _=>by kernel_rfl
end fK
namespace dR
def C:Cn:=⟨[.val ch],[ch],true,false,fun x=>f k x.1⟩
theorem ctr:Cp 77 (C k):=rz k rfl [] Tryz.func77 rfl fun _=>by kernel_rfl
end dR
namespace cM
def C:Cn:=⟨[.val aD],[aD],true,false,fun x=>f k x.1⟩
def D:List Ce:=[q (dR.ctr k),q (cJ.ctr k)]
theorem ctr:Cp 56 (C k):=rz k rfl (D k) Tryz.func56 rfl fun _=>by kernel_rfl
end cM
namespace ja
def C:Cn:=⟨[.val (.slice aW)],[(.slice aW)],true,false,fun x=>f k x.1⟩
theorem ctr:Cp 111 (C k):=rz k rfl [] Tryz.func111 rfl fun _=>by kernel_rfl
end ja
namespace dp
def C:Cn:=⟨[.val aK],[aK],true,false,fun x=>f k x.1⟩
def D:List Ce:=[q (ja.ctr k)]
theorem ctr:Cp 79 (C k):=rz k rfl (D k) Tryz.func79 rfl fun _=>by kernel_rfl
end dp
namespace dx
def C:Cn:=⟨[.val (.slice aK)],[(.slice aK)],true,false,fun x=>f k x.1⟩
def D:List Ce:=[q (dp.ctr k)]
def E:jF:=en (D k) [(3,[3,6,7,8])] 0 [] k
section
variable (a0:List (Ty.d aK))
def K0:Ex→St→Rs:=dG (E k) (eK (E k) Tryz.f57 (C k) (a0,())) [.blk 0,.code (dU Tryz.f57 3 7)]
def V0 (n0:Nat):T0:=fun x0 x1 x2 x3=>bU (cH (E k) (dU Tryz.f57 6 11)) (bH 0 [3,6,7,8]) (K0 k a0) n0 (mk 19 1 [(3,.ref 0),(6,.sl true aK x0),(7,.int .i64 x1),(8,.int .i64 x2)] [(0,.own false aK x3)])
theorem e0:V0 k a0=l0 k:=ap (b:=b0 k) rfl (fun _=>by kernel_rfl) fun _=>rfl
end
theorem ctr:Cp 57 (C k):=ry (D k) (E:=E k) rfl rfl Tryz.func57 rfl fun ⟨a0,_⟩=>(show _=t k (V0 k a0 k) a0 by kernel_rfl).trans (by rw [e0];rfl)
end dx
namespace gm
def C:Cn:=⟨[.val bO],[bO],true,false,fun x=>f k x.1⟩
def D:List Ce:=[q (cM.ctr k),q (bA.ctr k),q (dx.ctr k)]
theorem ctr:Cp 39 (C k):=rz k rfl (D k) Tryz.func39 rfl fun _=>by kernel_rfl
end gm
namespace fm
def C:Cn:=⟨[.val (.slice aW)],[(.slice aW)],true,false,fun x=>f k x.1⟩
def E:jF:=en [] [(3,[3,9,10,11]),(7,[3,5,6,9,10,11,15,16,17])] 0 [] k
section
variable (a0:List (Ty.d aW))
def K0:Ex→St→Rs:=dG (E k) (eK (E k) Tryz.f80 (C k) (a0,())) [.blk 0,.code (dU Tryz.f80 3 7)]
def B0 (n0:Nat):Ex→St→Rs:=QN (E k) (dU Tryz.f80 6 11) 0 [3,9,10,11] (K0 k a0) n0
def K1 (n0:Nat):Ex→St→Rs:=dG (E k) (B0 k a0 n0) [.blk 2,.code (dU Tryz.f80 13 7371),.blk 1,.code (dU Tryz.f80 9 459)]
def V0 (n0:Nat):T0:=fun x0 x1 x2 x3=>bU (cH (E k) (dU Tryz.f80 6 11)) (bH 0 [3,9,10,11]) (K0 k a0) n0 (mk 41 1 [(3,.ref 0),(9,.sl true aW x0),(10,.int .i64 x1),(11,.int .i64 x2)] [(0,.own false aW x3)])
def V1 (n0 n1:Nat):T1:=fun x0 x1 x2 x3 x4 x5 x6 x7 x8 x9=>bU (cH (E k) (dU Tryz.f80 16 11467)) (bH 0 [3,5,6,9,10,11,15,16,17]) (K1 k a0 n0) n1 (mk 41 2 [(3,.ref 0),(5,.ptr 1 0 0),(6,.int .i64 x0),(9,.sl true aW x1),(10,.int .i64 x2),(11,.int .i64 x3),(15,.ref 0),(16,.int .i64 x4),(17,.int .i64 x5)] [(0,.own false aW x6),(1,.box [.str x7,.bool x8,.str x9])])
theorem e1 (n0:Nat):V1 k a0 n0=l1 k (V0 k a0 n0):=ap (b:=b1 k (V0 k a0 n0)) rfl (fun _=>by kernel_rfl) fun _=>rfl
theorem e0 (n0:Nat):V0 k a0 n0=l0 k n0:=by
 induction n0 with
 | zero=>rfl
 | succ n0 ih =>
  have h:V0 k a0 (n0+1)=b0 k (V1 k a0 n0 k) (V0 k a0 n0):=by kernel_rfl
  rw [h,e1,ih]
  rfl
end
theorem ctr:Cp 80 (C k):=ry [] (E:=E k) rfl rfl Tryz.func80 rfl fun ⟨a0,_⟩=>(show _=t k (V0 k a0 k) a0 by kernel_rfl).trans (by rw [e0];rfl)
end fm
namespace dr
def C:Cn:=⟨[.val aK],[(.slice aW)],true,false,fun x=>f k x.1⟩
def D:List Ce:=[q (fm.ctr k)]
theorem ctr:Cp 58 (C k):=rz k rfl (D k) Tryz.func58 rfl fun _=>by kernel_rfl
end dr
namespace kI
def C:Cn:=⟨[.val bO,.val aC],[(.slice aW)],true,false,fun x=>f k x.1 x.2.1⟩
def D:List Ce:=[q (ac.ctr k),q (dr.ctr k)]
theorem ctr:Cp 40 (C k):=rz k rfl (D k) Tryz.func40 rfl fun _=>by kernel_rfl
end kI
namespace dq
def C:Cn:=⟨[.val (.slice aB)],[(.slice .str)],true,false,fun x=>f k x.1⟩
def E:jF:=en [] [(3,[3,6,7,8])] 0 [] k
section
variable (a0:List (Ty.d aB))
def K0:Ex→St→Rs:=dG (E k) (eK (E k) Tryz.f61 (C k) (a0,())) [.blk 0,.code (dU Tryz.f61 3 7)]
def V0 (n0:Nat):T0:=fun x0 x1 x2 x3=>bU (cH (E k) (dU Tryz.f61 6 11)) (bH 0 [3,6,7,8]) (K0 k a0) n0 (mk 19 1 [(3,.ref 0),(6,.sl true aB x0),(7,.int .i64 x1),(8,.int .i64 x2)] [(0,.own false .str x3)])
theorem e0:V0 k a0=l0 k:=ap (b:=b0 k) rfl (fun _=>by kernel_rfl) fun _=>rfl
end
theorem ctr:Cp 61 (C k):=ry [] (E:=E k) rfl rfl Tryz.func61 rfl fun ⟨a0,_⟩=>(show _=t k (V0 k a0 k) a0 by kernel_rfl).trans (by rw [e0];rfl)
end dq
namespace fD
def C:Cn:=⟨[.val (.slice aB),.val .str],[aB,.bool],true,false,fun x=>f k x.1 x.2.1⟩
def E:jF:=en [] [(2,[1,4,8,9,10])] 0 [] k
section
variable (a0:List (Ty.d aB)) (a1:ByteArray)
def K0:Ex→St→Rs:=dG (E k) (eK (E k) Tryz.f124 (C k) (a0,a1,())) [.blk 0,.code (dU Tryz.f124 2 3)]
def V0 (n0:Nat):T0:=fun x0 x1 x2 x3 x4 x5 x6 x7 x8=>bU (cH (E k) (dU Tryz.f124 5 5)) (bH 0 [1,4,8,9,10]) (K0 k a0 a1) n0 (mk 21 1 [(1,.str x0),(4,.ptr 0 0 0),(8,.sl true aB x1),(9,.int .i64 x2),(10,.int .i64 x3)] [(0,.box [.str x4,.int .i64 x5,.int .i64 x6,.int .i64 x7,.int .i64 x8])])
theorem e0:V0 k a0 a1=l0 k:=ap (b:=b0 k) rfl (fun _=>by kernel_rfl) fun _=>rfl
end
theorem ctr:Cp 124 (C k):=ry [] (E:=E k) rfl rfl Tryz.func124 rfl fun ⟨a0,a1,_⟩=>(show _=t k (V0 k a0 a1 k) a0 a1 by kernel_rfl).trans (by rw [e0];rfl)
end fD
namespace jc
def C:Cn:=⟨[.val .str,.val (.int .i64),.val (.int .i64)],[ba,.bool],true,false,fun x=>f k x.1 x.2.1 x.2.2.1⟩
def D:List Ce:=[q (ac.ctr k),q (dm.ctr k),q (d_.ctr k)]
theorem ctr:Cp 114 (C k):=rz k rfl (D k) Tryz.func114 rfl fun _=>by kernel_rfl
end jc
namespace ll
def C:Cn:=⟨[.val aD,.val aA,.val .str],[aL,(.int .i64)],true,false,fun x=>f k x.1 x.2.1 x.2.2.1⟩
def D:List Ce:=[q (fD.ctr k),q (aj.ctr k),q (bq.ctr k),q (jc.ctr k)]
theorem ctr:Cp 112 (C k):=rz k rfl (D k) Tryz.func112 rfl fun _=>by kernel_rfl
end ll
namespace ir
def C:Cn:=⟨[.val aD,.val aA],[(.slice aL),(.int .i64)],true,false,fun x=>f k x.1 x.2.1⟩
def D:List Ce:=[q (dq.ctr k),q (ll.ctr k)]
def E:jF:=en (D k) [(3,[2,3,6,13,14,15])] 0 [] k
section
variable (a0:Ty.d aD) (a1:Ty.d aA)
def K0:Ex→St→Rs:=dG (E k) (eK (E k) Tryz.f81 (C k) (a0,a1,())) [.blk 0,.code (dU Tryz.f81 3 7)]
def V0 (n0:Nat):T0:=fun x0 x1 x2 x3 x4 x5 x6 x7 x8 x9 x10 x11 x12 x13=>bU (cH (E k) (dU Tryz.f81 6 11)) (bH 0 [2,3,6,13,14,15]) (K0 k a0 a1) n0 (mk 35 4 [(2,.ptr 0 0 0),(3,.ptr 1 0 0),(6,.ref 2),(13,.ref 3),(14,.int .i64 x0),(15,.int .i64 x1)] [(0,.box [.int .i64 x2,.sl true (.int .i64) x3,.sl true aB x4,.int .i64 x5,.int .i64 x6,.int .i64 x7]),(1,.box [.sl true aL x8,.int .i64 x9,.int .i64 x10,.bool x11]),(2,.own false aL x12),(3,.own false .str x13)])
theorem e0:V0 k a0 a1=l0 k:=ap (b:=b0 k) rfl (fun _=>by kernel_rfl) fun _=>rfl
end
theorem ctr:Cp 81 (C k):=ry (D k) (E:=E k) rfl rfl Tryz.func81 rfl fun ⟨a0,a1,_⟩=>(show _=t k (V0 k a0 a1 k) a0 a1 by kernel_rfl).trans (by rw [e0];rfl)
end ir
namespace cW
def C:Cn:=⟨[.val aD,.val aA],[.bool],true,false,fun x=>f k x.1 x.2.1⟩
def D:List Ce:=[q (ay.ctr k),q (dE.ctr k),q (eD.ctr k),q (ac.ctr k),q (aj.ctr k),q (bq.ctr k),q (dD.ctr k),q (jc.ctr k)]
def E:jF:=en (D k) [(4,[2,3,40,41,42]),(12,[2,3,84,85,86])] 0 [] k
section
variable (a0:Ty.d aD) (a1:Ty.d aA)
def K0:Ex→St→Rs:=dG (E k) (eK (E k) Tryz.f82 (C k) (a0,a1,())) [.blk 0,.code (dU Tryz.f82 3 7)]
def K1:Ex→St→Rs:=dG (E k) (eK (E k) Tryz.f82 (C k) (a0,a1,())) [.blk 2,.code (dU Tryz.f82 4 15)]
def V0 (n0:Nat):T0:=fun x0 x1 x2 x3 x4 x5 x6 x7 x8 x9 x10 x11 x12=>bU (cH (E k) (dU Tryz.f82 6 11)) (bH 0 [2,3,40,41,42]) (K0 k a0 a1) n0 (mk 141 2 [(2,.ptr 0 0 0),(3,.ptr 1 0 0),(40,.sl true (.int .i64) x0),(41,.int .i64 x1),(42,.int .i64 x2)] [(0,.box [.int .i64 x3,.sl true (.int .i64) x4,.sl true aB x5,.int .i64 x6,.int .i64 x7,.int .i64 x8]),(1,.box [.sl true aL x9,.int .i64 x10,.int .i64 x11,.bool x12])])
def V1 (n1:Nat):T1:=fun x0 x1 x2 x3 x4 x5 x6 x7 x8 x9 x10 x11 x12=>bU (cH (E k) (dU Tryz.f82 7 23)) (bH 0 [2,3,84,85,86]) (K1 k a0 a1) n1 (mk 141 2 [(2,.ptr 0 0 0),(3,.ptr 1 0 0),(84,.sl true aB x0),(85,.int .i64 x1),(86,.int .i64 x2)] [(0,.box [.int .i64 x3,.sl true (.int .i64) x4,.sl true aB x5,.int .i64 x6,.int .i64 x7,.int .i64 x8]),(1,.box [.sl true aL x9,.int .i64 x10,.int .i64 x11,.bool x12])])
theorem e1:V1 k a0 a1=l1 k:=ap (b:=b1 k) rfl (fun _=>by kernel_rfl) fun _=>rfl
theorem e0 (n0:Nat):V0 k a0 a1 n0=l0 k n0:=by
 induction n0 with
 | zero=>rfl
 | succ n0 ih =>
  have h:V0 k a0 a1 (n0+1)=b0 k (V1 k a0 a1 k) (V0 k a0 a1 n0):=by kernel_rfl
  rw [h,e1,ih]
  rfl
end
theorem ctr:Cp 82 (C k):=ry (D k) (E:=E k) rfl rfl Tryz.func82 rfl fun ⟨a0,a1,_⟩=>(show _=t k (V0 k a0 a1 k) a0 a1 by kernel_rfl).trans (by rw [e0];rfl)
end cW
namespace i8
def C:Cn:=⟨[.val (.slice aL),.val (.int .i64)],[(.slice ba)],true,false,fun x=>f k x.1 x.2.1⟩
def D:List Ce:=[q (gC.ctr k)]
def E:jF:=en (D k) [(3,[0,1,5,8,9,10])] 0 [] k
section
variable (a0:List (Ty.d aL)) (a1:Int)
def K0:Ex→St→Rs:=dG (E k) (eK (E k) Tryz.f116 (C k) (a0,a1,())) [.blk 0,.code (dU Tryz.f116 3 7)]
def V0 (n0:Nat):T0:=fun x0 x1 x2 x3 x4 x5=>bU (cH (E k) (dU Tryz.f116 6 11)) (bH 0 [0,1,5,8,9,10]) (K0 k a0 a1) n0 (mk 34 1 [(0,.sl true aL x0),(1,.int .i64 x1),(5,.ref 0),(8,.sl true aL x2),(9,.int .i64 x3),(10,.int .i64 x4)] [(0,.own false ba x5)])
theorem e0:V0 k a0 a1=l0 k:=ap (b:=b0 k) rfl (fun _=>by kernel_rfl) fun _=>rfl
end
theorem ctr:Cp 116 (C k):=ry (D k) (E:=E k) rfl rfl Tryz.func116 rfl fun ⟨a0,a1,_⟩=>(show _=t k (V0 k a0 a1 k) a0 a1 by kernel_rfl).trans (by rw [e0];rfl)
end i8
namespace bC
def C:Cn:=⟨[.io true 0 an,.val (.int .i64),.val (.slice ba)],[(.slice aB)],true,false,fun x=>f k x.1 x.2.1 x.2.2.1⟩
def D:List Ce:=[q (aj.ctr k),q (ck.ctr k),q (fw.ctr k),q (gY.ctr k),q (cT.ctr k),q (bL.ctr k)]
def E:jF:=en (D k) [(5,[0,1,7,8,16,17,18])] 1 [] k
section
variable (a0:Ty.d an) (a1:Int) (a2:List (Ty.d ba))
def K0:Ex→St→Rs:=dG (E k) (eK (E k) Tryz.f115 (C k) (a0,a1,a2,())) [.blk 0,.code (dU Tryz.f115 5 31)]
def V0 (n0:Nat):T0:=fun x0 x1 x2 x3 x4 x5 x6 x7 x8 x9 x10=>bU (cH (E k) (dU Tryz.f115 8 47)) (bH 1 [0,1,7,8,16,17,18]) (K0 k a0 a1 a2) n0 (mk 60 3 [(0,.ptr 0 0 0),(1,.int .i64 x0),(7,.ref 2),(8,.int .i64 x1),(16,.sl true ba x2),(17,.int .i64 x3),(18,.int .i64 x4)] [(1,.own false aL x5),(0,.box [.ref 1,.int .i64 x6,.int .i64 x7,.bool x8,.int .i64 x9]),(2,.own false aB x10)])
theorem e0:V0 k a0 a1 a2=l0 k:=ap (b:=b0 k) rfl (fun _=>by kernel_rfl) fun _=>rfl
end
theorem ctr:Cp 115 (C k):=ry (D k) (E:=E k) rfl rfl Tryz.func115 rfl fun ⟨a0,a1,a2,_⟩=>(show _=t k (V0 k a0 a1 a2 k) a0 a1 a2 by kernel_rfl).trans (by rw [e0];rfl)
end bC
namespace dZ
def C:Cn:=⟨[.io true 0 an,.val (.int .i64)],[],true,false,fun x=>f k x.1 x.2.1⟩
def D:List Ce:=[q (aj.ctr k),q (bq.ctr k),q (dy.ctr k),q (dP.ctr k),q (dA.ctr k),q (dO.ctr k),q (bD.ctr k)]
theorem ctr:Cp 117 (C k):=rz k rfl (D k) Tryz.func117 rfl fun _=>by kernel_rfl
end dZ
namespace ae
def C:Cn:=⟨[.io true 0 an,.val (.slice .str)],[],true,false,fun x=>f k x.1 x.2.1⟩
def D:List Ce:=[q (bD.ctr k)]
def E:jF:=en (D k) [(3,[0,4,18,19,20])] 1 [] k
section
variable (a0:Ty.d an) (a1:List ByteArray)
def K0:Ex→St→Rs:=dG (E k) (eK (E k) Tryz.f118 (C k) (a0,a1,())) [.blk 0,.code (dU Tryz.f118 3 7)]
def V0 (n0:Nat):T0:=fun x0 x1 x2 x3 x4 x5 x6 x7 x8 x9 x10 x11=>bU (cH (E k) (dU Tryz.f118 6 11)) (bH 1 [0,4,18,19,20]) (K0 k a0 a1) n0 (mk 47 3 [(0,.ptr 0 0 0),(4,.ptr 2 0 0),(18,.sl true .str x0),(19,.int .i64 x1),(20,.int .i64 x2)] [(1,.own false aL x3),(0,.box [.ref 1,.int .i64 x4,.int .i64 x5,.bool x6,.int .i64 x7]),(2,.box [.ref 1,.int .i64 x8,.int .i64 x9,.bool x10,.int .i64 x11])])
def V1 (n0:Nat):T1:=fun x0 x1 x2 x3 x4 x5 x6 x7 x8 x9 x10 x11=>bU (cH (E k) (dU Tryz.f118 6 11)) (bH 1 [0,4,18,19,20]) (K0 k a0 a1) n0 (mk 47 3 [(0,.ptr 0 0 0),(4,.ptr 1 0 0),(18,.sl true .str x0),(19,.int .i64 x1),(20,.int .i64 x2)] [(0,.box [.junk,.int .i64 x3,.int .i64 x4,.bool x5,.int .i64 x6]),(2,.own false aL x7),(1,.box [.ref 2,.int .i64 x8,.int .i64 x9,.bool x10,.int .i64 x11])])
theorem e1:V1 k a0 a1=l1 k:=ap (b:=b1 k) rfl (fun _=>by kernel_rfl) fun _=>rfl
theorem e0 (n0:Nat):V0 k a0 a1 n0=l0 k n0:=by
 induction n0 with
 | zero=>rfl
 | succ n0 ih =>
  have h:V0 k a0 a1 (n0+1)=b0 k (V1 k a0 a1 n0):=by kernel_rfl
  rw [h,e1]
  rfl
end
theorem ctr:Cp 118 (C k):=ry (D k) (E:=E k) rfl rfl Tryz.func118 rfl fun ⟨a0,a1,_⟩=>(show _=t k (V0 k a0 a1 k) a0 a1 by kernel_rfl).trans (by rw [e0];rfl)
end ae
namespace cQ
def C:Cn:=⟨[.io true 0 aD,.io true 0 an,.val (.slice aL)],[],true,false,fun x=>f k x.1 x.2.1 x.2.2.1⟩
def D:List Ce:=[q (i8.ctr k),q (bC.ctr k),q (dZ.ctr k),q (cG.ctr k),q (aj.ctr k),q (dP.ctr k),q (ae.ctr k),q (bD.ctr k)]
def E:jF:=en (D k) [(12,[1,85,86,87])] 2 [] k
section
variable (a0:Ty.d aD) (a1:Ty.d an) (a2:List (Ty.d aL))
def K0:Ex→St→Rs:=dG (E k) (eK (E k) Tryz.f83 (C k) (a0,a1,a2,())) [.blk 0]
def V0 (n0:Nat):T0:=fun x0 x1 x2 x3 x4 x5 x6 x7 x8 x9 x10 x11 x12 x13=>bU (cH (E k) (dU Tryz.f83 12 1023)) (bH 2 [1,85,86,87]) (K0 k a0 a1 a2) n0 (mk 100 6 [(1,.ptr 1 0 0),(85,.ref 5),(86,.int .i64 x0),(87,.int .i64 x1)] [(2,.own false (.int .i64) x2),(3,.own false aB x3),(0,.box [.int .i64 x4,.ref 2,.ref 3,.int .i64 x5,.int .i64 x6,.int .i64 x7]),(4,.own false aL x8),(1,.box [.ref 4,.int .i64 x9,.int .i64 x10,.bool x11,.int .i64 x12]),(5,.own false (.int .i64) x13)])
theorem e0:V0 k a0 a1 a2=l0 k:=ap (b:=b0 k) rfl (fun _=>by kernel_rfl) fun _=>rfl
end
theorem ctr:Cp 83 (C k):=ry (D k) (E:=E k) rfl rfl Tryz.func83 rfl fun ⟨a0,a1,a2,_⟩=>(show _=t k (V0 k a0 a1 a2 k) a0 a1 a2 by kernel_rfl).trans (by rw [e0];rfl)
end cQ
namespace kF
def C:Cn:=⟨[.val aD,.val aA],[aD,aA,(.int .i64)],true,false,fun x=>f k x.1 x.2.1⟩
def D:List Ce:=[q (cM.ctr k),q (bA.ctr k),q (ir.ctr k),q (cW.ctr k),q (cQ.ctr k)]
theorem ctr:Cp 60 (C k):=rz k rfl (D k) Tryz.func60 rfl fun _=>by kernel_rfl
end kF
namespace kK
def C:Cn:=⟨[.val (.slice aK),.val aC],[.bool],true,false,fun x=>f k x.1 x.2.1⟩
def D:List Ce:=[q (ac.ctr k)]
theorem ctr:Cp 84 (C k):=rz k rfl (D k) Tryz.func84 rfl fun _=>by kernel_rfl
end kK
namespace eM
def C:Cn:=⟨[.val aK,.val .str],[aW,.bool],true,false,fun x=>f k x.1 x.2.1⟩
def E:jF:=en [] [(2,[1,2,4,6])] 0 [] k
section
variable (a0:Ty.d aK) (a1:ByteArray)
def K0:Ex→St→Rs:=dG (E k) (eK (E k) Tryz.f152 (C k) (a0,a1,())) [.blk 0,.code (dU Tryz.f152 2 3)]
def V0 (n0:Nat):T0:=fun x0 x1 x2 x3 x4 x5 x6 x7=>bU (cH (E k) (dU Tryz.f152 5 5)) (bH 0 [1,2,4,6]) (K0 k a0 a1) n0 (mk 29 2 [(1,.str x0),(2,.ptr 0 0 0),(4,.ptr 1 0 0),(6,.int .i64 x1)] [(0,.box [.bool x2,.sl true bF x3,.sl true aW x4]),(1,.box [.str x5,.bool x6,.str x7])])
theorem e0:V0 k a0 a1=l0 k:=ap (b:=b0 k) rfl (fun _=>by kernel_rfl) fun _=>rfl
end
theorem ctr:Cp 152 (C k):=ry [] (E:=E k) rfl rfl Tryz.func152 rfl fun ⟨a0,a1,_⟩=>(show _=t k (V0 k a0 a1 k) a0 a1 by kernel_rfl).trans (by rw [e0];rfl)
end eM
namespace oz
def C:Cn:=⟨[.val aK,.val .str],[aG,.bool],true,false,fun x=>f k x.1 x.2.1⟩
def D:List Ce:=[q (eM.ctr k)]
theorem ctr:Cp 120 (C k):=rz k rfl (D k) Tryz.func120 rfl fun _=>by kernel_rfl
end oz
namespace fS
def C:Cn:=⟨[.val aK,.val .str,.val (.int .i64)],[aK,(.int .i64)],true,false,fun x=>f k x.1 x.2.1 x.2.2.1⟩
def D:List Ce:=[q (dp.ctr k),q (df.ctr k)]
def E:jF:=en (D k) [(6,[1,2,3,6,8,9,24,25,26])] 0 [] k
section
variable (a0:Ty.d aK) (a1:ByteArray) (a2:Int)
def K0:Ex→St→Rs:=dG (E k) (eK (E k) Tryz.f153 (C k) (a0,a1,a2,())) [.blk 0,.code (dU Tryz.f153 5 31)]
def V0 (n0:Nat):T0:=fun x0 x1 x2 x3 x4 x5 x6 x7 x8 x9 x10 x11 x12 x13 x14=>bU (cH (E k) (dU Tryz.f153 8 47)) (bH 0 [1,2,3,6,8,9,24,25,26]) (K0 k a0 a1 a2) n0 (mk 56 7 [(1,.str x0),(2,.int .i64 x1),(3,.ptr 0 0 0),(6,.ptr 1 0 0),(8,.ptr 4 0 0),(9,.bool x2),(24,.sl true bF x3),(25,.int .i64 x4),(26,.int .i64 x5)] [(0,.box [.bool x6,.sl true bF x7,.sl true aW x8]),(2,.own false bF x9),(3,.own false aW x10),(1,.box [.bool x11,.ref 2,.ref 3]),(5,.own false bF x12),(6,.own false aW x13),(4,.box [.bool x14,.ref 5,.ref 6])])
theorem e0:V0 k a0 a1 a2=l0 k:=ap (b:=b0 k) rfl (fun _=>by kernel_rfl) fun _=>rfl
end
theorem ctr:Cp 153 (C k):=ry (D k) (E:=E k) rfl rfl Tryz.func153 rfl fun ⟨a0,a1,a2,_⟩=>(show _=t k (V0 k a0 a1 a2 k) a0 a1 a2 by kernel_rfl).trans (by rw [e0];rfl)
end fS
namespace n9
def C:Cn:=⟨[.val aK,.val .str,.val aL,.val (.int .i64)],[aK,aG],true,false,fun x=>f k x.1 x.2.1 x.2.2.1 x.2.2.2.1⟩
def D:List Ce:=[q (fS.ctr k)]
theorem ctr:Cp 121 (C k):=rz k rfl (D k) Tryz.func121 rfl fun _=>by kernel_rfl
end n9
namespace cY
def C:Cn:=⟨[.io true 0 gN,.val aC],[aG],true,true,fun x=>f k x.1 x.2.1⟩
def D:List Ce:=[q (df.ctr k),q (oz.ctr k),q (ll.ctr k),q (n9.ctr k)]
theorem ctr:Cp 85 (C k):=rz k rfl (D k) Tryz.func85 rfl fun _=>by kernel_rfl
end cY
namespace fa
def C:Cn:=⟨[.val aW],[.bool],true,false,fun x=>f k x.1⟩
def D:List Ce:=[q (df.ctr k)]
theorem ctr:Cp 123 (C k):=rz k rfl (D k) Tryz.func123 rfl fun _=>by kernel_rfl
end fa
namespace ig
def C:Cn:=⟨[.val aK,.val aW],[aK,.bool],true,false,fun x=>f k x.1 x.2.1⟩
def D:List Ce:=[q (dp.ctr k),q (fa.ctr k),q (dr.ctr k)]
theorem ctr:Cp 122 (C k):=rz k rfl (D k) Tryz.func122 rfl fun _=>by kernel_rfl
end ig
namespace kL
def C:Cn:=⟨[.val aK,.val aC],[aK,aG],true,false,fun x=>f k x.1 x.2.1⟩
def D:List Ce:=[q (ig.ctr k),q (fa.ctr k)]
theorem ctr:Cp 86 (C k):=rz k rfl (D k) Tryz.func86 rfl fun _=>by kernel_rfl
end kL
namespace gf
def C:Cn:=⟨[.val aK,.val (.slice aB)],[.bool],true,false,fun x=>f k x.1 x.2.1⟩
def D:List Ce:=[q (fD.ctr k)]
def E:jF:=en (D k) [(2,[1,10,11,12])] 0 [] k
section
variable (a0:Ty.d aK) (a1:List (Ty.d aB))
def K0:Ex→St→Rs:=dG (E k) (eK (E k) Tryz.f87 (C k) (a0,a1,())) [.blk 0,.code (dU Tryz.f87 2 3)]
def V0 (n0:Nat):T0:=fun x0 x1 x2 x3=>bU (cH (E k) (dU Tryz.f87 5 5)) (bH 0 [1,10,11,12]) (K0 k a0 a1) n0 (mk 29 0 [(1,.sl true aB x0),(10,.sl true bF x1),(11,.int .i64 x2),(12,.int .i64 x3)] [])
theorem e0:V0 k a0 a1=l0 k:=ap (b:=b0 k) rfl (fun _=>by kernel_rfl) fun _=>rfl
end
theorem ctr:Cp 87 (C k):=ry (D k) (E:=E k) rfl rfl Tryz.func87 rfl fun ⟨a0,a1,_⟩=>(show _=t k (V0 k a0 a1 k) a0 a1 by kernel_rfl).trans (by rw [e0];rfl)
end gf
namespace fG
def C:Cn:=⟨[.val (.slice aW)],[.bool],true,false,fun x=>f k x.1⟩
def D:List Ce:=[q (fa.ctr k)]
def E:jF:=en (D k) [(2,[0,5,6,7])] 0 [] k
section
variable (a0:List (Ty.d aW))
def K0:Ex→St→Rs:=dG (E k) (eK (E k) Tryz.f125 (C k) (a0,())) [.blk 0,.code (dU Tryz.f125 2 3)]
def V0 (n0:Nat):T0:=fun x0 x1 x2 x3=>bU (cH (E k) (dU Tryz.f125 5 5)) (bH 0 [0,5,6,7]) (K0 k a0) n0 (mk 18 0 [(0,.sl true aW x0),(5,.sl true aW x1),(6,.int .i64 x2),(7,.int .i64 x3)] [])
theorem e0:V0 k a0=l0 k:=ap (b:=b0 k) rfl (fun _=>by kernel_rfl) fun _=>rfl
end
theorem ctr:Cp 125 (C k):=ry (D k) (E:=E k) rfl rfl Tryz.func125 rfl fun ⟨a0,_⟩=>(show _=t k (V0 k a0 k) a0 by kernel_rfl).trans (by rw [e0];rfl)
end fG
namespace fz
def C:Cn:=⟨[.val (.slice aB),.val (.slice aW),.val (.slice aB)],[(.slice aB)],false,true,fun x=>f k x.1 x.2.1 x.2.2.1⟩
def D:List Ce:=[q (cB.ctr k),q (dC.ctr k)]
def E:jF:=en (D k) [(2,[0,2,9,10,11])] 0 [] k
section
variable (a0:List (Ty.d aB)) (a1:List (Ty.d aW)) (a2:List (Ty.d aB))
def K0:Ex→St→Rs:=dG (E k) (eK (E k) Tryz.f154 (C k) (a0,a1,a2,())) [.blk 0,.code (dU Tryz.f154 2 3)]
def V0 (n0:Nat):T0:=fun x0 x1 x2 x3 x4=>bU (cH (E k) (dU Tryz.f154 5 5)) (bH 0 [0,2,9,10,11]) (K0 k a0 a1 a2) n0 (mk 30 0 [(0,.sl true aB x0),(2,.sl true aB x1),(9,.sl true aW x2),(10,.int .i64 x3),(11,.int .i64 x4)] [])
def V1 (n0:Nat):T1:=fun x0 x1 x2 x3 x4=>bU (cH (E k) (dU Tryz.f154 5 5)) (bH 0 [0,2,9,10,11]) (K0 k a0 a1 a2) n0 (mk 30 1 [(0,.ref 0),(2,.sl true aB x0),(9,.sl true aW x1),(10,.int .i64 x2),(11,.int .i64 x3)] [(0,.own false aB x4)])
theorem e1:V1 k a0 a1 a2=l1 k:=ap (b:=b1 k) rfl (fun _=>by kernel_rfl) fun _=>rfl
theorem e0 (n0:Nat):V0 k a0 a1 a2 n0=l0 k n0:=by
 induction n0 with
 | zero=>rfl
 | succ n0 ih =>
  have h:V0 k a0 a1 a2 (n0+1)=b0 k (V1 k a0 a1 a2 n0):=by kernel_rfl
  rw [h,e1]
  rfl
end
theorem ctr:Cp 154 (C k):=ry (D k) (E:=E k) rfl rfl Tryz.func154 rfl fun ⟨a0,a1,a2,_⟩=>(show _=t k (V0 k a0 a1 a2 k) a0 a1 a2 by kernel_rfl).trans (by rw [e0];rfl)
end fz
namespace eP
def C:Cn:=⟨[.val (.slice aB),.val (.slice aW)],[(.int .i64)],true,false,fun x=>f k x.1 x.2.1⟩
def D:List Ce:=[q (fz.ctr k)]
def E:jF:=en (D k) [(3,[0,1,5,8,9,10])] 0 [] k
section
variable (a0:List (Ty.d aB)) (a1:List (Ty.d aW))
def K0:Ex→St→Rs:=dG (E k) (eK (E k) Tryz.f126 (C k) (a0,a1,())) [.blk 0,.code (dU Tryz.f126 3 7)]
def V0 (n0:Nat):T0:=fun x0 x1 x2 x3 x4 x5=>bU (cH (E k) (dU Tryz.f126 6 11)) (bH 0 [0,1,5,8,9,10]) (K0 k a0 a1) n0 (mk 26 1 [(0,.sl true aB x0),(1,.sl true aW x1),(5,.ref 0),(8,.sl true aW x2),(9,.int .i64 x3),(10,.int .i64 x4)] [(0,.own false aB x5)])
theorem e0:V0 k a0 a1=l0 k:=ap (b:=b0 k) rfl (fun _=>by kernel_rfl) fun _=>rfl
end
theorem ctr:Cp 126 (C k):=ry (D k) (E:=E k) rfl rfl Tryz.func126 rfl fun ⟨a0,a1,_⟩=>(show _=t k (V0 k a0 a1 k) a0 a1 by kernel_rfl).trans (by rw [e0];rfl)
end eP
namespace dw
def C:Cn:=⟨[.val (.slice aW),.val (.int .i64)],[(.slice ba)],true,false,fun x=>f k x.1 x.2.1⟩
def D:List Ce:=[q (gC.ctr k)]
def E:jF:=en (D k) [(3,[0,1,5,8,9,10])] 0 [] k
section
variable (a0:List (Ty.d aW)) (a1:Int)
def K0:Ex→St→Rs:=dG (E k) (eK (E k) Tryz.f155 (C k) (a0,a1,())) [.blk 0,.code (dU Tryz.f155 3 7)]
def V0 (n0:Nat):T0:=fun x0 x1 x2 x3 x4 x5=>bU (cH (E k) (dU Tryz.f155 6 11)) (bH 0 [0,1,5,8,9,10]) (K0 k a0 a1) n0 (mk 42 1 [(0,.sl true aW x0),(1,.int .i64 x1),(5,.ref 0),(8,.sl true aW x2),(9,.int .i64 x3),(10,.int .i64 x4)] [(0,.own false ba x5)])
theorem e0:V0 k a0 a1=l0 k:=ap (b:=b0 k) rfl (fun _=>by kernel_rfl) fun _=>rfl
end
theorem ctr:Cp 155 (C k):=ry (D k) (E:=E k) rfl rfl Tryz.func155 rfl fun ⟨a0,a1,_⟩=>(show _=t k (V0 k a0 a1 k) a0 a1 by kernel_rfl).trans (by rw [e0];rfl)
end dw
namespace bn
def C:Cn:=⟨[.io true 0 aD],[.str],true,false,fun x=>f k x.1⟩
def D:List Ce:=[q (aj.ctr k)]
theorem ctr:Cp 157 (C k):=rz k rfl (D k) Tryz.func157 rfl fun _=>by kernel_rfl
end bn
namespace fA
def C:Cn:=⟨[.io true 0 aD,.io true 0 an],[],true,false,fun x=>f k x.1 x.2.1⟩
def D:List Ce:=[q (bn.ctr k),q (bL.ctr k),q (aj.ctr k),q (ck.ctr k),q (dR.ctr k),q (cG.ctr k),q (ae.ctr k)]
theorem ctr:Cp 171 (C k):=rz k rfl (D k) Tryz.func171 rfl fun _=>by kernel_rfl
end fA
namespace fv
def C:Cn:=⟨[.io true 0 aD,.io true 0 an,.val ba],[aB],true,false,fun x=>f k x.1 x.2.1 x.2.2.1⟩
def D:List Ce:=[q (fw.ctr k),q (gY.ctr k),q (fA.ctr k),q (bn.ctr k),q (cT.ctr k)]
theorem ctr:Cp 156 (C k):=rz k rfl (D k) Tryz.func156 rfl fun _=>by kernel_rfl
end fv
namespace ga
def C:Cn:=⟨[.give (.slice aB),.val (.slice aW),.val (.slice aB)],[(.slice aB)],true,false,fun x=>f k x.1 x.2.1 x.2.2.1⟩
def D:List Ce:=[q (cB.ctr k),q (dC.ctr k)]
def E:jF:=en (D k) [(2,[0,2,9,10,11])] 0 [] k
section
variable (a0:List (Ty.d aB)) (a1:List (Ty.d aW)) (a2:List (Ty.d aB))
def K0:Ex→St→Rs:=dG (E k) (eK (E k) Tryz.f154 (C k) (a0,a1,a2,())) [.blk 0,.code (dU Tryz.f154 2 3)]
def V0 (n0:Nat):T0:=fun x0 x1 x2 x3 x4=>bU (cH (E k) (dU Tryz.f154 5 5)) (bH 0 [0,2,9,10,11]) (K0 k a0 a1 a2) n0 (mk 30 1 [(0,.ref 0),(2,.sl true aB x0),(9,.sl true aW x1),(10,.int .i64 x2),(11,.int .i64 x3)] [(0,.own false aB x4)])
theorem e0:V0 k a0 a1 a2=l0 k:=ap (b:=b0 k) rfl (fun _=>by kernel_rfl) fun _=>rfl
end
theorem ctr:Cp 154 (C k):=ry (D k) (E:=E k) rfl rfl Tryz.func154 rfl fun ⟨a0,a1,a2,_⟩=>(show _=t k (V0 k a0 a1 a2 k) a0 a1 a2 by kernel_rfl).trans (by rw [e0];rfl)
end ga
namespace cA
def C:Cn:=⟨[.io true 0 aD,.io true 0 an,.val (.slice aW)],[],true,false,fun x=>f k x.1 x.2.1 x.2.2.1⟩
def D:List Ce:=[q (dw.ctr k),q (fv.ctr k),q (bn.ctr k),q (bL.ctr k),q (ga.ctr k)]
def E:jF:=en (D k) [(4,[0,1,2,7,24,25,26])] 2 [] k
section
variable (a0:Ty.d aD) (a1:Ty.d an) (a2:List (Ty.d aW))
def K0:Ex→St→Rs:=dG (E k) (eK (E k) Tryz.f127 (C k) (a0,a1,a2,())) [.blk 0,.code (dU Tryz.f127 4 15)]
def V0 (n0:Nat):T0:=fun x0 x1 x2 x3 x4 x5 x6 x7 x8 x9 x10 x11 x12 x13 x14 x15=>bU (cH (E k) (dU Tryz.f127 7 23)) (bH 2 [0,1,2,7,24,25,26]) (K0 k a0 a1 a2) n0 (mk 63 7 [(0,.ptr 0 0 0),(1,.ptr 1 0 0),(2,.sl true aW x0),(7,.ref 5),(24,.ref 6),(25,.int .i64 x1),(26,.int .i64 x2)] [(2,.own false (.int .i64) x3),(3,.own false aB x4),(0,.box [.int .i64 x5,.ref 2,.ref 3,.int .i64 x6,.int .i64 x7,.int .i64 x8]),(4,.own false aL x9),(1,.box [.ref 4,.int .i64 x10,.int .i64 x11,.bool x12,.int .i64 x13]),(5,.own false aB x14),(6,.own false ba x15)])
theorem e0:V0 k a0 a1 a2=l0 k:=ap (b:=b0 k) rfl (fun _=>by kernel_rfl) fun _=>rfl
end
theorem ctr:Cp 127 (C k):=ry (D k) (E:=E k) rfl rfl Tryz.func127 rfl fun ⟨a0,a1,a2,_⟩=>(show _=t k (V0 k a0 a1 a2 k) a0 a1 a2 by kernel_rfl).trans (by rw [e0];rfl)
end cA
namespace jP
def C:Cn:=⟨[.val aD,.val aA,.val (.slice aW)],[aD,aA,(.int .i64)],true,false,fun x=>f k x.1 x.2.1 x.2.2.1⟩
def D:List Ce:=[q (cM.ctr k),q (bA.ctr k),q (cW.ctr k),q (fG.ctr k),q (eP.ctr k),q (cA.ctr k)]
theorem ctr:Cp 88 (C k):=rz k rfl (D k) Tryz.func88 rfl fun _=>by kernel_rfl
end jP
namespace bQ
def C:Cn:=⟨[.io true 0 gN,.val aC],[aG],true,true,fun x=>f k x.1 x.2.1⟩
def D:List Ce:=[q (kK.ctr k),q (cY.ctr k),q (kL.ctr k),q (gf.ctr k),q (dr.ctr k),q (jP.ctr k)]
theorem ctr:Cp 62 (C k):=rz k rfl (D k) Tryz.func62 rfl fun _=>by kernel_rfl
end bQ
namespace bv
def C:Cn:=⟨[.io true 0 gN,.val aC],[aG],true,true,fun x=>f k x.1 x.2.1⟩
def D:List Ce:=[q (fK.ctr k),q (gi.ctr k),q (ay.ctr k),q (ac.ctr k),q (kF.ctr k),q (dq.ctr k),q (bQ.ctr k)]
theorem ctr:Cp 41 (C k):=rz k rfl (D k) Tryz.func41 rfl fun _=>by kernel_rfl
end bv
namespace jm
def C:Cn:=⟨[.val bO,.val (.slice aC)],[gN],true,true,fun x=>f k x.1 x.2.1⟩
def D:List Ce:=[q (gm.ctr k),q (kI.ctr k),q (bv.ctr k)]
def E:jF:=en (D k) [(3,[4,5,14,15,16])] 0 [] k
section
variable (a0:Ty.d bO) (a1:List (Ty.d aC))
def K0:Ex→St→Rs:=dG (E k) (eK (E k) Tryz.f24 (C k) (a0,a1,())) [.blk 0,.code (dU Tryz.f24 3 7)]
def V0 (n0:Nat):T0:=fun x0 x1 x2 x3 x4 x5 x6 x7 x8 x9 x10 x11 x12 x13 x14 x15 x16 x17 x18 x19 x20 x21 x22 x23 x24 x25 x26 x27 x28 x29 x30 x31 x32=>bU (cH (E k) (dU Tryz.f24 6 11)) (bH 0 [4,5,14,15,16]) (K0 k a0 a1) n0 (mk 63 16 [(4,.ptr 0 0 0),(5,.ptr 8 0 0),(14,.sl true aC x0),(15,.int .i64 x1),(16,.int .i64 x2)] [(1,.own false (.int .i64) x3),(2,.own false aB x4),(3,.own false aL x5),(4,.own false aK x6),(5,.own false aG x7),(6,.own false u_ x8),(7,.own false aW x9),(0,.box [.bool x10,.int .i64 x11,.ref 1,.ref 2,.int .i64 x12,.int .i64 x13,.int .i64 x14,.ref 3,.int .i64 x15,.int .i64 x16,.bool x17,.ref 4,.ref 5,.ref 6,.ref 7]),(9,.own false (.int .i64) x18),(10,.own false aB x19),(11,.own false aL x20),(12,.own false aK x21),(13,.own false aG x22),(14,.own false u_ x23),(15,.own false aW x24),(8,.box [.bool x25,.int .i64 x26,.ref 9,.ref 10,.int .i64 x27,.int .i64 x28,.int .i64 x29,.ref 11,.int .i64 x30,.int .i64 x31,.bool x32,.ref 12,.ref 13,.ref 14,.ref 15])])
def V1 (n0:Nat):T1:=fun x0 x1 x2 x3 x4 x5 x6 x7 x8 x9 x10 x11 x12 x13 x14 x15 x16 x17 x18 x19 x20 x21 x22 x23 x24 x25 x26 x27 x28 x29 x30 x31 x32=>bU (cH (E k) (dU Tryz.f24 6 11)) (bH 0 [4,5,14,15,16]) (K0 k a0 a1) n0 (mk 63 16 [(4,.ptr 0 0 0),(5,.ptr 8 0 0),(14,.sl true aC x0),(15,.int .i64 x1),(16,.int .i64 x2)] [(1,.own false (.int .i64) x3),(2,.own false aB x4),(3,.own false aL x5),(4,.own false aK x6),(5,.own false aG x7),(6,.own false u_ x8),(7,.own false aW x9),(0,.box [.bool x10,.int .i64 x11,.ref 1,.ref 2,.int .i64 x12,.int .i64 x13,.int .i64 x14,.ref 3,.int .i64 x15,.int .i64 x16,.bool x17,.ref 4,.ref 5,.ref 6,.ref 7]),(9,.own false (.int .i64) x18),(10,.own false aB x19),(11,.own false aL x20),(12,.own true aK x21),(13,.own true aG x22),(14,.own true u_ x23),(15,.own false aW x24),(8,.box [.bool x25,.int .i64 x26,.ref 9,.ref 10,.int .i64 x27,.int .i64 x28,.int .i64 x29,.ref 11,.int .i64 x30,.int .i64 x31,.bool x32,.ref 12,.ref 13,.ref 14,.ref 15])])
theorem e1:V1 k a0 a1=l1 k:=ap (b:=b1 k) rfl (fun _=>by kernel_rfl) fun _=>rfl
theorem e0 (n0:Nat):V0 k a0 a1 n0=l0 k n0:=by
 induction n0 with
 | zero=>rfl
 | succ n0 ih =>
  have h:V0 k a0 a1 (n0+1)=b0 k (V1 k a0 a1 n0):=by kernel_rfl
  rw [h,e1]
  rfl
end
theorem ctr:Cp 24 (C k):=ry (D k) (E:=E k) rfl rfl Tryz.func24 rfl fun ⟨a0,a1,_⟩=>(show _=t k (V0 k a0 a1 k) a0 a1 by kernel_rfl).trans (by rw [e0];rfl)
end jm
namespace ip
def C:Cn:=⟨[.val yF],[gN],true,true,fun x=>f k x.1⟩
def D:List Ce:=[q (ac.ctr k),q (jS.ctr k),q (ie.ctr k),q (fK.ctr k),q (jm.ctr k)]
theorem ctr:Cp 10 (C k):=rz k rfl (D k) Tryz.func10 rfl fun _=>by kernel_rfl
end ip
namespace fQ
def C:Cn:=⟨[.val aG,.val aG],[.bool],true,false,fun x=>f k x.1 x.2.1⟩
def E:jF:=en [] [(4,[2,3,5])] 0 [] k
section
variable (a0:Ty.d aG) (a1:Ty.d aG)
def K0:Ex→St→Rs:=dG (E k) (eK (E k) Tryz.f19 (C k) (a0,a1,())) [.blk 0,.code (dU Tryz.f19 3 7)]
def V0 (n0:Nat):T0:=fun x0 x1 x2 x3 x4 x5 x6=>bU (cH (E k) (dU Tryz.f19 6 11)) (bH 0 [2,3,5]) (K0 k a0 a1) n0 (mk 45 2 [(2,.ptr 0 0 0),(3,.ptr 1 0 0),(5,.int .i64 x0)] [(0,.box [.int .i64 x1,.str x2,.sl true .str x3]),(1,.box [.int .i64 x4,.str x5,.sl true .str x6])])
theorem e0:V0 k a0 a1=l0 k:=ap (b:=b0 k) rfl (fun _=>by kernel_rfl) fun _=>rfl
end
theorem ctr:Cp 19 (C k):=ry [] (E:=E k) rfl rfl Tryz.func19 rfl fun ⟨a0,a1,_⟩=>(show _=t k (V0 k a0 a1 k) a0 a1 by kernel_rfl).trans (by rw [e0];rfl)
end fQ
namespace bh
def C:Cn:=⟨[.val (.slice aG),.val (.slice aG)],[.bool],true,false,fun x=>f k x.1 x.2.1⟩
def D:List Ce:=[q (fQ.ctr k)]
def E:jF:=en (D k) [(4,[0,1,5])] 0 [] k
section
variable (a0:List (Ty.d aG)) (a1:List (Ty.d aG))
def K0:Ex→St→Rs:=dG (E k) (eK (E k) Tryz.f9 (C k) (a0,a1,())) [.blk 0,.code (dU Tryz.f9 3 7)]
def V0 (n0:Nat):T0:=fun x0 x1 x2=>bU (cH (E k) (dU Tryz.f9 6 11)) (bH 0 [0,1,5]) (K0 k a0 a1) n0 (mk 27 0 [(0,.sl true aG x0),(1,.sl true aG x1),(5,.int .i64 x2)] [])
theorem e0:V0 k a0 a1=l0 k:=ap (b:=b0 k) rfl (fun _=>by kernel_rfl) fun _=>rfl
end
theorem ctr:Cp 9 (C k):=ry (D k) (E:=E k) rfl rfl Tryz.func9 rfl fun ⟨a0,a1,_⟩=>(show _=t k (V0 k a0 a1 k) a0 a1 by kernel_rfl).trans (by rw [e0];rfl)
end bh
namespace ax
def C:Cn:=⟨[.val (.slice (.int .u8))],[.bool],true,false,fun x=>f k x.1⟩
def D:List Ce:=[q (qJ.ctr k),q (f_.ctr k),q (d6.ctr k),q (aH.ctr k),q (nO.ctr k),q (iR.ctr k),q (ip.ctr k),q (bh.ctr k)]
def E:jF:=en (D k) [(10,[3,5,6,7,8]),(17,[3,5,7,9,10,11])] 0 [] k
section
variable (a0:List Int)
def K0:Ex→St→Rs:=dG (E k) (eK (E k) Tryz.f3 (C k) (a0,())) [.blk 0,.code (dU Tryz.f3 8 255)]
def K1:Ex→St→Rs:=dG (E k) (eK (E k) Tryz.f3 (C k) (a0,())) [.blk 2,.code (dU Tryz.f3 11 2047)]
def V0 (n0:Nat):T0:=fun x0 x1 x2 x3 x4=>bU (cH (E k) (dU Tryz.f3 11 383)) (bH 0 [3,5,6,7,8]) (K0 k a0) n0 (mk 113 2 [(3,.sl false aC x0),(5,.ref 0),(6,.ref 1),(7,.int .i64 x1),(8,.int .i64 x2)] [(0,.own true aG x3),(1,.own false cF x4)])
def V1 (n1:Nat):T1:=fun x0 x1 x2 x3 x4 x5=>bU (cH (E k) (dU Tryz.f3 14 3071)) (bH 0 [3,5,7,9,10,11]) (K1 k a0) n1 (mk 113 3 [(3,.sl false aC x0),(5,.ref 0),(7,.int .i64 x1),(9,.ref 1),(10,.ref 2),(11,.int .i64 x2)] [(0,.own true aG x3),(1,.own false aC x4),(2,.own false aG x5)])
def V2 (n1:Nat):T2:=fun x0 x1 x2 x3 x4 x5=>bU (cH (E k) (dU Tryz.f3 14 3071)) (bH 0 [3,5,7,9,10,11]) (K1 k a0) n1 (mk 113 3 [(3,.sl false aC x0),(5,.ref 0),(7,.int .i64 x1),(9,.ref 1),(10,.ref 2),(11,.int .i64 x2)] [(0,.own true aG x3),(1,.own false aC x4),(2,.own true aG x5)])
theorem e2:V2 k a0=l2 k:=ap (b:=b2 k) rfl (fun _=>by kernel_rfl) fun _=>rfl
theorem e1 (n1:Nat):V1 k a0 n1=l1 k n1:=by
 induction n1 with
 | zero=>rfl
 | succ n1 ih =>
  have h:V1 k a0 (n1+1)=b1 k (V2 k a0 n1) (V1 k a0 n1):=by kernel_rfl
  rw [h,e2,ih]
  rfl
theorem e0 (n0:Nat):V0 k a0 n0=l0 k n0:=by
 induction n0 with
 | zero=>rfl
 | succ n0 ih =>
  have h:V0 k a0 (n0+1)=b0 k (V1 k a0 k) (V0 k a0 n0):=by kernel_rfl
  rw [h,e1,ih]
  rfl
end
theorem ctr:Cp 3 (C k):=ry (D k) (E:=E k) rfl rfl Tryz.func3 rfl fun ⟨a0,_⟩=>(show _=t k (V0 k a0 k) a0 by kernel_rfl).trans (by rw [e0];rfl)
end ax
end
end Go.Proofs.YtbgnhoggngbhhaaGreatDoor.G

/- Functions keep their contracts. -/
import Derived.Test.YteejjngdagmofaaGreatDoorVTab
import Derived.Test.YteejjngdagmofaaGreatDoorFK
import Derived.Test.YteejjngdagmofaaGreatDoorCLib
set_option linter.unusedVariables false
set_option maxRecDepth 100000
namespace Go.Proofs.YteejjngdagmofaaGreatDoor.G
open Go.V
noncomputable section
variable (k:Nat)
namespace og
def C:Cn:=⟨[.val (.slice (.int .u8))],[.bool],true,false,fun x=>f k x.1⟩
theorem ctr:Cp 4 (C k):=rz k rfl [] Tryz.func4 rfl fun _=>by kernel_rfl
end og
namespace mQ
def C:Cn:=⟨[.val (.slice (.int .u8)),.val (.int .i64)],[(.int .i64)],true,false,fun x=>f k x.1 x.2.1⟩
theorem ctr:Cp 6 (C k):=rz k rfl [] Tryz.func6 rfl fun _=>by kernel_rfl
end mQ
namespace iM
def C:Cn:=⟨[.val (.int .i64)],[.str],true,false,fun x=>f k x.1⟩
def E:ku:=en [] [(5,[0,3,4])] 0 [] k
section
variable (a0:Int)
def K0:Ex→St→Rs:=fc (E k) (eK (E k) Tryz.f5 (C k) (a0,())) [.blk 0,.code (gU Tryz.f5 5 31)]
def V0 (n0:Nat):T0:=fun x0 x1 x2=>cT (di (E k) (gU Tryz.f5 7 15)) (cE 0 [0,3,4]) (K0 k a0) n0 (mk 31 0 [(0,.int .i64 x0),(3,.str x1),(4,.bool x2)] [])
theorem e0:V0 k a0=l0 k:=bE (b:=b0 k) rfl (fun _=>by kernel_rfl) fun _=>rfl
end
theorem ctr:Cp 5 (C k):=ry [] (E:=E k) rfl rfl Tryz.func5 rfl fun ⟨a0,_⟩=>(show _=t k (V0 k a0 k) a0 by kernel_rfl).trans (by rw [e0];rfl)
end iM
namespace jU
def C:Cn:=⟨[.val .str],[(.slice .str)],false,false,fun x=>f k x.1⟩
def D:List Ce:=[q (iD.ctr k)]
theorem ctr:Cp 8 (C k):=rz k rfl (D k) Tryz.func8 rfl fun _=>by kernel_rfl
end jU
namespace aa
def C:Cn:=⟨[.val (.int .i64),.val (.int .i64),.val (.int .i64)],[.bool],true,false,fun x=>f k x.1 x.2.1 x.2.2.1⟩
theorem ctr:Cp 14 (C k):=rz k rfl [] Tryz.func14 rfl fun _=>by kernel_rfl
end aa
namespace jP
def C:Cn:=⟨[.val (.int .i64)],[aA],true,false,fun x=>f k x.1⟩
def D:List Ce:=[q (aa.ctr k)]
theorem ctr:Cp 10 (C k):=rz k rfl (D k) Tryz.func10 rfl fun _=>by kernel_rfl
end jP
namespace az
def C:Cn:=⟨[.val aA],[aA],true,false,fun x=>f k x.1⟩
theorem ctr:Cp 25 (C k):=rz k rfl [] Tryz.func25 rfl fun _=>by kernel_rfl
end az
namespace dr
def C:Cn:=⟨[.val .str],[.bool],true,false,fun x=>f k x.1⟩
def D:List Ce:=[q (aa.ctr k)]
def E:ku:=en (D k) [(2,[0,3])] 0 [] k
section
variable (a0:ByteArray)
def K0:Ex→St→Rs:=fc (E k) (eK (E k) Tryz.f40 (C k) (a0,())) [.blk 0,.code (gU Tryz.f40 2 3)]
def V0 (n0:Nat):T0:=fun x0 x1=>cT (di (E k) (gU Tryz.f40 5 5)) (cE 0 [0,3]) (K0 k a0) n0 (mk 37 0 [(0,.str x0),(3,.int .i64 x1)] [])
theorem e0:V0 k a0=l0 k:=bE (b:=b0 k) rfl (fun _=>by kernel_rfl) fun _=>rfl
end
theorem ctr:Cp 40 (C k):=ry (D k) (E:=E k) rfl rfl Tryz.func40 rfl fun ⟨a0,_⟩=>(show _=t k (V0 k a0 k) a0 by kernel_rfl).trans (by rw [e0];rfl)
end dr
namespace am
def C:Cn:=⟨[.val aA],[.bool],true,false,fun x=>f k x.1⟩
def D:List Ce:=[q (aa.ctr k),q (dr.ctr k)]
def E:ku:=en (D k) [(5,[1,3,23,24,25])] 0 [] k
section
variable (a0:Ty.d aA)
def K0:Ex→St→Rs:=fc (E k) (eK (E k) Tryz.f26 (C k) (a0,())) [.blk 0,.code (gU Tryz.f26 4 15)]
def V0 (n0:Nat):T0:=fun x0 x1 x2 x3 x4 x5 x6 x7=>cT (di (E k) (gU Tryz.f26 7 23)) (cE 0 [1,3,23,24,25]) (K0 k a0) n0 (mk 69 1 [(1,.ptr 0 0 0),(3,.int .i64 x0),(23,.sl true aF x1),(24,.int .i64 x2),(25,.int .i64 x3)] [(0,.box [.sl true aF x4,.int .i64 x5,.int .i64 x6,.bool x7])])
theorem e0:V0 k a0=l0 k:=bE (b:=b0 k) rfl (fun _=>by kernel_rfl) fun _=>rfl
end
theorem ctr:Cp 26 (C k):=ry (D k) (E:=E k) rfl rfl Tryz.func26 rfl fun ⟨a0,_⟩=>(show _=t k (V0 k a0 k) a0 by kernel_rfl).trans (by rw [e0];rfl)
end am
namespace bV
def C:Cn:=⟨[.val aA,.val .str],[(.int .i64)],true,false,fun x=>f k x.1 x.2.1⟩
def E:ku:=en [] [(2,[1,8,9,10])] 0 [] k
section
variable (a0:Ty.d aA) (a1:ByteArray)
def K0:Ex→St→Rs:=fc (E k) (eK (E k) Tryz.f41 (C k) (a0,a1,())) [.blk 0,.code (gU Tryz.f41 2 3)]
def V0 (n0:Nat):T0:=fun x0 x1 x2 x3=>cT (di (E k) (gU Tryz.f41 5 5)) (cE 0 [1,8,9,10]) (K0 k a0 a1) n0 (mk 21 0 [(1,.str x0),(8,.sl true aF x1),(9,.int .i64 x2),(10,.int .i64 x3)] [])
theorem e0:V0 k a0 a1=l0 k:=bE (b:=b0 k) rfl (fun _=>by kernel_rfl) fun _=>rfl
end
theorem ctr:Cp 41 (C k):=ry [] (E:=E k) rfl rfl Tryz.func41 rfl fun ⟨a0,a1,_⟩=>(show _=t k (V0 k a0 a1 k) a0 a1 by kernel_rfl).trans (by rw [e0];rfl)
end bV
namespace bh
def C:Cn:=⟨[.val aA,.val .str],[.str,.bool],true,false,fun x=>f k x.1 x.2.1⟩
def D:List Ce:=[q (bV.ctr k),q (am.ctr k)]
theorem ctr:Cp 27 (C k):=rz k rfl (D k) Tryz.func27 rfl fun _=>by kernel_rfl
end bh
namespace co
def C:Cn:=⟨[.val .str],[(.int .i64),(.int .i64)],true,false,fun x=>f k x.1⟩
def E:ku:=en [] [(3,[0,4,5])] 0 [] k
section
variable (a0:ByteArray)
def K0:Ex→St→Rs:=fc (E k) (eK (E k) Tryz.f122 (C k) (a0,())) [.blk 0,.code (gU Tryz.f122 3 7)]
def V0 (n0:Nat):T0:=fun x0 x1 x2=>cT (di (E k) (gU Tryz.f122 6 11)) (cE 0 [0,4,5]) (K0 k a0) n0 (mk 39 0 [(0,.str x0),(4,.int .i64 x1),(5,.int .i64 x2)] [])
theorem e0:V0 k a0=l0 k:=bE (b:=b0 k) rfl (fun _=>by kernel_rfl) fun _=>rfl
end
theorem ctr:Cp 122 (C k):=ry [] (E:=E k) rfl rfl Tryz.func122 rfl fun ⟨a0,_⟩=>(show _=t k (V0 k a0 k) a0 by kernel_rfl).trans (by rw [e0];rfl)
end co
namespace fS
def C:Cn:=⟨[.val (.int .i64)],[.str],true,false,fun x=>f k x.1⟩
def D:List Ce:=[q (aa.ctr k)]
def E:ku:=en (D k) [(4,[0,3])] 0 [] k
section
variable (a0:Int)
def K0:Ex→St→Rs:=fc (E k) (eK (E k) Tryz.f170 (C k) (a0,())) [.blk 0,.code (gU Tryz.f170 4 15)]
def V0 (n0:Nat):T0:=fun x0 x1=>cT (di (E k) (gU Tryz.f170 6 7)) (cE 0 [0,3]) (K0 k a0) n0 (mk 24 1 [(0,.int .i64 x0),(3,.ref 0)] [(0,.own false (.int .u8) x1)])
theorem e0:V0 k a0=l0 k:=bE (b:=b0 k) rfl (fun _=>by kernel_rfl) fun _=>rfl
end
theorem ctr:Cp 170 (C k):=ry (D k) (E:=E k) rfl rfl Tryz.func170 rfl fun ⟨a0,_⟩=>(show _=t k (V0 k a0 k) a0 by kernel_rfl).trans (by rw [e0];rfl)
end fS
namespace du
def C:Cn:=⟨[.val .str],[.str],true,false,fun x=>f k x.1⟩
def D:List Ce:=[q (fS.ctr k)]
theorem ctr:Cp 161 (C k):=rz k rfl (D k) Tryz.func161 rfl fun _=>by kernel_rfl
end du
namespace gN
def C:Cn:=⟨[.val .str],[(.int .i64)],true,false,fun x=>f k x.1⟩
def E:ku:=en [] [(3,[0,3,4]),(7,[0,3,4,18])] 0 [] k
section
variable (a0:ByteArray)
def K0:Ex→St→Rs:=fc (E k) (eK (E k) Tryz.f163 (C k) (a0,())) [.blk 0,.code (gU Tryz.f163 3 7)]
def B0 (n0:Nat):Ex→St→Rs:=Tw (E k) (gU Tryz.f163 6 11) 0 [0,3,4] (K0 k a0) n0
def K1 (n0:Nat):Ex→St→Rs:=fc (E k) (B0 k a0 n0) [.blk 2,.blk 1,.code (gU Tryz.f163 8 203)]
def V0 (n0:Nat):T0:=fun x0 x1 x2=>cT (di (E k) (gU Tryz.f163 6 11)) (cE 0 [0,3,4]) (K0 k a0) n0 (mk 32 0 [(0,.str x0),(3,.int .u32 x1),(4,.int .i64 x2)] [])
def V1 (n0 n1:Nat):T1:=fun x0 x1 x2 x3=>cT (di (E k) (gU Tryz.f163 13 1611)) (cE 0 [0,3,4,18]) (K1 k a0 n0) n1 (mk 32 0 [(0,.str x0),(3,.int .u32 x1),(4,.int .i64 x2),(18,.int .i64 x3)] [])
theorem e1 (n0:Nat):V1 k a0 n0=l1 k (V0 k a0 n0):=bE (b:=b1 k (V0 k a0 n0)) rfl (fun _=>by kernel_rfl) fun _=>rfl
theorem e0 (n0:Nat):V0 k a0 n0=l0 k n0:=by
 induction n0 with
 | zero=>rfl
 | succ n0 ih =>
  have h:V0 k a0 (n0+1)=b0 k (V1 k a0 n0 k) (V0 k a0 n0):=by kernel_rfl
  rw [h,e1,ih];rfl
end
theorem ctr:Cp 163 (C k):=ry [] (E:=E k) rfl rfl Tryz.func163 rfl fun ⟨a0,_⟩=>(show _=t k (V0 k a0 k) a0 by kernel_rfl).trans (by rw [e0];rfl)
end gN
namespace dV
def C:Cn:=⟨[.val (.int .i64),.val (.int .i64)],[.str],true,false,fun x=>f k x.1 x.2.1⟩
def D:List Ce:=[q (aa.ctr k)]
def E:ku:=en (D k) [(5,[0,5,6])] 0 [] k
section
variable (a0:Int) (a1:Int)
def K0:Ex→St→Rs:=fc (E k) (eK (E k) Tryz.f162 (C k) (a0,a1,())) [.blk 0,.code (gU Tryz.f162 4 15)]
def V0 (n0:Nat):T0:=fun x0 x1 x2=>cT (di (E k) (gU Tryz.f162 7 23)) (cE 0 [0,5,6]) (K0 k a0 a1) n0 (mk 35 1 [(0,.int .i64 x0),(5,.ref 0),(6,.int .i64 x1)] [(0,.own false (.int .u8) x2)])
theorem e0:V0 k a0 a1=l0 k:=bE (b:=b0 k) rfl (fun _=>by kernel_rfl) fun _=>rfl
end
theorem ctr:Cp 162 (C k):=ry (D k) (E:=E k) rfl rfl Tryz.func162 rfl fun ⟨a0,a1,_⟩=>(show _=t k (V0 k a0 a1 k) a0 a1 by kernel_rfl).trans (by rw [e0];rfl)
end dV
namespace gf
def C:Cn:=⟨[.val .str],[.str],true,false,fun x=>f k x.1⟩
def D:List Ce:=[q (du.ctr k),q (gN.ctr k),q (dV.ctr k)]
theorem ctr:Cp 123 (C k):=rz k rfl (D k) Tryz.func123 rfl fun _=>by kernel_rfl
end gf
namespace dZ
def C:Cn:=⟨[.val .str],[.str,(.int .i64)],true,false,fun x=>f k x.1⟩
def D:List Ce:=[q (co.ctr k),q (gf.ctr k)]
theorem ctr:Cp 70 (C k):=rz k rfl (D k) Tryz.func70 rfl fun _=>by kernel_rfl
end dZ
namespace aJ
def C:Cn:=⟨[.io true 0 mR],[(.int .i64)],true,false,fun x=>f k x.1⟩
def D:List Ce:=[q (co.ctr k)]
theorem ctr:Cp 71 (C k):=rz k rfl (D k) Tryz.func71 rfl fun _=>by kernel_rfl
end aJ
namespace cw
def C:Cn:=⟨[.val cC],[.bool],true,false,fun x=>f k x.1⟩
def D:List Ce:=[q (aa.ctr k)]
def E:ku:=en (D k) [(2,[1,6,7,8])] 0 [] k
section
variable (a0:Ty.d cC)
def K0:Ex→St→Rs:=fc (E k) (eK (E k) Tryz.f72 (C k) (a0,())) [.blk 0,.code (gU Tryz.f72 2 3)]
def V0 (n0:Nat):T0:=fun x0 x1 x2 x3 x4=>cT (di (E k) (gU Tryz.f72 5 5)) (cE 0 [1,6,7,8]) (K0 k a0) n0 (mk 43 1 [(1,.ptr 0 0 0),(6,.sl true (.int .i64) x0),(7,.int .i64 x1),(8,.int .i64 x2)] [(0,.box [.int .i64 x3,.sl true (.int .i64) x4])])
theorem e0:V0 k a0=l0 k:=bE (b:=b0 k) rfl (fun _=>by kernel_rfl) fun _=>rfl
end
theorem ctr:Cp 72 (C k):=ry (D k) (E:=E k) rfl rfl Tryz.func72 rfl fun ⟨a0,_⟩=>(show _=t k (V0 k a0 k) a0 by kernel_rfl).trans (by rw [e0];rfl)
end cw
namespace ax
def C:Cn:=⟨[.val .str],[cC,.bool],true,false,fun x=>f k x.1⟩
def D:List Ce:=[q (dZ.ctr k),q (aJ.ctr k),q (cw.ctr k)]
def E:ku:=en (D k) [(6,[0,2,5,6,7,8,9])] 0 [] k
section
variable (a0:ByteArray)
def K0:Ex→St→Rs:=fc (E k) (eK (E k) Tryz.f42 (C k) (a0,())) [.blk 0,.code (gU Tryz.f42 6 63)]
def V0 (n0:Nat):T0:=fun x0 x1 x2 x3 x4 x5 x6 x7 x8 x9=>cT (di (E k) (gU Tryz.f42 9 95)) (cE 0 [0,2,5,6,7,8,9]) (K0 k a0) n0 (mk 72 5 [(0,.str x0),(2,.ptr 0 0 0),(5,.int .i64 x1),(6,.ptr 2 0 0),(7,.ptr 3 0 0),(8,.int .i64 x2),(9,.int .i64 x3)] [(1,.own false (.int .i64) x4),(0,.box [.int .i64 x5,.ref 1]),(2,.box [.str x6,.bool x7]),(4,.own false (.int .i64) x8),(3,.box [.int .i64 x9,.ref 4])])
theorem e0:V0 k a0=l0 k:=bE (b:=b0 k) rfl (fun _=>by kernel_rfl) fun _=>rfl
end
theorem ctr:Cp 42 (C k):=ry (D k) (E:=E k) rfl rfl Tryz.func42 rfl fun ⟨a0,_⟩=>(show _=t k (V0 k a0 k) a0 by kernel_rfl).trans (by rw [e0];rfl)
end ax
namespace lf
def C:Cn:=⟨[.val (.int .i64)],[.str],true,false,fun x=>f k x.1⟩
def D:List Ce:=[q (nN.ctr k)]
theorem ctr:Cp 18 (C k):=rz k rfl (D k) Tryz.func18 rfl fun _=>by kernel_rfl
end lf
namespace jg
def C:Cn:=⟨[.val .str,.val (.int .i64)],[.str],true,false,fun x=>f k x.1 x.2.1⟩
def D:List Ce:=[q (aa.ctr k),q (lf.ctr k)]
theorem ctr:Cp 75 (C k):=rz k rfl (D k) Tryz.func75 rfl fun _=>by kernel_rfl
end jg
namespace ai
def C:Cn:=⟨[.val (.int .i64)],[.str],true,false,fun x=>f k x.1⟩
def D:List Ce:=[q (jg.ctr k)]
theorem ctr:Cp 44 (C k):=rz k rfl (D k) Tryz.func44 rfl fun _=>by kernel_rfl
end ai
namespace ar
def C:Cn:=⟨[.io true 0 mR,.val (.int .i64)],[.str],true,false,fun x=>f k x.1 x.2.1⟩
theorem ctr:Cp 126 (C k):=rz k rfl [] Tryz.func126 rfl fun _=>by kernel_rfl
end ar
namespace ah
def C:Cn:=⟨[.io true 0 mR],[.str],true,false,fun x=>f k x.1⟩
def D:List Ce:=[q (aJ.ctr k),q (ar.ctr k)]
theorem ctr:Cp 127 (C k):=rz k rfl (D k) Tryz.func127 rfl fun _=>by kernel_rfl
end ah
namespace dU
def C:Cn:=⟨[.val .str],[.bool],true,false,fun x=>f k x.1⟩
def D:List Ce:=[q (aa.ctr k)]
theorem ctr:Cp 101 (C k):=rz k rfl (D k) Tryz.func101 rfl fun _=>by kernel_rfl
end dU
namespace gM
def C:Cn:=⟨[.val bQ],[.bool],true,false,fun x=>f k x.1⟩
def D:List Ce:=[q (dU.ctr k),q (aa.ctr k)]
theorem ctr:Cp 165 (C k):=rz k rfl (D k) Tryz.func165 rfl fun _=>by kernel_rfl
end gM
namespace bu
def C:Cn:=⟨[.val .str,.val (.int .i64)],[(.int .i64),.bool],true,false,fun x=>f k x.1 x.2.1⟩
def D:List Ce:=[q (aa.ctr k)]
def E:ku:=en (D k) [(5,[0,6,17,18])] 0 [] k
section
variable (a0:ByteArray) (a1:Int)
def K0:Ex→St→Rs:=fc (E k) (eK (E k) Tryz.f164 (C k) (a0,a1,())) [.blk 0,.code (gU Tryz.f164 4 15)]
def V0 (n0:Nat):T0:=fun x0 x1 x2 x3=>cT (di (E k) (gU Tryz.f164 7 23)) (cE 0 [0,6,17,18]) (K0 k a0 a1) n0 (mk 30 0 [(0,.str x0),(6,.int .i64 x1),(17,.int .i64 x2),(18,.int .i64 x3)] [])
theorem e0:V0 k a0 a1=l0 k:=bE (b:=b0 k) rfl (fun _=>by kernel_rfl) fun _=>rfl
end
theorem ctr:Cp 164 (C k):=ry (D k) (E:=E k) rfl rfl Tryz.func164 rfl fun ⟨a0,a1,_⟩=>(show _=t k (V0 k a0 a1 k) a0 a1 by kernel_rfl).trans (by rw [e0];rfl)
end bu
namespace cm
def C:Cn:=⟨[.val .str],[bQ,.bool],true,false,fun x=>f k x.1⟩
def D:List Ce:=[q (aJ.ctr k),q (ah.ctr k),q (gM.ctr k),q (ar.ctr k),q (bu.ctr k)]
theorem ctr:Cp 124 (C k):=rz k rfl (D k) Tryz.func124 rfl fun _=>by kernel_rfl
end cm
namespace cu
def C:Cn:=⟨[.val .str],[(.slice cX),(.int .i64)],true,false,fun x=>f k x.1⟩
def D:List Ce:=[q (dZ.ctr k),q (cm.ctr k)]
def E:ku:=en (D k) [(3,[0,4,5])] 0 [] k
section
variable (a0:ByteArray)
def K0:Ex→St→Rs:=fc (E k) (eK (E k) Tryz.f73 (C k) (a0,())) [.blk 0]
def V0 (n0:Nat):T0:=fun x0 x1 x2=>cT (di (E k) (gU Tryz.f73 5 7)) (cE 0 [0,4,5]) (K0 k a0) n0 (mk 40 1 [(0,.str x0),(4,.ref 0),(5,.int .i64 x1)] [(0,.own false cX x2)])
theorem e0:V0 k a0=l0 k:=bE (b:=b0 k) rfl (fun _=>by kernel_rfl) fun _=>rfl
end
theorem ctr:Cp 73 (C k):=ry (D k) (E:=E k) rfl rfl Tryz.func73 rfl fun ⟨a0,_⟩=>(show _=t k (V0 k a0 k) a0 by kernel_rfl).trans (by rw [e0];rfl)
end cu
namespace eO
def C:Cn:=⟨[.val (.int .i64),.val (.slice cX)],[(.slice aI)],true,false,fun x=>f k x.1 x.2.1⟩
def E:ku:=en [] [(3,[0,5,8,9,10])] 0 [] k
section
variable (a0:Int) (a1:List (Ty.d cX))
def K0:Ex→St→Rs:=fc (E k) (eK (E k) Tryz.f74 (C k) (a0,a1,())) [.blk 0,.code (gU Tryz.f74 3 7)]
def V0 (n0:Nat):T0:=fun x0 x1 x2 x3 x4=>cT (di (E k) (gU Tryz.f74 6 11)) (cE 0 [0,5,8,9,10]) (K0 k a0 a1) n0 (mk 27 1 [(0,.int .i64 x0),(5,.ref 0),(8,.sl true cX x1),(9,.int .i64 x2),(10,.int .i64 x3)] [(0,.own false aI x4)])
theorem e0:V0 k a0 a1=l0 k:=bE (b:=b0 k) rfl (fun _=>by kernel_rfl) fun _=>rfl
end
theorem ctr:Cp 74 (C k):=ry [] (E:=E k) rfl rfl Tryz.func74 rfl fun ⟨a0,a1,_⟩=>(show _=t k (V0 k a0 a1 k) a0 a1 by kernel_rfl).trans (by rw [e0];rfl)
end eO
namespace bJ
def C:Cn:=⟨[.io true 0 aj,.val cC],[(.slice (.slice aI)),(.int .i64),.bool],true,false,fun x=>f k x.1 x.2.1⟩
def D:List Ce:=[q (ai.ctr k),q (bh.ctr k),q (cu.ctr k),q (eO.ctr k)]
def E:ku:=en (D k) [(4,[0,3,7,8,16,17,18])] 1 [] k
section
variable (a0:Ty.d aj) (a1:Ty.d cC)
def K0:Ex→St→Rs:=fc (E k) (eK (E k) Tryz.f43 (C k) (a0,a1,())) [.blk 0,.code (gU Tryz.f43 4 15)]
def V0 (n0:Nat):T0:=fun x0 x1 x2 x3 x4 x5 x6 x7 x8 x9 x10 x11=>cT (di (E k) (gU Tryz.f43 7 23)) (cE 1 [0,3,7,8,16,17,18]) (K0 k a0 a1) n0 (mk 64 4 [(0,.ptr 0 0 0),(3,.ptr 2 0 0),(7,.ref 3),(8,.int .i64 x0),(16,.sl true (.int .i64) x1),(17,.int .i64 x2),(18,.int .i64 x3)] [(1,.own false aF x4),(0,.box [.ref 1,.int .i64 x5,.int .i64 x6,.bool x7,.int .i64 x8]),(2,.box [.int .i64 x9,.sl true (.int .i64) x10]),(3,.own false (.slice aI) x11)])
theorem e0:V0 k a0 a1=l0 k:=bE (b:=b0 k) rfl (fun _=>by kernel_rfl) fun _=>rfl
end
theorem ctr:Cp 43 (C k):=ry (D k) (E:=E k) rfl rfl Tryz.func43 rfl fun ⟨a0,a1,_⟩=>(show _=t k (V0 k a0 a1 k) a0 a1 by kernel_rfl).trans (by rw [e0];rfl)
end bJ
namespace eF
def C:Cn:=⟨[.io true 0 aA,.io true 0 .str,.io true 0 (.int .i64)],[(.int .i64)],true,false,fun x=>f k x.1 x.2.1 x.2.2.1⟩
def D:List Ce:=[q (bV.ctr k),q (aa.ctr k)]
theorem ctr:Cp 78 (C k):=rz k rfl (D k) Tryz.func78 rfl fun _=>by kernel_rfl
end eF
namespace f_
def C:Cn:=⟨[.val aA,.fn 78 2,.io true 0 .str,.io true 0 (.int .i64)],[aA,(.int .i64)],true,false,fun x=>f k x.1 x.2.1 x.2.2.1⟩
def D:List Ce:=[q (az.ctr k),q (am.ctr k),q (eF.ctr k)]
theorem ctr:Cp 77 (C k):=rz k rfl (D k) Tryz.func77 rfl fun _=>by kernel_rfl
end f_
namespace ir
def C:Cn:=⟨[.val aA,.val .str,.val (.int .i64)],[aA,(.int .i64)],true,false,fun x=>f k x.1 x.2.1 x.2.2.1⟩
def D:List Ce:=[q (f_.ctr k)]
theorem ctr:Cp 46 (C k):=rz k rfl (D k) Tryz.func46 rfl fun _=>by kernel_rfl
end ir
namespace mK
def C:Cn:=⟨[.val (.int .i64)],[(.int .i64)],true,false,fun x=>f k x.1⟩
theorem ctr:Cp 76 (C k):=rz k rfl [] Tryz.func76 rfl fun _=>by kernel_rfl
end mK
namespace aw
def C:Cn:=⟨[.io true 0 aj,.give aA,.val (.int .i64)],[],true,false,fun x=>f k x.1 x.2.1 x.2.2.1⟩
def D:List Ce:=[q (mK.ctr k)]
theorem ctr:Cp 45 (C k):=rz k rfl (D k) Tryz.func45 rfl fun _=>by kernel_rfl
end aw
namespace iO
def C:Cn:=⟨[.io true 0 aA,.io true 0 .str],[(.int .i64)],true,false,fun x=>f k x.1 x.2.1⟩
def D:List Ce:=[q (bV.ctr k)]
theorem ctr:Cp 125 (C k):=rz k rfl (D k) Tryz.func125 rfl fun _=>by kernel_rfl
end iO
namespace iC
def C:Cn:=⟨[.val aA,.fn 125 1,.io true 0 .str],[aA,(.int .i64)],true,false,fun x=>f k x.1 x.2.1⟩
def D:List Ce:=[q (az.ctr k),q (am.ctr k),q (iO.ctr k)]
theorem ctr:Cp 77 (C k):=rz k rfl (D k) Tryz.func77 rfl fun _=>by kernel_rfl
end iC
namespace mD
def C:Cn:=⟨[.val aA,.val .str],[aA,(.int .i64)],true,false,fun x=>f k x.1 x.2.1⟩
def D:List Ce:=[q (iC.ctr k)]
theorem ctr:Cp 79 (C k):=rz k rfl (D k) Tryz.func79 rfl fun _=>by kernel_rfl
end mD
namespace bM
def C:Cn:=⟨[.io true 0 aj,.val .str],[],true,false,fun x=>f k x.1 x.2.1⟩
def D:List Ce:=[q (mD.ctr k),q (aw.ctr k)]
theorem ctr:Cp 47 (C k):=rz k rfl (D k) Tryz.func47 rfl fun _=>by kernel_rfl
end bM
namespace dF
def C:Cn:=⟨[.val (.int .i64)],[.str],true,false,fun x=>f k x.1⟩
def D:List Ce:=[q (jg.ctr k)]
theorem ctr:Cp 80 (C k):=rz k rfl (D k) Tryz.func80 rfl fun _=>by kernel_rfl
end dF
namespace dy
def C:Cn:=⟨[.val (.slice aB)],[.bool],true,false,fun x=>f k x.1⟩
def D:List Ce:=[q (dU.ctr k),q (aa.ctr k)]
def E:ku:=en (D k) [(2,[0,5,6,7])] 0 [] k
section
variable (a0:List (Ty.d aB))
def K0:Ex→St→Rs:=fc (E k) (eK (E k) Tryz.f95 (C k) (a0,())) [.blk 0,.code (gU Tryz.f95 2 3)]
def V0 (n0:Nat):T0:=fun x0 x1 x2 x3=>cT (di (E k) (gU Tryz.f95 5 5)) (cE 0 [0,5,6,7]) (K0 k a0) n0 (mk 58 0 [(0,.sl true aB x0),(5,.sl true aB x1),(6,.int .i64 x2),(7,.int .i64 x3)] [])
theorem e0:V0 k a0=l0 k:=bE (b:=b0 k) rfl (fun _=>by kernel_rfl) fun _=>rfl
end
theorem ctr:Cp 95 (C k):=ry (D k) (E:=E k) rfl rfl Tryz.func95 rfl fun ⟨a0,_⟩=>(show _=t k (V0 k a0 k) a0 by kernel_rfl).trans (by rw [e0];rfl)
end dy
namespace dw
def C:Cn:=⟨[.val ic],[.bool],true,false,fun x=>f k x.1⟩
def D:List Ce:=[q (aa.ctr k),q (dy.ctr k)]
def E:ku:=en (D k) [(2,[1,6,7,8])] 0 [] k
section
variable (a0:Ty.d ic)
def K0:Ex→St→Rs:=fc (E k) (eK (E k) Tryz.f128 (C k) (a0,())) [.blk 0,.code (gU Tryz.f128 2 3)]
def V0 (n0:Nat):T0:=fun x0 x1 x2 x3 x4 x5=>cT (di (E k) (gU Tryz.f128 5 5)) (cE 0 [1,6,7,8]) (K0 k a0) n0 (mk 39 1 [(1,.ptr 0 0 0),(6,.sl true aB x0),(7,.int .i64 x1),(8,.int .i64 x2)] [(0,.box [.int .i64 x3,.int .i64 x4,.sl true aB x5])])
theorem e0:V0 k a0=l0 k:=bE (b:=b0 k) rfl (fun _=>by kernel_rfl) fun _=>rfl
end
theorem ctr:Cp 128 (C k):=ry (D k) (E:=E k) rfl rfl Tryz.func128 rfl fun ⟨a0,_⟩=>(show _=t k (V0 k a0 k) a0 by kernel_rfl).trans (by rw [e0];rfl)
end dw
namespace dM
def C:Cn:=⟨[.val (.slice (.int .i64))],[.str],true,false,fun x=>f k x.1⟩
def D:List Ce:=[q (fS.ctr k)]
def E:ku:=en (D k) [(3,[3,6,7,8])] 0 [] k
section
variable (a0:List Int)
def K0:Ex→St→Rs:=fc (E k) (eK (E k) Tryz.f142 (C k) (a0,())) [.blk 0,.code (gU Tryz.f142 3 7)]
def V0 (n0:Nat):T0:=fun x0 x1 x2 x3=>cT (di (E k) (gU Tryz.f142 6 11)) (cE 0 [3,6,7,8]) (K0 k a0) n0 (mk 18 0 [(3,.str x0),(6,.sl true (.int .i64) x1),(7,.int .i64 x2),(8,.int .i64 x3)] [])
theorem e0:V0 k a0=l0 k:=bE (b:=b0 k) rfl (fun _=>by kernel_rfl) fun _=>rfl
end
theorem ctr:Cp 142 (C k):=ry (D k) (E:=E k) rfl rfl Tryz.func142 rfl fun ⟨a0,_⟩=>(show _=t k (V0 k a0 k) a0 by kernel_rfl).trans (by rw [e0];rfl)
end dM
namespace cv
def C:Cn:=⟨[.val ic],[.str],true,false,fun x=>f k x.1⟩
def D:List Ce:=[q (dw.ctr k),q (dM.ctr k),q (du.ctr k),q (gN.ctr k),q (dV.ctr k)]
def E:ku:=en (D k) [(5,[3,19,20,21])] 0 [] k
section
variable (a0:Ty.d ic)
def K0:Ex→St→Rs:=fc (E k) (eK (E k) Tryz.f129 (C k) (a0,())) [.blk 0,.code (gU Tryz.f129 4 15)]
def V0 (n0:Nat):T0:=fun x0 x1 x2 x3=>cT (di (E k) (gU Tryz.f129 7 23)) (cE 0 [3,19,20,21]) (K0 k a0) n0 (mk 47 0 [(3,.str x0),(19,.sl true aB x1),(20,.int .i64 x2),(21,.int .i64 x3)] [])
theorem e0:V0 k a0=l0 k:=bE (b:=b0 k) rfl (fun _=>by kernel_rfl) fun _=>rfl
end
theorem ctr:Cp 129 (C k):=ry (D k) (E:=E k) rfl rfl Tryz.func129 rfl fun ⟨a0,_⟩=>(show _=t k (V0 k a0 k) a0 by kernel_rfl).trans (by rw [e0];rfl)
end cv
namespace ay
def C:Cn:=⟨[.val .str],[ic,.bool],true,false,fun x=>f k x.1⟩
def D:List Ce:=[q (ar.ctr k),q (aJ.ctr k),q (ah.ctr k),q (dw.ctr k),q (cv.ctr k)]
def E:ku:=en (D k) [(8,[0,2,4,5,6,7])] 0 [] k
section
variable (a0:ByteArray)
def K0:Ex→St→Rs:=fc (E k) (eK (E k) Tryz.f81 (C k) (a0,())) [.blk 0,.code (gU Tryz.f81 8 255)]
def V0 (n0:Nat):T0:=fun x0 x1 x2 x3 x4 x5 x6 x7 x8 x9 x10=>cT (di (E k) (gU Tryz.f81 11 383)) (cE 0 [0,2,4,5,6,7]) (K0 k a0) n0 (mk 72 5 [(0,.str x0),(2,.ptr 0 0 0),(4,.ptr 2 0 0),(5,.ptr 3 0 0),(6,.int .i64 x1),(7,.int .i64 x2)] [(1,.own false aB x3),(0,.box [.int .i64 x4,.int .i64 x5,.ref 1]),(2,.box [.str x6,.bool x7]),(4,.own false aB x8),(3,.box [.int .i64 x9,.int .i64 x10,.ref 4])])
theorem e0:V0 k a0=l0 k:=bE (b:=b0 k) rfl (fun _=>by kernel_rfl) fun _=>rfl
end
theorem ctr:Cp 81 (C k):=ry (D k) (E:=E k) rfl rfl Tryz.func81 rfl fun ⟨a0,_⟩=>(show _=t k (V0 k a0 k) a0 by kernel_rfl).trans (by rw [e0];rfl)
end ay
namespace g6
def C:Cn:=⟨[.val bQ],[.str],true,false,fun x=>f k x.1⟩
def D:List Ce:=[q (gM.ctr k),q (dM.ctr k),q (du.ctr k),q (fS.ctr k),q (dV.ctr k)]
theorem ctr:Cp 144 (C k):=rz k rfl (D k) Tryz.func144 rfl fun _=>by kernel_rfl
end g6
namespace gC
def C:Cn:=⟨[.val (.slice bQ)],[(.int .i64)],true,false,fun x=>f k x.1⟩
def D:List Ce:=[q (g6.ctr k),q (gN.ctr k)]
def E:ku:=en (D k) [(3,[3,6,7,8])] 0 [] k
section
variable (a0:List (Ty.d bQ))
def K0:Ex→St→Rs:=fc (E k) (eK (E k) Tryz.f132 (C k) (a0,())) [.blk 0,.code (gU Tryz.f132 3 7)]
def V0 (n0:Nat):T0:=fun x0 x1 x2 x3=>cT (di (E k) (gU Tryz.f132 6 11)) (cE 0 [3,6,7,8]) (K0 k a0) n0 (mk 19 0 [(3,.str x0),(6,.sl true bQ x1),(7,.int .i64 x2),(8,.int .i64 x3)] [])
theorem e0:V0 k a0=l0 k:=bE (b:=b0 k) rfl (fun _=>by kernel_rfl) fun _=>rfl
end
theorem ctr:Cp 132 (C k):=ry (D k) (E:=E k) rfl rfl Tryz.func132 rfl fun ⟨a0,_⟩=>(show _=t k (V0 k a0 k) a0 by kernel_rfl).trans (by rw [e0];rfl)
end gC
namespace gw
def C:Cn:=⟨[.val bQ,.val (.slice aI)],[.bool],true,false,fun x=>f k x.1 x.2.1⟩
def D:List Ce:=[q (gC.ctr k)]
def E:ku:=en (D k) [(3,[2,5,8,9,10])] 0 [] k
section
variable (a0:Ty.d bQ) (a1:List (Ty.d aI))
def K0:Ex→St→Rs:=fc (E k) (eK (E k) Tryz.f85 (C k) (a0,a1,())) [.blk 0,.code (gU Tryz.f85 3 7)]
def V0 (n0:Nat):T0:=fun x0 x1 x2 x3 x4 x5 x6 x7 x8 x9=>cT (di (E k) (gU Tryz.f85 6 11)) (cE 0 [2,5,8,9,10]) (K0 k a0 a1) n0 (mk 32 2 [(2,.ptr 0 0 0),(5,.ref 1),(8,.sl true aI x0),(9,.int .i64 x1),(10,.int .i64 x2)] [(0,.box [.int .i64 x3,.int .i64 x4,.str x5,.str x6,.int .i64 x7,.int .i64 x8]),(1,.own false bQ x9)])
theorem e0:V0 k a0 a1=l0 k:=bE (b:=b0 k) rfl (fun _=>by kernel_rfl) fun _=>rfl
end
theorem ctr:Cp 85 (C k):=ry (D k) (E:=E k) rfl rfl Tryz.func85 rfl fun ⟨a0,a1,_⟩=>(show _=t k (V0 k a0 a1 k) a0 a1 by kernel_rfl).trans (by rw [e0];rfl)
end gw
namespace dq
def C:Cn:=⟨[.val (.int .i64),.val .str],[ic,.bool],true,false,fun x=>f k x.1 x.2.1⟩
def D:List Ce:=[q (cu.ctr k),q (aa.ctr k),q (eO.ctr k),q (gw.ctr k)]
def E:ku:=en (D k) [(7,[0,4,6,9,67,68,69])] 0 [] k
section
variable (a0:Int) (a1:ByteArray)
def K0:Ex→St→Rs:=fc (E k) (eK (E k) Tryz.f130 (C k) (a0,a1,())) [.blk 0,.code (gU Tryz.f130 6 63)]
def V0 (n0:Nat):T0:=fun x0 x1 x2 x3 x4 x5 x6 x7 x8 x9 x10=>cT (di (E k) (gU Tryz.f130 9 95)) (cE 0 [0,4,6,9,67,68,69]) (K0 k a0 a1) n0 (mk 123 4 [(0,.int .i64 x0),(4,.ptr 0 0 0),(6,.sl false cX x1),(9,.ptr 2 0 0),(67,.sl false cX x2),(68,.int .i64 x3),(69,.int .i64 x4)] [(1,.own false aB x5),(0,.box [.int .i64 x6,.int .i64 x7,.ref 1]),(3,.own false aB x8),(2,.box [.int .i64 x9,.int .i64 x10,.ref 3])])
theorem e0:V0 k a0 a1=l0 k:=bE (b:=b0 k) rfl (fun _=>by kernel_rfl) fun _=>rfl
end
theorem ctr:Cp 130 (C k):=ry (D k) (E:=E k) rfl rfl Tryz.func130 rfl fun ⟨a0,a1,_⟩=>(show _=t k (V0 k a0 a1 k) a0 a1 by kernel_rfl).trans (by rw [e0];rfl)
end dq
namespace fR
def C:Cn:=⟨[.val (.slice aB),.val (.slice aB)],[.bool],true,false,fun x=>f k x.1 x.2.1⟩
def E:ku:=en [] [(4,[0,1,12,13])] 0 [] k
section
variable (a0:List (Ty.d aB)) (a1:List (Ty.d aB))
def K0:Ex→St→Rs:=fc (E k) (eK (E k) Tryz.f131 (C k) (a0,a1,())) [.blk 0,.code (gU Tryz.f131 3 7)]
def V0 (n0:Nat):T0:=fun x0 x1 x2 x3=>cT (di (E k) (gU Tryz.f131 6 11)) (cE 0 [0,1,12,13]) (K0 k a0 a1) n0 (mk 26 0 [(0,.sl true aB x0),(1,.sl true aB x1),(12,.int .i64 x2),(13,.int .i64 x3)] [])
theorem e0:V0 k a0 a1=l0 k:=bE (b:=b0 k) rfl (fun _=>by kernel_rfl) fun _=>rfl
end
theorem ctr:Cp 131 (C k):=ry [] (E:=E k) rfl rfl Tryz.func131 rfl fun ⟨a0,a1,_⟩=>(show _=t k (V0 k a0 a1 k) a0 a1 by kernel_rfl).trans (by rw [e0];rfl)
end fR
namespace iv
def C:Cn:=⟨[.val (.int .i64),.val .str,.val ic],[.bool],true,false,fun x=>f k x.1 x.2.1 x.2.2.1⟩
def D:List Ce:=[q (dq.ctr k),q (fR.ctr k)]
theorem ctr:Cp 82 (C k):=rz k rfl (D k) Tryz.func82 rfl fun _=>by kernel_rfl
end iv
namespace ch
def C:Cn:=⟨[.io true 0 aj,.val (.int .i64)],[jY,.bool],true,false,fun x=>f k x.1 x.2.1⟩
def D:List Ce:=[q (dF.ctr k),q (bh.ctr k),q (ay.ctr k),q (ai.ctr k),q (iv.ctr k)]
theorem ctr:Cp 48 (C k):=rz k rfl (D k) Tryz.func48 rfl fun _=>by kernel_rfl
end ch
namespace cS
def C:Cn:=⟨[.val (.slice aB)],[(.slice aB)],true,false,fun x=>f k x.1⟩
theorem ctr:Cp 83 (C k):=rz k rfl [] Tryz.func83 rfl fun _=>by kernel_rfl
end cS
namespace dC
def C:Cn:=⟨[.val (.slice aI),.val bQ],[(.slice aI)],true,false,fun x=>f k x.1 x.2.1⟩
def E:ku:=en [] [(3,[3,5,9,10,11])] 0 [] k
section
variable (a0:List (Ty.d aI)) (a1:Ty.d bQ)
def K0:Ex→St→Rs:=fc (E k) (eK (E k) Tryz.f84 (C k) (a0,a1,())) [.blk 0,.code (gU Tryz.f84 3 7)]
def V0 (n0:Nat):T0:=fun x0 x1 x2 x3 x4 x5 x6 x7 x8 x9=>cT (di (E k) (gU Tryz.f84 6 11)) (cE 0 [3,5,9,10,11]) (K0 k a0 a1) n0 (mk 62 2 [(3,.ptr 0 0 0),(5,.ref 1),(9,.sl true aI x0),(10,.int .i64 x1),(11,.int .i64 x2)] [(0,.box [.int .i64 x3,.int .i64 x4,.str x5,.str x6,.int .i64 x7,.int .i64 x8]),(1,.own false aI x9)])
theorem e0:V0 k a0 a1=l0 k:=bE (b:=b0 k) rfl (fun _=>by kernel_rfl) fun _=>rfl
end
theorem ctr:Cp 84 (C k):=ry [] (E:=E k) rfl rfl Tryz.func84 rfl fun ⟨a0,a1,_⟩=>(show _=t k (V0 k a0 a1 k) a0 a1 by kernel_rfl).trans (by rw [e0];rfl)
end dC
namespace br
def C:Cn:=⟨[.val (.slice aB),.val .str],[(.slice aB)],true,false,fun x=>f k x.1 x.2.1⟩
def E:ku:=en [] [(3,[1,5,8,9,10])] 0 [] k
section
variable (a0:List (Ty.d aB)) (a1:ByteArray)
def K0:Ex→St→Rs:=fc (E k) (eK (E k) Tryz.f133 (C k) (a0,a1,())) [.blk 0,.code (gU Tryz.f133 3 7)]
def V0 (n0:Nat):T0:=fun x0 x1 x2 x3 x4=>cT (di (E k) (gU Tryz.f133 6 11)) (cE 0 [1,5,8,9,10]) (K0 k a0 a1) n0 (mk 24 1 [(1,.str x0),(5,.ref 0),(8,.sl true aB x1),(9,.int .i64 x2),(10,.int .i64 x3)] [(0,.own false aB x4)])
theorem e0:V0 k a0 a1=l0 k:=bE (b:=b0 k) rfl (fun _=>by kernel_rfl) fun _=>rfl
end
theorem ctr:Cp 133 (C k):=ry [] (E:=E k) rfl rfl Tryz.func133 rfl fun ⟨a0,a1,_⟩=>(show _=t k (V0 k a0 a1 k) a0 a1 by kernel_rfl).trans (by rw [e0];rfl)
end br
namespace cr
def C:Cn:=⟨[.val (.slice aB),.val aB],[(.slice aB)],true,false,fun x=>f k x.1 x.2.1⟩
def D:List Ce:=[q (br.ctr k),q (cS.ctr k)]
def E:ku:=en (D k) [(3,[3,5,6])] 0 [] k
section
variable (a0:List (Ty.d aB)) (a1:Ty.d aB)
def K0:Ex→St→Rs:=fc (E k) (eK (E k) Tryz.f134 (C k) (a0,a1,())) [.blk 0,.code (gU Tryz.f134 4 15)]
def V0 (n0:Nat):T0:=fun x0 x1 x2 x3 x4 x5 x6=>cT (di (E k) (gU Tryz.f134 6 7)) (cE 0 [3,5,6]) (K0 k a0 a1) n0 (mk 38 2 [(3,.ptr 0 0 0),(5,.ref 1),(6,.int .i64 x0)] [(0,.box [.str x1,.int .i64 x2,.int .i64 x3,.int .i64 x4,.int .i64 x5]),(1,.own false aB x6)])
theorem e0:V0 k a0 a1=l0 k:=bE (b:=b0 k) rfl (fun _=>by kernel_rfl) fun _=>rfl
end
theorem ctr:Cp 134 (C k):=ry (D k) (E:=E k) rfl rfl Tryz.func134 rfl fun ⟨a0,a1,_⟩=>(show _=t k (V0 k a0 a1 k) a0 a1 by kernel_rfl).trans (by rw [e0];rfl)
end cr
namespace cG
def C:Cn:=⟨[.io true 0 jY,.val (.slice aI)],[],true,false,fun x=>f k x.1 x.2.1⟩
def D:List Ce:=[q (br.ctr k),q (cr.ctr k)]
def E:ku:=en (D k) [(1,[0,6,7,8])] 1 [] k
section
variable (a0:Ty.d jY) (a1:List (Ty.d aI))
def K0:Ex→St→Rs:=fc (E k) (eK (E k) Tryz.f86 (C k) (a0,a1,())) [.blk 0,.code (gU Tryz.f86 1 1)]
def V0 (n0:Nat):T0:=fun x0 x1 x2 x3 x4 x5=>cT (di (E k) (gU Tryz.f86 4 2)) (cE 1 [0,6,7,8]) (K0 k a0 a1) n0 (mk 58 2 [(0,.ptr 0 0 0),(6,.sl true aI x0),(7,.int .i64 x1),(8,.int .i64 x2)] [(1,.own false aB x3),(0,.box [.ref 1,.int .i64 x4,.int .i64 x5])])
theorem e0:V0 k a0 a1=l0 k:=bE (b:=b0 k) rfl (fun _=>by kernel_rfl) fun _=>rfl
end
theorem ctr:Cp 86 (C k):=ry (D k) (E:=E k) rfl rfl Tryz.func86 rfl fun ⟨a0,a1,_⟩=>(show _=t k (V0 k a0 a1 k) a0 a1 by kernel_rfl).trans (by rw [e0];rfl)
end cG
namespace dO
def C:Cn:=⟨[.val jY,.val (.slice aI)],[jY],true,false,fun x=>f k x.1 x.2.1⟩
def D:List Ce:=[q (cS.ctr k),q (dC.ctr k),q (gw.ctr k),q (cG.ctr k)]
def E:ku:=en (D k) [(3,[1,4,5,17,18,19])] 0 [] k
section
variable (a0:Ty.d jY) (a1:List (Ty.d aI))
def K0:Ex→St→Rs:=fc (E k) (eK (E k) Tryz.f49 (C k) (a0,a1,())) [.blk 0,.code (gU Tryz.f49 3 7)]
def V0 (n0:Nat):T0:=fun x0 x1 x2 x3 x4 x5 x6 x7 x8 x9=>cT (di (E k) (gU Tryz.f49 6 11)) (cE 0 [1,4,5,17,18,19]) (K0 k a0 a1) n0 (mk 77 4 [(1,.sl true aI x0),(4,.ptr 0 0 0),(5,.ptr 2 0 0),(17,.sl true aI x1),(18,.int .i64 x2),(19,.int .i64 x3)] [(1,.own false aB x4),(0,.box [.ref 1,.int .i64 x5,.int .i64 x6]),(3,.own false aB x7),(2,.box [.ref 3,.int .i64 x8,.int .i64 x9])])
theorem e0:V0 k a0 a1=l0 k:=bE (b:=b0 k) rfl (fun _=>by kernel_rfl) fun _=>rfl
end
theorem ctr:Cp 49 (C k):=ry (D k) (E:=E k) rfl rfl Tryz.func49 rfl fun ⟨a0,a1,_⟩=>(show _=t k (V0 k a0 a1 k) a0 a1 by kernel_rfl).trans (by rw [e0];rfl)
end dO
namespace lT
def C:Cn:=⟨[.val .str],[(.int .i64),.bool],true,false,fun x=>f k x.1⟩
def D:List Ce:=[q (iK.ctr k),q (bj.ctr k),q (aa.ctr k)]
theorem ctr:Cp 135 (C k):=rz k rfl (D k) Tryz.func135 rfl fun _=>by kernel_rfl
end lT
namespace gQ
def C:Cn:=⟨[.val (.slice (.int .i64)),.val (.int .i64)],[.bool],true,false,fun x=>f k x.1 x.2.1⟩
def E:ku:=en [] [(2,[1,7,8,9])] 0 [] k
section
variable (a0:List Int) (a1:Int)
def K0:Ex→St→Rs:=fc (E k) (eK (E k) Tryz.f136 (C k) (a0,a1,())) [.blk 0,.code (gU Tryz.f136 2 3)]
def V0 (n0:Nat):T0:=fun x0 x1 x2 x3=>cT (di (E k) (gU Tryz.f136 5 5)) (cE 0 [1,7,8,9]) (K0 k a0 a1) n0 (mk 17 0 [(1,.int .i64 x0),(7,.sl true (.int .i64) x1),(8,.int .i64 x2),(9,.int .i64 x3)] [])
theorem e0:V0 k a0 a1=l0 k:=bE (b:=b0 k) rfl (fun _=>by kernel_rfl) fun _=>rfl
end
theorem ctr:Cp 136 (C k):=ry [] (E:=E k) rfl rfl Tryz.func136 rfl fun ⟨a0,a1,_⟩=>(show _=t k (V0 k a0 a1 k) a0 a1 by kernel_rfl).trans (by rw [e0];rfl)
end gQ
namespace fM
def C:Cn:=⟨[.val aA,.val cC],[(.slice .str)],true,false,fun x=>f k x.1 x.2.1⟩
def D:List Ce:=[q (am.ctr k),q (lT.ctr k),q (gQ.ctr k)]
def E:ku:=en (D k) [(5,[3,5,14,15,16])] 0 [] k
section
variable (a0:Ty.d aA) (a1:Ty.d cC)
def K0:Ex→St→Rs:=fc (E k) (eK (E k) Tryz.f87 (C k) (a0,a1,())) [.blk 0,.code (gU Tryz.f87 4 15)]
def V0 (n0:Nat):T0:=fun x0 x1 x2 x3 x4 x5=>cT (di (E k) (gU Tryz.f87 7 23)) (cE 0 [3,5,14,15,16]) (K0 k a0 a1) n0 (mk 46 2 [(3,.ptr 0 0 0),(5,.ref 1),(14,.sl true aF x0),(15,.int .i64 x1),(16,.int .i64 x2)] [(0,.box [.int .i64 x3,.sl true (.int .i64) x4]),(1,.own false .str x5)])
theorem e0:V0 k a0 a1=l0 k:=bE (b:=b0 k) rfl (fun _=>by kernel_rfl) fun _=>rfl
end
theorem ctr:Cp 87 (C k):=ry (D k) (E:=E k) rfl rfl Tryz.func87 rfl fun ⟨a0,a1,_⟩=>(show _=t k (V0 k a0 a1 k) a0 a1 by kernel_rfl).trans (by rw [e0];rfl)
end fM
namespace e_
def C:Cn:=⟨[.io true 0 aA,.val .str],[],true,false,fun x=>f k x.1 x.2.1⟩
def D:List Ce:=[q (bV.ctr k)]
theorem ctr:Cp 168 (C k):=rz k rfl (D k) Tryz.func168 rfl fun _=>by kernel_rfl
end e_
namespace fm
def C:Cn:=⟨[.io true 0 aA,.io true 0 .str],[(.int .i64)],true,false,fun x=>f k x.1 x.2.1⟩
def D:List Ce:=[q (bV.ctr k),q (e_.ctr k)]
theorem ctr:Cp 167 (C k):=rz k rfl (D k) Tryz.func167 rfl fun _=>by kernel_rfl
end fm
namespace gE
def C:Cn:=⟨[.val aA,.fn 167 1,.io true 0 .str],[aA,(.int .i64)],true,false,fun x=>f k x.1 x.2.1⟩
def D:List Ce:=[q (az.ctr k),q (am.ctr k),q (fm.ctr k)]
theorem ctr:Cp 77 (C k):=rz k rfl (D k) Tryz.func77 rfl fun _=>by kernel_rfl
end gE
namespace kI
def C:Cn:=⟨[.val aA,.val .str],[aA,(.int .i64)],true,false,fun x=>f k x.1 x.2.1⟩
def D:List Ce:=[q (gE.ctr k)]
theorem ctr:Cp 137 (C k):=rz k rfl (D k) Tryz.func137 rfl fun _=>by kernel_rfl
end kI
namespace bA
def C:Cn:=⟨[.io true 0 aj,.val .str],[],true,false,fun x=>f k x.1 x.2.1⟩
def D:List Ce:=[q (bV.ctr k),q (kI.ctr k),q (aw.ctr k)]
theorem ctr:Cp 88 (C k):=rz k rfl (D k) Tryz.func88 rfl fun _=>by kernel_rfl
end bA
namespace ag
def C:Cn:=⟨[.io true 0 aj,.val cC],[],true,false,fun x=>f k x.1 x.2.1⟩
def D:List Ce:=[q (fM.ctr k),q (bA.ctr k)]
def E:ku:=en (D k) [(2,[0,11,12,13])] 1 [] k
section
variable (a0:Ty.d aj) (a1:Ty.d cC)
def K0:Ex→St→Rs:=fc (E k) (eK (E k) Tryz.f50 (C k) (a0,a1,())) [.blk 0]
def V0 (n0:Nat):T0:=fun x0 x1 x2 x3 x4 x5 x6 x7=>cT (di (E k) (gU Tryz.f50 4 3)) (cE 1 [0,11,12,13]) (K0 k a0 a1) n0 (mk 21 3 [(0,.ptr 0 0 0),(11,.ref 2),(12,.int .i64 x0),(13,.int .i64 x1)] [(1,.own false aF x2),(0,.box [.ref 1,.int .i64 x3,.int .i64 x4,.bool x5,.int .i64 x6]),(2,.own false .str x7)])
theorem e0:V0 k a0 a1=l0 k:=bE (b:=b0 k) rfl (fun _=>by kernel_rfl) fun _=>rfl
end
theorem ctr:Cp 50 (C k):=ry (D k) (E:=E k) rfl rfl Tryz.func50 rfl fun ⟨a0,a1,_⟩=>(show _=t k (V0 k a0 a1 k) a0 a1 by kernel_rfl).trans (by rw [e0];rfl)
end ag
namespace aN
def C:Cn:=⟨[.io true 0 aj,.val .str],[aC],true,false,fun x=>f k x.1 x.2.1⟩
def D:List Ce:=[q (ax.ctr k),q (bJ.ctr k),q (ai.ctr k),q (bh.ctr k),q (ir.ctr k),q (aw.ctr k),q (bM.ctr k),q (ch.ctr k),q (dO.ctr k),q (ag.ctr k)]
def E:ku:=en (D k) [(20,[0,4,5,13,14,16,103,104,105])] 1 [] k
section
variable (a0:Ty.d aj) (a1:ByteArray)
def K0:Ex→St→Rs:=fc (E k) (eK (E k) Tryz.f28 (C k) (a0,a1,())) [.blk 0,.code (gU Tryz.f28 13 8191)]
def V0 (n0:Nat):T0:=fun x0 x1 x2 x3 x4 x5 x6 x7 x8 x9 x10 x11 x12 x13 x14 x15 x16 x17 x18 x19 x20 x21 x22 x23 x24=>cT (di (E k) (gU Tryz.f28 16 12287)) (cE 1 [0,4,5,13,14,16,103,104,105]) (K0 k a0 a1) n0 (mk 134 12 [(0,.ptr 0 0 0),(4,.ptr 2 0 0),(5,.ptr 5 0 0),(13,.ptr 7 0 0),(14,.ptr 9 0 0),(16,.ref 11),(103,.sl false (.slice aI) x0),(104,.int .i64 x1),(105,.int .i64 x2)] [(1,.own false aF x3),(0,.box [.ref 1,.int .i64 x4,.int .i64 x5,.bool x6,.int .i64 x7]),(3,.own false (.int .i64) x8),(4,.own false aB x9),(2,.box [.int .i64 x10,.ref 3,.ref 4,.int .i64 x11,.int .i64 x12,.int .i64 x13]),(6,.own false (.int .i64) x14),(5,.box [.int .i64 x15,.ref 6]),(8,.own false aB x16),(7,.box [.int .i64 x17,.ref 6,.ref 8,.int .i64 x18,.int .i64 x19,.int .i64 x20]),(10,.own false aB x21),(9,.box [.ref 10,.int .i64 x22,.int .i64 x23]),(11,.own false aI x24)])
def V1 (n0:Nat):T1:=fun x0 x1 x2 x3 x4 x5 x6 x7 x8 x9 x10 x11 x12 x13 x14 x15 x16 x17 x18 x19 x20 x21 x22 x23 x24=>cT (di (E k) (gU Tryz.f28 16 12287)) (cE 1 [0,4,5,13,14,16,103,104,105]) (K0 k a0 a1) n0 (mk 134 13 [(0,.ptr 0 0 0),(4,.ptr 2 0 0),(5,.ptr 5 0 0),(13,.ptr 7 0 0),(14,.ptr 9 0 0),(16,.ref 11),(103,.ref 12),(104,.int .i64 x0),(105,.int .i64 x1)] [(1,.own false aF x2),(0,.box [.ref 1,.int .i64 x3,.int .i64 x4,.bool x5,.int .i64 x6]),(3,.own false (.int .i64) x7),(4,.own false aB x8),(2,.box [.int .i64 x9,.ref 3,.ref 4,.int .i64 x10,.int .i64 x11,.int .i64 x12]),(6,.own false (.int .i64) x13),(5,.box [.int .i64 x14,.ref 6]),(8,.own false aB x15),(7,.box [.int .i64 x16,.ref 6,.ref 8,.int .i64 x17,.int .i64 x18,.int .i64 x19]),(10,.own false aB x20),(9,.box [.ref 10,.int .i64 x21,.int .i64 x22]),(11,.own false aI x23),(12,.own false (.slice aI) x24)])
def V2 (n0:Nat):T2:=fun x0 x1 x2 x3 x4 x5 x6 x7 x8 x9 x10 x11 x12 x13 x14 x15 x16 x17 x18 x19 x20 x21 x22 x23 x24=>cT (di (E k) (gU Tryz.f28 16 12287)) (cE 1 [0,4,5,13,14,16,103,104,105]) (K0 k a0 a1) n0 (mk 134 12 [(0,.ptr 0 0 0),(4,.ptr 2 0 0),(5,.ptr 5 0 0),(13,.ptr 7 0 0),(14,.ptr 9 0 0),(16,.ref 11),(103,.sl false (.slice aI) x0),(104,.int .i64 x1),(105,.int .i64 x2)] [(1,.own false aF x3),(0,.box [.ref 1,.int .i64 x4,.int .i64 x5,.bool x6,.int .i64 x7]),(3,.own false (.int .i64) x8),(4,.own false aB x9),(2,.box [.int .i64 x10,.ref 3,.ref 4,.int .i64 x11,.int .i64 x12,.int .i64 x13]),(6,.own false (.int .i64) x14),(5,.box [.int .i64 x15,.ref 6]),(8,.own false aB x16),(7,.box [.int .i64 x17,.ref 6,.ref 8,.int .i64 x18,.int .i64 x19,.int .i64 x20]),(10,.own false aB x21),(9,.box [.ref 10,.int .i64 x22,.int .i64 x23]),(11,.own false aI x24)])
def V3 (n0:Nat):T3:=fun x0 x1 x2 x3 x4 x5 x6 x7 x8 x9 x10 x11 x12 x13 x14 x15 x16 x17 x18 x19 x20 x21 x22 x23 x24=>cT (di (E k) (gU Tryz.f28 16 12287)) (cE 1 [0,4,5,13,14,16,103,104,105]) (K0 k a0 a1) n0 (mk 134 13 [(0,.ptr 0 0 0),(4,.ptr 2 0 0),(5,.ptr 5 0 0),(13,.ptr 7 0 0),(14,.ptr 9 0 0),(16,.ref 11),(103,.ref 12),(104,.int .i64 x0),(105,.int .i64 x1)] [(1,.own false aF x2),(0,.box [.ref 1,.int .i64 x3,.int .i64 x4,.bool x5,.int .i64 x6]),(3,.own false (.int .i64) x7),(4,.own false aB x8),(2,.box [.int .i64 x9,.ref 3,.ref 4,.int .i64 x10,.int .i64 x11,.int .i64 x12]),(6,.own false (.int .i64) x13),(5,.box [.int .i64 x14,.ref 6]),(8,.own false aB x15),(7,.box [.int .i64 x16,.ref 6,.ref 8,.int .i64 x17,.int .i64 x18,.int .i64 x19]),(10,.own false aB x20),(9,.box [.ref 10,.int .i64 x21,.int .i64 x22]),(11,.own false aI x23),(12,.own false (.slice aI) x24)])
theorem e0:V0 k a0 a1=l0 k:=bE (b:=b0 k) rfl (fun _=>by kernel_rfl) fun _=>rfl
theorem e1:V1 k a0 a1=l1 k:=bE (b:=b1 k) rfl (fun _=>by kernel_rfl) fun _=>rfl
theorem e2:V2 k a0 a1=l2 k:=bE (b:=b2 k) rfl (fun _=>by kernel_rfl) fun _=>rfl
theorem e3:V3 k a0 a1=l3 k:=bE (b:=b3 k) rfl (fun _=>by kernel_rfl) fun _=>rfl
end
theorem ctr:Cp 28 (C k):=ry (D k) (E:=E k) rfl rfl Tryz.func28 rfl fun ⟨a0,a1,_⟩=>(show _=t k (V0 k a0 a1 k) (V1 k a0 a1 k) (V2 k a0 a1 k) (V3 k a0 a1 k) a0 a1 by kernel_rfl).trans (by rw [e0,e1,e2,e3];rfl)
end aN
namespace d_
def C:Cn:=⟨[.io true 0 aA,.val aF],[],true,false,fun x=>f k x.1 x.2.1⟩
def E:ku:=en [] [(2,[0,3,4])] 1 [] k
section
variable (a0:Ty.d aA) (a1:Ty.d aF)
def K0:Ex→St→Rs:=fc (E k) (eK (E k) Tryz.f139 (C k) (a0,a1,())) [.blk 0,.code (gU Tryz.f139 3 7)]
def V0 (n0:Nat):T0:=fun x0 x1 x2 x3 x4 x5 x6 x7=>cT (di (E k) (gU Tryz.f139 5 3)) (cE 1 [0,3,4]) (K0 k a0 a1) n0 (mk 47 3 [(0,.ptr 0 0 0),(3,.ptr 2 0 0),(4,.int .i64 x0)] [(1,.own false aF x1),(0,.box [.ref 1,.int .i64 x2,.int .i64 x3,.bool x4]),(2,.box [.str x5,.str x6,.int .i64 x7])])
theorem e0:V0 k a0 a1=l0 k:=bE (b:=b0 k) rfl (fun _=>by kernel_rfl) fun _=>rfl
end
theorem ctr:Cp 139 (C k):=ry [] (E:=E k) rfl rfl Tryz.func139 rfl fun ⟨a0,a1,_⟩=>(show _=t k (V0 k a0 a1 k) a0 a1 by kernel_rfl).trans (by rw [e0];rfl)
end d_
namespace fp
def C:Cn:=⟨[.io true 0 aA,.io true 0 .str],[(.int .i64)],true,false,fun x=>f k x.1 x.2.1⟩
def D:List Ce:=[q (dr.ctr k),q (bV.ctr k),q (d_.ctr k)]
theorem ctr:Cp 138 (C k):=rz k rfl (D k) Tryz.func138 rfl fun _=>by kernel_rfl
end fp
namespace gH
def C:Cn:=⟨[.val aA,.fn 138 1,.io true 0 .str],[aA,(.int .i64)],true,false,fun x=>f k x.1 x.2.1⟩
def D:List Ce:=[q (az.ctr k),q (am.ctr k),q (fp.ctr k)]
theorem ctr:Cp 77 (C k):=rz k rfl (D k) Tryz.func77 rfl fun _=>by kernel_rfl
end gH
namespace kH
def C:Cn:=⟨[.val aA,.val .str],[aA,(.int .i64)],true,false,fun x=>f k x.1 x.2.1⟩
def D:List Ce:=[q (gH.ctr k)]
theorem ctr:Cp 89 (C k):=rz k rfl (D k) Tryz.func89 rfl fun _=>by kernel_rfl
end kH
namespace dG
def C:Cn:=⟨[.io true 0 aj,.val .str],[],true,false,fun x=>f k x.1 x.2.1⟩
def D:List Ce:=[q (kH.ctr k),q (aw.ctr k)]
theorem ctr:Cp 51 (C k):=rz k rfl (D k) Tryz.func51 rfl fun _=>by kernel_rfl
end dG
namespace ip
def C:Cn:=⟨[.val cC],[.str],true,false,fun x=>f k x.1⟩
def D:List Ce:=[q (cw.ctr k),q (dM.ctr k),q (gf.ctr k)]
theorem ctr:Cp 91 (C k):=rz k rfl (D k) Tryz.func91 rfl fun _=>by kernel_rfl
end ip
namespace cV
def C:Cn:=⟨[.io true 0 aj,.val .str],[],true,false,fun x=>f k x.1 x.2.1⟩
def D:List Ce:=[q (bA.ctr k),q (dG.ctr k)]
theorem ctr:Cp 140 (C k):=rz k rfl (D k) Tryz.func140 rfl fun _=>by kernel_rfl
end cV
namespace fe
def C:Cn:=⟨[.val aA],[(.int .i64)],true,false,fun x=>f k x.1⟩
def E:ku:=en [] [(3,[3,7,8,9])] 0 [] k
section
variable (a0:Ty.d aA)
def K0:Ex→St→Rs:=fc (E k) (eK (E k) Tryz.f31 (C k) (a0,())) [.blk 0,.code (gU Tryz.f31 3 7)]
def V0 (n0:Nat):T0:=fun x0 x1 x2 x3=>cT (di (E k) (gU Tryz.f31 6 11)) (cE 0 [3,7,8,9]) (K0 k a0) n0 (mk 20 0 [(3,.int .i64 x0),(7,.sl true aF x1),(8,.int .i64 x2),(9,.int .i64 x3)] [])
theorem e0:V0 k a0=l0 k:=bE (b:=b0 k) rfl (fun _=>by kernel_rfl) fun _=>rfl
end
theorem ctr:Cp 31 (C k):=ry [] (E:=E k) rfl rfl Tryz.func31 rfl fun ⟨a0,_⟩=>(show _=t k (V0 k a0 k) a0 by kernel_rfl).trans (by rw [e0];rfl)
end fe
namespace fo
def C:Cn:=⟨[.io true 0 aA,.io true 0 .str,.io true 0 .str],[(.int .i64)],true,false,fun x=>f k x.1 x.2.1 x.2.2.1⟩
def D:List Ce:=[q (bV.ctr k),q (fe.ctr k)]
theorem ctr:Cp 182 (C k):=rz k rfl (D k) Tryz.func182 rfl fun _=>by kernel_rfl
end fo
namespace gK
def C:Cn:=⟨[.val aA,.fn 182 2,.io true 0 .str,.io true 0 .str],[aA,(.int .i64)],true,false,fun x=>f k x.1 x.2.1 x.2.2.1⟩
def D:List Ce:=[q (az.ctr k),q (am.ctr k),q (fo.ctr k)]
theorem ctr:Cp 77 (C k):=rz k rfl (D k) Tryz.func77 rfl fun _=>by kernel_rfl
end gK
namespace kE
def C:Cn:=⟨[.val aA,.val .str,.val .str],[aA,(.int .i64)],true,false,fun x=>f k x.1 x.2.1 x.2.2.1⟩
def D:List Ce:=[q (gK.ctr k)]
theorem ctr:Cp 169 (C k):=rz k rfl (D k) Tryz.func169 rfl fun _=>by kernel_rfl
end kE
namespace cJ
def C:Cn:=⟨[.io true 0 aj,.val .str,.val .str],[],true,false,fun x=>f k x.1 x.2.1 x.2.2.1⟩
def D:List Ce:=[q (kE.ctr k),q (aw.ctr k)]
theorem ctr:Cp 141 (C k):=rz k rfl (D k) Tryz.func141 rfl fun _=>by kernel_rfl
end cJ
namespace dE
def C:Cn:=⟨[.io true 0 aj,.val .str,.val .str],[],true,false,fun x=>f k x.1 x.2.1 x.2.2.1⟩
def D:List Ce:=[q (cV.ctr k),q (cJ.ctr k),q (bM.ctr k)]
theorem ctr:Cp 90 (C k):=rz k rfl (D k) Tryz.func90 rfl fun _=>by kernel_rfl
end dE
namespace ff
def C:Cn:=⟨[.io true 0 aA,.io true 0 .str,.io true 0 .str],[(.int .i64)],true,false,fun x=>f k x.1 x.2.1 x.2.2.1⟩
def D:List Ce:=[q (bV.ctr k),q (dr.ctr k),q (e_.ctr k),q (d_.ctr k)]
theorem ctr:Cp 171 (C k):=rz k rfl (D k) Tryz.func171 rfl fun _=>by kernel_rfl
end ff
namespace gI
def C:Cn:=⟨[.val aA,.fn 171 2,.io true 0 .str,.io true 0 .str],[aA,(.int .i64)],true,false,fun x=>f k x.1 x.2.1 x.2.2.1⟩
def D:List Ce:=[q (az.ctr k),q (am.ctr k),q (ff.ctr k)]
theorem ctr:Cp 77 (C k):=rz k rfl (D k) Tryz.func77 rfl fun _=>by kernel_rfl
end gI
namespace kK
def C:Cn:=⟨[.val aA,.val .str,.val .str],[aA,(.int .i64)],true,false,fun x=>f k x.1 x.2.1 x.2.2.1⟩
def D:List Ce:=[q (gI.ctr k)]
theorem ctr:Cp 143 (C k):=rz k rfl (D k) Tryz.func143 rfl fun _=>by kernel_rfl
end kK
namespace eQ
def C:Cn:=⟨[.io true 0 aj,.val .str,.val .str],[],true,false,fun x=>f k x.1 x.2.1 x.2.2.1⟩
def D:List Ce:=[q (kK.ctr k),q (aw.ctr k)]
theorem ctr:Cp 92 (C k):=rz k rfl (D k) Tryz.func92 rfl fun _=>by kernel_rfl
end eQ
namespace bx
def C:Cn:=⟨[.io true 0 aj,.val cC],[],true,false,fun x=>f k x.1 x.2.1⟩
def D:List Ce:=[q (ip.ctr k),q (dE.ctr k),q (eQ.ctr k)]
theorem ctr:Cp 52 (C k):=rz k rfl (D k) Tryz.func52 rfl fun _=>by kernel_rfl
end bx
namespace fC
def C:Cn:=⟨[.io true 0 aj],[aC],true,false,fun x=>f k x.1⟩
def D:List Ce:=[q (ag.ctr k),q (ai.ctr k),q (dG.ctr k),q (bx.ctr k)]
theorem ctr:Cp 29 (C k):=rz k rfl (D k) Tryz.func29 rfl fun _=>by kernel_rfl
end fC
namespace mF
def C:Cn:=⟨[.val aA],[aC,aA,(.int .i64)],true,false,fun x=>f k x.1⟩
def D:List Ce:=[q (az.ctr k),q (am.ctr k),q (bh.ctr k),q (aN.ctr k),q (fC.ctr k)]
theorem ctr:Cp 13 (C k):=rz k rfl (D k) Tryz.func13 rfl fun _=>by kernel_rfl
end mF
namespace dh
def C:Cn:=⟨[.val aA],[aP,(.int .i64)],true,false,fun x=>f k x.1⟩
def D:List Ce:=[q (mF.ctr k)]
theorem ctr:Cp 9 (C k):=rz k rfl (D k) Tryz.func9 rfl fun _=>by kernel_rfl
end dh
namespace j4
def C:Cn:=⟨[.val .str],[(.int .i64)],true,false,fun x=>f k x.1⟩
theorem ctr:Cp 30 (C k):=rz k rfl [] Tryz.func30 rfl fun _=>by kernel_rfl
end j4
namespace kF
def C:Cn:=⟨[.val (.slice .str)],[d5,.bool],true,false,fun x=>f k x.1⟩
def D:List Ce:=[q (j4.ctr k),q (bj.ctr k)]
theorem ctr:Cp 15 (C k):=rz k rfl (D k) Tryz.func15 rfl fun _=>by kernel_rfl
end kF
namespace dm
def C:Cn:=⟨[.val cC],[cC],true,false,fun x=>f k x.1⟩
theorem ctr:Cp 93 (C k):=rz k rfl [] Tryz.func93 rfl fun _=>by kernel_rfl
end dm
namespace df
def C:Cn:=⟨[.val aC],[aC],true,false,fun x=>f k x.1⟩
def D:List Ce:=[q (dm.ctr k),q (cS.ctr k)]
theorem ctr:Cp 53 (C k):=rz k rfl (D k) Tryz.func53 rfl fun _=>by kernel_rfl
end df
namespace dc
def C:Cn:=⟨[.val (.slice aB)],[(.slice .str)],true,false,fun x=>f k x.1⟩
def E:ku:=en [] [(3,[3,6,7,8])] 0 [] k
section
variable (a0:List (Ty.d aB))
def K0:Ex→St→Rs:=fc (E k) (eK (E k) Tryz.f33 (C k) (a0,())) [.blk 0,.code (gU Tryz.f33 3 7)]
def V0 (n0:Nat):T0:=fun x0 x1 x2 x3=>cT (di (E k) (gU Tryz.f33 6 11)) (cE 0 [3,6,7,8]) (K0 k a0) n0 (mk 19 1 [(3,.ref 0),(6,.sl true aB x0),(7,.int .i64 x1),(8,.int .i64 x2)] [(0,.own false .str x3)])
theorem e0:V0 k a0=l0 k:=bE (b:=b0 k) rfl (fun _=>by kernel_rfl) fun _=>rfl
end
theorem ctr:Cp 33 (C k):=ry [] (E:=E k) rfl rfl Tryz.func33 rfl fun ⟨a0,_⟩=>(show _=t k (V0 k a0 k) a0 by kernel_rfl).trans (by rw [e0];rfl)
end dc
namespace fH
def C:Cn:=⟨[.val (.slice aB),.val .str],[aB,.bool],true,false,fun x=>f k x.1 x.2.1⟩
def E:ku:=en [] [(2,[1,4,8,9,10])] 0 [] k
section
variable (a0:List (Ty.d aB)) (a1:ByteArray)
def K0:Ex→St→Rs:=fc (E k) (eK (E k) Tryz.f106 (C k) (a0,a1,())) [.blk 0,.code (gU Tryz.f106 2 3)]
def V0 (n0:Nat):T0:=fun x0 x1 x2 x3 x4 x5 x6 x7 x8=>cT (di (E k) (gU Tryz.f106 5 5)) (cE 0 [1,4,8,9,10]) (K0 k a0 a1) n0 (mk 21 1 [(1,.str x0),(4,.ptr 0 0 0),(8,.sl true aB x1),(9,.int .i64 x2),(10,.int .i64 x3)] [(0,.box [.str x4,.int .i64 x5,.int .i64 x6,.int .i64 x7,.int .i64 x8])])
theorem e0:V0 k a0 a1=l0 k:=bE (b:=b0 k) rfl (fun _=>by kernel_rfl) fun _=>rfl
end
theorem ctr:Cp 106 (C k):=ry [] (E:=E k) rfl rfl Tryz.func106 rfl fun ⟨a0,a1,_⟩=>(show _=t k (V0 k a0 a1 k) a0 a1 by kernel_rfl).trans (by rw [e0];rfl)
end fH
namespace jX
def C:Cn:=⟨[.val .str,.val (.int .i64),.val (.int .i64)],[bQ,.bool],true,false,fun x=>f k x.1 x.2.1 x.2.2.1⟩
def D:List Ce:=[q (aa.ctr k),q (dZ.ctr k),q (cm.ctr k)]
theorem ctr:Cp 96 (C k):=rz k rfl (D k) Tryz.func96 rfl fun _=>by kernel_rfl
end jX
namespace lg
def C:Cn:=⟨[.val aC,.val aA,.val .str],[aF,(.int .i64)],true,false,fun x=>f k x.1 x.2.1 x.2.2.1⟩
def D:List Ce:=[q (fH.ctr k),q (ai.ctr k),q (bh.ctr k),q (jX.ctr k)]
theorem ctr:Cp 94 (C k):=rz k rfl (D k) Tryz.func94 rfl fun _=>by kernel_rfl
end lg
namespace iy
def C:Cn:=⟨[.val aC,.val aA],[(.slice aF),(.int .i64)],true,false,fun x=>f k x.1 x.2.1⟩
def D:List Ce:=[q (dc.ctr k),q (lg.ctr k)]
def E:ku:=en (D k) [(3,[2,3,6,13,14,15])] 0 [] k
section
variable (a0:Ty.d aC) (a1:Ty.d aA)
def K0:Ex→St→Rs:=fc (E k) (eK (E k) Tryz.f54 (C k) (a0,a1,())) [.blk 0,.code (gU Tryz.f54 3 7)]
def V0 (n0:Nat):T0:=fun x0 x1 x2 x3 x4 x5 x6 x7 x8 x9 x10 x11 x12 x13=>cT (di (E k) (gU Tryz.f54 6 11)) (cE 0 [2,3,6,13,14,15]) (K0 k a0 a1) n0 (mk 35 4 [(2,.ptr 0 0 0),(3,.ptr 1 0 0),(6,.ref 2),(13,.ref 3),(14,.int .i64 x0),(15,.int .i64 x1)] [(0,.box [.int .i64 x2,.sl true (.int .i64) x3,.sl true aB x4,.int .i64 x5,.int .i64 x6,.int .i64 x7]),(1,.box [.sl true aF x8,.int .i64 x9,.int .i64 x10,.bool x11]),(2,.own false aF x12),(3,.own false .str x13)])
theorem e0:V0 k a0 a1=l0 k:=bE (b:=b0 k) rfl (fun _=>by kernel_rfl) fun _=>rfl
end
theorem ctr:Cp 54 (C k):=ry (D k) (E:=E k) rfl rfl Tryz.func54 rfl fun ⟨a0,a1,_⟩=>(show _=t k (V0 k a0 a1 k) a0 a1 by kernel_rfl).trans (by rw [e0];rfl)
end iy
namespace cN
def C:Cn:=⟨[.val aC,.val aA],[.bool],true,false,fun x=>f k x.1 x.2.1⟩
def D:List Ce:=[q (am.ctr k),q (cw.ctr k),q (dy.ctr k),q (aa.ctr k),q (ai.ctr k),q (bh.ctr k),q (cu.ctr k),q (jX.ctr k)]
def E:ku:=en (D k) [(4,[2,3,40,41,42]),(12,[2,3,84,85,86])] 0 [] k
section
variable (a0:Ty.d aC) (a1:Ty.d aA)
def K0:Ex→St→Rs:=fc (E k) (eK (E k) Tryz.f55 (C k) (a0,a1,())) [.blk 0,.code (gU Tryz.f55 3 7)]
def K1:Ex→St→Rs:=fc (E k) (eK (E k) Tryz.f55 (C k) (a0,a1,())) [.blk 2,.code (gU Tryz.f55 4 15)]
def V0 (n0:Nat):T0:=fun x0 x1 x2 x3 x4 x5 x6 x7 x8 x9 x10 x11 x12=>cT (di (E k) (gU Tryz.f55 6 11)) (cE 0 [2,3,40,41,42]) (K0 k a0 a1) n0 (mk 141 2 [(2,.ptr 0 0 0),(3,.ptr 1 0 0),(40,.sl true (.int .i64) x0),(41,.int .i64 x1),(42,.int .i64 x2)] [(0,.box [.int .i64 x3,.sl true (.int .i64) x4,.sl true aB x5,.int .i64 x6,.int .i64 x7,.int .i64 x8]),(1,.box [.sl true aF x9,.int .i64 x10,.int .i64 x11,.bool x12])])
def V1 (n1:Nat):T1:=fun x0 x1 x2 x3 x4 x5 x6 x7 x8 x9 x10 x11 x12=>cT (di (E k) (gU Tryz.f55 7 23)) (cE 0 [2,3,84,85,86]) (K1 k a0 a1) n1 (mk 141 2 [(2,.ptr 0 0 0),(3,.ptr 1 0 0),(84,.sl true aB x0),(85,.int .i64 x1),(86,.int .i64 x2)] [(0,.box [.int .i64 x3,.sl true (.int .i64) x4,.sl true aB x5,.int .i64 x6,.int .i64 x7,.int .i64 x8]),(1,.box [.sl true aF x9,.int .i64 x10,.int .i64 x11,.bool x12])])
theorem e1:V1 k a0 a1=l1 k:=bE (b:=b1 k) rfl (fun _=>by kernel_rfl) fun _=>rfl
theorem e0 (n0:Nat):V0 k a0 a1 n0=l0 k n0:=by
 induction n0 with
 | zero=>rfl
 | succ n0 ih =>
  have h:V0 k a0 a1 (n0+1)=b0 k (V1 k a0 a1 k) (V0 k a0 a1 n0):=by kernel_rfl
  rw [h,e1,ih];rfl
end
theorem ctr:Cp 55 (C k):=ry (D k) (E:=E k) rfl rfl Tryz.func55 rfl fun ⟨a0,a1,_⟩=>(show _=t k (V0 k a0 a1 k) a0 a1 by kernel_rfl).trans (by rw [e0];rfl)
end cN
namespace iB
def C:Cn:=⟨[.val (.slice aF),.val (.int .i64)],[(.slice bQ)],true,false,fun x=>f k x.1 x.2.1⟩
def D:List Ce:=[q (gC.ctr k)]
def E:ku:=en (D k) [(3,[0,1,5,8,9,10])] 0 [] k
section
variable (a0:List (Ty.d aF)) (a1:Int)
def K0:Ex→St→Rs:=fc (E k) (eK (E k) Tryz.f98 (C k) (a0,a1,())) [.blk 0,.code (gU Tryz.f98 3 7)]
def V0 (n0:Nat):T0:=fun x0 x1 x2 x3 x4 x5=>cT (di (E k) (gU Tryz.f98 6 11)) (cE 0 [0,1,5,8,9,10]) (K0 k a0 a1) n0 (mk 34 1 [(0,.sl true aF x0),(1,.int .i64 x1),(5,.ref 0),(8,.sl true aF x2),(9,.int .i64 x3),(10,.int .i64 x4)] [(0,.own false bQ x5)])
theorem e0:V0 k a0 a1=l0 k:=bE (b:=b0 k) rfl (fun _=>by kernel_rfl) fun _=>rfl
end
theorem ctr:Cp 98 (C k):=ry (D k) (E:=E k) rfl rfl Tryz.func98 rfl fun ⟨a0,a1,_⟩=>(show _=t k (V0 k a0 a1 k) a0 a1 by kernel_rfl).trans (by rw [e0];rfl)
end iB
namespace b7
def C:Cn:=⟨[.io true 0 aj,.val (.int .i64),.val (.slice bQ)],[(.slice aB)],true,false,fun x=>f k x.1 x.2.1 x.2.2.1⟩
def D:List Ce:=[q (ai.ctr k),q (cV.ctr k),q (g6.ctr k),q (gf.ctr k),q (cJ.ctr k),q (bM.ctr k)]
def E:ku:=en (D k) [(5,[0,1,7,8,16,17,18])] 1 [] k
section
variable (a0:Ty.d aj) (a1:Int) (a2:List (Ty.d bQ))
def K0:Ex→St→Rs:=fc (E k) (eK (E k) Tryz.f97 (C k) (a0,a1,a2,())) [.blk 0,.code (gU Tryz.f97 5 31)]
def V0 (n0:Nat):T0:=fun x0 x1 x2 x3 x4 x5 x6 x7 x8 x9 x10=>cT (di (E k) (gU Tryz.f97 8 47)) (cE 1 [0,1,7,8,16,17,18]) (K0 k a0 a1 a2) n0 (mk 60 3 [(0,.ptr 0 0 0),(1,.int .i64 x0),(7,.ref 2),(8,.int .i64 x1),(16,.sl true bQ x2),(17,.int .i64 x3),(18,.int .i64 x4)] [(1,.own false aF x5),(0,.box [.ref 1,.int .i64 x6,.int .i64 x7,.bool x8,.int .i64 x9]),(2,.own false aB x10)])
theorem e0:V0 k a0 a1 a2=l0 k:=bE (b:=b0 k) rfl (fun _=>by kernel_rfl) fun _=>rfl
end
theorem ctr:Cp 97 (C k):=ry (D k) (E:=E k) rfl rfl Tryz.func97 rfl fun ⟨a0,a1,a2,_⟩=>(show _=t k (V0 k a0 a1 a2 k) a0 a1 a2 by kernel_rfl).trans (by rw [e0];rfl)
end b7
namespace dQ
def C:Cn:=⟨[.io true 0 aj,.val (.int .i64)],[],true,false,fun x=>f k x.1 x.2.1⟩
def D:List Ce:=[q (ai.ctr k),q (bh.ctr k),q (dq.ctr k),q (dF.ctr k),q (cv.ctr k),q (dE.ctr k),q (bA.ctr k)]
theorem ctr:Cp 99 (C k):=rz k rfl (D k) Tryz.func99 rfl fun _=>by kernel_rfl
end dQ
namespace af
def C:Cn:=⟨[.io true 0 aj,.val (.slice .str)],[],true,false,fun x=>f k x.1 x.2.1⟩
def D:List Ce:=[q (bA.ctr k)]
def E:ku:=en (D k) [(3,[0,4,18,19,20])] 1 [] k
section
variable (a0:Ty.d aj) (a1:List ByteArray)
def K0:Ex→St→Rs:=fc (E k) (eK (E k) Tryz.f100 (C k) (a0,a1,())) [.blk 0,.code (gU Tryz.f100 3 7)]
def V0 (n0:Nat):T0:=fun x0 x1 x2 x3 x4 x5 x6 x7 x8 x9 x10 x11=>cT (di (E k) (gU Tryz.f100 6 11)) (cE 1 [0,4,18,19,20]) (K0 k a0 a1) n0 (mk 47 3 [(0,.ptr 0 0 0),(4,.ptr 2 0 0),(18,.sl true .str x0),(19,.int .i64 x1),(20,.int .i64 x2)] [(1,.own false aF x3),(0,.box [.ref 1,.int .i64 x4,.int .i64 x5,.bool x6,.int .i64 x7]),(2,.box [.ref 1,.int .i64 x8,.int .i64 x9,.bool x10,.int .i64 x11])])
def V1 (n0:Nat):T1:=fun x0 x1 x2 x3 x4 x5 x6 x7 x8 x9 x10 x11=>cT (di (E k) (gU Tryz.f100 6 11)) (cE 1 [0,4,18,19,20]) (K0 k a0 a1) n0 (mk 47 3 [(0,.ptr 0 0 0),(4,.ptr 1 0 0),(18,.sl true .str x0),(19,.int .i64 x1),(20,.int .i64 x2)] [(0,.box [.junk,.int .i64 x3,.int .i64 x4,.bool x5,.int .i64 x6]),(2,.own false aF x7),(1,.box [.ref 2,.int .i64 x8,.int .i64 x9,.bool x10,.int .i64 x11])])
theorem e1:V1 k a0 a1=l1 k:=bE (b:=b1 k) rfl (fun _=>by kernel_rfl) fun _=>rfl
theorem e0 (n0:Nat):V0 k a0 a1 n0=l0 k n0:=by
 induction n0 with
 | zero=>rfl
 | succ n0 ih =>
  have h:V0 k a0 a1 (n0+1)=b0 k (V1 k a0 a1 n0):=by kernel_rfl
  rw [h,e1];rfl
end
theorem ctr:Cp 100 (C k):=ry (D k) (E:=E k) rfl rfl Tryz.func100 rfl fun ⟨a0,a1,_⟩=>(show _=t k (V0 k a0 a1 k) a0 a1 by kernel_rfl).trans (by rw [e0];rfl)
end af
namespace cH
def C:Cn:=⟨[.io true 0 aC,.io true 0 aj,.val (.slice aF)],[],true,false,fun x=>f k x.1 x.2.1 x.2.2.1⟩
def D:List Ce:=[q (iB.ctr k),q (b7.ctr k),q (dQ.ctr k),q (bx.ctr k),q (ai.ctr k),q (dF.ctr k),q (af.ctr k),q (bA.ctr k)]
def E:ku:=en (D k) [(12,[1,85,86,87])] 2 [] k
section
variable (a0:Ty.d aC) (a1:Ty.d aj) (a2:List (Ty.d aF))
def K0:Ex→St→Rs:=fc (E k) (eK (E k) Tryz.f56 (C k) (a0,a1,a2,())) [.blk 0]
def V0 (n0:Nat):T0:=fun x0 x1 x2 x3 x4 x5 x6 x7 x8 x9 x10 x11 x12 x13=>cT (di (E k) (gU Tryz.f56 12 1023)) (cE 2 [1,85,86,87]) (K0 k a0 a1 a2) n0 (mk 100 6 [(1,.ptr 1 0 0),(85,.ref 5),(86,.int .i64 x0),(87,.int .i64 x1)] [(2,.own false (.int .i64) x2),(3,.own false aB x3),(0,.box [.int .i64 x4,.ref 2,.ref 3,.int .i64 x5,.int .i64 x6,.int .i64 x7]),(4,.own false aF x8),(1,.box [.ref 4,.int .i64 x9,.int .i64 x10,.bool x11,.int .i64 x12]),(5,.own false (.int .i64) x13)])
theorem e0:V0 k a0 a1 a2=l0 k:=bE (b:=b0 k) rfl (fun _=>by kernel_rfl) fun _=>rfl
end
theorem ctr:Cp 56 (C k):=ry (D k) (E:=E k) rfl rfl Tryz.func56 rfl fun ⟨a0,a1,a2,_⟩=>(show _=t k (V0 k a0 a1 a2 k) a0 a1 a2 by kernel_rfl).trans (by rw [e0];rfl)
end cH
namespace kS
def C:Cn:=⟨[.val aC,.val aA],[aC,aA,(.int .i64)],true,false,fun x=>f k x.1 x.2.1⟩
def D:List Ce:=[q (df.ctr k),q (az.ctr k),q (iy.ctr k),q (cN.ctr k),q (cH.ctr k)]
theorem ctr:Cp 32 (C k):=rz k rfl (D k) Tryz.func32 rfl fun _=>by kernel_rfl
end kS
namespace kU
def C:Cn:=⟨[.val (.slice bO),.val d5],[.bool],true,false,fun x=>f k x.1 x.2.1⟩
def D:List Ce:=[q (aa.ctr k)]
theorem ctr:Cp 57 (C k):=rz k rfl (D k) Tryz.func57 rfl fun _=>by kernel_rfl
end kU
namespace eM
def C:Cn:=⟨[.val bO,.val .str],[bF,.bool],true,false,fun x=>f k x.1 x.2.1⟩
def E:ku:=en [] [(2,[1,2,4,6])] 0 [] k
section
variable (a0:Ty.d bO) (a1:ByteArray)
def K0:Ex→St→Rs:=fc (E k) (eK (E k) Tryz.f145 (C k) (a0,a1,())) [.blk 0,.code (gU Tryz.f145 2 3)]
def V0 (n0:Nat):T0:=fun x0 x1 x2 x3 x4 x5 x6 x7=>cT (di (E k) (gU Tryz.f145 5 5)) (cE 0 [1,2,4,6]) (K0 k a0 a1) n0 (mk 29 2 [(1,.str x0),(2,.ptr 0 0 0),(4,.ptr 1 0 0),(6,.int .i64 x1)] [(0,.box [.bool x2,.sl true dt x3,.sl true bF x4]),(1,.box [.str x5,.bool x6,.str x7])])
theorem e0:V0 k a0 a1=l0 k:=bE (b:=b0 k) rfl (fun _=>by kernel_rfl) fun _=>rfl
end
theorem ctr:Cp 145 (C k):=ry [] (E:=E k) rfl rfl Tryz.func145 rfl fun ⟨a0,a1,_⟩=>(show _=t k (V0 k a0 a1 k) a0 a1 by kernel_rfl).trans (by rw [e0];rfl)
end eM
namespace oK
def C:Cn:=⟨[.val bO,.val .str],[f9,.bool],true,false,fun x=>f k x.1 x.2.1⟩
def D:List Ce:=[q (eM.ctr k)]
theorem ctr:Cp 102 (C k):=rz k rfl (D k) Tryz.func102 rfl fun _=>by kernel_rfl
end oK
namespace jZ
def C:Cn:=⟨[.val (.slice bF)],[(.slice bF)],true,false,fun x=>f k x.1⟩
theorem ctr:Cp 172 (C k):=rz k rfl [] Tryz.func172 rfl fun _=>by kernel_rfl
end jZ
namespace eU
def C:Cn:=⟨[.val bO],[bO],true,false,fun x=>f k x.1⟩
def D:List Ce:=[q (jZ.ctr k)]
theorem ctr:Cp 147 (C k):=rz k rfl (D k) Tryz.func147 rfl fun _=>by kernel_rfl
end eU
namespace fN
def C:Cn:=⟨[.val bO,.val .str,.val (.int .i64)],[bO,(.int .i64)],true,false,fun x=>f k x.1 x.2.1 x.2.2.1⟩
def D:List Ce:=[q (eU.ctr k),q (dU.ctr k)]
def E:ku:=en (D k) [(6,[1,2,3,6,8,9,24,25,26])] 0 [] k
section
variable (a0:Ty.d bO) (a1:ByteArray) (a2:Int)
def K0:Ex→St→Rs:=fc (E k) (eK (E k) Tryz.f146 (C k) (a0,a1,a2,())) [.blk 0,.code (gU Tryz.f146 5 31)]
def V0 (n0:Nat):T0:=fun x0 x1 x2 x3 x4 x5 x6 x7 x8 x9 x10 x11 x12 x13 x14=>cT (di (E k) (gU Tryz.f146 8 47)) (cE 0 [1,2,3,6,8,9,24,25,26]) (K0 k a0 a1 a2) n0 (mk 56 7 [(1,.str x0),(2,.int .i64 x1),(3,.ptr 0 0 0),(6,.ptr 1 0 0),(8,.ptr 4 0 0),(9,.bool x2),(24,.sl true dt x3),(25,.int .i64 x4),(26,.int .i64 x5)] [(0,.box [.bool x6,.sl true dt x7,.sl true bF x8]),(2,.own false dt x9),(3,.own false bF x10),(1,.box [.bool x11,.ref 2,.ref 3]),(5,.own false dt x12),(6,.own false bF x13),(4,.box [.bool x14,.ref 5,.ref 6])])
theorem e0:V0 k a0 a1 a2=l0 k:=bE (b:=b0 k) rfl (fun _=>by kernel_rfl) fun _=>rfl
end
theorem ctr:Cp 146 (C k):=ry (D k) (E:=E k) rfl rfl Tryz.func146 rfl fun ⟨a0,a1,a2,_⟩=>(show _=t k (V0 k a0 a1 a2 k) a0 a1 a2 by kernel_rfl).trans (by rw [e0];rfl)
end fN
namespace my
def C:Cn:=⟨[.val bO,.val .str,.val aF,.val (.int .i64)],[bO,f9],true,false,fun x=>f k x.1 x.2.1 x.2.2.1 x.2.2.2.1⟩
def D:List Ce:=[q (fN.ctr k)]
theorem ctr:Cp 103 (C k):=rz k rfl (D k) Tryz.func103 rfl fun _=>by kernel_rfl
end my
namespace gR
def C:Cn:=⟨[.io true 0 aP,.val d5],[f9],true,true,fun x=>f k x.1 x.2.1⟩
def D:List Ce:=[q (dU.ctr k),q (oK.ctr k),q (lg.ctr k),q (my.ctr k)]
theorem ctr:Cp 58 (C k):=rz k rfl (D k) Tryz.func58 rfl fun _=>by kernel_rfl
end gR
namespace fX
def C:Cn:=⟨[.val bF],[.bool],true,false,fun x=>f k x.1⟩
def D:List Ce:=[q (dU.ctr k)]
theorem ctr:Cp 105 (C k):=rz k rfl (D k) Tryz.func105 rfl fun _=>by kernel_rfl
end fX
namespace fi
def C:Cn:=⟨[.val (.slice bF)],[(.slice bF)],true,false,fun x=>f k x.1⟩
def E:ku:=en [] [(3,[3,9,10,11]),(7,[3,5,6,9,10,11,15,16,17])] 0 [] k
section
variable (a0:List (Ty.d bF))
def K0:Ex→St→Rs:=fc (E k) (eK (E k) Tryz.f110 (C k) (a0,())) [.blk 0,.code (gU Tryz.f110 3 7)]
def B0 (n0:Nat):Ex→St→Rs:=Tw (E k) (gU Tryz.f110 6 11) 0 [3,9,10,11] (K0 k a0) n0
def K1 (n0:Nat):Ex→St→Rs:=fc (E k) (B0 k a0 n0) [.blk 2,.code (gU Tryz.f110 13 7371),.blk 1,.code (gU Tryz.f110 9 459)]
def V0 (n0:Nat):T0:=fun x0 x1 x2 x3=>cT (di (E k) (gU Tryz.f110 6 11)) (cE 0 [3,9,10,11]) (K0 k a0) n0 (mk 41 1 [(3,.ref 0),(9,.sl true bF x0),(10,.int .i64 x1),(11,.int .i64 x2)] [(0,.own false bF x3)])
def V1 (n0 n1:Nat):T1:=fun x0 x1 x2 x3 x4 x5 x6 x7 x8 x9=>cT (di (E k) (gU Tryz.f110 16 11467)) (cE 0 [3,5,6,9,10,11,15,16,17]) (K1 k a0 n0) n1 (mk 41 2 [(3,.ref 0),(5,.ptr 1 0 0),(6,.int .i64 x0),(9,.sl true bF x1),(10,.int .i64 x2),(11,.int .i64 x3),(15,.ref 0),(16,.int .i64 x4),(17,.int .i64 x5)] [(0,.own false bF x6),(1,.box [.str x7,.bool x8,.str x9])])
theorem e1 (n0:Nat):V1 k a0 n0=l1 k (V0 k a0 n0):=bE (b:=b1 k (V0 k a0 n0)) rfl (fun _=>by kernel_rfl) fun _=>rfl
theorem e0 (n0:Nat):V0 k a0 n0=l0 k n0:=by
 induction n0 with
 | zero=>rfl
 | succ n0 ih =>
  have h:V0 k a0 (n0+1)=b0 k (V1 k a0 n0 k) (V0 k a0 n0):=by kernel_rfl
  rw [h,e1,ih];rfl
end
theorem ctr:Cp 110 (C k):=ry [] (E:=E k) rfl rfl Tryz.func110 rfl fun ⟨a0,_⟩=>(show _=t k (V0 k a0 k) a0 by kernel_rfl).trans (by rw [e0];rfl)
end fi
namespace fD
def C:Cn:=⟨[.val bO],[(.slice bF)],true,false,fun x=>f k x.1⟩
def D:List Ce:=[q (fi.ctr k)]
theorem ctr:Cp 62 (C k):=rz k rfl (D k) Tryz.func62 rfl fun _=>by kernel_rfl
end fD
namespace iq
def C:Cn:=⟨[.val bO,.val bF],[bO,.bool],true,false,fun x=>f k x.1 x.2.1⟩
def D:List Ce:=[q (eU.ctr k),q (fX.ctr k),q (fD.ctr k)]
theorem ctr:Cp 104 (C k):=rz k rfl (D k) Tryz.func104 rfl fun _=>by kernel_rfl
end iq
namespace kQ
def C:Cn:=⟨[.val bO,.val d5],[bO,f9],true,false,fun x=>f k x.1 x.2.1⟩
def D:List Ce:=[q (iq.ctr k),q (fX.ctr k)]
theorem ctr:Cp 59 (C k):=rz k rfl (D k) Tryz.func59 rfl fun _=>by kernel_rfl
end kQ
namespace gg
def C:Cn:=⟨[.val bO,.val (.slice aB)],[.bool],true,false,fun x=>f k x.1 x.2.1⟩
def D:List Ce:=[q (fH.ctr k)]
def E:ku:=en (D k) [(2,[1,10,11,12])] 0 [] k
section
variable (a0:Ty.d bO) (a1:List (Ty.d aB))
def K0:Ex→St→Rs:=fc (E k) (eK (E k) Tryz.f60 (C k) (a0,a1,())) [.blk 0,.code (gU Tryz.f60 2 3)]
def V0 (n0:Nat):T0:=fun x0 x1 x2 x3=>cT (di (E k) (gU Tryz.f60 5 5)) (cE 0 [1,10,11,12]) (K0 k a0 a1) n0 (mk 29 0 [(1,.sl true aB x0),(10,.sl true dt x1),(11,.int .i64 x2),(12,.int .i64 x3)] [])
theorem e0:V0 k a0 a1=l0 k:=bE (b:=b0 k) rfl (fun _=>by kernel_rfl) fun _=>rfl
end
theorem ctr:Cp 60 (C k):=ry (D k) (E:=E k) rfl rfl Tryz.func60 rfl fun ⟨a0,a1,_⟩=>(show _=t k (V0 k a0 a1 k) a0 a1 by kernel_rfl).trans (by rw [e0];rfl)
end gg
namespace fJ
def C:Cn:=⟨[.val (.slice bF)],[.bool],true,false,fun x=>f k x.1⟩
def D:List Ce:=[q (fX.ctr k)]
def E:ku:=en (D k) [(2,[0,5,6,7])] 0 [] k
section
variable (a0:List (Ty.d bF))
def K0:Ex→St→Rs:=fc (E k) (eK (E k) Tryz.f107 (C k) (a0,())) [.blk 0,.code (gU Tryz.f107 2 3)]
def V0 (n0:Nat):T0:=fun x0 x1 x2 x3=>cT (di (E k) (gU Tryz.f107 5 5)) (cE 0 [0,5,6,7]) (K0 k a0) n0 (mk 18 0 [(0,.sl true bF x0),(5,.sl true bF x1),(6,.int .i64 x2),(7,.int .i64 x3)] [])
theorem e0:V0 k a0=l0 k:=bE (b:=b0 k) rfl (fun _=>by kernel_rfl) fun _=>rfl
end
theorem ctr:Cp 107 (C k):=ry (D k) (E:=E k) rfl rfl Tryz.func107 rfl fun ⟨a0,_⟩=>(show _=t k (V0 k a0 k) a0 by kernel_rfl).trans (by rw [e0];rfl)
end fJ
namespace gA
def C:Cn:=⟨[.val (.slice aB),.val (.slice bF),.val (.slice aB)],[(.slice aB)],false,true,fun x=>f k x.1 x.2.1 x.2.2.1⟩
def D:List Ce:=[q (br.ctr k),q (cr.ctr k)]
def E:ku:=en (D k) [(2,[0,2,9,10,11])] 0 [] k
section
variable (a0:List (Ty.d aB)) (a1:List (Ty.d bF)) (a2:List (Ty.d aB))
def K0:Ex→St→Rs:=fc (E k) (eK (E k) Tryz.f148 (C k) (a0,a1,a2,())) [.blk 0,.code (gU Tryz.f148 2 3)]
def V0 (n0:Nat):T0:=fun x0 x1 x2 x3 x4=>cT (di (E k) (gU Tryz.f148 5 5)) (cE 0 [0,2,9,10,11]) (K0 k a0 a1 a2) n0 (mk 30 0 [(0,.sl true aB x0),(2,.sl true aB x1),(9,.sl true bF x2),(10,.int .i64 x3),(11,.int .i64 x4)] [])
def V1 (n0:Nat):T1:=fun x0 x1 x2 x3 x4=>cT (di (E k) (gU Tryz.f148 5 5)) (cE 0 [0,2,9,10,11]) (K0 k a0 a1 a2) n0 (mk 30 1 [(0,.ref 0),(2,.sl true aB x0),(9,.sl true bF x1),(10,.int .i64 x2),(11,.int .i64 x3)] [(0,.own false aB x4)])
theorem e1:V1 k a0 a1 a2=l1 k:=bE (b:=b1 k) rfl (fun _=>by kernel_rfl) fun _=>rfl
theorem e0 (n0:Nat):V0 k a0 a1 a2 n0=l0 k n0:=by
 induction n0 with
 | zero=>rfl
 | succ n0 ih =>
  have h:V0 k a0 a1 a2 (n0+1)=b0 k (V1 k a0 a1 a2 n0):=by kernel_rfl
  rw [h,e1];rfl
end
theorem ctr:Cp 148 (C k):=ry (D k) (E:=E k) rfl rfl Tryz.func148 rfl fun ⟨a0,a1,a2,_⟩=>(show _=t k (V0 k a0 a1 a2 k) a0 a1 a2 by kernel_rfl).trans (by rw [e0];rfl)
end gA
namespace eI
def C:Cn:=⟨[.val (.slice aB),.val (.slice bF)],[(.int .i64)],true,false,fun x=>f k x.1 x.2.1⟩
def D:List Ce:=[q (gA.ctr k)]
def E:ku:=en (D k) [(3,[0,1,5,8,9,10])] 0 [] k
section
variable (a0:List (Ty.d aB)) (a1:List (Ty.d bF))
def K0:Ex→St→Rs:=fc (E k) (eK (E k) Tryz.f108 (C k) (a0,a1,())) [.blk 0,.code (gU Tryz.f108 3 7)]
def V0 (n0:Nat):T0:=fun x0 x1 x2 x3 x4 x5=>cT (di (E k) (gU Tryz.f108 6 11)) (cE 0 [0,1,5,8,9,10]) (K0 k a0 a1) n0 (mk 26 1 [(0,.sl true aB x0),(1,.sl true bF x1),(5,.ref 0),(8,.sl true bF x2),(9,.int .i64 x3),(10,.int .i64 x4)] [(0,.own false aB x5)])
theorem e0:V0 k a0 a1=l0 k:=bE (b:=b0 k) rfl (fun _=>by kernel_rfl) fun _=>rfl
end
theorem ctr:Cp 108 (C k):=ry (D k) (E:=E k) rfl rfl Tryz.func108 rfl fun ⟨a0,a1,_⟩=>(show _=t k (V0 k a0 a1 k) a0 a1 by kernel_rfl).trans (by rw [e0];rfl)
end eI
namespace dj
def C:Cn:=⟨[.val (.slice bF),.val (.int .i64)],[(.slice bQ)],true,false,fun x=>f k x.1 x.2.1⟩
def D:List Ce:=[q (gC.ctr k)]
def E:ku:=en (D k) [(3,[0,1,5,8,9,10])] 0 [] k
section
variable (a0:List (Ty.d bF)) (a1:Int)
def K0:Ex→St→Rs:=fc (E k) (eK (E k) Tryz.f149 (C k) (a0,a1,())) [.blk 0,.code (gU Tryz.f149 3 7)]
def V0 (n0:Nat):T0:=fun x0 x1 x2 x3 x4 x5=>cT (di (E k) (gU Tryz.f149 6 11)) (cE 0 [0,1,5,8,9,10]) (K0 k a0 a1) n0 (mk 42 1 [(0,.sl true bF x0),(1,.int .i64 x1),(5,.ref 0),(8,.sl true bF x2),(9,.int .i64 x3),(10,.int .i64 x4)] [(0,.own false bQ x5)])
theorem e0:V0 k a0 a1=l0 k:=bE (b:=b0 k) rfl (fun _=>by kernel_rfl) fun _=>rfl
end
theorem ctr:Cp 149 (C k):=ry (D k) (E:=E k) rfl rfl Tryz.func149 rfl fun ⟨a0,a1,_⟩=>(show _=t k (V0 k a0 a1 k) a0 a1 by kernel_rfl).trans (by rw [e0];rfl)
end dj
namespace ba
def C:Cn:=⟨[.io true 0 aC],[.str],true,false,fun x=>f k x.1⟩
def D:List Ce:=[q (ai.ctr k)]
theorem ctr:Cp 151 (C k):=rz k rfl (D k) Tryz.func151 rfl fun _=>by kernel_rfl
end ba
namespace fE
def C:Cn:=⟨[.io true 0 aC,.io true 0 aj],[],true,false,fun x=>f k x.1 x.2.1⟩
def D:List Ce:=[q (ba.ctr k),q (bM.ctr k),q (ai.ctr k),q (cV.ctr k),q (dm.ctr k),q (bx.ctr k),q (af.ctr k)]
theorem ctr:Cp 173 (C k):=rz k rfl (D k) Tryz.func173 rfl fun _=>by kernel_rfl
end fE
namespace g_
def C:Cn:=⟨[.io true 0 aC,.io true 0 aj,.val bQ],[aB],true,false,fun x=>f k x.1 x.2.1 x.2.2.1⟩
def D:List Ce:=[q (g6.ctr k),q (gf.ctr k),q (fE.ctr k),q (ba.ctr k),q (cJ.ctr k)]
theorem ctr:Cp 150 (C k):=rz k rfl (D k) Tryz.func150 rfl fun _=>by kernel_rfl
end g_
namespace ga
def C:Cn:=⟨[.give (.slice aB),.val (.slice bF),.val (.slice aB)],[(.slice aB)],true,false,fun x=>f k x.1 x.2.1 x.2.2.1⟩
def D:List Ce:=[q (br.ctr k),q (cr.ctr k)]
def E:ku:=en (D k) [(2,[0,2,9,10,11])] 0 [] k
section
variable (a0:List (Ty.d aB)) (a1:List (Ty.d bF)) (a2:List (Ty.d aB))
def K0:Ex→St→Rs:=fc (E k) (eK (E k) Tryz.f148 (C k) (a0,a1,a2,())) [.blk 0,.code (gU Tryz.f148 2 3)]
def V0 (n0:Nat):T0:=fun x0 x1 x2 x3 x4=>cT (di (E k) (gU Tryz.f148 5 5)) (cE 0 [0,2,9,10,11]) (K0 k a0 a1 a2) n0 (mk 30 1 [(0,.ref 0),(2,.sl true aB x0),(9,.sl true bF x1),(10,.int .i64 x2),(11,.int .i64 x3)] [(0,.own false aB x4)])
theorem e0:V0 k a0 a1 a2=l0 k:=bE (b:=b0 k) rfl (fun _=>by kernel_rfl) fun _=>rfl
end
theorem ctr:Cp 148 (C k):=ry (D k) (E:=E k) rfl rfl Tryz.func148 rfl fun ⟨a0,a1,a2,_⟩=>(show _=t k (V0 k a0 a1 a2 k) a0 a1 a2 by kernel_rfl).trans (by rw [e0];rfl)
end ga
namespace bp
def C:Cn:=⟨[.io true 0 aC,.io true 0 aj,.val (.slice bF)],[],true,false,fun x=>f k x.1 x.2.1 x.2.2.1⟩
def D:List Ce:=[q (dj.ctr k),q (g_.ctr k),q (ba.ctr k),q (bM.ctr k),q (ga.ctr k)]
def E:ku:=en (D k) [(4,[0,1,2,7,24,25,26])] 2 [] k
section
variable (a0:Ty.d aC) (a1:Ty.d aj) (a2:List (Ty.d bF))
def K0:Ex→St→Rs:=fc (E k) (eK (E k) Tryz.f109 (C k) (a0,a1,a2,())) [.blk 0,.code (gU Tryz.f109 4 15)]
def V0 (n0:Nat):T0:=fun x0 x1 x2 x3 x4 x5 x6 x7 x8 x9 x10 x11 x12 x13 x14 x15=>cT (di (E k) (gU Tryz.f109 7 23)) (cE 2 [0,1,2,7,24,25,26]) (K0 k a0 a1 a2) n0 (mk 63 7 [(0,.ptr 0 0 0),(1,.ptr 1 0 0),(2,.sl true bF x0),(7,.ref 5),(24,.ref 6),(25,.int .i64 x1),(26,.int .i64 x2)] [(2,.own false (.int .i64) x3),(3,.own false aB x4),(0,.box [.int .i64 x5,.ref 2,.ref 3,.int .i64 x6,.int .i64 x7,.int .i64 x8]),(4,.own false aF x9),(1,.box [.ref 4,.int .i64 x10,.int .i64 x11,.bool x12,.int .i64 x13]),(5,.own false aB x14),(6,.own false bQ x15)])
theorem e0:V0 k a0 a1 a2=l0 k:=bE (b:=b0 k) rfl (fun _=>by kernel_rfl) fun _=>rfl
end
theorem ctr:Cp 109 (C k):=ry (D k) (E:=E k) rfl rfl Tryz.func109 rfl fun ⟨a0,a1,a2,_⟩=>(show _=t k (V0 k a0 a1 a2 k) a0 a1 a2 by kernel_rfl).trans (by rw [e0];rfl)
end bp
namespace jQ
def C:Cn:=⟨[.val aC,.val aA,.val (.slice bF)],[aC,aA,(.int .i64)],true,false,fun x=>f k x.1 x.2.1 x.2.2.1⟩
def D:List Ce:=[q (df.ctr k),q (az.ctr k),q (cN.ctr k),q (fJ.ctr k),q (eI.ctr k),q (bp.ctr k)]
theorem ctr:Cp 61 (C k):=rz k rfl (D k) Tryz.func61 rfl fun _=>by kernel_rfl
end jQ
namespace dR
def C:Cn:=⟨[.io true 0 aP,.val d5],[f9],true,true,fun x=>f k x.1 x.2.1⟩
def D:List Ce:=[q (kU.ctr k),q (gR.ctr k),q (kQ.ctr k),q (gg.ctr k),q (fD.ctr k),q (jQ.ctr k)]
theorem ctr:Cp 34 (C k):=rz k rfl (D k) Tryz.func34 rfl fun _=>by kernel_rfl
end dR
namespace d8
def C:Cn:=⟨[.io true 0 aP,.val d5],[f9],true,true,fun x=>f k x.1 x.2.1⟩
def D:List Ce:=[q (dh.ctr k),q (fe.ctr k),q (am.ctr k),q (aa.ctr k),q (kS.ctr k),q (dc.ctr k),q (dR.ctr k)]
theorem ctr:Cp 16 (C k):=rz k rfl (D k) Tryz.func16 rfl fun _=>by kernel_rfl
end d8
namespace gW
def C:Cn:=⟨[.val (.int .i64)],[.str],true,false,fun x=>f k x.1⟩
def D:List Ce:=[q (aa.ctr k),q (iD.ctr k)]
theorem ctr:Cp 23 (C k):=rz k rfl (D k) Tryz.func23 rfl fun _=>by kernel_rfl
end gW
namespace dl
def C:Cn:=⟨[.val d5,.val f9],[.str],true,false,fun x=>f k x.1 x.2.1⟩
def D:List Ce:=[q (gW.ctr k)]
def E:ku:=en (D k) [(7,[5,23,24,25])] 0 [] k
section
variable (a0:Ty.d d5) (a1:Ty.d f9)
def K0:Ex→St→Rs:=fc (E k) (eK (E k) Tryz.f17 (C k) (a0,a1,())) [.blk 0,.code (gU Tryz.f17 5 31)]
def V0 (n0:Nat):T0:=fun x0 x1 x2 x3=>cT (di (E k) (gU Tryz.f17 8 47)) (cE 0 [5,23,24,25]) (K0 k a0 a1) n0 (mk 35 0 [(5,.str x0),(23,.sl true .str x1),(24,.int .i64 x2),(25,.int .i64 x3)] [])
theorem e0:V0 k a0 a1=l0 k:=bE (b:=b0 k) rfl (fun _=>by kernel_rfl) fun _=>rfl
end
theorem ctr:Cp 17 (C k):=ry (D k) (E:=E k) rfl rfl Tryz.func17 rfl fun ⟨a0,a1,_⟩=>(show _=t k (V0 k a0 a1 k) a0 a1 by kernel_rfl).trans (by rw [e0];rfl)
end dl
namespace mG
def C:Cn:=⟨[.val aA],[(.int .i64)],true,false,fun x=>f k x.1⟩
def D:List Ce:=[q (am.ctr k),q (fe.ctr k)]
theorem ctr:Cp 19 (C k):=rz k rfl (D k) Tryz.func19 rfl fun _=>by kernel_rfl
end mG
namespace iu
def C:Cn:=⟨[.val aA,.val (.int .i64)],[aA],true,false,fun x=>f k x.1 x.2.1⟩
def D:List Ce:=[q (az.ctr k),q (am.ctr k),q (aa.ctr k)]
theorem ctr:Cp 21 (C k):=rz k rfl (D k) Tryz.func21 rfl fun _=>by kernel_rfl
end iu
namespace gF
def C:Cn:=⟨[.val aA,.val (.slice (.int .i64))],[aA],true,false,fun x=>f k x.1 x.2.1⟩
def D:List Ce:=[q (az.ctr k),q (am.ctr k)]
def E:ku:=en (D k) [(5,[1,4,5,17,18])] 0 [] k
section
variable (a0:Ty.d aA) (a1:List Int)
def K0:Ex→St→Rs:=fc (E k) (eK (E k) Tryz.f22 (C k) (a0,a1,())) [.blk 0,.code (gU Tryz.f22 4 15)]
def V0 (n0:Nat):T0:=fun x0 x1 x2 x3 x4 x5 x6 x7 x8 x9 x10=>cT (di (E k) (gU Tryz.f22 7 23)) (cE 0 [1,4,5,17,18]) (K0 k a0 a1) n0 (mk 72 4 [(1,.sl true (.int .i64) x0),(4,.ptr 0 0 0),(5,.ptr 2 0 0),(17,.int .i64 x1),(18,.int .i64 x2)] [(1,.own false aF x3),(0,.box [.ref 1,.int .i64 x4,.int .i64 x5,.bool x6]),(3,.own false aF x7),(2,.box [.ref 3,.int .i64 x8,.int .i64 x9,.bool x10])])
theorem e0:V0 k a0 a1=l0 k:=bE (b:=b0 k) rfl (fun _=>by kernel_rfl) fun _=>rfl
end
theorem ctr:Cp 22 (C k):=ry (D k) (E:=E k) rfl rfl Tryz.func22 rfl fun ⟨a0,a1,_⟩=>(show _=t k (V0 k a0 a1 k) a0 a1 by kernel_rfl).trans (by rw [e0];rfl)
end gF
namespace db
def C:Cn:=⟨[.io true 0 aP,.val .str],[.str],true,true,fun x=>f k x.1 x.2.1⟩
def D:List Ce:=[q (iD.ctr k),q (kF.ctr k),q (d8.ctr k),q (dl.ctr k),q (mG.ctr k),q (lf.ctr k),q (bj.ctr k),q (aa.ctr k),q (iu.ctr k),q (gF.ctr k),q (dh.ctr k),q (gW.ctr k)]
theorem ctr:Cp 11 (C k):=rz k rfl (D k) Tryz.func11 rfl fun _=>by kernel_rfl
end db
namespace fO
def C:Cn:=⟨[.val .str],[.str],true,false,fun x=>f k x.1⟩
def D:List Ce:=[q (jU.ctr k),q (jP.ctr k),q (dh.ctr k),q (db.ctr k)]
def E:ku:=en (D k) [(7,[4,6,25,26,27])] 0 [] k
section
variable (a0:ByteArray)
def K0:Ex→St→Rs:=fc (E k) (eK (E k) Tryz.f7 (C k) (a0,())) [.blk 0,.code (gU Tryz.f7 6 63)]
def V0 (n0:Nat):T0:=fun x0 x1 x2 x3 x4 x5 x6 x7 x8 x9 x10 x11 x12 x13 x14 x15=>cT (di (E k) (gU Tryz.f7 9 95)) (cE 0 [4,6,25,26,27]) (K0 k a0) n0 (mk 41 5 [(4,.ptr 0 0 0),(6,.str x0),(25,.sl false .str x1),(26,.int .i64 x2),(27,.int .i64 x3)] [(1,.own false (.int .i64) x4),(2,.own false aB x5),(3,.own false aF x6),(4,.own false bO x7),(0,.box [.bool x8,.int .i64 x9,.ref 1,.ref 2,.int .i64 x10,.int .i64 x11,.int .i64 x12,.ref 3,.int .i64 x13,.int .i64 x14,.bool x15,.ref 4])])
def V1 (n0:Nat):T1:=fun x0 x1 x2 x3 x4 x5 x6 x7 x8 x9 x10 x11 x12 x13 x14 x15=>cT (di (E k) (gU Tryz.f7 9 95)) (cE 0 [4,6,25,26,27]) (K0 k a0) n0 (mk 41 5 [(4,.ptr 0 0 0),(6,.str x0),(25,.sl false .str x1),(26,.int .i64 x2),(27,.int .i64 x3)] [(1,.own false (.int .i64) x4),(2,.own false aB x5),(3,.own false aF x6),(4,.own true bO x7),(0,.box [.bool x8,.int .i64 x9,.ref 1,.ref 2,.int .i64 x10,.int .i64 x11,.int .i64 x12,.ref 3,.int .i64 x13,.int .i64 x14,.bool x15,.ref 4])])
theorem e1:V1 k a0=l1 k:=bE (b:=b1 k) rfl (fun _=>by kernel_rfl) fun _=>rfl
theorem e0 (n0:Nat):V0 k a0 n0=l0 k n0:=by
 induction n0 with
 | zero=>rfl
 | succ n0 ih =>
  have h:V0 k a0 (n0+1)=b0 k (V1 k a0 n0) (V0 k a0 n0):=by kernel_rfl
  rw [h,e1,ih];rfl
end
theorem ctr:Cp 7 (C k):=ry (D k) (E:=E k) rfl rfl Tryz.func7 rfl fun ⟨a0,_⟩=>(show _=t k (V0 k a0 k) a0 by kernel_rfl).trans (by rw [e0];rfl)
end fO
namespace fP
def C:Cn:=⟨[.val (.slice (.int .u8))],[.bool],true,false,fun x=>f k x.1⟩
def D:List Ce:=[q (og.ctr k),q (mQ.ctr k),q (iM.ctr k),q (fO.ctr k)]
theorem ctr:Cp 3 (C k):=rz k rfl (D k) Tryz.func3 rfl fun _=>by kernel_rfl
end fP
end
end Go.Proofs.YteejjngdagmofaaGreatDoor.G

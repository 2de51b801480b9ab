/- Functions keep their contracts. -/
import Derived.Test.YtaaincbnjkmapaaGreatDoorVTab
import Derived.Test.YtaaincbnjkmapaaGreatDoorFS
import Derived.Test.YtaaincbnjkmapaaGreatDoorCLib
set_option linter.unusedVariables false
set_option maxRecDepth 100000
namespace Go.Proofs.YtaaincbnjkmapaaGreatDoor.G
open Go.V
noncomputable section
variable (k:Nat)
namespace qg
def C:Cn:=⟨[.val (.slice (.int .u8))],[.bool],true,false,fun x=>f k x.1⟩
theorem ctr:Cp 4 (C k):=rz k rfl [] Tryz.func4 rfl fun _=>by kernel_rfl
end qg
namespace gu
def C:Cn:=⟨[.val (.slice (.int .u8))],[.opq,fz],false,true,fun x=>f k x.1⟩
def E:jj:=en [] [(3,[0,3,4])] 0 [] k
section
variable (a0:List Int)
def K0:Ex→St→Rs:=dZ (E k) (eB (E k) Tryz.f16 (C k) (a0,())) [.blk 0,.code (dS Tryz.f16 3 7)]
def V0 (n0:Nat):T0:=fun x0 x1 x2=>bX (cG (E k) (dS Tryz.f16 6 11)) (bL 0 [0,3,4]) (K0 k a0) n0 (mk 32 0 [(0,.sl true (.int .u8) x0),(3,.int .i64 x1),(4,.int .i64 x2)] [])
theorem e0:V0 k a0=l0 k:=an (b:=b0 k) rfl (fun _=>by kernel_rfl) fun _=>rfl
end
theorem ctr:Cp 16 (C k):=Rp rfl rfl [] (E:=E k) rfl rfl Tryz.func16 rfl fun ⟨a0,_⟩=>(show _=t k (V0 k a0 k) a0 by kernel_rfl).trans (by rw [e0];rfl)
end gu
namespace fM
def C:Cn:=⟨[.io false 0 fz],[(.int .i64)],true,true,fun x=>f k x.1⟩
theorem ctr:Cp 48 (C k):=rz k rfl [] Tryz.func48 rfl fun _=>by kernel_rfl
end fM
namespace bS
def C:Cn:=⟨[.io false 0 fz,.val (.int .i64)],[(.int .i64)],true,true,fun x=>f k x.1 x.2.1⟩
def D:List Ce:=[q (fM.ctr k)]
theorem ctr:Cp 31 (C k):=rz k rfl (D k) Tryz.func31 rfl fun _=>by kernel_rfl
end bS
namespace ah
def C:Cn:=⟨[.io false 0 fz,.val (.slice (.int .i64))],[(.int .i64)],true,true,fun x=>f k x.1 x.2.1⟩
def D:List Ce:=[q (bS.ctr k)]
theorem ctr:Cp 49 (C k):=rz k rfl (D k) Tryz.func49 rfl fun _=>by kernel_rfl
end ah
namespace d8
def C:Cn:=⟨[.io false 0 fz,.val (.slice .str)],[.str],true,true,fun x=>f k x.1 x.2.1⟩
def D:List Ce:=[q (bS.ctr k)]
theorem ctr:Cp 52 (C k):=rz k rfl (D k) Tryz.func52 rfl fun _=>by kernel_rfl
end d8
namespace jE
def C:Cn:=⟨[.io false 0 fz],[.str],true,true,fun x=>f k x.1⟩
def D:List Ce:=[q (d8.ctr k)]
theorem ctr:Cp 50 (C k):=rz k rfl (D k) Tryz.func50 rfl fun _=>by kernel_rfl
end jE
namespace fR
def C:Cn:=⟨[.io false 0 fz,.val (.int .i64)],[.str],true,true,fun x=>f k x.1 x.2.1⟩
def D:List Ce:=[q (bS.ctr k),q (fM.ctr k)]
def E:jj:=en (D k) [(4,[0,5,6,7])] 1 [] k
section
variable (a0:Ty.d fz) (a1:Int)
def K0:Ex→St→Rs:=dZ (E k) (eK (E k) Tryz.f51 (C k) (a0,a1,())) [.blk 0,.code (dS Tryz.f51 4 15)]
def V0 (n0:Nat):T0:=fun x0 x1 x2 x3 x4 x5=>bX (cG (E k) (dS Tryz.f51 7 23)) (bL 1 [0,5,6,7]) (K0 k a0 a1) n0 (mk 38 2 [(0,.ptr 0 0 0),(5,.ref 1),(6,.int .i64 x0),(7,.int .i64 x1)] [(0,.box [.sl true (.int .u8) x2,.int .i64 x3,.int .i64 x4]),(1,.own false (.int .u8) x5)])
theorem e0:V0 k a0 a1=l0 k:=an (b:=b0 k) rfl (fun _=>by kernel_rfl) fun _=>rfl
end
theorem ctr:Cp 51 (C k):=ry (D k) (E:=E k) rfl rfl Tryz.func51 rfl fun ⟨a0,a1,_⟩=>(show _=t k (V0 k a0 a1 k) a0 a1 by kernel_rfl).trans (by rw [e0];rfl)
end fR
namespace jk
def C:Cn:=⟨[.io false 0 fz],[aH],true,true,fun x=>f k x.1⟩
def D:List Ce:=[q (ah.ctr k),q (bS.ctr k),q (jE.ctr k),q (d8.ctr k),q (fR.ctr k)]
theorem ctr:Cp 32 (C k):=rz k rfl (D k) Tryz.func32 rfl fun _=>by kernel_rfl
end jk
namespace cK
def C:Cn:=⟨[.val (.int .i64),.val (.int .i64),.val (.int .i64)],[.bool],true,false,fun x=>f k x.1 x.2.1 x.2.2.1⟩
theorem ctr:Cp 33 (C k):=rz k rfl [] Tryz.func33 rfl fun _=>by kernel_rfl
end cK
namespace iA
def C:Cn:=⟨[.io false 0 fz,.val (.int .i64)],[.bool],true,true,fun x=>f k x.1 x.2.1⟩
def D:List Ce:=[q (bS.ctr k)]
theorem ctr:Cp 34 (C k):=rz k rfl (D k) Tryz.func34 rfl fun _=>by kernel_rfl
end iA
namespace ez
def C:Cn:=⟨[.io false 0 fz,.val (.int .i64)],[(.slice aH)],true,true,fun x=>f k x.1 x.2.1⟩
def D:List Ce:=[q (bS.ctr k),q (jk.ctr k),q (cK.ctr k),q (iA.ctr k)]
def E:jj:=en (D k) [(4,[0,5,6,7])] 1 [] k
section
variable (a0:Ty.d fz) (a1:Int)
def K0:Ex→St→Rs:=dZ (E k) (eK (E k) Tryz.f17 (C k) (a0,a1,())) [.blk 0,.code (dS Tryz.f17 4 15)]
def V0 (n0:Nat):T0:=fun x0 x1 x2 x3 x4 x5=>bX (cG (E k) (dS Tryz.f17 7 23)) (bL 1 [0,5,6,7]) (K0 k a0 a1) n0 (mk 85 3 [(0,.ptr 0 0 0),(5,.ref 1),(6,.ref 2),(7,.int .i64 x0)] [(0,.box [.sl true (.int .u8) x1,.int .i64 x2,.int .i64 x3]),(1,.own false aH x4),(2,.own false .bool x5)])
theorem e0:V0 k a0 a1=l0 k:=an (b:=b0 k) rfl (fun _=>by kernel_rfl) fun _=>rfl
end
theorem ctr:Cp 17 (C k):=ry (D k) (E:=E k) rfl rfl Tryz.func17 rfl fun ⟨a0,a1,_⟩=>(show _=t k (V0 k a0 a1 k) a0 a1 by kernel_rfl).trans (by rw [e0];rfl)
end ez
namespace fU
def C:Cn:=⟨[.val (.slice (.int .u8))],[(.slice aH)],true,false,fun x=>f k x.1⟩
def D:List Ce:=[q (gu.ctr k),q (ez.ctr k)]
theorem ctr:Cp 5 (C k):=rz k rfl (D k) Tryz.func5 rfl fun _=>by kernel_rfl
end fU
namespace lh
def C:Cn:=⟨[.val (.slice aH)],[z_],false,true,fun x=>f k x.1⟩
theorem ctr:Cp 7 (C k):=rz k rfl [] Tryz.func7 rfl fun _=>by kernel_rfl
end lh
namespace aZ
def C:Cn:=⟨[.val (.int .i64),.val (.int .i64),.val (.int .i64)],[.bool],true,false,fun x=>f k x.1 x.2.1 x.2.2.1⟩
theorem ctr:Cp 18 (C k):=rz k rfl [] Tryz.func18 rfl fun _=>by kernel_rfl
end aZ
namespace jh
def C:Cn:=⟨[.val (.int .i64)],[aA],true,false,fun x=>f k x.1⟩
def D:List Ce:=[q (aZ.ctr k)]
theorem ctr:Cp 21 (C k):=rz k rfl (D k) Tryz.func21 rfl fun _=>by kernel_rfl
end jh
namespace bD
def C:Cn:=⟨[.val aA],[aA],true,false,fun x=>f k x.1⟩
theorem ctr:Cp 36 (C k):=rz k rfl [] Tryz.func36 rfl fun _=>by kernel_rfl
end bD
namespace eN
def C:Cn:=⟨[.val .str],[.bool],true,false,fun x=>f k x.1⟩
def D:List Ce:=[q (aZ.ctr k)]
def E:jj:=en (D k) [(2,[0,3])] 0 [] k
section
variable (a0:ByteArray)
def K0:Ex→St→Rs:=dZ (E k) (eK (E k) Tryz.f56 (C k) (a0,())) [.blk 0,.code (dS Tryz.f56 2 3)]
def V0 (n0:Nat):T0:=fun x0 x1=>bX (cG (E k) (dS Tryz.f56 5 5)) (bL 0 [0,3]) (K0 k a0) n0 (mk 37 0 [(0,.str x0),(3,.int .i64 x1)] [])
theorem e0:V0 k a0=l0 k:=an (b:=b0 k) rfl (fun _=>by kernel_rfl) fun _=>rfl
end
theorem ctr:Cp 56 (C k):=ry (D k) (E:=E k) rfl rfl Tryz.func56 rfl fun ⟨a0,_⟩=>(show _=t k (V0 k a0 k) a0 by kernel_rfl).trans (by rw [e0];rfl)
end eN
namespace ay
def C:Cn:=⟨[.val aA],[.bool],true,false,fun x=>f k x.1⟩
def D:List Ce:=[q (aZ.ctr k),q (eN.ctr k)]
def E:jj:=en (D k) [(5,[1,3,23,24,25])] 0 [] k
section
variable (a0:Ty.d aA)
def K0:Ex→St→Rs:=dZ (E k) (eK (E k) Tryz.f37 (C k) (a0,())) [.blk 0,.code (dS Tryz.f37 4 15)]
def V0 (n0:Nat):T0:=fun x0 x1 x2 x3 x4 x5 x6 x7=>bX (cG (E k) (dS Tryz.f37 7 23)) (bL 0 [1,3,23,24,25]) (K0 k a0) n0 (mk 69 1 [(1,.ptr 0 0 0),(3,.int .i64 x0),(23,.sl true aB x1),(24,.int .i64 x2),(25,.int .i64 x3)] [(0,.box [.sl true aB x4,.int .i64 x5,.int .i64 x6,.bool x7])])
theorem e0:V0 k a0=l0 k:=an (b:=b0 k) rfl (fun _=>by kernel_rfl) fun _=>rfl
end
theorem ctr:Cp 37 (C k):=ry (D k) (E:=E k) rfl rfl Tryz.func37 rfl fun ⟨a0,_⟩=>(show _=t k (V0 k a0 k) a0 by kernel_rfl).trans (by rw [e0];rfl)
end ay
namespace j5
def C:Cn:=⟨[.val aA,.val (.int .i64)],[aA],true,false,fun x=>f k x.1 x.2.1⟩
def D:List Ce:=[q (bD.ctr k),q (ay.ctr k),q (aZ.ctr k)]
theorem ctr:Cp 20 (C k):=rz k rfl (D k) Tryz.func20 rfl fun _=>by kernel_rfl
end j5
namespace bd
def C:Cn:=⟨[.val aA,.val .str],[(.int .i64)],true,false,fun x=>f k x.1 x.2.1⟩
def E:jj:=en [] [(2,[1,8,9,10])] 0 [] k
section
variable (a0:Ty.d aA) (a1:ByteArray)
def K0:Ex→St→Rs:=dZ (E k) (eK (E k) Tryz.f66 (C k) (a0,a1,())) [.blk 0,.code (dS Tryz.f66 2 3)]
def V0 (n0:Nat):T0:=fun x0 x1 x2 x3=>bX (cG (E k) (dS Tryz.f66 5 5)) (bL 0 [1,8,9,10]) (K0 k a0 a1) n0 (mk 21 0 [(1,.str x0),(8,.sl true aB x1),(9,.int .i64 x2),(10,.int .i64 x3)] [])
theorem e0:V0 k a0 a1=l0 k:=an (b:=b0 k) rfl (fun _=>by kernel_rfl) fun _=>rfl
end
theorem ctr:Cp 66 (C k):=ry [] (E:=E k) rfl rfl Tryz.func66 rfl fun ⟨a0,a1,_⟩=>(show _=t k (V0 k a0 a1 k) a0 a1 by kernel_rfl).trans (by rw [e0];rfl)
end bd
namespace bu
def C:Cn:=⟨[.val aA,.val .str],[.str,.bool],true,false,fun x=>f k x.1 x.2.1⟩
def D:List Ce:=[q (bd.ctr k),q (ay.ctr k)]
theorem ctr:Cp 53 (C k):=rz k rfl (D k) Tryz.func53 rfl fun _=>by kernel_rfl
end bu
namespace dE
def C:Cn:=⟨[.val .str],[(.int .i64),(.int .i64)],true,false,fun x=>f k x.1⟩
def E:jj:=en [] [(3,[0,4,5])] 0 [] k
section
variable (a0:ByteArray)
def K0:Ex→St→Rs:=dZ (E k) (eK (E k) Tryz.f125 (C k) (a0,())) [.blk 0,.code (dS Tryz.f125 3 7)]
def V0 (n0:Nat):T0:=fun x0 x1 x2=>bX (cG (E k) (dS Tryz.f125 6 11)) (bL 0 [0,4,5]) (K0 k a0) n0 (mk 39 0 [(0,.str x0),(4,.int .i64 x1),(5,.int .i64 x2)] [])
theorem e0:V0 k a0=l0 k:=an (b:=b0 k) rfl (fun _=>by kernel_rfl) fun _=>rfl
end
theorem ctr:Cp 125 (C k):=ry [] (E:=E k) rfl rfl Tryz.func125 rfl fun ⟨a0,_⟩=>(show _=t k (V0 k a0 k) a0 by kernel_rfl).trans (by rw [e0];rfl)
end dE
namespace fi
def C:Cn:=⟨[.val (.int .i64)],[.str],true,false,fun x=>f k x.1⟩
def D:List Ce:=[q (aZ.ctr k)]
def E:jj:=en (D k) [(4,[0,3])] 0 [] k
section
variable (a0:Int)
def K0:Ex→St→Rs:=dZ (E k) (eK (E k) Tryz.f163 (C k) (a0,())) [.blk 0,.code (dS Tryz.f163 4 15)]
def V0 (n0:Nat):T0:=fun x0 x1=>bX (cG (E k) (dS Tryz.f163 6 7)) (bL 0 [0,3]) (K0 k a0) n0 (mk 24 1 [(0,.int .i64 x0),(3,.ref 0)] [(0,.own false (.int .u8) x1)])
theorem e0:V0 k a0=l0 k:=an (b:=b0 k) rfl (fun _=>by kernel_rfl) fun _=>rfl
end
theorem ctr:Cp 163 (C k):=ry (D k) (E:=E k) rfl rfl Tryz.func163 rfl fun ⟨a0,_⟩=>(show _=t k (V0 k a0 k) a0 by kernel_rfl).trans (by rw [e0];rfl)
end fi
namespace eJ
def C:Cn:=⟨[.val .str],[.str],true,false,fun x=>f k x.1⟩
def D:List Ce:=[q (fi.ctr k)]
theorem ctr:Cp 155 (C k):=rz k rfl (D k) Tryz.func155 rfl fun _=>by kernel_rfl
end eJ
namespace gT
def C:Cn:=⟨[.val .str],[(.int .i64)],true,false,fun x=>f k x.1⟩
def E:jj:=en [] [(3,[0,3,4]),(7,[0,3,4,18])] 0 [] k
section
variable (a0:ByteArray)
def K0:Ex→St→Rs:=dZ (E k) (eK (E k) Tryz.f157 (C k) (a0,())) [.blk 0,.code (dS Tryz.f157 3 7)]
def B0 (n0:Nat):Ex→St→Rs:=Qn (E k) (dS Tryz.f157 6 11) 0 [0,3,4] (K0 k a0) n0
def K1 (n0:Nat):Ex→St→Rs:=dZ (E k) (B0 k a0 n0) [.blk 2,.blk 1,.code (dS Tryz.f157 8 203)]
def V0 (n0:Nat):T0:=fun x0 x1 x2=>bX (cG (E k) (dS Tryz.f157 6 11)) (bL 0 [0,3,4]) (K0 k a0) n0 (mk 32 0 [(0,.str x0),(3,.int .u32 x1),(4,.int .i64 x2)] [])
def V1 (n0 n1:Nat):T1:=fun x0 x1 x2 x3=>bX (cG (E k) (dS Tryz.f157 13 1611)) (bL 0 [0,3,4,18]) (K1 k a0 n0) n1 (mk 32 0 [(0,.str x0),(3,.int .u32 x1),(4,.int .i64 x2),(18,.int .i64 x3)] [])
theorem e1 (n0:Nat):V1 k a0 n0=l1 k (V0 k a0 n0):=an (b:=b1 k (V0 k a0 n0)) rfl (fun _=>by kernel_rfl) fun _=>rfl
theorem e0 (n0:Nat):V0 k a0 n0=l0 k n0:=by
 induction n0 with
 | zero=>rfl
 | succ n0 ih =>
  have h:V0 k a0 (n0+1)=b0 k (V1 k a0 n0 k) (V0 k a0 n0):=by kernel_rfl
  rw [h,e1,ih];rfl
end
theorem ctr:Cp 157 (C k):=ry [] (E:=E k) rfl rfl Tryz.func157 rfl fun ⟨a0,_⟩=>(show _=t k (V0 k a0 k) a0 by kernel_rfl).trans (by rw [e0];rfl)
end gT
namespace dm
def C:Cn:=⟨[.val (.int .i64),.val (.int .i64)],[.str],true,false,fun x=>f k x.1 x.2.1⟩
def D:List Ce:=[q (aZ.ctr k)]
def E:jj:=en (D k) [(5,[0,5,6])] 0 [] k
section
variable (a0:Int) (a1:Int)
def K0:Ex→St→Rs:=dZ (E k) (eK (E k) Tryz.f156 (C k) (a0,a1,())) [.blk 0,.code (dS Tryz.f156 4 15)]
def V0 (n0:Nat):T0:=fun x0 x1 x2=>bX (cG (E k) (dS Tryz.f156 7 23)) (bL 0 [0,5,6]) (K0 k a0 a1) n0 (mk 35 1 [(0,.int .i64 x0),(5,.ref 0),(6,.int .i64 x1)] [(0,.own false (.int .u8) x2)])
theorem e0:V0 k a0 a1=l0 k:=an (b:=b0 k) rfl (fun _=>by kernel_rfl) fun _=>rfl
end
theorem ctr:Cp 156 (C k):=ry (D k) (E:=E k) rfl rfl Tryz.func156 rfl fun ⟨a0,a1,_⟩=>(show _=t k (V0 k a0 a1 k) a0 a1 by kernel_rfl).trans (by rw [e0];rfl)
end dm
namespace gk
def C:Cn:=⟨[.val .str],[.str],true,false,fun x=>f k x.1⟩
def D:List Ce:=[q (eJ.ctr k),q (gT.ctr k),q (dm.ctr k)]
theorem ctr:Cp 126 (C k):=rz k rfl (D k) Tryz.func126 rfl fun _=>by kernel_rfl
end gk
namespace eC
def C:Cn:=⟨[.val .str],[.str,(.int .i64)],true,false,fun x=>f k x.1⟩
def D:List Ce:=[q (dE.ctr k),q (gk.ctr k)]
theorem ctr:Cp 88 (C k):=rz k rfl (D k) Tryz.func88 rfl fun _=>by kernel_rfl
end eC
namespace aN
def C:Cn:=⟨[.io true 0 my],[(.int .i64)],true,false,fun x=>f k x.1⟩
def D:List Ce:=[q (dE.ctr k)]
theorem ctr:Cp 90 (C k):=rz k rfl (D k) Tryz.func90 rfl fun _=>by kernel_rfl
end aN
namespace dM
def C:Cn:=⟨[.val cv],[.bool],true,false,fun x=>f k x.1⟩
def D:List Ce:=[q (aZ.ctr k)]
def E:jj:=en (D k) [(2,[1,6,7,8])] 0 [] k
section
variable (a0:Ty.d cv)
def K0:Ex→St→Rs:=dZ (E k) (eK (E k) Tryz.f91 (C k) (a0,())) [.blk 0,.code (dS Tryz.f91 2 3)]
def V0 (n0:Nat):T0:=fun x0 x1 x2 x3 x4=>bX (cG (E k) (dS Tryz.f91 5 5)) (bL 0 [1,6,7,8]) (K0 k a0) n0 (mk 43 1 [(1,.ptr 0 0 0),(6,.sl true (.int .i64) x0),(7,.int .i64 x1),(8,.int .i64 x2)] [(0,.box [.int .i64 x3,.sl true (.int .i64) x4])])
theorem e0:V0 k a0=l0 k:=an (b:=b0 k) rfl (fun _=>by kernel_rfl) fun _=>rfl
end
theorem ctr:Cp 91 (C k):=ry (D k) (E:=E k) rfl rfl Tryz.func91 rfl fun ⟨a0,_⟩=>(show _=t k (V0 k a0 k) a0 by kernel_rfl).trans (by rw [e0];rfl)
end dM
namespace bA
def C:Cn:=⟨[.val .str],[cv,.bool],true,false,fun x=>f k x.1⟩
def D:List Ce:=[q (eC.ctr k),q (aN.ctr k),q (dM.ctr k)]
def E:jj:=en (D k) [(6,[0,2,5,6,7,8,9])] 0 [] k
section
variable (a0:ByteArray)
def K0:Ex→St→Rs:=dZ (E k) (eK (E k) Tryz.f67 (C k) (a0,())) [.blk 0,.code (dS Tryz.f67 6 63)]
def V0 (n0:Nat):T0:=fun x0 x1 x2 x3 x4 x5 x6 x7 x8 x9=>bX (cG (E k) (dS Tryz.f67 9 95)) (bL 0 [0,2,5,6,7,8,9]) (K0 k a0) n0 (mk 72 5 [(0,.str x0),(2,.ptr 0 0 0),(5,.int .i64 x1),(6,.ptr 2 0 0),(7,.ptr 3 0 0),(8,.int .i64 x2),(9,.int .i64 x3)] [(1,.own false (.int .i64) x4),(0,.box [.int .i64 x5,.ref 1]),(2,.box [.str x6,.bool x7]),(4,.own false (.int .i64) x8),(3,.box [.int .i64 x9,.ref 4])])
theorem e0:V0 k a0=l0 k:=an (b:=b0 k) rfl (fun _=>by kernel_rfl) fun _=>rfl
end
theorem ctr:Cp 67 (C k):=ry (D k) (E:=E k) rfl rfl Tryz.func67 rfl fun ⟨a0,_⟩=>(show _=t k (V0 k a0 k) a0 by kernel_rfl).trans (by rw [e0];rfl)
end bA
namespace nj
def C:Cn:=⟨[.val (.int .i64)],[.str],true,false,fun x=>f k x.1⟩
def D:List Ce:=[q (nt.ctr k)]
theorem ctr:Cp 124 (C k):=rz k rfl (D k) Tryz.func124 rfl fun _=>by kernel_rfl
end nj
namespace jl
def C:Cn:=⟨[.val .str,.val (.int .i64)],[.str],true,false,fun x=>f k x.1 x.2.1⟩
def D:List Ce:=[q (aZ.ctr k),q (nj.ctr k)]
theorem ctr:Cp 87 (C k):=rz k rfl (D k) Tryz.func87 rfl fun _=>by kernel_rfl
end jl
namespace ai
def C:Cn:=⟨[.val (.int .i64)],[.str],true,false,fun x=>f k x.1⟩
def D:List Ce:=[q (jl.ctr k)]
theorem ctr:Cp 64 (C k):=rz k rfl (D k) Tryz.func64 rfl fun _=>by kernel_rfl
end ai
namespace aq
def C:Cn:=⟨[.io true 0 my,.val (.int .i64)],[.str],true,false,fun x=>f k x.1 x.2.1⟩
theorem ctr:Cp 129 (C k):=rz k rfl [] Tryz.func129 rfl fun _=>by kernel_rfl
end aq
namespace aj
def C:Cn:=⟨[.io true 0 my],[.str],true,false,fun x=>f k x.1⟩
def D:List Ce:=[q (aN.ctr k),q (aq.ctr k)]
theorem ctr:Cp 127 (C k):=rz k rfl (D k) Tryz.func127 rfl fun _=>by kernel_rfl
end aj
namespace dp
def C:Cn:=⟨[.val .str],[.bool],true,false,fun x=>f k x.1⟩
def D:List Ce:=[q (aZ.ctr k)]
theorem ctr:Cp 116 (C k):=rz k rfl (D k) Tryz.func116 rfl fun _=>by kernel_rfl
end dp
namespace gJ
def C:Cn:=⟨[.val bf],[.bool],true,false,fun x=>f k x.1⟩
def D:List Ce:=[q (dp.ctr k),q (aZ.ctr k)]
theorem ctr:Cp 130 (C k):=rz k rfl (D k) Tryz.func130 rfl fun _=>by kernel_rfl
end gJ
namespace cD
def C:Cn:=⟨[.val .str,.val (.int .i64)],[(.int .i64),.bool],true,false,fun x=>f k x.1 x.2.1⟩
def D:List Ce:=[q (aZ.ctr k)]
def E:jj:=en (D k) [(5,[0,6,17,18])] 0 [] k
section
variable (a0:ByteArray) (a1:Int)
def K0:Ex→St→Rs:=dZ (E k) (eK (E k) Tryz.f128 (C k) (a0,a1,())) [.blk 0,.code (dS Tryz.f128 4 15)]
def V0 (n0:Nat):T0:=fun x0 x1 x2 x3=>bX (cG (E k) (dS Tryz.f128 7 23)) (bL 0 [0,6,17,18]) (K0 k a0 a1) n0 (mk 30 0 [(0,.str x0),(6,.int .i64 x1),(17,.int .i64 x2),(18,.int .i64 x3)] [])
theorem e0:V0 k a0 a1=l0 k:=an (b:=b0 k) rfl (fun _=>by kernel_rfl) fun _=>rfl
end
theorem ctr:Cp 128 (C k):=ry (D k) (E:=E k) rfl rfl Tryz.func128 rfl fun ⟨a0,a1,_⟩=>(show _=t k (V0 k a0 a1 k) a0 a1 by kernel_rfl).trans (by rw [e0];rfl)
end cD
namespace dF
def C:Cn:=⟨[.val .str],[bf,.bool],true,false,fun x=>f k x.1⟩
def D:List Ce:=[q (aN.ctr k),q (aj.ctr k),q (gJ.ctr k),q (aq.ctr k),q (cD.ctr k)]
theorem ctr:Cp 89 (C k):=rz k rfl (D k) Tryz.func89 rfl fun _=>by kernel_rfl
end dF
namespace dL
def C:Cn:=⟨[.val .str],[(.slice d_),(.int .i64)],true,false,fun x=>f k x.1⟩
def D:List Ce:=[q (eC.ctr k),q (dF.ctr k)]
def E:jj:=en (D k) [(3,[0,4,5])] 0 [] k
section
variable (a0:ByteArray)
def K0:Ex→St→Rs:=dZ (E k) (eK (E k) Tryz.f92 (C k) (a0,())) [.blk 0]
def V0 (n0:Nat):T0:=fun x0 x1 x2=>bX (cG (E k) (dS Tryz.f92 5 7)) (bL 0 [0,4,5]) (K0 k a0) n0 (mk 40 1 [(0,.str x0),(4,.ref 0),(5,.int .i64 x1)] [(0,.own false d_ x2)])
theorem e0:V0 k a0=l0 k:=an (b:=b0 k) rfl (fun _=>by kernel_rfl) fun _=>rfl
end
theorem ctr:Cp 92 (C k):=ry (D k) (E:=E k) rfl rfl Tryz.func92 rfl fun ⟨a0,_⟩=>(show _=t k (V0 k a0 k) a0 by kernel_rfl).trans (by rw [e0];rfl)
end dL
namespace fA
def C:Cn:=⟨[.val (.int .i64),.val (.slice d_)],[(.slice aL)],true,false,fun x=>f k x.1 x.2.1⟩
def E:jj:=en [] [(3,[0,5,8,9,10])] 0 [] k
section
variable (a0:Int) (a1:List (Ty.d d_))
def K0:Ex→St→Rs:=dZ (E k) (eK (E k) Tryz.f93 (C k) (a0,a1,())) [.blk 0,.code (dS Tryz.f93 3 7)]
def V0 (n0:Nat):T0:=fun x0 x1 x2 x3 x4=>bX (cG (E k) (dS Tryz.f93 6 11)) (bL 0 [0,5,8,9,10]) (K0 k a0 a1) n0 (mk 27 1 [(0,.int .i64 x0),(5,.ref 0),(8,.sl true d_ x1),(9,.int .i64 x2),(10,.int .i64 x3)] [(0,.own false aL x4)])
theorem e0:V0 k a0 a1=l0 k:=an (b:=b0 k) rfl (fun _=>by kernel_rfl) fun _=>rfl
end
theorem ctr:Cp 93 (C k):=ry [] (E:=E k) rfl rfl Tryz.func93 rfl fun ⟨a0,a1,_⟩=>(show _=t k (V0 k a0 a1 k) a0 a1 by kernel_rfl).trans (by rw [e0];rfl)
end fA
namespace bM
def C:Cn:=⟨[.io true 0 am,.val cv],[(.slice (.slice aL)),(.int .i64),.bool],true,false,fun x=>f k x.1 x.2.1⟩
def D:List Ce:=[q (ai.ctr k),q (bu.ctr k),q (dL.ctr k),q (fA.ctr k)]
def E:jj:=en (D k) [(4,[0,3,7,8,16,17,18])] 1 [] k
section
variable (a0:Ty.d am) (a1:Ty.d cv)
def K0:Ex→St→Rs:=dZ (E k) (eK (E k) Tryz.f68 (C k) (a0,a1,())) [.blk 0,.code (dS Tryz.f68 4 15)]
def V0 (n0:Nat):T0:=fun x0 x1 x2 x3 x4 x5 x6 x7 x8 x9 x10 x11=>bX (cG (E k) (dS Tryz.f68 7 23)) (bL 1 [0,3,7,8,16,17,18]) (K0 k a0 a1) n0 (mk 64 4 [(0,.ptr 0 0 0),(3,.ptr 2 0 0),(7,.ref 3),(8,.int .i64 x0),(16,.sl true (.int .i64) x1),(17,.int .i64 x2),(18,.int .i64 x3)] [(1,.own false aB x4),(0,.box [.ref 1,.int .i64 x5,.int .i64 x6,.bool x7,.int .i64 x8]),(2,.box [.int .i64 x9,.sl true (.int .i64) x10]),(3,.own false (.slice aL) x11)])
theorem e0:V0 k a0 a1=l0 k:=an (b:=b0 k) rfl (fun _=>by kernel_rfl) fun _=>rfl
end
theorem ctr:Cp 68 (C k):=ry (D k) (E:=E k) rfl rfl Tryz.func68 rfl fun ⟨a0,a1,_⟩=>(show _=t k (V0 k a0 a1 k) a0 a1 by kernel_rfl).trans (by rw [e0];rfl)
end bM
namespace eY
def C:Cn:=⟨[.io true 0 aA,.io true 0 .str,.io true 0 (.int .i64)],[(.int .i64)],true,false,fun x=>f k x.1 x.2.1 x.2.2.1⟩
def D:List Ce:=[q (bd.ctr k),q (aZ.ctr k)]
theorem ctr:Cp 96 (C k):=rz k rfl (D k) Tryz.func96 rfl fun _=>by kernel_rfl
end eY
namespace fK
def C:Cn:=⟨[.val aA,.fn 96 2,.io true 0 .str,.io true 0 (.int .i64)],[aA,(.int .i64)],true,false,fun x=>f k x.1 x.2.1 x.2.2.1⟩
def D:List Ce:=[q (bD.ctr k),q (ay.ctr k),q (eY.ctr k)]
theorem ctr:Cp 95 (C k):=rz k rfl (D k) Tryz.func95 rfl fun _=>by kernel_rfl
end fK
namespace j8
def C:Cn:=⟨[.val aA,.val .str,.val (.int .i64)],[aA,(.int .i64)],true,false,fun x=>f k x.1 x.2.1 x.2.2.1⟩
def D:List Ce:=[q (fK.ctr k)]
theorem ctr:Cp 70 (C k):=rz k rfl (D k) Tryz.func70 rfl fun _=>by kernel_rfl
end j8
namespace mY
def C:Cn:=⟨[.val (.int .i64)],[(.int .i64)],true,false,fun x=>f k x.1⟩
theorem ctr:Cp 94 (C k):=rz k rfl [] Tryz.func94 rfl fun _=>by kernel_rfl
end mY
namespace az
def C:Cn:=⟨[.io true 0 am,.give aA,.val (.int .i64)],[],true,false,fun x=>f k x.1 x.2.1 x.2.2.1⟩
def D:List Ce:=[q (mY.ctr k)]
theorem ctr:Cp 69 (C k):=rz k rfl (D k) Tryz.func69 rfl fun _=>by kernel_rfl
end az
namespace iX
def C:Cn:=⟨[.io true 0 aA,.io true 0 .str],[(.int .i64)],true,false,fun x=>f k x.1 x.2.1⟩
def D:List Ce:=[q (bd.ctr k)]
theorem ctr:Cp 131 (C k):=rz k rfl (D k) Tryz.func131 rfl fun _=>by kernel_rfl
end iX
namespace iM
def C:Cn:=⟨[.val aA,.fn 131 1,.io true 0 .str],[aA,(.int .i64)],true,false,fun x=>f k x.1 x.2.1⟩
def D:List Ce:=[q (bD.ctr k),q (ay.ctr k),q (iX.ctr k)]
theorem ctr:Cp 95 (C k):=rz k rfl (D k) Tryz.func95 rfl fun _=>by kernel_rfl
end iM
namespace mU
def C:Cn:=⟨[.val aA,.val .str],[aA,(.int .i64)],true,false,fun x=>f k x.1 x.2.1⟩
def D:List Ce:=[q (iM.ctr k)]
theorem ctr:Cp 97 (C k):=rz k rfl (D k) Tryz.func97 rfl fun _=>by kernel_rfl
end mU
namespace bP
def C:Cn:=⟨[.io true 0 am,.val .str],[],true,false,fun x=>f k x.1 x.2.1⟩
def D:List Ce:=[q (mU.ctr k),q (az.ctr k)]
theorem ctr:Cp 71 (C k):=rz k rfl (D k) Tryz.func71 rfl fun _=>by kernel_rfl
end bP
namespace dW
def C:Cn:=⟨[.val (.int .i64)],[.str],true,false,fun x=>f k x.1⟩
def D:List Ce:=[q (jl.ctr k)]
theorem ctr:Cp 98 (C k):=rz k rfl (D k) Tryz.func98 rfl fun _=>by kernel_rfl
end dW
namespace eS
def C:Cn:=⟨[.val (.slice aC)],[.bool],true,false,fun x=>f k x.1⟩
def D:List Ce:=[q (dp.ctr k),q (aZ.ctr k)]
def E:jj:=en (D k) [(2,[0,5,6,7])] 0 [] k
section
variable (a0:List (Ty.d aC))
def K0:Ex→St→Rs:=dZ (E k) (eK (E k) Tryz.f111 (C k) (a0,())) [.blk 0,.code (dS Tryz.f111 2 3)]
def V0 (n0:Nat):T0:=fun x0 x1 x2 x3=>bX (cG (E k) (dS Tryz.f111 5 5)) (bL 0 [0,5,6,7]) (K0 k a0) n0 (mk 58 0 [(0,.sl true aC x0),(5,.sl true aC x1),(6,.int .i64 x2),(7,.int .i64 x3)] [])
theorem e0:V0 k a0=l0 k:=an (b:=b0 k) rfl (fun _=>by kernel_rfl) fun _=>rfl
end
theorem ctr:Cp 111 (C k):=ry (D k) (E:=E k) rfl rfl Tryz.func111 rfl fun ⟨a0,_⟩=>(show _=t k (V0 k a0 k) a0 by kernel_rfl).trans (by rw [e0];rfl)
end eS
namespace eO
def C:Cn:=⟨[.val iq],[.bool],true,false,fun x=>f k x.1⟩
def D:List Ce:=[q (aZ.ctr k),q (eS.ctr k)]
def E:jj:=en (D k) [(2,[1,6,7,8])] 0 [] k
section
variable (a0:Ty.d iq)
def K0:Ex→St→Rs:=dZ (E k) (eK (E k) Tryz.f132 (C k) (a0,())) [.blk 0,.code (dS Tryz.f132 2 3)]
def V0 (n0:Nat):T0:=fun x0 x1 x2 x3 x4 x5=>bX (cG (E k) (dS Tryz.f132 5 5)) (bL 0 [1,6,7,8]) (K0 k a0) n0 (mk 39 1 [(1,.ptr 0 0 0),(6,.sl true aC x0),(7,.int .i64 x1),(8,.int .i64 x2)] [(0,.box [.int .i64 x3,.int .i64 x4,.sl true aC x5])])
theorem e0:V0 k a0=l0 k:=an (b:=b0 k) rfl (fun _=>by kernel_rfl) fun _=>rfl
end
theorem ctr:Cp 132 (C k):=ry (D k) (E:=E k) rfl rfl Tryz.func132 rfl fun ⟨a0,_⟩=>(show _=t k (V0 k a0 k) a0 by kernel_rfl).trans (by rw [e0];rfl)
end eO
namespace dh
def C:Cn:=⟨[.val (.slice (.int .i64))],[.str],true,false,fun x=>f k x.1⟩
def D:List Ce:=[q (fi.ctr k)]
def E:jj:=en (D k) [(3,[3,6,7,8])] 0 [] k
section
variable (a0:List Int)
def K0:Ex→St→Rs:=dZ (E k) (eK (E k) Tryz.f146 (C k) (a0,())) [.blk 0,.code (dS Tryz.f146 3 7)]
def V0 (n0:Nat):T0:=fun x0 x1 x2 x3=>bX (cG (E k) (dS Tryz.f146 6 11)) (bL 0 [3,6,7,8]) (K0 k a0) n0 (mk 18 0 [(3,.str x0),(6,.sl true (.int .i64) x1),(7,.int .i64 x2),(8,.int .i64 x3)] [])
theorem e0:V0 k a0=l0 k:=an (b:=b0 k) rfl (fun _=>by kernel_rfl) fun _=>rfl
end
theorem ctr:Cp 146 (C k):=ry (D k) (E:=E k) rfl rfl Tryz.func146 rfl fun ⟨a0,_⟩=>(show _=t k (V0 k a0 k) a0 by kernel_rfl).trans (by rw [e0];rfl)
end dh
namespace dH
def C:Cn:=⟨[.val iq],[.str],true,false,fun x=>f k x.1⟩
def D:List Ce:=[q (eO.ctr k),q (dh.ctr k),q (eJ.ctr k),q (gT.ctr k),q (dm.ctr k)]
def E:jj:=en (D k) [(5,[3,19,20,21])] 0 [] k
section
variable (a0:Ty.d iq)
def K0:Ex→St→Rs:=dZ (E k) (eK (E k) Tryz.f133 (C k) (a0,())) [.blk 0,.code (dS Tryz.f133 4 15)]
def V0 (n0:Nat):T0:=fun x0 x1 x2 x3=>bX (cG (E k) (dS Tryz.f133 7 23)) (bL 0 [3,19,20,21]) (K0 k a0) n0 (mk 47 0 [(3,.str x0),(19,.sl true aC x1),(20,.int .i64 x2),(21,.int .i64 x3)] [])
theorem e0:V0 k a0=l0 k:=an (b:=b0 k) rfl (fun _=>by kernel_rfl) fun _=>rfl
end
theorem ctr:Cp 133 (C k):=ry (D k) (E:=E k) rfl rfl Tryz.func133 rfl fun ⟨a0,_⟩=>(show _=t k (V0 k a0 k) a0 by kernel_rfl).trans (by rw [e0];rfl)
end dH
namespace bC
def C:Cn:=⟨[.val .str],[iq,.bool],true,false,fun x=>f k x.1⟩
def D:List Ce:=[q (aq.ctr k),q (aN.ctr k),q (aj.ctr k),q (eO.ctr k),q (dH.ctr k)]
def E:jj:=en (D k) [(8,[0,2,4,5,6,7])] 0 [] k
section
variable (a0:ByteArray)
def K0:Ex→St→Rs:=dZ (E k) (eK (E k) Tryz.f99 (C k) (a0,())) [.blk 0,.code (dS Tryz.f99 8 255)]
def V0 (n0:Nat):T0:=fun x0 x1 x2 x3 x4 x5 x6 x7 x8 x9 x10=>bX (cG (E k) (dS Tryz.f99 11 383)) (bL 0 [0,2,4,5,6,7]) (K0 k a0) n0 (mk 72 5 [(0,.str x0),(2,.ptr 0 0 0),(4,.ptr 2 0 0),(5,.ptr 3 0 0),(6,.int .i64 x1),(7,.int .i64 x2)] [(1,.own false aC x3),(0,.box [.int .i64 x4,.int .i64 x5,.ref 1]),(2,.box [.str x6,.bool x7]),(4,.own false aC x8),(3,.box [.int .i64 x9,.int .i64 x10,.ref 4])])
theorem e0:V0 k a0=l0 k:=an (b:=b0 k) rfl (fun _=>by kernel_rfl) fun _=>rfl
end
theorem ctr:Cp 99 (C k):=ry (D k) (E:=E k) rfl rfl Tryz.func99 rfl fun ⟨a0,_⟩=>(show _=t k (V0 k a0 k) a0 by kernel_rfl).trans (by rw [e0];rfl)
end bC
namespace gD
def C:Cn:=⟨[.val bf],[.str],true,false,fun x=>f k x.1⟩
def D:List Ce:=[q (gJ.ctr k),q (dh.ctr k),q (eJ.ctr k),q (fi.ctr k),q (dm.ctr k)]
theorem ctr:Cp 148 (C k):=rz k rfl (D k) Tryz.func148 rfl fun _=>by kernel_rfl
end gD
namespace gN
def C:Cn:=⟨[.val (.slice bf)],[(.int .i64)],true,false,fun x=>f k x.1⟩
def D:List Ce:=[q (gD.ctr k),q (gT.ctr k)]
def E:jj:=en (D k) [(3,[3,6,7,8])] 0 [] k
section
variable (a0:List (Ty.d bf))
def K0:Ex→St→Rs:=dZ (E k) (eK (E k) Tryz.f136 (C k) (a0,())) [.blk 0,.code (dS Tryz.f136 3 7)]
def V0 (n0:Nat):T0:=fun x0 x1 x2 x3=>bX (cG (E k) (dS Tryz.f136 6 11)) (bL 0 [3,6,7,8]) (K0 k a0) n0 (mk 19 0 [(3,.str x0),(6,.sl true bf x1),(7,.int .i64 x2),(8,.int .i64 x3)] [])
theorem e0:V0 k a0=l0 k:=an (b:=b0 k) rfl (fun _=>by kernel_rfl) fun _=>rfl
end
theorem ctr:Cp 136 (C k):=ry (D k) (E:=E k) rfl rfl Tryz.func136 rfl fun ⟨a0,_⟩=>(show _=t k (V0 k a0 k) a0 by kernel_rfl).trans (by rw [e0];rfl)
end gN
namespace h_
def C:Cn:=⟨[.val bf,.val (.slice aL)],[.bool],true,false,fun x=>f k x.1 x.2.1⟩
def D:List Ce:=[q (gN.ctr k)]
def E:jj:=en (D k) [(3,[2,5,8,9,10])] 0 [] k
section
variable (a0:Ty.d bf) (a1:List (Ty.d aL))
def K0:Ex→St→Rs:=dZ (E k) (eK (E k) Tryz.f102 (C k) (a0,a1,())) [.blk 0,.code (dS Tryz.f102 3 7)]
def V0 (n0:Nat):T0:=fun x0 x1 x2 x3 x4 x5 x6 x7 x8 x9=>bX (cG (E k) (dS Tryz.f102 6 11)) (bL 0 [2,5,8,9,10]) (K0 k a0 a1) n0 (mk 32 2 [(2,.ptr 0 0 0),(5,.ref 1),(8,.sl true aL x0),(9,.int .i64 x1),(10,.int .i64 x2)] [(0,.box [.int .i64 x3,.int .i64 x4,.str x5,.str x6,.int .i64 x7,.int .i64 x8]),(1,.own false bf x9)])
theorem e0:V0 k a0 a1=l0 k:=an (b:=b0 k) rfl (fun _=>by kernel_rfl) fun _=>rfl
end
theorem ctr:Cp 102 (C k):=ry (D k) (E:=E k) rfl rfl Tryz.func102 rfl fun ⟨a0,a1,_⟩=>(show _=t k (V0 k a0 a1 k) a0 a1 by kernel_rfl).trans (by rw [e0];rfl)
end h_
namespace eQ
def C:Cn:=⟨[.val (.int .i64),.val .str],[iq,.bool],true,false,fun x=>f k x.1 x.2.1⟩
def D:List Ce:=[q (dL.ctr k),q (aZ.ctr k),q (fA.ctr k),q (h_.ctr k)]
def E:jj:=en (D k) [(7,[0,4,6,9,67,68,69])] 0 [] k
section
variable (a0:Int) (a1:ByteArray)
def K0:Ex→St→Rs:=dZ (E k) (eK (E k) Tryz.f134 (C k) (a0,a1,())) [.blk 0,.code (dS Tryz.f134 6 63)]
def V0 (n0:Nat):T0:=fun x0 x1 x2 x3 x4 x5 x6 x7 x8 x9 x10=>bX (cG (E k) (dS Tryz.f134 9 95)) (bL 0 [0,4,6,9,67,68,69]) (K0 k a0 a1) n0 (mk 123 4 [(0,.int .i64 x0),(4,.ptr 0 0 0),(6,.sl false d_ x1),(9,.ptr 2 0 0),(67,.sl false d_ x2),(68,.int .i64 x3),(69,.int .i64 x4)] [(1,.own false aC x5),(0,.box [.int .i64 x6,.int .i64 x7,.ref 1]),(3,.own false aC x8),(2,.box [.int .i64 x9,.int .i64 x10,.ref 3])])
theorem e0:V0 k a0 a1=l0 k:=an (b:=b0 k) rfl (fun _=>by kernel_rfl) fun _=>rfl
end
theorem ctr:Cp 134 (C k):=ry (D k) (E:=E k) rfl rfl Tryz.func134 rfl fun ⟨a0,a1,_⟩=>(show _=t k (V0 k a0 a1 k) a0 a1 by kernel_rfl).trans (by rw [e0];rfl)
end eQ
namespace fe
def C:Cn:=⟨[.val (.slice aC),.val (.slice aC)],[.bool],true,false,fun x=>f k x.1 x.2.1⟩
def E:jj:=en [] [(4,[0,1,12,13])] 0 [] k
section
variable (a0:List (Ty.d aC)) (a1:List (Ty.d aC))
def K0:Ex→St→Rs:=dZ (E k) (eK (E k) Tryz.f135 (C k) (a0,a1,())) [.blk 0,.code (dS Tryz.f135 3 7)]
def V0 (n0:Nat):T0:=fun x0 x1 x2 x3=>bX (cG (E k) (dS Tryz.f135 6 11)) (bL 0 [0,1,12,13]) (K0 k a0 a1) n0 (mk 26 0 [(0,.sl true aC x0),(1,.sl true aC x1),(12,.int .i64 x2),(13,.int .i64 x3)] [])
theorem e0:V0 k a0 a1=l0 k:=an (b:=b0 k) rfl (fun _=>by kernel_rfl) fun _=>rfl
end
theorem ctr:Cp 135 (C k):=ry [] (E:=E k) rfl rfl Tryz.func135 rfl fun ⟨a0,a1,_⟩=>(show _=t k (V0 k a0 a1 k) a0 a1 by kernel_rfl).trans (by rw [e0];rfl)
end fe
namespace j6
def C:Cn:=⟨[.val (.int .i64),.val .str,.val iq],[.bool],true,false,fun x=>f k x.1 x.2.1 x.2.2.1⟩
def D:List Ce:=[q (eQ.ctr k),q (fe.ctr k)]
theorem ctr:Cp 100 (C k):=rz k rfl (D k) Tryz.func100 rfl fun _=>by kernel_rfl
end j6
namespace dA
def C:Cn:=⟨[.io true 0 am,.val (.int .i64)],[kR,.bool],true,false,fun x=>f k x.1 x.2.1⟩
def D:List Ce:=[q (dW.ctr k),q (bu.ctr k),q (bC.ctr k),q (ai.ctr k),q (j6.ctr k)]
theorem ctr:Cp 72 (C k):=rz k rfl (D k) Tryz.func72 rfl fun _=>by kernel_rfl
end dA
namespace cL
def C:Cn:=⟨[.val (.slice aC)],[(.slice aC)],true,false,fun x=>f k x.1⟩
theorem ctr:Cp 78 (C k):=rz k rfl [] Tryz.func78 rfl fun _=>by kernel_rfl
end cL
namespace dO
def C:Cn:=⟨[.val (.slice aL),.val bf],[(.slice aL)],true,false,fun x=>f k x.1 x.2.1⟩
def E:jj:=en [] [(3,[3,5,9,10,11])] 0 [] k
section
variable (a0:List (Ty.d aL)) (a1:Ty.d bf)
def K0:Ex→St→Rs:=dZ (E k) (eK (E k) Tryz.f101 (C k) (a0,a1,())) [.blk 0,.code (dS Tryz.f101 3 7)]
def V0 (n0:Nat):T0:=fun x0 x1 x2 x3 x4 x5 x6 x7 x8 x9=>bX (cG (E k) (dS Tryz.f101 6 11)) (bL 0 [3,5,9,10,11]) (K0 k a0 a1) n0 (mk 62 2 [(3,.ptr 0 0 0),(5,.ref 1),(9,.sl true aL x0),(10,.int .i64 x1),(11,.int .i64 x2)] [(0,.box [.int .i64 x3,.int .i64 x4,.str x5,.str x6,.int .i64 x7,.int .i64 x8]),(1,.own false aL x9)])
theorem e0:V0 k a0 a1=l0 k:=an (b:=b0 k) rfl (fun _=>by kernel_rfl) fun _=>rfl
end
theorem ctr:Cp 101 (C k):=ry [] (E:=E k) rfl rfl Tryz.func101 rfl fun ⟨a0,a1,_⟩=>(show _=t k (V0 k a0 a1 k) a0 a1 by kernel_rfl).trans (by rw [e0];rfl)
end dO
namespace cE
def C:Cn:=⟨[.val (.slice aC),.val .str],[(.slice aC)],true,false,fun x=>f k x.1 x.2.1⟩
def E:jj:=en [] [(3,[1,5,8,9,10])] 0 [] k
section
variable (a0:List (Ty.d aC)) (a1:ByteArray)
def K0:Ex→St→Rs:=dZ (E k) (eK (E k) Tryz.f137 (C k) (a0,a1,())) [.blk 0,.code (dS Tryz.f137 3 7)]
def V0 (n0:Nat):T0:=fun x0 x1 x2 x3 x4=>bX (cG (E k) (dS Tryz.f137 6 11)) (bL 0 [1,5,8,9,10]) (K0 k a0 a1) n0 (mk 24 1 [(1,.str x0),(5,.ref 0),(8,.sl true aC x1),(9,.int .i64 x2),(10,.int .i64 x3)] [(0,.own false aC x4)])
theorem e0:V0 k a0 a1=l0 k:=an (b:=b0 k) rfl (fun _=>by kernel_rfl) fun _=>rfl
end
theorem ctr:Cp 137 (C k):=ry [] (E:=E k) rfl rfl Tryz.func137 rfl fun ⟨a0,a1,_⟩=>(show _=t k (V0 k a0 a1 k) a0 a1 by kernel_rfl).trans (by rw [e0];rfl)
end cE
namespace dG
def C:Cn:=⟨[.val (.slice aC),.val aC],[(.slice aC)],true,false,fun x=>f k x.1 x.2.1⟩
def D:List Ce:=[q (cE.ctr k),q (cL.ctr k)]
def E:jj:=en (D k) [(3,[3,5,6])] 0 [] k
section
variable (a0:List (Ty.d aC)) (a1:Ty.d aC)
def K0:Ex→St→Rs:=dZ (E k) (eK (E k) Tryz.f138 (C k) (a0,a1,())) [.blk 0,.code (dS Tryz.f138 4 15)]
def V0 (n0:Nat):T0:=fun x0 x1 x2 x3 x4 x5 x6=>bX (cG (E k) (dS Tryz.f138 6 7)) (bL 0 [3,5,6]) (K0 k a0 a1) n0 (mk 38 2 [(3,.ptr 0 0 0),(5,.ref 1),(6,.int .i64 x0)] [(0,.box [.str x1,.int .i64 x2,.int .i64 x3,.int .i64 x4,.int .i64 x5]),(1,.own false aC x6)])
theorem e0:V0 k a0 a1=l0 k:=an (b:=b0 k) rfl (fun _=>by kernel_rfl) fun _=>rfl
end
theorem ctr:Cp 138 (C k):=ry (D k) (E:=E k) rfl rfl Tryz.func138 rfl fun ⟨a0,a1,_⟩=>(show _=t k (V0 k a0 a1 k) a0 a1 by kernel_rfl).trans (by rw [e0];rfl)
end dG
namespace cQ
def C:Cn:=⟨[.io true 0 kR,.val (.slice aL)],[],true,false,fun x=>f k x.1 x.2.1⟩
def D:List Ce:=[q (cE.ctr k),q (dG.ctr k)]
def E:jj:=en (D k) [(1,[0,6,7,8])] 1 [] k
section
variable (a0:Ty.d kR) (a1:List (Ty.d aL))
def K0:Ex→St→Rs:=dZ (E k) (eK (E k) Tryz.f103 (C k) (a0,a1,())) [.blk 0,.code (dS Tryz.f103 1 1)]
def V0 (n0:Nat):T0:=fun x0 x1 x2 x3 x4 x5=>bX (cG (E k) (dS Tryz.f103 4 2)) (bL 1 [0,6,7,8]) (K0 k a0 a1) n0 (mk 58 2 [(0,.ptr 0 0 0),(6,.sl true aL x0),(7,.int .i64 x1),(8,.int .i64 x2)] [(1,.own false aC x3),(0,.box [.ref 1,.int .i64 x4,.int .i64 x5])])
theorem e0:V0 k a0 a1=l0 k:=an (b:=b0 k) rfl (fun _=>by kernel_rfl) fun _=>rfl
end
theorem ctr:Cp 103 (C k):=ry (D k) (E:=E k) rfl rfl Tryz.func103 rfl fun ⟨a0,a1,_⟩=>(show _=t k (V0 k a0 a1 k) a0 a1 by kernel_rfl).trans (by rw [e0];rfl)
end cQ
namespace dl
def C:Cn:=⟨[.val kR,.val (.slice aL)],[kR],true,false,fun x=>f k x.1 x.2.1⟩
def D:List Ce:=[q (cL.ctr k),q (dO.ctr k),q (h_.ctr k),q (cQ.ctr k)]
def E:jj:=en (D k) [(3,[1,4,5,17,18,19])] 0 [] k
section
variable (a0:Ty.d kR) (a1:List (Ty.d aL))
def K0:Ex→St→Rs:=dZ (E k) (eK (E k) Tryz.f73 (C k) (a0,a1,())) [.blk 0,.code (dS Tryz.f73 3 7)]
def V0 (n0:Nat):T0:=fun x0 x1 x2 x3 x4 x5 x6 x7 x8 x9=>bX (cG (E k) (dS Tryz.f73 6 11)) (bL 0 [1,4,5,17,18,19]) (K0 k a0 a1) n0 (mk 77 4 [(1,.sl true aL x0),(4,.ptr 0 0 0),(5,.ptr 2 0 0),(17,.sl true aL x1),(18,.int .i64 x2),(19,.int .i64 x3)] [(1,.own false aC x4),(0,.box [.ref 1,.int .i64 x5,.int .i64 x6]),(3,.own false aC x7),(2,.box [.ref 3,.int .i64 x8,.int .i64 x9])])
theorem e0:V0 k a0 a1=l0 k:=an (b:=b0 k) rfl (fun _=>by kernel_rfl) fun _=>rfl
end
theorem ctr:Cp 73 (C k):=ry (D k) (E:=E k) rfl rfl Tryz.func73 rfl fun ⟨a0,a1,_⟩=>(show _=t k (V0 k a0 a1 k) a0 a1 by kernel_rfl).trans (by rw [e0];rfl)
end dl
namespace ln
def C:Cn:=⟨[.val .str],[(.int .i64),.bool],true,false,fun x=>f k x.1⟩
def D:List Ce:=[q (iU.ctr k),q (d5.ctr k),q (aZ.ctr k)]
theorem ctr:Cp 139 (C k):=rz k rfl (D k) Tryz.func139 rfl fun _=>by kernel_rfl
end ln
namespace gX
def C:Cn:=⟨[.val (.slice (.int .i64)),.val (.int .i64)],[.bool],true,false,fun x=>f k x.1 x.2.1⟩
def E:jj:=en [] [(2,[1,7,8,9])] 0 [] k
section
variable (a0:List Int) (a1:Int)
def K0:Ex→St→Rs:=dZ (E k) (eK (E k) Tryz.f140 (C k) (a0,a1,())) [.blk 0,.code (dS Tryz.f140 2 3)]
def V0 (n0:Nat):T0:=fun x0 x1 x2 x3=>bX (cG (E k) (dS Tryz.f140 5 5)) (bL 0 [1,7,8,9]) (K0 k a0 a1) n0 (mk 17 0 [(1,.int .i64 x0),(7,.sl true (.int .i64) x1),(8,.int .i64 x2),(9,.int .i64 x3)] [])
theorem e0:V0 k a0 a1=l0 k:=an (b:=b0 k) rfl (fun _=>by kernel_rfl) fun _=>rfl
end
theorem ctr:Cp 140 (C k):=ry [] (E:=E k) rfl rfl Tryz.func140 rfl fun ⟨a0,a1,_⟩=>(show _=t k (V0 k a0 a1 k) a0 a1 by kernel_rfl).trans (by rw [e0];rfl)
end gX
namespace ff
def C:Cn:=⟨[.val aA,.val cv],[(.slice .str)],true,false,fun x=>f k x.1 x.2.1⟩
def D:List Ce:=[q (ay.ctr k),q (ln.ctr k),q (gX.ctr k)]
def E:jj:=en (D k) [(5,[3,5,14,15,16])] 0 [] k
section
variable (a0:Ty.d aA) (a1:Ty.d cv)
def K0:Ex→St→Rs:=dZ (E k) (eK (E k) Tryz.f104 (C k) (a0,a1,())) [.blk 0,.code (dS Tryz.f104 4 15)]
def V0 (n0:Nat):T0:=fun x0 x1 x2 x3 x4 x5=>bX (cG (E k) (dS Tryz.f104 7 23)) (bL 0 [3,5,14,15,16]) (K0 k a0 a1) n0 (mk 46 2 [(3,.ptr 0 0 0),(5,.ref 1),(14,.sl true aB x0),(15,.int .i64 x1),(16,.int .i64 x2)] [(0,.box [.int .i64 x3,.sl true (.int .i64) x4]),(1,.own false .str x5)])
theorem e0:V0 k a0 a1=l0 k:=an (b:=b0 k) rfl (fun _=>by kernel_rfl) fun _=>rfl
end
theorem ctr:Cp 104 (C k):=ry (D k) (E:=E k) rfl rfl Tryz.func104 rfl fun ⟨a0,a1,_⟩=>(show _=t k (V0 k a0 a1 k) a0 a1 by kernel_rfl).trans (by rw [e0];rfl)
end ff
namespace eV
def C:Cn:=⟨[.io true 0 aA,.val .str],[],true,false,fun x=>f k x.1 x.2.1⟩
def D:List Ce:=[q (bd.ctr k)]
theorem ctr:Cp 161 (C k):=rz k rfl (D k) Tryz.func161 rfl fun _=>by kernel_rfl
end eV
namespace g9
def C:Cn:=⟨[.io true 0 aA,.io true 0 .str],[(.int .i64)],true,false,fun x=>f k x.1 x.2.1⟩
def D:List Ce:=[q (bd.ctr k),q (eV.ctr k)]
theorem ctr:Cp 160 (C k):=rz k rfl (D k) Tryz.func160 rfl fun _=>by kernel_rfl
end g9
namespace gM
def C:Cn:=⟨[.val aA,.fn 160 1,.io true 0 .str],[aA,(.int .i64)],true,false,fun x=>f k x.1 x.2.1⟩
def D:List Ce:=[q (bD.ctr k),q (ay.ctr k),q (g9.ctr k)]
theorem ctr:Cp 95 (C k):=rz k rfl (D k) Tryz.func95 rfl fun _=>by kernel_rfl
end gM
namespace kK
def C:Cn:=⟨[.val aA,.val .str],[aA,(.int .i64)],true,false,fun x=>f k x.1 x.2.1⟩
def D:List Ce:=[q (gM.ctr k)]
theorem ctr:Cp 141 (C k):=rz k rfl (D k) Tryz.func141 rfl fun _=>by kernel_rfl
end kK
namespace bH
def C:Cn:=⟨[.io true 0 am,.val .str],[],true,false,fun x=>f k x.1 x.2.1⟩
def D:List Ce:=[q (bd.ctr k),q (kK.ctr k),q (az.ctr k)]
theorem ctr:Cp 105 (C k):=rz k rfl (D k) Tryz.func105 rfl fun _=>by kernel_rfl
end bH
namespace af
def C:Cn:=⟨[.io true 0 am,.val cv],[],true,false,fun x=>f k x.1 x.2.1⟩
def D:List Ce:=[q (ff.ctr k),q (bH.ctr k)]
def E:jj:=en (D k) [(2,[0,11,12,13])] 1 [] k
section
variable (a0:Ty.d am) (a1:Ty.d cv)
def K0:Ex→St→Rs:=dZ (E k) (eK (E k) Tryz.f74 (C k) (a0,a1,())) [.blk 0]
def V0 (n0:Nat):T0:=fun x0 x1 x2 x3 x4 x5 x6 x7=>bX (cG (E k) (dS Tryz.f74 4 3)) (bL 1 [0,11,12,13]) (K0 k a0 a1) n0 (mk 21 3 [(0,.ptr 0 0 0),(11,.ref 2),(12,.int .i64 x0),(13,.int .i64 x1)] [(1,.own false aB x2),(0,.box [.ref 1,.int .i64 x3,.int .i64 x4,.bool x5,.int .i64 x6]),(2,.own false .str x7)])
theorem e0:V0 k a0 a1=l0 k:=an (b:=b0 k) rfl (fun _=>by kernel_rfl) fun _=>rfl
end
theorem ctr:Cp 74 (C k):=ry (D k) (E:=E k) rfl rfl Tryz.func74 rfl fun ⟨a0,a1,_⟩=>(show _=t k (V0 k a0 a1 k) a0 a1 by kernel_rfl).trans (by rw [e0];rfl)
end af
namespace aP
def C:Cn:=⟨[.io true 0 am,.val .str],[aE],true,false,fun x=>f k x.1 x.2.1⟩
def D:List Ce:=[q (bA.ctr k),q (bM.ctr k),q (ai.ctr k),q (bu.ctr k),q (j8.ctr k),q (az.ctr k),q (bP.ctr k),q (dA.ctr k),q (dl.ctr k),q (af.ctr k)]
def E:jj:=en (D k) [(20,[0,4,5,13,14,16,103,104,105])] 1 [] k
section
variable (a0:Ty.d am) (a1:ByteArray)
def K0:Ex→St→Rs:=dZ (E k) (eK (E k) Tryz.f54 (C k) (a0,a1,())) [.blk 0,.code (dS Tryz.f54 13 8191)]
def V0 (n0:Nat):T0:=fun x0 x1 x2 x3 x4 x5 x6 x7 x8 x9 x10 x11 x12 x13 x14 x15 x16 x17 x18 x19 x20 x21 x22 x23 x24=>bX (cG (E k) (dS Tryz.f54 16 12287)) (bL 1 [0,4,5,13,14,16,103,104,105]) (K0 k a0 a1) n0 (mk 134 12 [(0,.ptr 0 0 0),(4,.ptr 2 0 0),(5,.ptr 5 0 0),(13,.ptr 7 0 0),(14,.ptr 9 0 0),(16,.ref 11),(103,.sl false (.slice aL) x0),(104,.int .i64 x1),(105,.int .i64 x2)] [(1,.own false aB x3),(0,.box [.ref 1,.int .i64 x4,.int .i64 x5,.bool x6,.int .i64 x7]),(3,.own false (.int .i64) x8),(4,.own false aC x9),(2,.box [.int .i64 x10,.ref 3,.ref 4,.int .i64 x11,.int .i64 x12,.int .i64 x13]),(6,.own false (.int .i64) x14),(5,.box [.int .i64 x15,.ref 6]),(8,.own false aC x16),(7,.box [.int .i64 x17,.ref 6,.ref 8,.int .i64 x18,.int .i64 x19,.int .i64 x20]),(10,.own false aC x21),(9,.box [.ref 10,.int .i64 x22,.int .i64 x23]),(11,.own false aL x24)])
def V1 (n0:Nat):T1:=fun x0 x1 x2 x3 x4 x5 x6 x7 x8 x9 x10 x11 x12 x13 x14 x15 x16 x17 x18 x19 x20 x21 x22 x23 x24=>bX (cG (E k) (dS Tryz.f54 16 12287)) (bL 1 [0,4,5,13,14,16,103,104,105]) (K0 k a0 a1) n0 (mk 134 13 [(0,.ptr 0 0 0),(4,.ptr 2 0 0),(5,.ptr 5 0 0),(13,.ptr 7 0 0),(14,.ptr 9 0 0),(16,.ref 11),(103,.ref 12),(104,.int .i64 x0),(105,.int .i64 x1)] [(1,.own false aB x2),(0,.box [.ref 1,.int .i64 x3,.int .i64 x4,.bool x5,.int .i64 x6]),(3,.own false (.int .i64) x7),(4,.own false aC x8),(2,.box [.int .i64 x9,.ref 3,.ref 4,.int .i64 x10,.int .i64 x11,.int .i64 x12]),(6,.own false (.int .i64) x13),(5,.box [.int .i64 x14,.ref 6]),(8,.own false aC x15),(7,.box [.int .i64 x16,.ref 6,.ref 8,.int .i64 x17,.int .i64 x18,.int .i64 x19]),(10,.own false aC x20),(9,.box [.ref 10,.int .i64 x21,.int .i64 x22]),(11,.own false aL x23),(12,.own false (.slice aL) x24)])
def V2 (n0:Nat):T2:=fun x0 x1 x2 x3 x4 x5 x6 x7 x8 x9 x10 x11 x12 x13 x14 x15 x16 x17 x18 x19 x20 x21 x22 x23 x24=>bX (cG (E k) (dS Tryz.f54 16 12287)) (bL 1 [0,4,5,13,14,16,103,104,105]) (K0 k a0 a1) n0 (mk 134 12 [(0,.ptr 0 0 0),(4,.ptr 2 0 0),(5,.ptr 5 0 0),(13,.ptr 7 0 0),(14,.ptr 9 0 0),(16,.ref 11),(103,.sl false (.slice aL) x0),(104,.int .i64 x1),(105,.int .i64 x2)] [(1,.own false aB x3),(0,.box [.ref 1,.int .i64 x4,.int .i64 x5,.bool x6,.int .i64 x7]),(3,.own false (.int .i64) x8),(4,.own false aC x9),(2,.box [.int .i64 x10,.ref 3,.ref 4,.int .i64 x11,.int .i64 x12,.int .i64 x13]),(6,.own false (.int .i64) x14),(5,.box [.int .i64 x15,.ref 6]),(8,.own false aC x16),(7,.box [.int .i64 x17,.ref 6,.ref 8,.int .i64 x18,.int .i64 x19,.int .i64 x20]),(10,.own false aC x21),(9,.box [.ref 10,.int .i64 x22,.int .i64 x23]),(11,.own false aL x24)])
def V3 (n0:Nat):T3:=fun x0 x1 x2 x3 x4 x5 x6 x7 x8 x9 x10 x11 x12 x13 x14 x15 x16 x17 x18 x19 x20 x21 x22 x23 x24=>bX (cG (E k) (dS Tryz.f54 16 12287)) (bL 1 [0,4,5,13,14,16,103,104,105]) (K0 k a0 a1) n0 (mk 134 13 [(0,.ptr 0 0 0),(4,.ptr 2 0 0),(5,.ptr 5 0 0),(13,.ptr 7 0 0),(14,.ptr 9 0 0),(16,.ref 11),(103,.ref 12),(104,.int .i64 x0),(105,.int .i64 x1)] [(1,.own false aB x2),(0,.box [.ref 1,.int .i64 x3,.int .i64 x4,.bool x5,.int .i64 x6]),(3,.own false (.int .i64) x7),(4,.own false aC x8),(2,.box [.int .i64 x9,.ref 3,.ref 4,.int .i64 x10,.int .i64 x11,.int .i64 x12]),(6,.own false (.int .i64) x13),(5,.box [.int .i64 x14,.ref 6]),(8,.own false aC x15),(7,.box [.int .i64 x16,.ref 6,.ref 8,.int .i64 x17,.int .i64 x18,.int .i64 x19]),(10,.own false aC x20),(9,.box [.ref 10,.int .i64 x21,.int .i64 x22]),(11,.own false aL x23),(12,.own false (.slice aL) x24)])
theorem e0:V0 k a0 a1=l0 k:=an (b:=b0 k) rfl (fun _=>by kernel_rfl) fun _=>rfl
theorem e1:V1 k a0 a1=l1 k:=an (b:=b1 k) rfl (fun _=>by kernel_rfl) fun _=>rfl
theorem e2:V2 k a0 a1=l2 k:=an (b:=b2 k) rfl (fun _=>by kernel_rfl) fun _=>rfl
theorem e3:V3 k a0 a1=l3 k:=an (b:=b3 k) rfl (fun _=>by kernel_rfl) fun _=>rfl
end
theorem ctr:Cp 54 (C k):=ry (D k) (E:=E k) rfl rfl Tryz.func54 rfl fun ⟨a0,a1,_⟩=>(show _=t k (V0 k a0 a1 k) (V1 k a0 a1 k) (V2 k a0 a1 k) (V3 k a0 a1 k) a0 a1 by kernel_rfl).trans (by rw [e0,e1,e2,e3];rfl)
end aP
namespace dP
def C:Cn:=⟨[.io true 0 aA,.val aB],[],true,false,fun x=>f k x.1 x.2.1⟩
def E:jj:=en [] [(2,[0,3,4])] 1 [] k
section
variable (a0:Ty.d aA) (a1:Ty.d aB)
def K0:Ex→St→Rs:=dZ (E k) (eK (E k) Tryz.f143 (C k) (a0,a1,())) [.blk 0,.code (dS Tryz.f143 3 7)]
def V0 (n0:Nat):T0:=fun x0 x1 x2 x3 x4 x5 x6 x7=>bX (cG (E k) (dS Tryz.f143 5 3)) (bL 1 [0,3,4]) (K0 k a0 a1) n0 (mk 47 3 [(0,.ptr 0 0 0),(3,.ptr 2 0 0),(4,.int .i64 x0)] [(1,.own false aB x1),(0,.box [.ref 1,.int .i64 x2,.int .i64 x3,.bool x4]),(2,.box [.str x5,.str x6,.int .i64 x7])])
theorem e0:V0 k a0 a1=l0 k:=an (b:=b0 k) rfl (fun _=>by kernel_rfl) fun _=>rfl
end
theorem ctr:Cp 143 (C k):=ry [] (E:=E k) rfl rfl Tryz.func143 rfl fun ⟨a0,a1,_⟩=>(show _=t k (V0 k a0 a1 k) a0 a1 by kernel_rfl).trans (by rw [e0];rfl)
end dP
namespace gA
def C:Cn:=⟨[.io true 0 aA,.io true 0 .str],[(.int .i64)],true,false,fun x=>f k x.1 x.2.1⟩
def D:List Ce:=[q (eN.ctr k),q (bd.ctr k),q (dP.ctr k)]
theorem ctr:Cp 142 (C k):=rz k rfl (D k) Tryz.func142 rfl fun _=>by kernel_rfl
end gA
namespace gP
def C:Cn:=⟨[.val aA,.fn 142 1,.io true 0 .str],[aA,(.int .i64)],true,false,fun x=>f k x.1 x.2.1⟩
def D:List Ce:=[q (bD.ctr k),q (ay.ctr k),q (gA.ctr k)]
theorem ctr:Cp 95 (C k):=rz k rfl (D k) Tryz.func95 rfl fun _=>by kernel_rfl
end gP
namespace kL
def C:Cn:=⟨[.val aA,.val .str],[aA,(.int .i64)],true,false,fun x=>f k x.1 x.2.1⟩
def D:List Ce:=[q (gP.ctr k)]
theorem ctr:Cp 106 (C k):=rz k rfl (D k) Tryz.func106 rfl fun _=>by kernel_rfl
end kL
namespace dU
def C:Cn:=⟨[.io true 0 am,.val .str],[],true,false,fun x=>f k x.1 x.2.1⟩
def D:List Ce:=[q (kL.ctr k),q (az.ctr k)]
theorem ctr:Cp 75 (C k):=rz k rfl (D k) Tryz.func75 rfl fun _=>by kernel_rfl
end dU
namespace j9
def C:Cn:=⟨[.val cv],[.str],true,false,fun x=>f k x.1⟩
def D:List Ce:=[q (dM.ctr k),q (dh.ctr k),q (gk.ctr k)]
theorem ctr:Cp 108 (C k):=rz k rfl (D k) Tryz.func108 rfl fun _=>by kernel_rfl
end j9
namespace cu
def C:Cn:=⟨[.io true 0 am,.val .str],[],true,false,fun x=>f k x.1 x.2.1⟩
def D:List Ce:=[q (bH.ctr k),q (dU.ctr k)]
theorem ctr:Cp 144 (C k):=rz k rfl (D k) Tryz.func144 rfl fun _=>by kernel_rfl
end cu
namespace hO
def C:Cn:=⟨[.val aA],[(.int .i64)],true,false,fun x=>f k x.1⟩
def E:jj:=en [] [(3,[3,7,8,9])] 0 [] k
section
variable (a0:Ty.d aA)
def K0:Ex→St→Rs:=dZ (E k) (eK (E k) Tryz.f60 (C k) (a0,())) [.blk 0,.code (dS Tryz.f60 3 7)]
def V0 (n0:Nat):T0:=fun x0 x1 x2 x3=>bX (cG (E k) (dS Tryz.f60 6 11)) (bL 0 [3,7,8,9]) (K0 k a0) n0 (mk 20 0 [(3,.int .i64 x0),(7,.sl true aB x1),(8,.int .i64 x2),(9,.int .i64 x3)] [])
theorem e0:V0 k a0=l0 k:=an (b:=b0 k) rfl (fun _=>by kernel_rfl) fun _=>rfl
end
theorem ctr:Cp 60 (C k):=ry [] (E:=E k) rfl rfl Tryz.func60 rfl fun ⟨a0,_⟩=>(show _=t k (V0 k a0 k) a0 by kernel_rfl).trans (by rw [e0];rfl)
end hO
namespace g7
def C:Cn:=⟨[.io true 0 aA,.io true 0 .str,.io true 0 .str],[(.int .i64)],true,false,fun x=>f k x.1 x.2.1 x.2.2.1⟩
def D:List Ce:=[q (bd.ctr k),q (hO.ctr k)]
theorem ctr:Cp 169 (C k):=rz k rfl (D k) Tryz.func169 rfl fun _=>by kernel_rfl
end g7
namespace gL
def C:Cn:=⟨[.val aA,.fn 169 2,.io true 0 .str,.io true 0 .str],[aA,(.int .i64)],true,false,fun x=>f k x.1 x.2.1 x.2.2.1⟩
def D:List Ce:=[q (bD.ctr k),q (ay.ctr k),q (g7.ctr k)]
theorem ctr:Cp 95 (C k):=rz k rfl (D k) Tryz.func95 rfl fun _=>by kernel_rfl
end gL
namespace kP
def C:Cn:=⟨[.val aA,.val .str,.val .str],[aA,(.int .i64)],true,false,fun x=>f k x.1 x.2.1 x.2.2.1⟩
def D:List Ce:=[q (gL.ctr k)]
theorem ctr:Cp 162 (C k):=rz k rfl (D k) Tryz.func162 rfl fun _=>by kernel_rfl
end kP
namespace cU
def C:Cn:=⟨[.io true 0 am,.val .str,.val .str],[],true,false,fun x=>f k x.1 x.2.1 x.2.2.1⟩
def D:List Ce:=[q (kP.ctr k),q (az.ctr k)]
theorem ctr:Cp 145 (C k):=rz k rfl (D k) Tryz.func145 rfl fun _=>by kernel_rfl
end cU
namespace dV
def C:Cn:=⟨[.io true 0 am,.val .str,.val .str],[],true,false,fun x=>f k x.1 x.2.1 x.2.2.1⟩
def D:List Ce:=[q (cu.ctr k),q (cU.ctr k),q (bP.ctr k)]
theorem ctr:Cp 107 (C k):=rz k rfl (D k) Tryz.func107 rfl fun _=>by kernel_rfl
end dV
namespace g_
def C:Cn:=⟨[.io true 0 aA,.io true 0 .str,.io true 0 .str],[(.int .i64)],true,false,fun x=>f k x.1 x.2.1 x.2.2.1⟩
def D:List Ce:=[q (bd.ctr k),q (eN.ctr k),q (eV.ctr k),q (dP.ctr k)]
theorem ctr:Cp 164 (C k):=rz k rfl (D k) Tryz.func164 rfl fun _=>by kernel_rfl
end g_
namespace gK
def C:Cn:=⟨[.val aA,.fn 164 2,.io true 0 .str,.io true 0 .str],[aA,(.int .i64)],true,false,fun x=>f k x.1 x.2.1 x.2.2.1⟩
def D:List Ce:=[q (bD.ctr k),q (ay.ctr k),q (g_.ctr k)]
theorem ctr:Cp 95 (C k):=rz k rfl (D k) Tryz.func95 rfl fun _=>by kernel_rfl
end gK
namespace kN
def C:Cn:=⟨[.val aA,.val .str,.val .str],[aA,(.int .i64)],true,false,fun x=>f k x.1 x.2.1 x.2.2.1⟩
def D:List Ce:=[q (gK.ctr k)]
theorem ctr:Cp 147 (C k):=rz k rfl (D k) Tryz.func147 rfl fun _=>by kernel_rfl
end kN
namespace f9
def C:Cn:=⟨[.io true 0 am,.val .str,.val .str],[],true,false,fun x=>f k x.1 x.2.1 x.2.2.1⟩
def D:List Ce:=[q (kN.ctr k),q (az.ctr k)]
theorem ctr:Cp 109 (C k):=rz k rfl (D k) Tryz.func109 rfl fun _=>by kernel_rfl
end f9
namespace cH
def C:Cn:=⟨[.io true 0 am,.val cv],[],true,false,fun x=>f k x.1 x.2.1⟩
def D:List Ce:=[q (j9.ctr k),q (dV.ctr k),q (f9.ctr k)]
theorem ctr:Cp 76 (C k):=rz k rfl (D k) Tryz.func76 rfl fun _=>by kernel_rfl
end cH
namespace fW
def C:Cn:=⟨[.io true 0 am],[aE],true,false,fun x=>f k x.1⟩
def D:List Ce:=[q (af.ctr k),q (ai.ctr k),q (dU.ctr k),q (cH.ctr k)]
theorem ctr:Cp 55 (C k):=rz k rfl (D k) Tryz.func55 rfl fun _=>by kernel_rfl
end fW
namespace mX
def C:Cn:=⟨[.val aA],[aE,aA,(.int .i64)],true,false,fun x=>f k x.1⟩
def D:List Ce:=[q (bD.ctr k),q (ay.ctr k),q (bu.ctr k),q (aP.ctr k),q (fW.ctr k)]
theorem ctr:Cp 35 (C k):=rz k rfl (D k) Tryz.func35 rfl fun _=>by kernel_rfl
end mX
namespace fQ
def C:Cn:=⟨[.val aA],[bF,(.int .i64)],true,false,fun x=>f k x.1⟩
def D:List Ce:=[q (mX.ctr k)]
theorem ctr:Cp 19 (C k):=rz k rfl (D k) Tryz.func19 rfl fun _=>by kernel_rfl
end fQ
namespace dX
def C:Cn:=⟨[.val cv],[cv],true,false,fun x=>f k x.1⟩
theorem ctr:Cp 77 (C k):=rz k rfl [] Tryz.func77 rfl fun _=>by kernel_rfl
end dX
namespace cO
def C:Cn:=⟨[.val aE],[aE],true,false,fun x=>f k x.1⟩
def D:List Ce:=[q (dX.ctr k),q (cL.ctr k)]
theorem ctr:Cp 57 (C k):=rz k rfl (D k) Tryz.func57 rfl fun _=>by kernel_rfl
end cO
namespace jp
def C:Cn:=⟨[.val (.slice aM)],[(.slice aM)],true,false,fun x=>f k x.1⟩
theorem ctr:Cp 110 (C k):=rz k rfl [] Tryz.func110 rfl fun _=>by kernel_rfl
end jp
namespace eA
def C:Cn:=⟨[.val aV],[aV],true,false,fun x=>f k x.1⟩
def D:List Ce:=[q (jp.ctr k)]
theorem ctr:Cp 79 (C k):=rz k rfl (D k) Tryz.func79 rfl fun _=>by kernel_rfl
end eA
namespace eI
def C:Cn:=⟨[.val (.slice aV)],[(.slice aV)],true,false,fun x=>f k x.1⟩
def D:List Ce:=[q (eA.ctr k)]
def E:jj:=en (D k) [(3,[3,6,7,8])] 0 [] k
section
variable (a0:List (Ty.d aV))
def K0:Ex→St→Rs:=dZ (E k) (eK (E k) Tryz.f58 (C k) (a0,())) [.blk 0,.code (dS Tryz.f58 3 7)]
def V0 (n0:Nat):T0:=fun x0 x1 x2 x3=>bX (cG (E k) (dS Tryz.f58 6 11)) (bL 0 [3,6,7,8]) (K0 k a0) n0 (mk 19 1 [(3,.ref 0),(6,.sl true aV x0),(7,.int .i64 x1),(8,.int .i64 x2)] [(0,.own false aV x3)])
theorem e0:V0 k a0=l0 k:=an (b:=b0 k) rfl (fun _=>by kernel_rfl) fun _=>rfl
end
theorem ctr:Cp 58 (C k):=ry (D k) (E:=E k) rfl rfl Tryz.func58 rfl fun ⟨a0,_⟩=>(show _=t k (V0 k a0 k) a0 by kernel_rfl).trans (by rw [e0];rfl)
end eI
namespace i7
def C:Cn:=⟨[.val bF],[bF],true,false,fun x=>f k x.1⟩
def D:List Ce:=[q (cO.ctr k),q (bD.ctr k),q (eI.ctr k)]
theorem ctr:Cp 38 (C k):=rz k rfl (D k) Tryz.func38 rfl fun _=>by kernel_rfl
end i7
namespace eZ
def C:Cn:=⟨[.val (.slice aM)],[(.slice aM)],true,false,fun x=>f k x.1⟩
def E:jj:=en [] [(3,[3,9,10,11]),(7,[3,5,6,9,10,11,15,16,17])] 0 [] k
section
variable (a0:List (Ty.d aM))
def K0:Ex→St→Rs:=dZ (E k) (eK (E k) Tryz.f23 (C k) (a0,())) [.blk 0,.code (dS Tryz.f23 3 7)]
def B0 (n0:Nat):Ex→St→Rs:=Qn (E k) (dS Tryz.f23 6 11) 0 [3,9,10,11] (K0 k a0) n0
def K1 (n0:Nat):Ex→St→Rs:=dZ (E k) (B0 k a0 n0) [.blk 2,.code (dS Tryz.f23 13 7371),.blk 1,.code (dS Tryz.f23 9 459)]
def V0 (n0:Nat):T0:=fun x0 x1 x2 x3=>bX (cG (E k) (dS Tryz.f23 6 11)) (bL 0 [3,9,10,11]) (K0 k a0) n0 (mk 41 1 [(3,.ref 0),(9,.sl true aM x0),(10,.int .i64 x1),(11,.int .i64 x2)] [(0,.own false aM x3)])
def V1 (n0 n1:Nat):T1:=fun x0 x1 x2 x3 x4 x5 x6 x7 x8 x9=>bX (cG (E k) (dS Tryz.f23 16 11467)) (bL 0 [3,5,6,9,10,11,15,16,17]) (K1 k a0 n0) n1 (mk 41 2 [(3,.ref 0),(5,.ptr 1 0 0),(6,.int .i64 x0),(9,.sl true aM x1),(10,.int .i64 x2),(11,.int .i64 x3),(15,.ref 0),(16,.int .i64 x4),(17,.int .i64 x5)] [(0,.own false aM x6),(1,.box [.str x7,.bool x8,.str x9])])
theorem e1 (n0:Nat):V1 k a0 n0=l1 k (V0 k a0 n0):=an (b:=b1 k (V0 k a0 n0)) rfl (fun _=>by kernel_rfl) fun _=>rfl
theorem e0 (n0:Nat):V0 k a0 n0=l0 k n0:=by
 induction n0 with
 | zero=>rfl
 | succ n0 ih =>
  have h:V0 k a0 (n0+1)=b0 k (V1 k a0 n0 k) (V0 k a0 n0):=by kernel_rfl
  rw [h,e1,ih];rfl
end
theorem ctr:Cp 23 (C k):=ry [] (E:=E k) rfl rfl Tryz.func23 rfl fun ⟨a0,_⟩=>(show _=t k (V0 k a0 k) a0 by kernel_rfl).trans (by rw [e0];rfl)
end eZ
namespace eD
def C:Cn:=⟨[.val aV],[(.slice aM)],true,false,fun x=>f k x.1⟩
def D:List Ce:=[q (eZ.ctr k)]
theorem ctr:Cp 59 (C k):=rz k rfl (D k) Tryz.func59 rfl fun _=>by kernel_rfl
end eD
namespace ke
def C:Cn:=⟨[.val bF,.val aH],[(.slice aM)],true,false,fun x=>f k x.1 x.2.1⟩
def D:List Ce:=[q (aZ.ctr k),q (eD.ctr k)]
theorem ctr:Cp 39 (C k):=rz k rfl (D k) Tryz.func39 rfl fun _=>by kernel_rfl
end ke
namespace e_
def C:Cn:=⟨[.val (.slice aC)],[(.slice .str)],true,false,fun x=>f k x.1⟩
def E:jj:=en [] [(3,[3,6,7,8])] 0 [] k
section
variable (a0:List (Ty.d aC))
def K0:Ex→St→Rs:=dZ (E k) (eK (E k) Tryz.f42 (C k) (a0,())) [.blk 0,.code (dS Tryz.f42 3 7)]
def V0 (n0:Nat):T0:=fun x0 x1 x2 x3=>bX (cG (E k) (dS Tryz.f42 6 11)) (bL 0 [3,6,7,8]) (K0 k a0) n0 (mk 19 1 [(3,.ref 0),(6,.sl true aC x0),(7,.int .i64 x1),(8,.int .i64 x2)] [(0,.own false .str x3)])
theorem e0:V0 k a0=l0 k:=an (b:=b0 k) rfl (fun _=>by kernel_rfl) fun _=>rfl
end
theorem ctr:Cp 42 (C k):=ry [] (E:=E k) rfl rfl Tryz.func42 rfl fun ⟨a0,_⟩=>(show _=t k (V0 k a0 k) a0 by kernel_rfl).trans (by rw [e0];rfl)
end e_
namespace fP
def C:Cn:=⟨[.val (.slice aC),.val .str],[aC,.bool],true,false,fun x=>f k x.1 x.2.1⟩
def E:jj:=en [] [(2,[1,4,8,9,10])] 0 [] k
section
variable (a0:List (Ty.d aC)) (a1:ByteArray)
def K0:Ex→St→Rs:=dZ (E k) (eK (E k) Tryz.f63 (C k) (a0,a1,())) [.blk 0,.code (dS Tryz.f63 2 3)]
def V0 (n0:Nat):T0:=fun x0 x1 x2 x3 x4 x5 x6 x7 x8=>bX (cG (E k) (dS Tryz.f63 5 5)) (bL 0 [1,4,8,9,10]) (K0 k a0 a1) n0 (mk 21 1 [(1,.str x0),(4,.ptr 0 0 0),(8,.sl true aC x1),(9,.int .i64 x2),(10,.int .i64 x3)] [(0,.box [.str x4,.int .i64 x5,.int .i64 x6,.int .i64 x7,.int .i64 x8])])
theorem e0:V0 k a0 a1=l0 k:=an (b:=b0 k) rfl (fun _=>by kernel_rfl) fun _=>rfl
end
theorem ctr:Cp 63 (C k):=ry [] (E:=E k) rfl rfl Tryz.func63 rfl fun ⟨a0,a1,_⟩=>(show _=t k (V0 k a0 a1 k) a0 a1 by kernel_rfl).trans (by rw [e0];rfl)
end fP
namespace jm
def C:Cn:=⟨[.val .str,.val (.int .i64),.val (.int .i64)],[bf,.bool],true,false,fun x=>f k x.1 x.2.1 x.2.2.1⟩
def D:List Ce:=[q (aZ.ctr k),q (eC.ctr k),q (dF.ctr k)]
theorem ctr:Cp 65 (C k):=rz k rfl (D k) Tryz.func65 rfl fun _=>by kernel_rfl
end jm
namespace mF
def C:Cn:=⟨[.val aE,.val aA,.val .str],[aB,(.int .i64)],true,false,fun x=>f k x.1 x.2.1 x.2.2.1⟩
def D:List Ce:=[q (fP.ctr k),q (ai.ctr k),q (bu.ctr k),q (jm.ctr k)]
theorem ctr:Cp 43 (C k):=rz k rfl (D k) Tryz.func43 rfl fun _=>by kernel_rfl
end mF
namespace iK
def C:Cn:=⟨[.val aE,.val aA],[(.slice aB),(.int .i64)],true,false,fun x=>f k x.1 x.2.1⟩
def D:List Ce:=[q (e_.ctr k),q (mF.ctr k)]
def E:jj:=en (D k) [(3,[2,3,6,13,14,15])] 0 [] k
section
variable (a0:Ty.d aE) (a1:Ty.d aA)
def K0:Ex→St→Rs:=dZ (E k) (eK (E k) Tryz.f25 (C k) (a0,a1,())) [.blk 0,.code (dS Tryz.f25 3 7)]
def V0 (n0:Nat):T0:=fun x0 x1 x2 x3 x4 x5 x6 x7 x8 x9 x10 x11 x12 x13=>bX (cG (E k) (dS Tryz.f25 6 11)) (bL 0 [2,3,6,13,14,15]) (K0 k a0 a1) n0 (mk 35 4 [(2,.ptr 0 0 0),(3,.ptr 1 0 0),(6,.ref 2),(13,.ref 3),(14,.int .i64 x0),(15,.int .i64 x1)] [(0,.box [.int .i64 x2,.sl true (.int .i64) x3,.sl true aC x4,.int .i64 x5,.int .i64 x6,.int .i64 x7]),(1,.box [.sl true aB x8,.int .i64 x9,.int .i64 x10,.bool x11]),(2,.own false aB x12),(3,.own false .str x13)])
theorem e0:V0 k a0 a1=l0 k:=an (b:=b0 k) rfl (fun _=>by kernel_rfl) fun _=>rfl
end
theorem ctr:Cp 25 (C k):=ry (D k) (E:=E k) rfl rfl Tryz.func25 rfl fun ⟨a0,a1,_⟩=>(show _=t k (V0 k a0 a1 k) a0 a1 by kernel_rfl).trans (by rw [e0];rfl)
end iK
namespace cg
def C:Cn:=⟨[.val aE,.val aA],[.bool],true,false,fun x=>f k x.1 x.2.1⟩
def D:List Ce:=[q (ay.ctr k),q (dM.ctr k),q (eS.ctr k),q (aZ.ctr k),q (ai.ctr k),q (bu.ctr k),q (dL.ctr k),q (jm.ctr k)]
def E:jj:=en (D k) [(4,[2,3,40,41,42]),(12,[2,3,84,85,86])] 0 [] k
section
variable (a0:Ty.d aE) (a1:Ty.d aA)
def K0:Ex→St→Rs:=dZ (E k) (eK (E k) Tryz.f80 (C k) (a0,a1,())) [.blk 0,.code (dS Tryz.f80 3 7)]
def K1:Ex→St→Rs:=dZ (E k) (eK (E k) Tryz.f80 (C k) (a0,a1,())) [.blk 2,.code (dS Tryz.f80 4 15)]
def V0 (n0:Nat):T0:=fun x0 x1 x2 x3 x4 x5 x6 x7 x8 x9 x10 x11 x12=>bX (cG (E k) (dS Tryz.f80 6 11)) (bL 0 [2,3,40,41,42]) (K0 k a0 a1) n0 (mk 141 2 [(2,.ptr 0 0 0),(3,.ptr 1 0 0),(40,.sl true (.int .i64) x0),(41,.int .i64 x1),(42,.int .i64 x2)] [(0,.box [.int .i64 x3,.sl true (.int .i64) x4,.sl true aC x5,.int .i64 x6,.int .i64 x7,.int .i64 x8]),(1,.box [.sl true aB x9,.int .i64 x10,.int .i64 x11,.bool x12])])
def V1 (n1:Nat):T1:=fun x0 x1 x2 x3 x4 x5 x6 x7 x8 x9 x10 x11 x12=>bX (cG (E k) (dS Tryz.f80 7 23)) (bL 0 [2,3,84,85,86]) (K1 k a0 a1) n1 (mk 141 2 [(2,.ptr 0 0 0),(3,.ptr 1 0 0),(84,.sl true aC x0),(85,.int .i64 x1),(86,.int .i64 x2)] [(0,.box [.int .i64 x3,.sl true (.int .i64) x4,.sl true aC x5,.int .i64 x6,.int .i64 x7,.int .i64 x8]),(1,.box [.sl true aB x9,.int .i64 x10,.int .i64 x11,.bool x12])])
theorem e1:V1 k a0 a1=l1 k:=an (b:=b1 k) rfl (fun _=>by kernel_rfl) fun _=>rfl
theorem e0 (n0:Nat):V0 k a0 a1 n0=l0 k n0:=by
 induction n0 with
 | zero=>rfl
 | succ n0 ih =>
  have h:V0 k a0 a1 (n0+1)=b0 k (V1 k a0 a1 k) (V0 k a0 a1 n0):=by kernel_rfl
  rw [h,e1,ih];rfl
end
theorem ctr:Cp 80 (C k):=ry (D k) (E:=E k) rfl rfl Tryz.func80 rfl fun ⟨a0,a1,_⟩=>(show _=t k (V0 k a0 a1 k) a0 a1 by kernel_rfl).trans (by rw [e0];rfl)
end cg
namespace iI
def C:Cn:=⟨[.val (.slice aB),.val (.int .i64)],[(.slice bf)],true,false,fun x=>f k x.1 x.2.1⟩
def D:List Ce:=[q (gN.ctr k)]
def E:jj:=en (D k) [(3,[0,1,5,8,9,10])] 0 [] k
section
variable (a0:List (Ty.d aB)) (a1:Int)
def K0:Ex→St→Rs:=dZ (E k) (eK (E k) Tryz.f113 (C k) (a0,a1,())) [.blk 0,.code (dS Tryz.f113 3 7)]
def V0 (n0:Nat):T0:=fun x0 x1 x2 x3 x4 x5=>bX (cG (E k) (dS Tryz.f113 6 11)) (bL 0 [0,1,5,8,9,10]) (K0 k a0 a1) n0 (mk 34 1 [(0,.sl true aB x0),(1,.int .i64 x1),(5,.ref 0),(8,.sl true aB x2),(9,.int .i64 x3),(10,.int .i64 x4)] [(0,.own false bf x5)])
theorem e0:V0 k a0 a1=l0 k:=an (b:=b0 k) rfl (fun _=>by kernel_rfl) fun _=>rfl
end
theorem ctr:Cp 113 (C k):=ry (D k) (E:=E k) rfl rfl Tryz.func113 rfl fun ⟨a0,a1,_⟩=>(show _=t k (V0 k a0 a1 k) a0 a1 by kernel_rfl).trans (by rw [e0];rfl)
end iI
namespace bG
def C:Cn:=⟨[.io true 0 am,.val (.int .i64),.val (.slice bf)],[(.slice aC)],true,false,fun x=>f k x.1 x.2.1 x.2.2.1⟩
def D:List Ce:=[q (ai.ctr k),q (cu.ctr k),q (gD.ctr k),q (gk.ctr k),q (cU.ctr k),q (bP.ctr k)]
def E:jj:=en (D k) [(5,[0,1,7,8,16,17,18])] 1 [] k
section
variable (a0:Ty.d am) (a1:Int) (a2:List (Ty.d bf))
def K0:Ex→St→Rs:=dZ (E k) (eK (E k) Tryz.f112 (C k) (a0,a1,a2,())) [.blk 0,.code (dS Tryz.f112 5 31)]
def V0 (n0:Nat):T0:=fun x0 x1 x2 x3 x4 x5 x6 x7 x8 x9 x10=>bX (cG (E k) (dS Tryz.f112 8 47)) (bL 1 [0,1,7,8,16,17,18]) (K0 k a0 a1 a2) n0 (mk 60 3 [(0,.ptr 0 0 0),(1,.int .i64 x0),(7,.ref 2),(8,.int .i64 x1),(16,.sl true bf x2),(17,.int .i64 x3),(18,.int .i64 x4)] [(1,.own false aB x5),(0,.box [.ref 1,.int .i64 x6,.int .i64 x7,.bool x8,.int .i64 x9]),(2,.own false aC x10)])
theorem e0:V0 k a0 a1 a2=l0 k:=an (b:=b0 k) rfl (fun _=>by kernel_rfl) fun _=>rfl
end
theorem ctr:Cp 112 (C k):=ry (D k) (E:=E k) rfl rfl Tryz.func112 rfl fun ⟨a0,a1,a2,_⟩=>(show _=t k (V0 k a0 a1 a2 k) a0 a1 a2 by kernel_rfl).trans (by rw [e0];rfl)
end bG
namespace di
def C:Cn:=⟨[.io true 0 am,.val (.int .i64)],[],true,false,fun x=>f k x.1 x.2.1⟩
def D:List Ce:=[q (ai.ctr k),q (bu.ctr k),q (eQ.ctr k),q (dW.ctr k),q (dH.ctr k),q (dV.ctr k),q (bH.ctr k)]
theorem ctr:Cp 114 (C k):=rz k rfl (D k) Tryz.func114 rfl fun _=>by kernel_rfl
end di
namespace ae
def C:Cn:=⟨[.io true 0 am,.val (.slice .str)],[],true,false,fun x=>f k x.1 x.2.1⟩
def D:List Ce:=[q (bH.ctr k)]
def E:jj:=en (D k) [(3,[0,4,18,19,20])] 1 [] k
section
variable (a0:Ty.d am) (a1:List ByteArray)
def K0:Ex→St→Rs:=dZ (E k) (eK (E k) Tryz.f115 (C k) (a0,a1,())) [.blk 0,.code (dS Tryz.f115 3 7)]
def V0 (n0:Nat):T0:=fun x0 x1 x2 x3 x4 x5 x6 x7 x8 x9 x10 x11=>bX (cG (E k) (dS Tryz.f115 6 11)) (bL 1 [0,4,18,19,20]) (K0 k a0 a1) n0 (mk 47 3 [(0,.ptr 0 0 0),(4,.ptr 2 0 0),(18,.sl true .str x0),(19,.int .i64 x1),(20,.int .i64 x2)] [(1,.own false aB x3),(0,.box [.ref 1,.int .i64 x4,.int .i64 x5,.bool x6,.int .i64 x7]),(2,.box [.ref 1,.int .i64 x8,.int .i64 x9,.bool x10,.int .i64 x11])])
def V1 (n0:Nat):T1:=fun x0 x1 x2 x3 x4 x5 x6 x7 x8 x9 x10 x11=>bX (cG (E k) (dS Tryz.f115 6 11)) (bL 1 [0,4,18,19,20]) (K0 k a0 a1) n0 (mk 47 3 [(0,.ptr 0 0 0),(4,.ptr 1 0 0),(18,.sl true .str x0),(19,.int .i64 x1),(20,.int .i64 x2)] [(0,.box [.junk,.int .i64 x3,.int .i64 x4,.bool x5,.int .i64 x6]),(2,.own false aB x7),(1,.box [.ref 2,.int .i64 x8,.int .i64 x9,.bool x10,.int .i64 x11])])
theorem e1:V1 k a0 a1=l1 k:=an (b:=b1 k) rfl (fun _=>by kernel_rfl) fun _=>rfl
theorem e0 (n0:Nat):V0 k a0 a1 n0=l0 k n0:=by
 induction n0 with
 | zero=>rfl
 | succ n0 ih =>
  have h:V0 k a0 a1 (n0+1)=b0 k (V1 k a0 a1 n0):=by kernel_rfl
  rw [h,e1];rfl
end
theorem ctr:Cp 115 (C k):=ry (D k) (E:=E k) rfl rfl Tryz.func115 rfl fun ⟨a0,a1,_⟩=>(show _=t k (V0 k a0 a1 k) a0 a1 by kernel_rfl).trans (by rw [e0];rfl)
end ae
namespace cT
def C:Cn:=⟨[.io true 0 aE,.io true 0 am,.val (.slice aB)],[],true,false,fun x=>f k x.1 x.2.1 x.2.2.1⟩
def D:List Ce:=[q (iI.ctr k),q (bG.ctr k),q (di.ctr k),q (cH.ctr k),q (ai.ctr k),q (dW.ctr k),q (ae.ctr k),q (bH.ctr k)]
def E:jj:=en (D k) [(12,[1,85,86,87])] 2 [] k
section
variable (a0:Ty.d aE) (a1:Ty.d am) (a2:List (Ty.d aB))
def K0:Ex→St→Rs:=dZ (E k) (eK (E k) Tryz.f81 (C k) (a0,a1,a2,())) [.blk 0]
def V0 (n0:Nat):T0:=fun x0 x1 x2 x3 x4 x5 x6 x7 x8 x9 x10 x11 x12 x13=>bX (cG (E k) (dS Tryz.f81 12 1023)) (bL 2 [1,85,86,87]) (K0 k a0 a1 a2) n0 (mk 100 6 [(1,.ptr 1 0 0),(85,.ref 5),(86,.int .i64 x0),(87,.int .i64 x1)] [(2,.own false (.int .i64) x2),(3,.own false aC x3),(0,.box [.int .i64 x4,.ref 2,.ref 3,.int .i64 x5,.int .i64 x6,.int .i64 x7]),(4,.own false aB x8),(1,.box [.ref 4,.int .i64 x9,.int .i64 x10,.bool x11,.int .i64 x12]),(5,.own false (.int .i64) x13)])
theorem e0:V0 k a0 a1 a2=l0 k:=an (b:=b0 k) rfl (fun _=>by kernel_rfl) fun _=>rfl
end
theorem ctr:Cp 81 (C k):=ry (D k) (E:=E k) rfl rfl Tryz.func81 rfl fun ⟨a0,a1,a2,_⟩=>(show _=t k (V0 k a0 a1 a2 k) a0 a1 a2 by kernel_rfl).trans (by rw [e0];rfl)
end cT
namespace kc
def C:Cn:=⟨[.val aE,.val aA],[aE,aA,(.int .i64)],true,false,fun x=>f k x.1 x.2.1⟩
def D:List Ce:=[q (cO.ctr k),q (bD.ctr k),q (iK.ctr k),q (cg.ctr k),q (cT.ctr k)]
theorem ctr:Cp 61 (C k):=rz k rfl (D k) Tryz.func61 rfl fun _=>by kernel_rfl
end kc
namespace kV
def C:Cn:=⟨[.val (.slice aV),.val aH],[.bool],true,false,fun x=>f k x.1 x.2.1⟩
def D:List Ce:=[q (aZ.ctr k)]
theorem ctr:Cp 82 (C k):=rz k rfl (D k) Tryz.func82 rfl fun _=>by kernel_rfl
end kV
namespace cY
def C:Cn:=⟨[.val aV,.val .str],[aM,.bool],true,false,fun x=>f k x.1 x.2.1⟩
def E:jj:=en [] [(2,[1,2,4,6])] 0 [] k
section
variable (a0:Ty.d aV) (a1:ByteArray)
def K0:Ex→St→Rs:=dZ (E k) (eK (E k) Tryz.f41 (C k) (a0,a1,())) [.blk 0,.code (dS Tryz.f41 2 3)]
def V0 (n0:Nat):T0:=fun x0 x1 x2 x3 x4 x5 x6 x7=>bX (cG (E k) (dS Tryz.f41 5 5)) (bL 0 [1,2,4,6]) (K0 k a0 a1) n0 (mk 29 2 [(1,.str x0),(2,.ptr 0 0 0),(4,.ptr 1 0 0),(6,.int .i64 x1)] [(0,.box [.bool x2,.sl true dK x3,.sl true aM x4]),(1,.box [.str x5,.bool x6,.str x7])])
theorem e0:V0 k a0 a1=l0 k:=an (b:=b0 k) rfl (fun _=>by kernel_rfl) fun _=>rfl
end
theorem ctr:Cp 41 (C k):=ry [] (E:=E k) rfl rfl Tryz.func41 rfl fun ⟨a0,a1,_⟩=>(show _=t k (V0 k a0 a1 k) a0 a1 by kernel_rfl).trans (by rw [e0];rfl)
end cY
namespace ox
def C:Cn:=⟨[.val aV,.val .str],[aK,.bool],true,false,fun x=>f k x.1 x.2.1⟩
def D:List Ce:=[q (cY.ctr k)]
theorem ctr:Cp 117 (C k):=rz k rfl (D k) Tryz.func117 rfl fun _=>by kernel_rfl
end ox
namespace fb
def C:Cn:=⟨[.val aV,.val .str,.val (.int .i64)],[aV,(.int .i64)],true,false,fun x=>f k x.1 x.2.1 x.2.2.1⟩
def D:List Ce:=[q (eA.ctr k),q (dp.ctr k)]
def E:jj:=en (D k) [(6,[1,2,3,6,8,9,24,25,26])] 0 [] k
section
variable (a0:Ty.d aV) (a1:ByteArray) (a2:Int)
def K0:Ex→St→Rs:=dZ (E k) (eK (E k) Tryz.f149 (C k) (a0,a1,a2,())) [.blk 0,.code (dS Tryz.f149 5 31)]
def V0 (n0:Nat):T0:=fun x0 x1 x2 x3 x4 x5 x6 x7 x8 x9 x10 x11 x12 x13 x14=>bX (cG (E k) (dS Tryz.f149 8 47)) (bL 0 [1,2,3,6,8,9,24,25,26]) (K0 k a0 a1 a2) n0 (mk 56 7 [(1,.str x0),(2,.int .i64 x1),(3,.ptr 0 0 0),(6,.ptr 1 0 0),(8,.ptr 4 0 0),(9,.bool x2),(24,.sl true dK x3),(25,.int .i64 x4),(26,.int .i64 x5)] [(0,.box [.bool x6,.sl true dK x7,.sl true aM x8]),(2,.own false dK x9),(3,.own false aM x10),(1,.box [.bool x11,.ref 2,.ref 3]),(5,.own false dK x12),(6,.own false aM x13),(4,.box [.bool x14,.ref 5,.ref 6])])
theorem e0:V0 k a0 a1 a2=l0 k:=an (b:=b0 k) rfl (fun _=>by kernel_rfl) fun _=>rfl
end
theorem ctr:Cp 149 (C k):=ry (D k) (E:=E k) rfl rfl Tryz.func149 rfl fun ⟨a0,a1,a2,_⟩=>(show _=t k (V0 k a0 a1 a2 k) a0 a1 a2 by kernel_rfl).trans (by rw [e0];rfl)
end fb
namespace nQ
def C:Cn:=⟨[.val aV,.val .str,.val aB,.val (.int .i64)],[aV,aK],true,false,fun x=>f k x.1 x.2.1 x.2.2.1 x.2.2.2.1⟩
def D:List Ce:=[q (fb.ctr k)]
theorem ctr:Cp 118 (C k):=rz k rfl (D k) Tryz.func118 rfl fun _=>by kernel_rfl
end nQ
namespace ck
def C:Cn:=⟨[.io true 0 ga,.val aH],[aK],true,true,fun x=>f k x.1 x.2.1⟩
def D:List Ce:=[q (dp.ctr k),q (ox.ctr k),q (mF.ctr k),q (nQ.ctr k)]
theorem ctr:Cp 83 (C k):=rz k rfl (D k) Tryz.func83 rfl fun _=>by kernel_rfl
end ck
namespace fq
def C:Cn:=⟨[.val aM],[.bool],true,false,fun x=>f k x.1⟩
def D:List Ce:=[q (dp.ctr k)]
theorem ctr:Cp 120 (C k):=rz k rfl (D k) Tryz.func120 rfl fun _=>by kernel_rfl
end fq
namespace j4
def C:Cn:=⟨[.val aV,.val aM],[aV,.bool],true,false,fun x=>f k x.1 x.2.1⟩
def D:List Ce:=[q (eA.ctr k),q (fq.ctr k),q (eD.ctr k)]
theorem ctr:Cp 119 (C k):=rz k rfl (D k) Tryz.func119 rfl fun _=>by kernel_rfl
end j4
namespace kg
def C:Cn:=⟨[.val aV,.val aH],[aV,aK],true,false,fun x=>f k x.1 x.2.1⟩
def D:List Ce:=[q (j4.ctr k),q (fq.ctr k)]
theorem ctr:Cp 84 (C k):=rz k rfl (D k) Tryz.func84 rfl fun _=>by kernel_rfl
end kg
namespace gp
def C:Cn:=⟨[.val aV,.val (.slice aC)],[.bool],true,false,fun x=>f k x.1 x.2.1⟩
def D:List Ce:=[q (fP.ctr k)]
def E:jj:=en (D k) [(2,[1,10,11,12])] 0 [] k
section
variable (a0:Ty.d aV) (a1:List (Ty.d aC))
def K0:Ex→St→Rs:=dZ (E k) (eK (E k) Tryz.f85 (C k) (a0,a1,())) [.blk 0,.code (dS Tryz.f85 2 3)]
def V0 (n0:Nat):T0:=fun x0 x1 x2 x3=>bX (cG (E k) (dS Tryz.f85 5 5)) (bL 0 [1,10,11,12]) (K0 k a0 a1) n0 (mk 29 0 [(1,.sl true aC x0),(10,.sl true dK x1),(11,.int .i64 x2),(12,.int .i64 x3)] [])
theorem e0:V0 k a0 a1=l0 k:=an (b:=b0 k) rfl (fun _=>by kernel_rfl) fun _=>rfl
end
theorem ctr:Cp 85 (C k):=ry (D k) (E:=E k) rfl rfl Tryz.func85 rfl fun ⟨a0,a1,_⟩=>(show _=t k (V0 k a0 a1 k) a0 a1 by kernel_rfl).trans (by rw [e0];rfl)
end gp
namespace fN
def C:Cn:=⟨[.val (.slice aM)],[.bool],true,false,fun x=>f k x.1⟩
def D:List Ce:=[q (fq.ctr k)]
def E:jj:=en (D k) [(2,[0,5,6,7])] 0 [] k
section
variable (a0:List (Ty.d aM))
def K0:Ex→St→Rs:=dZ (E k) (eK (E k) Tryz.f121 (C k) (a0,())) [.blk 0,.code (dS Tryz.f121 2 3)]
def V0 (n0:Nat):T0:=fun x0 x1 x2 x3=>bX (cG (E k) (dS Tryz.f121 5 5)) (bL 0 [0,5,6,7]) (K0 k a0) n0 (mk 18 0 [(0,.sl true aM x0),(5,.sl true aM x1),(6,.int .i64 x2),(7,.int .i64 x3)] [])
theorem e0:V0 k a0=l0 k:=an (b:=b0 k) rfl (fun _=>by kernel_rfl) fun _=>rfl
end
theorem ctr:Cp 121 (C k):=ry (D k) (E:=E k) rfl rfl Tryz.func121 rfl fun ⟨a0,_⟩=>(show _=t k (V0 k a0 k) a0 by kernel_rfl).trans (by rw [e0];rfl)
end fN
namespace gG
def C:Cn:=⟨[.val (.slice aC),.val (.slice aM),.val (.slice aC)],[(.slice aC)],false,true,fun x=>f k x.1 x.2.1 x.2.2.1⟩
def D:List Ce:=[q (cE.ctr k),q (dG.ctr k)]
def E:jj:=en (D k) [(2,[0,2,9,10,11])] 0 [] k
section
variable (a0:List (Ty.d aC)) (a1:List (Ty.d aM)) (a2:List (Ty.d aC))
def K0:Ex→St→Rs:=dZ (E k) (eK (E k) Tryz.f150 (C k) (a0,a1,a2,())) [.blk 0,.code (dS Tryz.f150 2 3)]
def V0 (n0:Nat):T0:=fun x0 x1 x2 x3 x4=>bX (cG (E k) (dS Tryz.f150 5 5)) (bL 0 [0,2,9,10,11]) (K0 k a0 a1 a2) n0 (mk 30 0 [(0,.sl true aC x0),(2,.sl true aC x1),(9,.sl true aM x2),(10,.int .i64 x3),(11,.int .i64 x4)] [])
def V1 (n0:Nat):T1:=fun x0 x1 x2 x3 x4=>bX (cG (E k) (dS Tryz.f150 5 5)) (bL 0 [0,2,9,10,11]) (K0 k a0 a1 a2) n0 (mk 30 1 [(0,.ref 0),(2,.sl true aC x0),(9,.sl true aM x1),(10,.int .i64 x2),(11,.int .i64 x3)] [(0,.own false aC x4)])
theorem e1:V1 k a0 a1 a2=l1 k:=an (b:=b1 k) rfl (fun _=>by kernel_rfl) fun _=>rfl
theorem e0 (n0:Nat):V0 k a0 a1 a2 n0=l0 k n0:=by
 induction n0 with
 | zero=>rfl
 | succ n0 ih =>
  have h:V0 k a0 a1 a2 (n0+1)=b0 k (V1 k a0 a1 a2 n0):=by kernel_rfl
  rw [h,e1];rfl
end
theorem ctr:Cp 150 (C k):=ry (D k) (E:=E k) rfl rfl Tryz.func150 rfl fun ⟨a0,a1,a2,_⟩=>(show _=t k (V0 k a0 a1 a2 k) a0 a1 a2 by kernel_rfl).trans (by rw [e0];rfl)
end gG
namespace eh
def C:Cn:=⟨[.val (.slice aC),.val (.slice aM)],[(.int .i64)],true,false,fun x=>f k x.1 x.2.1⟩
def D:List Ce:=[q (gG.ctr k)]
def E:jj:=en (D k) [(3,[0,1,5,8,9,10])] 0 [] k
section
variable (a0:List (Ty.d aC)) (a1:List (Ty.d aM))
def K0:Ex→St→Rs:=dZ (E k) (eK (E k) Tryz.f122 (C k) (a0,a1,())) [.blk 0,.code (dS Tryz.f122 3 7)]
def V0 (n0:Nat):T0:=fun x0 x1 x2 x3 x4 x5=>bX (cG (E k) (dS Tryz.f122 6 11)) (bL 0 [0,1,5,8,9,10]) (K0 k a0 a1) n0 (mk 26 1 [(0,.sl true aC x0),(1,.sl true aM x1),(5,.ref 0),(8,.sl true aM x2),(9,.int .i64 x3),(10,.int .i64 x4)] [(0,.own false aC x5)])
theorem e0:V0 k a0 a1=l0 k:=an (b:=b0 k) rfl (fun _=>by kernel_rfl) fun _=>rfl
end
theorem ctr:Cp 122 (C k):=ry (D k) (E:=E k) rfl rfl Tryz.func122 rfl fun ⟨a0,a1,_⟩=>(show _=t k (V0 k a0 a1 k) a0 a1 by kernel_rfl).trans (by rw [e0];rfl)
end eh
namespace eE
def C:Cn:=⟨[.val (.slice aM),.val (.int .i64)],[(.slice bf)],true,false,fun x=>f k x.1 x.2.1⟩
def D:List Ce:=[q (gN.ctr k)]
def E:jj:=en (D k) [(3,[0,1,5,8,9,10])] 0 [] k
section
variable (a0:List (Ty.d aM)) (a1:Int)
def K0:Ex→St→Rs:=dZ (E k) (eK (E k) Tryz.f151 (C k) (a0,a1,())) [.blk 0,.code (dS Tryz.f151 3 7)]
def V0 (n0:Nat):T0:=fun x0 x1 x2 x3 x4 x5=>bX (cG (E k) (dS Tryz.f151 6 11)) (bL 0 [0,1,5,8,9,10]) (K0 k a0 a1) n0 (mk 42 1 [(0,.sl true aM x0),(1,.int .i64 x1),(5,.ref 0),(8,.sl true aM x2),(9,.int .i64 x3),(10,.int .i64 x4)] [(0,.own false bf x5)])
theorem e0:V0 k a0 a1=l0 k:=an (b:=b0 k) rfl (fun _=>by kernel_rfl) fun _=>rfl
end
theorem ctr:Cp 151 (C k):=ry (D k) (E:=E k) rfl rfl Tryz.func151 rfl fun ⟨a0,a1,_⟩=>(show _=t k (V0 k a0 a1 k) a0 a1 by kernel_rfl).trans (by rw [e0];rfl)
end eE
namespace bp
def C:Cn:=⟨[.io true 0 aE],[.str],true,false,fun x=>f k x.1⟩
def D:List Ce:=[q (ai.ctr k)]
theorem ctr:Cp 153 (C k):=rz k rfl (D k) Tryz.func153 rfl fun _=>by kernel_rfl
end bp
namespace fX
def C:Cn:=⟨[.io true 0 aE,.io true 0 am],[],true,false,fun x=>f k x.1 x.2.1⟩
def D:List Ce:=[q (bp.ctr k),q (bP.ctr k),q (ai.ctr k),q (cu.ctr k),q (dX.ctr k),q (cH.ctr k),q (ae.ctr k)]
theorem ctr:Cp 165 (C k):=rz k rfl (D k) Tryz.func165 rfl fun _=>by kernel_rfl
end fX
namespace gC
def C:Cn:=⟨[.io true 0 aE,.io true 0 am,.val bf],[aC],true,false,fun x=>f k x.1 x.2.1 x.2.2.1⟩
def D:List Ce:=[q (gD.ctr k),q (gk.ctr k),q (fX.ctr k),q (bp.ctr k),q (cU.ctr k)]
theorem ctr:Cp 152 (C k):=rz k rfl (D k) Tryz.func152 rfl fun _=>by kernel_rfl
end gC
namespace gy
def C:Cn:=⟨[.give (.slice aC),.val (.slice aM),.val (.slice aC)],[(.slice aC)],true,false,fun x=>f k x.1 x.2.1 x.2.2.1⟩
def D:List Ce:=[q (cE.ctr k),q (dG.ctr k)]
def E:jj:=en (D k) [(2,[0,2,9,10,11])] 0 [] k
section
variable (a0:List (Ty.d aC)) (a1:List (Ty.d aM)) (a2:List (Ty.d aC))
def K0:Ex→St→Rs:=dZ (E k) (eK (E k) Tryz.f150 (C k) (a0,a1,a2,())) [.blk 0,.code (dS Tryz.f150 2 3)]
def V0 (n0:Nat):T0:=fun x0 x1 x2 x3 x4=>bX (cG (E k) (dS Tryz.f150 5 5)) (bL 0 [0,2,9,10,11]) (K0 k a0 a1 a2) n0 (mk 30 1 [(0,.ref 0),(2,.sl true aC x0),(9,.sl true aM x1),(10,.int .i64 x2),(11,.int .i64 x3)] [(0,.own false aC x4)])
theorem e0:V0 k a0 a1 a2=l0 k:=an (b:=b0 k) rfl (fun _=>by kernel_rfl) fun _=>rfl
end
theorem ctr:Cp 150 (C k):=ry (D k) (E:=E k) rfl rfl Tryz.func150 rfl fun ⟨a0,a1,a2,_⟩=>(show _=t k (V0 k a0 a1 a2 k) a0 a1 a2 by kernel_rfl).trans (by rw [e0];rfl)
end gy
namespace cF
def C:Cn:=⟨[.io true 0 aE,.io true 0 am,.val (.slice aM)],[],true,false,fun x=>f k x.1 x.2.1 x.2.2.1⟩
def D:List Ce:=[q (eE.ctr k),q (gC.ctr k),q (bp.ctr k),q (bP.ctr k),q (gy.ctr k)]
def E:jj:=en (D k) [(4,[0,1,2,7,24,25,26])] 2 [] k
section
variable (a0:Ty.d aE) (a1:Ty.d am) (a2:List (Ty.d aM))
def K0:Ex→St→Rs:=dZ (E k) (eK (E k) Tryz.f123 (C k) (a0,a1,a2,())) [.blk 0,.code (dS Tryz.f123 4 15)]
def V0 (n0:Nat):T0:=fun x0 x1 x2 x3 x4 x5 x6 x7 x8 x9 x10 x11 x12 x13 x14 x15=>bX (cG (E k) (dS Tryz.f123 7 23)) (bL 2 [0,1,2,7,24,25,26]) (K0 k a0 a1 a2) n0 (mk 63 7 [(0,.ptr 0 0 0),(1,.ptr 1 0 0),(2,.sl true aM x0),(7,.ref 5),(24,.ref 6),(25,.int .i64 x1),(26,.int .i64 x2)] [(2,.own false (.int .i64) x3),(3,.own false aC x4),(0,.box [.int .i64 x5,.ref 2,.ref 3,.int .i64 x6,.int .i64 x7,.int .i64 x8]),(4,.own false aB x9),(1,.box [.ref 4,.int .i64 x10,.int .i64 x11,.bool x12,.int .i64 x13]),(5,.own false aC x14),(6,.own false bf x15)])
theorem e0:V0 k a0 a1 a2=l0 k:=an (b:=b0 k) rfl (fun _=>by kernel_rfl) fun _=>rfl
end
theorem ctr:Cp 123 (C k):=ry (D k) (E:=E k) rfl rfl Tryz.func123 rfl fun ⟨a0,a1,a2,_⟩=>(show _=t k (V0 k a0 a1 a2 k) a0 a1 a2 by kernel_rfl).trans (by rw [e0];rfl)
end cF
namespace je
def C:Cn:=⟨[.val aE,.val aA,.val (.slice aM)],[aE,aA,(.int .i64)],true,false,fun x=>f k x.1 x.2.1 x.2.2.1⟩
def D:List Ce:=[q (cO.ctr k),q (bD.ctr k),q (cg.ctr k),q (fN.ctr k),q (eh.ctr k),q (cF.ctr k)]
theorem ctr:Cp 86 (C k):=rz k rfl (D k) Tryz.func86 rfl fun _=>by kernel_rfl
end je
namespace bR
def C:Cn:=⟨[.io true 0 ga,.val aH],[aK],true,true,fun x=>f k x.1 x.2.1⟩
def D:List Ce:=[q (kV.ctr k),q (ck.ctr k),q (kg.ctr k),q (gp.ctr k),q (eD.ctr k),q (je.ctr k)]
theorem ctr:Cp 62 (C k):=rz k rfl (D k) Tryz.func62 rfl fun _=>by kernel_rfl
end bR
namespace bz
def C:Cn:=⟨[.io true 0 ga,.val aH],[aK],true,true,fun x=>f k x.1 x.2.1⟩
def D:List Ce:=[q (fQ.ctr k),q (hO.ctr k),q (ay.ctr k),q (aZ.ctr k),q (kc.ctr k),q (e_.ctr k),q (bR.ctr k)]
theorem ctr:Cp 40 (C k):=rz k rfl (D k) Tryz.func40 rfl fun _=>by kernel_rfl
end bz
namespace jy
def C:Cn:=⟨[.val bF,.val (.slice aH)],[ga],true,true,fun x=>f k x.1 x.2.1⟩
def D:List Ce:=[q (i7.ctr k),q (ke.ctr k),q (bz.ctr k)]
def E:jj:=en (D k) [(3,[4,5,14,15,16])] 0 [] k
section
variable (a0:Ty.d bF) (a1:List (Ty.d aH))
def K0:Ex→St→Rs:=dZ (E k) (eK (E k) Tryz.f22 (C k) (a0,a1,())) [.blk 0,.code (dS Tryz.f22 3 7)]
def V0 (n0:Nat):T0:=fun x0 x1 x2 x3 x4 x5 x6 x7 x8 x9 x10 x11 x12 x13 x14 x15 x16 x17 x18 x19 x20 x21 x22 x23 x24 x25 x26 x27 x28 x29 x30 x31 x32=>bX (cG (E k) (dS Tryz.f22 6 11)) (bL 0 [4,5,14,15,16]) (K0 k a0 a1) n0 (mk 63 16 [(4,.ptr 0 0 0),(5,.ptr 8 0 0),(14,.sl true aH x0),(15,.int .i64 x1),(16,.int .i64 x2)] [(1,.own false (.int .i64) x3),(2,.own false aC x4),(3,.own false aB x5),(4,.own false aV x6),(5,.own false aK x7),(6,.own false m_ x8),(7,.own false aM x9),(0,.box [.bool x10,.int .i64 x11,.ref 1,.ref 2,.int .i64 x12,.int .i64 x13,.int .i64 x14,.ref 3,.int .i64 x15,.int .i64 x16,.bool x17,.ref 4,.ref 5,.ref 6,.ref 7]),(9,.own false (.int .i64) x18),(10,.own false aC x19),(11,.own false aB x20),(12,.own false aV x21),(13,.own false aK x22),(14,.own false m_ x23),(15,.own false aM x24),(8,.box [.bool x25,.int .i64 x26,.ref 9,.ref 10,.int .i64 x27,.int .i64 x28,.int .i64 x29,.ref 11,.int .i64 x30,.int .i64 x31,.bool x32,.ref 12,.ref 13,.ref 14,.ref 15])])
def V1 (n0:Nat):T1:=fun x0 x1 x2 x3 x4 x5 x6 x7 x8 x9 x10 x11 x12 x13 x14 x15 x16 x17 x18 x19 x20 x21 x22 x23 x24 x25 x26 x27 x28 x29 x30 x31 x32=>bX (cG (E k) (dS Tryz.f22 6 11)) (bL 0 [4,5,14,15,16]) (K0 k a0 a1) n0 (mk 63 16 [(4,.ptr 0 0 0),(5,.ptr 8 0 0),(14,.sl true aH x0),(15,.int .i64 x1),(16,.int .i64 x2)] [(1,.own false (.int .i64) x3),(2,.own false aC x4),(3,.own false aB x5),(4,.own false aV x6),(5,.own false aK x7),(6,.own false m_ x8),(7,.own false aM x9),(0,.box [.bool x10,.int .i64 x11,.ref 1,.ref 2,.int .i64 x12,.int .i64 x13,.int .i64 x14,.ref 3,.int .i64 x15,.int .i64 x16,.bool x17,.ref 4,.ref 5,.ref 6,.ref 7]),(9,.own false (.int .i64) x18),(10,.own false aC x19),(11,.own false aB x20),(12,.own true aV x21),(13,.own true aK x22),(14,.own true m_ x23),(15,.own false aM x24),(8,.box [.bool x25,.int .i64 x26,.ref 9,.ref 10,.int .i64 x27,.int .i64 x28,.int .i64 x29,.ref 11,.int .i64 x30,.int .i64 x31,.bool x32,.ref 12,.ref 13,.ref 14,.ref 15])])
theorem e1:V1 k a0 a1=l1 k:=an (b:=b1 k) rfl (fun _=>by kernel_rfl) fun _=>rfl
theorem e0 (n0:Nat):V0 k a0 a1 n0=l0 k n0:=by
 induction n0 with
 | zero=>rfl
 | succ n0 ih =>
  have h:V0 k a0 a1 (n0+1)=b0 k (V1 k a0 a1 n0):=by kernel_rfl
  rw [h,e1];rfl
end
theorem ctr:Cp 22 (C k):=ry (D k) (E:=E k) rfl rfl Tryz.func22 rfl fun ⟨a0,a1,_⟩=>(show _=t k (V0 k a0 a1 k) a0 a1 by kernel_rfl).trans (by rw [e0];rfl)
end jy
namespace lA
def C:Cn:=⟨[.val z_],[ga],true,true,fun x=>f k x.1⟩
def D:List Ce:=[q (aZ.ctr k),q (jh.ctr k),q (j5.ctr k),q (fQ.ctr k),q (jy.ctr k)]
theorem ctr:Cp 6 (C k):=rz k rfl (D k) Tryz.func6 rfl fun _=>by kernel_rfl
end lA
namespace eP
def C:Cn:=⟨[.io true 0 (.pair jD (.pair jD (.pair jD .unit))),.val aH,.val aK],[],true,false,fun x=>f k x.1 x.2.1 x.2.2.1⟩
def D:List Ce:=[q (cY.ctr k)]
theorem ctr:Cp 24 (C k):=rz k rfl (D k) Tryz.func24 rfl fun _=>by kernel_rfl
end eP
namespace dx
def C:Cn:=⟨[.io true 4 (.pair jD (.pair jD (.pair jD .unit))),.val aH,.val aK],[],true,false,fun x=>f k x.1 x.2.1 x.2.2.1⟩
def D:List Ce:=[q (cY.ctr k)]
theorem ctr:Cp 24 (C k):=rz k rfl (D k) Tryz.func24 rfl fun _=>by kernel_rfl
end dx
namespace dy
def C:Cn:=⟨[.io true 8 (.pair jD (.pair jD (.pair jD .unit))),.val aH,.val aK],[],true,false,fun x=>f k x.1 x.2.1 x.2.2.1⟩
def D:List Ce:=[q (cY.ctr k)]
theorem ctr:Cp 24 (C k):=rz k rfl (D k) Tryz.func24 rfl fun _=>by kernel_rfl
end dy
namespace aD
def C:Cn:=⟨[.val (.slice aH),.val (.slice aK)],[(.slice au)],true,false,fun x=>f k x.1 x.2.1⟩
def D:List Ce:=[q (aZ.ctr k),q (eZ.ctr k),q (eP.ctr k),q (dx.ctr k),q (dy.ctr k)]
def E:jj:=en (D k) [(4,[1,5,6,11,12,13])] 0 [(10,[1,5,6,7,8,9,11,12,13]),(1014015,[1,5,6,7,8,9,10,11,12,13,49]),(1016017,[1,5,6,7,8,9,10,11,12,13,60]),(1018020,[1,5,6,7,8,9,10,11,12,13,71]),(1021012,[1,5,6,7,8,10,11,12,13,101])] k
section
variable (a0:List (Ty.d aH)) (a1:List (Ty.d aK))
def K0:Ex→St→Rs:=dZ (E k) (eK (E k) Tryz.f8 (C k) (a0,a1,())) [.blk 0,.code (dS Tryz.f8 4 15)]
def B0 (n0:Nat):Ex→St→Rs:=Qn (E k) (dS Tryz.f8 7 23) 0 [1,5,6,11,12,13] (K0 k a0 a1) n0
def K1 (n0:Nat):Ex→St→Rs:=dZ (E k) (B0 k a0 a1 n0) [.blk 1,.code (dS Tryz.f8 10 919)]
def K2 (n0:Nat):Ex→St→Rs:=dZ (E k) (B0 k a0 a1 n0) [.blk 2,.blk 1,.code (dS Tryz.f8 10 919)]
def K3 (n0:Nat):Ex→St→Rs:=dZ (E k) (B0 k a0 a1 n0) [.blk 2,.blk 1,.code (dS Tryz.f8 10 919)]
def K4 (n0:Nat):Ex→St→Rs:=dZ (E k) (B0 k a0 a1 n0) [.blk 2,.blk 1,.code (dS Tryz.f8 10 919)]
def K5 (n0:Nat):Ex→St→Rs:=dZ (E k) (B0 k a0 a1 n0) [.blk 2,.blk 1,.code (dS Tryz.f8 10 919)]
def V0 (n0:Nat):T0:=fun x0 x1 x2 x3 x4 x5 x6 x7 x8 x9 x10 x11 x12 x13 x14 x15 x16=>bX (cG (E k) (dS Tryz.f8 7 23)) (bL 0 [1,5,6,11,12,13]) (K0 k a0 a1) n0 (mk 118 11 [(1,.sl true aK x0),(5,.ptr 0 0 0),(6,.ref 10),(11,.sl true aH x1),(12,.int .i64 x2),(13,.int .i64 x3)] [(1,.own false aB x4),(2,.own false .str x5),(3,.own false aM x6),(4,.own false aB x7),(5,.own false .str x8),(6,.own false aM x9),(7,.own false aB x10),(8,.own false .str x11),(9,.own false aM x12),(0,.box [.bool x13,.ref 1,.ref 2,.ref 3,.bool x14,.ref 4,.ref 5,.ref 6,.bool x15,.ref 7,.ref 8,.ref 9]),(10,.own false au x16)])
def V1 (n0 n1:Nat):T1:=fun x0 x1 x2 x3 x4 x5 x6 x7 x8 x9 x10 x11 x12 x13 x14 x15 x16 x17 x18 x19 x20 x21 x22 x23=>oI (cG (E k) (dS Tryz.f8 15 31127)) (K1 k a0 a1 n0) n1 (mk 118 12 [(1,.sl true aK x0),(5,.ptr 0 0 0),(6,.ref 10),(7,.int .i64 x1),(8,.ptr 11 0 0),(9,.int .i64 x2),(11,.sl true aH x3),(12,.int .i64 x4),(13,.int .i64 x5)] [(1,.own false aB x6),(2,.own false .str x7),(3,.own false aM x8),(4,.own false aB x9),(5,.own false .str x10),(6,.own false aM x11),(7,.own false aB x12),(8,.own false .str x13),(9,.own false aM x14),(0,.box [.bool x15,.ref 1,.ref 2,.ref 3,.bool x16,.ref 4,.ref 5,.ref 6,.bool x17,.ref 7,.ref 8,.ref 9]),(10,.own false au x18),(11,.box [.int .i64 x19,.int .i64 x20,.str x21,.str x22,.int .i64 x23])])
def V2 (n0 n2:Nat):T2:=fun x0 x1 x2 x3 x4 x5 x6 x7 x8 x9 x10 x11 x12 x13 x14 x15 x16 x17 x18 x19 x20 x21 x22 x23 x24=>oI (cG (E k) (dS Tryz.f8 19 391575)) (K2 k a0 a1 n0) n2 (mk 118 12 [(1,.sl true aK x0),(5,.ptr 0 0 0),(6,.ref 10),(7,.int .i64 x1),(8,.ptr 11 0 0),(9,.int .i64 x2),(10,.ptr 0 0 0),(11,.sl true aH x3),(12,.int .i64 x4),(13,.int .i64 x5),(49,.bool x6)] [(1,.own false aB x7),(2,.own false .str x8),(3,.own false aM x9),(4,.own false aB x10),(5,.own false .str x11),(6,.own false aM x12),(7,.own false aB x13),(8,.own false .str x14),(9,.own false aM x15),(0,.box [.bool x16,.ref 1,.ref 2,.ref 3,.bool x17,.ref 4,.ref 5,.ref 6,.bool x18,.ref 7,.ref 8,.ref 9]),(10,.own false au x19),(11,.box [.int .i64 x20,.int .i64 x21,.str x22,.str x23,.int .i64 x24])])
def V3 (n0 n3:Nat):T3:=fun x0 x1 x2 x3 x4 x5 x6 x7 x8 x9 x10 x11 x12 x13 x14 x15 x16 x17 x18 x19 x20 x21 x22 x23 x24=>oI (cG (E k) (dS Tryz.f8 21 1964439)) (K3 k a0 a1 n0) n3 (mk 118 12 [(1,.sl true aK x0),(5,.ptr 0 0 0),(6,.ref 10),(7,.int .i64 x1),(8,.ptr 11 0 0),(9,.int .i64 x2),(10,.ptr 0 0 0),(11,.sl true aH x3),(12,.int .i64 x4),(13,.int .i64 x5),(60,.bool x6)] [(1,.own false aB x7),(2,.own false .str x8),(3,.own false aM x9),(4,.own false aB x10),(5,.own false .str x11),(6,.own false aM x12),(7,.own false aB x13),(8,.own false .str x14),(9,.own false aM x15),(0,.box [.bool x16,.ref 1,.ref 2,.ref 3,.bool x17,.ref 4,.ref 5,.ref 6,.bool x18,.ref 7,.ref 8,.ref 9]),(10,.own false au x19),(11,.box [.int .i64 x20,.int .i64 x21,.str x22,.str x23,.int .i64 x24])])
def V4 (n0 n4:Nat):T4:=fun x0 x1 x2 x3 x4 x5 x6 x7 x8 x9 x10 x11 x12 x13 x14 x15 x16 x17 x18 x19 x20 x21 x22 x23 x24=>oI (cG (E k) (dS Tryz.f8 23 8255895)) (K4 k a0 a1 n0) n4 (mk 118 12 [(1,.sl true aK x0),(5,.ptr 0 0 0),(6,.ref 10),(7,.int .i64 x1),(8,.ptr 11 0 0),(9,.int .i64 x2),(10,.ptr 0 0 0),(11,.sl true aH x3),(12,.int .i64 x4),(13,.int .i64 x5),(71,.bool x6)] [(1,.own false aB x7),(2,.own false .str x8),(3,.own false aM x9),(4,.own false aB x10),(5,.own false .str x11),(6,.own false aM x12),(7,.own false aB x13),(8,.own false .str x14),(9,.own false aM x15),(0,.box [.bool x16,.ref 1,.ref 2,.ref 3,.bool x17,.ref 4,.ref 5,.ref 6,.bool x18,.ref 7,.ref 8,.ref 9]),(10,.own false au x19),(11,.box [.int .i64 x20,.int .i64 x21,.str x22,.str x23,.int .i64 x24])])
def V5 (n0 n5:Nat):T5:=fun x0 x1 x2 x3 x4 x5 x6 x7 x8 x9 x10 x11 x12 x13 x14 x15 x16 x17 x18 x19 x20 x21 x22 x23=>oI (cG (E k) (dS Tryz.f8 25 33421719)) (K5 k a0 a1 n0) n5 (mk 118 12 [(1,.sl true aK x0),(5,.ptr 0 0 0),(6,.ref 10),(7,.int .i64 x1),(8,.ptr 11 0 0),(10,.ptr 0 0 0),(11,.sl true aH x2),(12,.int .i64 x3),(13,.int .i64 x4),(101,.bool x5)] [(1,.own false aB x6),(2,.own false .str x7),(3,.own false aM x8),(4,.own false aB x9),(5,.own false .str x10),(6,.own false aM x11),(7,.own false aB x12),(8,.own false .str x13),(9,.own false aM x14),(0,.box [.bool x15,.ref 1,.ref 2,.ref 3,.bool x16,.ref 4,.ref 5,.ref 6,.bool x17,.ref 7,.ref 8,.ref 9]),(10,.own false au x18),(11,.box [.int .i64 x19,.int .i64 x20,.str x21,.str x22,.int .i64 x23])])
def V6 (n0 n2:Nat):T6:=fun x0 x1 x2 x3 x4 x5 x6 x7 x8 x9 x10 x11 x12 x13 x14 x15 x16 x17 x18 x19 x20 x21 x22 x23 x24=>oI (cG (E k) (dS Tryz.f8 19 391575)) (K2 k a0 a1 n0) n2 (mk 118 12 [(1,.sl true aK x0),(5,.ptr 0 0 0),(6,.ref 10),(7,.int .i64 x1),(8,.ptr 11 0 0),(9,.int .i64 x2),(10,.ptr 0 0 4),(11,.sl true aH x3),(12,.int .i64 x4),(13,.int .i64 x5),(49,.bool x6)] [(1,.own false aB x7),(2,.own false .str x8),(3,.own false aM x9),(4,.own false aB x10),(5,.own false .str x11),(6,.own false aM x12),(7,.own false aB x13),(8,.own false .str x14),(9,.own false aM x15),(0,.box [.bool x16,.ref 1,.ref 2,.ref 3,.bool x17,.ref 4,.ref 5,.ref 6,.bool x18,.ref 7,.ref 8,.ref 9]),(10,.own false au x19),(11,.box [.int .i64 x20,.int .i64 x21,.str x22,.str x23,.int .i64 x24])])
def V7 (n0 n3:Nat):T7:=fun x0 x1 x2 x3 x4 x5 x6 x7 x8 x9 x10 x11 x12 x13 x14 x15 x16 x17 x18 x19 x20 x21 x22 x23 x24=>oI (cG (E k) (dS Tryz.f8 21 1964439)) (K3 k a0 a1 n0) n3 (mk 118 12 [(1,.sl true aK x0),(5,.ptr 0 0 0),(6,.ref 10),(7,.int .i64 x1),(8,.ptr 11 0 0),(9,.int .i64 x2),(10,.ptr 0 0 4),(11,.sl true aH x3),(12,.int .i64 x4),(13,.int .i64 x5),(60,.bool x6)] [(1,.own false aB x7),(2,.own false .str x8),(3,.own false aM x9),(4,.own false aB x10),(5,.own false .str x11),(6,.own false aM x12),(7,.own false aB x13),(8,.own false .str x14),(9,.own false aM x15),(0,.box [.bool x16,.ref 1,.ref 2,.ref 3,.bool x17,.ref 4,.ref 5,.ref 6,.bool x18,.ref 7,.ref 8,.ref 9]),(10,.own false au x19),(11,.box [.int .i64 x20,.int .i64 x21,.str x22,.str x23,.int .i64 x24])])
def V8 (n0 n4:Nat):T8:=fun x0 x1 x2 x3 x4 x5 x6 x7 x8 x9 x10 x11 x12 x13 x14 x15 x16 x17 x18 x19 x20 x21 x22 x23 x24=>oI (cG (E k) (dS Tryz.f8 23 8255895)) (K4 k a0 a1 n0) n4 (mk 118 12 [(1,.sl true aK x0),(5,.ptr 0 0 0),(6,.ref 10),(7,.int .i64 x1),(8,.ptr 11 0 0),(9,.int .i64 x2),(10,.ptr 0 0 4),(11,.sl true aH x3),(12,.int .i64 x4),(13,.int .i64 x5),(71,.bool x6)] [(1,.own false aB x7),(2,.own false .str x8),(3,.own false aM x9),(4,.own false aB x10),(5,.own false .str x11),(6,.own false aM x12),(7,.own false aB x13),(8,.own false .str x14),(9,.own false aM x15),(0,.box [.bool x16,.ref 1,.ref 2,.ref 3,.bool x17,.ref 4,.ref 5,.ref 6,.bool x18,.ref 7,.ref 8,.ref 9]),(10,.own false au x19),(11,.box [.int .i64 x20,.int .i64 x21,.str x22,.str x23,.int .i64 x24])])
def V9 (n0 n5:Nat):T9:=fun x0 x1 x2 x3 x4 x5 x6 x7 x8 x9 x10 x11 x12 x13 x14 x15 x16 x17 x18 x19 x20 x21 x22 x23=>oI (cG (E k) (dS Tryz.f8 25 33421719)) (K5 k a0 a1 n0) n5 (mk 118 12 [(1,.sl true aK x0),(5,.ptr 0 0 0),(6,.ref 10),(7,.int .i64 x1),(8,.ptr 11 0 0),(10,.ptr 0 0 4),(11,.sl true aH x2),(12,.int .i64 x3),(13,.int .i64 x4),(101,.bool x5)] [(1,.own false aB x6),(2,.own false .str x7),(3,.own false aM x8),(4,.own false aB x9),(5,.own false .str x10),(6,.own false aM x11),(7,.own false aB x12),(8,.own false .str x13),(9,.own false aM x14),(0,.box [.bool x15,.ref 1,.ref 2,.ref 3,.bool x16,.ref 4,.ref 5,.ref 6,.bool x17,.ref 7,.ref 8,.ref 9]),(10,.own false au x18),(11,.box [.int .i64 x19,.int .i64 x20,.str x21,.str x22,.int .i64 x23])])
def Rf (n0 n2:Nat):RG:=fun x0 x1 x2 x3 x4 x5 x6 x7 x8 x9 x10 x11 x12 x13 x14 x15 x16 x17 x18 x19 x20 x21 x22 x23 x24=>oI (cG (E k) (dS Tryz.f8 19 391575)) (K2 k a0 a1 n0) n2 (mk 118 12 [(1,.sl true aK x0),(5,.ptr 0 0 0),(6,.ref 10),(7,.int .i64 x1),(8,.ptr 11 0 0),(9,.int .i64 x2),(10,.ptr 0 0 8),(11,.sl true aH x3),(12,.int .i64 x4),(13,.int .i64 x5),(49,.bool x6)] [(1,.own false aB x7),(2,.own false .str x8),(3,.own false aM x9),(4,.own false aB x10),(5,.own false .str x11),(6,.own false aM x12),(7,.own false aB x13),(8,.own false .str x14),(9,.own false aM x15),(0,.box [.bool x16,.ref 1,.ref 2,.ref 3,.bool x17,.ref 4,.ref 5,.ref 6,.bool x18,.ref 7,.ref 8,.ref 9]),(10,.own false au x19),(11,.box [.int .i64 x20,.int .i64 x21,.str x22,.str x23,.int .i64 x24])])
def RZ (n0 n3:Nat):RQ:=fun x0 x1 x2 x3 x4 x5 x6 x7 x8 x9 x10 x11 x12 x13 x14 x15 x16 x17 x18 x19 x20 x21 x22 x23 x24=>oI (cG (E k) (dS Tryz.f8 21 1964439)) (K3 k a0 a1 n0) n3 (mk 118 12 [(1,.sl true aK x0),(5,.ptr 0 0 0),(6,.ref 10),(7,.int .i64 x1),(8,.ptr 11 0 0),(9,.int .i64 x2),(10,.ptr 0 0 8),(11,.sl true aH x3),(12,.int .i64 x4),(13,.int .i64 x5),(60,.bool x6)] [(1,.own false aB x7),(2,.own false .str x8),(3,.own false aM x9),(4,.own false aB x10),(5,.own false .str x11),(6,.own false aM x12),(7,.own false aB x13),(8,.own false .str x14),(9,.own false aM x15),(0,.box [.bool x16,.ref 1,.ref 2,.ref 3,.bool x17,.ref 4,.ref 5,.ref 6,.bool x18,.ref 7,.ref 8,.ref 9]),(10,.own false au x19),(11,.box [.int .i64 x20,.int .i64 x21,.str x22,.str x23,.int .i64 x24])])
def Rc (n0 n4:Nat):RI:=fun x0 x1 x2 x3 x4 x5 x6 x7 x8 x9 x10 x11 x12 x13 x14 x15 x16 x17 x18 x19 x20 x21 x22 x23 x24=>oI (cG (E k) (dS Tryz.f8 23 8255895)) (K4 k a0 a1 n0) n4 (mk 118 12 [(1,.sl true aK x0),(5,.ptr 0 0 0),(6,.ref 10),(7,.int .i64 x1),(8,.ptr 11 0 0),(9,.int .i64 x2),(10,.ptr 0 0 8),(11,.sl true aH x3),(12,.int .i64 x4),(13,.int .i64 x5),(71,.bool x6)] [(1,.own false aB x7),(2,.own false .str x8),(3,.own false aM x9),(4,.own false aB x10),(5,.own false .str x11),(6,.own false aM x12),(7,.own false aB x13),(8,.own false .str x14),(9,.own false aM x15),(0,.box [.bool x16,.ref 1,.ref 2,.ref 3,.bool x17,.ref 4,.ref 5,.ref 6,.bool x18,.ref 7,.ref 8,.ref 9]),(10,.own false au x19),(11,.box [.int .i64 x20,.int .i64 x21,.str x22,.str x23,.int .i64 x24])])
def Rk (n0 n5:Nat):RN:=fun x0 x1 x2 x3 x4 x5 x6 x7 x8 x9 x10 x11 x12 x13 x14 x15 x16 x17 x18 x19 x20 x21 x22 x23=>oI (cG (E k) (dS Tryz.f8 25 33421719)) (K5 k a0 a1 n0) n5 (mk 118 12 [(1,.sl true aK x0),(5,.ptr 0 0 0),(6,.ref 10),(7,.int .i64 x1),(8,.ptr 11 0 0),(10,.ptr 0 0 8),(11,.sl true aH x2),(12,.int .i64 x3),(13,.int .i64 x4),(101,.bool x5)] [(1,.own false aB x6),(2,.own false .str x7),(3,.own false aM x8),(4,.own false aB x9),(5,.own false .str x10),(6,.own false aM x11),(7,.own false aB x12),(8,.own false .str x13),(9,.own false aM x14),(0,.box [.bool x15,.ref 1,.ref 2,.ref 3,.bool x16,.ref 4,.ref 5,.ref 6,.bool x17,.ref 7,.ref 8,.ref 9]),(10,.own false au x18),(11,.box [.int .i64 x19,.int .i64 x20,.str x21,.str x22,.int .i64 x23])])
theorem e5 (n0 n5:Nat):V5 k a0 a1 n0 n5=l5 k (V0 k a0 a1 n0) n5:=by
 induction n5 with
 | zero=>rfl
 | succ n5 ih =>
  have h:V5 k a0 a1 n0 (n5+1)=b5 k (V0 k a0 a1 n0):=by kernel_rfl
  rw [h];rfl
theorem e4 (n0 n4:Nat):V4 k a0 a1 n0 n4=l4 k (V0 k a0 a1 n0) n4:=by
 induction n4 with
 | zero=>rfl
 | succ n4 ih =>
  have h:V4 k a0 a1 n0 (n4+1)=b4 k (V5 k a0 a1 n0 k) (V0 k a0 a1 n0):=by kernel_rfl
  rw [h,e5];rfl
theorem e3 (n0 n3:Nat):V3 k a0 a1 n0 n3=l3 k (V0 k a0 a1 n0) n3:=by
 induction n3 with
 | zero=>rfl
 | succ n3 ih =>
  have h:V3 k a0 a1 n0 (n3+1)=b3 k (V4 k a0 a1 n0 k) (V0 k a0 a1 n0):=by kernel_rfl
  rw [h,e4];rfl
theorem e2 (n0 n2:Nat):V2 k a0 a1 n0 n2=l2 k (V0 k a0 a1 n0) n2:=by
 induction n2 with
 | zero=>rfl
 | succ n2 ih =>
  have h:V2 k a0 a1 n0 (n2+1)=b2 k (V3 k a0 a1 n0 k) (V0 k a0 a1 n0):=by kernel_rfl
  rw [h,e3];rfl
theorem e9 (n0 n5:Nat):V9 k a0 a1 n0 n5=l9 k (V0 k a0 a1 n0) n5:=by
 induction n5 with
 | zero=>rfl
 | succ n5 ih =>
  have h:V9 k a0 a1 n0 (n5+1)=b9 k (V0 k a0 a1 n0):=by kernel_rfl
  rw [h];rfl
theorem e8 (n0 n4:Nat):V8 k a0 a1 n0 n4=l8 k (V0 k a0 a1 n0) n4:=by
 induction n4 with
 | zero=>rfl
 | succ n4 ih =>
  have h:V8 k a0 a1 n0 (n4+1)=b8 k (V9 k a0 a1 n0 k) (V0 k a0 a1 n0):=by kernel_rfl
  rw [h,e9];rfl
theorem e7 (n0 n3:Nat):V7 k a0 a1 n0 n3=l7 k (V0 k a0 a1 n0) n3:=by
 induction n3 with
 | zero=>rfl
 | succ n3 ih =>
  have h:V7 k a0 a1 n0 (n3+1)=b7 k (V8 k a0 a1 n0 k) (V0 k a0 a1 n0):=by kernel_rfl
  rw [h,e8];rfl
theorem e6 (n0 n2:Nat):V6 k a0 a1 n0 n2=l6 k (V0 k a0 a1 n0) n2:=by
 induction n2 with
 | zero=>rfl
 | succ n2 ih =>
  have h:V6 k a0 a1 n0 (n2+1)=b6 k (V7 k a0 a1 n0 k) (V0 k a0 a1 n0):=by kernel_rfl
  rw [h,e7];rfl
theorem Rx (n0 n5:Nat):Rk k a0 a1 n0 n5=l13 k (V0 k a0 a1 n0) n5:=by
 induction n5 with
 | zero=>rfl
 | succ n5 ih =>
  have h:Rk k a0 a1 n0 (n5+1)=b13 k (V0 k a0 a1 n0):=by kernel_rfl
  rw [h];rfl
theorem Ru (n0 n4:Nat):Rc k a0 a1 n0 n4=l12 k (V0 k a0 a1 n0) n4:=by
 induction n4 with
 | zero=>rfl
 | succ n4 ih =>
  have h:Rc k a0 a1 n0 (n4+1)=b12 k (Rk k a0 a1 n0 k) (V0 k a0 a1 n0):=by kernel_rfl
  rw [h,Rx];rfl
theorem Ry (n0 n3:Nat):RZ k a0 a1 n0 n3=l11 k (V0 k a0 a1 n0) n3:=by
 induction n3 with
 | zero=>rfl
 | succ n3 ih =>
  have h:RZ k a0 a1 n0 (n3+1)=b11 k (Rc k a0 a1 n0 k) (V0 k a0 a1 n0):=by kernel_rfl
  rw [h,Ru];rfl
theorem Rr (n0 n2:Nat):Rf k a0 a1 n0 n2=l10 k (V0 k a0 a1 n0) n2:=by
 induction n2 with
 | zero=>rfl
 | succ n2 ih =>
  have h:Rf k a0 a1 n0 (n2+1)=b10 k (RZ k a0 a1 n0 k) (V0 k a0 a1 n0):=by kernel_rfl
  rw [h,Ry];rfl
theorem e1 (n0 n1:Nat):V1 k a0 a1 n0 n1=l1 k (V0 k a0 a1 n0) n1:=by
 induction n1 with
 | zero=>rfl
 | succ n1 ih =>
  have h:V1 k a0 a1 n0 (n1+1)=b1 k (V2 k a0 a1 n0 k) (V6 k a0 a1 n0 k) (Rf k a0 a1 n0 k) (V0 k a0 a1 n0):=by kernel_rfl
  rw [h,e2,e6,Rr];rfl
theorem e0 (n0:Nat):V0 k a0 a1 n0=l0 k n0:=by
 induction n0 with
 | zero=>rfl
 | succ n0 ih =>
  have h:V0 k a0 a1 (n0+1)=b0 k (V1 k a0 a1 n0 k) (V0 k a0 a1 n0):=by kernel_rfl
  rw [h,e1,ih];rfl
end
theorem ctr:Cp 8 (C k):=ry (D k) (E:=E k) rfl rfl Tryz.func8 rfl fun ⟨a0,a1,_⟩=>(show _=t k (V0 k a0 a1 k) a0 a1 by kernel_rfl).trans (by rw [e0];rfl)
end aD
namespace fS
def C:Cn:=⟨[.val bF],[(.slice aB),(.int .i64)],true,false,fun x=>f k x.1⟩
def D:List Ce:=[q (iK.ctr k)]
theorem ctr:Cp 9 (C k):=rz k rfl (D k) Tryz.func9 rfl fun _=>by kernel_rfl
end fS
namespace gW
def C:Cn:=⟨[.val (.slice aB),.val aB,.val .bool],[(.slice aB)],true,false,fun x=>f k x.1 x.2.1 x.2.2.1⟩
def E:jj:=en [] [(4,[0,4,7,8,9])] 0 [] k
section
variable (a0:List (Ty.d aB)) (a1:Ty.d aB) (a2:Bool)
def K0:Ex→St→Rs:=dZ (E k) (eK (E k) Tryz.f47 (C k) (a0,a1,a2,())) [.blk 0,.code (dS Tryz.f47 4 15)]
def V0 (n0:Nat):T0:=fun x0 x1 x2 x3 x4 x5 x6=>bX (cG (E k) (dS Tryz.f47 7 23)) (bL 0 [0,4,7,8,9]) (K0 k a0 a1 a2) n0 (mk 56 2 [(0,.sl true aB x0),(4,.ptr 0 0 0),(7,.ref 1),(8,.bool x1),(9,.int .i64 x2)] [(0,.box [.str x3,.str x4,.int .i64 x5]),(1,.own false aB x6)])
theorem e0:V0 k a0 a1 a2=l0 k:=an (b:=b0 k) rfl (fun _=>by kernel_rfl) fun _=>rfl
end
theorem ctr:Cp 47 (C k):=ry [] (E:=E k) rfl rfl Tryz.func47 rfl fun ⟨a0,a1,a2,_⟩=>(show _=t k (V0 k a0 a1 a2 k) a0 a1 a2 by kernel_rfl).trans (by rw [e0];rfl)
end gW
namespace iP
def C:Cn:=⟨[.val (.slice aB),.val (.slice aM),.val (.int .i64)],[(.slice aB)],true,false,fun x=>f k x.1 x.2.1 x.2.2.1⟩
def D:List Ce:=[q (gW.ctr k)]
def E:jj:=en (D k) [(3,[1,2,7,8])] 0 [] k
section
variable (a0:List (Ty.d aB)) (a1:List (Ty.d aM)) (a2:Int)
def K0:Ex→St→Rs:=dZ (E k) (eK (E k) Tryz.f30 (C k) (a0,a1,a2,())) [.blk 0,.code (dS Tryz.f30 3 7)]
def V0 (n0:Nat):T0:=fun x0 x1 x2 x3=>bX (cG (E k) (dS Tryz.f30 6 11)) (bL 0 [1,2,7,8]) (K0 k a0 a1 a2) n0 (mk 38 1 [(1,.sl true aM x0),(2,.int .i64 x1),(7,.ref 0),(8,.int .i64 x2)] [(0,.own false aB x3)])
theorem e0:V0 k a0 a1 a2=l0 k:=an (b:=b0 k) rfl (fun _=>by kernel_rfl) fun _=>rfl
end
theorem ctr:Cp 30 (C k):=ry (D k) (E:=E k) rfl rfl Tryz.func30 rfl fun ⟨a0,a1,a2,_⟩=>(show _=t k (V0 k a0 a1 a2 k) a0 a1 a2 by kernel_rfl).trans (by rw [e0];rfl)
end iP
namespace eH
def C:Cn:=⟨[.val (.slice au)],[(.slice aB)],true,false,fun x=>f k x.1⟩
def D:List Ce:=[q (iP.ctr k)]
def E:jj:=en (D k) [(3,[0,3,4])] 0 [] k
section
variable (a0:List (Ty.d au))
def K0:Ex→St→Rs:=dZ (E k) (eK (E k) Tryz.f26 (C k) (a0,())) [.blk 0,.code (dS Tryz.f26 3 7)]
def V0 (n0:Nat):T0:=fun x0 x1 x2=>bX (cG (E k) (dS Tryz.f26 6 11)) (bL 0 [0,3,4]) (K0 k a0) n0 (mk 20 1 [(0,.sl true au x0),(3,.ref 0),(4,.int .i64 x1)] [(0,.own false aB x2)])
theorem e0:V0 k a0=l0 k:=an (b:=b0 k) rfl (fun _=>by kernel_rfl) fun _=>rfl
end
theorem ctr:Cp 26 (C k):=ry (D k) (E:=E k) rfl rfl Tryz.func26 rfl fun ⟨a0,_⟩=>(show _=t k (V0 k a0 k) a0 by kernel_rfl).trans (by rw [e0];rfl)
end eH
namespace fE
def C:Cn:=⟨[.val (.slice aB),.val .str],[aB,(.int .i64)],true,false,fun x=>f k x.1 x.2.1⟩
def E:jj:=en [] [(2,[0,1,4,6])] 0 [] k
section
variable (a0:List (Ty.d aB)) (a1:ByteArray)
def K0:Ex→St→Rs:=dZ (E k) (eK (E k) Tryz.f27 (C k) (a0,a1,())) [.blk 0,.code (dS Tryz.f27 2 3)]
def V0 (n0:Nat):T0:=fun x0 x1 x2 x3 x4 x5=>bX (cG (E k) (dS Tryz.f27 5 5)) (bL 0 [0,1,4,6]) (K0 k a0 a1) n0 (mk 25 1 [(0,.sl true aB x0),(1,.str x1),(4,.ptr 0 0 0),(6,.int .i64 x2)] [(0,.box [.str x3,.str x4,.int .i64 x5])])
theorem e0:V0 k a0 a1=l0 k:=an (b:=b0 k) rfl (fun _=>by kernel_rfl) fun _=>rfl
end
theorem ctr:Cp 27 (C k):=ry [] (E:=E k) rfl rfl Tryz.func27 rfl fun ⟨a0,a1,_⟩=>(show _=t k (V0 k a0 a1 k) a0 a1 by kernel_rfl).trans (by rw [e0];rfl)
end fE
namespace ap
def C:Cn:=⟨[.val (.slice au)],[.bool],true,false,fun x=>f k x.1⟩
def D:List Ce:=[q (eH.ctr k),q (fE.ctr k)]
def E:jj:=en (D k) [(2,[0,3]),(6,[0,3,4,5]),(12,[0,3,4,8])] 0 [] k
section
variable (a0:List (Ty.d au))
def K0:Ex→St→Rs:=dZ (E k) (eK (E k) Tryz.f10 (C k) (a0,())) [.blk 0,.code (dS Tryz.f10 2 3)]
def B0 (n0:Nat):Ex→St→Rs:=Qn (E k) (dS Tryz.f10 5 5) 0 [0,3] (K0 k a0) n0
def K1 (n0:Nat):Ex→St→Rs:=dZ (E k) (B0 k a0 n0) [.blk 2,.code (dS Tryz.f10 10 805),.blk 1,.code (dS Tryz.f10 7 101)]
def K2 (n0:Nat):Ex→St→Rs:=dZ (E k) (B0 k a0 n0) [.blk 4,.blk 1,.code (dS Tryz.f10 7 101)]
def V0 (n0:Nat):T0:=fun x0 x1=>bX (cG (E k) (dS Tryz.f10 5 5)) (bL 0 [0,3]) (K0 k a0) n0 (mk 86 0 [(0,.sl true au x0),(3,.int .i64 x1)] [])
def V1 (n0 n1:Nat):T1:=fun x0 x1 x2 x3=>bX (cG (E k) (dS Tryz.f10 13 1317)) (bL 0 [0,3,4,5]) (K1 k a0 n0) n1 (mk 86 1 [(0,.sl true au x0),(3,.int .i64 x1),(4,.ref 0),(5,.int .i64 x2)] [(0,.own false aB x3)])
def V2 (n0 n2:Nat):T2:=fun x0 x1 x2 x3=>bX (cG (E k) (dS Tryz.f10 13 1829)) (bL 0 [0,3,4,8]) (K2 k a0 n0) n2 (mk 86 1 [(0,.sl true au x0),(3,.int .i64 x1),(4,.ref 0),(8,.int .i64 x2)] [(0,.own false aB x3)])
theorem e2 (n0:Nat):V2 k a0 n0=l2 k (V0 k a0 n0):=an (b:=b2 k (V0 k a0 n0)) rfl (fun _=>by kernel_rfl) fun _=>rfl
theorem e1 (n0 n1:Nat):V1 k a0 n0 n1=l1 k (V0 k a0 n0) n1:=by
 induction n1 with
 | zero=>rfl
 | succ n1 ih =>
  have h:V1 k a0 n0 (n1+1)=b1 k (V2 k a0 n0 k) (V0 k a0 n0) (V1 k a0 n0 n1):=by kernel_rfl
  rw [h,e2,ih];rfl
theorem e0 (n0:Nat):V0 k a0 n0=l0 k n0:=by
 induction n0 with
 | zero=>rfl
 | succ n0 ih =>
  have h:V0 k a0 (n0+1)=b0 k (V1 k a0 n0 k) (V0 k a0 n0):=by kernel_rfl
  rw [h,e1,ih];rfl
end
theorem ctr:Cp 10 (C k):=ry (D k) (E:=E k) rfl rfl Tryz.func10 rfl fun ⟨a0,_⟩=>(show _=t k (V0 k a0 k) a0 by kernel_rfl).trans (by rw [e0];rfl)
end ap
namespace fL
def C:Cn:=⟨[.val (.slice aB)],[(.slice aB)],true,false,fun x=>f k x.1⟩
theorem ctr:Cp 45 (C k):=rz k rfl [] Tryz.func45 rfl fun _=>by kernel_rfl
end fL
namespace fc
def C:Cn:=⟨[.val (.slice aB),.val .str],[(.slice aB)],true,false,fun x=>f k x.1 x.2.1⟩
def E:jj:=en [] [(3,[1,5,8,9,10])] 0 [] k
section
variable (a0:List (Ty.d aB)) (a1:ByteArray)
def K0:Ex→St→Rs:=dZ (E k) (eK (E k) Tryz.f46 (C k) (a0,a1,())) [.blk 0,.code (dS Tryz.f46 3 7)]
def V0 (n0:Nat):T0:=fun x0 x1 x2 x3 x4=>bX (cG (E k) (dS Tryz.f46 6 11)) (bL 0 [1,5,8,9,10]) (K0 k a0 a1) n0 (mk 24 1 [(1,.str x0),(5,.ref 0),(8,.sl true aB x1),(9,.int .i64 x2),(10,.int .i64 x3)] [(0,.own false aB x4)])
theorem e0:V0 k a0 a1=l0 k:=an (b:=b0 k) rfl (fun _=>by kernel_rfl) fun _=>rfl
end
theorem ctr:Cp 46 (C k):=ry [] (E:=E k) rfl rfl Tryz.func46 rfl fun ⟨a0,a1,_⟩=>(show _=t k (V0 k a0 a1 k) a0 a1 by kernel_rfl).trans (by rw [e0];rfl)
end fc
namespace fI
def C:Cn:=⟨[.val (.slice aB),.val (.slice aM),.val (.int .i64)],[(.slice aB)],true,false,fun x=>f k x.1 x.2.1 x.2.2.1⟩
def D:List Ce:=[q (fL.ctr k),q (fc.ctr k)]
def E:jj:=en (D k) [(3,[2,7,13,14,15]),(8,[2,7,9,10,13,14,15])] 0 [] k
section
variable (a0:List (Ty.d aB)) (a1:List (Ty.d aM)) (a2:Int)
def K0:Ex→St→Rs:=dZ (E k) (eK (E k) Tryz.f29 (C k) (a0,a1,a2,())) [.blk 0,.code (dS Tryz.f29 3 7)]
def B0 (n0:Nat):Ex→St→Rs:=Qn (E k) (dS Tryz.f29 6 11) 0 [2,7,13,14,15] (K0 k a0 a1 a2) n0
def K1 (n0:Nat):Ex→St→Rs:=dZ (E k) (B0 k a0 a1 a2 n0) [.blk 2,.code (dS Tryz.f29 15 31947),.blk 1,.code (dS Tryz.f29 9 459)]
def V0 (n0:Nat):T0:=fun x0 x1 x2 x3 x4=>bX (cG (E k) (dS Tryz.f29 6 11)) (bL 0 [2,7,13,14,15]) (K0 k a0 a1 a2) n0 (mk 59 1 [(2,.int .i64 x0),(7,.ref 0),(13,.sl true aM x1),(14,.int .i64 x2),(15,.int .i64 x3)] [(0,.own false aB x4)])
def V1 (n0 n1:Nat):T1:=fun x0 x1 x2 x3 x4 x5 x6 x7 x8=>bX (cG (E k) (dS Tryz.f29 17 15563)) (bL 0 [2,7,9,10,13,14,15]) (K1 k a0 a1 a2 n0) n1 (mk 59 2 [(2,.int .i64 x0),(7,.ref 0),(9,.ptr 1 0 0),(10,.int .i64 x1),(13,.sl true aM x2),(14,.int .i64 x3),(15,.int .i64 x4)] [(0,.own false aB x5),(1,.box [.str x6,.bool x7,.str x8])])
theorem e1 (n0:Nat):V1 k a0 a1 a2 n0=l1 k (V0 k a0 a1 a2 n0):=an (b:=b1 k (V0 k a0 a1 a2 n0)) rfl (fun _=>by kernel_rfl) fun _=>rfl
theorem e0 (n0:Nat):V0 k a0 a1 a2 n0=l0 k n0:=by
 induction n0 with
 | zero=>rfl
 | succ n0 ih =>
  have h:V0 k a0 a1 a2 (n0+1)=b0 k (V1 k a0 a1 a2 n0 k) (V0 k a0 a1 a2 n0):=by kernel_rfl
  rw [h,e1,ih];rfl
end
theorem ctr:Cp 29 (C k):=ry (D k) (E:=E k) rfl rfl Tryz.func29 rfl fun ⟨a0,a1,a2,_⟩=>(show _=t k (V0 k a0 a1 a2 k) a0 a1 a2 by kernel_rfl).trans (by rw [e0];rfl)
end fI
namespace cC
def C:Cn:=⟨[.val (.slice au)],[(.slice aB)],true,false,fun x=>f k x.1⟩
def D:List Ce:=[q (fI.ctr k)]
def E:jj:=en (D k) [(3,[3,6,7,8])] 0 [] k
section
variable (a0:List (Ty.d au))
def K0:Ex→St→Rs:=dZ (E k) (eK (E k) Tryz.f14 (C k) (a0,())) [.blk 0,.code (dS Tryz.f14 3 7)]
def V0 (n0:Nat):T0:=fun x0 x1 x2 x3=>bX (cG (E k) (dS Tryz.f14 6 11)) (bL 0 [3,6,7,8]) (K0 k a0) n0 (mk 18 1 [(3,.ref 0),(6,.sl true au x0),(7,.int .i64 x1),(8,.int .i64 x2)] [(0,.own false aB x3)])
theorem e0:V0 k a0=l0 k:=an (b:=b0 k) rfl (fun _=>by kernel_rfl) fun _=>rfl
end
theorem ctr:Cp 14 (C k):=ry (D k) (E:=E k) rfl rfl Tryz.func14 rfl fun ⟨a0,_⟩=>(show _=t k (V0 k a0 k) a0 by kernel_rfl).trans (by rw [e0];rfl)
end cC
namespace fv
def C:Cn:=⟨[.val (.slice aB),.val .str],[aB,.bool],true,false,fun x=>f k x.1 x.2.1⟩
def E:jj:=en [] [(2,[1,4,8,9,10])] 0 [] k
section
variable (a0:List (Ty.d aB)) (a1:ByteArray)
def K0:Ex→St→Rs:=dZ (E k) (eK (E k) Tryz.f44 (C k) (a0,a1,())) [.blk 0,.code (dS Tryz.f44 2 3)]
def V0 (n0:Nat):T0:=fun x0 x1 x2 x3 x4 x5 x6=>bX (cG (E k) (dS Tryz.f44 5 5)) (bL 0 [1,4,8,9,10]) (K0 k a0 a1) n0 (mk 21 1 [(1,.str x0),(4,.ptr 0 0 0),(8,.sl true aB x1),(9,.int .i64 x2),(10,.int .i64 x3)] [(0,.box [.str x4,.str x5,.int .i64 x6])])
theorem e0:V0 k a0 a1=l0 k:=an (b:=b0 k) rfl (fun _=>by kernel_rfl) fun _=>rfl
end
theorem ctr:Cp 44 (C k):=ry [] (E:=E k) rfl rfl Tryz.func44 rfl fun ⟨a0,a1,_⟩=>(show _=t k (V0 k a0 a1 k) a0 a1 by kernel_rfl).trans (by rw [e0];rfl)
end fv
namespace fa
def C:Cn:=⟨[.val (.slice aB),.val au],[.bool],true,false,fun x=>f k x.1 x.2.1⟩
def D:List Ce:=[q (fv.ctr k)]
def E:jj:=en (D k) [(2,[0,3,14,15,16]),(9,[0,38,39,40])] 0 [] k
section
variable (a0:List (Ty.d aB)) (a1:Ty.d au)
def K0:Ex→St→Rs:=dZ (E k) (eK (E k) Tryz.f28 (C k) (a0,a1,())) [.blk 0,.code (dS Tryz.f28 2 3)]
def K1:Ex→St→Rs:=dZ (E k) (eK (E k) Tryz.f28 (C k) (a0,a1,())) [.blk 2,.code (dS Tryz.f28 3 7)]
def V0 (n0:Nat):T0:=fun x0 x1 x2 x3 x4 x5 x6 x7=>bX (cG (E k) (dS Tryz.f28 5 5)) (bL 0 [0,3,14,15,16]) (K0 k a0 a1) n0 (mk 52 1 [(0,.sl true aB x0),(3,.ptr 0 0 0),(14,.sl true aB x1),(15,.int .i64 x2),(16,.int .i64 x3)] [(0,.box [.int .i64 x4,.sl true aB x5,.sl true .str x6,.sl true aM x7])])
def V1 (n1:Nat):T1:=fun x0 x1 x2 x3=>bX (cG (E k) (dS Tryz.f28 6 11)) (bL 0 [0,38,39,40]) (K1 k a0 a1) n1 (mk 52 0 [(0,.sl true aB x0),(38,.sl true .str x1),(39,.int .i64 x2),(40,.int .i64 x3)] [])
theorem e1:V1 k a0 a1=l1 k:=an (b:=b1 k) rfl (fun _=>by kernel_rfl) fun _=>rfl
theorem e0 (n0:Nat):V0 k a0 a1 n0=l0 k n0:=by
 induction n0 with
 | zero=>rfl
 | succ n0 ih =>
  have h:V0 k a0 a1 (n0+1)=b0 k (V1 k a0 a1 k) (V0 k a0 a1 n0):=by kernel_rfl
  rw [h,e1,ih];rfl
end
theorem ctr:Cp 28 (C k):=ry (D k) (E:=E k) rfl rfl Tryz.func28 rfl fun ⟨a0,a1,_⟩=>(show _=t k (V0 k a0 a1 k) a0 a1 by kernel_rfl).trans (by rw [e0];rfl)
end fa
namespace dJ
def C:Cn:=⟨[.val (.slice au)],[.bool],true,false,fun x=>f k x.1⟩
def D:List Ce:=[q (cC.ctr k),q (fa.ctr k)]
def E:jj:=en (D k) [(2,[0,5,6,7])] 0 [] k
section
variable (a0:List (Ty.d au))
def K0:Ex→St→Rs:=dZ (E k) (eK (E k) Tryz.f11 (C k) (a0,())) [.blk 0,.code (dS Tryz.f11 2 3)]
def V0 (n0:Nat):T0:=fun x0 x1 x2 x3=>bX (cG (E k) (dS Tryz.f11 5 5)) (bL 0 [0,5,6,7]) (K0 k a0) n0 (mk 20 0 [(0,.sl true au x0),(5,.sl true au x1),(6,.int .i64 x2),(7,.int .i64 x3)] [])
theorem e0:V0 k a0=l0 k:=an (b:=b0 k) rfl (fun _=>by kernel_rfl) fun _=>rfl
end
theorem ctr:Cp 11 (C k):=ry (D k) (E:=E k) rfl rfl Tryz.func11 rfl fun ⟨a0,_⟩=>(show _=t k (V0 k a0 k) a0 by kernel_rfl).trans (by rw [e0];rfl)
end dJ
namespace d9
def C:Cn:=⟨[.val (.slice aB)],[(.slice aB)],true,false,fun x=>f k x.1⟩
def E:jj:=en [] [(3,[0,3,4])] 0 [] k
section
variable (a0:List (Ty.d aB))
def K0:Ex→St→Rs:=dZ (E k) (eK (E k) Tryz.f13 (C k) (a0,())) [.blk 0,.code (dS Tryz.f13 3 7)]
def V0 (n0:Nat):T0:=fun x0 x1 x2=>bX (cG (E k) (dS Tryz.f13 6 11)) (bL 0 [0,3,4]) (K0 k a0) n0 (mk 27 1 [(0,.sl true aB x0),(3,.ref 0),(4,.int .i64 x1)] [(0,.own false aB x2)])
theorem e0:V0 k a0=l0 k:=an (b:=b0 k) rfl (fun _=>by kernel_rfl) fun _=>rfl
end
theorem ctr:Cp 13 (C k):=ry [] (E:=E k) rfl rfl Tryz.func13 rfl fun ⟨a0,_⟩=>(show _=t k (V0 k a0 k) a0 by kernel_rfl).trans (by rw [e0];rfl)
end d9
namespace bW
def C:Cn:=⟨[.val (.slice aB),.val (.slice aB)],[.bool],true,false,fun x=>f k x.1 x.2.1⟩
def E:jj:=en [] [(4,[0,1,5])] 0 [] k
section
variable (a0:List (Ty.d aB)) (a1:List (Ty.d aB))
def K0:Ex→St→Rs:=dZ (E k) (eK (E k) Tryz.f12 (C k) (a0,a1,())) [.blk 0,.code (dS Tryz.f12 3 7)]
def V0 (n0:Nat):T0:=fun x0 x1 x2=>bX (cG (E k) (dS Tryz.f12 6 11)) (bL 0 [0,1,5]) (K0 k a0 a1) n0 (mk 26 0 [(0,.sl true aB x0),(1,.sl true aB x1),(5,.int .i64 x2)] [])
theorem e0:V0 k a0 a1=l0 k:=an (b:=b0 k) rfl (fun _=>by kernel_rfl) fun _=>rfl
end
theorem ctr:Cp 12 (C k):=ry [] (E:=E k) rfl rfl Tryz.func12 rfl fun ⟨a0,a1,_⟩=>(show _=t k (V0 k a0 a1 k) a0 a1 by kernel_rfl).trans (by rw [e0];rfl)
end bW
namespace dI
def C:Cn:=⟨[.val (.slice aB),.val (.slice m_)],[(.slice aB)],true,false,fun x=>f k x.1 x.2.1⟩
def D:List Ce:=[q (iP.ctr k)]
def E:jj:=en (D k) [(3,[1,5,6])] 0 [] k
section
variable (a0:List (Ty.d aB)) (a1:List (Ty.d m_))
def K0:Ex→St→Rs:=dZ (E k) (eK (E k) Tryz.f15 (C k) (a0,a1,())) [.blk 0,.code (dS Tryz.f15 3 7)]
def V0 (n0:Nat):T0:=fun x0 x1 x2=>bX (cG (E k) (dS Tryz.f15 6 11)) (bL 0 [1,5,6]) (K0 k a0 a1) n0 (mk 29 1 [(1,.sl true m_ x0),(5,.ref 0),(6,.int .i64 x1)] [(0,.own false aB x2)])
theorem e0:V0 k a0 a1=l0 k:=an (b:=b0 k) rfl (fun _=>by kernel_rfl) fun _=>rfl
end
theorem ctr:Cp 15 (C k):=ry (D k) (E:=E k) rfl rfl Tryz.func15 rfl fun ⟨a0,a1,_⟩=>(show _=t k (V0 k a0 a1 k) a0 a1 by kernel_rfl).trans (by rw [e0];rfl)
end dI
namespace bm
def C:Cn:=⟨[.val (.slice (.int .u8))],[.bool],true,false,fun x=>f k x.1⟩
def D:List Ce:=[q (qg.ctr k),q (fU.ctr k),q (lh.ctr k),q (lA.ctr k),q (aD.ctr k),q (fS.ctr k),q (ap.ctr k),q (dJ.ctr k),q (d9.ctr k),q (cC.ctr k),q (bW.ctr k),q (dI.ctr k)]
def E:jj:=en (D k) [(11,[3,4,5,6,7,8,9])] 0 [] k
section
variable (a0:List Int)
def K0:Ex→St→Rs:=dZ (E k) (eK (E k) Tryz.f3 (C k) (a0,())) [.blk 0,.code (dS Tryz.f3 9 511)]
def V0 (n0:Nat):T0:=fun x0 x1 x2 x3 x4 x5 x6 x7 x8 x9 x10 x11 x12 x13 x14 x15 x16 x17 x18 x19 x20=>bX (cG (E k) (dS Tryz.f3 12 767)) (bL 0 [3,4,5,6,7,8,9]) (K0 k a0) n0 (mk 102 10 [(3,.sl false aH x0),(4,.ptr 0 0 0),(5,.ref 8),(6,.ref 9),(7,.int .i64 x1),(8,.int .i64 x2),(9,.int .i64 x3)] [(1,.own false (.int .i64) x4),(2,.own false aC x5),(3,.own false aB x6),(4,.own true aV x7),(5,.own true aK x8),(6,.own true m_ x9),(7,.own false aM x10),(0,.box [.bool x11,.int .i64 x12,.ref 1,.ref 2,.int .i64 x13,.int .i64 x14,.int .i64 x15,.ref 3,.int .i64 x16,.int .i64 x17,.bool x18,.ref 4,.ref 5,.ref 6,.ref 7]),(8,.own false au x19),(9,.own false aB x20)])
def V1 (n0:Nat):T1:=fun x0 x1 x2 x3 x4 x5 x6 x7 x8 x9 x10 x11 x12 x13 x14 x15 x16 x17 x18 x19 x20=>bX (cG (E k) (dS Tryz.f3 12 767)) (bL 0 [3,4,5,6,7,8,9]) (K0 k a0) n0 (mk 102 10 [(3,.sl false aH x0),(4,.ptr 0 0 0),(5,.ref 8),(6,.ref 9),(7,.int .i64 x1),(8,.int .i64 x2),(9,.int .i64 x3)] [(1,.own false (.int .i64) x4),(2,.own false aC x5),(3,.own false aB x6),(4,.own true aV x7),(5,.own true aK x8),(6,.own true m_ x9),(7,.own false aM x10),(0,.box [.bool x11,.int .i64 x12,.ref 1,.ref 2,.int .i64 x13,.int .i64 x14,.int .i64 x15,.ref 3,.int .i64 x16,.int .i64 x17,.bool x18,.ref 4,.ref 5,.ref 6,.ref 7]),(8,.own false au x19),(9,.own false aB x20)])
theorem e0:V0 k a0=l0 k:=an (b:=b0 k) rfl (fun _=>by kernel_rfl) fun _=>rfl
theorem e1:V1 k a0=l1 k:=an (b:=b1 k) rfl (fun _=>by kernel_rfl) fun _=>rfl
end
theorem ctr:Cp 3 (C k):=ry (D k) (E:=E k) rfl rfl Tryz.func3 rfl fun ⟨a0,_⟩=>(show _=t k (V0 k a0 k) (V1 k a0 k) a0 by kernel_rfl).trans (by rw [e0,e1];rfl)
end bm
end
end Go.Proofs.YtaaincbnjkmapaaGreatDoor.G

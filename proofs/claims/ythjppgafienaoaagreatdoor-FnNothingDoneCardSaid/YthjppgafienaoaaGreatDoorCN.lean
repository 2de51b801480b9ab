/- Functions keep their contracts. -/
import Derived.Test.YthjppgafienaoaaGreatDoorVTab
import Derived.Test.YthjppgafienaoaaGreatDoorFN
import Derived.Test.YthjppgafienaoaaGreatDoorCLib
set_option linter.unusedVariables false
set_option maxRecDepth 100000
namespace Go.Proofs.YthjppgafienaoaaGreatDoor.G
open Go.V
noncomputable section
variable (k:Nat)
namespace po
def C:Cn:=⟨[.val (.slice (.int .u8))],[.bool],true,false,fun x=>f k x.1⟩
theorem ctr:Cp 4 (C k):=rz k rfl [] Tryz.func4 rfl fun _=>by kernel_rfl
end po
namespace gb
def C:Cn:=⟨[.val (.slice (.int .u8))],[.opq,fB],false,true,fun x=>f k x.1⟩
def E:gD:=en [] [(3,[0,3,4])] 0 [] k
section
variable (a0:List Int)
def K0:Ex→St→Rs:=bW (E k) (eB (E k) Tryz.f12 (C k) (a0,())) [.blk 0,.code (bV Tryz.f12 3 7)]
def V0 (n0:Nat):T0:=fun x0 x1 x2=>ag (bC (E k) (bV Tryz.f12 6 11)) (ae 0 [0,3,4]) (K0 k a0) n0 (mk 32 0 [(0,.sl true (.int .u8) x0),(3,.int .i64 x1),(4,.int .i64 x2)] [])
theorem e0:V0 k a0=l0 k:=aM (b:=b0 k) rfl (fun _=>by kernel_rfl) fun _=>rfl
end
theorem ctr:Cp 12 (C k):=Nn rfl rfl [] (E:=E k) rfl rfl Tryz.func12 rfl fun ⟨a0,_⟩=>(show _=t k (V0 k a0 k) a0 by kernel_rfl).trans (by rw [e0];rfl)
end gb
namespace fD
def C:Cn:=⟨[.io false 0 fB],[(.int .i64)],true,true,fun x=>f k x.1⟩
theorem ctr:Cp 37 (C k):=rz k rfl [] Tryz.func37 rfl fun _=>by kernel_rfl
end fD
namespace b9
def C:Cn:=⟨[.io false 0 fB,.val (.int .i64)],[(.int .i64)],true,true,fun x=>f k x.1 x.2.1⟩
def D:List Ce:=[q (fD.ctr k)]
theorem ctr:Cp 15 (C k):=rz k rfl (D k) Tryz.func15 rfl fun _=>by kernel_rfl
end b9
namespace aX
def C:Cn:=⟨[.io false 0 fB,.val (.slice (.int .i64))],[(.int .i64)],true,true,fun x=>f k x.1 x.2.1⟩
def D:List Ce:=[q (b9.ctr k)]
theorem ctr:Cp 16 (C k):=rz k rfl (D k) Tryz.func16 rfl fun _=>by kernel_rfl
end aX
namespace aR
def C:Cn:=⟨[.val (.int .i64),.val (.int .i64),.val (.int .i64)],[.bool],true,false,fun x=>f k x.1 x.2.1 x.2.2.1⟩
theorem ctr:Cp 22 (C k):=rz k rfl [] Tryz.func22 rfl fun _=>by kernel_rfl
end aR
namespace jQ
def C:Cn:=⟨[.val (.int .i64)],[aB],true,false,fun x=>f k x.1⟩
def D:List Ce:=[q (aR.ctr k)]
theorem ctr:Cp 32 (C k):=rz k rfl (D k) Tryz.func32 rfl fun _=>by kernel_rfl
end jQ
namespace e_
def C:Cn:=⟨[.val aB],[(.int .i64)],true,false,fun x=>f k x.1⟩
def E:gD:=en [] [(3,[1,3,4])] 0 [] k
section
variable (a0:Ty.d aB)
def K0:Ex→St→Rs:=bW (E k) (eK (E k) Tryz.f52 (C k) (a0,())) [.blk 0,.code (bV Tryz.f52 3 7)]
def V0 (n0:Nat):T0:=fun x0 x1 x2 x3 x4 x5=>ag (bC (E k) (bV Tryz.f52 6 11)) (ae 0 [1,3,4]) (K0 k a0) n0 (mk 22 1 [(1,.ptr 0 0 0),(3,.int .i64 x0),(4,.int .i64 x1)] [(0,.box [.sl true aD x2,.int .i64 x3,.int .i64 x4,.bool x5])])
theorem e0:V0 k a0=l0 k:=aM (b:=b0 k) rfl (fun _=>by kernel_rfl) fun _=>rfl
end
theorem ctr:Cp 52 (C k):=ry [] (E:=E k) rfl rfl Tryz.func52 rfl fun ⟨a0,_⟩=>(show _=t k (V0 k a0 k) a0 by kernel_rfl).trans (by rw [e0];rfl)
end e_
namespace eF
def C:Cn:=⟨[.val .str],[.bool],true,false,fun x=>f k x.1⟩
def D:List Ce:=[q (aR.ctr k)]
def E:gD:=en (D k) [(2,[0,3])] 0 [] k
section
variable (a0:ByteArray)
def K0:Ex→St→Rs:=bW (E k) (eK (E k) Tryz.f53 (C k) (a0,())) [.blk 0,.code (bV Tryz.f53 2 3)]
def V0 (n0:Nat):T0:=fun x0 x1=>ag (bC (E k) (bV Tryz.f53 5 5)) (ae 0 [0,3]) (K0 k a0) n0 (mk 36 0 [(0,.str x0),(3,.int .i64 x1)] [])
theorem e0:V0 k a0=l0 k:=aM (b:=b0 k) rfl (fun _=>by kernel_rfl) fun _=>rfl
end
theorem ctr:Cp 53 (C k):=ry (D k) (E:=E k) rfl rfl Tryz.func53 rfl fun ⟨a0,_⟩=>(show _=t k (V0 k a0 k) a0 by kernel_rfl).trans (by rw [e0];rfl)
end eF
namespace bM
def C:Cn:=⟨[.val aB],[.bool],true,false,fun x=>f k x.1⟩
def D:List Ce:=[q (aR.ctr k),q (e_.ctr k),q (eF.ctr k)]
def E:gD:=en (D k) [(4,[1,3])] 0 [] k
section
variable (a0:Ty.d aB)
def K0:Ex→St→Rs:=bW (E k) (eK (E k) Tryz.f21 (C k) (a0,())) [.blk 0,.code (bV Tryz.f21 3 7)]
def V0 (n0:Nat):T0:=fun x0 x1 x2 x3 x4=>ag (bC (E k) (bV Tryz.f21 6 11)) (ae 0 [1,3]) (K0 k a0) n0 (mk 79 1 [(1,.ptr 0 0 0),(3,.int .i64 x0)] [(0,.box [.sl true aD x1,.int .i64 x2,.int .i64 x3,.bool x4])])
theorem e0:V0 k a0=l0 k:=aM (b:=b0 k) rfl (fun _=>by kernel_rfl) fun _=>rfl
end
theorem ctr:Cp 21 (C k):=ry (D k) (E:=E k) rfl rfl Tryz.func21 rfl fun ⟨a0,_⟩=>(show _=t k (V0 k a0 k) a0 by kernel_rfl).trans (by rw [e0];rfl)
end bM
namespace cK
def C:Cn:=⟨[.val aB],[aB],true,false,fun x=>f k x.1⟩
theorem ctr:Cp 49 (C k):=rz k rfl [] Tryz.func49 rfl fun _=>by kernel_rfl
end cK
namespace bJ
def C:Cn:=⟨[.val aB,.val .str],[(.int .i64)],true,false,fun x=>f k x.1 x.2.1⟩
def E:gD:=en [] [(2,[1,2,5])] 0 [] k
section
variable (a0:Ty.d aB) (a1:ByteArray)
def K0:Ex→St→Rs:=bW (E k) (eK (E k) Tryz.f134 (C k) (a0,a1,())) [.blk 0,.code (bV Tryz.f134 2 3)]
def V0 (n0:Nat):T0:=fun x0 x1 x2 x3 x4 x5=>ag (bC (E k) (bV Tryz.f134 5 5)) (ae 0 [1,2,5]) (K0 k a0 a1) n0 (mk 22 1 [(1,.str x0),(2,.ptr 0 0 0),(5,.int .i64 x1)] [(0,.box [.sl true aD x2,.int .i64 x3,.int .i64 x4,.bool x5])])
theorem e0:V0 k a0 a1=l0 k:=aM (b:=b0 k) rfl (fun _=>by kernel_rfl) fun _=>rfl
end
theorem ctr:Cp 134 (C k):=ry [] (E:=E k) rfl rfl Tryz.func134 rfl fun ⟨a0,a1,_⟩=>(show _=t k (V0 k a0 a1 k) a0 a1 by kernel_rfl).trans (by rw [e0];rfl)
end bJ
namespace bp
def C:Cn:=⟨[.val aB,.val .str],[.str,.bool],true,false,fun x=>f k x.1 x.2.1⟩
def D:List Ce:=[q (bM.ctr k),q (bJ.ctr k)]
theorem ctr:Cp 79 (C k):=rz k rfl (D k) Tryz.func79 rfl fun _=>by kernel_rfl
end bp
namespace eA
def C:Cn:=⟨[.val (.int .i64)],[.str],true,false,fun x=>f k x.1⟩
def E:gD:=en [] [(5,[0,3,4])] 0 [] k
section
variable (a0:Int)
def K0:Ex→St→Rs:=bW (E k) (eK (E k) Tryz.f139 (C k) (a0,())) [.blk 0,.code (bV Tryz.f139 5 31)]
def V0 (n0:Nat):T0:=fun x0 x1 x2=>ag (bC (E k) (bV Tryz.f139 7 15)) (ae 0 [0,3,4]) (K0 k a0) n0 (mk 31 0 [(0,.int .i64 x0),(3,.str x1),(4,.bool x2)] [])
theorem e0:V0 k a0=l0 k:=aM (b:=b0 k) rfl (fun _=>by kernel_rfl) fun _=>rfl
end
theorem ctr:Cp 139 (C k):=ry [] (E:=E k) rfl rfl Tryz.func139 rfl fun ⟨a0,_⟩=>(show _=t k (V0 k a0 k) a0 by kernel_rfl).trans (by rw [e0];rfl)
end eA
namespace ek
def C:Cn:=⟨[.val .str],[(.int .i64),.bool],true,false,fun x=>f k x.1⟩
def D:List Ce:=[q (eA.ctr k)]
def E:gD:=en (D k) [(4,[0,4,5,6])] 0 [] k
section
variable (a0:ByteArray)
def K0:Ex→St→Rs:=bW (E k) (eK (E k) Tryz.f234 (C k) (a0,())) [.blk 0,.code (bV Tryz.f234 4 15)]
def V0 (n0:Nat):T0:=fun x0 x1 x2 x3=>ag (bC (E k) (bV Tryz.f234 7 23)) (ae 0 [0,4,5,6]) (K0 k a0) n0 (mk 61 0 [(0,.str x0),(4,.int .i64 x1),(5,.int .i64 x2),(6,.int .i64 x3)] [])
theorem e0:V0 k a0=l0 k:=aM (b:=b0 k) rfl (fun _=>by kernel_rfl) fun _=>rfl
end
theorem ctr:Cp 234 (C k):=ry (D k) (E:=E k) rfl rfl Tryz.func234 rfl fun ⟨a0,_⟩=>(show _=t k (V0 k a0 k) a0 by kernel_rfl).trans (by rw [e0];rfl)
end ek
namespace aW
def C:Cn:=⟨[.val (.int .i64)],[.str],true,false,fun x=>f k x.1⟩
def D:List Ce:=[q (aR.ctr k),q (eA.ctr k)]
theorem ctr:Cp 82 (C k):=rz k rfl (D k) Tryz.func82 rfl fun _=>by kernel_rfl
end aW
namespace d9
def C:Cn:=⟨[.val (.int .i64)],[.str],true,false,fun x=>f k x.1⟩
def D:List Ce:=[q (aR.ctr k),q (eA.ctr k)]
theorem ctr:Cp 87 (C k):=rz k rfl (D k) Tryz.func87 rfl fun _=>by kernel_rfl
end d9
namespace iK
def C:Cn:=⟨[.val .str],[(.int .i64),.bool],true,false,fun x=>f k x.1⟩
def D:List Ce:=[q (ek.ctr k),q (aW.ctr k),q (d9.ctr k)]
def E:gD:=en (D k) [(2,[0,4])] 0 [] k
section
variable (a0:ByteArray)
def K0:Ex→St→Rs:=bW (E k) (eK (E k) Tryz.f198 (C k) (a0,())) [.blk 0,.code (bV Tryz.f198 2 3)]
def V0 (n0:Nat):T0:=fun x0 x1=>ag (bC (E k) (bV Tryz.f198 5 5)) (ae 0 [0,4]) (K0 k a0) n0 (mk 40 0 [(0,.str x0),(4,.int .i64 x1)] [])
theorem e0:V0 k a0=l0 k:=aM (b:=b0 k) rfl (fun _=>by kernel_rfl) fun _=>rfl
end
theorem ctr:Cp 198 (C k):=ry (D k) (E:=E k) rfl rfl Tryz.func198 rfl fun ⟨a0,_⟩=>(show _=t k (V0 k a0 k) a0 by kernel_rfl).trans (by rw [e0];rfl)
end iK
namespace bI
def C:Cn:=⟨[.val aB,.val bo],[(.slice .str)],true,false,fun x=>f k x.1 x.2.1⟩
def D:List Ce:=[q (bM.ctr k),q (iK.ctr k)]
def E:gD:=en (D k) [(5,[2,3,5,6]),(10,[2,3,5,6,7,8,9,10])] 0 [] k
section
variable (a0:Ty.d aB) (a1:Ty.d bo)
def K0:Ex→St→Rs:=bW (E k) (eK (E k) Tryz.f148 (C k) (a0,a1,())) [.blk 0,.code (bV Tryz.f148 4 15)]
def B0 (n0:Nat):Ex→St→Rs:=Ly (E k) (bV Tryz.f148 7 23) 0 [2,3,5,6] (K0 k a0 a1) n0
def K1 (n0:Nat):Ex→St→Rs:=bW (E k) (B0 k a0 a1 n0) [.blk 2,.code (bV Tryz.f148 13 7319),.blk 1,.code (bV Tryz.f148 9 407)]
def V0 (n0:Nat):T0:=fun x0 x1 x2 x3 x4 x5 x6 x7=>ag (bC (E k) (bV Tryz.f148 7 23)) (ae 0 [2,3,5,6]) (K0 k a0 a1) n0 (mk 74 3 [(2,.ptr 0 0 0),(3,.ptr 1 0 0),(5,.ref 2),(6,.int .i64 x0)] [(0,.box [.sl true aD x1,.int .i64 x2,.int .i64 x3,.bool x4]),(1,.box [.int .i64 x5,.sl true (.int .i64) x6]),(2,.own false .str x7)])
def V1 (n0 n1:Nat):T1:=fun x0 x1 x2 x3 x4 x5 x6 x7 x8 x9 x10 x11=>ag (bC (E k) (bV Tryz.f148 16 11415)) (ae 0 [2,3,5,6,7,8,9,10]) (K1 k a0 a1 n0) n1 (mk 74 3 [(2,.ptr 0 0 0),(3,.ptr 1 0 0),(5,.ref 2),(6,.int .i64 x0),(7,.int .i64 x1),(8,.bool x2),(9,.bool x3),(10,.int .i64 x4)] [(0,.box [.sl true aD x5,.int .i64 x6,.int .i64 x7,.bool x8]),(1,.box [.int .i64 x9,.sl true (.int .i64) x10]),(2,.own false .str x11)])
theorem e1 (n0:Nat):V1 k a0 a1 n0=l1 k (V0 k a0 a1 n0):=aM (b:=b1 k (V0 k a0 a1 n0)) rfl (fun _=>by kernel_rfl) fun _=>rfl
theorem e0 (n0:Nat):V0 k a0 a1 n0=l0 k n0:=by
 induction n0 with
 | zero=>rfl
 | succ n0 ih =>
  have h:V0 k a0 a1 (n0+1)=b0 k (V1 k a0 a1 n0 k) (V0 k a0 a1 n0):=by kernel_rfl
  rw [h,e1,ih]
  rfl
end
theorem ctr:Cp 148 (C k):=ry (D k) (E:=E k) rfl rfl Tryz.func148 rfl fun ⟨a0,a1,_⟩=>(show _=t k (V0 k a0 a1 k) a0 a1 by kernel_rfl).trans (by rw [e0];rfl)
end bI
namespace dI
def C:Cn:=⟨[.val aB],[aB,(.int .i64)],true,false,fun x=>f k x.1⟩
def D:List Ce:=[q (cK.ctr k),q (bM.ctr k)]
theorem ctr:Cp 141 (C k):=rz k rfl (D k) Tryz.func141 rfl fun _=>by kernel_rfl
end dI
namespace fN
def C:Cn:=⟨[.val (.slice aD),.val (.int .i64)],[(.slice aD)],true,false,fun x=>f k x.1 x.2.1⟩
theorem ctr:Cp 199 (C k):=rz k rfl [] Tryz.func199 rfl fun _=>by kernel_rfl
end fN
namespace fI
def C:Cn:=⟨[.val aB,.val .str],[aB,(.int .i64)],true,false,fun x=>f k x.1 x.2.1⟩
def D:List Ce:=[q (dI.ctr k),q (bJ.ctr k),q (fN.ctr k)]
theorem ctr:Cp 149 (C k):=rz k rfl (D k) Tryz.func149 rfl fun _=>by kernel_rfl
end fI
namespace aT
def C:Cn:=⟨[.val (.int .i64)],[(.int .i64)],true,false,fun x=>f k x.1⟩
theorem ctr:Cp 85 (C k):=rz k rfl [] Tryz.func85 rfl fun _=>by kernel_rfl
end aT
namespace eY
def C:Cn:=⟨[.val aB,.val bo],[aB,(.int .i64)],false,true,fun x=>f k x.1 x.2.1⟩
def D:List Ce:=[q (bI.ctr k),q (fI.ctr k),q (aT.ctr k)]
def E:gD:=en (D k) [(3,[2,4,6,7])] 0 [] k
section
variable (a0:Ty.d aB) (a1:Ty.d bo)
def K0:Ex→St→Rs:=bW (E k) (eK (E k) Tryz.f92 (C k) (a0,a1,())) [.blk 0,.code (bV Tryz.f92 3 7)]
def V0 (n0:Nat):T0:=fun x0 x1 x2 x3 x4 x5 x6 x7 x8 x9=>ag (bC (E k) (bV Tryz.f92 6 11)) (ae 0 [2,4,6,7]) (K0 k a0 a1) n0 (mk 35 4 [(2,.ptr 0 0 0),(4,.ptr 1 0 0),(6,.ref 3),(7,.int .i64 x0)] [(0,.box [.sl true aD x1,.int .i64 x2,.int .i64 x3,.bool x4]),(2,.own false aD x5),(1,.box [.ref 2,.int .i64 x6,.int .i64 x7,.bool x8]),(3,.own false .str x9)])
def V1 (n0:Nat):T1:=fun x0 x1 x2 x3 x4 x5 x6 x7 x8 x9=>ag (bC (E k) (bV Tryz.f92 6 11)) (ae 0 [2,4,6,7]) (K0 k a0 a1) n0 (mk 35 5 [(2,.ptr 0 0 0),(4,.ptr 2 0 0),(6,.ref 4),(7,.int .i64 x0)] [(1,.own false aD x1),(0,.box [.ref 1,.int .i64 x2,.int .i64 x3,.bool x4]),(3,.own false aD x5),(2,.box [.ref 3,.int .i64 x6,.int .i64 x7,.bool x8]),(4,.own false .str x9)])
theorem e1:V1 k a0 a1=l1 k:=aM (b:=b1 k) rfl (fun _=>by kernel_rfl) fun _=>rfl
theorem e0 (n0:Nat):V0 k a0 a1 n0=l0 k n0:=by
 induction n0 with
 | zero=>rfl
 | succ n0 ih =>
  have h:V0 k a0 a1 (n0+1)=b0 k (V1 k a0 a1 n0):=by kernel_rfl
  rw [h,e1]
  rfl
end
theorem ctr:Cp 92 (C k):=ry (D k) (E:=E k) rfl rfl Tryz.func92 rfl fun ⟨a0,a1,_⟩=>(show _=t k (V0 k a0 a1 k) a0 a1 by kernel_rfl).trans (by rw [e0];rfl)
end eY
namespace dR
def C:Cn:=⟨[.val (.slice aD),.val aD],[(.slice aD)],true,false,fun x=>f k x.1 x.2.1⟩
def E:gD:=en [] [(4,[0,3,5,6,7])] 0 [] k
section
variable (a0:List (Ty.d aD)) (a1:Ty.d aD)
def K0:Ex→St→Rs:=bW (E k) (eK (E k) Tryz.f195 (C k) (a0,a1,())) [.blk 0,.code (bV Tryz.f195 4 15)]
def V0 (n0:Nat):T0:=fun x0 x1 x2 x3 x4 x5 x6=>ag (bC (E k) (bV Tryz.f195 7 23)) (ae 0 [0,3,5,6,7]) (K0 k a0 a1) n0 (mk 45 2 [(0,.sl true aD x0),(3,.ptr 0 0 0),(5,.ref 1),(6,.bool x1),(7,.int .i64 x2)] [(0,.box [.str x3,.str x4,.int .i64 x5]),(1,.own false aD x6)])
theorem e0:V0 k a0 a1=l0 k:=aM (b:=b0 k) rfl (fun _=>by kernel_rfl) fun _=>rfl
end
theorem ctr:Cp 195 (C k):=ry [] (E:=E k) rfl rfl Tryz.func195 rfl fun ⟨a0,a1,_⟩=>(show _=t k (V0 k a0 a1 k) a0 a1 by kernel_rfl).trans (by rw [e0];rfl)
end dR
namespace iH
def C:Cn:=⟨[.val aB,.val .str],[aB,(.int .i64)],true,false,fun x=>f k x.1 x.2.1⟩
def D:List Ce:=[q (dI.ctr k),q (eF.ctr k),q (bJ.ctr k),q (dR.ctr k)]
theorem ctr:Cp 135 (C k):=rz k rfl (D k) Tryz.func135 rfl fun _=>by kernel_rfl
end iH
namespace dU
def C:Cn:=⟨[.val bo],[.bool],true,false,fun x=>f k x.1⟩
def D:List Ce:=[q (aR.ctr k)]
def E:gD:=en (D k) [(4,[1,3])] 0 [] k
section
variable (a0:Ty.d bo)
def K0:Ex→St→Rs:=bW (E k) (eK (E k) Tryz.f93 (C k) (a0,())) [.blk 0,.code (bV Tryz.f93 3 7)]
def V0 (n0:Nat):T0:=fun x0 x1 x2=>ag (bC (E k) (bV Tryz.f93 6 11)) (ae 0 [1,3]) (K0 k a0) n0 (mk 50 1 [(1,.ptr 0 0 0),(3,.int .i64 x0)] [(0,.box [.int .i64 x1,.sl true (.int .i64) x2])])
theorem e0:V0 k a0=l0 k:=aM (b:=b0 k) rfl (fun _=>by kernel_rfl) fun _=>rfl
end
theorem ctr:Cp 93 (C k):=ry (D k) (E:=E k) rfl rfl Tryz.func93 rfl fun ⟨a0,_⟩=>(show _=t k (V0 k a0 k) a0 by kernel_rfl).trans (by rw [e0];rfl)
end dU
namespace bf
def C:Cn:=⟨[.val (.int .i64)],[.str],true,false,fun x=>f k x.1⟩
def D:List Ce:=[q (aR.ctr k)]
def E:gD:=en (D k) [(4,[0,3])] 0 [] k
section
variable (a0:Int)
def K0:Ex→St→Rs:=bW (E k) (eK (E k) Tryz.f157 (C k) (a0,())) [.blk 0,.code (bV Tryz.f157 4 15)]
def V0 (n0:Nat):T0:=fun x0 x1=>ag (bC (E k) (bV Tryz.f157 6 7)) (ae 0 [0,3]) (K0 k a0) n0 (mk 25 1 [(0,.int .i64 x0),(3,.ref 0)] [(0,.own false (.int .u8) x1)])
theorem e0:V0 k a0=l0 k:=aM (b:=b0 k) rfl (fun _=>by kernel_rfl) fun _=>rfl
end
theorem ctr:Cp 157 (C k):=ry (D k) (E:=E k) rfl rfl Tryz.func157 rfl fun ⟨a0,_⟩=>(show _=t k (V0 k a0 k) a0 by kernel_rfl).trans (by rw [e0];rfl)
end bf
namespace gQ
def C:Cn:=⟨[.val .str],[(.int .i64)],true,false,fun x=>f k x.1⟩
def E:gD:=en [] [(3,[0,3,4]),(7,[0,3,4,5])] 0 [] k
section
variable (a0:ByteArray)
def K0:Ex→St→Rs:=bW (E k) (eK (E k) Tryz.f159 (C k) (a0,())) [.blk 0,.code (bV Tryz.f159 3 7)]
def B0 (n0:Nat):Ex→St→Rs:=Ly (E k) (bV Tryz.f159 6 11) 0 [0,3,4] (K0 k a0) n0
def K1 (n0:Nat):Ex→St→Rs:=bW (E k) (B0 k a0 n0) [.blk 2,.blk 1,.code (bV Tryz.f159 8 203)]
def V0 (n0:Nat):T0:=fun x0 x1 x2=>ag (bC (E k) (bV Tryz.f159 6 11)) (ae 0 [0,3,4]) (K0 k a0) n0 (mk 33 0 [(0,.str x0),(3,.int .i64 x1),(4,.int .i64 x2)] [])
def V1 (n0 n1:Nat):T1:=fun x0 x1 x2 x3=>ag (bC (E k) (bV Tryz.f159 13 1611)) (ae 0 [0,3,4,5]) (K1 k a0 n0) n1 (mk 33 0 [(0,.str x0),(3,.int .i64 x1),(4,.int .i64 x2),(5,.int .i64 x3)] [])
theorem e1 (n0:Nat):V1 k a0 n0=l1 k (V0 k a0 n0):=aM (b:=b1 k (V0 k a0 n0)) rfl (fun _=>by kernel_rfl) fun _=>rfl
theorem e0 (n0:Nat):V0 k a0 n0=l0 k n0:=by
 induction n0 with
 | zero=>rfl
 | succ n0 ih =>
  have h:V0 k a0 (n0+1)=b0 k (V1 k a0 n0 k) (V0 k a0 n0):=by kernel_rfl
  rw [h,e1,ih]
  rfl
end
theorem ctr:Cp 159 (C k):=ry [] (E:=E k) rfl rfl Tryz.func159 rfl fun ⟨a0,_⟩=>(show _=t k (V0 k a0 k) a0 by kernel_rfl).trans (by rw [e0];rfl)
end gQ
namespace di
def C:Cn:=⟨[.val (.int .i64),.val (.int .i64)],[.str],true,false,fun x=>f k x.1 x.2.1⟩
def D:List Ce:=[q (aR.ctr k)]
def E:gD:=en (D k) [(5,[0,1,5,6])] 0 [] k
section
variable (a0:Int) (a1:Int)
def K0:Ex→St→Rs:=bW (E k) (eK (E k) Tryz.f158 (C k) (a0,a1,())) [.blk 0,.code (bV Tryz.f158 4 15)]
def V0 (n0:Nat):T0:=fun x0 x1 x2 x3=>ag (bC (E k) (bV Tryz.f158 7 23)) (ae 0 [0,1,5,6]) (K0 k a0 a1) n0 (mk 31 0 [(0,.int .i64 x0),(1,.int .i64 x1),(5,.str x2),(6,.int .i64 x3)] [])
theorem e0:V0 k a0 a1=l0 k:=aM (b:=b0 k) rfl (fun _=>by kernel_rfl) fun _=>rfl
end
theorem ctr:Cp 158 (C k):=ry (D k) (E:=E k) rfl rfl Tryz.func158 rfl fun ⟨a0,a1,_⟩=>(show _=t k (V0 k a0 a1 k) a0 a1 by kernel_rfl).trans (by rw [e0];rfl)
end di
namespace fb
def C:Cn:=⟨[.val .str],[.str],true,false,fun x=>f k x.1⟩
def D:List Ce:=[q (bf.ctr k),q (gQ.ctr k),q (di.ctr k)]
theorem ctr:Cp 151 (C k):=rz k rfl (D k) Tryz.func151 rfl fun _=>by kernel_rfl
end fb
namespace dP
def C:Cn:=⟨[.val bo],[.str],true,false,fun x=>f k x.1⟩
def D:List Ce:=[q (dU.ctr k),q (bf.ctr k),q (fb.ctr k)]
def E:gD:=en (D k) [(5,[1,3,4])] 0 [] k
section
variable (a0:Ty.d bo)
def K0:Ex→St→Rs:=bW (E k) (eK (E k) Tryz.f138 (C k) (a0,())) [.blk 0,.code (bV Tryz.f138 4 15)]
def V0 (n0:Nat):T0:=fun x0 x1 x2 x3=>ag (bC (E k) (bV Tryz.f138 7 23)) (ae 0 [1,3,4]) (K0 k a0) n0 (mk 33 1 [(1,.ptr 0 0 0),(3,.str x0),(4,.int .i64 x1)] [(0,.box [.int .i64 x2,.sl true (.int .i64) x3])])
theorem e0:V0 k a0=l0 k:=aM (b:=b0 k) rfl (fun _=>by kernel_rfl) fun _=>rfl
end
theorem ctr:Cp 138 (C k):=ry (D k) (E:=E k) rfl rfl Tryz.func138 rfl fun ⟨a0,_⟩=>(show _=t k (V0 k a0 k) a0 by kernel_rfl).trans (by rw [e0];rfl)
end dP
namespace e7
def C:Cn:=⟨[.val aB,.val .str],[aB,(.int .i64)],true,false,fun x=>f k x.1 x.2.1⟩
def D:List Ce:=[q (bJ.ctr k),q (fI.ctr k),q (iH.ctr k)]
theorem ctr:Cp 98 (C k):=rz k rfl (D k) Tryz.func98 rfl fun _=>by kernel_rfl
end e7
namespace e9
def C:Cn:=⟨[.val aB,.val .str,.val .str],[aB,(.int .i64)],true,false,fun x=>f k x.1 x.2.1 x.2.2.1⟩
def D:List Ce:=[q (dI.ctr k),q (bJ.ctr k),q (e_.ctr k)]
theorem ctr:Cp 153 (C k):=rz k rfl (D k) Tryz.func153 rfl fun _=>by kernel_rfl
end e9
namespace eW
def C:Cn:=⟨[.val aB,.val .str],[aB,(.int .i64)],true,false,fun x=>f k x.1 x.2.1⟩
def D:List Ce:=[q (dI.ctr k),q (bJ.ctr k)]
theorem ctr:Cp 86 (C k):=rz k rfl (D k) Tryz.func86 rfl fun _=>by kernel_rfl
end eW
namespace hO
def C:Cn:=⟨[.val aB,.val .str,.val .str],[aB,(.int .i64)],true,false,fun x=>f k x.1 x.2.1 x.2.2.1⟩
def D:List Ce:=[q (e7.ctr k),q (e9.ctr k),q (eW.ctr k)]
theorem ctr:Cp 100 (C k):=rz k rfl (D k) Tryz.func100 rfl fun _=>by kernel_rfl
end hO
namespace kF
def C:Cn:=⟨[.val aB,.val .str,.val .str],[aB,(.int .i64)],true,false,fun x=>f k x.1 x.2.1 x.2.2.1⟩
def D:List Ce:=[q (dI.ctr k),q (eF.ctr k),q (bJ.ctr k),q (fN.ctr k),q (dR.ctr k)]
theorem ctr:Cp 160 (C k):=rz k rfl (D k) Tryz.func160 rfl fun _=>by kernel_rfl
end kF
namespace eu
def C:Cn:=⟨[.val aB,.val bo],[aB,(.int .i64)],true,false,fun x=>f k x.1 x.2.1⟩
def D:List Ce:=[q (bM.ctr k),q (cK.ctr k),q (dU.ctr k),q (dP.ctr k),q (hO.ctr k),q (kF.ctr k),q (aT.ctr k)]
theorem ctr:Cp 103 (C k):=rz k rfl (D k) Tryz.func103 rfl fun _=>by kernel_rfl
end eu
namespace ic
def C:Cn:=⟨[.val aB],[aF,aB,(.int .i64)],false,true,fun x=>f k x.1⟩
def D:List Ce:=[q (eY.ctr k),q (aW.ctr k),q (iH.ctr k),q (aT.ctr k),q (eu.ctr k)]
theorem ctr:Cp 80 (C k):=rz k rfl (D k) Tryz.func80 rfl fun _=>by kernel_rfl
end ic
namespace aj
def C:Cn:=⟨[.val .str],[(.int .i64),(.int .i64)],true,false,fun x=>f k x.1⟩
def D:List Ce:=[q (bf.ctr k)]
def E:gD:=en (D k) [(2,[0,4]),(6,[0,4,5,6])] 0 [] k
section
variable (a0:ByteArray)
def K0:Ex→St→Rs:=bW (E k) (eK (E k) Tryz.f137 (C k) (a0,())) [.blk 0,.code (bV Tryz.f137 2 3)]
def B0 (n0:Nat):Ex→St→Rs:=Ly (E k) (bV Tryz.f137 5 5) 0 [0,4] (K0 k a0) n0
def K1 (n0:Nat):Ex→St→Rs:=bW (E k) (B0 k a0 n0) [.blk 2,.code (bV Tryz.f137 10 805),.blk 1,.code (bV Tryz.f137 7 101)]
def V0 (n0:Nat):T0:=fun x0 x1=>ag (bC (E k) (bV Tryz.f137 5 5)) (ae 0 [0,4]) (K0 k a0) n0 (mk 39 0 [(0,.str x0),(4,.int .i64 x1)] [])
def V1 (n0 n1:Nat):T1:=fun x0 x1 x2 x3=>ag (bC (E k) (bV Tryz.f137 13 1317)) (ae 0 [0,4,5,6]) (K1 k a0 n0) n1 (mk 39 0 [(0,.str x0),(4,.int .i64 x1),(5,.int .i64 x2),(6,.int .i64 x3)] [])
theorem e1 (n0:Nat):V1 k a0 n0=l1 k (V0 k a0 n0):=aM (b:=b1 k (V0 k a0 n0)) rfl (fun _=>by kernel_rfl) fun _=>rfl
theorem e0 (n0:Nat):V0 k a0 n0=l0 k n0:=by
 induction n0 with
 | zero=>rfl
 | succ n0 ih =>
  have h:V0 k a0 (n0+1)=b0 k (V1 k a0 n0 k) (V0 k a0 n0):=by kernel_rfl
  rw [h,e1,ih]
  rfl
end
theorem ctr:Cp 137 (C k):=ry (D k) (E:=E k) rfl rfl Tryz.func137 rfl fun ⟨a0,_⟩=>(show _=t k (V0 k a0 k) a0 by kernel_rfl).trans (by rw [e0];rfl)
end aj
namespace dj
def C:Cn:=⟨[.val .str],[.str,(.int .i64)],true,false,fun x=>f k x.1⟩
def D:List Ce:=[q (aj.ctr k),q (fb.ctr k)]
theorem ctr:Cp 136 (C k):=rz k rfl (D k) Tryz.func136 rfl fun _=>by kernel_rfl
end dj
namespace bT
def C:Cn:=⟨[.val .str],[bo,.bool],true,false,fun x=>f k x.1⟩
def D:List Ce:=[q (dj.ctr k),q (aj.ctr k),q (dP.ctr k)]
def E:gD:=en (D k) [(9,[0,2,4,8,10,11,12])] 0 [] k
section
variable (a0:ByteArray)
def K0:Ex→St→Rs:=bW (E k) (eK (E k) Tryz.f81 (C k) (a0,())) [.blk 0,.code (bV Tryz.f81 8 255)]
def V0 (n0:Nat):T0:=fun x0 x1 x2 x3 x4 x5 x6 x7 x8=>ag (bC (E k) (bV Tryz.f81 11 383)) (ae 0 [0,2,4,8,10,11,12]) (K0 k a0) n0 (mk 81 4 [(0,.str x0),(2,.ptr 0 0 0),(4,.str x1),(8,.int .i64 x2),(10,.ptr 2 0 0),(11,.int .i64 x3),(12,.int .i64 x4)] [(1,.own false (.int .i64) x5),(0,.box [.int .i64 x6,.ref 1]),(3,.own false (.int .i64) x7),(2,.box [.int .i64 x8,.ref 3])])
theorem e0:V0 k a0=l0 k:=aM (b:=b0 k) rfl (fun _=>by kernel_rfl) fun _=>rfl
end
theorem ctr:Cp 81 (C k):=ry (D k) (E:=E k) rfl rfl Tryz.func81 rfl fun ⟨a0,_⟩=>(show _=t k (V0 k a0 k) a0 by kernel_rfl).trans (by rw [e0];rfl)
end bT
namespace ck
def C:Cn:=⟨[.val .str],[.str,.str,.bool],true,false,fun x=>f k x.1⟩
def D:List Ce:=[q (aj.ctr k)]
theorem ctr:Cp 143 (C k):=rz k rfl (D k) Tryz.func143 rfl fun _=>by kernel_rfl
end ck
namespace cj
def C:Cn:=⟨[.val .str],[.bool],true,false,fun x=>f k x.1⟩
def D:List Ce:=[q (aR.ctr k)]
theorem ctr:Cp 57 (C k):=rz k rfl (D k) Tryz.func57 rfl fun _=>by kernel_rfl
end cj
namespace lJ
def C:Cn:=⟨[.val bA],[.bool],true,false,fun x=>f k x.1⟩
def D:List Ce:=[q (aR.ctr k),q (cj.ctr k)]
theorem ctr:Cp 200 (C k):=rz k rfl (D k) Tryz.func200 rfl fun _=>by kernel_rfl
end lJ
namespace cS
def C:Cn:=⟨[.val bA],[.str],true,false,fun x=>f k x.1⟩
def D:List Ce:=[q (lJ.ctr k),q (bf.ctr k),q (di.ctr k)]
theorem ctr:Cp 152 (C k):=rz k rfl (D k) Tryz.func152 rfl fun _=>by kernel_rfl
end cS
namespace bg
def C:Cn:=⟨[.val .str,.val (.int .i64)],[(.int .i64),.bool],true,false,fun x=>f k x.1 x.2.1⟩
def D:List Ce:=[q (aR.ctr k)]
def E:gD:=en (D k) [(5,[0,1,6,7])] 0 [] k
section
variable (a0:ByteArray) (a1:Int)
def K0:Ex→St→Rs:=bW (E k) (eK (E k) Tryz.f196 (C k) (a0,a1,())) [.blk 0,.code (bV Tryz.f196 4 15)]
def V0 (n0:Nat):T0:=fun x0 x1 x2 x3=>ag (bC (E k) (bV Tryz.f196 7 23)) (ae 0 [0,1,6,7]) (K0 k a0 a1) n0 (mk 30 0 [(0,.str x0),(1,.int .i64 x1),(6,.int .i64 x2),(7,.int .i64 x3)] [])
theorem e0:V0 k a0 a1=l0 k:=aM (b:=b0 k) rfl (fun _=>by kernel_rfl) fun _=>rfl
end
theorem ctr:Cp 196 (C k):=ry (D k) (E:=E k) rfl rfl Tryz.func196 rfl fun ⟨a0,a1,_⟩=>(show _=t k (V0 k a0 a1 k) a0 a1 by kernel_rfl).trans (by rw [e0];rfl)
end bg
namespace eH
def C:Cn:=⟨[.val .str],[bA,.bool],true,false,fun x=>f k x.1⟩
def D:List Ce:=[q (aj.ctr k),q (ck.ctr k),q (cS.ctr k),q (bg.ctr k)]
theorem ctr:Cp 140 (C k):=rz k rfl (D k) Tryz.func140 rfl fun _=>by kernel_rfl
end eH
namespace ba
def C:Cn:=⟨[.val .str],[(.slice bK),(.int .i64)],true,false,fun x=>f k x.1⟩
def D:List Ce:=[q (dj.ctr k),q (eH.ctr k)]
def E:gD:=en (D k) [(3,[0,4,5])] 0 [] k
section
variable (a0:ByteArray)
def K0:Ex→St→Rs:=bW (E k) (eK (E k) Tryz.f83 (C k) (a0,())) [.blk 0,.code (bV Tryz.f83 4 15)]
def V0 (n0:Nat):T0:=fun x0 x1 x2=>ag (bC (E k) (bV Tryz.f83 6 7)) (ae 0 [0,4,5]) (K0 k a0) n0 (mk 47 1 [(0,.str x0),(4,.ref 0),(5,.int .i64 x1)] [(0,.own false bK x2)])
theorem e0:V0 k a0=l0 k:=aM (b:=b0 k) rfl (fun _=>by kernel_rfl) fun _=>rfl
end
theorem ctr:Cp 83 (C k):=ry (D k) (E:=E k) rfl rfl Tryz.func83 rfl fun ⟨a0,_⟩=>(show _=t k (V0 k a0 k) a0 by kernel_rfl).trans (by rw [e0];rfl)
end ba
namespace ij
def C:Cn:=⟨[.val aB,.val .str,.val (.int .i64)],[aB,(.int .i64)],true,false,fun x=>f k x.1 x.2.1 x.2.2.1⟩
def D:List Ce:=[q (dI.ctr k),q (bJ.ctr k),q (aR.ctr k)]
theorem ctr:Cp 84 (C k):=rz k rfl (D k) Tryz.func84 rfl fun _=>by kernel_rfl
end ij
namespace bj
def C:Cn:=⟨[.val .str,.val (.int .i64),.val (.int .i64)],[(.slice (.int .i64)),(.int .i64)],true,false,fun x=>f k x.1 x.2.1 x.2.2.1⟩
def D:List Ce:=[q (aj.ctr k)]
def E:gD:=en (D k) [(3,[0,1,2,8,9])] 0 [] k
section
variable (a0:ByteArray) (a1:Int) (a2:Int)
def K0:Ex→St→Rs:=bW (E k) (eK (E k) Tryz.f142 (C k) (a0,a1,a2,())) [.blk 0,.code (bV Tryz.f142 3 7)]
def V0 (n0:Nat):T0:=fun x0 x1 x2 x3 x4=>ag (bC (E k) (bV Tryz.f142 6 11)) (ae 0 [0,1,2,8,9]) (K0 k a0 a1 a2) n0 (mk 38 1 [(0,.str x0),(1,.int .i64 x1),(2,.int .i64 x2),(8,.ref 0),(9,.int .i64 x3)] [(0,.own false (.int .i64) x4)])
theorem e0:V0 k a0 a1 a2=l0 k:=aM (b:=b0 k) rfl (fun _=>by kernel_rfl) fun _=>rfl
end
theorem ctr:Cp 142 (C k):=ry (D k) (E:=E k) rfl rfl Tryz.func142 rfl fun ⟨a0,a1,a2,_⟩=>(show _=t k (V0 k a0 a1 a2 k) a0 a1 a2 by kernel_rfl).trans (by rw [e0];rfl)
end bj
namespace fE
def C:Cn:=⟨[.val (.slice a_)],[.bool],true,false,fun x=>f k x.1⟩
def D:List Ce:=[q (cj.ctr k),q (aR.ctr k)]
def E:gD:=en (D k) [(4,[0,3])] 0 [] k
section
variable (a0:List (Ty.d a_))
def K0:Ex→St→Rs:=bW (E k) (eK (E k) Tryz.f94 (C k) (a0,())) [.blk 0,.code (bV Tryz.f94 3 7)]
def V0 (n0:Nat):T0:=fun x0 x1=>ag (bC (E k) (bV Tryz.f94 6 11)) (ae 0 [0,3]) (K0 k a0) n0 (mk 60 0 [(0,.sl true a_ x0),(3,.int .i64 x1)] [])
theorem e0:V0 k a0=l0 k:=aM (b:=b0 k) rfl (fun _=>by kernel_rfl) fun _=>rfl
end
theorem ctr:Cp 94 (C k):=ry (D k) (E:=E k) rfl rfl Tryz.func94 rfl fun ⟨a0,_⟩=>(show _=t k (V0 k a0 k) a0 by kernel_rfl).trans (by rw [e0];rfl)
end fE
namespace gy
def C:Cn:=⟨[.val fm],[.bool],true,false,fun x=>f k x.1⟩
def D:List Ce:=[q (aR.ctr k),q (fE.ctr k)]
def E:gD:=en (D k) [(4,[1,3])] 0 [] k
section
variable (a0:Ty.d fm)
def K0:Ex→St→Rs:=bW (E k) (eK (E k) Tryz.f156 (C k) (a0,())) [.blk 0,.code (bV Tryz.f156 3 7)]
def V0 (n0:Nat):T0:=fun x0 x1 x2 x3=>ag (bC (E k) (bV Tryz.f156 6 11)) (ae 0 [1,3]) (K0 k a0) n0 (mk 48 1 [(1,.ptr 0 0 0),(3,.int .i64 x0)] [(0,.box [.int .i64 x1,.int .i64 x2,.sl true a_ x3])])
theorem e0:V0 k a0=l0 k:=aM (b:=b0 k) rfl (fun _=>by kernel_rfl) fun _=>rfl
end
theorem ctr:Cp 156 (C k):=ry (D k) (E:=E k) rfl rfl Tryz.func156 rfl fun ⟨a0,_⟩=>(show _=t k (V0 k a0 k) a0 by kernel_rfl).trans (by rw [e0];rfl)
end gy
namespace db
def C:Cn:=⟨[.val fm],[.str],true,false,fun x=>f k x.1⟩
def D:List Ce:=[q (gy.ctr k),q (bf.ctr k),q (gQ.ctr k),q (di.ctr k)]
def E:gD:=en (D k) [(5,[1,3,4])] 0 [] k
section
variable (a0:Ty.d fm)
def K0:Ex→St→Rs:=bW (E k) (eK (E k) Tryz.f101 (C k) (a0,())) [.blk 0,.code (bV Tryz.f101 4 15)]
def V0 (n0:Nat):T0:=fun x0 x1 x2 x3 x4=>ag (bC (E k) (bV Tryz.f101 7 23)) (ae 0 [1,3,4]) (K0 k a0) n0 (mk 63 1 [(1,.ptr 0 0 0),(3,.str x0),(4,.int .i64 x1)] [(0,.box [.int .i64 x2,.int .i64 x3,.sl true a_ x4])])
theorem e0:V0 k a0=l0 k:=aM (b:=b0 k) rfl (fun _=>by kernel_rfl) fun _=>rfl
end
theorem ctr:Cp 101 (C k):=ry (D k) (E:=E k) rfl rfl Tryz.func101 rfl fun ⟨a0,_⟩=>(show _=t k (V0 k a0 k) a0 by kernel_rfl).trans (by rw [e0];rfl)
end db
namespace bS
def C:Cn:=⟨[.val .str],[fm,.bool],true,false,fun x=>f k x.1⟩
def D:List Ce:=[q (bj.ctr k),q (ck.ctr k),q (db.ctr k)]
def E:gD:=en (D k) [(8,[0,2,4,5,6,7])] 0 [] k
section
variable (a0:ByteArray)
def K0:Ex→St→Rs:=bW (E k) (eK (E k) Tryz.f88 (C k) (a0,())) [.blk 0,.code (bV Tryz.f88 6 63)]
def V0 (n0:Nat):T0:=fun x0 x1 x2 x3 x4 x5 x6 x7 x8 x9=>ag (bC (E k) (bV Tryz.f88 9 95)) (ae 0 [0,2,4,5,6,7]) (K0 k a0) n0 (mk 97 5 [(0,.str x0),(2,.ptr 0 0 0),(4,.ref 2),(5,.int .i64 x1),(6,.ptr 3 0 0),(7,.int .i64 x2)] [(1,.own false a_ x3),(0,.box [.int .i64 x4,.int .i64 x5,.ref 1]),(2,.own false (.int .i64) x6),(4,.own false a_ x7),(3,.box [.int .i64 x8,.int .i64 x9,.ref 4])])
theorem e0:V0 k a0=l0 k:=aM (b:=b0 k) rfl (fun _=>by kernel_rfl) fun _=>rfl
end
theorem ctr:Cp 88 (C k):=ry (D k) (E:=E k) rfl rfl Tryz.func88 rfl fun ⟨a0,_⟩=>(show _=t k (V0 k a0 k) a0 by kernel_rfl).trans (by rw [e0];rfl)
end bS
namespace gG
def C:Cn:=⟨[.val (.slice bA)],[(.int .i64)],true,false,fun x=>f k x.1⟩
def D:List Ce:=[q (cS.ctr k),q (gQ.ctr k)]
def E:gD:=en (D k) [(3,[0,3,4])] 0 [] k
section
variable (a0:List (Ty.d bA))
def K0:Ex→St→Rs:=bW (E k) (eK (E k) Tryz.f155 (C k) (a0,())) [.blk 0,.code (bV Tryz.f155 3 7)]
def V0 (n0:Nat):T0:=fun x0 x1 x2=>ag (bC (E k) (bV Tryz.f155 6 11)) (ae 0 [0,3,4]) (K0 k a0) n0 (mk 20 0 [(0,.sl true bA x0),(3,.str x1),(4,.int .i64 x2)] [])
theorem e0:V0 k a0=l0 k:=aM (b:=b0 k) rfl (fun _=>by kernel_rfl) fun _=>rfl
end
theorem ctr:Cp 155 (C k):=ry (D k) (E:=E k) rfl rfl Tryz.func155 rfl fun ⟨a0,_⟩=>(show _=t k (V0 k a0 k) a0 by kernel_rfl).trans (by rw [e0];rfl)
end gG
namespace eG
def C:Cn:=⟨[.val (.int .i64),.val .str],[fm,.bool],true,false,fun x=>f k x.1 x.2.1⟩
def D:List Ce:=[q (ba.ctr k),q (aW.ctr k),q (gG.ctr k)]
def E:gD:=en (D k) [(7,[0,4,6,8,9,10])] 0 [] k
section
variable (a0:Int) (a1:ByteArray)
def K0:Ex→St→Rs:=bW (E k) (eK (E k) Tryz.f99 (C k) (a0,a1,())) [.blk 0,.code (bV Tryz.f99 6 63)]
def V0 (n0:Nat):T0:=fun x0 x1 x2 x3 x4 x5 x6 x7 x8 x9=>ag (bC (E k) (bV Tryz.f99 9 95)) (ae 0 [0,4,6,8,9,10]) (K0 k a0 a1) n0 (mk 141 6 [(0,.int .i64 x0),(4,.ptr 0 0 0),(6,.ref 2),(8,.ptr 3 0 0),(9,.ref 5),(10,.int .i64 x1)] [(1,.own false a_ x2),(0,.box [.int .i64 x3,.int .i64 x4,.ref 1]),(2,.own false bK x5),(4,.own false a_ x6),(3,.box [.int .i64 x7,.int .i64 x8,.ref 4]),(5,.own false bA x9)])
theorem e0:V0 k a0 a1=l0 k:=aM (b:=b0 k) rfl (fun _=>by kernel_rfl) fun _=>rfl
end
theorem ctr:Cp 99 (C k):=ry (D k) (E:=E k) rfl rfl Tryz.func99 rfl fun ⟨a0,a1,_⟩=>(show _=t k (V0 k a0 a1 k) a0 a1 by kernel_rfl).trans (by rw [e0];rfl)
end eG
namespace eJ
def C:Cn:=⟨[.val (.slice a_),.val (.slice a_)],[.bool],true,false,fun x=>f k x.1 x.2.1⟩
def E:gD:=en [] [(4,[0,1,5])] 0 [] k
section
variable (a0:List (Ty.d a_)) (a1:List (Ty.d a_))
def K0:Ex→St→Rs:=bW (E k) (eK (E k) Tryz.f31 (C k) (a0,a1,())) [.blk 0,.code (bV Tryz.f31 3 7)]
def V0 (n0:Nat):T0:=fun x0 x1 x2=>ag (bC (E k) (bV Tryz.f31 6 11)) (ae 0 [0,1,5]) (K0 k a0 a1) n0 (mk 26 0 [(0,.sl true a_ x0),(1,.sl true a_ x1),(5,.int .i64 x2)] [])
theorem e0:V0 k a0 a1=l0 k:=aM (b:=b0 k) rfl (fun _=>by kernel_rfl) fun _=>rfl
end
theorem ctr:Cp 31 (C k):=ry [] (E:=E k) rfl rfl Tryz.func31 rfl fun ⟨a0,a1,_⟩=>(show _=t k (V0 k a0 a1 k) a0 a1 by kernel_rfl).trans (by rw [e0];rfl)
end eJ
namespace hZ
def C:Cn:=⟨[.val (.int .i64),.val .str,.val fm],[.bool],true,false,fun x=>f k x.1 x.2.1 x.2.2.1⟩
def D:List Ce:=[q (eG.ctr k),q (eJ.ctr k)]
theorem ctr:Cp 89 (C k):=rz k rfl (D k) Tryz.func89 rfl fun _=>by kernel_rfl
end hZ
namespace bi
def C:Cn:=⟨[.val (.int .i64),.val .str],[(.slice aC)],true,false,fun x=>f k x.1 x.2.1⟩
def D:List Ce:=[q (ba.ctr k)]
def E:gD:=en (D k) [(4,[0,5,6,8])] 0 [] k
section
variable (a0:Int) (a1:ByteArray)
def K0:Ex→St→Rs:=bW (E k) (eK (E k) Tryz.f90 (C k) (a0,a1,())) [.blk 0,.code (bV Tryz.f90 4 15)]
def V0 (n0:Nat):T0:=fun x0 x1 x2 x3=>ag (bC (E k) (bV Tryz.f90 7 23)) (ae 0 [0,5,6,8]) (K0 k a0 a1) n0 (mk 42 2 [(0,.int .i64 x0),(5,.ref 0),(6,.ref 1),(8,.int .i64 x1)] [(0,.own false aC x2),(1,.own false bK x3)])
theorem e0:V0 k a0 a1=l0 k:=aM (b:=b0 k) rfl (fun _=>by kernel_rfl) fun _=>rfl
end
theorem ctr:Cp 90 (C k):=ry (D k) (E:=E k) rfl rfl Tryz.func90 rfl fun ⟨a0,a1,_⟩=>(show _=t k (V0 k a0 a1 k) a0 a1 by kernel_rfl).trans (by rw [e0];rfl)
end bi
namespace ip
def C:Cn:=⟨[.val (.slice aC),.val (.int .i64),.val (.int .i64)],[(.slice aC)],true,false,fun x=>f k x.1 x.2.1 x.2.2.1⟩
def E:gD:=en [] [(3,[0,1,2,7,8])] 0 [] k
section
variable (a0:List (Ty.d aC)) (a1:Int) (a2:Int)
def K0:Ex→St→Rs:=bW (E k) (eK (E k) Tryz.f144 (C k) (a0,a1,a2,())) [.blk 0,.code (bV Tryz.f144 3 7)]
def V0 (n0:Nat):T0:=fun x0 x1 x2 x3 x4=>ag (bC (E k) (bV Tryz.f144 6 11)) (ae 0 [0,1,2,7,8]) (K0 k a0 a1 a2) n0 (mk 53 1 [(0,.sl true aC x0),(1,.int .i64 x1),(2,.int .i64 x2),(7,.ref 0),(8,.int .i64 x3)] [(0,.own false aC x4)])
theorem e0:V0 k a0 a1 a2=l0 k:=aM (b:=b0 k) rfl (fun _=>by kernel_rfl) fun _=>rfl
end
theorem ctr:Cp 144 (C k):=ry [] (E:=E k) rfl rfl Tryz.func144 rfl fun ⟨a0,a1,a2,_⟩=>(show _=t k (V0 k a0 a1 a2 k) a0 a1 a2 by kernel_rfl).trans (by rw [e0];rfl)
end ip
namespace gO
def C:Cn:=⟨[.val (.slice aC)],[(.slice bA)],true,false,fun x=>f k x.1⟩
def E:gD:=en [] [(3,[0,3,4])] 0 [] k
section
variable (a0:List (Ty.d aC))
def K0:Ex→St→Rs:=bW (E k) (eK (E k) Tryz.f197 (C k) (a0,())) [.blk 0,.code (bV Tryz.f197 3 7)]
def V0 (n0:Nat):T0:=fun x0 x1 x2=>ag (bC (E k) (bV Tryz.f197 6 11)) (ae 0 [0,3,4]) (K0 k a0) n0 (mk 21 1 [(0,.sl true aC x0),(3,.ref 0),(4,.int .i64 x1)] [(0,.own false bA x2)])
theorem e0:V0 k a0=l0 k:=aM (b:=b0 k) rfl (fun _=>by kernel_rfl) fun _=>rfl
end
theorem ctr:Cp 197 (C k):=ry [] (E:=E k) rfl rfl Tryz.func197 rfl fun ⟨a0,_⟩=>(show _=t k (V0 k a0 k) a0 by kernel_rfl).trans (by rw [e0];rfl)
end gO
namespace jP
def C:Cn:=⟨[.val bA,.val (.slice aC)],[.bool],true,false,fun x=>f k x.1 x.2.1⟩
def D:List Ce:=[q (gO.ctr k),q (gG.ctr k)]
theorem ctr:Cp 145 (C k):=rz k rfl (D k) Tryz.func145 rfl fun _=>by kernel_rfl
end jP
namespace dH
def C:Cn:=⟨[.val (.slice a_),.val .str],[(.slice a_)],true,false,fun x=>f k x.1 x.2.1⟩
def E:gD:=en [] [(3,[0,1,5,6])] 0 [] k
section
variable (a0:List (Ty.d a_)) (a1:ByteArray)
def K0:Ex→St→Rs:=bW (E k) (eK (E k) Tryz.f161 (C k) (a0,a1,())) [.blk 0,.code (bV Tryz.f161 3 7)]
def V0 (n0:Nat):T0:=fun x0 x1 x2 x3=>ag (bC (E k) (bV Tryz.f161 6 11)) (ae 0 [0,1,5,6]) (K0 k a0 a1) n0 (mk 29 1 [(0,.sl true a_ x0),(1,.str x1),(5,.ref 0),(6,.int .i64 x2)] [(0,.own false a_ x3)])
theorem e0:V0 k a0 a1=l0 k:=aM (b:=b0 k) rfl (fun _=>by kernel_rfl) fun _=>rfl
end
theorem ctr:Cp 161 (C k):=ry [] (E:=E k) rfl rfl Tryz.func161 rfl fun ⟨a0,a1,_⟩=>(show _=t k (V0 k a0 a1 k) a0 a1 by kernel_rfl).trans (by rw [e0];rfl)
end dH
namespace cH
def C:Cn:=⟨[.val (.slice a_),.val a_],[(.slice a_)],true,false,fun x=>f k x.1 x.2.1⟩
def E:gD:=en [] [(4,[0,3,5,6,7])] 0 [] k
section
variable (a0:List (Ty.d a_)) (a1:Ty.d a_)
def K0:Ex→St→Rs:=bW (E k) (eK (E k) Tryz.f162 (C k) (a0,a1,())) [.blk 0,.code (bV Tryz.f162 4 15)]
def V0 (n0:Nat):T0:=fun x0 x1 x2 x3 x4 x5 x6 x7 x8=>ag (bC (E k) (bV Tryz.f162 7 23)) (ae 0 [0,3,5,6,7]) (K0 k a0 a1) n0 (mk 53 2 [(0,.sl true a_ x0),(3,.ptr 0 0 0),(5,.ref 1),(6,.bool x1),(7,.int .i64 x2)] [(0,.box [.str x3,.int .i64 x4,.int .i64 x5,.int .i64 x6,.int .i64 x7]),(1,.own false a_ x8)])
theorem e0:V0 k a0 a1=l0 k:=aM (b:=b0 k) rfl (fun _=>by kernel_rfl) fun _=>rfl
end
theorem ctr:Cp 162 (C k):=ry [] (E:=E k) rfl rfl Tryz.func162 rfl fun ⟨a0,a1,_⟩=>(show _=t k (V0 k a0 a1 k) a0 a1 by kernel_rfl).trans (by rw [e0];rfl)
end cH
namespace iO
def C:Cn:=⟨[.val (.slice a_),.val aC],[(.slice a_)],true,false,fun x=>f k x.1 x.2.1⟩
def D:List Ce:=[q (dH.ctr k),q (cH.ctr k)]
theorem ctr:Cp 147 (C k):=rz k rfl (D k) Tryz.func147 rfl fun _=>by kernel_rfl
end iO
namespace fK
def C:Cn:=⟨[.val (.slice aC),.val (.int .i64)],[(.slice aC)],true,false,fun x=>f k x.1 x.2.1⟩
def E:gD:=en [] [(3,[0,1,5,6])] 0 [] k
section
variable (a0:List (Ty.d aC)) (a1:Int)
def K0:Ex→St→Rs:=bW (E k) (eK (E k) Tryz.f146 (C k) (a0,a1,())) [.blk 0,.code (bV Tryz.f146 3 7)]
def V0 (n0:Nat):T0:=fun x0 x1 x2 x3=>ag (bC (E k) (bV Tryz.f146 6 11)) (ae 0 [0,1,5,6]) (K0 k a0 a1) n0 (mk 36 1 [(0,.sl true aC x0),(1,.int .i64 x1),(5,.ref 0),(6,.int .i64 x2)] [(0,.own false aC x3)])
theorem e0:V0 k a0 a1=l0 k:=aM (b:=b0 k) rfl (fun _=>by kernel_rfl) fun _=>rfl
end
theorem ctr:Cp 146 (C k):=ry [] (E:=E k) rfl rfl Tryz.func146 rfl fun ⟨a0,a1,_⟩=>(show _=t k (V0 k a0 a1 k) a0 a1 by kernel_rfl).trans (by rw [e0];rfl)
end fK
namespace cU
def C:Cn:=⟨[.val i_,.val (.slice aC)],[i_],true,false,fun x=>f k x.1 x.2.1⟩
def D:List Ce:=[q (ip.ctr k),q (jP.ctr k),q (iO.ctr k),q (fK.ctr k)]
def E:gD:=en (D k) [(3,[1,4,5,6]),(17,[1,4,5,6,8,9])] 0 [] k
section
variable (a0:Ty.d i_) (a1:List (Ty.d aC))
def K0:Ex→St→Rs:=bW (E k) (eK (E k) Tryz.f91 (C k) (a0,a1,())) [.blk 0,.code (bV Tryz.f91 3 7)]
def B0 (n0:Nat):Ex→St→Rs:=Ly (E k) (bV Tryz.f91 6 11) 0 [1,4,5,6] (K0 k a0 a1) n0
def K1 (n0:Nat):Ex→St→Rs:=bW (E k) (B0 k a0 a1 n0) [.blk 3,.code (bV Tryz.f91 14 15947),.blk 1,.code (bV Tryz.f91 8 203)]
def V0 (n0:Nat):T0:=fun x0 x1 x2 x3 x4 x5 x6 x7=>ag (bC (E k) (bV Tryz.f91 6 11)) (ae 0 [1,4,5,6]) (K0 k a0 a1) n0 (mk 97 4 [(1,.sl true aC x0),(4,.ptr 0 0 0),(5,.ptr 2 0 0),(6,.int .i64 x1)] [(1,.own false a_ x2),(0,.box [.ref 1,.int .i64 x3,.int .i64 x4]),(3,.own false a_ x5),(2,.box [.ref 3,.int .i64 x6,.int .i64 x7])])
def V1 (n0 n1:Nat):T1:=fun x0 x1 x2 x3 x4 x5 x6 x7 x8 x9=>ag (bC (E k) (bV Tryz.f91 17 24139)) (ae 0 [1,4,5,6,8,9]) (K1 k a0 a1 n0) n1 (mk 97 5 [(1,.sl true aC x0),(4,.ptr 0 0 0),(5,.ptr 2 0 0),(6,.int .i64 x1),(8,.ref 4),(9,.int .i64 x2)] [(1,.own false a_ x3),(0,.box [.ref 1,.int .i64 x4,.int .i64 x5]),(3,.own false a_ x6),(2,.box [.ref 3,.int .i64 x7,.int .i64 x8]),(4,.own false aC x9)])
theorem e1 (n0:Nat):V1 k a0 a1 n0=l1 k (V0 k a0 a1 n0):=aM (b:=b1 k (V0 k a0 a1 n0)) rfl (fun _=>by kernel_rfl) fun _=>rfl
theorem e0 (n0:Nat):V0 k a0 a1 n0=l0 k n0:=by
 induction n0 with
 | zero=>rfl
 | succ n0 ih =>
  have h:V0 k a0 a1 (n0+1)=b0 k (V1 k a0 a1 n0 k) (V0 k a0 a1 n0):=by kernel_rfl
  rw [h,e1,ih]
  rfl
end
theorem ctr:Cp 91 (C k):=ry (D k) (E:=E k) rfl rfl Tryz.func91 rfl fun ⟨a0,a1,_⟩=>(show _=t k (V0 k a0 a1 k) a0 a1 by kernel_rfl).trans (by rw [e0];rfl)
end cU
namespace b_
def C:Cn:=⟨[.give aB,.val bo],[aB,(.int .i64)],true,false,fun x=>f k x.1 x.2.1⟩
def D:List Ce:=[q (bI.ctr k),q (fI.ctr k),q (aT.ctr k)]
def E:gD:=en (D k) [(3,[2,4,6,7])] 0 [] k
section
variable (a0:Ty.d aB) (a1:Ty.d bo)
def K0:Ex→St→Rs:=bW (E k) (eK (E k) Tryz.f92 (C k) (a0,a1,())) [.blk 0,.code (bV Tryz.f92 3 7)]
def V0 (n0:Nat):T0:=fun x0 x1 x2 x3 x4 x5 x6 x7 x8 x9=>ag (bC (E k) (bV Tryz.f92 6 11)) (ae 0 [2,4,6,7]) (K0 k a0 a1) n0 (mk 35 5 [(2,.ptr 0 0 0),(4,.ptr 2 0 0),(6,.ref 4),(7,.int .i64 x0)] [(1,.own false aD x1),(0,.box [.ref 1,.int .i64 x2,.int .i64 x3,.bool x4]),(3,.own false aD x5),(2,.box [.ref 3,.int .i64 x6,.int .i64 x7,.bool x8]),(4,.own false .str x9)])
theorem e0:V0 k a0 a1=l0 k:=aM (b:=b0 k) rfl (fun _=>by kernel_rfl) fun _=>rfl
end
theorem ctr:Cp 92 (C k):=ry (D k) (E:=E k) rfl rfl Tryz.func92 rfl fun ⟨a0,a1,_⟩=>(show _=t k (V0 k a0 a1 k) a0 a1 by kernel_rfl).trans (by rw [e0];rfl)
end b_
namespace cA
def C:Cn:=⟨[.val aB],[aF,aB,(.int .i64)],false,true,fun x=>f k x.1⟩
def D:List Ce:=[q (bM.ctr k),q (cK.ctr k),q (bp.ctr k),q (ic.ctr k),q (bT.ctr k),q (aW.ctr k),q (ba.ctr k),q (ij.ctr k),q (aT.ctr k),q (eW.ctr k),q (d9.ctr k),q (bS.ctr k),q (hZ.ctr k),q (bi.ctr k),q (cU.ctr k),q (b_.ctr k)]
def E:gD:=en (D k) [(14,[1,2,3,5,8,9,10]),(35,[2,3,5,8,19,23,24,25,26])] 0 [] k
section
variable (a0:Ty.d aB)
def K0:Ex→St→Rs:=bW (E k) (eK (E k) Tryz.f51 (C k) (a0,())) [.blk 0,.code (bV Tryz.f51 10 1023)]
def K1:Ex→St→Rs:=bW (E k) (eK (E k) Tryz.f51 (C k) (a0,())) [.blk 2,.code (bV Tryz.f51 20 1048575)]
def V0 (n0:Nat):T0:=fun x0 x1 x2 x3 x4 x5 x6 x7 x8 x9 x10 x11 x12 x13 x14 x15 x16 x17 x18 x19 x20 x21 x22 x23=>ag (bC (E k) (bV Tryz.f51 13 1535)) (ae 0 [1,2,3,5,8,9,10]) (K0 k a0) n0 (mk 268 11 [(1,.ptr 0 0 0),(2,.ptr 1 0 0),(3,.ptr 4 0 0),(5,.ptr 6 0 0),(8,.ptr 9 0 0),(9,.int .i64 x0),(10,.int .i64 x1)] [(0,.box [.sl true aD x2,.int .i64 x3,.int .i64 x4,.bool x5]),(2,.own false (.int .i64) x6),(3,.own false a_ x7),(1,.box [.int .i64 x8,.ref 2,.ref 3,.int .i64 x9,.int .i64 x10,.int .i64 x11]),(5,.own false aD x12),(4,.box [.ref 5,.int .i64 x13,.int .i64 x14,.bool x15]),(7,.own false (.int .i64) x16),(8,.own false a_ x17),(6,.box [.int .i64 x18,.ref 7,.ref 8,.int .i64 x19,.int .i64 x20,.int .i64 x21]),(10,.own false (.int .i64) x22),(9,.box [.int .i64 x23,.ref 10])])
def V1 (n1:Nat):T1:=fun x0 x1 x2 x3 x4 x5 x6 x7 x8 x9 x10 x11 x12 x13 x14 x15 x16 x17 x18 x19 x20 x21 x22 x23 x24 x25 x26 x27 x28 x29 x30 x31=>ag (bC (E k) (bV Tryz.f51 23 1572863)) (ae 0 [2,3,5,8,19,23,24,25,26]) (K1 k a0) n1 (mk 268 17 [(2,.ptr 0 0 0),(3,.ptr 3 0 0),(5,.ptr 5 0 0),(8,.ptr 8 0 0),(19,.ptr 10 0 0),(23,.ptr 12 0 0),(24,.ptr 14 0 0),(25,.ref 16),(26,.int .i64 x0)] [(1,.own false (.int .i64) x1),(2,.own false a_ x2),(0,.box [.int .i64 x3,.ref 1,.ref 2,.int .i64 x4,.int .i64 x5,.int .i64 x6]),(4,.own false aD x7),(3,.box [.ref 4,.int .i64 x8,.int .i64 x9,.bool x10]),(6,.own false (.int .i64) x11),(7,.own false a_ x12),(5,.box [.int .i64 x13,.ref 6,.ref 7,.int .i64 x14,.int .i64 x15,.int .i64 x16]),(9,.own false (.int .i64) x17),(8,.box [.int .i64 x18,.ref 9]),(11,.own false aD x19),(10,.box [.ref 11,.int .i64 x20,.int .i64 x21,.bool x22]),(13,.own false a_ x23),(12,.box [.int .i64 x24,.ref 9,.ref 13,.int .i64 x25,.int .i64 x26,.int .i64 x27]),(15,.own false a_ x28),(14,.box [.ref 15,.int .i64 x29,.int .i64 x30]),(16,.own false aC x31)])
def V2 (n1:Nat):T2:=fun x0 x1 x2 x3 x4 x5 x6 x7 x8 x9 x10 x11 x12 x13 x14 x15 x16 x17 x18 x19 x20 x21 x22 x23 x24 x25 x26 x27 x28 x29 x30 x31=>ag (bC (E k) (bV Tryz.f51 23 1572863)) (ae 0 [2,3,5,8,19,23,24,25,26]) (K1 k a0) n1 (mk 268 17 [(2,.ptr 0 0 0),(3,.ptr 3 0 0),(5,.ptr 5 0 0),(8,.ptr 8 0 0),(19,.ptr 10 0 0),(23,.ptr 12 0 0),(24,.ptr 14 0 0),(25,.ref 16),(26,.int .i64 x0)] [(1,.own false (.int .i64) x1),(2,.own false a_ x2),(0,.box [.int .i64 x3,.ref 1,.ref 2,.int .i64 x4,.int .i64 x5,.int .i64 x6]),(4,.own false aD x7),(3,.box [.ref 4,.int .i64 x8,.int .i64 x9,.bool x10]),(6,.own false (.int .i64) x11),(7,.own false a_ x12),(5,.box [.int .i64 x13,.ref 6,.ref 7,.int .i64 x14,.int .i64 x15,.int .i64 x16]),(9,.own false (.int .i64) x17),(8,.box [.int .i64 x18,.ref 9]),(11,.own false aD x19),(10,.box [.ref 11,.int .i64 x20,.int .i64 x21,.bool x22]),(13,.own false a_ x23),(12,.box [.int .i64 x24,.ref 9,.ref 13,.int .i64 x25,.int .i64 x26,.int .i64 x27]),(15,.own false a_ x28),(14,.box [.ref 15,.int .i64 x29,.int .i64 x30]),(16,.own false aC x31)])
theorem e1:V1 k a0=l1 k:=aM (b:=b1 k) rfl (fun _=>by kernel_rfl) fun _=>rfl
theorem e2:V2 k a0=l2 k:=aM (b:=b2 k) rfl (fun _=>by kernel_rfl) fun _=>rfl
theorem e0 (n0:Nat):V0 k a0 n0=l0 k n0:=by
 induction n0 with
 | zero=>rfl
 | succ n0 ih =>
  have h:V0 k a0 (n0+1)=b0 k (V1 k a0 k) (V2 k a0 k) (V0 k a0 n0):=by kernel_rfl
  rw [h,e1,e2,ih]
  rfl
end
theorem ctr:Cp 51 (C k):=ry (D k) (E:=E k) rfl rfl Tryz.func51 rfl fun ⟨a0,_⟩=>(show _=t k (V0 k a0 k) a0 by kernel_rfl).trans (by rw [e0];rfl)
end cA
namespace gA
def C:Cn:=⟨[.val aB],[aV,(.int .i64)],false,true,fun x=>f k x.1⟩
def D:List Ce:=[q (cA.ctr k)]
theorem ctr:Cp 20 (C k):=rz k rfl (D k) Tryz.func20 rfl fun _=>by kernel_rfl
end gA
namespace cm
def C:Cn:=⟨[.io false 0 fB,.val (.slice .str)],[.str],true,true,fun x=>f k x.1 x.2.1⟩
def D:List Ce:=[q (b9.ctr k)]
theorem ctr:Cp 36 (C k):=rz k rfl (D k) Tryz.func36 rfl fun _=>by kernel_rfl
end cm
namespace ix
def C:Cn:=⟨[.io false 0 fB],[.str],true,true,fun x=>f k x.1⟩
def D:List Ce:=[q (cm.ctr k)]
theorem ctr:Cp 34 (C k):=rz k rfl (D k) Tryz.func34 rfl fun _=>by kernel_rfl
end ix
namespace fP
def C:Cn:=⟨[.io false 0 fB,.val (.int .i64)],[.str],true,true,fun x=>f k x.1 x.2.1⟩
def D:List Ce:=[q (b9.ctr k),q (fD.ctr k)]
def E:gD:=en (D k) [(4,[0,5,6,7])] 1 [] k
section
variable (a0:Ty.d fB) (a1:Int)
def K0:Ex→St→Rs:=bW (E k) (eK (E k) Tryz.f35 (C k) (a0,a1,())) [.blk 0,.code (bV Tryz.f35 4 15)]
def V0 (n0:Nat):T0:=fun x0 x1 x2 x3 x4 x5=>ag (bC (E k) (bV Tryz.f35 7 23)) (ae 1 [0,5,6,7]) (K0 k a0 a1) n0 (mk 38 2 [(0,.ptr 0 0 0),(5,.ref 1),(6,.int .i64 x0),(7,.int .i64 x1)] [(0,.box [.sl true (.int .u8) x2,.int .i64 x3,.int .i64 x4]),(1,.own false (.int .u8) x5)])
theorem e0:V0 k a0 a1=l0 k:=aM (b:=b0 k) rfl (fun _=>by kernel_rfl) fun _=>rfl
end
theorem ctr:Cp 35 (C k):=ry (D k) (E:=E k) rfl rfl Tryz.func35 rfl fun ⟨a0,a1,_⟩=>(show _=t k (V0 k a0 a1 k) a0 a1 by kernel_rfl).trans (by rw [e0];rfl)
end fP
namespace gz
def C:Cn:=⟨[.io false 0 fB],[az],true,true,fun x=>f k x.1⟩
def D:List Ce:=[q (aX.ctr k),q (b9.ctr k),q (ix.ctr k),q (cm.ctr k),q (fP.ctr k)]
theorem ctr:Cp 14 (C k):=rz k rfl (D k) Tryz.func14 rfl fun _=>by kernel_rfl
end gz
namespace gi
def C:Cn:=⟨[.io false 0 fB,.val (.int .i64)],[.bool],true,true,fun x=>f k x.1 x.2.1⟩
def D:List Ce:=[q (b9.ctr k)]
theorem ctr:Cp 64 (C k):=rz k rfl (D k) Tryz.func64 rfl fun _=>by kernel_rfl
end gi
namespace eU
def C:Cn:=⟨[.io false 0 fB,.val (.int .i64)],[(.slice az)],true,true,fun x=>f k x.1 x.2.1⟩
def D:List Ce:=[q (b9.ctr k),q (gz.ctr k),q (aR.ctr k),q (gi.ctr k)]
def E:gD:=en (D k) [(4,[0,5,6,7])] 1 [] k
section
variable (a0:Ty.d fB) (a1:Int)
def K0:Ex→St→Rs:=bW (E k) (eK (E k) Tryz.f33 (C k) (a0,a1,())) [.blk 0,.code (bV Tryz.f33 4 15)]
def V0 (n0:Nat):T0:=fun x0 x1 x2 x3 x4 x5=>ag (bC (E k) (bV Tryz.f33 7 23)) (ae 1 [0,5,6,7]) (K0 k a0 a1) n0 (mk 85 3 [(0,.ptr 0 0 0),(5,.ref 1),(6,.ref 2),(7,.int .i64 x0)] [(0,.box [.sl true (.int .u8) x1,.int .i64 x2,.int .i64 x3]),(1,.own false az x4),(2,.own false .bool x5)])
theorem e0:V0 k a0 a1=l0 k:=aM (b:=b0 k) rfl (fun _=>by kernel_rfl) fun _=>rfl
end
theorem ctr:Cp 33 (C k):=ry (D k) (E:=E k) rfl rfl Tryz.func33 rfl fun ⟨a0,a1,_⟩=>(show _=t k (V0 k a0 a1 k) a0 a1 by kernel_rfl).trans (by rw [e0];rfl)
end eU
namespace dG
def C:Cn:=⟨[.val aF],[aF],true,false,fun x=>f k x.1⟩
theorem ctr:Cp 48 (C k):=rz k rfl [] Tryz.func48 rfl fun _=>by kernel_rfl
end dG
namespace f8
def C:Cn:=⟨[.val an],[an],true,false,fun x=>f k x.1⟩
theorem ctr:Cp 50 (C k):=rz k rfl [] Tryz.func50 rfl fun _=>by kernel_rfl
end f8
namespace eo
def C:Cn:=⟨[.val aV],[aV],true,false,fun x=>f k x.1⟩
def D:List Ce:=[q (dG.ctr k),q (cK.ctr k),q (f8.ctr k)]
def E:gD:=en (D k) [(5,[1,2,3,4])] 0 [] k
section
variable (a0:Ty.d aV)
def K0:Ex→St→Rs:=bW (E k) (eK (E k) Tryz.f19 (C k) (a0,())) [.blk 0,.code (bV Tryz.f19 5 31)]
def V0 (n0:Nat):T0:=fun x0 x1 x2 x3 x4 x5 x6 x7 x8 x9 x10 x11 x12 x13 x14 x15 x16 x17 x18 x19 x20 x21 x22 x23 x24 x25=>ag (bC (E k) (bV Tryz.f19 8 47)) (ae 0 [1,2,3,4]) (K0 k a0) n0 (mk 33 10 [(1,.ptr 0 0 0),(2,.ptr 4 0 0),(3,.ref 9),(4,.int .i64 x0)] [(1,.own false (.int .i64) x1),(2,.own false a_ x2),(3,.own false aD x3),(0,.box [.bool x4,.int .i64 x5,.ref 1,.ref 2,.int .i64 x6,.int .i64 x7,.int .i64 x8,.ref 3,.int .i64 x9,.int .i64 x10,.bool x11,.sl true an x12]),(5,.own false (.int .i64) x13),(6,.own false a_ x14),(7,.own false aD x15),(8,.own false an x16),(4,.box [.bool x17,.int .i64 x18,.ref 5,.ref 6,.int .i64 x19,.int .i64 x20,.int .i64 x21,.ref 7,.int .i64 x22,.int .i64 x23,.bool x24,.ref 8]),(9,.own false an x25)])
theorem e0:V0 k a0=l0 k:=aM (b:=b0 k) rfl (fun _=>by kernel_rfl) fun _=>rfl
end
theorem ctr:Cp 19 (C k):=ry (D k) (E:=E k) rfl rfl Tryz.func19 rfl fun ⟨a0,_⟩=>(show _=t k (V0 k a0 k) a0 by kernel_rfl).trans (by rw [e0];rfl)
end eo
namespace jK
def C:Cn:=⟨[.val aB],[(.int .i64)],true,false,fun x=>f k x.1⟩
def D:List Ce:=[q (bM.ctr k),q (e_.ctr k)]
theorem ctr:Cp 23 (C k):=rz k rfl (D k) Tryz.func23 rfl fun _=>by kernel_rfl
end jK
namespace jg
def C:Cn:=⟨[.val .str,.val (.int .i64),.val (.int .i64)],[bA,.bool],true,false,fun x=>f k x.1 x.2.1 x.2.2.1⟩
def D:List Ce:=[q (aR.ctr k),q (dj.ctr k),q (eH.ctr k)]
theorem ctr:Cp 95 (C k):=rz k rfl (D k) Tryz.func95 rfl fun _=>by kernel_rfl
end jg
namespace cR
def C:Cn:=⟨[.val aF,.val aB],[.bool],true,false,fun x=>f k x.1 x.2.1⟩
def D:List Ce:=[q (bM.ctr k),q (dU.ctr k),q (fE.ctr k),q (aR.ctr k),q (aW.ctr k),q (bp.ctr k),q (ba.ctr k),q (jg.ctr k)]
def E:gD:=en (D k) [(4,[2,3,5]),(11,[2,3,10])] 0 [] k
section
variable (a0:Ty.d aF) (a1:Ty.d aB)
def K0:Ex→St→Rs:=bW (E k) (eK (E k) Tryz.f54 (C k) (a0,a1,())) [.blk 0,.code (bV Tryz.f54 3 7)]
def K1:Ex→St→Rs:=bW (E k) (eK (E k) Tryz.f54 (C k) (a0,a1,())) [.blk 2,.code (bV Tryz.f54 4 15)]
def V0 (n0:Nat):T0:=fun x0 x1 x2 x3 x4 x5 x6 x7 x8 x9 x10=>ag (bC (E k) (bV Tryz.f54 6 11)) (ae 0 [2,3,5]) (K0 k a0 a1) n0 (mk 148 2 [(2,.ptr 0 0 0),(3,.ptr 1 0 0),(5,.int .i64 x0)] [(0,.box [.int .i64 x1,.sl true (.int .i64) x2,.sl true a_ x3,.int .i64 x4,.int .i64 x5,.int .i64 x6]),(1,.box [.sl true aD x7,.int .i64 x8,.int .i64 x9,.bool x10])])
def V1 (n1:Nat):T1:=fun x0 x1 x2 x3 x4 x5 x6 x7 x8 x9 x10=>ag (bC (E k) (bV Tryz.f54 7 23)) (ae 0 [2,3,10]) (K1 k a0 a1) n1 (mk 148 2 [(2,.ptr 0 0 0),(3,.ptr 1 0 0),(10,.int .i64 x0)] [(0,.box [.int .i64 x1,.sl true (.int .i64) x2,.sl true a_ x3,.int .i64 x4,.int .i64 x5,.int .i64 x6]),(1,.box [.sl true aD x7,.int .i64 x8,.int .i64 x9,.bool x10])])
theorem e1:V1 k a0 a1=l1 k:=aM (b:=b1 k) rfl (fun _=>by kernel_rfl) fun _=>rfl
theorem e0 (n0:Nat):V0 k a0 a1 n0=l0 k n0:=by
 induction n0 with
 | zero=>rfl
 | succ n0 ih =>
  have h:V0 k a0 a1 (n0+1)=b0 k (V1 k a0 a1 k) (V0 k a0 a1 n0):=by kernel_rfl
  rw [h,e1,ih]
  rfl
end
theorem ctr:Cp 54 (C k):=ry (D k) (E:=E k) rfl rfl Tryz.func54 rfl fun ⟨a0,a1,_⟩=>(show _=t k (V0 k a0 a1 k) a0 a1 by kernel_rfl).trans (by rw [e0];rfl)
end cR
namespace fO
def C:Cn:=⟨[.val (.slice a_),.val .str],[a_,.bool],true,false,fun x=>f k x.1 x.2.1⟩
def E:gD:=en [] [(2,[0,1,4,6])] 0 [] k
section
variable (a0:List (Ty.d a_)) (a1:ByteArray)
def K0:Ex→St→Rs:=bW (E k) (eK (E k) Tryz.f104 (C k) (a0,a1,())) [.blk 0,.code (bV Tryz.f104 2 3)]
def V0 (n0:Nat):T0:=fun x0 x1 x2 x3 x4 x5 x6 x7=>ag (bC (E k) (bV Tryz.f104 5 5)) (ae 0 [0,1,4,6]) (K0 k a0 a1) n0 (mk 25 1 [(0,.sl true a_ x0),(1,.str x1),(4,.ptr 0 0 0),(6,.int .i64 x2)] [(0,.box [.str x3,.int .i64 x4,.int .i64 x5,.int .i64 x6,.int .i64 x7])])
theorem e0:V0 k a0 a1=l0 k:=aM (b:=b0 k) rfl (fun _=>by kernel_rfl) fun _=>rfl
end
theorem ctr:Cp 104 (C k):=ry [] (E:=E k) rfl rfl Tryz.func104 rfl fun ⟨a0,a1,_⟩=>(show _=t k (V0 k a0 a1 k) a0 a1 by kernel_rfl).trans (by rw [e0];rfl)
end fO
namespace lm
def C:Cn:=⟨[.val aF,.val aB,.val .str],[aD,(.int .i64)],true,false,fun x=>f k x.1 x.2.1 x.2.2.1⟩
def D:List Ce:=[q (fO.ctr k),q (aW.ctr k),q (bp.ctr k),q (jg.ctr k)]
theorem ctr:Cp 59 (C k):=rz k rfl (D k) Tryz.func59 rfl fun _=>by kernel_rfl
end lm
namespace iu
def C:Cn:=⟨[.val aF,.val aB],[(.slice aD),(.int .i64)],true,false,fun x=>f k x.1 x.2.1⟩
def D:List Ce:=[q (lm.ctr k)]
def E:gD:=en (D k) [(3,[2,3,6,7])] 0 [] k
section
variable (a0:Ty.d aF) (a1:Ty.d aB)
def K0:Ex→St→Rs:=bW (E k) (eK (E k) Tryz.f55 (C k) (a0,a1,())) [.blk 0,.code (bV Tryz.f55 3 7)]
def V0 (n0:Nat):T0:=fun x0 x1 x2 x3 x4 x5 x6 x7 x8 x9 x10 x11=>ag (bC (E k) (bV Tryz.f55 6 11)) (ae 0 [2,3,6,7]) (K0 k a0 a1) n0 (mk 39 3 [(2,.ptr 0 0 0),(3,.ptr 1 0 0),(6,.ref 2),(7,.int .i64 x0)] [(0,.box [.int .i64 x1,.sl true (.int .i64) x2,.sl true a_ x3,.int .i64 x4,.int .i64 x5,.int .i64 x6]),(1,.box [.sl true aD x7,.int .i64 x8,.int .i64 x9,.bool x10]),(2,.own false aD x11)])
theorem e0:V0 k a0 a1=l0 k:=aM (b:=b0 k) rfl (fun _=>by kernel_rfl) fun _=>rfl
end
theorem ctr:Cp 55 (C k):=ry (D k) (E:=E k) rfl rfl Tryz.func55 rfl fun ⟨a0,a1,_⟩=>(show _=t k (V0 k a0 a1 k) a0 a1 by kernel_rfl).trans (by rw [e0];rfl)
end iu
namespace lY
def C:Cn:=⟨[.val aD],[bA],true,false,fun x=>f k x.1⟩
theorem ctr:Cp 150 (C k):=rz k rfl [] Tryz.func150 rfl fun _=>by kernel_rfl
end lY
namespace i7
def C:Cn:=⟨[.val (.slice bA),.val (.int .i64),.val (.int .i64)],[bA],true,false,fun x=>f k x.1 x.2.1 x.2.2.1⟩
def D:List Ce:=[q (gG.ctr k)]
theorem ctr:Cp 154 (C k):=rz k rfl (D k) Tryz.func154 rfl fun _=>by kernel_rfl
end i7
namespace e6
def C:Cn:=⟨[.val aB,.val (.int .i64),.val (.slice aD),.val (.int .i64)],[aB,(.slice a_),(.int .i64)],true,false,fun x=>f k x.1 x.2.1 x.2.2.1 x.2.2.2.1⟩
def D:List Ce:=[q (aW.ctr k),q (e7.ctr k),q (lY.ctr k),q (cS.ctr k),q (fb.ctr k),q (e9.ctr k),q (i7.ctr k),q (eW.ctr k),q (aT.ctr k)]
def E:gD:=en (D k) [(6,[1,2,3,8,11,12,13,14,15,16])] 0 [] k
section
variable (a0:Ty.d aB) (a1:Int) (a2:List (Ty.d aD)) (a3:Int)
def K0:Ex→St→Rs:=bW (E k) (eK (E k) Tryz.f96 (C k) (a0,a1,a2,a3,())) [.blk 0,.code (bV Tryz.f96 6 63)]
def V0 (n0:Nat):T0:=fun x0 x1 x2 x3 x4 x5 x6 x7 x8 x9 x10 x11 x12 x13 x14 x15=>ag (bC (E k) (bV Tryz.f96 9 95)) (ae 0 [1,2,3,8,11,12,13,14,15,16]) (K0 k a0 a1 a2 a3) n0 (mk 101 6 [(1,.int .i64 x0),(2,.sl true aD x1),(3,.int .i64 x2),(8,.ptr 0 0 0),(11,.ref 2),(12,.ptr 3 0 0),(13,.int .i64 x3),(14,.ref 5),(15,.int .i64 x4),(16,.int .i64 x5)] [(1,.own false aD x6),(0,.box [.ref 1,.int .i64 x7,.int .i64 x8,.bool x9]),(2,.own false a_ x10),(4,.own false aD x11),(3,.box [.ref 4,.int .i64 x12,.int .i64 x13,.bool x14]),(5,.own false bA x15)])
theorem e0:V0 k a0 a1 a2 a3=l0 k:=aM (b:=b0 k) rfl (fun _=>by kernel_rfl) fun _=>rfl
end
theorem ctr:Cp 96 (C k):=ry (D k) (E:=E k) rfl rfl Tryz.func96 rfl fun ⟨a0,a1,a2,a3,_⟩=>(show _=t k (V0 k a0 a1 a2 a3 k) a0 a1 a2 a3 by kernel_rfl).trans (by rw [e0];rfl)
end e6
namespace cD
def C:Cn:=⟨[.give aB,.val (.slice .str)],[aB,(.int .i64)],true,false,fun x=>f k x.1 x.2.1⟩
def D:List Ce:=[q (bJ.ctr k),q (fI.ctr k)]
def E:gD:=en (D k) [(2,[1,2,4,6])] 0 [] k
section
variable (a0:Ty.d aB) (a1:List ByteArray)
def K0:Ex→St→Rs:=bW (E k) (eK (E k) Tryz.f102 (C k) (a0,a1,())) [.blk 0,.code (bV Tryz.f102 2 3)]
def V0 (n0:Nat):T0:=fun x0 x1 x2 x3 x4 x5 x6 x7 x8 x9=>ag (bC (E k) (bV Tryz.f102 5 5)) (ae 0 [1,2,4,6]) (K0 k a0 a1) n0 (mk 37 4 [(1,.sl true .str x0),(2,.ptr 0 0 0),(4,.ptr 2 0 0),(6,.int .i64 x1)] [(1,.own false aD x2),(0,.box [.ref 1,.int .i64 x3,.int .i64 x4,.bool x5]),(3,.own false aD x6),(2,.box [.ref 3,.int .i64 x7,.int .i64 x8,.bool x9])])
theorem e0:V0 k a0 a1=l0 k:=aM (b:=b0 k) rfl (fun _=>by kernel_rfl) fun _=>rfl
end
theorem ctr:Cp 102 (C k):=ry (D k) (E:=E k) rfl rfl Tryz.func102 rfl fun ⟨a0,a1,_⟩=>(show _=t k (V0 k a0 a1 k) a0 a1 by kernel_rfl).trans (by rw [e0];rfl)
end cD
namespace du
def C:Cn:=⟨[.give aF,.give aB,.val (.int .i64),.val (.int .i64)],[aF,aB,(.int .i64)],true,false,fun x=>f k x.1 x.2.1 x.2.2.1 x.2.2.2.1⟩
def D:List Ce:=[q (aW.ctr k),q (d9.ctr k),q (cD.ctr k),q (aT.ctr k)]
theorem ctr:Cp 97 (C k):=rz k rfl (D k) Tryz.func97 rfl fun _=>by kernel_rfl
end du
namespace c_
def C:Cn:=⟨[.give aF,.val aB,.val (.slice aD)],[aF,aB,(.int .i64)],true,false,fun x=>f k x.1 x.2.1 x.2.2.1⟩
def D:List Ce:=[q (e6.ctr k),q (du.ctr k),q (aW.ctr k),q (e7.ctr k),q (aT.ctr k),q (bp.ctr k),q (eG.ctr k),q (d9.ctr k),q (db.ctr k),q (hO.ctr k),q (cD.ctr k),q (eu.ctr k)]
def E:gD:=en (D k) [(26,[3,6,7,10,18,20])] 0 [] k
section
variable (a0:Ty.d aF) (a1:Ty.d aB) (a2:List (Ty.d aD))
def K0:Ex→St→Rs:=bW (E k) (eK (E k) Tryz.f56 (C k) (a0,a1,a2,())) [.blk 0,.code (bV Tryz.f56 21 2097151)]
def V0 (n0:Nat):T0:=fun x0 x1 x2 x3 x4 x5 x6 x7 x8 x9 x10 x11 x12 x13 x14 x15 x16 x17 x18 x19 x20 x21=>ag (bC (E k) (bV Tryz.f56 24 3145727)) (ae 0 [3,6,7,10,18,20]) (K0 k a0 a1 a2) n0 (mk 170 11 [(3,.ptr 0 0 0),(6,.ptr 3 0 0),(7,.ptr 6 0 0),(10,.ptr 8 0 0),(18,.ref 10),(20,.int .i64 x0)] [(1,.own false (.int .i64) x1),(2,.own false a_ x2),(0,.box [.int .i64 x3,.ref 1,.ref 2,.int .i64 x4,.int .i64 x5,.int .i64 x6]),(4,.own false (.int .i64) x7),(5,.own false a_ x8),(3,.box [.int .i64 x9,.ref 4,.ref 5,.int .i64 x10,.int .i64 x11,.int .i64 x12]),(7,.own false aD x13),(6,.box [.ref 7,.int .i64 x14,.int .i64 x15,.bool x16]),(9,.own false aD x17),(8,.box [.ref 9,.int .i64 x18,.int .i64 x19,.bool x20]),(10,.own false (.int .i64) x21)])
theorem e0:V0 k a0 a1 a2=l0 k:=aM (b:=b0 k) rfl (fun _=>by kernel_rfl) fun _=>rfl
end
theorem ctr:Cp 56 (C k):=ry (D k) (E:=E k) rfl rfl Tryz.func56 rfl fun ⟨a0,a1,a2,_⟩=>(show _=t k (V0 k a0 a1 a2 k) a0 a1 a2 by kernel_rfl).trans (by rw [e0];rfl)
end c_
namespace l9
def C:Cn:=⟨[.val aF,.val aB],[aF,aB,(.int .i64)],true,false,fun x=>f k x.1 x.2.1⟩
def D:List Ce:=[q (dG.ctr k),q (cK.ctr k),q (cR.ctr k),q (iu.ctr k),q (c_.ctr k)]
theorem ctr:Cp 24 (C k):=rz k rfl (D k) Tryz.func24 rfl fun _=>by kernel_rfl
end l9
namespace cT
def C:Cn:=⟨[.val (.slice a_)],[(.slice .str)],true,false,fun x=>f k x.1⟩
def E:gD:=en [] [(3,[0,3,4])] 0 [] k
section
variable (a0:List (Ty.d a_))
def K0:Ex→St→Rs:=bW (E k) (eK (E k) Tryz.f25 (C k) (a0,())) [.blk 0,.code (bV Tryz.f25 3 7)]
def V0 (n0:Nat):T0:=fun x0 x1 x2=>ag (bC (E k) (bV Tryz.f25 6 11)) (ae 0 [0,3,4]) (K0 k a0) n0 (mk 21 1 [(0,.sl true a_ x0),(3,.ref 0),(4,.int .i64 x1)] [(0,.own false .str x2)])
theorem e0:V0 k a0=l0 k:=aM (b:=b0 k) rfl (fun _=>by kernel_rfl) fun _=>rfl
end
theorem ctr:Cp 25 (C k):=ry [] (E:=E k) rfl rfl Tryz.func25 rfl fun ⟨a0,_⟩=>(show _=t k (V0 k a0 k) a0 by kernel_rfl).trans (by rw [e0];rfl)
end cT
namespace bR
def C:Cn:=⟨[.val an,.val .str],[aY,.bool],true,false,fun x=>f k x.1 x.2.1⟩
def E:gD:=en [] [(2,[1,2,4,6])] 0 [] k
section
variable (a0:Ty.d an) (a1:ByteArray)
def K0:Ex→St→Rs:=bW (E k) (eK (E k) Tryz.f58 (C k) (a0,a1,())) [.blk 0,.code (bV Tryz.f58 2 3)]
def V0 (n0:Nat):T0:=fun x0 x1 x2 x3 x4 x5 x6 x7=>ag (bC (E k) (bV Tryz.f58 5 5)) (ae 0 [1,2,4,6]) (K0 k a0 a1) n0 (mk 29 2 [(1,.str x0),(2,.ptr 0 0 0),(4,.ptr 1 0 0),(6,.int .i64 x1)] [(0,.box [.bool x2,.sl true bG x3,.sl true aY x4]),(1,.box [.str x5,.bool x6,.str x7])])
theorem e0:V0 k a0 a1=l0 k:=aM (b:=b0 k) rfl (fun _=>by kernel_rfl) fun _=>rfl
end
theorem ctr:Cp 58 (C k):=ry [] (E:=E k) rfl rfl Tryz.func58 rfl fun ⟨a0,a1,_⟩=>(show _=t k (V0 k a0 a1 k) a0 a1 by kernel_rfl).trans (by rw [e0];rfl)
end bR
namespace cP
def C:Cn:=⟨[.val an,.val .str,.val (.int .i64)],[an,(.int .i64)],true,false,fun x=>f k x.1 x.2.1 x.2.2.1⟩
def D:List Ce:=[q (f8.ctr k),q (cj.ctr k)]
def E:gD:=en (D k) [(5,[1,2,3,6,8,9])] 0 [] k
section
variable (a0:Ty.d an) (a1:ByteArray) (a2:Int)
def K0:Ex→St→Rs:=bW (E k) (eK (E k) Tryz.f60 (C k) (a0,a1,a2,())) [.blk 0,.code (bV Tryz.f60 4 15)]
def V0 (n0:Nat):T0:=fun x0 x1 x2 x3 x4 x5 x6 x7 x8 x9 x10 x11=>ag (bC (E k) (bV Tryz.f60 7 23)) (ae 0 [1,2,3,6,8,9]) (K0 k a0 a1 a2) n0 (mk 60 7 [(1,.str x0),(2,.int .i64 x1),(3,.ptr 0 0 0),(6,.ptr 1 0 0),(8,.ptr 4 0 0),(9,.int .i64 x2)] [(0,.box [.bool x3,.sl true bG x4,.sl true aY x5]),(2,.own false bG x6),(3,.own false aY x7),(1,.box [.bool x8,.ref 2,.ref 3]),(5,.own false bG x9),(6,.own false aY x10),(4,.box [.bool x11,.ref 5,.ref 6])])
theorem e0:V0 k a0 a1 a2=l0 k:=aM (b:=b0 k) rfl (fun _=>by kernel_rfl) fun _=>rfl
end
theorem ctr:Cp 60 (C k):=ry (D k) (E:=E k) rfl rfl Tryz.func60 rfl fun ⟨a0,a1,a2,_⟩=>(show _=t k (V0 k a0 a1 a2 k) a0 a1 a2 by kernel_rfl).trans (by rw [e0];rfl)
end cP
namespace dO
def C:Cn:=⟨[.give aV,.val az],[aV,bz],true,true,fun x=>f k x.1 x.2.1⟩
def D:List Ce:=[q (cj.ctr k),q (bR.ctr k),q (lm.ctr k),q (cP.ctr k)]
theorem ctr:Cp 26 (C k):=rz k rfl (D k) Tryz.func26 rfl fun _=>by kernel_rfl
end dO
namespace da
def C:Cn:=⟨[.val an,.val (.slice a_)],[.bool],true,false,fun x=>f k x.1 x.2.1⟩
def D:List Ce:=[q (fO.ctr k)]
def E:gD:=en (D k) [(2,[1,2,5])] 0 [] k
section
variable (a0:Ty.d an) (a1:List (Ty.d a_))
def K0:Ex→St→Rs:=bW (E k) (eK (E k) Tryz.f61 (C k) (a0,a1,())) [.blk 0,.code (bV Tryz.f61 2 3)]
def V0 (n0:Nat):T0:=fun x0 x1 x2 x3 x4=>ag (bC (E k) (bV Tryz.f61 5 5)) (ae 0 [1,2,5]) (K0 k a0 a1) n0 (mk 35 1 [(1,.sl true a_ x0),(2,.ptr 0 0 0),(5,.int .i64 x1)] [(0,.box [.bool x2,.sl true bG x3,.sl true aY x4])])
theorem e0:V0 k a0 a1=l0 k:=aM (b:=b0 k) rfl (fun _=>by kernel_rfl) fun _=>rfl
end
theorem ctr:Cp 61 (C k):=ry (D k) (E:=E k) rfl rfl Tryz.func61 rfl fun ⟨a0,a1,_⟩=>(show _=t k (V0 k a0 a1 k) a0 a1 by kernel_rfl).trans (by rw [e0];rfl)
end da
namespace aa
def C:Cn:=⟨[.val an],[(.slice aY)],true,false,fun x=>f k x.1⟩
def D:List Ce:=[q (bR.ctr k)]
def E:gD:=en (D k) [(3,[1,3,4]),(7,[1,3,4,5,6])] 0 [] k
section
variable (a0:Ty.d an)
def K0:Ex→St→Rs:=bW (E k) (eK (E k) Tryz.f63 (C k) (a0,())) [.blk 0,.code (bV Tryz.f63 3 7)]
def B0 (n0:Nat):Ex→St→Rs:=Ly (E k) (bV Tryz.f63 6 11) 0 [1,3,4] (K0 k a0) n0
def K1 (n0:Nat):Ex→St→Rs:=bW (E k) (B0 k a0 n0) [.blk 2,.code (bV Tryz.f63 11 1611),.blk 1,.code (bV Tryz.f63 8 203)]
def V0 (n0:Nat):T0:=fun x0 x1 x2 x3 x4=>ag (bC (E k) (bV Tryz.f63 6 11)) (ae 0 [1,3,4]) (K0 k a0) n0 (mk 55 2 [(1,.ptr 0 0 0),(3,.ref 1),(4,.int .i64 x0)] [(0,.box [.bool x1,.sl true bG x2,.sl true aY x3]),(1,.own false aY x4)])
def V1 (n0 n1:Nat):T1:=fun x0 x1 x2 x3 x4 x5 x6=>ag (bC (E k) (bV Tryz.f63 14 2635)) (ae 0 [1,3,4,5,6]) (K1 k a0 n0) n1 (mk 55 2 [(1,.ptr 0 0 0),(3,.ref 1),(4,.int .i64 x0),(5,.bool x1),(6,.int .i64 x2)] [(0,.box [.bool x3,.sl true bG x4,.sl true aY x5]),(1,.own false aY x6)])
theorem e1 (n0:Nat):V1 k a0 n0=l1 k (V0 k a0 n0):=aM (b:=b1 k (V0 k a0 n0)) rfl (fun _=>by kernel_rfl) fun _=>rfl
theorem e0 (n0:Nat):V0 k a0 n0=l0 k n0:=by
 induction n0 with
 | zero=>rfl
 | succ n0 ih =>
  have h:V0 k a0 (n0+1)=b0 k (V1 k a0 n0 k) (V0 k a0 n0):=by kernel_rfl
  rw [h,e1,ih]
  rfl
end
theorem ctr:Cp 63 (C k):=ry (D k) (E:=E k) rfl rfl Tryz.func63 rfl fun ⟨a0,_⟩=>(show _=t k (V0 k a0 k) a0 by kernel_rfl).trans (by rw [e0];rfl)
end aa
namespace cG
def C:Cn:=⟨[.val (.slice aY)],[.bool],true,false,fun x=>f k x.1⟩
def D:List Ce:=[q (cj.ctr k)]
def E:gD:=en (D k) [(4,[0,3])] 0 [] k
section
variable (a0:List (Ty.d aY))
def K0:Ex→St→Rs:=bW (E k) (eK (E k) Tryz.f28 (C k) (a0,())) [.blk 0,.code (bV Tryz.f28 3 7)]
def V0 (n0:Nat):T0:=fun x0 x1=>ag (bC (E k) (bV Tryz.f28 6 11)) (ae 0 [0,3]) (K0 k a0) n0 (mk 44 0 [(0,.sl true aY x0),(3,.int .i64 x1)] [])
theorem e0:V0 k a0=l0 k:=aM (b:=b0 k) rfl (fun _=>by kernel_rfl) fun _=>rfl
end
theorem ctr:Cp 28 (C k):=ry (D k) (E:=E k) rfl rfl Tryz.func28 rfl fun ⟨a0,_⟩=>(show _=t k (V0 k a0 k) a0 by kernel_rfl).trans (by rw [e0];rfl)
end cG
namespace dQ
def C:Cn:=⟨[.val (.slice a_),.val (.slice aY)],[(.int .i64)],true,false,fun x=>f k x.1 x.2.1⟩
def D:List Ce:=[q (dH.ctr k),q (cH.ctr k)]
def E:gD:=en (D k) [(2,[0,1,5])] 0 [] k
section
variable (a0:List (Ty.d a_)) (a1:List (Ty.d aY))
def K0:Ex→St→Rs:=bW (E k) (eK (E k) Tryz.f105 (C k) (a0,a1,())) [.blk 0,.code (bV Tryz.f105 2 3)]
def V0 (n0:Nat):T0:=fun x0 x1 x2=>ag (bC (E k) (bV Tryz.f105 5 5)) (ae 0 [0,1,5]) (K0 k a0 a1) n0 (mk 34 0 [(0,.sl true a_ x0),(1,.sl true aY x1),(5,.int .i64 x2)] [])
def V1 (n0:Nat):T1:=fun x0 x1 x2=>ag (bC (E k) (bV Tryz.f105 5 5)) (ae 0 [0,1,5]) (K0 k a0 a1) n0 (mk 34 1 [(0,.ref 0),(1,.sl true aY x0),(5,.int .i64 x1)] [(0,.own false a_ x2)])
theorem e1:V1 k a0 a1=l1 k:=aM (b:=b1 k) rfl (fun _=>by kernel_rfl) fun _=>rfl
theorem e0 (n0:Nat):V0 k a0 a1 n0=l0 k n0:=by
 induction n0 with
 | zero=>rfl
 | succ n0 ih =>
  have h:V0 k a0 a1 (n0+1)=b0 k (V1 k a0 a1 n0):=by kernel_rfl
  rw [h,e1]
  rfl
end
theorem ctr:Cp 105 (C k):=ry (D k) (E:=E k) rfl rfl Tryz.func105 rfl fun ⟨a0,a1,_⟩=>(show _=t k (V0 k a0 a1 k) a0 a1 by kernel_rfl).trans (by rw [e0];rfl)
end dQ
namespace dC
def C:Cn:=⟨[.val aF],[.str],true,false,fun x=>f k x.1⟩
def D:List Ce:=[q (aW.ctr k)]
theorem ctr:Cp 164 (C k):=rz k rfl (D k) Tryz.func164 rfl fun _=>by kernel_rfl
end dC
namespace fi
def C:Cn:=⟨[.give aF,.give aB],[aF,aB,(.int .i64)],true,false,fun x=>f k x.1 x.2.1⟩
def D:List Ce:=[q (dC.ctr k),q (eW.ctr k),q (aT.ctr k),q (aW.ctr k),q (e7.ctr k),q (eu.ctr k),q (cD.ctr k)]
theorem ctr:Cp 201 (C k):=rz k rfl (D k) Tryz.func201 rfl fun _=>by kernel_rfl
end fi
namespace eS
def C:Cn:=⟨[.give aF,.give aB,.val bA],[aF,aB,aC,(.int .i64)],true,false,fun x=>f k x.1 x.2.1 x.2.2.1⟩
def D:List Ce:=[q (cS.ctr k),q (fb.ctr k),q (fi.ctr k),q (dC.ctr k),q (e9.ctr k),q (aT.ctr k)]
theorem ctr:Cp 163 (C k):=rz k rfl (D k) Tryz.func163 rfl fun _=>by kernel_rfl
end eS
namespace bY
def C:Cn:=⟨[.give aF,.give aB,.give (.slice aY)],[aF,aB,(.int .i64)],true,false,fun x=>f k x.1 x.2.1 x.2.2.1⟩
def D:List Ce:=[q (eS.ctr k),q (iO.ctr k),q (i7.ctr k),q (dC.ctr k),q (eW.ctr k),q (aT.ctr k)]
def E:gD:=en (D k) [(6,[2,3,4,6,7,9,10,11,12])] 0 [] k
section
variable (a0:Ty.d aF) (a1:Ty.d aB) (a2:List (Ty.d aY))
def K0:Ex→St→Rs:=bW (E k) (eK (E k) Tryz.f106 (C k) (a0,a1,a2,())) [.blk 0,.code (bV Tryz.f106 6 63)]
def V0 (n0:Nat):T0:=fun x0 x1 x2 x3 x4 x5 x6 x7 x8 x9 x10 x11 x12 x13 x14 x15 x16 x17 x18 x19 x20 x21 x22 x23 x24=>ag (bC (E k) (bV Tryz.f106 9 95)) (ae 0 [2,3,4,6,7,9,10,11,12]) (K0 k a0 a1 a2) n0 (mk 111 13 [(2,.ref 0),(3,.ptr 1 0 0),(4,.ptr 4 0 0),(6,.ptr 6 0 0),(7,.ptr 9 0 0),(9,.int .i64 x0),(10,.ref 11),(11,.ref 12),(12,.int .i64 x1)] [(0,.own false aY x2),(2,.own false (.int .i64) x3),(3,.own false a_ x4),(1,.box [.int .i64 x5,.ref 2,.ref 3,.int .i64 x6,.int .i64 x7,.int .i64 x8]),(5,.own false aD x9),(4,.box [.ref 5,.int .i64 x10,.int .i64 x11,.bool x12]),(7,.own false (.int .i64) x13),(8,.own false a_ x14),(6,.box [.int .i64 x15,.ref 7,.ref 8,.int .i64 x16,.int .i64 x17,.int .i64 x18]),(10,.own false aD x19),(9,.box [.ref 10,.int .i64 x20,.int .i64 x21,.bool x22]),(11,.own false bA x23),(12,.own false a_ x24)])
theorem e0:V0 k a0 a1 a2=l0 k:=aM (b:=b0 k) rfl (fun _=>by kernel_rfl) fun _=>rfl
end
theorem ctr:Cp 106 (C k):=ry (D k) (E:=E k) rfl rfl Tryz.func106 rfl fun ⟨a0,a1,a2,_⟩=>(show _=t k (V0 k a0 a1 a2 k) a0 a1 a2 by kernel_rfl).trans (by rw [e0];rfl)
end bY
namespace i8
def C:Cn:=⟨[.val aF,.val aB,.give (.slice aY)],[aF,aB,(.int .i64)],true,false,fun x=>f k x.1 x.2.1 x.2.2.1⟩
def D:List Ce:=[q (dG.ctr k),q (cK.ctr k),q (cR.ctr k),q (cG.ctr k),q (dQ.ctr k),q (bY.ctr k)]
theorem ctr:Cp 62 (C k):=rz k rfl (D k) Tryz.func62 rfl fun _=>by kernel_rfl
end i8
namespace bv
def C:Cn:=⟨[.give aV,.val az],[aV,bz],true,true,fun x=>f k x.1 x.2.1⟩
def D:List Ce:=[q (da.ctr k),q (aa.ctr k),q (i8.ctr k)]
theorem ctr:Cp 27 (C k):=rz k rfl (D k) Tryz.func27 rfl fun _=>by kernel_rfl
end bv
namespace dN
def C:Cn:=⟨[.val an,.val aY],[an,.bool],true,false,fun x=>f k x.1 x.2.1⟩
def D:List Ce:=[q (f8.ctr k),q (cG.ctr k),q (aa.ctr k)]
theorem ctr:Cp 29 (C k):=rz k rfl (D k) Tryz.func29 rfl fun _=>by kernel_rfl
end dN
namespace bn
def C:Cn:=⟨[.val aV,.val az],[aV,bz],false,true,fun x=>f k x.1 x.2.1⟩
def D:List Ce:=[q (eo.ctr k),q (gA.ctr k),q (bM.ctr k),q (jK.ctr k),q (aR.ctr k),q (l9.ctr k),q (cT.ctr k),q (dO.ctr k),q (bv.ctr k),q (cG.ctr k),q (dN.ctr k)]
theorem ctr:Cp 8 (C k):=rz k rfl (D k) Tryz.func8 rfl fun _=>by kernel_rfl
end bn
namespace dw
def C:Cn:=⟨[.io false 0 fB],[aV],false,true,fun x=>f k x.1⟩
def D:List Ce:=[q (aX.ctr k),q (jQ.ctr k),q (gA.ctr k),q (eU.ctr k),q (bn.ctr k)]
def E:gD:=en (D k) [(4,[2,3,5,6])] 1 [] k
section
variable (a0:Ty.d fB)
def K0:Ex→St→Rs:=bW (E k) (eK (E k) Tryz.f13 (C k) (a0,())) [.blk 0,.code (bV Tryz.f13 4 15)]
def V0 (n0:Nat):T0:=fun x0 x1 x2 x3 x4 x5 x6 x7 x8 x9 x10 x11 x12 x13 x14 x15 x16 x17 x18 x19 x20 x21 x22 x23 x24 x25 x26 x27 x28=>ag (bC (E k) (bV Tryz.f13 7 23)) (ae 1 [2,3,5,6]) (K0 k a0) n0 (mk 36 8 [(2,.ptr 1 0 0),(3,.ptr 6 0 0),(5,.ref 7),(6,.int .i64 x0)] [(0,.box [.sl true (.int .u8) x1,.int .i64 x2,.int .i64 x3]),(2,.own false (.int .i64) x4),(3,.own false a_ x5),(4,.own false aD x6),(5,.own false an x7),(1,.box [.bool x8,.int .i64 x9,.ref 2,.ref 3,.int .i64 x10,.int .i64 x11,.int .i64 x12,.ref 4,.int .i64 x13,.int .i64 x14,.bool x15,.ref 5]),(6,.box [.bool x16,.int .i64 x17,.sl true (.int .i64) x18,.sl true a_ x19,.int .i64 x20,.int .i64 x21,.int .i64 x22,.sl true aD x23,.int .i64 x24,.int .i64 x25,.bool x26,.sl true an x27]),(7,.own false az x28)])
theorem e0:V0 k a0=l0 k:=aM (b:=b0 k) rfl (fun _=>by kernel_rfl) fun _=>rfl
end
theorem ctr:Cp 13 (C k):=ry (D k) (E:=E k) rfl rfl Tryz.func13 rfl fun ⟨a0,_⟩=>(show _=t k (V0 k a0 k) a0 by kernel_rfl).trans (by rw [e0];rfl)
end dw
namespace eZ
def C:Cn:=⟨[.val (.slice (.int .u8))],[aV,az],false,true,fun x=>f k x.1⟩
def D:List Ce:=[q (gb.ctr k),q (dw.ctr k),q (gz.ctr k),q (b9.ctr k),q (aX.ctr k)]
theorem ctr:Cp 5 (C k):=rz k rfl (D k) Tryz.func5 rfl fun _=>by kernel_rfl
end eZ
namespace pM
def C:Cn:=⟨[.val (.slice (.int .u8)),.val (.int .i64)],[(.int .i64)],true,false,fun x=>f k x.1 x.2.1⟩
theorem ctr:Cp 6 (C k):=rz k rfl [] Tryz.func6 rfl fun _=>by kernel_rfl
end pM
namespace fv
def C:Cn:=⟨[.val bo],[bo],true,false,fun x=>f k x.1⟩
theorem ctr:Cp 65 (C k):=rz k rfl [] Tryz.func65 rfl fun _=>by kernel_rfl
end fv
namespace ez
def C:Cn:=⟨[.val (.slice a_)],[(.slice a_)],true,false,fun x=>f k x.1⟩
theorem ctr:Cp 66 (C k):=rz k rfl [] Tryz.func66 rfl fun _=>by kernel_rfl
end ez
namespace dA
def C:Cn:=⟨[.val aF],[aF],true,false,fun x=>f k x.1⟩
def D:List Ce:=[q (fv.ctr k),q (ez.ctr k)]
theorem ctr:Cp 38 (C k):=rz k rfl (D k) Tryz.func38 rfl fun _=>by kernel_rfl
end dA
namespace bD
def C:Cn:=⟨[.val aB],[aB],true,false,fun x=>f k x.1⟩
theorem ctr:Cp 39 (C k):=rz k rfl [] Tryz.func39 rfl fun _=>by kernel_rfl
end bD
namespace jb
def C:Cn:=⟨[.val (.slice aY)],[(.slice aY)],true,false,fun x=>f k x.1⟩
theorem ctr:Cp 107 (C k):=rz k rfl [] Tryz.func107 rfl fun _=>by kernel_rfl
end jb
namespace dt
def C:Cn:=⟨[.val an],[an],true,false,fun x=>f k x.1⟩
def D:List Ce:=[q (jb.ctr k)]
theorem ctr:Cp 67 (C k):=rz k rfl (D k) Tryz.func67 rfl fun _=>by kernel_rfl
end dt
namespace dy
def C:Cn:=⟨[.val (.slice an)],[(.slice an)],true,false,fun x=>f k x.1⟩
def D:List Ce:=[q (dt.ctr k)]
def E:gD:=en (D k) [(3,[3,6,7,8])] 0 [] k
section
variable (a0:List (Ty.d an))
def K0:Ex→St→Rs:=bW (E k) (eK (E k) Tryz.f40 (C k) (a0,())) [.blk 0,.code (bV Tryz.f40 3 7)]
def V0 (n0:Nat):T0:=fun x0 x1 x2 x3=>ag (bC (E k) (bV Tryz.f40 6 11)) (ae 0 [3,6,7,8]) (K0 k a0) n0 (mk 19 1 [(3,.ref 0),(6,.sl true an x0),(7,.int .i64 x1),(8,.int .i64 x2)] [(0,.own false an x3)])
theorem e0:V0 k a0=l0 k:=aM (b:=b0 k) rfl (fun _=>by kernel_rfl) fun _=>rfl
end
theorem ctr:Cp 40 (C k):=ry (D k) (E:=E k) rfl rfl Tryz.func40 rfl fun ⟨a0,_⟩=>(show _=t k (V0 k a0 k) a0 by kernel_rfl).trans (by rw [e0];rfl)
end dy
namespace gk
def C:Cn:=⟨[.val aV],[aV],true,false,fun x=>f k x.1⟩
def D:List Ce:=[q (dA.ctr k),q (bD.ctr k),q (dy.ctr k)]
theorem ctr:Cp 17 (C k):=rz k rfl (D k) Tryz.func17 rfl fun _=>by kernel_rfl
end gk
namespace ap
def C:Cn:=⟨[.val (.int .i64),.val (.int .i64),.val (.int .i64)],[.bool],true,false,fun x=>f k x.1 x.2.1 x.2.2.1⟩
theorem ctr:Cp 44 (C k):=rz k rfl [] Tryz.func44 rfl fun _=>by kernel_rfl
end ap
namespace eE
def C:Cn:=⟨[.val .str],[.bool],true,false,fun x=>f k x.1⟩
def D:List Ce:=[q (ap.ctr k)]
def E:gD:=en (D k) [(2,[0,3])] 0 [] k
section
variable (a0:ByteArray)
def K0:Ex→St→Rs:=bW (E k) (eK (E k) Tryz.f69 (C k) (a0,())) [.blk 0,.code (bV Tryz.f69 2 3)]
def V0 (n0:Nat):T0:=fun x0 x1=>ag (bC (E k) (bV Tryz.f69 5 5)) (ae 0 [0,3]) (K0 k a0) n0 (mk 37 0 [(0,.str x0),(3,.int .i64 x1)] [])
theorem e0:V0 k a0=l0 k:=aM (b:=b0 k) rfl (fun _=>by kernel_rfl) fun _=>rfl
end
theorem ctr:Cp 69 (C k):=ry (D k) (E:=E k) rfl rfl Tryz.func69 rfl fun ⟨a0,_⟩=>(show _=t k (V0 k a0 k) a0 by kernel_rfl).trans (by rw [e0];rfl)
end eE
namespace ay
def C:Cn:=⟨[.val aB],[.bool],true,false,fun x=>f k x.1⟩
def D:List Ce:=[q (ap.ctr k),q (eE.ctr k)]
def E:gD:=en (D k) [(5,[1,3,23,24,25])] 0 [] k
section
variable (a0:Ty.d aB)
def K0:Ex→St→Rs:=bW (E k) (eK (E k) Tryz.f43 (C k) (a0,())) [.blk 0,.code (bV Tryz.f43 4 15)]
def V0 (n0:Nat):T0:=fun x0 x1 x2 x3 x4 x5 x6 x7=>ag (bC (E k) (bV Tryz.f43 7 23)) (ae 0 [1,3,23,24,25]) (K0 k a0) n0 (mk 69 1 [(1,.ptr 0 0 0),(3,.int .i64 x0),(23,.sl true aD x1),(24,.int .i64 x2),(25,.int .i64 x3)] [(0,.box [.sl true aD x4,.int .i64 x5,.int .i64 x6,.bool x7])])
theorem e0:V0 k a0=l0 k:=aM (b:=b0 k) rfl (fun _=>by kernel_rfl) fun _=>rfl
end
theorem ctr:Cp 43 (C k):=ry (D k) (E:=E k) rfl rfl Tryz.func43 rfl fun ⟨a0,_⟩=>(show _=t k (V0 k a0 k) a0 by kernel_rfl).trans (by rw [e0];rfl)
end ay
namespace bN
def C:Cn:=⟨[.val aB,.val .str],[(.int .i64)],true,false,fun x=>f k x.1 x.2.1⟩
def E:gD:=en [] [(2,[1,8,9,10])] 0 [] k
section
variable (a0:Ty.d aB) (a1:ByteArray)
def K0:Ex→St→Rs:=bW (E k) (eK (E k) Tryz.f165 (C k) (a0,a1,())) [.blk 0,.code (bV Tryz.f165 2 3)]
def V0 (n0:Nat):T0:=fun x0 x1 x2 x3=>ag (bC (E k) (bV Tryz.f165 5 5)) (ae 0 [1,8,9,10]) (K0 k a0 a1) n0 (mk 21 0 [(1,.str x0),(8,.sl true aD x1),(9,.int .i64 x2),(10,.int .i64 x3)] [])
theorem e0:V0 k a0 a1=l0 k:=aM (b:=b0 k) rfl (fun _=>by kernel_rfl) fun _=>rfl
end
theorem ctr:Cp 165 (C k):=ry [] (E:=E k) rfl rfl Tryz.func165 rfl fun ⟨a0,a1,_⟩=>(show _=t k (V0 k a0 a1 k) a0 a1 by kernel_rfl).trans (by rw [e0];rfl)
end bN
namespace bZ
def C:Cn:=⟨[.val aB,.val .str],[.str,.bool],true,false,fun x=>f k x.1 x.2.1⟩
def D:List Ce:=[q (bN.ctr k),q (ay.ctr k)]
theorem ctr:Cp 108 (C k):=rz k rfl (D k) Tryz.func108 rfl fun _=>by kernel_rfl
end bZ
namespace cw
def C:Cn:=⟨[.val .str],[(.int .i64),(.int .i64)],true,false,fun x=>f k x.1⟩
def E:gD:=en [] [(3,[0,4,5])] 0 [] k
section
variable (a0:ByteArray)
def K0:Ex→St→Rs:=bW (E k) (eK (E k) Tryz.f216 (C k) (a0,())) [.blk 0,.code (bV Tryz.f216 3 7)]
def V0 (n0:Nat):T0:=fun x0 x1 x2=>ag (bC (E k) (bV Tryz.f216 6 11)) (ae 0 [0,4,5]) (K0 k a0) n0 (mk 39 0 [(0,.str x0),(4,.int .i64 x1),(5,.int .i64 x2)] [])
theorem e0:V0 k a0=l0 k:=aM (b:=b0 k) rfl (fun _=>by kernel_rfl) fun _=>rfl
end
theorem ctr:Cp 216 (C k):=ry [] (E:=E k) rfl rfl Tryz.func216 rfl fun ⟨a0,_⟩=>(show _=t k (V0 k a0 k) a0 by kernel_rfl).trans (by rw [e0];rfl)
end cw
namespace gP
def C:Cn:=⟨[.val (.int .i64)],[.str],true,false,fun x=>f k x.1⟩
def D:List Ce:=[q (ap.ctr k)]
def E:gD:=en (D k) [(4,[0,3])] 0 [] k
section
variable (a0:Int)
def K0:Ex→St→Rs:=bW (E k) (eK (E k) Tryz.f225 (C k) (a0,())) [.blk 0,.code (bV Tryz.f225 4 15)]
def V0 (n0:Nat):T0:=fun x0 x1=>ag (bC (E k) (bV Tryz.f225 6 7)) (ae 0 [0,3]) (K0 k a0) n0 (mk 24 1 [(0,.int .i64 x0),(3,.ref 0)] [(0,.own false (.int .u8) x1)])
theorem e0:V0 k a0=l0 k:=aM (b:=b0 k) rfl (fun _=>by kernel_rfl) fun _=>rfl
end
theorem ctr:Cp 225 (C k):=ry (D k) (E:=E k) rfl rfl Tryz.func225 rfl fun ⟨a0,_⟩=>(show _=t k (V0 k a0 k) a0 by kernel_rfl).trans (by rw [e0];rfl)
end gP
namespace eC
def C:Cn:=⟨[.val .str],[.str],true,false,fun x=>f k x.1⟩
def D:List Ce:=[q (gP.ctr k)]
theorem ctr:Cp 221 (C k):=rz k rfl (D k) Tryz.func221 rfl fun _=>by kernel_rfl
end eC
namespace gI
def C:Cn:=⟨[.val .str],[(.int .i64)],true,false,fun x=>f k x.1⟩
def E:gD:=en [] [(3,[0,3,4]),(7,[0,3,4,18])] 0 [] k
section
variable (a0:ByteArray)
def K0:Ex→St→Rs:=bW (E k) (eK (E k) Tryz.f223 (C k) (a0,())) [.blk 0,.code (bV Tryz.f223 3 7)]
def B0 (n0:Nat):Ex→St→Rs:=Ly (E k) (bV Tryz.f223 6 11) 0 [0,3,4] (K0 k a0) n0
def K1 (n0:Nat):Ex→St→Rs:=bW (E k) (B0 k a0 n0) [.blk 2,.blk 1,.code (bV Tryz.f223 8 203)]
def V0 (n0:Nat):T0:=fun x0 x1 x2=>ag (bC (E k) (bV Tryz.f223 6 11)) (ae 0 [0,3,4]) (K0 k a0) n0 (mk 32 0 [(0,.str x0),(3,.int .u32 x1),(4,.int .i64 x2)] [])
def V1 (n0 n1:Nat):T1:=fun x0 x1 x2 x3=>ag (bC (E k) (bV Tryz.f223 13 1611)) (ae 0 [0,3,4,18]) (K1 k a0 n0) n1 (mk 32 0 [(0,.str x0),(3,.int .u32 x1),(4,.int .i64 x2),(18,.int .i64 x3)] [])
theorem e1 (n0:Nat):V1 k a0 n0=l1 k (V0 k a0 n0):=aM (b:=b1 k (V0 k a0 n0)) rfl (fun _=>by kernel_rfl) fun _=>rfl
theorem e0 (n0:Nat):V0 k a0 n0=l0 k n0:=by
 induction n0 with
 | zero=>rfl
 | succ n0 ih =>
  have h:V0 k a0 (n0+1)=b0 k (V1 k a0 n0 k) (V0 k a0 n0):=by kernel_rfl
  rw [h,e1,ih]
  rfl
end
theorem ctr:Cp 223 (C k):=ry [] (E:=E k) rfl rfl Tryz.func223 rfl fun ⟨a0,_⟩=>(show _=t k (V0 k a0 k) a0 by kernel_rfl).trans (by rw [e0];rfl)
end gI
namespace dh
def C:Cn:=⟨[.val (.int .i64),.val (.int .i64)],[.str],true,false,fun x=>f k x.1 x.2.1⟩
def D:List Ce:=[q (ap.ctr k)]
def E:gD:=en (D k) [(5,[0,5,6])] 0 [] k
section
variable (a0:Int) (a1:Int)
def K0:Ex→St→Rs:=bW (E k) (eK (E k) Tryz.f222 (C k) (a0,a1,())) [.blk 0,.code (bV Tryz.f222 4 15)]
def V0 (n0:Nat):T0:=fun x0 x1 x2=>ag (bC (E k) (bV Tryz.f222 7 23)) (ae 0 [0,5,6]) (K0 k a0 a1) n0 (mk 35 1 [(0,.int .i64 x0),(5,.ref 0),(6,.int .i64 x1)] [(0,.own false (.int .u8) x2)])
theorem e0:V0 k a0 a1=l0 k:=aM (b:=b0 k) rfl (fun _=>by kernel_rfl) fun _=>rfl
end
theorem ctr:Cp 222 (C k):=ry (D k) (E:=E k) rfl rfl Tryz.func222 rfl fun ⟨a0,a1,_⟩=>(show _=t k (V0 k a0 a1 k) a0 a1 by kernel_rfl).trans (by rw [e0];rfl)
end dh
namespace gZ
def C:Cn:=⟨[.val .str],[.str],true,false,fun x=>f k x.1⟩
def D:List Ce:=[q (eC.ctr k),q (gI.ctr k),q (dh.ctr k)]
theorem ctr:Cp 179 (C k):=rz k rfl (D k) Tryz.func179 rfl fun _=>by kernel_rfl
end gZ
namespace dr
def C:Cn:=⟨[.val .str],[.str,(.int .i64)],true,false,fun x=>f k x.1⟩
def D:List Ce:=[q (cw.ctr k),q (gZ.ctr k)]
theorem ctr:Cp 176 (C k):=rz k rfl (D k) Tryz.func176 rfl fun _=>by kernel_rfl
end dr
namespace aU
def C:Cn:=⟨[.io true 0 me],[(.int .i64)],true,false,fun x=>f k x.1⟩
def D:List Ce:=[q (cw.ctr k)]
theorem ctr:Cp 202 (C k):=rz k rfl (D k) Tryz.func202 rfl fun _=>by kernel_rfl
end aU
namespace dK
def C:Cn:=⟨[.val bo],[.bool],true,false,fun x=>f k x.1⟩
def D:List Ce:=[q (ap.ctr k)]
def E:gD:=en (D k) [(2,[1,6,7,8])] 0 [] k
section
variable (a0:Ty.d bo)
def K0:Ex→St→Rs:=bW (E k) (eK (E k) Tryz.f112 (C k) (a0,())) [.blk 0,.code (bV Tryz.f112 2 3)]
def V0 (n0:Nat):T0:=fun x0 x1 x2 x3 x4=>ag (bC (E k) (bV Tryz.f112 5 5)) (ae 0 [1,6,7,8]) (K0 k a0) n0 (mk 43 1 [(1,.ptr 0 0 0),(6,.sl true (.int .i64) x0),(7,.int .i64 x1),(8,.int .i64 x2)] [(0,.box [.int .i64 x3,.sl true (.int .i64) x4])])
theorem e0:V0 k a0=l0 k:=aM (b:=b0 k) rfl (fun _=>by kernel_rfl) fun _=>rfl
end
theorem ctr:Cp 112 (C k):=ry (D k) (E:=E k) rfl rfl Tryz.func112 rfl fun ⟨a0,_⟩=>(show _=t k (V0 k a0 k) a0 by kernel_rfl).trans (by rw [e0];rfl)
end dK
namespace lp
def C:Cn:=⟨[.val .str],[bo,.bool],true,false,fun x=>f k x.1⟩
def D:List Ce:=[q (dr.ctr k),q (aU.ctr k),q (dK.ctr k)]
def E:gD:=en (D k) [(6,[0,2,5,6,7,8,9])] 0 [] k
section
variable (a0:ByteArray)
def K0:Ex→St→Rs:=bW (E k) (eK (E k) Tryz.f166 (C k) (a0,())) [.blk 0,.code (bV Tryz.f166 6 63)]
def V0 (n0:Nat):T0:=fun x0 x1 x2 x3 x4 x5 x6 x7 x8 x9=>ag (bC (E k) (bV Tryz.f166 9 95)) (ae 0 [0,2,5,6,7,8,9]) (K0 k a0) n0 (mk 72 5 [(0,.str x0),(2,.ptr 0 0 0),(5,.int .i64 x1),(6,.ptr 2 0 0),(7,.ptr 3 0 0),(8,.int .i64 x2),(9,.int .i64 x3)] [(1,.own false (.int .i64) x4),(0,.box [.int .i64 x5,.ref 1]),(2,.box [.str x6,.bool x7]),(4,.own false (.int .i64) x8),(3,.box [.int .i64 x9,.ref 4])])
theorem e0:V0 k a0=l0 k:=aM (b:=b0 k) rfl (fun _=>by kernel_rfl) fun _=>rfl
end
theorem ctr:Cp 166 (C k):=ry (D k) (E:=E k) rfl rfl Tryz.func166 rfl fun ⟨a0,_⟩=>(show _=t k (V0 k a0 k) a0 by kernel_rfl).trans (by rw [e0];rfl)
end lp
namespace nq
def C:Cn:=⟨[.val (.int .i64)],[.str],true,false,fun x=>f k x.1⟩
def D:List Ce:=[q (ny.ctr k)]
theorem ctr:Cp 215 (C k):=rz k rfl (D k) Tryz.func215 rfl fun _=>by kernel_rfl
end nq
namespace jh
def C:Cn:=⟨[.val .str,.val (.int .i64)],[.str],true,false,fun x=>f k x.1 x.2.1⟩
def D:List Ce:=[q (ap.ctr k),q (nq.ctr k)]
theorem ctr:Cp 175 (C k):=rz k rfl (D k) Tryz.func175 rfl fun _=>by kernel_rfl
end jh
namespace ak
def C:Cn:=⟨[.val (.int .i64)],[.str],true,false,fun x=>f k x.1⟩
def D:List Ce:=[q (jh.ctr k)]
theorem ctr:Cp 114 (C k):=rz k rfl (D k) Tryz.func114 rfl fun _=>by kernel_rfl
end ak
namespace au
def C:Cn:=⟨[.io true 0 me,.val (.int .i64)],[.str],true,false,fun x=>f k x.1 x.2.1⟩
theorem ctr:Cp 219 (C k):=rz k rfl [] Tryz.func219 rfl fun _=>by kernel_rfl
end au
namespace ar
def C:Cn:=⟨[.io true 0 me],[.str],true,false,fun x=>f k x.1⟩
def D:List Ce:=[q (aU.ctr k),q (au.ctr k)]
theorem ctr:Cp 217 (C k):=rz k rfl (D k) Tryz.func217 rfl fun _=>by kernel_rfl
end ar
namespace dZ
def C:Cn:=⟨[.val .str],[.bool],true,false,fun x=>f k x.1⟩
def D:List Ce:=[q (ap.ctr k)]
theorem ctr:Cp 124 (C k):=rz k rfl (D k) Tryz.func124 rfl fun _=>by kernel_rfl
end dZ
namespace gH
def C:Cn:=⟨[.val bA],[.bool],true,false,fun x=>f k x.1⟩
def D:List Ce:=[q (dZ.ctr k),q (ap.ctr k)]
theorem ctr:Cp 220 (C k):=rz k rfl (D k) Tryz.func220 rfl fun _=>by kernel_rfl
end gH
namespace bq
def C:Cn:=⟨[.val .str,.val (.int .i64)],[(.int .i64),.bool],true,false,fun x=>f k x.1 x.2.1⟩
def D:List Ce:=[q (ap.ctr k)]
def E:gD:=en (D k) [(5,[0,6,17,18])] 0 [] k
section
variable (a0:ByteArray) (a1:Int)
def K0:Ex→St→Rs:=bW (E k) (eK (E k) Tryz.f218 (C k) (a0,a1,())) [.blk 0,.code (bV Tryz.f218 4 15)]
def V0 (n0:Nat):T0:=fun x0 x1 x2 x3=>ag (bC (E k) (bV Tryz.f218 7 23)) (ae 0 [0,6,17,18]) (K0 k a0 a1) n0 (mk 30 0 [(0,.str x0),(6,.int .i64 x1),(17,.int .i64 x2),(18,.int .i64 x3)] [])
theorem e0:V0 k a0 a1=l0 k:=aM (b:=b0 k) rfl (fun _=>by kernel_rfl) fun _=>rfl
end
theorem ctr:Cp 218 (C k):=ry (D k) (E:=E k) rfl rfl Tryz.func218 rfl fun ⟨a0,a1,_⟩=>(show _=t k (V0 k a0 a1 k) a0 a1 by kernel_rfl).trans (by rw [e0];rfl)
end bq
namespace d6
def C:Cn:=⟨[.val .str],[bA,.bool],true,false,fun x=>f k x.1⟩
def D:List Ce:=[q (aU.ctr k),q (ar.ctr k),q (gH.ctr k),q (au.ctr k),q (bq.ctr k)]
theorem ctr:Cp 177 (C k):=rz k rfl (D k) Tryz.func177 rfl fun _=>by kernel_rfl
end d6
namespace d8
def C:Cn:=⟨[.val .str],[(.slice bK),(.int .i64)],true,false,fun x=>f k x.1⟩
def D:List Ce:=[q (dr.ctr k),q (d6.ctr k)]
def E:gD:=en (D k) [(3,[0,4,5])] 0 [] k
section
variable (a0:ByteArray)
def K0:Ex→St→Rs:=bW (E k) (eK (E k) Tryz.f115 (C k) (a0,())) [.blk 0]
def V0 (n0:Nat):T0:=fun x0 x1 x2=>ag (bC (E k) (bV Tryz.f115 5 7)) (ae 0 [0,4,5]) (K0 k a0) n0 (mk 40 1 [(0,.str x0),(4,.ref 0),(5,.int .i64 x1)] [(0,.own false bK x2)])
theorem e0:V0 k a0=l0 k:=aM (b:=b0 k) rfl (fun _=>by kernel_rfl) fun _=>rfl
end
theorem ctr:Cp 115 (C k):=ry (D k) (E:=E k) rfl rfl Tryz.func115 rfl fun ⟨a0,_⟩=>(show _=t k (V0 k a0 k) a0 by kernel_rfl).trans (by rw [e0];rfl)
end d8
namespace kD
def C:Cn:=⟨[.val (.int .i64),.val (.slice bK)],[(.slice aC)],true,false,fun x=>f k x.1 x.2.1⟩
def E:gD:=en [] [(3,[0,5,8,9,10])] 0 [] k
section
variable (a0:Int) (a1:List (Ty.d bK))
def K0:Ex→St→Rs:=bW (E k) (eK (E k) Tryz.f203 (C k) (a0,a1,())) [.blk 0,.code (bV Tryz.f203 3 7)]
def V0 (n0:Nat):T0:=fun x0 x1 x2 x3 x4=>ag (bC (E k) (bV Tryz.f203 6 11)) (ae 0 [0,5,8,9,10]) (K0 k a0 a1) n0 (mk 27 1 [(0,.int .i64 x0),(5,.ref 0),(8,.sl true bK x1),(9,.int .i64 x2),(10,.int .i64 x3)] [(0,.own false aC x4)])
theorem e0:V0 k a0 a1=l0 k:=aM (b:=b0 k) rfl (fun _=>by kernel_rfl) fun _=>rfl
end
theorem ctr:Cp 203 (C k):=ry [] (E:=E k) rfl rfl Tryz.func203 rfl fun ⟨a0,a1,_⟩=>(show _=t k (V0 k a0 a1 k) a0 a1 by kernel_rfl).trans (by rw [e0];rfl)
end kD
namespace iG
def C:Cn:=⟨[.io true 0 aq,.val bo],[(.slice (.slice aC)),(.int .i64),.bool],true,false,fun x=>f k x.1 x.2.1⟩
def D:List Ce:=[q (ak.ctr k),q (bZ.ctr k),q (d8.ctr k),q (kD.ctr k)]
def E:gD:=en (D k) [(4,[0,3,7,8,16,17,18])] 1 [] k
section
variable (a0:Ty.d aq) (a1:Ty.d bo)
def K0:Ex→St→Rs:=bW (E k) (eK (E k) Tryz.f167 (C k) (a0,a1,())) [.blk 0,.code (bV Tryz.f167 4 15)]
def V0 (n0:Nat):T0:=fun x0 x1 x2 x3 x4 x5 x6 x7 x8 x9 x10 x11=>ag (bC (E k) (bV Tryz.f167 7 23)) (ae 1 [0,3,7,8,16,17,18]) (K0 k a0 a1) n0 (mk 64 4 [(0,.ptr 0 0 0),(3,.ptr 2 0 0),(7,.ref 3),(8,.int .i64 x0),(16,.sl true (.int .i64) x1),(17,.int .i64 x2),(18,.int .i64 x3)] [(1,.own false aD x4),(0,.box [.ref 1,.int .i64 x5,.int .i64 x6,.bool x7,.int .i64 x8]),(2,.box [.int .i64 x9,.sl true (.int .i64) x10]),(3,.own false (.slice aC) x11)])
theorem e0:V0 k a0 a1=l0 k:=aM (b:=b0 k) rfl (fun _=>by kernel_rfl) fun _=>rfl
end
theorem ctr:Cp 167 (C k):=ry (D k) (E:=E k) rfl rfl Tryz.func167 rfl fun ⟨a0,a1,_⟩=>(show _=t k (V0 k a0 a1 k) a0 a1 by kernel_rfl).trans (by rw [e0];rfl)
end iG
namespace jJ
def C:Cn:=⟨[.io true 0 aB,.io true 0 .str,.io true 0 (.int .i64)],[(.int .i64)],true,false,fun x=>f k x.1 x.2.1 x.2.2.1⟩
def D:List Ce:=[q (bN.ctr k),q (ap.ctr k)]
theorem ctr:Cp 206 (C k):=rz k rfl (D k) Tryz.func206 rfl fun _=>by kernel_rfl
end jJ
namespace iC
def C:Cn:=⟨[.val aB,.fn 206 2,.io true 0 .str,.io true 0 (.int .i64)],[aB,(.int .i64)],true,false,fun x=>f k x.1 x.2.1 x.2.2.1⟩
def D:List Ce:=[q (bD.ctr k),q (ay.ctr k),q (jJ.ctr k)]
theorem ctr:Cp 205 (C k):=rz k rfl (D k) Tryz.func205 rfl fun _=>by kernel_rfl
end iC
namespace ly
def C:Cn:=⟨[.val aB,.val .str,.val (.int .i64)],[aB,(.int .i64)],true,false,fun x=>f k x.1 x.2.1 x.2.2.1⟩
def D:List Ce:=[q (iC.ctr k)]
theorem ctr:Cp 169 (C k):=rz k rfl (D k) Tryz.func169 rfl fun _=>by kernel_rfl
end ly
namespace pt
def C:Cn:=⟨[.val (.int .i64)],[(.int .i64)],true,false,fun x=>f k x.1⟩
theorem ctr:Cp 204 (C k):=rz k rfl [] Tryz.func204 rfl fun _=>by kernel_rfl
end pt
namespace bH
def C:Cn:=⟨[.io true 0 aq,.give aB,.val (.int .i64)],[],true,false,fun x=>f k x.1 x.2.1 x.2.2.1⟩
def D:List Ce:=[q (pt.ctr k)]
theorem ctr:Cp 168 (C k):=rz k rfl (D k) Tryz.func168 rfl fun _=>by kernel_rfl
end bH
namespace mN
def C:Cn:=⟨[.io true 0 aB,.io true 0 .str],[(.int .i64)],true,false,fun x=>f k x.1 x.2.1⟩
def D:List Ce:=[q (bN.ctr k)]
theorem ctr:Cp 235 (C k):=rz k rfl (D k) Tryz.func235 rfl fun _=>by kernel_rfl
end mN
namespace k9
def C:Cn:=⟨[.val aB,.fn 235 1,.io true 0 .str],[aB,(.int .i64)],true,false,fun x=>f k x.1 x.2.1⟩
def D:List Ce:=[q (bD.ctr k),q (ay.ctr k),q (mN.ctr k)]
theorem ctr:Cp 205 (C k):=rz k rfl (D k) Tryz.func205 rfl fun _=>by kernel_rfl
end k9
namespace qQ
def C:Cn:=⟨[.val aB,.val .str],[aB,(.int .i64)],true,false,fun x=>f k x.1 x.2.1⟩
def D:List Ce:=[q (k9.ctr k)]
theorem ctr:Cp 207 (C k):=rz k rfl (D k) Tryz.func207 rfl fun _=>by kernel_rfl
end qQ
namespace cJ
def C:Cn:=⟨[.io true 0 aq,.val .str],[],true,false,fun x=>f k x.1 x.2.1⟩
def D:List Ce:=[q (qQ.ctr k),q (bH.ctr k)]
theorem ctr:Cp 170 (C k):=rz k rfl (D k) Tryz.func170 rfl fun _=>by kernel_rfl
end cJ
namespace fV
def C:Cn:=⟨[.val (.int .i64)],[.str],true,false,fun x=>f k x.1⟩
def D:List Ce:=[q (jh.ctr k)]
theorem ctr:Cp 122 (C k):=rz k rfl (D k) Tryz.func122 rfl fun _=>by kernel_rfl
end fV
namespace fF
def C:Cn:=⟨[.val (.slice a_)],[.bool],true,false,fun x=>f k x.1⟩
def D:List Ce:=[q (dZ.ctr k),q (ap.ctr k)]
def E:gD:=en (D k) [(2,[0,5,6,7])] 0 [] k
section
variable (a0:List (Ty.d a_))
def K0:Ex→St→Rs:=bW (E k) (eK (E k) Tryz.f113 (C k) (a0,())) [.blk 0,.code (bV Tryz.f113 2 3)]
def V0 (n0:Nat):T0:=fun x0 x1 x2 x3=>ag (bC (E k) (bV Tryz.f113 5 5)) (ae 0 [0,5,6,7]) (K0 k a0) n0 (mk 58 0 [(0,.sl true a_ x0),(5,.sl true a_ x1),(6,.int .i64 x2),(7,.int .i64 x3)] [])
theorem e0:V0 k a0=l0 k:=aM (b:=b0 k) rfl (fun _=>by kernel_rfl) fun _=>rfl
end
theorem ctr:Cp 113 (C k):=ry (D k) (E:=E k) rfl rfl Tryz.func113 rfl fun ⟨a0,_⟩=>(show _=t k (V0 k a0 k) a0 by kernel_rfl).trans (by rw [e0];rfl)
end fF
namespace kC
def C:Cn:=⟨[.val fm],[.bool],true,false,fun x=>f k x.1⟩
def D:List Ce:=[q (ap.ctr k),q (fF.ctr k)]
def E:gD:=en (D k) [(2,[1,6,7,8])] 0 [] k
section
variable (a0:Ty.d fm)
def K0:Ex→St→Rs:=bW (E k) (eK (E k) Tryz.f227 (C k) (a0,())) [.blk 0,.code (bV Tryz.f227 2 3)]
def V0 (n0:Nat):T0:=fun x0 x1 x2 x3 x4 x5=>ag (bC (E k) (bV Tryz.f227 5 5)) (ae 0 [1,6,7,8]) (K0 k a0) n0 (mk 39 1 [(1,.ptr 0 0 0),(6,.sl true a_ x0),(7,.int .i64 x1),(8,.int .i64 x2)] [(0,.box [.int .i64 x3,.int .i64 x4,.sl true a_ x5])])
theorem e0:V0 k a0=l0 k:=aM (b:=b0 k) rfl (fun _=>by kernel_rfl) fun _=>rfl
end
theorem ctr:Cp 227 (C k):=ry (D k) (E:=E k) rfl rfl Tryz.func227 rfl fun ⟨a0,_⟩=>(show _=t k (V0 k a0 k) a0 by kernel_rfl).trans (by rw [e0];rfl)
end kC
namespace k7
def C:Cn:=⟨[.val (.slice (.int .i64))],[.str],true,false,fun x=>f k x.1⟩
def D:List Ce:=[q (gP.ctr k)]
def E:gD:=en (D k) [(3,[3,6,7,8])] 0 [] k
section
variable (a0:List Int)
def K0:Ex→St→Rs:=bW (E k) (eK (E k) Tryz.f224 (C k) (a0,())) [.blk 0,.code (bV Tryz.f224 3 7)]
def V0 (n0:Nat):T0:=fun x0 x1 x2 x3=>ag (bC (E k) (bV Tryz.f224 6 11)) (ae 0 [3,6,7,8]) (K0 k a0) n0 (mk 18 0 [(3,.str x0),(6,.sl true (.int .i64) x1),(7,.int .i64 x2),(8,.int .i64 x3)] [])
theorem e0:V0 k a0=l0 k:=aM (b:=b0 k) rfl (fun _=>by kernel_rfl) fun _=>rfl
end
theorem ctr:Cp 224 (C k):=ry (D k) (E:=E k) rfl rfl Tryz.func224 rfl fun ⟨a0,_⟩=>(show _=t k (V0 k a0 k) a0 by kernel_rfl).trans (by rw [e0];rfl)
end k7
namespace ig
def C:Cn:=⟨[.val fm],[.str],true,false,fun x=>f k x.1⟩
def D:List Ce:=[q (kC.ctr k),q (k7.ctr k),q (eC.ctr k),q (gI.ctr k),q (dh.ctr k)]
def E:gD:=en (D k) [(5,[3,19,20,21])] 0 [] k
section
variable (a0:Ty.d fm)
def K0:Ex→St→Rs:=bW (E k) (eK (E k) Tryz.f185 (C k) (a0,())) [.blk 0,.code (bV Tryz.f185 4 15)]
def V0 (n0:Nat):T0:=fun x0 x1 x2 x3=>ag (bC (E k) (bV Tryz.f185 7 23)) (ae 0 [3,19,20,21]) (K0 k a0) n0 (mk 47 0 [(3,.str x0),(19,.sl true a_ x1),(20,.int .i64 x2),(21,.int .i64 x3)] [])
theorem e0:V0 k a0=l0 k:=aM (b:=b0 k) rfl (fun _=>by kernel_rfl) fun _=>rfl
end
theorem ctr:Cp 185 (C k):=ry (D k) (E:=E k) rfl rfl Tryz.func185 rfl fun ⟨a0,_⟩=>(show _=t k (V0 k a0 k) a0 by kernel_rfl).trans (by rw [e0];rfl)
end ig
namespace m4
def C:Cn:=⟨[.val .str],[fm,.bool],true,false,fun x=>f k x.1⟩
def D:List Ce:=[q (au.ctr k),q (aU.ctr k),q (ar.ctr k),q (kC.ctr k),q (ig.ctr k)]
def E:gD:=en (D k) [(8,[0,2,4,5,6,7])] 0 [] k
section
variable (a0:ByteArray)
def K0:Ex→St→Rs:=bW (E k) (eK (E k) Tryz.f208 (C k) (a0,())) [.blk 0,.code (bV Tryz.f208 8 255)]
def V0 (n0:Nat):T0:=fun x0 x1 x2 x3 x4 x5 x6 x7 x8 x9 x10=>ag (bC (E k) (bV Tryz.f208 11 383)) (ae 0 [0,2,4,5,6,7]) (K0 k a0) n0 (mk 72 5 [(0,.str x0),(2,.ptr 0 0 0),(4,.ptr 2 0 0),(5,.ptr 3 0 0),(6,.int .i64 x1),(7,.int .i64 x2)] [(1,.own false a_ x3),(0,.box [.int .i64 x4,.int .i64 x5,.ref 1]),(2,.box [.str x6,.bool x7]),(4,.own false a_ x8),(3,.box [.int .i64 x9,.int .i64 x10,.ref 4])])
theorem e0:V0 k a0=l0 k:=aM (b:=b0 k) rfl (fun _=>by kernel_rfl) fun _=>rfl
end
theorem ctr:Cp 208 (C k):=ry (D k) (E:=E k) rfl rfl Tryz.func208 rfl fun ⟨a0,_⟩=>(show _=t k (V0 k a0 k) a0 by kernel_rfl).trans (by rw [e0];rfl)
end m4
namespace iX
def C:Cn:=⟨[.val bA],[.str],true,false,fun x=>f k x.1⟩
def D:List Ce:=[q (gH.ctr k),q (k7.ctr k),q (eC.ctr k),q (gP.ctr k),q (dh.ctr k)]
theorem ctr:Cp 180 (C k):=rz k rfl (D k) Tryz.func180 rfl fun _=>by kernel_rfl
end iX
namespace kS
def C:Cn:=⟨[.val (.slice bA)],[(.int .i64)],true,false,fun x=>f k x.1⟩
def D:List Ce:=[q (iX.ctr k),q (gI.ctr k)]
def E:gD:=en (D k) [(3,[3,6,7,8])] 0 [] k
section
variable (a0:List (Ty.d bA))
def K0:Ex→St→Rs:=bW (E k) (eK (E k) Tryz.f182 (C k) (a0,())) [.blk 0,.code (bV Tryz.f182 3 7)]
def V0 (n0:Nat):T0:=fun x0 x1 x2 x3=>ag (bC (E k) (bV Tryz.f182 6 11)) (ae 0 [3,6,7,8]) (K0 k a0) n0 (mk 19 0 [(3,.str x0),(6,.sl true bA x1),(7,.int .i64 x2),(8,.int .i64 x3)] [])
theorem e0:V0 k a0=l0 k:=aM (b:=b0 k) rfl (fun _=>by kernel_rfl) fun _=>rfl
end
theorem ctr:Cp 182 (C k):=ry (D k) (E:=E k) rfl rfl Tryz.func182 rfl fun ⟨a0,_⟩=>(show _=t k (V0 k a0 k) a0 by kernel_rfl).trans (by rw [e0];rfl)
end kS
namespace mK
def C:Cn:=⟨[.val bA,.val (.slice aC)],[.bool],true,false,fun x=>f k x.1 x.2.1⟩
def D:List Ce:=[q (kS.ctr k)]
def E:gD:=en (D k) [(3,[2,5,8,9,10])] 0 [] k
section
variable (a0:Ty.d bA) (a1:List (Ty.d aC))
def K0:Ex→St→Rs:=bW (E k) (eK (E k) Tryz.f211 (C k) (a0,a1,())) [.blk 0,.code (bV Tryz.f211 3 7)]
def V0 (n0:Nat):T0:=fun x0 x1 x2 x3 x4 x5 x6 x7 x8 x9=>ag (bC (E k) (bV Tryz.f211 6 11)) (ae 0 [2,5,8,9,10]) (K0 k a0 a1) n0 (mk 32 2 [(2,.ptr 0 0 0),(5,.ref 1),(8,.sl true aC x0),(9,.int .i64 x1),(10,.int .i64 x2)] [(0,.box [.int .i64 x3,.int .i64 x4,.str x5,.str x6,.int .i64 x7,.int .i64 x8]),(1,.own false bA x9)])
theorem e0:V0 k a0 a1=l0 k:=aM (b:=b0 k) rfl (fun _=>by kernel_rfl) fun _=>rfl
end
theorem ctr:Cp 211 (C k):=ry (D k) (E:=E k) rfl rfl Tryz.func211 rfl fun ⟨a0,a1,_⟩=>(show _=t k (V0 k a0 a1 k) a0 a1 by kernel_rfl).trans (by rw [e0];rfl)
end mK
namespace lH
def C:Cn:=⟨[.val (.int .i64),.val .str],[fm,.bool],true,false,fun x=>f k x.1 x.2.1⟩
def D:List Ce:=[q (d8.ctr k),q (ap.ctr k),q (kD.ctr k),q (mK.ctr k)]
def E:gD:=en (D k) [(7,[0,4,6,9,67,68,69])] 0 [] k
section
variable (a0:Int) (a1:ByteArray)
def K0:Ex→St→Rs:=bW (E k) (eK (E k) Tryz.f183 (C k) (a0,a1,())) [.blk 0,.code (bV Tryz.f183 6 63)]
def V0 (n0:Nat):T0:=fun x0 x1 x2 x3 x4 x5 x6 x7 x8 x9 x10=>ag (bC (E k) (bV Tryz.f183 9 95)) (ae 0 [0,4,6,9,67,68,69]) (K0 k a0 a1) n0 (mk 123 4 [(0,.int .i64 x0),(4,.ptr 0 0 0),(6,.sl false bK x1),(9,.ptr 2 0 0),(67,.sl false bK x2),(68,.int .i64 x3),(69,.int .i64 x4)] [(1,.own false a_ x5),(0,.box [.int .i64 x6,.int .i64 x7,.ref 1]),(3,.own false a_ x8),(2,.box [.int .i64 x9,.int .i64 x10,.ref 3])])
theorem e0:V0 k a0 a1=l0 k:=aM (b:=b0 k) rfl (fun _=>by kernel_rfl) fun _=>rfl
end
theorem ctr:Cp 183 (C k):=ry (D k) (E:=E k) rfl rfl Tryz.func183 rfl fun ⟨a0,a1,_⟩=>(show _=t k (V0 k a0 a1 k) a0 a1 by kernel_rfl).trans (by rw [e0];rfl)
end lH
namespace mg
def C:Cn:=⟨[.val (.slice a_),.val (.slice a_)],[.bool],true,false,fun x=>f k x.1 x.2.1⟩
def E:gD:=en [] [(4,[0,1,12,13])] 0 [] k
section
variable (a0:List (Ty.d a_)) (a1:List (Ty.d a_))
def K0:Ex→St→Rs:=bW (E k) (eK (E k) Tryz.f236 (C k) (a0,a1,())) [.blk 0,.code (bV Tryz.f236 3 7)]
def V0 (n0:Nat):T0:=fun x0 x1 x2 x3=>ag (bC (E k) (bV Tryz.f236 6 11)) (ae 0 [0,1,12,13]) (K0 k a0 a1) n0 (mk 26 0 [(0,.sl true a_ x0),(1,.sl true a_ x1),(12,.int .i64 x2),(13,.int .i64 x3)] [])
theorem e0:V0 k a0 a1=l0 k:=aM (b:=b0 k) rfl (fun _=>by kernel_rfl) fun _=>rfl
end
theorem ctr:Cp 236 (C k):=ry [] (E:=E k) rfl rfl Tryz.func236 rfl fun ⟨a0,a1,_⟩=>(show _=t k (V0 k a0 a1 k) a0 a1 by kernel_rfl).trans (by rw [e0];rfl)
end mg
namespace m0
def C:Cn:=⟨[.val (.int .i64),.val .str,.val fm],[.bool],true,false,fun x=>f k x.1 x.2.1 x.2.2.1⟩
def D:List Ce:=[q (lH.ctr k),q (mg.ctr k)]
theorem ctr:Cp 209 (C k):=rz k rfl (D k) Tryz.func209 rfl fun _=>by kernel_rfl
end m0
namespace gg
def C:Cn:=⟨[.io true 0 aq,.val (.int .i64)],[i_,.bool],true,false,fun x=>f k x.1 x.2.1⟩
def D:List Ce:=[q (fV.ctr k),q (bZ.ctr k),q (m4.ctr k),q (ak.ctr k),q (m0.ctr k)]
theorem ctr:Cp 171 (C k):=rz k rfl (D k) Tryz.func171 rfl fun _=>by kernel_rfl
end gg
namespace mC
def C:Cn:=⟨[.val (.slice aC),.val bA],[(.slice aC)],true,false,fun x=>f k x.1 x.2.1⟩
def E:gD:=en [] [(3,[3,5,9,10,11])] 0 [] k
section
variable (a0:List (Ty.d aC)) (a1:Ty.d bA)
def K0:Ex→St→Rs:=bW (E k) (eK (E k) Tryz.f210 (C k) (a0,a1,())) [.blk 0,.code (bV Tryz.f210 3 7)]
def V0 (n0:Nat):T0:=fun x0 x1 x2 x3 x4 x5 x6 x7 x8 x9=>ag (bC (E k) (bV Tryz.f210 6 11)) (ae 0 [3,5,9,10,11]) (K0 k a0 a1) n0 (mk 62 2 [(3,.ptr 0 0 0),(5,.ref 1),(9,.sl true aC x0),(10,.int .i64 x1),(11,.int .i64 x2)] [(0,.box [.int .i64 x3,.int .i64 x4,.str x5,.str x6,.int .i64 x7,.int .i64 x8]),(1,.own false aC x9)])
theorem e0:V0 k a0 a1=l0 k:=aM (b:=b0 k) rfl (fun _=>by kernel_rfl) fun _=>rfl
end
theorem ctr:Cp 210 (C k):=ry [] (E:=E k) rfl rfl Tryz.func210 rfl fun ⟨a0,a1,_⟩=>(show _=t k (V0 k a0 a1 k) a0 a1 by kernel_rfl).trans (by rw [e0];rfl)
end mC
namespace gB
def C:Cn:=⟨[.val (.slice a_),.val .str],[(.slice a_)],true,false,fun x=>f k x.1 x.2.1⟩
def E:gD:=en [] [(3,[1,5,8,9,10])] 0 [] k
section
variable (a0:List (Ty.d a_)) (a1:ByteArray)
def K0:Ex→St→Rs:=bW (E k) (eK (E k) Tryz.f231 (C k) (a0,a1,())) [.blk 0,.code (bV Tryz.f231 3 7)]
def V0 (n0:Nat):T0:=fun x0 x1 x2 x3 x4=>ag (bC (E k) (bV Tryz.f231 6 11)) (ae 0 [1,5,8,9,10]) (K0 k a0 a1) n0 (mk 24 1 [(1,.str x0),(5,.ref 0),(8,.sl true a_ x1),(9,.int .i64 x2),(10,.int .i64 x3)] [(0,.own false a_ x4)])
theorem e0:V0 k a0 a1=l0 k:=aM (b:=b0 k) rfl (fun _=>by kernel_rfl) fun _=>rfl
end
theorem ctr:Cp 231 (C k):=ry [] (E:=E k) rfl rfl Tryz.func231 rfl fun ⟨a0,a1,_⟩=>(show _=t k (V0 k a0 a1 k) a0 a1 by kernel_rfl).trans (by rw [e0];rfl)
end gB
namespace ii
def C:Cn:=⟨[.val (.slice a_),.val a_],[(.slice a_)],true,false,fun x=>f k x.1 x.2.1⟩
def D:List Ce:=[q (gB.ctr k),q (ez.ctr k)]
def E:gD:=en (D k) [(3,[3,5,6])] 0 [] k
section
variable (a0:List (Ty.d a_)) (a1:Ty.d a_)
def K0:Ex→St→Rs:=bW (E k) (eK (E k) Tryz.f232 (C k) (a0,a1,())) [.blk 0,.code (bV Tryz.f232 4 15)]
def V0 (n0:Nat):T0:=fun x0 x1 x2 x3 x4 x5 x6=>ag (bC (E k) (bV Tryz.f232 6 7)) (ae 0 [3,5,6]) (K0 k a0 a1) n0 (mk 38 2 [(3,.ptr 0 0 0),(5,.ref 1),(6,.int .i64 x0)] [(0,.box [.str x1,.int .i64 x2,.int .i64 x3,.int .i64 x4,.int .i64 x5]),(1,.own false a_ x6)])
theorem e0:V0 k a0 a1=l0 k:=aM (b:=b0 k) rfl (fun _=>by kernel_rfl) fun _=>rfl
end
theorem ctr:Cp 232 (C k):=ry (D k) (E:=E k) rfl rfl Tryz.func232 rfl fun ⟨a0,a1,_⟩=>(show _=t k (V0 k a0 a1 k) a0 a1 by kernel_rfl).trans (by rw [e0];rfl)
end ii
namespace iJ
def C:Cn:=⟨[.io true 0 i_,.val (.slice aC)],[],true,false,fun x=>f k x.1 x.2.1⟩
def D:List Ce:=[q (gB.ctr k),q (ii.ctr k)]
def E:gD:=en (D k) [(1,[0,6,7,8])] 1 [] k
section
variable (a0:Ty.d i_) (a1:List (Ty.d aC))
def K0:Ex→St→Rs:=bW (E k) (eK (E k) Tryz.f212 (C k) (a0,a1,())) [.blk 0,.code (bV Tryz.f212 1 1)]
def V0 (n0:Nat):T0:=fun x0 x1 x2 x3 x4 x5=>ag (bC (E k) (bV Tryz.f212 4 2)) (ae 1 [0,6,7,8]) (K0 k a0 a1) n0 (mk 58 2 [(0,.ptr 0 0 0),(6,.sl true aC x0),(7,.int .i64 x1),(8,.int .i64 x2)] [(1,.own false a_ x3),(0,.box [.ref 1,.int .i64 x4,.int .i64 x5])])
theorem e0:V0 k a0 a1=l0 k:=aM (b:=b0 k) rfl (fun _=>by kernel_rfl) fun _=>rfl
end
theorem ctr:Cp 212 (C k):=ry (D k) (E:=E k) rfl rfl Tryz.func212 rfl fun ⟨a0,a1,_⟩=>(show _=t k (V0 k a0 a1 k) a0 a1 by kernel_rfl).trans (by rw [e0];rfl)
end iJ
namespace jW
def C:Cn:=⟨[.val i_,.val (.slice aC)],[i_],true,false,fun x=>f k x.1 x.2.1⟩
def D:List Ce:=[q (ez.ctr k),q (mC.ctr k),q (mK.ctr k),q (iJ.ctr k)]
def E:gD:=en (D k) [(3,[1,4,5,17,18,19])] 0 [] k
section
variable (a0:Ty.d i_) (a1:List (Ty.d aC))
def K0:Ex→St→Rs:=bW (E k) (eK (E k) Tryz.f172 (C k) (a0,a1,())) [.blk 0,.code (bV Tryz.f172 3 7)]
def V0 (n0:Nat):T0:=fun x0 x1 x2 x3 x4 x5 x6 x7 x8 x9=>ag (bC (E k) (bV Tryz.f172 6 11)) (ae 0 [1,4,5,17,18,19]) (K0 k a0 a1) n0 (mk 77 4 [(1,.sl true aC x0),(4,.ptr 0 0 0),(5,.ptr 2 0 0),(17,.sl true aC x1),(18,.int .i64 x2),(19,.int .i64 x3)] [(1,.own false a_ x4),(0,.box [.ref 1,.int .i64 x5,.int .i64 x6]),(3,.own false a_ x7),(2,.box [.ref 3,.int .i64 x8,.int .i64 x9])])
theorem e0:V0 k a0 a1=l0 k:=aM (b:=b0 k) rfl (fun _=>by kernel_rfl) fun _=>rfl
end
theorem ctr:Cp 172 (C k):=ry (D k) (E:=E k) rfl rfl Tryz.func172 rfl fun ⟨a0,a1,_⟩=>(show _=t k (V0 k a0 a1 k) a0 a1 by kernel_rfl).trans (by rw [e0];rfl)
end jW
namespace q5
def C:Cn:=⟨[.val .str],[(.int .i64),.bool],true,false,fun x=>f k x.1⟩
def D:List Ce:=[q (jd.ctr k),q (dm.ctr k),q (ap.ctr k)]
theorem ctr:Cp 237 (C k):=rz k rfl (D k) Tryz.func237 rfl fun _=>by kernel_rfl
end q5
namespace o5
def C:Cn:=⟨[.val (.slice (.int .i64)),.val (.int .i64)],[.bool],true,false,fun x=>f k x.1 x.2.1⟩
def E:gD:=en [] [(2,[1,7,8,9])] 0 [] k
section
variable (a0:List Int) (a1:Int)
def K0:Ex→St→Rs:=bW (E k) (eK (E k) Tryz.f238 (C k) (a0,a1,())) [.blk 0,.code (bV Tryz.f238 2 3)]
def V0 (n0:Nat):T0:=fun x0 x1 x2 x3=>ag (bC (E k) (bV Tryz.f238 5 5)) (ae 0 [1,7,8,9]) (K0 k a0 a1) n0 (mk 17 0 [(1,.int .i64 x0),(7,.sl true (.int .i64) x1),(8,.int .i64 x2),(9,.int .i64 x3)] [])
theorem e0:V0 k a0 a1=l0 k:=aM (b:=b0 k) rfl (fun _=>by kernel_rfl) fun _=>rfl
end
theorem ctr:Cp 238 (C k):=ry [] (E:=E k) rfl rfl Tryz.func238 rfl fun ⟨a0,a1,_⟩=>(show _=t k (V0 k a0 a1 k) a0 a1 by kernel_rfl).trans (by rw [e0];rfl)
end o5
namespace mW
def C:Cn:=⟨[.val aB,.val bo],[(.slice .str)],true,false,fun x=>f k x.1 x.2.1⟩
def D:List Ce:=[q (ay.ctr k),q (q5.ctr k),q (o5.ctr k)]
def E:gD:=en (D k) [(5,[3,5,14,15,16])] 0 [] k
section
variable (a0:Ty.d aB) (a1:Ty.d bo)
def K0:Ex→St→Rs:=bW (E k) (eK (E k) Tryz.f213 (C k) (a0,a1,())) [.blk 0,.code (bV Tryz.f213 4 15)]
def V0 (n0:Nat):T0:=fun x0 x1 x2 x3 x4 x5=>ag (bC (E k) (bV Tryz.f213 7 23)) (ae 0 [3,5,14,15,16]) (K0 k a0 a1) n0 (mk 46 2 [(3,.ptr 0 0 0),(5,.ref 1),(14,.sl true aD x0),(15,.int .i64 x1),(16,.int .i64 x2)] [(0,.box [.int .i64 x3,.sl true (.int .i64) x4]),(1,.own false .str x5)])
theorem e0:V0 k a0 a1=l0 k:=aM (b:=b0 k) rfl (fun _=>by kernel_rfl) fun _=>rfl
end
theorem ctr:Cp 213 (C k):=ry (D k) (E:=E k) rfl rfl Tryz.func213 rfl fun ⟨a0,a1,_⟩=>(show _=t k (V0 k a0 a1 k) a0 a1 by kernel_rfl).trans (by rw [e0];rfl)
end mW
namespace gj
def C:Cn:=⟨[.io true 0 aB,.val .str],[],true,false,fun x=>f k x.1 x.2.1⟩
def D:List Ce:=[q (bN.ctr k)]
theorem ctr:Cp 230 (C k):=rz k rfl (D k) Tryz.func230 rfl fun _=>by kernel_rfl
end gj
namespace kf
def C:Cn:=⟨[.io true 0 aB,.io true 0 .str],[(.int .i64)],true,false,fun x=>f k x.1 x.2.1⟩
def D:List Ce:=[q (bN.ctr k),q (gj.ctr k)]
theorem ctr:Cp 229 (C k):=rz k rfl (D k) Tryz.func229 rfl fun _=>by kernel_rfl
end kf
namespace j2
def C:Cn:=⟨[.val aB,.fn 229 1,.io true 0 .str],[aB,(.int .i64)],true,false,fun x=>f k x.1 x.2.1⟩
def D:List Ce:=[q (bD.ctr k),q (ay.ctr k),q (kf.ctr k)]
theorem ctr:Cp 205 (C k):=rz k rfl (D k) Tryz.func205 rfl fun _=>by kernel_rfl
end j2
namespace nn
def C:Cn:=⟨[.val aB,.val .str],[aB,(.int .i64)],true,false,fun x=>f k x.1 x.2.1⟩
def D:List Ce:=[q (j2.ctr k)]
theorem ctr:Cp 188 (C k):=rz k rfl (D k) Tryz.func188 rfl fun _=>by kernel_rfl
end nn
namespace bu
def C:Cn:=⟨[.io true 0 aq,.val .str],[],true,false,fun x=>f k x.1 x.2.1⟩
def D:List Ce:=[q (bN.ctr k),q (nn.ctr k),q (bH.ctr k)]
theorem ctr:Cp 123 (C k):=rz k rfl (D k) Tryz.func123 rfl fun _=>by kernel_rfl
end bu
namespace d7
def C:Cn:=⟨[.io true 0 aq,.val bo],[],true,false,fun x=>f k x.1 x.2.1⟩
def D:List Ce:=[q (mW.ctr k),q (bu.ctr k)]
def E:gD:=en (D k) [(2,[0,11,12,13])] 1 [] k
section
variable (a0:Ty.d aq) (a1:Ty.d bo)
def K0:Ex→St→Rs:=bW (E k) (eK (E k) Tryz.f173 (C k) (a0,a1,())) [.blk 0]
def V0 (n0:Nat):T0:=fun x0 x1 x2 x3 x4 x5 x6 x7=>ag (bC (E k) (bV Tryz.f173 4 3)) (ae 1 [0,11,12,13]) (K0 k a0 a1) n0 (mk 21 3 [(0,.ptr 0 0 0),(11,.ref 2),(12,.int .i64 x0),(13,.int .i64 x1)] [(1,.own false aD x2),(0,.box [.ref 1,.int .i64 x3,.int .i64 x4,.bool x5,.int .i64 x6]),(2,.own false .str x7)])
theorem e0:V0 k a0 a1=l0 k:=aM (b:=b0 k) rfl (fun _=>by kernel_rfl) fun _=>rfl
end
theorem ctr:Cp 173 (C k):=ry (D k) (E:=E k) rfl rfl Tryz.func173 rfl fun ⟨a0,a1,_⟩=>(show _=t k (V0 k a0 a1 k) a0 a1 by kernel_rfl).trans (by rw [e0];rfl)
end d7
namespace j3
def C:Cn:=⟨[.io true 0 aq,.val .str],[aF],true,false,fun x=>f k x.1 x.2.1⟩
def D:List Ce:=[q (lp.ctr k),q (iG.ctr k),q (ak.ctr k),q (bZ.ctr k),q (ly.ctr k),q (bH.ctr k),q (cJ.ctr k),q (gg.ctr k),q (jW.ctr k),q (d7.ctr k)]
def E:gD:=en (D k) [(20,[0,4,5,13,14,16,103,104,105])] 1 [] k
section
variable (a0:Ty.d aq) (a1:ByteArray)
def K0:Ex→St→Rs:=bW (E k) (eK (E k) Tryz.f109 (C k) (a0,a1,())) [.blk 0,.code (bV Tryz.f109 13 8191)]
def V0 (n0:Nat):T0:=fun x0 x1 x2 x3 x4 x5 x6 x7 x8 x9 x10 x11 x12 x13 x14 x15 x16 x17 x18 x19 x20 x21 x22 x23 x24=>ag (bC (E k) (bV Tryz.f109 16 12287)) (ae 1 [0,4,5,13,14,16,103,104,105]) (K0 k a0 a1) n0 (mk 134 12 [(0,.ptr 0 0 0),(4,.ptr 2 0 0),(5,.ptr 5 0 0),(13,.ptr 7 0 0),(14,.ptr 9 0 0),(16,.ref 11),(103,.sl false (.slice aC) x0),(104,.int .i64 x1),(105,.int .i64 x2)] [(1,.own false aD x3),(0,.box [.ref 1,.int .i64 x4,.int .i64 x5,.bool x6,.int .i64 x7]),(3,.own false (.int .i64) x8),(4,.own false a_ x9),(2,.box [.int .i64 x10,.ref 3,.ref 4,.int .i64 x11,.int .i64 x12,.int .i64 x13]),(6,.own false (.int .i64) x14),(5,.box [.int .i64 x15,.ref 6]),(8,.own false a_ x16),(7,.box [.int .i64 x17,.ref 6,.ref 8,.int .i64 x18,.int .i64 x19,.int .i64 x20]),(10,.own false a_ x21),(9,.box [.ref 10,.int .i64 x22,.int .i64 x23]),(11,.own false aC x24)])
def V1 (n0:Nat):T1:=fun x0 x1 x2 x3 x4 x5 x6 x7 x8 x9 x10 x11 x12 x13 x14 x15 x16 x17 x18 x19 x20 x21 x22 x23 x24=>ag (bC (E k) (bV Tryz.f109 16 12287)) (ae 1 [0,4,5,13,14,16,103,104,105]) (K0 k a0 a1) n0 (mk 134 13 [(0,.ptr 0 0 0),(4,.ptr 2 0 0),(5,.ptr 5 0 0),(13,.ptr 7 0 0),(14,.ptr 9 0 0),(16,.ref 11),(103,.ref 12),(104,.int .i64 x0),(105,.int .i64 x1)] [(1,.own false aD x2),(0,.box [.ref 1,.int .i64 x3,.int .i64 x4,.bool x5,.int .i64 x6]),(3,.own false (.int .i64) x7),(4,.own false a_ x8),(2,.box [.int .i64 x9,.ref 3,.ref 4,.int .i64 x10,.int .i64 x11,.int .i64 x12]),(6,.own false (.int .i64) x13),(5,.box [.int .i64 x14,.ref 6]),(8,.own false a_ x15),(7,.box [.int .i64 x16,.ref 6,.ref 8,.int .i64 x17,.int .i64 x18,.int .i64 x19]),(10,.own false a_ x20),(9,.box [.ref 10,.int .i64 x21,.int .i64 x22]),(11,.own false aC x23),(12,.own false (.slice aC) x24)])
def V2 (n0:Nat):T2:=fun x0 x1 x2 x3 x4 x5 x6 x7 x8 x9 x10 x11 x12 x13 x14 x15 x16 x17 x18 x19 x20 x21 x22 x23 x24=>ag (bC (E k) (bV Tryz.f109 16 12287)) (ae 1 [0,4,5,13,14,16,103,104,105]) (K0 k a0 a1) n0 (mk 134 12 [(0,.ptr 0 0 0),(4,.ptr 2 0 0),(5,.ptr 5 0 0),(13,.ptr 7 0 0),(14,.ptr 9 0 0),(16,.ref 11),(103,.sl false (.slice aC) x0),(104,.int .i64 x1),(105,.int .i64 x2)] [(1,.own false aD x3),(0,.box [.ref 1,.int .i64 x4,.int .i64 x5,.bool x6,.int .i64 x7]),(3,.own false (.int .i64) x8),(4,.own false a_ x9),(2,.box [.int .i64 x10,.ref 3,.ref 4,.int .i64 x11,.int .i64 x12,.int .i64 x13]),(6,.own false (.int .i64) x14),(5,.box [.int .i64 x15,.ref 6]),(8,.own false a_ x16),(7,.box [.int .i64 x17,.ref 6,.ref 8,.int .i64 x18,.int .i64 x19,.int .i64 x20]),(10,.own false a_ x21),(9,.box [.ref 10,.int .i64 x22,.int .i64 x23]),(11,.own false aC x24)])
def V3 (n0:Nat):T3:=fun x0 x1 x2 x3 x4 x5 x6 x7 x8 x9 x10 x11 x12 x13 x14 x15 x16 x17 x18 x19 x20 x21 x22 x23 x24=>ag (bC (E k) (bV Tryz.f109 16 12287)) (ae 1 [0,4,5,13,14,16,103,104,105]) (K0 k a0 a1) n0 (mk 134 13 [(0,.ptr 0 0 0),(4,.ptr 2 0 0),(5,.ptr 5 0 0),(13,.ptr 7 0 0),(14,.ptr 9 0 0),(16,.ref 11),(103,.ref 12),(104,.int .i64 x0),(105,.int .i64 x1)] [(1,.own false aD x2),(0,.box [.ref 1,.int .i64 x3,.int .i64 x4,.bool x5,.int .i64 x6]),(3,.own false (.int .i64) x7),(4,.own false a_ x8),(2,.box [.int .i64 x9,.ref 3,.ref 4,.int .i64 x10,.int .i64 x11,.int .i64 x12]),(6,.own false (.int .i64) x13),(5,.box [.int .i64 x14,.ref 6]),(8,.own false a_ x15),(7,.box [.int .i64 x16,.ref 6,.ref 8,.int .i64 x17,.int .i64 x18,.int .i64 x19]),(10,.own false a_ x20),(9,.box [.ref 10,.int .i64 x21,.int .i64 x22]),(11,.own false aC x23),(12,.own false (.slice aC) x24)])
theorem e0:V0 k a0 a1=l0 k:=aM (b:=b0 k) rfl (fun _=>by kernel_rfl) fun _=>rfl
theorem e1:V1 k a0 a1=l1 k:=aM (b:=b1 k) rfl (fun _=>by kernel_rfl) fun _=>rfl
theorem e2:V2 k a0 a1=l2 k:=aM (b:=b2 k) rfl (fun _=>by kernel_rfl) fun _=>rfl
theorem e3:V3 k a0 a1=l3 k:=aM (b:=b3 k) rfl (fun _=>by kernel_rfl) fun _=>rfl
end
theorem ctr:Cp 109 (C k):=ry (D k) (E:=E k) rfl rfl Tryz.func109 rfl fun ⟨a0,a1,_⟩=>(show _=t k (V0 k a0 a1 k) (V1 k a0 a1 k) (V2 k a0 a1 k) (V3 k a0 a1 k) a0 a1 by kernel_rfl).trans (by rw [e0,e1,e2,e3];rfl)
end j3
namespace j8
def C:Cn:=⟨[.io true 0 aB,.val aD],[],true,false,fun x=>f k x.1 x.2.1⟩
def E:gD:=en [] [(2,[0,3,4])] 1 [] k
section
variable (a0:Ty.d aB) (a1:Ty.d aD)
def K0:Ex→St→Rs:=bW (E k) (eK (E k) Tryz.f240 (C k) (a0,a1,())) [.blk 0,.code (bV Tryz.f240 3 7)]
def V0 (n0:Nat):T0:=fun x0 x1 x2 x3 x4 x5 x6 x7=>ag (bC (E k) (bV Tryz.f240 5 3)) (ae 1 [0,3,4]) (K0 k a0 a1) n0 (mk 47 3 [(0,.ptr 0 0 0),(3,.ptr 2 0 0),(4,.int .i64 x0)] [(1,.own false aD x1),(0,.box [.ref 1,.int .i64 x2,.int .i64 x3,.bool x4]),(2,.box [.str x5,.str x6,.int .i64 x7])])
theorem e0:V0 k a0 a1=l0 k:=aM (b:=b0 k) rfl (fun _=>by kernel_rfl) fun _=>rfl
end
theorem ctr:Cp 240 (C k):=ry [] (E:=E k) rfl rfl Tryz.func240 rfl fun ⟨a0,a1,_⟩=>(show _=t k (V0 k a0 a1 k) a0 a1 by kernel_rfl).trans (by rw [e0];rfl)
end j8
namespace kj
def C:Cn:=⟨[.io true 0 aB,.io true 0 .str],[(.int .i64)],true,false,fun x=>f k x.1 x.2.1⟩
def D:List Ce:=[q (eE.ctr k),q (bN.ctr k),q (j8.ctr k)]
theorem ctr:Cp 239 (C k):=rz k rfl (D k) Tryz.func239 rfl fun _=>by kernel_rfl
end kj
namespace iy
def C:Cn:=⟨[.val aB,.fn 239 1,.io true 0 .str],[aB,(.int .i64)],true,false,fun x=>f k x.1 x.2.1⟩
def D:List Ce:=[q (bD.ctr k),q (ay.ctr k),q (kj.ctr k)]
theorem ctr:Cp 205 (C k):=rz k rfl (D k) Tryz.func205 rfl fun _=>by kernel_rfl
end iy
namespace na
def C:Cn:=⟨[.val aB,.val .str],[aB,(.int .i64)],true,false,fun x=>f k x.1 x.2.1⟩
def D:List Ce:=[q (iy.ctr k)]
theorem ctr:Cp 214 (C k):=rz k rfl (D k) Tryz.func214 rfl fun _=>by kernel_rfl
end na
namespace fc
def C:Cn:=⟨[.io true 0 aq,.val .str],[],true,false,fun x=>f k x.1 x.2.1⟩
def D:List Ce:=[q (na.ctr k),q (bH.ctr k)]
theorem ctr:Cp 174 (C k):=rz k rfl (D k) Tryz.func174 rfl fun _=>by kernel_rfl
end fc
namespace ll
def C:Cn:=⟨[.val bo],[.str],true,false,fun x=>f k x.1⟩
def D:List Ce:=[q (dK.ctr k),q (k7.ctr k),q (gZ.ctr k)]
theorem ctr:Cp 186 (C k):=rz k rfl (D k) Tryz.func186 rfl fun _=>by kernel_rfl
end ll
namespace dz
def C:Cn:=⟨[.io true 0 aq,.val .str],[],true,false,fun x=>f k x.1 x.2.1⟩
def D:List Ce:=[q (bu.ctr k),q (fc.ctr k)]
theorem ctr:Cp 178 (C k):=rz k rfl (D k) Tryz.func178 rfl fun _=>by kernel_rfl
end dz
namespace mR
def C:Cn:=⟨[.val aB],[(.int .i64)],true,false,fun x=>f k x.1⟩
def E:gD:=en [] [(3,[3,7,8,9])] 0 [] k
section
variable (a0:Ty.d aB)
def K0:Ex→St→Rs:=bW (E k) (eK (E k) Tryz.f42 (C k) (a0,())) [.blk 0,.code (bV Tryz.f42 3 7)]
def V0 (n0:Nat):T0:=fun x0 x1 x2 x3=>ag (bC (E k) (bV Tryz.f42 6 11)) (ae 0 [3,7,8,9]) (K0 k a0) n0 (mk 20 0 [(3,.int .i64 x0),(7,.sl true aD x1),(8,.int .i64 x2),(9,.int .i64 x3)] [])
theorem e0:V0 k a0=l0 k:=aM (b:=b0 k) rfl (fun _=>by kernel_rfl) fun _=>rfl
end
theorem ctr:Cp 42 (C k):=ry [] (E:=E k) rfl rfl Tryz.func42 rfl fun ⟨a0,_⟩=>(show _=t k (V0 k a0 k) a0 by kernel_rfl).trans (by rw [e0];rfl)
end mR
namespace kh
def C:Cn:=⟨[.io true 0 aB,.io true 0 .str,.io true 0 .str],[(.int .i64)],true,false,fun x=>f k x.1 x.2.1 x.2.2.1⟩
def D:List Ce:=[q (bN.ctr k),q (mR.ctr k)]
theorem ctr:Cp 242 (C k):=rz k rfl (D k) Tryz.func242 rfl fun _=>by kernel_rfl
end kh
namespace j9
def C:Cn:=⟨[.val aB,.fn 242 2,.io true 0 .str,.io true 0 .str],[aB,(.int .i64)],true,false,fun x=>f k x.1 x.2.1 x.2.2.1⟩
def D:List Ce:=[q (bD.ctr k),q (ay.ctr k),q (kh.ctr k)]
theorem ctr:Cp 205 (C k):=rz k rfl (D k) Tryz.func205 rfl fun _=>by kernel_rfl
end j9
namespace nl
def C:Cn:=⟨[.val aB,.val .str,.val .str],[aB,(.int .i64)],true,false,fun x=>f k x.1 x.2.1 x.2.2.1⟩
def D:List Ce:=[q (j9.ctr k)]
theorem ctr:Cp 226 (C k):=rz k rfl (D k) Tryz.func226 rfl fun _=>by kernel_rfl
end nl
namespace dx
def C:Cn:=⟨[.io true 0 aq,.val .str,.val .str],[],true,false,fun x=>f k x.1 x.2.1 x.2.2.1⟩
def D:List Ce:=[q (nl.ctr k),q (bH.ctr k)]
theorem ctr:Cp 181 (C k):=rz k rfl (D k) Tryz.func181 rfl fun _=>by kernel_rfl
end dx
namespace fh
def C:Cn:=⟨[.io true 0 aq,.val .str,.val .str],[],true,false,fun x=>f k x.1 x.2.1 x.2.2.1⟩
def D:List Ce:=[q (dz.ctr k),q (dx.ctr k),q (cJ.ctr k)]
theorem ctr:Cp 184 (C k):=rz k rfl (D k) Tryz.func184 rfl fun _=>by kernel_rfl
end fh
namespace ki
def C:Cn:=⟨[.io true 0 aB,.io true 0 .str,.io true 0 .str],[(.int .i64)],true,false,fun x=>f k x.1 x.2.1 x.2.2.1⟩
def D:List Ce:=[q (bN.ctr k),q (eE.ctr k),q (gj.ctr k),q (j8.ctr k)]
theorem ctr:Cp 243 (C k):=rz k rfl (D k) Tryz.func243 rfl fun _=>by kernel_rfl
end ki
namespace jB
def C:Cn:=⟨[.val aB,.fn 243 2,.io true 0 .str,.io true 0 .str],[aB,(.int .i64)],true,false,fun x=>f k x.1 x.2.1 x.2.2.1⟩
def D:List Ce:=[q (bD.ctr k),q (ay.ctr k),q (ki.ctr k)]
theorem ctr:Cp 205 (C k):=rz k rfl (D k) Tryz.func205 rfl fun _=>by kernel_rfl
end jB
namespace nh
def C:Cn:=⟨[.val aB,.val .str,.val .str],[aB,(.int .i64)],true,false,fun x=>f k x.1 x.2.1 x.2.2.1⟩
def D:List Ce:=[q (jB.ctr k)]
theorem ctr:Cp 228 (C k):=rz k rfl (D k) Tryz.func228 rfl fun _=>by kernel_rfl
end nh
namespace iS
def C:Cn:=⟨[.io true 0 aq,.val .str,.val .str],[],true,false,fun x=>f k x.1 x.2.1 x.2.2.1⟩
def D:List Ce:=[q (nh.ctr k),q (bH.ctr k)]
theorem ctr:Cp 187 (C k):=rz k rfl (D k) Tryz.func187 rfl fun _=>by kernel_rfl
end iS
namespace dV
def C:Cn:=⟨[.io true 0 aq,.val bo],[],true,false,fun x=>f k x.1 x.2.1⟩
def D:List Ce:=[q (ll.ctr k),q (fh.ctr k),q (iS.ctr k)]
theorem ctr:Cp 120 (C k):=rz k rfl (D k) Tryz.func120 rfl fun _=>by kernel_rfl
end dV
namespace iw
def C:Cn:=⟨[.io true 0 aq],[aF],true,false,fun x=>f k x.1⟩
def D:List Ce:=[q (d7.ctr k),q (ak.ctr k),q (fc.ctr k),q (dV.ctr k)]
theorem ctr:Cp 110 (C k):=rz k rfl (D k) Tryz.func110 rfl fun _=>by kernel_rfl
end iw
namespace pz
def C:Cn:=⟨[.val aB],[aF,aB,(.int .i64)],true,false,fun x=>f k x.1⟩
def D:List Ce:=[q (bD.ctr k),q (ay.ctr k),q (bZ.ctr k),q (j3.ctr k),q (iw.ctr k)]
theorem ctr:Cp 68 (C k):=rz k rfl (D k) Tryz.func68 rfl fun _=>by kernel_rfl
end pz
namespace jr
def C:Cn:=⟨[.val aB],[aV,(.int .i64)],true,false,fun x=>f k x.1⟩
def D:List Ce:=[q (pz.ctr k)]
theorem ctr:Cp 41 (C k):=rz k rfl (D k) Tryz.func41 rfl fun _=>by kernel_rfl
end jr
namespace dq
def C:Cn:=⟨[.val (.slice a_)],[(.slice .str)],true,false,fun x=>f k x.1⟩
def E:gD:=en [] [(3,[3,6,7,8])] 0 [] k
section
variable (a0:List (Ty.d a_))
def K0:Ex→St→Rs:=bW (E k) (eK (E k) Tryz.f46 (C k) (a0,())) [.blk 0,.code (bV Tryz.f46 3 7)]
def V0 (n0:Nat):T0:=fun x0 x1 x2 x3=>ag (bC (E k) (bV Tryz.f46 6 11)) (ae 0 [3,6,7,8]) (K0 k a0) n0 (mk 19 1 [(3,.ref 0),(6,.sl true a_ x0),(7,.int .i64 x1),(8,.int .i64 x2)] [(0,.own false .str x3)])
theorem e0:V0 k a0=l0 k:=aM (b:=b0 k) rfl (fun _=>by kernel_rfl) fun _=>rfl
end
theorem ctr:Cp 46 (C k):=ry [] (E:=E k) rfl rfl Tryz.func46 rfl fun ⟨a0,_⟩=>(show _=t k (V0 k a0 k) a0 by kernel_rfl).trans (by rw [e0];rfl)
end dq
namespace fM
def C:Cn:=⟨[.val (.slice a_),.val .str],[a_,.bool],true,false,fun x=>f k x.1 x.2.1⟩
def E:gD:=en [] [(2,[1,4,8,9,10])] 0 [] k
section
variable (a0:List (Ty.d a_)) (a1:ByteArray)
def K0:Ex→St→Rs:=bW (E k) (eK (E k) Tryz.f129 (C k) (a0,a1,())) [.blk 0,.code (bV Tryz.f129 2 3)]
def V0 (n0:Nat):T0:=fun x0 x1 x2 x3 x4 x5 x6 x7 x8=>ag (bC (E k) (bV Tryz.f129 5 5)) (ae 0 [1,4,8,9,10]) (K0 k a0 a1) n0 (mk 21 1 [(1,.str x0),(4,.ptr 0 0 0),(8,.sl true a_ x1),(9,.int .i64 x2),(10,.int .i64 x3)] [(0,.box [.str x4,.int .i64 x5,.int .i64 x6,.int .i64 x7,.int .i64 x8])])
theorem e0:V0 k a0 a1=l0 k:=aM (b:=b0 k) rfl (fun _=>by kernel_rfl) fun _=>rfl
end
theorem ctr:Cp 129 (C k):=ry [] (E:=E k) rfl rfl Tryz.func129 rfl fun ⟨a0,a1,_⟩=>(show _=t k (V0 k a0 a1 k) a0 a1 by kernel_rfl).trans (by rw [e0];rfl)
end fM
namespace jc
def C:Cn:=⟨[.val .str,.val (.int .i64),.val (.int .i64)],[bA,.bool],true,false,fun x=>f k x.1 x.2.1 x.2.2.1⟩
def D:List Ce:=[q (ap.ctr k),q (dr.ctr k),q (d6.ctr k)]
theorem ctr:Cp 116 (C k):=rz k rfl (D k) Tryz.func116 rfl fun _=>by kernel_rfl
end jc
namespace lx
def C:Cn:=⟨[.val aF,.val aB,.val .str],[aD,(.int .i64)],true,false,fun x=>f k x.1 x.2.1 x.2.2.1⟩
def D:List Ce:=[q (fM.ctr k),q (ak.ctr k),q (bZ.ctr k),q (jc.ctr k)]
theorem ctr:Cp 111 (C k):=rz k rfl (D k) Tryz.func111 rfl fun _=>by kernel_rfl
end lx
namespace qB
def C:Cn:=⟨[.val aF,.val aB],[(.slice aD),(.int .i64)],true,false,fun x=>f k x.1 x.2.1⟩
def D:List Ce:=[q (dq.ctr k),q (lx.ctr k)]
def E:gD:=en (D k) [(3,[2,3,6,13,14,15])] 0 [] k
section
variable (a0:Ty.d aF) (a1:Ty.d aB)
def K0:Ex→St→Rs:=bW (E k) (eK (E k) Tryz.f70 (C k) (a0,a1,())) [.blk 0,.code (bV Tryz.f70 3 7)]
def V0 (n0:Nat):T0:=fun x0 x1 x2 x3 x4 x5 x6 x7 x8 x9 x10 x11 x12 x13=>ag (bC (E k) (bV Tryz.f70 6 11)) (ae 0 [2,3,6,13,14,15]) (K0 k a0 a1) n0 (mk 35 4 [(2,.ptr 0 0 0),(3,.ptr 1 0 0),(6,.ref 2),(13,.ref 3),(14,.int .i64 x0),(15,.int .i64 x1)] [(0,.box [.int .i64 x2,.sl true (.int .i64) x3,.sl true a_ x4,.int .i64 x5,.int .i64 x6,.int .i64 x7]),(1,.box [.sl true aD x8,.int .i64 x9,.int .i64 x10,.bool x11]),(2,.own false aD x12),(3,.own false .str x13)])
theorem e0:V0 k a0 a1=l0 k:=aM (b:=b0 k) rfl (fun _=>by kernel_rfl) fun _=>rfl
end
theorem ctr:Cp 70 (C k):=ry (D k) (E:=E k) rfl rfl Tryz.func70 rfl fun ⟨a0,a1,_⟩=>(show _=t k (V0 k a0 a1 k) a0 a1 by kernel_rfl).trans (by rw [e0];rfl)
end qB
namespace cQ
def C:Cn:=⟨[.val aF,.val aB],[.bool],true,false,fun x=>f k x.1 x.2.1⟩
def D:List Ce:=[q (ay.ctr k),q (dK.ctr k),q (fF.ctr k),q (ap.ctr k),q (ak.ctr k),q (bZ.ctr k),q (d8.ctr k),q (jc.ctr k)]
def E:gD:=en (D k) [(4,[2,3,40,41,42]),(12,[2,3,84,85,86])] 0 [] k
section
variable (a0:Ty.d aF) (a1:Ty.d aB)
def K0:Ex→St→Rs:=bW (E k) (eK (E k) Tryz.f71 (C k) (a0,a1,())) [.blk 0,.code (bV Tryz.f71 3 7)]
def K1:Ex→St→Rs:=bW (E k) (eK (E k) Tryz.f71 (C k) (a0,a1,())) [.blk 2,.code (bV Tryz.f71 4 15)]
def V0 (n0:Nat):T0:=fun x0 x1 x2 x3 x4 x5 x6 x7 x8 x9 x10 x11 x12=>ag (bC (E k) (bV Tryz.f71 6 11)) (ae 0 [2,3,40,41,42]) (K0 k a0 a1) n0 (mk 141 2 [(2,.ptr 0 0 0),(3,.ptr 1 0 0),(40,.sl true (.int .i64) x0),(41,.int .i64 x1),(42,.int .i64 x2)] [(0,.box [.int .i64 x3,.sl true (.int .i64) x4,.sl true a_ x5,.int .i64 x6,.int .i64 x7,.int .i64 x8]),(1,.box [.sl true aD x9,.int .i64 x10,.int .i64 x11,.bool x12])])
def V1 (n1:Nat):T1:=fun x0 x1 x2 x3 x4 x5 x6 x7 x8 x9 x10 x11 x12=>ag (bC (E k) (bV Tryz.f71 7 23)) (ae 0 [2,3,84,85,86]) (K1 k a0 a1) n1 (mk 141 2 [(2,.ptr 0 0 0),(3,.ptr 1 0 0),(84,.sl true a_ x0),(85,.int .i64 x1),(86,.int .i64 x2)] [(0,.box [.int .i64 x3,.sl true (.int .i64) x4,.sl true a_ x5,.int .i64 x6,.int .i64 x7,.int .i64 x8]),(1,.box [.sl true aD x9,.int .i64 x10,.int .i64 x11,.bool x12])])
theorem e1:V1 k a0 a1=l1 k:=aM (b:=b1 k) rfl (fun _=>by kernel_rfl) fun _=>rfl
theorem e0 (n0:Nat):V0 k a0 a1 n0=l0 k n0:=by
 induction n0 with
 | zero=>rfl
 | succ n0 ih =>
  have h:V0 k a0 a1 (n0+1)=b0 k (V1 k a0 a1 k) (V0 k a0 a1 n0):=by kernel_rfl
  rw [h,e1,ih]
  rfl
end
theorem ctr:Cp 71 (C k):=ry (D k) (E:=E k) rfl rfl Tryz.func71 rfl fun ⟨a0,a1,_⟩=>(show _=t k (V0 k a0 a1 k) a0 a1 by kernel_rfl).trans (by rw [e0];rfl)
end cQ
namespace ox
def C:Cn:=⟨[.val (.slice aD),.val (.int .i64)],[(.slice bA)],true,false,fun x=>f k x.1 x.2.1⟩
def D:List Ce:=[q (kS.ctr k)]
def E:gD:=en (D k) [(3,[0,1,5,8,9,10])] 0 [] k
section
variable (a0:List (Ty.d aD)) (a1:Int)
def K0:Ex→St→Rs:=bW (E k) (eK (E k) Tryz.f118 (C k) (a0,a1,())) [.blk 0,.code (bV Tryz.f118 3 7)]
def V0 (n0:Nat):T0:=fun x0 x1 x2 x3 x4 x5=>ag (bC (E k) (bV Tryz.f118 6 11)) (ae 0 [0,1,5,8,9,10]) (K0 k a0 a1) n0 (mk 34 1 [(0,.sl true aD x0),(1,.int .i64 x1),(5,.ref 0),(8,.sl true aD x2),(9,.int .i64 x3),(10,.int .i64 x4)] [(0,.own false bA x5)])
theorem e0:V0 k a0 a1=l0 k:=aM (b:=b0 k) rfl (fun _=>by kernel_rfl) fun _=>rfl
end
theorem ctr:Cp 118 (C k):=ry (D k) (E:=E k) rfl rfl Tryz.func118 rfl fun ⟨a0,a1,_⟩=>(show _=t k (V0 k a0 a1 k) a0 a1 by kernel_rfl).trans (by rw [e0];rfl)
end ox
namespace g9
def C:Cn:=⟨[.io true 0 aq,.val (.int .i64),.val (.slice bA)],[(.slice a_)],true,false,fun x=>f k x.1 x.2.1 x.2.2.1⟩
def D:List Ce:=[q (ak.ctr k),q (dz.ctr k),q (iX.ctr k),q (gZ.ctr k),q (dx.ctr k),q (cJ.ctr k)]
def E:gD:=en (D k) [(5,[0,1,7,8,16,17,18])] 1 [] k
section
variable (a0:Ty.d aq) (a1:Int) (a2:List (Ty.d bA))
def K0:Ex→St→Rs:=bW (E k) (eK (E k) Tryz.f117 (C k) (a0,a1,a2,())) [.blk 0,.code (bV Tryz.f117 5 31)]
def V0 (n0:Nat):T0:=fun x0 x1 x2 x3 x4 x5 x6 x7 x8 x9 x10=>ag (bC (E k) (bV Tryz.f117 8 47)) (ae 1 [0,1,7,8,16,17,18]) (K0 k a0 a1 a2) n0 (mk 60 3 [(0,.ptr 0 0 0),(1,.int .i64 x0),(7,.ref 2),(8,.int .i64 x1),(16,.sl true bA x2),(17,.int .i64 x3),(18,.int .i64 x4)] [(1,.own false aD x5),(0,.box [.ref 1,.int .i64 x6,.int .i64 x7,.bool x8,.int .i64 x9]),(2,.own false a_ x10)])
theorem e0:V0 k a0 a1 a2=l0 k:=aM (b:=b0 k) rfl (fun _=>by kernel_rfl) fun _=>rfl
end
theorem ctr:Cp 117 (C k):=ry (D k) (E:=E k) rfl rfl Tryz.func117 rfl fun ⟨a0,a1,a2,_⟩=>(show _=t k (V0 k a0 a1 a2 k) a0 a1 a2 by kernel_rfl).trans (by rw [e0];rfl)
end g9
namespace gU
def C:Cn:=⟨[.io true 0 aq,.val (.int .i64)],[],true,false,fun x=>f k x.1 x.2.1⟩
def D:List Ce:=[q (ak.ctr k),q (bZ.ctr k),q (lH.ctr k),q (fV.ctr k),q (ig.ctr k),q (fh.ctr k),q (bu.ctr k)]
theorem ctr:Cp 119 (C k):=rz k rfl (D k) Tryz.func119 rfl fun _=>by kernel_rfl
end gU
namespace fS
def C:Cn:=⟨[.io true 0 aq,.val (.slice .str)],[],true,false,fun x=>f k x.1 x.2.1⟩
def D:List Ce:=[q (bu.ctr k)]
def E:gD:=en (D k) [(3,[0,4,18,19,20])] 1 [] k
section
variable (a0:Ty.d aq) (a1:List ByteArray)
def K0:Ex→St→Rs:=bW (E k) (eK (E k) Tryz.f121 (C k) (a0,a1,())) [.blk 0,.code (bV Tryz.f121 3 7)]
def V0 (n0:Nat):T0:=fun x0 x1 x2 x3 x4 x5 x6 x7 x8 x9 x10 x11=>ag (bC (E k) (bV Tryz.f121 6 11)) (ae 1 [0,4,18,19,20]) (K0 k a0 a1) n0 (mk 47 3 [(0,.ptr 0 0 0),(4,.ptr 2 0 0),(18,.sl true .str x0),(19,.int .i64 x1),(20,.int .i64 x2)] [(1,.own false aD x3),(0,.box [.ref 1,.int .i64 x4,.int .i64 x5,.bool x6,.int .i64 x7]),(2,.box [.ref 1,.int .i64 x8,.int .i64 x9,.bool x10,.int .i64 x11])])
def V1 (n0:Nat):T1:=fun x0 x1 x2 x3 x4 x5 x6 x7 x8 x9 x10 x11=>ag (bC (E k) (bV Tryz.f121 6 11)) (ae 1 [0,4,18,19,20]) (K0 k a0 a1) n0 (mk 47 3 [(0,.ptr 0 0 0),(4,.ptr 1 0 0),(18,.sl true .str x0),(19,.int .i64 x1),(20,.int .i64 x2)] [(0,.box [.junk,.int .i64 x3,.int .i64 x4,.bool x5,.int .i64 x6]),(2,.own false aD x7),(1,.box [.ref 2,.int .i64 x8,.int .i64 x9,.bool x10,.int .i64 x11])])
theorem e1:V1 k a0 a1=l1 k:=aM (b:=b1 k) rfl (fun _=>by kernel_rfl) fun _=>rfl
theorem e0 (n0:Nat):V0 k a0 a1 n0=l0 k n0:=by
 induction n0 with
 | zero=>rfl
 | succ n0 ih =>
  have h:V0 k a0 a1 (n0+1)=b0 k (V1 k a0 a1 n0):=by kernel_rfl
  rw [h,e1]
  rfl
end
theorem ctr:Cp 121 (C k):=ry (D k) (E:=E k) rfl rfl Tryz.func121 rfl fun ⟨a0,a1,_⟩=>(show _=t k (V0 k a0 a1 k) a0 a1 by kernel_rfl).trans (by rw [e0];rfl)
end fS
namespace jM
def C:Cn:=⟨[.io true 0 aF,.io true 0 aq,.val (.slice aD)],[],true,false,fun x=>f k x.1 x.2.1 x.2.2.1⟩
def D:List Ce:=[q (ox.ctr k),q (g9.ctr k),q (gU.ctr k),q (dV.ctr k),q (ak.ctr k),q (fV.ctr k),q (fS.ctr k),q (bu.ctr k)]
def E:gD:=en (D k) [(12,[1,85,86,87])] 2 [] k
section
variable (a0:Ty.d aF) (a1:Ty.d aq) (a2:List (Ty.d aD))
def K0:Ex→St→Rs:=bW (E k) (eK (E k) Tryz.f72 (C k) (a0,a1,a2,())) [.blk 0]
def V0 (n0:Nat):T0:=fun x0 x1 x2 x3 x4 x5 x6 x7 x8 x9 x10 x11 x12 x13=>ag (bC (E k) (bV Tryz.f72 12 1023)) (ae 2 [1,85,86,87]) (K0 k a0 a1 a2) n0 (mk 100 6 [(1,.ptr 1 0 0),(85,.ref 5),(86,.int .i64 x0),(87,.int .i64 x1)] [(2,.own false (.int .i64) x2),(3,.own false a_ x3),(0,.box [.int .i64 x4,.ref 2,.ref 3,.int .i64 x5,.int .i64 x6,.int .i64 x7]),(4,.own false aD x8),(1,.box [.ref 4,.int .i64 x9,.int .i64 x10,.bool x11,.int .i64 x12]),(5,.own false (.int .i64) x13)])
theorem e0:V0 k a0 a1 a2=l0 k:=aM (b:=b0 k) rfl (fun _=>by kernel_rfl) fun _=>rfl
end
theorem ctr:Cp 72 (C k):=ry (D k) (E:=E k) rfl rfl Tryz.func72 rfl fun ⟨a0,a1,a2,_⟩=>(show _=t k (V0 k a0 a1 a2 k) a0 a1 a2 by kernel_rfl).trans (by rw [e0];rfl)
end jM
namespace nD
def C:Cn:=⟨[.val aF,.val aB],[aF,aB,(.int .i64)],true,false,fun x=>f k x.1 x.2.1⟩
def D:List Ce:=[q (dA.ctr k),q (bD.ctr k),q (qB.ctr k),q (cQ.ctr k),q (jM.ctr k)]
theorem ctr:Cp 45 (C k):=rz k rfl (D k) Tryz.func45 rfl fun _=>by kernel_rfl
end nD
namespace kK
def C:Cn:=⟨[.val (.slice an),.val az],[.bool],true,false,fun x=>f k x.1 x.2.1⟩
def D:List Ce:=[q (ap.ctr k)]
theorem ctr:Cp 73 (C k):=rz k rfl (D k) Tryz.func73 rfl fun _=>by kernel_rfl
end kK
namespace eT
def C:Cn:=⟨[.val an,.val .str],[aY,.bool],true,false,fun x=>f k x.1 x.2.1⟩
def E:gD:=en [] [(2,[1,2,4,6])] 0 [] k
section
variable (a0:Ty.d an) (a1:ByteArray)
def K0:Ex→St→Rs:=bW (E k) (eK (E k) Tryz.f189 (C k) (a0,a1,())) [.blk 0,.code (bV Tryz.f189 2 3)]
def V0 (n0:Nat):T0:=fun x0 x1 x2 x3 x4 x5 x6 x7=>ag (bC (E k) (bV Tryz.f189 5 5)) (ae 0 [1,2,4,6]) (K0 k a0 a1) n0 (mk 29 2 [(1,.str x0),(2,.ptr 0 0 0),(4,.ptr 1 0 0),(6,.int .i64 x1)] [(0,.box [.bool x2,.sl true bG x3,.sl true aY x4]),(1,.box [.str x5,.bool x6,.str x7])])
theorem e0:V0 k a0 a1=l0 k:=aM (b:=b0 k) rfl (fun _=>by kernel_rfl) fun _=>rfl
end
theorem ctr:Cp 189 (C k):=ry [] (E:=E k) rfl rfl Tryz.func189 rfl fun ⟨a0,a1,_⟩=>(show _=t k (V0 k a0 a1 k) a0 a1 by kernel_rfl).trans (by rw [e0];rfl)
end eT
namespace om
def C:Cn:=⟨[.val an,.val .str],[bz,.bool],true,false,fun x=>f k x.1 x.2.1⟩
def D:List Ce:=[q (eT.ctr k)]
theorem ctr:Cp 125 (C k):=rz k rfl (D k) Tryz.func125 rfl fun _=>by kernel_rfl
end om
namespace fW
def C:Cn:=⟨[.val an,.val .str,.val (.int .i64)],[an,(.int .i64)],true,false,fun x=>f k x.1 x.2.1 x.2.2.1⟩
def D:List Ce:=[q (dt.ctr k),q (dZ.ctr k)]
def E:gD:=en (D k) [(6,[1,2,3,6,8,9,24,25,26])] 0 [] k
section
variable (a0:Ty.d an) (a1:ByteArray) (a2:Int)
def K0:Ex→St→Rs:=bW (E k) (eK (E k) Tryz.f190 (C k) (a0,a1,a2,())) [.blk 0,.code (bV Tryz.f190 5 31)]
def V0 (n0:Nat):T0:=fun x0 x1 x2 x3 x4 x5 x6 x7 x8 x9 x10 x11 x12 x13 x14=>ag (bC (E k) (bV Tryz.f190 8 47)) (ae 0 [1,2,3,6,8,9,24,25,26]) (K0 k a0 a1 a2) n0 (mk 56 7 [(1,.str x0),(2,.int .i64 x1),(3,.ptr 0 0 0),(6,.ptr 1 0 0),(8,.ptr 4 0 0),(9,.bool x2),(24,.sl true bG x3),(25,.int .i64 x4),(26,.int .i64 x5)] [(0,.box [.bool x6,.sl true bG x7,.sl true aY x8]),(2,.own false bG x9),(3,.own false aY x10),(1,.box [.bool x11,.ref 2,.ref 3]),(5,.own false bG x12),(6,.own false aY x13),(4,.box [.bool x14,.ref 5,.ref 6])])
theorem e0:V0 k a0 a1 a2=l0 k:=aM (b:=b0 k) rfl (fun _=>by kernel_rfl) fun _=>rfl
end
theorem ctr:Cp 190 (C k):=ry (D k) (E:=E k) rfl rfl Tryz.func190 rfl fun ⟨a0,a1,a2,_⟩=>(show _=t k (V0 k a0 a1 a2 k) a0 a1 a2 by kernel_rfl).trans (by rw [e0];rfl)
end fW
namespace nE
def C:Cn:=⟨[.val an,.val .str,.val aD,.val (.int .i64)],[an,bz],true,false,fun x=>f k x.1 x.2.1 x.2.2.1 x.2.2.2.1⟩
def D:List Ce:=[q (fW.ctr k)]
theorem ctr:Cp 126 (C k):=rz k rfl (D k) Tryz.func126 rfl fun _=>by kernel_rfl
end nE
namespace gN
def C:Cn:=⟨[.io true 0 aV,.val az],[bz],true,true,fun x=>f k x.1 x.2.1⟩
def D:List Ce:=[q (dZ.ctr k),q (om.ctr k),q (lx.ctr k),q (nE.ctr k)]
theorem ctr:Cp 74 (C k):=rz k rfl (D k) Tryz.func74 rfl fun _=>by kernel_rfl
end gN
namespace fg
def C:Cn:=⟨[.val aY],[.bool],true,false,fun x=>f k x.1⟩
def D:List Ce:=[q (dZ.ctr k)]
theorem ctr:Cp 128 (C k):=rz k rfl (D k) Tryz.func128 rfl fun _=>by kernel_rfl
end fg
namespace g7
def C:Cn:=⟨[.val (.slice aY)],[(.slice aY)],true,false,fun x=>f k x.1⟩
def E:gD:=en [] [(3,[3,9,10,11]),(7,[3,5,6,9,10,11,15,16,17])] 0 [] k
section
variable (a0:List (Ty.d aY))
def K0:Ex→St→Rs:=bW (E k) (eK (E k) Tryz.f133 (C k) (a0,())) [.blk 0,.code (bV Tryz.f133 3 7)]
def B0 (n0:Nat):Ex→St→Rs:=Ly (E k) (bV Tryz.f133 6 11) 0 [3,9,10,11] (K0 k a0) n0
def K1 (n0:Nat):Ex→St→Rs:=bW (E k) (B0 k a0 n0) [.blk 2,.code (bV Tryz.f133 13 7371),.blk 1,.code (bV Tryz.f133 9 459)]
def V0 (n0:Nat):T0:=fun x0 x1 x2 x3=>ag (bC (E k) (bV Tryz.f133 6 11)) (ae 0 [3,9,10,11]) (K0 k a0) n0 (mk 41 1 [(3,.ref 0),(9,.sl true aY x0),(10,.int .i64 x1),(11,.int .i64 x2)] [(0,.own false aY x3)])
def V1 (n0 n1:Nat):T1:=fun x0 x1 x2 x3 x4 x5 x6 x7 x8 x9=>ag (bC (E k) (bV Tryz.f133 16 11467)) (ae 0 [3,5,6,9,10,11,15,16,17]) (K1 k a0 n0) n1 (mk 41 2 [(3,.ref 0),(5,.ptr 1 0 0),(6,.int .i64 x0),(9,.sl true aY x1),(10,.int .i64 x2),(11,.int .i64 x3),(15,.ref 0),(16,.int .i64 x4),(17,.int .i64 x5)] [(0,.own false aY x6),(1,.box [.str x7,.bool x8,.str x9])])
theorem e1 (n0:Nat):V1 k a0 n0=l1 k (V0 k a0 n0):=aM (b:=b1 k (V0 k a0 n0)) rfl (fun _=>by kernel_rfl) fun _=>rfl
theorem e0 (n0:Nat):V0 k a0 n0=l0 k n0:=by
 induction n0 with
 | zero=>rfl
 | succ n0 ih =>
  have h:V0 k a0 (n0+1)=b0 k (V1 k a0 n0 k) (V0 k a0 n0):=by kernel_rfl
  rw [h,e1,ih]
  rfl
end
theorem ctr:Cp 133 (C k):=ry [] (E:=E k) rfl rfl Tryz.func133 rfl fun ⟨a0,_⟩=>(show _=t k (V0 k a0 k) a0 by kernel_rfl).trans (by rw [e0];rfl)
end g7
namespace fQ
def C:Cn:=⟨[.val an],[(.slice aY)],true,false,fun x=>f k x.1⟩
def D:List Ce:=[q (g7.ctr k)]
theorem ctr:Cp 78 (C k):=rz k rfl (D k) Tryz.func78 rfl fun _=>by kernel_rfl
end fQ
namespace iZ
def C:Cn:=⟨[.val an,.val aY],[an,.bool],true,false,fun x=>f k x.1 x.2.1⟩
def D:List Ce:=[q (dt.ctr k),q (fg.ctr k),q (fQ.ctr k)]
theorem ctr:Cp 127 (C k):=rz k rfl (D k) Tryz.func127 rfl fun _=>by kernel_rfl
end iZ
namespace kN
def C:Cn:=⟨[.val an,.val az],[an,bz],true,false,fun x=>f k x.1 x.2.1⟩
def D:List Ce:=[q (iZ.ctr k),q (fg.ctr k)]
theorem ctr:Cp 75 (C k):=rz k rfl (D k) Tryz.func75 rfl fun _=>by kernel_rfl
end kN
namespace gW
def C:Cn:=⟨[.val an,.val (.slice a_)],[.bool],true,false,fun x=>f k x.1 x.2.1⟩
def D:List Ce:=[q (fM.ctr k)]
def E:gD:=en (D k) [(2,[1,10,11,12])] 0 [] k
section
variable (a0:Ty.d an) (a1:List (Ty.d a_))
def K0:Ex→St→Rs:=bW (E k) (eK (E k) Tryz.f76 (C k) (a0,a1,())) [.blk 0,.code (bV Tryz.f76 2 3)]
def V0 (n0:Nat):T0:=fun x0 x1 x2 x3=>ag (bC (E k) (bV Tryz.f76 5 5)) (ae 0 [1,10,11,12]) (K0 k a0 a1) n0 (mk 29 0 [(1,.sl true a_ x0),(10,.sl true bG x1),(11,.int .i64 x2),(12,.int .i64 x3)] [])
theorem e0:V0 k a0 a1=l0 k:=aM (b:=b0 k) rfl (fun _=>by kernel_rfl) fun _=>rfl
end
theorem ctr:Cp 76 (C k):=ry (D k) (E:=E k) rfl rfl Tryz.func76 rfl fun ⟨a0,a1,_⟩=>(show _=t k (V0 k a0 a1 k) a0 a1 by kernel_rfl).trans (by rw [e0];rfl)
end gW
namespace fH
def C:Cn:=⟨[.val (.slice aY)],[.bool],true,false,fun x=>f k x.1⟩
def D:List Ce:=[q (fg.ctr k)]
def E:gD:=en (D k) [(2,[0,5,6,7])] 0 [] k
section
variable (a0:List (Ty.d aY))
def K0:Ex→St→Rs:=bW (E k) (eK (E k) Tryz.f130 (C k) (a0,())) [.blk 0,.code (bV Tryz.f130 2 3)]
def V0 (n0:Nat):T0:=fun x0 x1 x2 x3=>ag (bC (E k) (bV Tryz.f130 5 5)) (ae 0 [0,5,6,7]) (K0 k a0) n0 (mk 18 0 [(0,.sl true aY x0),(5,.sl true aY x1),(6,.int .i64 x2),(7,.int .i64 x3)] [])
theorem e0:V0 k a0=l0 k:=aM (b:=b0 k) rfl (fun _=>by kernel_rfl) fun _=>rfl
end
theorem ctr:Cp 130 (C k):=ry (D k) (E:=E k) rfl rfl Tryz.func130 rfl fun ⟨a0,_⟩=>(show _=t k (V0 k a0 k) a0 by kernel_rfl).trans (by rw [e0];rfl)
end fH
namespace mu
def C:Cn:=⟨[.val (.slice a_),.val (.slice aY),.val (.slice a_)],[(.slice a_)],false,true,fun x=>f k x.1 x.2.1 x.2.2.1⟩
def D:List Ce:=[q (gB.ctr k),q (ii.ctr k)]
def E:gD:=en (D k) [(2,[0,2,9,10,11])] 0 [] k
section
variable (a0:List (Ty.d a_)) (a1:List (Ty.d aY)) (a2:List (Ty.d a_))
def K0:Ex→St→Rs:=bW (E k) (eK (E k) Tryz.f191 (C k) (a0,a1,a2,())) [.blk 0,.code (bV Tryz.f191 2 3)]
def V0 (n0:Nat):T0:=fun x0 x1 x2 x3 x4=>ag (bC (E k) (bV Tryz.f191 5 5)) (ae 0 [0,2,9,10,11]) (K0 k a0 a1 a2) n0 (mk 30 0 [(0,.sl true a_ x0),(2,.sl true a_ x1),(9,.sl true aY x2),(10,.int .i64 x3),(11,.int .i64 x4)] [])
def V1 (n0:Nat):T1:=fun x0 x1 x2 x3 x4=>ag (bC (E k) (bV Tryz.f191 5 5)) (ae 0 [0,2,9,10,11]) (K0 k a0 a1 a2) n0 (mk 30 1 [(0,.ref 0),(2,.sl true a_ x0),(9,.sl true aY x1),(10,.int .i64 x2),(11,.int .i64 x3)] [(0,.own false a_ x4)])
theorem e1:V1 k a0 a1 a2=l1 k:=aM (b:=b1 k) rfl (fun _=>by kernel_rfl) fun _=>rfl
theorem e0 (n0:Nat):V0 k a0 a1 a2 n0=l0 k n0:=by
 induction n0 with
 | zero=>rfl
 | succ n0 ih =>
  have h:V0 k a0 a1 a2 (n0+1)=b0 k (V1 k a0 a1 a2 n0):=by kernel_rfl
  rw [h,e1]
  rfl
end
theorem ctr:Cp 191 (C k):=ry (D k) (E:=E k) rfl rfl Tryz.func191 rfl fun ⟨a0,a1,a2,_⟩=>(show _=t k (V0 k a0 a1 a2 k) a0 a1 a2 by kernel_rfl).trans (by rw [e0];rfl)
end mu
namespace lq
def C:Cn:=⟨[.val (.slice a_),.val (.slice aY)],[(.int .i64)],true,false,fun x=>f k x.1 x.2.1⟩
def D:List Ce:=[q (mu.ctr k)]
def E:gD:=en (D k) [(3,[0,1,5,8,9,10])] 0 [] k
section
variable (a0:List (Ty.d a_)) (a1:List (Ty.d aY))
def K0:Ex→St→Rs:=bW (E k) (eK (E k) Tryz.f131 (C k) (a0,a1,())) [.blk 0,.code (bV Tryz.f131 3 7)]
def V0 (n0:Nat):T0:=fun x0 x1 x2 x3 x4 x5=>ag (bC (E k) (bV Tryz.f131 6 11)) (ae 0 [0,1,5,8,9,10]) (K0 k a0 a1) n0 (mk 26 1 [(0,.sl true a_ x0),(1,.sl true aY x1),(5,.ref 0),(8,.sl true aY x2),(9,.int .i64 x3),(10,.int .i64 x4)] [(0,.own false a_ x5)])
theorem e0:V0 k a0 a1=l0 k:=aM (b:=b0 k) rfl (fun _=>by kernel_rfl) fun _=>rfl
end
theorem ctr:Cp 131 (C k):=ry (D k) (E:=E k) rfl rfl Tryz.func131 rfl fun ⟨a0,a1,_⟩=>(show _=t k (V0 k a0 a1 k) a0 a1 by kernel_rfl).trans (by rw [e0];rfl)
end lq
namespace lC
def C:Cn:=⟨[.val (.slice aY),.val (.int .i64)],[(.slice bA)],true,false,fun x=>f k x.1 x.2.1⟩
def D:List Ce:=[q (kS.ctr k)]
def E:gD:=en (D k) [(3,[0,1,5,8,9,10])] 0 [] k
section
variable (a0:List (Ty.d aY)) (a1:Int)
def K0:Ex→St→Rs:=bW (E k) (eK (E k) Tryz.f192 (C k) (a0,a1,())) [.blk 0,.code (bV Tryz.f192 3 7)]
def V0 (n0:Nat):T0:=fun x0 x1 x2 x3 x4 x5=>ag (bC (E k) (bV Tryz.f192 6 11)) (ae 0 [0,1,5,8,9,10]) (K0 k a0 a1) n0 (mk 42 1 [(0,.sl true aY x0),(1,.int .i64 x1),(5,.ref 0),(8,.sl true aY x2),(9,.int .i64 x3),(10,.int .i64 x4)] [(0,.own false bA x5)])
theorem e0:V0 k a0 a1=l0 k:=aM (b:=b0 k) rfl (fun _=>by kernel_rfl) fun _=>rfl
end
theorem ctr:Cp 192 (C k):=ry (D k) (E:=E k) rfl rfl Tryz.func192 rfl fun ⟨a0,a1,_⟩=>(show _=t k (V0 k a0 a1 k) a0 a1 by kernel_rfl).trans (by rw [e0];rfl)
end lC
namespace dD
def C:Cn:=⟨[.io true 0 aF],[.str],true,false,fun x=>f k x.1⟩
def D:List Ce:=[q (ak.ctr k)]
theorem ctr:Cp 194 (C k):=rz k rfl (D k) Tryz.func194 rfl fun _=>by kernel_rfl
end dD
namespace j7
def C:Cn:=⟨[.io true 0 aF,.io true 0 aq],[],true,false,fun x=>f k x.1 x.2.1⟩
def D:List Ce:=[q (dD.ctr k),q (cJ.ctr k),q (ak.ctr k),q (dz.ctr k),q (fv.ctr k),q (dV.ctr k),q (fS.ctr k)]
theorem ctr:Cp 233 (C k):=rz k rfl (D k) Tryz.func233 rfl fun _=>by kernel_rfl
end j7
namespace kY
def C:Cn:=⟨[.io true 0 aF,.io true 0 aq,.val bA],[a_],true,false,fun x=>f k x.1 x.2.1 x.2.2.1⟩
def D:List Ce:=[q (iX.ctr k),q (gZ.ctr k),q (j7.ctr k),q (dD.ctr k),q (dx.ctr k)]
theorem ctr:Cp 193 (C k):=rz k rfl (D k) Tryz.func193 rfl fun _=>by kernel_rfl
end kY
namespace lK
def C:Cn:=⟨[.give (.slice a_),.val (.slice aY),.val (.slice a_)],[(.slice a_)],true,false,fun x=>f k x.1 x.2.1 x.2.2.1⟩
def D:List Ce:=[q (gB.ctr k),q (ii.ctr k)]
def E:gD:=en (D k) [(2,[0,2,9,10,11])] 0 [] k
section
variable (a0:List (Ty.d a_)) (a1:List (Ty.d aY)) (a2:List (Ty.d a_))
def K0:Ex→St→Rs:=bW (E k) (eK (E k) Tryz.f191 (C k) (a0,a1,a2,())) [.blk 0,.code (bV Tryz.f191 2 3)]
def V0 (n0:Nat):T0:=fun x0 x1 x2 x3 x4=>ag (bC (E k) (bV Tryz.f191 5 5)) (ae 0 [0,2,9,10,11]) (K0 k a0 a1 a2) n0 (mk 30 1 [(0,.ref 0),(2,.sl true a_ x0),(9,.sl true aY x1),(10,.int .i64 x2),(11,.int .i64 x3)] [(0,.own false a_ x4)])
theorem e0:V0 k a0 a1 a2=l0 k:=aM (b:=b0 k) rfl (fun _=>by kernel_rfl) fun _=>rfl
end
theorem ctr:Cp 191 (C k):=ry (D k) (E:=E k) rfl rfl Tryz.func191 rfl fun ⟨a0,a1,a2,_⟩=>(show _=t k (V0 k a0 a1 a2 k) a0 a1 a2 by kernel_rfl).trans (by rw [e0];rfl)
end lK
namespace j4
def C:Cn:=⟨[.io true 0 aF,.io true 0 aq,.val (.slice aY)],[],true,false,fun x=>f k x.1 x.2.1 x.2.2.1⟩
def D:List Ce:=[q (lC.ctr k),q (kY.ctr k),q (dD.ctr k),q (cJ.ctr k),q (lK.ctr k)]
def E:gD:=en (D k) [(4,[0,1,2,7,24,25,26])] 2 [] k
section
variable (a0:Ty.d aF) (a1:Ty.d aq) (a2:List (Ty.d aY))
def K0:Ex→St→Rs:=bW (E k) (eK (E k) Tryz.f132 (C k) (a0,a1,a2,())) [.blk 0,.code (bV Tryz.f132 4 15)]
def V0 (n0:Nat):T0:=fun x0 x1 x2 x3 x4 x5 x6 x7 x8 x9 x10 x11 x12 x13 x14 x15=>ag (bC (E k) (bV Tryz.f132 7 23)) (ae 2 [0,1,2,7,24,25,26]) (K0 k a0 a1 a2) n0 (mk 63 7 [(0,.ptr 0 0 0),(1,.ptr 1 0 0),(2,.sl true aY x0),(7,.ref 5),(24,.ref 6),(25,.int .i64 x1),(26,.int .i64 x2)] [(2,.own false (.int .i64) x3),(3,.own false a_ x4),(0,.box [.int .i64 x5,.ref 2,.ref 3,.int .i64 x6,.int .i64 x7,.int .i64 x8]),(4,.own false aD x9),(1,.box [.ref 4,.int .i64 x10,.int .i64 x11,.bool x12,.int .i64 x13]),(5,.own false a_ x14),(6,.own false bA x15)])
theorem e0:V0 k a0 a1 a2=l0 k:=aM (b:=b0 k) rfl (fun _=>by kernel_rfl) fun _=>rfl
end
theorem ctr:Cp 132 (C k):=ry (D k) (E:=E k) rfl rfl Tryz.func132 rfl fun ⟨a0,a1,a2,_⟩=>(show _=t k (V0 k a0 a1 a2 k) a0 a1 a2 by kernel_rfl).trans (by rw [e0];rfl)
end j4
namespace jS
def C:Cn:=⟨[.val aF,.val aB,.val (.slice aY)],[aF,aB,(.int .i64)],true,false,fun x=>f k x.1 x.2.1 x.2.2.1⟩
def D:List Ce:=[q (dA.ctr k),q (bD.ctr k),q (cQ.ctr k),q (fH.ctr k),q (lq.ctr k),q (j4.ctr k)]
theorem ctr:Cp 77 (C k):=rz k rfl (D k) Tryz.func77 rfl fun _=>by kernel_rfl
end jS
namespace dW
def C:Cn:=⟨[.io true 0 aV,.val az],[bz],true,true,fun x=>f k x.1 x.2.1⟩
def D:List Ce:=[q (kK.ctr k),q (gN.ctr k),q (kN.ctr k),q (gW.ctr k),q (fQ.ctr k),q (jS.ctr k)]
theorem ctr:Cp 47 (C k):=rz k rfl (D k) Tryz.func47 rfl fun _=>by kernel_rfl
end dW
namespace gX
def C:Cn:=⟨[.io true 0 aV,.val az],[bz],true,true,fun x=>f k x.1 x.2.1⟩
def D:List Ce:=[q (jr.ctr k),q (mR.ctr k),q (ay.ctr k),q (ap.ctr k),q (nD.ctr k),q (dq.ctr k),q (dW.ctr k)]
theorem ctr:Cp 18 (C k):=rz k rfl (D k) Tryz.func18 rfl fun _=>by kernel_rfl
end gX
namespace fU
def C:Cn:=⟨[.val aV,.val az],[aV,bz],true,true,fun x=>f k x.1 x.2.1⟩
def D:List Ce:=[q (gk.ctr k),q (gX.ctr k)]
theorem ctr:Cp 7 (C k):=rz k rfl (D k) Tryz.func7 rfl fun _=>by kernel_rfl
end fU
namespace fY
def C:Cn:=⟨[.val bz,.val bz],[.bool],true,false,fun x=>f k x.1 x.2.1⟩
def E:gD:=en [] [(4,[2,3,5])] 0 [] k
section
variable (a0:Ty.d bz) (a1:Ty.d bz)
def K0:Ex→St→Rs:=bW (E k) (eK (E k) Tryz.f30 (C k) (a0,a1,())) [.blk 0,.code (bV Tryz.f30 3 7)]
def V0 (n0:Nat):T0:=fun x0 x1 x2 x3 x4 x5 x6=>ag (bC (E k) (bV Tryz.f30 6 11)) (ae 0 [2,3,5]) (K0 k a0 a1) n0 (mk 45 2 [(2,.ptr 0 0 0),(3,.ptr 1 0 0),(5,.int .i64 x0)] [(0,.box [.int .i64 x1,.str x2,.sl true .str x3]),(1,.box [.int .i64 x4,.str x5,.sl true .str x6])])
theorem e0:V0 k a0 a1=l0 k:=aM (b:=b0 k) rfl (fun _=>by kernel_rfl) fun _=>rfl
end
theorem ctr:Cp 30 (C k):=ry [] (E:=E k) rfl rfl Tryz.func30 rfl fun ⟨a0,a1,_⟩=>(show _=t k (V0 k a0 a1 k) a0 a1 by kernel_rfl).trans (by rw [e0];rfl)
end fY
namespace cZ
def C:Cn:=⟨[.val (.slice bz),.val (.slice bz)],[.bool],true,false,fun x=>f k x.1 x.2.1⟩
def D:List Ce:=[q (fY.ctr k)]
def E:gD:=en (D k) [(4,[0,1,5])] 0 [] k
section
variable (a0:List (Ty.d bz)) (a1:List (Ty.d bz))
def K0:Ex→St→Rs:=bW (E k) (eK (E k) Tryz.f9 (C k) (a0,a1,())) [.blk 0,.code (bV Tryz.f9 3 7)]
def V0 (n0:Nat):T0:=fun x0 x1 x2=>ag (bC (E k) (bV Tryz.f9 6 11)) (ae 0 [0,1,5]) (K0 k a0 a1) n0 (mk 27 0 [(0,.sl true bz x0),(1,.sl true bz x1),(5,.int .i64 x2)] [])
theorem e0:V0 k a0 a1=l0 k:=aM (b:=b0 k) rfl (fun _=>by kernel_rfl) fun _=>rfl
end
theorem ctr:Cp 9 (C k):=ry (D k) (E:=E k) rfl rfl Tryz.func9 rfl fun ⟨a0,a1,_⟩=>(show _=t k (V0 k a0 a1 k) a0 a1 by kernel_rfl).trans (by rw [e0];rfl)
end cZ
namespace df
def C:Cn:=⟨[.val aB,.val aB],[.bool],true,false,fun x=>f k x.1 x.2.1⟩
def E:gD:=en [] [(4,[2,3,5])] 0 [] k
section
variable (a0:Ty.d aB) (a1:Ty.d aB)
def K0:Ex→St→Rs:=bW (E k) (eK (E k) Tryz.f10 (C k) (a0,a1,())) [.blk 0,.code (bV Tryz.f10 3 7)]
def V0 (n0:Nat):T0:=fun x0 x1 x2 x3 x4 x5 x6 x7 x8=>ag (bC (E k) (bV Tryz.f10 6 11)) (ae 0 [2,3,5]) (K0 k a0 a1) n0 (mk 52 2 [(2,.ptr 0 0 0),(3,.ptr 1 0 0),(5,.int .i64 x0)] [(0,.box [.sl true aD x1,.int .i64 x2,.int .i64 x3,.bool x4]),(1,.box [.sl true aD x5,.int .i64 x6,.int .i64 x7,.bool x8])])
theorem e0:V0 k a0 a1=l0 k:=aM (b:=b0 k) rfl (fun _=>by kernel_rfl) fun _=>rfl
end
theorem ctr:Cp 10 (C k):=ry [] (E:=E k) rfl rfl Tryz.func10 rfl fun ⟨a0,a1,_⟩=>(show _=t k (V0 k a0 a1 k) a0 a1 by kernel_rfl).trans (by rw [e0];rfl)
end df
namespace dF
def C:Cn:=⟨[.val aF,.val aF],[.bool],true,false,fun x=>f k x.1 x.2.1⟩
def D:List Ce:=[q (eJ.ctr k)]
def E:gD:=en (D k) [(4,[2,3,5])] 0 [] k
section
variable (a0:Ty.d aF) (a1:Ty.d aF)
def K0:Ex→St→Rs:=bW (E k) (eK (E k) Tryz.f11 (C k) (a0,a1,())) [.blk 0,.code (bV Tryz.f11 3 7)]
def V0 (n0:Nat):T0:=fun x0 x1 x2 x3 x4 x5 x6 x7 x8 x9 x10 x11 x12=>ag (bC (E k) (bV Tryz.f11 6 11)) (ae 0 [2,3,5]) (K0 k a0 a1) n0 (mk 71 2 [(2,.ptr 0 0 0),(3,.ptr 1 0 0),(5,.int .i64 x0)] [(0,.box [.int .i64 x1,.sl true (.int .i64) x2,.sl true a_ x3,.int .i64 x4,.int .i64 x5,.int .i64 x6]),(1,.box [.int .i64 x7,.sl true (.int .i64) x8,.sl true a_ x9,.int .i64 x10,.int .i64 x11,.int .i64 x12])])
theorem e0:V0 k a0 a1=l0 k:=aM (b:=b0 k) rfl (fun _=>by kernel_rfl) fun _=>rfl
end
theorem ctr:Cp 11 (C k):=ry (D k) (E:=E k) rfl rfl Tryz.func11 rfl fun ⟨a0,a1,_⟩=>(show _=t k (V0 k a0 a1 k) a0 a1 by kernel_rfl).trans (by rw [e0];rfl)
end dF
namespace dc
def C:Cn:=⟨[.val (.slice (.int .u8))],[.bool],true,false,fun x=>f k x.1⟩
def D:List Ce:=[q (po.ctr k),q (eZ.ctr k),q (pM.ctr k),q (fU.ctr k),q (bn.ctr k),q (cZ.ctr k),q (df.ctr k),q (dF.ctr k)]
theorem ctr:Cp 3 (C k):=rz k rfl (D k) Tryz.func3 rfl fun _=>by kernel_rfl
end dc
end
end Go.Proofs.YthjppgafienaoaaGreatDoor.G

/- Functions keep their contracts. -/
import Derived.Test.YtijlgdoiofdmhaaGreatDoorVTab
import Derived.Test.YtijlgdoiofdmhaaGreatDoorFK
import Derived.Test.YtijlgdoiofdmhaaGreatDoorCLib
set_option linter.unusedVariables false
set_option maxRecDepth 100000
namespace Go.Proofs.YtijlgdoiofdmhaaGreatDoor.G
open Go.V
noncomputable section
variable (k:Nat)
namespace qz
def C:Cn:=⟨[.val (.slice (.int .u8))],[.bool],true,false,fun x=>f k x.1⟩
theorem ctr:Cp 4 (C k):=rz k rfl [] Tryz.func4 rfl fun _=>by kernel_rfl
end qz
namespace i7
def C:Cn:=⟨[.val (.slice (.int .u8))],[.opq,fm],false,true,fun x=>f k x.1⟩
def E:gq:=en [] [(3,[0,3,4])] 0 [] k
section
variable (a0:List Int)
def K0:Ex→St→Rs:=bi (E k) (eB (E k) Tryz.f10 (C k) (a0,())) [.blk 0,.code (bh Tryz.f10 3 7)]
def V0 (n0:Nat):T0:=fun x0 x1 x2=>an (bP (E k) (bh Tryz.f10 6 11)) (ae 0 [0,3,4]) (K0 k a0) n0 (mk 32 0 [(0,.sl true (.int .u8) x0),(3,.int .i64 x1),(4,.int .i64 x2)] [])
theorem e0:V0 k a0=l0 k:=aR (b:=b0 k) rfl (fun _=>by kernel_rfl) fun _=>rfl
end
theorem ctr:Cp 10 (C k):=Ob rfl rfl [] (E:=E k) rfl rfl Tryz.func10 rfl fun ⟨a0,_⟩=>(show _=t k (V0 k a0 k) a0 by kernel_rfl).trans (by rw [e0];rfl)
end i7
namespace fk
def C:Cn:=⟨[.io false 0 fm],[(.int .i64)],true,true,fun x=>f k x.1⟩
theorem ctr:Cp 27 (C k):=rz k rfl [] Tryz.func27 rfl fun _=>by kernel_rfl
end fk
namespace aj
def C:Cn:=⟨[.io false 0 fm,.val (.int .i64)],[(.int .i64)],true,true,fun x=>f k x.1 x.2.1⟩
def D:List Ce:=[q (fk.ctr k)]
theorem ctr:Cp 12 (C k):=rz k rfl (D k) Tryz.func12 rfl fun _=>by kernel_rfl
end aj
namespace aQ
def C:Cn:=⟨[.io false 0 fm,.val (.slice (.int .i64))],[(.int .i64)],true,true,fun x=>f k x.1 x.2.1⟩
def D:List Ce:=[q (aj.ctr k)]
theorem ctr:Cp 13 (C k):=rz k rfl (D k) Tryz.func13 rfl fun _=>by kernel_rfl
end aQ
namespace dF
def C:Cn:=⟨[.io false 0 fm,.val (.slice .str)],[.str],true,true,fun x=>f k x.1 x.2.1⟩
def D:List Ce:=[q (aj.ctr k)]
theorem ctr:Cp 80 (C k):=rz k rfl (D k) Tryz.func80 rfl fun _=>by kernel_rfl
end dF
namespace ja
def C:Cn:=⟨[.io false 0 fm],[.str],true,true,fun x=>f k x.1⟩
def D:List Ce:=[q (dF.ctr k)]
theorem ctr:Cp 78 (C k):=rz k rfl (D k) Tryz.func78 rfl fun _=>by kernel_rfl
end ja
namespace fi
def C:Cn:=⟨[.io false 0 fm,.val (.int .i64)],[.str],true,true,fun x=>f k x.1 x.2.1⟩
def D:List Ce:=[q (aj.ctr k),q (fk.ctr k)]
def E:gq:=en (D k) [(4,[0,5,6,7])] 1 [] k
section
variable (a0:Ty.d fm) (a1:Int)
def K0:Ex→St→Rs:=bi (E k) (eK (E k) Tryz.f79 (C k) (a0,a1,())) [.blk 0,.code (bh Tryz.f79 4 15)]
def V0 (n0:Nat):T0:=fun x0 x1 x2 x3 x4 x5=>an (bP (E k) (bh Tryz.f79 7 23)) (ae 1 [0,5,6,7]) (K0 k a0 a1) n0 (mk 38 2 [(0,.ptr 0 0 0),(5,.ref 1),(6,.int .i64 x0),(7,.int .i64 x1)] [(0,.box [.sl true (.int .u8) x2,.int .i64 x3,.int .i64 x4]),(1,.own false (.int .u8) x5)])
theorem e0:V0 k a0 a1=l0 k:=aR (b:=b0 k) rfl (fun _=>by kernel_rfl) fun _=>rfl
end
theorem ctr:Cp 79 (C k):=ry (D k) (E:=E k) rfl rfl Tryz.func79 rfl fun ⟨a0,a1,_⟩=>(show _=t k (V0 k a0 a1 k) a0 a1 by kernel_rfl).trans (by rw [e0];rfl)
end fi
namespace kE
def C:Cn:=⟨[.io false 0 fm],[aZ],true,true,fun x=>f k x.1⟩
def D:List Ce:=[q (aQ.ctr k),q (aj.ctr k),q (ja.ctr k),q (dF.ctr k),q (fi.ctr k)]
theorem ctr:Cp 40 (C k):=rz k rfl (D k) Tryz.func40 rfl fun _=>by kernel_rfl
end kE
namespace aS
def C:Cn:=⟨[.val (.int .i64),.val (.int .i64),.val (.int .i64)],[.bool],true,false,fun x=>f k x.1 x.2.1 x.2.2.1⟩
theorem ctr:Cp 20 (C k):=rz k rfl [] Tryz.func20 rfl fun _=>by kernel_rfl
end aS
namespace cy
def C:Cn:=⟨[.io false 0 fm,.val (.int .i64)],[.bool],true,true,fun x=>f k x.1 x.2.1⟩
def D:List Ce:=[q (aj.ctr k)]
theorem ctr:Cp 14 (C k):=rz k rfl (D k) Tryz.func14 rfl fun _=>by kernel_rfl
end cy
namespace fR
def C:Cn:=⟨[.io false 0 fm,.val (.int .i64)],[(.slice aZ)],true,true,fun x=>f k x.1 x.2.1⟩
def D:List Ce:=[q (aj.ctr k),q (kE.ctr k),q (aS.ctr k),q (cy.ctr k)]
def E:gq:=en (D k) [(4,[0,5,6,7])] 1 [] k
section
variable (a0:Ty.d fm) (a1:Int)
def K0:Ex→St→Rs:=bi (E k) (eK (E k) Tryz.f26 (C k) (a0,a1,())) [.blk 0,.code (bh Tryz.f26 4 15)]
def V0 (n0:Nat):T0:=fun x0 x1 x2 x3 x4 x5=>an (bP (E k) (bh Tryz.f26 7 23)) (ae 1 [0,5,6,7]) (K0 k a0 a1) n0 (mk 85 3 [(0,.ptr 0 0 0),(5,.ref 1),(6,.ref 2),(7,.int .i64 x0)] [(0,.box [.sl true (.int .u8) x1,.int .i64 x2,.int .i64 x3]),(1,.own false aZ x4),(2,.own false .bool x5)])
theorem e0:V0 k a0 a1=l0 k:=aR (b:=b0 k) rfl (fun _=>by kernel_rfl) fun _=>rfl
end
theorem ctr:Cp 26 (C k):=ry (D k) (E:=E k) rfl rfl Tryz.func26 rfl fun ⟨a0,a1,_⟩=>(show _=t k (V0 k a0 a1 k) a0 a1 by kernel_rfl).trans (by rw [e0];rfl)
end fR
namespace im
def C:Cn:=⟨[.io false 0 fm,.val (.int .i64)],[kQ],true,true,fun x=>f k x.1 x.2.1⟩
def D:List Ce:=[q (fR.ctr k),q (aj.ctr k)]
theorem ctr:Cp 11 (C k):=rz k rfl (D k) Tryz.func11 rfl fun _=>by kernel_rfl
end im
namespace jQ
def C:Cn:=⟨[.val (.slice (.int .u8))],[kQ],true,false,fun x=>f k x.1⟩
def D:List Ce:=[q (i7.ctr k),q (im.ctr k),q (aj.ctr k),q (cy.ctr k),q (aQ.ctr k)]
theorem ctr:Cp 5 (C k):=rz k rfl (D k) Tryz.func5 rfl fun _=>by kernel_rfl
end jQ
namespace qI
def C:Cn:=⟨[.val (.slice (.int .u8)),.val (.int .i64)],[(.int .i64)],true,false,fun x=>f k x.1 x.2.1⟩
theorem ctr:Cp 6 (C k):=rz k rfl [] Tryz.func6 rfl fun _=>by kernel_rfl
end qI
namespace ab
def C:Cn:=⟨[.val (.int .i64),.val (.int .i64),.val (.int .i64)],[.bool],true,false,fun x=>f k x.1 x.2.1 x.2.2.1⟩
theorem ctr:Cp 15 (C k):=rz k rfl [] Tryz.func15 rfl fun _=>by kernel_rfl
end ab
namespace k0
def C:Cn:=⟨[.val (.int .i64)],[aA],true,false,fun x=>f k x.1⟩
def D:List Ce:=[q (ab.ctr k)]
theorem ctr:Cp 18 (C k):=rz k rfl (D k) Tryz.func18 rfl fun _=>by kernel_rfl
end k0
namespace bE
def C:Cn:=⟨[.val aA],[aA],true,false,fun x=>f k x.1⟩
theorem ctr:Cp 29 (C k):=rz k rfl [] Tryz.func29 rfl fun _=>by kernel_rfl
end bE
namespace fA
def C:Cn:=⟨[.val .str],[.bool],true,false,fun x=>f k x.1⟩
def D:List Ce:=[q (ab.ctr k)]
def E:gq:=en (D k) [(2,[0,3])] 0 [] k
section
variable (a0:ByteArray)
def K0:Ex→St→Rs:=bi (E k) (eK (E k) Tryz.f44 (C k) (a0,())) [.blk 0,.code (bh Tryz.f44 2 3)]
def V0 (n0:Nat):T0:=fun x0 x1=>an (bP (E k) (bh Tryz.f44 5 5)) (ae 0 [0,3]) (K0 k a0) n0 (mk 37 0 [(0,.str x0),(3,.int .i64 x1)] [])
theorem e0:V0 k a0=l0 k:=aR (b:=b0 k) rfl (fun _=>by kernel_rfl) fun _=>rfl
end
theorem ctr:Cp 44 (C k):=ry (D k) (E:=E k) rfl rfl Tryz.func44 rfl fun ⟨a0,_⟩=>(show _=t k (V0 k a0 k) a0 by kernel_rfl).trans (by rw [e0];rfl)
end fA
namespace b8
def C:Cn:=⟨[.val aA],[.bool],true,false,fun x=>f k x.1⟩
def D:List Ce:=[q (ab.ctr k),q (fA.ctr k)]
def E:gq:=en (D k) [(5,[1,3,23,24,25])] 0 [] k
section
variable (a0:Ty.d aA)
def K0:Ex→St→Rs:=bi (E k) (eK (E k) Tryz.f30 (C k) (a0,())) [.blk 0,.code (bh Tryz.f30 4 15)]
def V0 (n0:Nat):T0:=fun x0 x1 x2 x3 x4 x5 x6 x7=>an (bP (E k) (bh Tryz.f30 7 23)) (ae 0 [1,3,23,24,25]) (K0 k a0) n0 (mk 69 1 [(1,.ptr 0 0 0),(3,.int .i64 x0),(23,.sl true aE x1),(24,.int .i64 x2),(25,.int .i64 x3)] [(0,.box [.sl true aE x4,.int .i64 x5,.int .i64 x6,.bool x7])])
theorem e0:V0 k a0=l0 k:=aR (b:=b0 k) rfl (fun _=>by kernel_rfl) fun _=>rfl
end
theorem ctr:Cp 30 (C k):=ry (D k) (E:=E k) rfl rfl Tryz.func30 rfl fun ⟨a0,_⟩=>(show _=t k (V0 k a0 k) a0 by kernel_rfl).trans (by rw [e0];rfl)
end b8
namespace jS
def C:Cn:=⟨[.val aA,.val (.int .i64)],[aA],true,false,fun x=>f k x.1 x.2.1⟩
def D:List Ce:=[q (bE.ctr k),q (b8.ctr k),q (ab.ctr k)]
theorem ctr:Cp 17 (C k):=rz k rfl (D k) Tryz.func17 rfl fun _=>by kernel_rfl
end jS
namespace ba
def C:Cn:=⟨[.val aA,.val .str],[(.int .i64)],true,false,fun x=>f k x.1 x.2.1⟩
def E:gq:=en [] [(2,[1,8,9,10])] 0 [] k
section
variable (a0:Ty.d aA) (a1:ByteArray)
def K0:Ex→St→Rs:=bi (E k) (eK (E k) Tryz.f81 (C k) (a0,a1,())) [.blk 0,.code (bh Tryz.f81 2 3)]
def V0 (n0:Nat):T0:=fun x0 x1 x2 x3=>an (bP (E k) (bh Tryz.f81 5 5)) (ae 0 [1,8,9,10]) (K0 k a0 a1) n0 (mk 21 0 [(1,.str x0),(8,.sl true aE x1),(9,.int .i64 x2),(10,.int .i64 x3)] [])
theorem e0:V0 k a0 a1=l0 k:=aR (b:=b0 k) rfl (fun _=>by kernel_rfl) fun _=>rfl
end
theorem ctr:Cp 81 (C k):=ry [] (E:=E k) rfl rfl Tryz.func81 rfl fun ⟨a0,a1,_⟩=>(show _=t k (V0 k a0 a1 k) a0 a1 by kernel_rfl).trans (by rw [e0];rfl)
end ba
namespace bq
def C:Cn:=⟨[.val aA,.val .str],[.str,.bool],true,false,fun x=>f k x.1 x.2.1⟩
def D:List Ce:=[q (ba.ctr k),q (b8.ctr k)]
theorem ctr:Cp 41 (C k):=rz k rfl (D k) Tryz.func41 rfl fun _=>by kernel_rfl
end bq
namespace dK
def C:Cn:=⟨[.val .str],[(.int .i64),(.int .i64)],true,false,fun x=>f k x.1⟩
def E:gq:=en [] [(3,[0,4,5])] 0 [] k
section
variable (a0:ByteArray)
def K0:Ex→St→Rs:=bi (E k) (eK (E k) Tryz.f198 (C k) (a0,())) [.blk 0,.code (bh Tryz.f198 3 7)]
def V0 (n0:Nat):T0:=fun x0 x1 x2=>an (bP (E k) (bh Tryz.f198 6 11)) (ae 0 [0,4,5]) (K0 k a0) n0 (mk 39 0 [(0,.str x0),(4,.int .i64 x1),(5,.int .i64 x2)] [])
theorem e0:V0 k a0=l0 k:=aR (b:=b0 k) rfl (fun _=>by kernel_rfl) fun _=>rfl
end
theorem ctr:Cp 198 (C k):=ry [] (E:=E k) rfl rfl Tryz.func198 rfl fun ⟨a0,_⟩=>(show _=t k (V0 k a0 k) a0 by kernel_rfl).trans (by rw [e0];rfl)
end dK
namespace gN
def C:Cn:=⟨[.val (.int .i64)],[.str],true,false,fun x=>f k x.1⟩
def D:List Ce:=[q (ab.ctr k)]
def E:gq:=en (D k) [(4,[0,3])] 0 [] k
section
variable (a0:Int)
def K0:Ex→St→Rs:=bi (E k) (eK (E k) Tryz.f246 (C k) (a0,())) [.blk 0,.code (bh Tryz.f246 4 15)]
def V0 (n0:Nat):T0:=fun x0 x1=>an (bP (E k) (bh Tryz.f246 6 7)) (ae 0 [0,3]) (K0 k a0) n0 (mk 24 1 [(0,.int .i64 x0),(3,.ref 0)] [(0,.own false (.int .u8) x1)])
theorem e0:V0 k a0=l0 k:=aR (b:=b0 k) rfl (fun _=>by kernel_rfl) fun _=>rfl
end
theorem ctr:Cp 246 (C k):=ry (D k) (E:=E k) rfl rfl Tryz.func246 rfl fun ⟨a0,_⟩=>(show _=t k (V0 k a0 k) a0 by kernel_rfl).trans (by rw [e0];rfl)
end gN
namespace ez
def C:Cn:=⟨[.val .str],[.str],true,false,fun x=>f k x.1⟩
def D:List Ce:=[q (gN.ctr k)]
theorem ctr:Cp 235 (C k):=rz k rfl (D k) Tryz.func235 rfl fun _=>by kernel_rfl
end ez
namespace gy
def C:Cn:=⟨[.val .str],[(.int .i64)],true,false,fun x=>f k x.1⟩
def E:gq:=en [] [(3,[0,3,4]),(7,[0,3,4,18])] 0 [] k
section
variable (a0:ByteArray)
def K0:Ex→St→Rs:=bi (E k) (eK (E k) Tryz.f237 (C k) (a0,())) [.blk 0,.code (bh Tryz.f237 3 7)]
def B0 (n0:Nat):Ex→St→Rs:=NQ (E k) (bh Tryz.f237 6 11) 0 [0,3,4] (K0 k a0) n0
def K1 (n0:Nat):Ex→St→Rs:=bi (E k) (B0 k a0 n0) [.blk 2,.blk 1,.code (bh Tryz.f237 8 203)]
def V0 (n0:Nat):T0:=fun x0 x1 x2=>an (bP (E k) (bh Tryz.f237 6 11)) (ae 0 [0,3,4]) (K0 k a0) n0 (mk 32 0 [(0,.str x0),(3,.int .u32 x1),(4,.int .i64 x2)] [])
def V1 (n0 n1:Nat):T1:=fun x0 x1 x2 x3=>an (bP (E k) (bh Tryz.f237 13 1611)) (ae 0 [0,3,4,18]) (K1 k a0 n0) n1 (mk 32 0 [(0,.str x0),(3,.int .u32 x1),(4,.int .i64 x2),(18,.int .i64 x3)] [])
theorem e1 (n0:Nat):V1 k a0 n0=l1 k (V0 k a0 n0):=aR (b:=b1 k (V0 k a0 n0)) rfl (fun _=>by kernel_rfl) fun _=>rfl
theorem e0 (n0:Nat):V0 k a0 n0=l0 k n0:=by
 induction n0 with
 | zero=>rfl
 | succ n0 ih =>
  have h:V0 k a0 (n0+1)=b0 k (V1 k a0 n0 k) (V0 k a0 n0):=by kernel_rfl
  rw [h,e1,ih];rfl
end
theorem ctr:Cp 237 (C k):=ry [] (E:=E k) rfl rfl Tryz.func237 rfl fun ⟨a0,_⟩=>(show _=t k (V0 k a0 k) a0 by kernel_rfl).trans (by rw [e0];rfl)
end gy
namespace eF
def C:Cn:=⟨[.val (.int .i64),.val (.int .i64)],[.str],true,false,fun x=>f k x.1 x.2.1⟩
def D:List Ce:=[q (ab.ctr k)]
def E:gq:=en (D k) [(5,[0,5,6])] 0 [] k
section
variable (a0:Int) (a1:Int)
def K0:Ex→St→Rs:=bi (E k) (eK (E k) Tryz.f236 (C k) (a0,a1,())) [.blk 0,.code (bh Tryz.f236 4 15)]
def V0 (n0:Nat):T0:=fun x0 x1 x2=>an (bP (E k) (bh Tryz.f236 7 23)) (ae 0 [0,5,6]) (K0 k a0 a1) n0 (mk 35 1 [(0,.int .i64 x0),(5,.ref 0),(6,.int .i64 x1)] [(0,.own false (.int .u8) x2)])
theorem e0:V0 k a0 a1=l0 k:=aR (b:=b0 k) rfl (fun _=>by kernel_rfl) fun _=>rfl
end
theorem ctr:Cp 236 (C k):=ry (D k) (E:=E k) rfl rfl Tryz.func236 rfl fun ⟨a0,a1,_⟩=>(show _=t k (V0 k a0 a1 k) a0 a1 by kernel_rfl).trans (by rw [e0];rfl)
end eF
namespace i_
def C:Cn:=⟨[.val .str],[.str],true,false,fun x=>f k x.1⟩
def D:List Ce:=[q (ez.ctr k),q (gy.ctr k),q (eF.ctr k)]
theorem ctr:Cp 199 (C k):=rz k rfl (D k) Tryz.func199 rfl fun _=>by kernel_rfl
end i_
namespace eS
def C:Cn:=⟨[.val .str],[.str,(.int .i64)],true,false,fun x=>f k x.1⟩
def D:List Ce:=[q (dK.ctr k),q (i_.ctr k)]
theorem ctr:Cp 133 (C k):=rz k rfl (D k) Tryz.func133 rfl fun _=>by kernel_rfl
end eS
namespace aL
def C:Cn:=⟨[.io true 0 nO],[(.int .i64)],true,false,fun x=>f k x.1⟩
def D:List Ce:=[q (dK.ctr k)]
theorem ctr:Cp 134 (C k):=rz k rfl (D k) Tryz.func134 rfl fun _=>by kernel_rfl
end aL
namespace dR
def C:Cn:=⟨[.val bL],[.bool],true,false,fun x=>f k x.1⟩
def D:List Ce:=[q (ab.ctr k)]
def E:gq:=en (D k) [(2,[1,6,7,8])] 0 [] k
section
variable (a0:Ty.d bL)
def K0:Ex→St→Rs:=bi (E k) (eK (E k) Tryz.f135 (C k) (a0,())) [.blk 0,.code (bh Tryz.f135 2 3)]
def V0 (n0:Nat):T0:=fun x0 x1 x2 x3 x4=>an (bP (E k) (bh Tryz.f135 5 5)) (ae 0 [1,6,7,8]) (K0 k a0) n0 (mk 43 1 [(1,.ptr 0 0 0),(6,.sl true (.int .i64) x0),(7,.int .i64 x1),(8,.int .i64 x2)] [(0,.box [.int .i64 x3,.sl true (.int .i64) x4])])
theorem e0:V0 k a0=l0 k:=aR (b:=b0 k) rfl (fun _=>by kernel_rfl) fun _=>rfl
end
theorem ctr:Cp 135 (C k):=ry (D k) (E:=E k) rfl rfl Tryz.func135 rfl fun ⟨a0,_⟩=>(show _=t k (V0 k a0 k) a0 by kernel_rfl).trans (by rw [e0];rfl)
end dR
namespace bA
def C:Cn:=⟨[.val .str],[bL,.bool],true,false,fun x=>f k x.1⟩
def D:List Ce:=[q (eS.ctr k),q (aL.ctr k),q (dR.ctr k)]
def E:gq:=en (D k) [(6,[0,2,5,6,7,8,9])] 0 [] k
section
variable (a0:ByteArray)
def K0:Ex→St→Rs:=bi (E k) (eK (E k) Tryz.f82 (C k) (a0,())) [.blk 0,.code (bh Tryz.f82 6 63)]
def V0 (n0:Nat):T0:=fun x0 x1 x2 x3 x4 x5 x6 x7 x8 x9=>an (bP (E k) (bh Tryz.f82 9 95)) (ae 0 [0,2,5,6,7,8,9]) (K0 k a0) n0 (mk 72 5 [(0,.str x0),(2,.ptr 0 0 0),(5,.int .i64 x1),(6,.ptr 2 0 0),(7,.ptr 3 0 0),(8,.int .i64 x2),(9,.int .i64 x3)] [(1,.own false (.int .i64) x4),(0,.box [.int .i64 x5,.ref 1]),(2,.box [.str x6,.bool x7]),(4,.own false (.int .i64) x8),(3,.box [.int .i64 x9,.ref 4])])
theorem e0:V0 k a0=l0 k:=aR (b:=b0 k) rfl (fun _=>by kernel_rfl) fun _=>rfl
end
theorem ctr:Cp 82 (C k):=ry (D k) (E:=E k) rfl rfl Tryz.func82 rfl fun ⟨a0,_⟩=>(show _=t k (V0 k a0 k) a0 by kernel_rfl).trans (by rw [e0];rfl)
end bA
namespace oI
def C:Cn:=⟨[.val (.int .i64)],[.str],true,false,fun x=>f k x.1⟩
def D:List Ce:=[q (oO.ctr k)]
theorem ctr:Cp 201 (C k):=rz k rfl (D k) Tryz.func201 rfl fun _=>by kernel_rfl
end oI
namespace kG
def C:Cn:=⟨[.val .str,.val (.int .i64)],[.str],true,false,fun x=>f k x.1 x.2.1⟩
def D:List Ce:=[q (ab.ctr k),q (oI.ctr k)]
theorem ctr:Cp 138 (C k):=rz k rfl (D k) Tryz.func138 rfl fun _=>by kernel_rfl
end kG
namespace ar
def C:Cn:=⟨[.val (.int .i64)],[.str],true,false,fun x=>f k x.1⟩
def D:List Ce:=[q (kG.ctr k)]
theorem ctr:Cp 84 (C k):=rz k rfl (D k) Tryz.func84 rfl fun _=>by kernel_rfl
end ar
namespace ax
def C:Cn:=⟨[.io true 0 nO,.val (.int .i64)],[.str],true,false,fun x=>f k x.1 x.2.1⟩
theorem ctr:Cp 203 (C k):=rz k rfl [] Tryz.func203 rfl fun _=>by kernel_rfl
end ax
namespace aq
def C:Cn:=⟨[.io true 0 nO],[.str],true,false,fun x=>f k x.1⟩
def D:List Ce:=[q (aL.ctr k),q (ax.ctr k)]
theorem ctr:Cp 204 (C k):=rz k rfl (D k) Tryz.func204 rfl fun _=>by kernel_rfl
end aq
namespace eI
def C:Cn:=⟨[.val .str],[.bool],true,false,fun x=>f k x.1⟩
def D:List Ce:=[q (ab.ctr k)]
theorem ctr:Cp 163 (C k):=rz k rfl (D k) Tryz.func163 rfl fun _=>by kernel_rfl
end eI
namespace gl
def C:Cn:=⟨[.val bR],[.bool],true,false,fun x=>f k x.1⟩
def D:List Ce:=[q (eI.ctr k),q (ab.ctr k)]
theorem ctr:Cp 239 (C k):=rz k rfl (D k) Tryz.func239 rfl fun _=>by kernel_rfl
end gl
namespace cE
def C:Cn:=⟨[.val .str,.val (.int .i64)],[(.int .i64),.bool],true,false,fun x=>f k x.1 x.2.1⟩
def D:List Ce:=[q (ab.ctr k)]
def E:gq:=en (D k) [(5,[0,6,17,18])] 0 [] k
section
variable (a0:ByteArray) (a1:Int)
def K0:Ex→St→Rs:=bi (E k) (eK (E k) Tryz.f238 (C k) (a0,a1,())) [.blk 0,.code (bh Tryz.f238 4 15)]
def V0 (n0:Nat):T0:=fun x0 x1 x2 x3=>an (bP (E k) (bh Tryz.f238 7 23)) (ae 0 [0,6,17,18]) (K0 k a0 a1) n0 (mk 30 0 [(0,.str x0),(6,.int .i64 x1),(17,.int .i64 x2),(18,.int .i64 x3)] [])
theorem e0:V0 k a0 a1=l0 k:=aR (b:=b0 k) rfl (fun _=>by kernel_rfl) fun _=>rfl
end
theorem ctr:Cp 238 (C k):=ry (D k) (E:=E k) rfl rfl Tryz.func238 rfl fun ⟨a0,a1,_⟩=>(show _=t k (V0 k a0 a1 k) a0 a1 by kernel_rfl).trans (by rw [e0];rfl)
end cE
namespace dL
def C:Cn:=⟨[.val .str],[bR,.bool],true,false,fun x=>f k x.1⟩
def D:List Ce:=[q (aL.ctr k),q (aq.ctr k),q (gl.ctr k),q (ax.ctr k),q (cE.ctr k)]
theorem ctr:Cp 200 (C k):=rz k rfl (D k) Tryz.func200 rfl fun _=>by kernel_rfl
end dL
namespace dP
def C:Cn:=⟨[.val .str],[(.slice bU),(.int .i64)],true,false,fun x=>f k x.1⟩
def D:List Ce:=[q (eS.ctr k),q (dL.ctr k)]
def E:gq:=en (D k) [(3,[0,4,5])] 0 [] k
section
variable (a0:ByteArray)
def K0:Ex→St→Rs:=bi (E k) (eK (E k) Tryz.f136 (C k) (a0,())) [.blk 0]
def V0 (n0:Nat):T0:=fun x0 x1 x2=>an (bP (E k) (bh Tryz.f136 5 7)) (ae 0 [0,4,5]) (K0 k a0) n0 (mk 40 1 [(0,.str x0),(4,.ref 0),(5,.int .i64 x1)] [(0,.own false bU x2)])
theorem e0:V0 k a0=l0 k:=aR (b:=b0 k) rfl (fun _=>by kernel_rfl) fun _=>rfl
end
theorem ctr:Cp 136 (C k):=ry (D k) (E:=E k) rfl rfl Tryz.func136 rfl fun ⟨a0,_⟩=>(show _=t k (V0 k a0 k) a0 by kernel_rfl).trans (by rw [e0];rfl)
end dP
namespace fU
def C:Cn:=⟨[.val (.int .i64),.val (.slice bU)],[(.slice aD)],true,false,fun x=>f k x.1 x.2.1⟩
def E:gq:=en [] [(3,[0,5,8,9,10])] 0 [] k
section
variable (a0:Int) (a1:List (Ty.d bU))
def K0:Ex→St→Rs:=bi (E k) (eK (E k) Tryz.f137 (C k) (a0,a1,())) [.blk 0,.code (bh Tryz.f137 3 7)]
def V0 (n0:Nat):T0:=fun x0 x1 x2 x3 x4=>an (bP (E k) (bh Tryz.f137 6 11)) (ae 0 [0,5,8,9,10]) (K0 k a0 a1) n0 (mk 27 1 [(0,.int .i64 x0),(5,.ref 0),(8,.sl true bU x1),(9,.int .i64 x2),(10,.int .i64 x3)] [(0,.own false aD x4)])
theorem e0:V0 k a0 a1=l0 k:=aR (b:=b0 k) rfl (fun _=>by kernel_rfl) fun _=>rfl
end
theorem ctr:Cp 137 (C k):=ry [] (E:=E k) rfl rfl Tryz.func137 rfl fun ⟨a0,a1,_⟩=>(show _=t k (V0 k a0 a1 k) a0 a1 by kernel_rfl).trans (by rw [e0];rfl)
end fU
namespace bS
def C:Cn:=⟨[.io true 0 au,.val bL],[(.slice (.slice aD)),(.int .i64),.bool],true,false,fun x=>f k x.1 x.2.1⟩
def D:List Ce:=[q (ar.ctr k),q (bq.ctr k),q (dP.ctr k),q (fU.ctr k)]
def E:gq:=en (D k) [(4,[0,3,7,8,16,17,18])] 1 [] k
section
variable (a0:Ty.d au) (a1:Ty.d bL)
def K0:Ex→St→Rs:=bi (E k) (eK (E k) Tryz.f83 (C k) (a0,a1,())) [.blk 0,.code (bh Tryz.f83 4 15)]
def V0 (n0:Nat):T0:=fun x0 x1 x2 x3 x4 x5 x6 x7 x8 x9 x10 x11=>an (bP (E k) (bh Tryz.f83 7 23)) (ae 1 [0,3,7,8,16,17,18]) (K0 k a0 a1) n0 (mk 64 4 [(0,.ptr 0 0 0),(3,.ptr 2 0 0),(7,.ref 3),(8,.int .i64 x0),(16,.sl true (.int .i64) x1),(17,.int .i64 x2),(18,.int .i64 x3)] [(1,.own false aE x4),(0,.box [.ref 1,.int .i64 x5,.int .i64 x6,.bool x7,.int .i64 x8]),(2,.box [.int .i64 x9,.sl true (.int .i64) x10]),(3,.own false (.slice aD) x11)])
theorem e0:V0 k a0 a1=l0 k:=aR (b:=b0 k) rfl (fun _=>by kernel_rfl) fun _=>rfl
end
theorem ctr:Cp 83 (C k):=ry (D k) (E:=E k) rfl rfl Tryz.func83 rfl fun ⟨a0,a1,_⟩=>(show _=t k (V0 k a0 a1 k) a0 a1 by kernel_rfl).trans (by rw [e0];rfl)
end bS
namespace fK
def C:Cn:=⟨[.io true 0 aA,.io true 0 .str,.io true 0 (.int .i64)],[(.int .i64)],true,false,fun x=>f k x.1 x.2.1 x.2.2.1⟩
def D:List Ce:=[q (ba.ctr k),q (ab.ctr k)]
theorem ctr:Cp 141 (C k):=rz k rfl (D k) Tryz.func141 rfl fun _=>by kernel_rfl
end fK
namespace fg
def C:Cn:=⟨[.val aA,.fn 141 2,.io true 0 .str,.io true 0 (.int .i64)],[aA,(.int .i64)],true,false,fun x=>f k x.1 x.2.1 x.2.2.1⟩
def D:List Ce:=[q (bE.ctr k),q (b8.ctr k),q (fK.ctr k)]
theorem ctr:Cp 140 (C k):=rz k rfl (D k) Tryz.func140 rfl fun _=>by kernel_rfl
end fg
namespace jO
def C:Cn:=⟨[.val aA,.val .str,.val (.int .i64)],[aA,(.int .i64)],true,false,fun x=>f k x.1 x.2.1 x.2.2.1⟩
def D:List Ce:=[q (fg.ctr k)]
theorem ctr:Cp 86 (C k):=rz k rfl (D k) Tryz.func86 rfl fun _=>by kernel_rfl
end jO
namespace mg
def C:Cn:=⟨[.val (.int .i64)],[(.int .i64)],true,false,fun x=>f k x.1⟩
theorem ctr:Cp 139 (C k):=rz k rfl [] Tryz.func139 rfl fun _=>by kernel_rfl
end mg
namespace b_
def C:Cn:=⟨[.io true 0 au,.give aA,.val (.int .i64)],[],true,false,fun x=>f k x.1 x.2.1 x.2.2.1⟩
def D:List Ce:=[q (mg.ctr k)]
theorem ctr:Cp 85 (C k):=rz k rfl (D k) Tryz.func85 rfl fun _=>by kernel_rfl
end b_
namespace il
def C:Cn:=⟨[.io true 0 aA,.io true 0 .str],[(.int .i64)],true,false,fun x=>f k x.1 x.2.1⟩
def D:List Ce:=[q (ba.ctr k)]
theorem ctr:Cp 202 (C k):=rz k rfl (D k) Tryz.func202 rfl fun _=>by kernel_rfl
end il
namespace iR
def C:Cn:=⟨[.val aA,.fn 202 1,.io true 0 .str],[aA,(.int .i64)],true,false,fun x=>f k x.1 x.2.1⟩
def D:List Ce:=[q (bE.ctr k),q (b8.ctr k),q (il.ctr k)]
theorem ctr:Cp 140 (C k):=rz k rfl (D k) Tryz.func140 rfl fun _=>by kernel_rfl
end iR
namespace mr
def C:Cn:=⟨[.val aA,.val .str],[aA,(.int .i64)],true,false,fun x=>f k x.1 x.2.1⟩
def D:List Ce:=[q (iR.ctr k)]
theorem ctr:Cp 142 (C k):=rz k rfl (D k) Tryz.func142 rfl fun _=>by kernel_rfl
end mr
namespace bT
def C:Cn:=⟨[.io true 0 au,.val .str],[],true,false,fun x=>f k x.1 x.2.1⟩
def D:List Ce:=[q (mr.ctr k),q (b_.ctr k)]
theorem ctr:Cp 87 (C k):=rz k rfl (D k) Tryz.func87 rfl fun _=>by kernel_rfl
end bT
namespace di
def C:Cn:=⟨[.val (.int .i64)],[.str],true,false,fun x=>f k x.1⟩
def D:List Ce:=[q (kG.ctr k)]
theorem ctr:Cp 143 (C k):=rz k rfl (D k) Tryz.func143 rfl fun _=>by kernel_rfl
end di
namespace fF
def C:Cn:=⟨[.val (.slice a_)],[.bool],true,false,fun x=>f k x.1⟩
def D:List Ce:=[q (eI.ctr k),q (ab.ctr k)]
def E:gq:=en (D k) [(2,[0,5,6,7])] 0 [] k
section
variable (a0:List (Ty.d a_))
def K0:Ex→St→Rs:=bi (E k) (eK (E k) Tryz.f157 (C k) (a0,())) [.blk 0,.code (bh Tryz.f157 2 3)]
def V0 (n0:Nat):T0:=fun x0 x1 x2 x3=>an (bP (E k) (bh Tryz.f157 5 5)) (ae 0 [0,5,6,7]) (K0 k a0) n0 (mk 58 0 [(0,.sl true a_ x0),(5,.sl true a_ x1),(6,.int .i64 x2),(7,.int .i64 x3)] [])
theorem e0:V0 k a0=l0 k:=aR (b:=b0 k) rfl (fun _=>by kernel_rfl) fun _=>rfl
end
theorem ctr:Cp 157 (C k):=ry (D k) (E:=E k) rfl rfl Tryz.func157 rfl fun ⟨a0,_⟩=>(show _=t k (V0 k a0 k) a0 by kernel_rfl).trans (by rw [e0];rfl)
end fF
namespace eZ
def C:Cn:=⟨[.val fV],[.bool],true,false,fun x=>f k x.1⟩
def D:List Ce:=[q (ab.ctr k),q (fF.ctr k)]
def E:gq:=en (D k) [(2,[1,6,7,8])] 0 [] k
section
variable (a0:Ty.d fV)
def K0:Ex→St→Rs:=bi (E k) (eK (E k) Tryz.f205 (C k) (a0,())) [.blk 0,.code (bh Tryz.f205 2 3)]
def V0 (n0:Nat):T0:=fun x0 x1 x2 x3 x4 x5=>an (bP (E k) (bh Tryz.f205 5 5)) (ae 0 [1,6,7,8]) (K0 k a0) n0 (mk 39 1 [(1,.ptr 0 0 0),(6,.sl true a_ x0),(7,.int .i64 x1),(8,.int .i64 x2)] [(0,.box [.int .i64 x3,.int .i64 x4,.sl true a_ x5])])
theorem e0:V0 k a0=l0 k:=aR (b:=b0 k) rfl (fun _=>by kernel_rfl) fun _=>rfl
end
theorem ctr:Cp 205 (C k):=ry (D k) (E:=E k) rfl rfl Tryz.func205 rfl fun ⟨a0,_⟩=>(show _=t k (V0 k a0 k) a0 by kernel_rfl).trans (by rw [e0];rfl)
end eZ
namespace dt
def C:Cn:=⟨[.val (.slice (.int .i64))],[.str],true,false,fun x=>f k x.1⟩
def D:List Ce:=[q (gN.ctr k)]
def E:gq:=en (D k) [(3,[3,6,7,8])] 0 [] k
section
variable (a0:List Int)
def K0:Ex→St→Rs:=bi (E k) (eK (E k) Tryz.f219 (C k) (a0,())) [.blk 0,.code (bh Tryz.f219 3 7)]
def V0 (n0:Nat):T0:=fun x0 x1 x2 x3=>an (bP (E k) (bh Tryz.f219 6 11)) (ae 0 [3,6,7,8]) (K0 k a0) n0 (mk 18 0 [(3,.str x0),(6,.sl true (.int .i64) x1),(7,.int .i64 x2),(8,.int .i64 x3)] [])
theorem e0:V0 k a0=l0 k:=aR (b:=b0 k) rfl (fun _=>by kernel_rfl) fun _=>rfl
end
theorem ctr:Cp 219 (C k):=ry (D k) (E:=E k) rfl rfl Tryz.func219 rfl fun ⟨a0,_⟩=>(show _=t k (V0 k a0 k) a0 by kernel_rfl).trans (by rw [e0];rfl)
end dt
namespace dN
def C:Cn:=⟨[.val fV],[.str],true,false,fun x=>f k x.1⟩
def D:List Ce:=[q (eZ.ctr k),q (dt.ctr k),q (ez.ctr k),q (gy.ctr k),q (eF.ctr k)]
def E:gq:=en (D k) [(5,[3,19,20,21])] 0 [] k
section
variable (a0:Ty.d fV)
def K0:Ex→St→Rs:=bi (E k) (eK (E k) Tryz.f206 (C k) (a0,())) [.blk 0,.code (bh Tryz.f206 4 15)]
def V0 (n0:Nat):T0:=fun x0 x1 x2 x3=>an (bP (E k) (bh Tryz.f206 7 23)) (ae 0 [3,19,20,21]) (K0 k a0) n0 (mk 47 0 [(3,.str x0),(19,.sl true a_ x1),(20,.int .i64 x2),(21,.int .i64 x3)] [])
theorem e0:V0 k a0=l0 k:=aR (b:=b0 k) rfl (fun _=>by kernel_rfl) fun _=>rfl
end
theorem ctr:Cp 206 (C k):=ry (D k) (E:=E k) rfl rfl Tryz.func206 rfl fun ⟨a0,_⟩=>(show _=t k (V0 k a0 k) a0 by kernel_rfl).trans (by rw [e0];rfl)
end dN
namespace bD
def C:Cn:=⟨[.val .str],[fV,.bool],true,false,fun x=>f k x.1⟩
def D:List Ce:=[q (ax.ctr k),q (aL.ctr k),q (aq.ctr k),q (eZ.ctr k),q (dN.ctr k)]
def E:gq:=en (D k) [(8,[0,2,4,5,6,7])] 0 [] k
section
variable (a0:ByteArray)
def K0:Ex→St→Rs:=bi (E k) (eK (E k) Tryz.f144 (C k) (a0,())) [.blk 0,.code (bh Tryz.f144 8 255)]
def V0 (n0:Nat):T0:=fun x0 x1 x2 x3 x4 x5 x6 x7 x8 x9 x10=>an (bP (E k) (bh Tryz.f144 11 383)) (ae 0 [0,2,4,5,6,7]) (K0 k a0) n0 (mk 72 5 [(0,.str x0),(2,.ptr 0 0 0),(4,.ptr 2 0 0),(5,.ptr 3 0 0),(6,.int .i64 x1),(7,.int .i64 x2)] [(1,.own false a_ x3),(0,.box [.int .i64 x4,.int .i64 x5,.ref 1]),(2,.box [.str x6,.bool x7]),(4,.own false a_ x8),(3,.box [.int .i64 x9,.int .i64 x10,.ref 4])])
theorem e0:V0 k a0=l0 k:=aR (b:=b0 k) rfl (fun _=>by kernel_rfl) fun _=>rfl
end
theorem ctr:Cp 144 (C k):=ry (D k) (E:=E k) rfl rfl Tryz.func144 rfl fun ⟨a0,_⟩=>(show _=t k (V0 k a0 k) a0 by kernel_rfl).trans (by rw [e0];rfl)
end bD
namespace gg
def C:Cn:=⟨[.val bR],[.str],true,false,fun x=>f k x.1⟩
def D:List Ce:=[q (gl.ctr k),q (dt.ctr k),q (ez.ctr k),q (gN.ctr k),q (eF.ctr k)]
theorem ctr:Cp 221 (C k):=rz k rfl (D k) Tryz.func221 rfl fun _=>by kernel_rfl
end gg
namespace gk
def C:Cn:=⟨[.val (.slice bR)],[(.int .i64)],true,false,fun x=>f k x.1⟩
def D:List Ce:=[q (gg.ctr k),q (gy.ctr k)]
def E:gq:=en (D k) [(3,[3,6,7,8])] 0 [] k
section
variable (a0:List (Ty.d bR))
def K0:Ex→St→Rs:=bi (E k) (eK (E k) Tryz.f209 (C k) (a0,())) [.blk 0,.code (bh Tryz.f209 3 7)]
def V0 (n0:Nat):T0:=fun x0 x1 x2 x3=>an (bP (E k) (bh Tryz.f209 6 11)) (ae 0 [3,6,7,8]) (K0 k a0) n0 (mk 19 0 [(3,.str x0),(6,.sl true bR x1),(7,.int .i64 x2),(8,.int .i64 x3)] [])
theorem e0:V0 k a0=l0 k:=aR (b:=b0 k) rfl (fun _=>by kernel_rfl) fun _=>rfl
end
theorem ctr:Cp 209 (C k):=ry (D k) (E:=E k) rfl rfl Tryz.func209 rfl fun ⟨a0,_⟩=>(show _=t k (V0 k a0 k) a0 by kernel_rfl).trans (by rw [e0];rfl)
end gk
namespace iF
def C:Cn:=⟨[.val bR,.val (.slice aD)],[.bool],true,false,fun x=>f k x.1 x.2.1⟩
def D:List Ce:=[q (gk.ctr k)]
def E:gq:=en (D k) [(3,[2,5,8,9,10])] 0 [] k
section
variable (a0:Ty.d bR) (a1:List (Ty.d aD))
def K0:Ex→St→Rs:=bi (E k) (eK (E k) Tryz.f147 (C k) (a0,a1,())) [.blk 0,.code (bh Tryz.f147 3 7)]
def V0 (n0:Nat):T0:=fun x0 x1 x2 x3 x4 x5 x6 x7 x8 x9=>an (bP (E k) (bh Tryz.f147 6 11)) (ae 0 [2,5,8,9,10]) (K0 k a0 a1) n0 (mk 32 2 [(2,.ptr 0 0 0),(5,.ref 1),(8,.sl true aD x0),(9,.int .i64 x1),(10,.int .i64 x2)] [(0,.box [.int .i64 x3,.int .i64 x4,.str x5,.str x6,.int .i64 x7,.int .i64 x8]),(1,.own false bR x9)])
theorem e0:V0 k a0 a1=l0 k:=aR (b:=b0 k) rfl (fun _=>by kernel_rfl) fun _=>rfl
end
theorem ctr:Cp 147 (C k):=ry (D k) (E:=E k) rfl rfl Tryz.func147 rfl fun ⟨a0,a1,_⟩=>(show _=t k (V0 k a0 a1 k) a0 a1 by kernel_rfl).trans (by rw [e0];rfl)
end iF
namespace eu
def C:Cn:=⟨[.val (.int .i64),.val .str],[fV,.bool],true,false,fun x=>f k x.1 x.2.1⟩
def D:List Ce:=[q (dP.ctr k),q (ab.ctr k),q (fU.ctr k),q (iF.ctr k)]
def E:gq:=en (D k) [(7,[0,4,6,9,67,68,69])] 0 [] k
section
variable (a0:Int) (a1:ByteArray)
def K0:Ex→St→Rs:=bi (E k) (eK (E k) Tryz.f207 (C k) (a0,a1,())) [.blk 0,.code (bh Tryz.f207 6 63)]
def V0 (n0:Nat):T0:=fun x0 x1 x2 x3 x4 x5 x6 x7 x8 x9 x10=>an (bP (E k) (bh Tryz.f207 9 95)) (ae 0 [0,4,6,9,67,68,69]) (K0 k a0 a1) n0 (mk 123 4 [(0,.int .i64 x0),(4,.ptr 0 0 0),(6,.sl false bU x1),(9,.ptr 2 0 0),(67,.sl false bU x2),(68,.int .i64 x3),(69,.int .i64 x4)] [(1,.own false a_ x5),(0,.box [.int .i64 x6,.int .i64 x7,.ref 1]),(3,.own false a_ x8),(2,.box [.int .i64 x9,.int .i64 x10,.ref 3])])
theorem e0:V0 k a0 a1=l0 k:=aR (b:=b0 k) rfl (fun _=>by kernel_rfl) fun _=>rfl
end
theorem ctr:Cp 207 (C k):=ry (D k) (E:=E k) rfl rfl Tryz.func207 rfl fun ⟨a0,a1,_⟩=>(show _=t k (V0 k a0 a1 k) a0 a1 by kernel_rfl).trans (by rw [e0];rfl)
end eu
namespace gD
def C:Cn:=⟨[.val (.slice a_),.val (.slice a_)],[.bool],true,false,fun x=>f k x.1 x.2.1⟩
def E:gq:=en [] [(4,[0,1,12,13])] 0 [] k
section
variable (a0:List (Ty.d a_)) (a1:List (Ty.d a_))
def K0:Ex→St→Rs:=bi (E k) (eK (E k) Tryz.f208 (C k) (a0,a1,())) [.blk 0,.code (bh Tryz.f208 3 7)]
def V0 (n0:Nat):T0:=fun x0 x1 x2 x3=>an (bP (E k) (bh Tryz.f208 6 11)) (ae 0 [0,1,12,13]) (K0 k a0 a1) n0 (mk 26 0 [(0,.sl true a_ x0),(1,.sl true a_ x1),(12,.int .i64 x2),(13,.int .i64 x3)] [])
theorem e0:V0 k a0 a1=l0 k:=aR (b:=b0 k) rfl (fun _=>by kernel_rfl) fun _=>rfl
end
theorem ctr:Cp 208 (C k):=ry [] (E:=E k) rfl rfl Tryz.func208 rfl fun ⟨a0,a1,_⟩=>(show _=t k (V0 k a0 a1 k) a0 a1 by kernel_rfl).trans (by rw [e0];rfl)
end gD
namespace jJ
def C:Cn:=⟨[.val (.int .i64),.val .str,.val fV],[.bool],true,false,fun x=>f k x.1 x.2.1 x.2.2.1⟩
def D:List Ce:=[q (eu.ctr k),q (gD.ctr k)]
theorem ctr:Cp 145 (C k):=rz k rfl (D k) Tryz.func145 rfl fun _=>by kernel_rfl
end jJ
namespace dI
def C:Cn:=⟨[.io true 0 au,.val (.int .i64)],[iK,.bool],true,false,fun x=>f k x.1 x.2.1⟩
def D:List Ce:=[q (di.ctr k),q (bq.ctr k),q (bD.ctr k),q (ar.ctr k),q (jJ.ctr k)]
theorem ctr:Cp 88 (C k):=rz k rfl (D k) Tryz.func88 rfl fun _=>by kernel_rfl
end dI
namespace cM
def C:Cn:=⟨[.val (.slice a_)],[(.slice a_)],true,false,fun x=>f k x.1⟩
theorem ctr:Cp 94 (C k):=rz k rfl [] Tryz.func94 rfl fun _=>by kernel_rfl
end cM
namespace dU
def C:Cn:=⟨[.val (.slice aD),.val bR],[(.slice aD)],true,false,fun x=>f k x.1 x.2.1⟩
def E:gq:=en [] [(3,[3,5,9,10,11])] 0 [] k
section
variable (a0:List (Ty.d aD)) (a1:Ty.d bR)
def K0:Ex→St→Rs:=bi (E k) (eK (E k) Tryz.f146 (C k) (a0,a1,())) [.blk 0,.code (bh Tryz.f146 3 7)]
def V0 (n0:Nat):T0:=fun x0 x1 x2 x3 x4 x5 x6 x7 x8 x9=>an (bP (E k) (bh Tryz.f146 6 11)) (ae 0 [3,5,9,10,11]) (K0 k a0 a1) n0 (mk 62 2 [(3,.ptr 0 0 0),(5,.ref 1),(9,.sl true aD x0),(10,.int .i64 x1),(11,.int .i64 x2)] [(0,.box [.int .i64 x3,.int .i64 x4,.str x5,.str x6,.int .i64 x7,.int .i64 x8]),(1,.own false aD x9)])
theorem e0:V0 k a0 a1=l0 k:=aR (b:=b0 k) rfl (fun _=>by kernel_rfl) fun _=>rfl
end
theorem ctr:Cp 146 (C k):=ry [] (E:=E k) rfl rfl Tryz.func146 rfl fun ⟨a0,a1,_⟩=>(show _=t k (V0 k a0 a1 k) a0 a1 by kernel_rfl).trans (by rw [e0];rfl)
end dU
namespace cG
def C:Cn:=⟨[.val (.slice a_),.val .str],[(.slice a_)],true,false,fun x=>f k x.1 x.2.1⟩
def E:gq:=en [] [(3,[1,5,8,9,10])] 0 [] k
section
variable (a0:List (Ty.d a_)) (a1:ByteArray)
def K0:Ex→St→Rs:=bi (E k) (eK (E k) Tryz.f210 (C k) (a0,a1,())) [.blk 0,.code (bh Tryz.f210 3 7)]
def V0 (n0:Nat):T0:=fun x0 x1 x2 x3 x4=>an (bP (E k) (bh Tryz.f210 6 11)) (ae 0 [1,5,8,9,10]) (K0 k a0 a1) n0 (mk 24 1 [(1,.str x0),(5,.ref 0),(8,.sl true a_ x1),(9,.int .i64 x2),(10,.int .i64 x3)] [(0,.own false a_ x4)])
theorem e0:V0 k a0 a1=l0 k:=aR (b:=b0 k) rfl (fun _=>by kernel_rfl) fun _=>rfl
end
theorem ctr:Cp 210 (C k):=ry [] (E:=E k) rfl rfl Tryz.func210 rfl fun ⟨a0,a1,_⟩=>(show _=t k (V0 k a0 a1 k) a0 a1 by kernel_rfl).trans (by rw [e0];rfl)
end cG
namespace dQ
def C:Cn:=⟨[.val (.slice a_),.val a_],[(.slice a_)],true,false,fun x=>f k x.1 x.2.1⟩
def D:List Ce:=[q (cG.ctr k),q (cM.ctr k)]
def E:gq:=en (D k) [(3,[3,5,6])] 0 [] k
section
variable (a0:List (Ty.d a_)) (a1:Ty.d a_)
def K0:Ex→St→Rs:=bi (E k) (eK (E k) Tryz.f211 (C k) (a0,a1,())) [.blk 0,.code (bh Tryz.f211 4 15)]
def V0 (n0:Nat):T0:=fun x0 x1 x2 x3 x4 x5 x6=>an (bP (E k) (bh Tryz.f211 6 7)) (ae 0 [3,5,6]) (K0 k a0 a1) n0 (mk 38 2 [(3,.ptr 0 0 0),(5,.ref 1),(6,.int .i64 x0)] [(0,.box [.str x1,.int .i64 x2,.int .i64 x3,.int .i64 x4,.int .i64 x5]),(1,.own false a_ x6)])
theorem e0:V0 k a0 a1=l0 k:=aR (b:=b0 k) rfl (fun _=>by kernel_rfl) fun _=>rfl
end
theorem ctr:Cp 211 (C k):=ry (D k) (E:=E k) rfl rfl Tryz.func211 rfl fun ⟨a0,a1,_⟩=>(show _=t k (V0 k a0 a1 k) a0 a1 by kernel_rfl).trans (by rw [e0];rfl)
end dQ
namespace cR
def C:Cn:=⟨[.io true 0 iK,.val (.slice aD)],[],true,false,fun x=>f k x.1 x.2.1⟩
def D:List Ce:=[q (cG.ctr k),q (dQ.ctr k)]
def E:gq:=en (D k) [(1,[0,6,7,8])] 1 [] k
section
variable (a0:Ty.d iK) (a1:List (Ty.d aD))
def K0:Ex→St→Rs:=bi (E k) (eK (E k) Tryz.f148 (C k) (a0,a1,())) [.blk 0,.code (bh Tryz.f148 1 1)]
def V0 (n0:Nat):T0:=fun x0 x1 x2 x3 x4 x5=>an (bP (E k) (bh Tryz.f148 4 2)) (ae 1 [0,6,7,8]) (K0 k a0 a1) n0 (mk 58 2 [(0,.ptr 0 0 0),(6,.sl true aD x0),(7,.int .i64 x1),(8,.int .i64 x2)] [(1,.own false a_ x3),(0,.box [.ref 1,.int .i64 x4,.int .i64 x5])])
theorem e0:V0 k a0 a1=l0 k:=aR (b:=b0 k) rfl (fun _=>by kernel_rfl) fun _=>rfl
end
theorem ctr:Cp 148 (C k):=ry (D k) (E:=E k) rfl rfl Tryz.func148 rfl fun ⟨a0,a1,_⟩=>(show _=t k (V0 k a0 a1 k) a0 a1 by kernel_rfl).trans (by rw [e0];rfl)
end cR
namespace dw
def C:Cn:=⟨[.val iK,.val (.slice aD)],[iK],true,false,fun x=>f k x.1 x.2.1⟩
def D:List Ce:=[q (cM.ctr k),q (dU.ctr k),q (iF.ctr k),q (cR.ctr k)]
def E:gq:=en (D k) [(3,[1,4,5,17,18,19])] 0 [] k
section
variable (a0:Ty.d iK) (a1:List (Ty.d aD))
def K0:Ex→St→Rs:=bi (E k) (eK (E k) Tryz.f89 (C k) (a0,a1,())) [.blk 0,.code (bh Tryz.f89 3 7)]
def V0 (n0:Nat):T0:=fun x0 x1 x2 x3 x4 x5 x6 x7 x8 x9=>an (bP (E k) (bh Tryz.f89 6 11)) (ae 0 [1,4,5,17,18,19]) (K0 k a0 a1) n0 (mk 77 4 [(1,.sl true aD x0),(4,.ptr 0 0 0),(5,.ptr 2 0 0),(17,.sl true aD x1),(18,.int .i64 x2),(19,.int .i64 x3)] [(1,.own false a_ x4),(0,.box [.ref 1,.int .i64 x5,.int .i64 x6]),(3,.own false a_ x7),(2,.box [.ref 3,.int .i64 x8,.int .i64 x9])])
theorem e0:V0 k a0 a1=l0 k:=aR (b:=b0 k) rfl (fun _=>by kernel_rfl) fun _=>rfl
end
theorem ctr:Cp 89 (C k):=ry (D k) (E:=E k) rfl rfl Tryz.func89 rfl fun ⟨a0,a1,_⟩=>(show _=t k (V0 k a0 a1 k) a0 a1 by kernel_rfl).trans (by rw [e0];rfl)
end dw
namespace m9
def C:Cn:=⟨[.val .str],[(.int .i64),.bool],true,false,fun x=>f k x.1⟩
def D:List Ce:=[q (ia.ctr k),q (d8.ctr k),q (ab.ctr k)]
theorem ctr:Cp 212 (C k):=rz k rfl (D k) Tryz.func212 rfl fun _=>by kernel_rfl
end m9
namespace h9
def C:Cn:=⟨[.val (.slice (.int .i64)),.val (.int .i64)],[.bool],true,false,fun x=>f k x.1 x.2.1⟩
def E:gq:=en [] [(2,[1,7,8,9])] 0 [] k
section
variable (a0:List Int) (a1:Int)
def K0:Ex→St→Rs:=bi (E k) (eK (E k) Tryz.f213 (C k) (a0,a1,())) [.blk 0,.code (bh Tryz.f213 2 3)]
def V0 (n0:Nat):T0:=fun x0 x1 x2 x3=>an (bP (E k) (bh Tryz.f213 5 5)) (ae 0 [1,7,8,9]) (K0 k a0 a1) n0 (mk 17 0 [(1,.int .i64 x0),(7,.sl true (.int .i64) x1),(8,.int .i64 x2),(9,.int .i64 x3)] [])
theorem e0:V0 k a0 a1=l0 k:=aR (b:=b0 k) rfl (fun _=>by kernel_rfl) fun _=>rfl
end
theorem ctr:Cp 213 (C k):=ry [] (E:=E k) rfl rfl Tryz.func213 rfl fun ⟨a0,a1,_⟩=>(show _=t k (V0 k a0 a1 k) a0 a1 by kernel_rfl).trans (by rw [e0];rfl)
end h9
namespace gF
def C:Cn:=⟨[.val aA,.val bL],[(.slice .str)],true,false,fun x=>f k x.1 x.2.1⟩
def D:List Ce:=[q (b8.ctr k),q (m9.ctr k),q (h9.ctr k)]
def E:gq:=en (D k) [(5,[3,5,14,15,16])] 0 [] k
section
variable (a0:Ty.d aA) (a1:Ty.d bL)
def K0:Ex→St→Rs:=bi (E k) (eK (E k) Tryz.f149 (C k) (a0,a1,())) [.blk 0,.code (bh Tryz.f149 4 15)]
def V0 (n0:Nat):T0:=fun x0 x1 x2 x3 x4 x5=>an (bP (E k) (bh Tryz.f149 7 23)) (ae 0 [3,5,14,15,16]) (K0 k a0 a1) n0 (mk 46 2 [(3,.ptr 0 0 0),(5,.ref 1),(14,.sl true aE x0),(15,.int .i64 x1),(16,.int .i64 x2)] [(0,.box [.int .i64 x3,.sl true (.int .i64) x4]),(1,.own false .str x5)])
theorem e0:V0 k a0 a1=l0 k:=aR (b:=b0 k) rfl (fun _=>by kernel_rfl) fun _=>rfl
end
theorem ctr:Cp 149 (C k):=ry (D k) (E:=E k) rfl rfl Tryz.func149 rfl fun ⟨a0,a1,_⟩=>(show _=t k (V0 k a0 a1 k) a0 a1 by kernel_rfl).trans (by rw [e0];rfl)
end gF
namespace fI
def C:Cn:=⟨[.io true 0 aA,.val .str],[],true,false,fun x=>f k x.1 x.2.1⟩
def D:List Ce:=[q (ba.ctr k)]
theorem ctr:Cp 244 (C k):=rz k rfl (D k) Tryz.func244 rfl fun _=>by kernel_rfl
end fI
namespace gW
def C:Cn:=⟨[.io true 0 aA,.io true 0 .str],[(.int .i64)],true,false,fun x=>f k x.1 x.2.1⟩
def D:List Ce:=[q (ba.ctr k),q (fI.ctr k)]
theorem ctr:Cp 243 (C k):=rz k rfl (D k) Tryz.func243 rfl fun _=>by kernel_rfl
end gW
namespace gn
def C:Cn:=⟨[.val aA,.fn 243 1,.io true 0 .str],[aA,(.int .i64)],true,false,fun x=>f k x.1 x.2.1⟩
def D:List Ce:=[q (bE.ctr k),q (b8.ctr k),q (gW.ctr k)]
theorem ctr:Cp 140 (C k):=rz k rfl (D k) Tryz.func140 rfl fun _=>by kernel_rfl
end gn
namespace kr
def C:Cn:=⟨[.val aA,.val .str],[aA,(.int .i64)],true,false,fun x=>f k x.1 x.2.1⟩
def D:List Ce:=[q (gn.ctr k)]
theorem ctr:Cp 214 (C k):=rz k rfl (D k) Tryz.func214 rfl fun _=>by kernel_rfl
end kr
namespace bN
def C:Cn:=⟨[.io true 0 au,.val .str],[],true,false,fun x=>f k x.1 x.2.1⟩
def D:List Ce:=[q (ba.ctr k),q (kr.ctr k),q (b_.ctr k)]
theorem ctr:Cp 150 (C k):=rz k rfl (D k) Tryz.func150 rfl fun _=>by kernel_rfl
end bN
namespace ah
def C:Cn:=⟨[.io true 0 au,.val bL],[],true,false,fun x=>f k x.1 x.2.1⟩
def D:List Ce:=[q (gF.ctr k),q (bN.ctr k)]
def E:gq:=en (D k) [(2,[0,11,12,13])] 1 [] k
section
variable (a0:Ty.d au) (a1:Ty.d bL)
def K0:Ex→St→Rs:=bi (E k) (eK (E k) Tryz.f90 (C k) (a0,a1,())) [.blk 0]
def V0 (n0:Nat):T0:=fun x0 x1 x2 x3 x4 x5 x6 x7=>an (bP (E k) (bh Tryz.f90 4 3)) (ae 1 [0,11,12,13]) (K0 k a0 a1) n0 (mk 21 3 [(0,.ptr 0 0 0),(11,.ref 2),(12,.int .i64 x0),(13,.int .i64 x1)] [(1,.own false aE x2),(0,.box [.ref 1,.int .i64 x3,.int .i64 x4,.bool x5,.int .i64 x6]),(2,.own false .str x7)])
theorem e0:V0 k a0 a1=l0 k:=aR (b:=b0 k) rfl (fun _=>by kernel_rfl) fun _=>rfl
end
theorem ctr:Cp 90 (C k):=ry (D k) (E:=E k) rfl rfl Tryz.func90 rfl fun ⟨a0,a1,_⟩=>(show _=t k (V0 k a0 a1 k) a0 a1 by kernel_rfl).trans (by rw [e0];rfl)
end ah
namespace aT
def C:Cn:=⟨[.io true 0 au,.val .str],[aG],true,false,fun x=>f k x.1 x.2.1⟩
def D:List Ce:=[q (bA.ctr k),q (bS.ctr k),q (ar.ctr k),q (bq.ctr k),q (jO.ctr k),q (b_.ctr k),q (bT.ctr k),q (dI.ctr k),q (dw.ctr k),q (ah.ctr k)]
def E:gq:=en (D k) [(20,[0,4,5,13,14,16,103,104,105])] 1 [] k
section
variable (a0:Ty.d au) (a1:ByteArray)
def K0:Ex→St→Rs:=bi (E k) (eK (E k) Tryz.f42 (C k) (a0,a1,())) [.blk 0,.code (bh Tryz.f42 13 8191)]
def V0 (n0:Nat):T0:=fun x0 x1 x2 x3 x4 x5 x6 x7 x8 x9 x10 x11 x12 x13 x14 x15 x16 x17 x18 x19 x20 x21 x22 x23 x24=>an (bP (E k) (bh Tryz.f42 16 12287)) (ae 1 [0,4,5,13,14,16,103,104,105]) (K0 k a0 a1) n0 (mk 134 12 [(0,.ptr 0 0 0),(4,.ptr 2 0 0),(5,.ptr 5 0 0),(13,.ptr 7 0 0),(14,.ptr 9 0 0),(16,.ref 11),(103,.sl false (.slice aD) x0),(104,.int .i64 x1),(105,.int .i64 x2)] [(1,.own false aE x3),(0,.box [.ref 1,.int .i64 x4,.int .i64 x5,.bool x6,.int .i64 x7]),(3,.own false (.int .i64) x8),(4,.own false a_ x9),(2,.box [.int .i64 x10,.ref 3,.ref 4,.int .i64 x11,.int .i64 x12,.int .i64 x13]),(6,.own false (.int .i64) x14),(5,.box [.int .i64 x15,.ref 6]),(8,.own false a_ x16),(7,.box [.int .i64 x17,.ref 6,.ref 8,.int .i64 x18,.int .i64 x19,.int .i64 x20]),(10,.own false a_ x21),(9,.box [.ref 10,.int .i64 x22,.int .i64 x23]),(11,.own false aD x24)])
def V1 (n0:Nat):T1:=fun x0 x1 x2 x3 x4 x5 x6 x7 x8 x9 x10 x11 x12 x13 x14 x15 x16 x17 x18 x19 x20 x21 x22 x23 x24=>an (bP (E k) (bh Tryz.f42 16 12287)) (ae 1 [0,4,5,13,14,16,103,104,105]) (K0 k a0 a1) n0 (mk 134 13 [(0,.ptr 0 0 0),(4,.ptr 2 0 0),(5,.ptr 5 0 0),(13,.ptr 7 0 0),(14,.ptr 9 0 0),(16,.ref 11),(103,.ref 12),(104,.int .i64 x0),(105,.int .i64 x1)] [(1,.own false aE x2),(0,.box [.ref 1,.int .i64 x3,.int .i64 x4,.bool x5,.int .i64 x6]),(3,.own false (.int .i64) x7),(4,.own false a_ x8),(2,.box [.int .i64 x9,.ref 3,.ref 4,.int .i64 x10,.int .i64 x11,.int .i64 x12]),(6,.own false (.int .i64) x13),(5,.box [.int .i64 x14,.ref 6]),(8,.own false a_ x15),(7,.box [.int .i64 x16,.ref 6,.ref 8,.int .i64 x17,.int .i64 x18,.int .i64 x19]),(10,.own false a_ x20),(9,.box [.ref 10,.int .i64 x21,.int .i64 x22]),(11,.own false aD x23),(12,.own false (.slice aD) x24)])
def V2 (n0:Nat):T2:=fun x0 x1 x2 x3 x4 x5 x6 x7 x8 x9 x10 x11 x12 x13 x14 x15 x16 x17 x18 x19 x20 x21 x22 x23 x24=>an (bP (E k) (bh Tryz.f42 16 12287)) (ae 1 [0,4,5,13,14,16,103,104,105]) (K0 k a0 a1) n0 (mk 134 12 [(0,.ptr 0 0 0),(4,.ptr 2 0 0),(5,.ptr 5 0 0),(13,.ptr 7 0 0),(14,.ptr 9 0 0),(16,.ref 11),(103,.sl false (.slice aD) x0),(104,.int .i64 x1),(105,.int .i64 x2)] [(1,.own false aE x3),(0,.box [.ref 1,.int .i64 x4,.int .i64 x5,.bool x6,.int .i64 x7]),(3,.own false (.int .i64) x8),(4,.own false a_ x9),(2,.box [.int .i64 x10,.ref 3,.ref 4,.int .i64 x11,.int .i64 x12,.int .i64 x13]),(6,.own false (.int .i64) x14),(5,.box [.int .i64 x15,.ref 6]),(8,.own false a_ x16),(7,.box [.int .i64 x17,.ref 6,.ref 8,.int .i64 x18,.int .i64 x19,.int .i64 x20]),(10,.own false a_ x21),(9,.box [.ref 10,.int .i64 x22,.int .i64 x23]),(11,.own false aD x24)])
def V3 (n0:Nat):T3:=fun x0 x1 x2 x3 x4 x5 x6 x7 x8 x9 x10 x11 x12 x13 x14 x15 x16 x17 x18 x19 x20 x21 x22 x23 x24=>an (bP (E k) (bh Tryz.f42 16 12287)) (ae 1 [0,4,5,13,14,16,103,104,105]) (K0 k a0 a1) n0 (mk 134 13 [(0,.ptr 0 0 0),(4,.ptr 2 0 0),(5,.ptr 5 0 0),(13,.ptr 7 0 0),(14,.ptr 9 0 0),(16,.ref 11),(103,.ref 12),(104,.int .i64 x0),(105,.int .i64 x1)] [(1,.own false aE x2),(0,.box [.ref 1,.int .i64 x3,.int .i64 x4,.bool x5,.int .i64 x6]),(3,.own false (.int .i64) x7),(4,.own false a_ x8),(2,.box [.int .i64 x9,.ref 3,.ref 4,.int .i64 x10,.int .i64 x11,.int .i64 x12]),(6,.own false (.int .i64) x13),(5,.box [.int .i64 x14,.ref 6]),(8,.own false a_ x15),(7,.box [.int .i64 x16,.ref 6,.ref 8,.int .i64 x17,.int .i64 x18,.int .i64 x19]),(10,.own false a_ x20),(9,.box [.ref 10,.int .i64 x21,.int .i64 x22]),(11,.own false aD x23),(12,.own false (.slice aD) x24)])
theorem e0:V0 k a0 a1=l0 k:=aR (b:=b0 k) rfl (fun _=>by kernel_rfl) fun _=>rfl
theorem e1:V1 k a0 a1=l1 k:=aR (b:=b1 k) rfl (fun _=>by kernel_rfl) fun _=>rfl
theorem e2:V2 k a0 a1=l2 k:=aR (b:=b2 k) rfl (fun _=>by kernel_rfl) fun _=>rfl
theorem e3:V3 k a0 a1=l3 k:=aR (b:=b3 k) rfl (fun _=>by kernel_rfl) fun _=>rfl
end
theorem ctr:Cp 42 (C k):=ry (D k) (E:=E k) rfl rfl Tryz.func42 rfl fun ⟨a0,a1,_⟩=>(show _=t k (V0 k a0 a1 k) (V1 k a0 a1 k) (V2 k a0 a1 k) (V3 k a0 a1 k) a0 a1 by kernel_rfl).trans (by rw [e0,e1,e2,e3];rfl)
end aT
namespace dY
def C:Cn:=⟨[.io true 0 aA,.val aE],[],true,false,fun x=>f k x.1 x.2.1⟩
def E:gq:=en [] [(2,[0,3,4])] 1 [] k
section
variable (a0:Ty.d aA) (a1:Ty.d aE)
def K0:Ex→St→Rs:=bi (E k) (eK (E k) Tryz.f216 (C k) (a0,a1,())) [.blk 0,.code (bh Tryz.f216 3 7)]
def V0 (n0:Nat):T0:=fun x0 x1 x2 x3 x4 x5 x6 x7=>an (bP (E k) (bh Tryz.f216 5 3)) (ae 1 [0,3,4]) (K0 k a0 a1) n0 (mk 47 3 [(0,.ptr 0 0 0),(3,.ptr 2 0 0),(4,.int .i64 x0)] [(1,.own false aE x1),(0,.box [.ref 1,.int .i64 x2,.int .i64 x3,.bool x4]),(2,.box [.str x5,.str x6,.int .i64 x7])])
theorem e0:V0 k a0 a1=l0 k:=aR (b:=b0 k) rfl (fun _=>by kernel_rfl) fun _=>rfl
end
theorem ctr:Cp 216 (C k):=ry [] (E:=E k) rfl rfl Tryz.func216 rfl fun ⟨a0,a1,_⟩=>(show _=t k (V0 k a0 a1 k) a0 a1 by kernel_rfl).trans (by rw [e0];rfl)
end dY
namespace gY
def C:Cn:=⟨[.io true 0 aA,.io true 0 .str],[(.int .i64)],true,false,fun x=>f k x.1 x.2.1⟩
def D:List Ce:=[q (fA.ctr k),q (ba.ctr k),q (dY.ctr k)]
theorem ctr:Cp 215 (C k):=rz k rfl (D k) Tryz.func215 rfl fun _=>by kernel_rfl
end gY
namespace gj
def C:Cn:=⟨[.val aA,.fn 215 1,.io true 0 .str],[aA,(.int .i64)],true,false,fun x=>f k x.1 x.2.1⟩
def D:List Ce:=[q (bE.ctr k),q (b8.ctr k),q (gY.ctr k)]
theorem ctr:Cp 140 (C k):=rz k rfl (D k) Tryz.func140 rfl fun _=>by kernel_rfl
end gj
namespace kj
def C:Cn:=⟨[.val aA,.val .str],[aA,(.int .i64)],true,false,fun x=>f k x.1 x.2.1⟩
def D:List Ce:=[q (gj.ctr k)]
theorem ctr:Cp 151 (C k):=rz k rfl (D k) Tryz.func151 rfl fun _=>by kernel_rfl
end kj
namespace dl
def C:Cn:=⟨[.io true 0 au,.val .str],[],true,false,fun x=>f k x.1 x.2.1⟩
def D:List Ce:=[q (kj.ctr k),q (b_.ctr k)]
theorem ctr:Cp 91 (C k):=rz k rfl (D k) Tryz.func91 rfl fun _=>by kernel_rfl
end dl
namespace jL
def C:Cn:=⟨[.val bL],[.str],true,false,fun x=>f k x.1⟩
def D:List Ce:=[q (dR.ctr k),q (dt.ctr k),q (i_.ctr k)]
theorem ctr:Cp 153 (C k):=rz k rfl (D k) Tryz.func153 rfl fun _=>by kernel_rfl
end jL
namespace d_
def C:Cn:=⟨[.io true 0 au,.val .str],[],true,false,fun x=>f k x.1 x.2.1⟩
def D:List Ce:=[q (bN.ctr k),q (dl.ctr k)]
theorem ctr:Cp 217 (C k):=rz k rfl (D k) Tryz.func217 rfl fun _=>by kernel_rfl
end d_
namespace iE
def C:Cn:=⟨[.val aA],[(.int .i64)],true,false,fun x=>f k x.1⟩
def E:gq:=en [] [(3,[3,7,8,9])] 0 [] k
section
variable (a0:Ty.d aA)
def K0:Ex→St→Rs:=bi (E k) (eK (E k) Tryz.f48 (C k) (a0,())) [.blk 0,.code (bh Tryz.f48 3 7)]
def V0 (n0:Nat):T0:=fun x0 x1 x2 x3=>an (bP (E k) (bh Tryz.f48 6 11)) (ae 0 [3,7,8,9]) (K0 k a0) n0 (mk 20 0 [(3,.int .i64 x0),(7,.sl true aE x1),(8,.int .i64 x2),(9,.int .i64 x3)] [])
theorem e0:V0 k a0=l0 k:=aR (b:=b0 k) rfl (fun _=>by kernel_rfl) fun _=>rfl
end
theorem ctr:Cp 48 (C k):=ry [] (E:=E k) rfl rfl Tryz.func48 rfl fun ⟨a0,_⟩=>(show _=t k (V0 k a0 k) a0 by kernel_rfl).trans (by rw [e0];rfl)
end iE
namespace ga
def C:Cn:=⟨[.io true 0 aA,.io true 0 .str,.io true 0 .str],[(.int .i64)],true,false,fun x=>f k x.1 x.2.1 x.2.2.1⟩
def D:List Ce:=[q (ba.ctr k),q (iE.ctr k)]
theorem ctr:Cp 253 (C k):=rz k rfl (D k) Tryz.func253 rfl fun _=>by kernel_rfl
end ga
namespace gm
def C:Cn:=⟨[.val aA,.fn 253 2,.io true 0 .str,.io true 0 .str],[aA,(.int .i64)],true,false,fun x=>f k x.1 x.2.1 x.2.2.1⟩
def D:List Ce:=[q (bE.ctr k),q (b8.ctr k),q (ga.ctr k)]
theorem ctr:Cp 140 (C k):=rz k rfl (D k) Tryz.func140 rfl fun _=>by kernel_rfl
end gm
namespace km
def C:Cn:=⟨[.val aA,.val .str,.val .str],[aA,(.int .i64)],true,false,fun x=>f k x.1 x.2.1 x.2.2.1⟩
def D:List Ce:=[q (gm.ctr k)]
theorem ctr:Cp 245 (C k):=rz k rfl (D k) Tryz.func245 rfl fun _=>by kernel_rfl
end km
namespace cW
def C:Cn:=⟨[.io true 0 au,.val .str,.val .str],[],true,false,fun x=>f k x.1 x.2.1 x.2.2.1⟩
def D:List Ce:=[q (km.ctr k),q (b_.ctr k)]
theorem ctr:Cp 218 (C k):=rz k rfl (D k) Tryz.func218 rfl fun _=>by kernel_rfl
end cW
namespace dj
def C:Cn:=⟨[.io true 0 au,.val .str,.val .str],[],true,false,fun x=>f k x.1 x.2.1 x.2.2.1⟩
def D:List Ce:=[q (d_.ctr k),q (cW.ctr k),q (bT.ctr k)]
theorem ctr:Cp 152 (C k):=rz k rfl (D k) Tryz.func152 rfl fun _=>by kernel_rfl
end dj
namespace gd
def C:Cn:=⟨[.io true 0 aA,.io true 0 .str,.io true 0 .str],[(.int .i64)],true,false,fun x=>f k x.1 x.2.1 x.2.2.1⟩
def D:List Ce:=[q (ba.ctr k),q (fA.ctr k),q (fI.ctr k),q (dY.ctr k)]
theorem ctr:Cp 247 (C k):=rz k rfl (D k) Tryz.func247 rfl fun _=>by kernel_rfl
end gd
namespace gi
def C:Cn:=⟨[.val aA,.fn 247 2,.io true 0 .str,.io true 0 .str],[aA,(.int .i64)],true,false,fun x=>f k x.1 x.2.1 x.2.2.1⟩
def D:List Ce:=[q (bE.ctr k),q (b8.ctr k),q (gd.ctr k)]
theorem ctr:Cp 140 (C k):=rz k rfl (D k) Tryz.func140 rfl fun _=>by kernel_rfl
end gi
namespace kp
def C:Cn:=⟨[.val aA,.val .str,.val .str],[aA,(.int .i64)],true,false,fun x=>f k x.1 x.2.1 x.2.2.1⟩
def D:List Ce:=[q (gi.ctr k)]
theorem ctr:Cp 220 (C k):=rz k rfl (D k) Tryz.func220 rfl fun _=>by kernel_rfl
end kp
namespace fS
def C:Cn:=⟨[.io true 0 au,.val .str,.val .str],[],true,false,fun x=>f k x.1 x.2.1 x.2.2.1⟩
def D:List Ce:=[q (kp.ctr k),q (b_.ctr k)]
theorem ctr:Cp 154 (C k):=rz k rfl (D k) Tryz.func154 rfl fun _=>by kernel_rfl
end fS
namespace cH
def C:Cn:=⟨[.io true 0 au,.val bL],[],true,false,fun x=>f k x.1 x.2.1⟩
def D:List Ce:=[q (jL.ctr k),q (dj.ctr k),q (fS.ctr k)]
theorem ctr:Cp 92 (C k):=rz k rfl (D k) Tryz.func92 rfl fun _=>by kernel_rfl
end cH
namespace g8
def C:Cn:=⟨[.io true 0 au],[aG],true,false,fun x=>f k x.1⟩
def D:List Ce:=[q (ah.ctr k),q (ar.ctr k),q (dl.ctr k),q (cH.ctr k)]
theorem ctr:Cp 43 (C k):=rz k rfl (D k) Tryz.func43 rfl fun _=>by kernel_rfl
end g8
namespace mn
def C:Cn:=⟨[.val aA],[aG,aA,(.int .i64)],true,false,fun x=>f k x.1⟩
def D:List Ce:=[q (bE.ctr k),q (b8.ctr k),q (bq.ctr k),q (aT.ctr k),q (g8.ctr k)]
theorem ctr:Cp 28 (C k):=rz k rfl (D k) Tryz.func28 rfl fun _=>by kernel_rfl
end mn
namespace fz
def C:Cn:=⟨[.val aA],[af,(.int .i64)],true,false,fun x=>f k x.1⟩
def D:List Ce:=[q (mn.ctr k)]
theorem ctr:Cp 16 (C k):=rz k rfl (D k) Tryz.func16 rfl fun _=>by kernel_rfl
end fz
namespace df
def C:Cn:=⟨[.val bL],[bL],true,false,fun x=>f k x.1⟩
theorem ctr:Cp 93 (C k):=rz k rfl [] Tryz.func93 rfl fun _=>by kernel_rfl
end df
namespace cQ
def C:Cn:=⟨[.val aG],[aG],true,false,fun x=>f k x.1⟩
def D:List Ce:=[q (df.ctr k),q (cM.ctr k)]
theorem ctr:Cp 45 (C k):=rz k rfl (D k) Tryz.func45 rfl fun _=>by kernel_rfl
end cQ
namespace kJ
def C:Cn:=⟨[.val (.slice aW)],[(.slice aW)],true,false,fun x=>f k x.1⟩
theorem ctr:Cp 155 (C k):=rz k rfl [] Tryz.func155 rfl fun _=>by kernel_rfl
end kJ
namespace eO
def C:Cn:=⟨[.val ai],[ai],true,false,fun x=>f k x.1⟩
def D:List Ce:=[q (kJ.ctr k)]
theorem ctr:Cp 95 (C k):=rz k rfl (D k) Tryz.func95 rfl fun _=>by kernel_rfl
end eO
namespace eW
def C:Cn:=⟨[.val (.slice ai)],[(.slice ai)],true,false,fun x=>f k x.1⟩
def D:List Ce:=[q (eO.ctr k)]
def E:gq:=en (D k) [(3,[3,6,7,8])] 0 [] k
section
variable (a0:List (Ty.d ai))
def K0:Ex→St→Rs:=bi (E k) (eK (E k) Tryz.f46 (C k) (a0,())) [.blk 0,.code (bh Tryz.f46 3 7)]
def V0 (n0:Nat):T0:=fun x0 x1 x2 x3=>an (bP (E k) (bh Tryz.f46 6 11)) (ae 0 [3,6,7,8]) (K0 k a0) n0 (mk 19 1 [(3,.ref 0),(6,.sl true ai x0),(7,.int .i64 x1),(8,.int .i64 x2)] [(0,.own false ai x3)])
theorem e0:V0 k a0=l0 k:=aR (b:=b0 k) rfl (fun _=>by kernel_rfl) fun _=>rfl
end
theorem ctr:Cp 46 (C k):=ry (D k) (E:=E k) rfl rfl Tryz.func46 rfl fun ⟨a0,_⟩=>(show _=t k (V0 k a0 k) a0 by kernel_rfl).trans (by rw [e0];rfl)
end eW
namespace gA
def C:Cn:=⟨[.val af],[af],true,false,fun x=>f k x.1⟩
def D:List Ce:=[q (cQ.ctr k),q (bE.ctr k),q (eW.ctr k)]
theorem ctr:Cp 31 (C k):=rz k rfl (D k) Tryz.func31 rfl fun _=>by kernel_rfl
end gA
namespace gb
def C:Cn:=⟨[.val (.slice aW)],[(.slice aW)],true,false,fun x=>f k x.1⟩
def E:gq:=en [] [(3,[3,9,10,11]),(7,[3,5,6,9,10,11,15,16,17])] 0 [] k
section
variable (a0:List (Ty.d aW))
def K0:Ex→St→Rs:=bi (E k) (eK (E k) Tryz.f96 (C k) (a0,())) [.blk 0,.code (bh Tryz.f96 3 7)]
def B0 (n0:Nat):Ex→St→Rs:=NQ (E k) (bh Tryz.f96 6 11) 0 [3,9,10,11] (K0 k a0) n0
def K1 (n0:Nat):Ex→St→Rs:=bi (E k) (B0 k a0 n0) [.blk 2,.code (bh Tryz.f96 13 7371),.blk 1,.code (bh Tryz.f96 9 459)]
def V0 (n0:Nat):T0:=fun x0 x1 x2 x3=>an (bP (E k) (bh Tryz.f96 6 11)) (ae 0 [3,9,10,11]) (K0 k a0) n0 (mk 41 1 [(3,.ref 0),(9,.sl true aW x0),(10,.int .i64 x1),(11,.int .i64 x2)] [(0,.own false aW x3)])
def V1 (n0 n1:Nat):T1:=fun x0 x1 x2 x3 x4 x5 x6 x7 x8 x9=>an (bP (E k) (bh Tryz.f96 16 11467)) (ae 0 [3,5,6,9,10,11,15,16,17]) (K1 k a0 n0) n1 (mk 41 2 [(3,.ref 0),(5,.ptr 1 0 0),(6,.int .i64 x0),(9,.sl true aW x1),(10,.int .i64 x2),(11,.int .i64 x3),(15,.ref 0),(16,.int .i64 x4),(17,.int .i64 x5)] [(0,.own false aW x6),(1,.box [.str x7,.bool x8,.str x9])])
theorem e1 (n0:Nat):V1 k a0 n0=l1 k (V0 k a0 n0):=aR (b:=b1 k (V0 k a0 n0)) rfl (fun _=>by kernel_rfl) fun _=>rfl
theorem e0 (n0:Nat):V0 k a0 n0=l0 k n0:=by
 induction n0 with
 | zero=>rfl
 | succ n0 ih =>
  have h:V0 k a0 (n0+1)=b0 k (V1 k a0 n0 k) (V0 k a0 n0):=by kernel_rfl
  rw [h,e1,ih];rfl
end
theorem ctr:Cp 96 (C k):=ry [] (E:=E k) rfl rfl Tryz.func96 rfl fun ⟨a0,_⟩=>(show _=t k (V0 k a0 k) a0 by kernel_rfl).trans (by rw [e0];rfl)
end gb
namespace eV
def C:Cn:=⟨[.val ai],[(.slice aW)],true,false,fun x=>f k x.1⟩
def D:List Ce:=[q (gb.ctr k)]
theorem ctr:Cp 47 (C k):=rz k rfl (D k) Tryz.func47 rfl fun _=>by kernel_rfl
end eV
namespace kx
def C:Cn:=⟨[.val af,.val aZ],[(.slice aW)],true,false,fun x=>f k x.1 x.2.1⟩
def D:List Ce:=[q (ab.ctr k),q (eV.ctr k)]
theorem ctr:Cp 32 (C k):=rz k rfl (D k) Tryz.func32 rfl fun _=>by kernel_rfl
end kx
namespace eN
def C:Cn:=⟨[.val (.slice a_)],[(.slice .str)],true,false,fun x=>f k x.1⟩
def E:gq:=en [] [(3,[3,6,7,8])] 0 [] k
section
variable (a0:List (Ty.d a_))
def K0:Ex→St→Rs:=bi (E k) (eK (E k) Tryz.f50 (C k) (a0,())) [.blk 0,.code (bh Tryz.f50 3 7)]
def V0 (n0:Nat):T0:=fun x0 x1 x2 x3=>an (bP (E k) (bh Tryz.f50 6 11)) (ae 0 [3,6,7,8]) (K0 k a0) n0 (mk 19 1 [(3,.ref 0),(6,.sl true a_ x0),(7,.int .i64 x1),(8,.int .i64 x2)] [(0,.own false .str x3)])
theorem e0:V0 k a0=l0 k:=aR (b:=b0 k) rfl (fun _=>by kernel_rfl) fun _=>rfl
end
theorem ctr:Cp 50 (C k):=ry [] (E:=E k) rfl rfl Tryz.func50 rfl fun ⟨a0,_⟩=>(show _=t k (V0 k a0 k) a0 by kernel_rfl).trans (by rw [e0];rfl)
end eN
namespace fh
def C:Cn:=⟨[.val (.slice a_),.val .str],[a_,.bool],true,false,fun x=>f k x.1 x.2.1⟩
def E:gq:=en [] [(2,[1,4,8,9,10])] 0 [] k
section
variable (a0:List (Ty.d a_)) (a1:ByteArray)
def K0:Ex→St→Rs:=bi (E k) (eK (E k) Tryz.f168 (C k) (a0,a1,())) [.blk 0,.code (bh Tryz.f168 2 3)]
def V0 (n0:Nat):T0:=fun x0 x1 x2 x3 x4 x5 x6 x7 x8=>an (bP (E k) (bh Tryz.f168 5 5)) (ae 0 [1,4,8,9,10]) (K0 k a0 a1) n0 (mk 21 1 [(1,.str x0),(4,.ptr 0 0 0),(8,.sl true a_ x1),(9,.int .i64 x2),(10,.int .i64 x3)] [(0,.box [.str x4,.int .i64 x5,.int .i64 x6,.int .i64 x7,.int .i64 x8])])
theorem e0:V0 k a0 a1=l0 k:=aR (b:=b0 k) rfl (fun _=>by kernel_rfl) fun _=>rfl
end
theorem ctr:Cp 168 (C k):=ry [] (E:=E k) rfl rfl Tryz.func168 rfl fun ⟨a0,a1,_⟩=>(show _=t k (V0 k a0 a1 k) a0 a1 by kernel_rfl).trans (by rw [e0];rfl)
end fh
namespace kF
def C:Cn:=⟨[.val .str,.val (.int .i64),.val (.int .i64)],[bR,.bool],true,false,fun x=>f k x.1 x.2.1 x.2.2.1⟩
def D:List Ce:=[q (ab.ctr k),q (eS.ctr k),q (dL.ctr k)]
theorem ctr:Cp 158 (C k):=rz k rfl (D k) Tryz.func158 rfl fun _=>by kernel_rfl
end kF
namespace mR
def C:Cn:=⟨[.val aG,.val aA,.val .str],[aE,(.int .i64)],true,false,fun x=>f k x.1 x.2.1 x.2.2.1⟩
def D:List Ce:=[q (fh.ctr k),q (ar.ctr k),q (bq.ctr k),q (kF.ctr k)]
theorem ctr:Cp 156 (C k):=rz k rfl (D k) Tryz.func156 rfl fun _=>by kernel_rfl
end mR
namespace jY
def C:Cn:=⟨[.val aG,.val aA],[(.slice aE),(.int .i64)],true,false,fun x=>f k x.1 x.2.1⟩
def D:List Ce:=[q (eN.ctr k),q (mR.ctr k)]
def E:gq:=en (D k) [(3,[2,3,6,13,14,15])] 0 [] k
section
variable (a0:Ty.d aG) (a1:Ty.d aA)
def K0:Ex→St→Rs:=bi (E k) (eK (E k) Tryz.f97 (C k) (a0,a1,())) [.blk 0,.code (bh Tryz.f97 3 7)]
def V0 (n0:Nat):T0:=fun x0 x1 x2 x3 x4 x5 x6 x7 x8 x9 x10 x11 x12 x13=>an (bP (E k) (bh Tryz.f97 6 11)) (ae 0 [2,3,6,13,14,15]) (K0 k a0 a1) n0 (mk 35 4 [(2,.ptr 0 0 0),(3,.ptr 1 0 0),(6,.ref 2),(13,.ref 3),(14,.int .i64 x0),(15,.int .i64 x1)] [(0,.box [.int .i64 x2,.sl true (.int .i64) x3,.sl true a_ x4,.int .i64 x5,.int .i64 x6,.int .i64 x7]),(1,.box [.sl true aE x8,.int .i64 x9,.int .i64 x10,.bool x11]),(2,.own false aE x12),(3,.own false .str x13)])
theorem e0:V0 k a0 a1=l0 k:=aR (b:=b0 k) rfl (fun _=>by kernel_rfl) fun _=>rfl
end
theorem ctr:Cp 97 (C k):=ry (D k) (E:=E k) rfl rfl Tryz.func97 rfl fun ⟨a0,a1,_⟩=>(show _=t k (V0 k a0 a1 k) a0 a1 by kernel_rfl).trans (by rw [e0];rfl)
end jY
namespace cm
def C:Cn:=⟨[.val aG,.val aA],[.bool],true,false,fun x=>f k x.1 x.2.1⟩
def D:List Ce:=[q (b8.ctr k),q (dR.ctr k),q (fF.ctr k),q (ab.ctr k),q (ar.ctr k),q (bq.ctr k),q (dP.ctr k),q (kF.ctr k)]
def E:gq:=en (D k) [(4,[2,3,40,41,42]),(12,[2,3,84,85,86])] 0 [] k
section
variable (a0:Ty.d aG) (a1:Ty.d aA)
def K0:Ex→St→Rs:=bi (E k) (eK (E k) Tryz.f98 (C k) (a0,a1,())) [.blk 0,.code (bh Tryz.f98 3 7)]
def K1:Ex→St→Rs:=bi (E k) (eK (E k) Tryz.f98 (C k) (a0,a1,())) [.blk 2,.code (bh Tryz.f98 4 15)]
def V0 (n0:Nat):T0:=fun x0 x1 x2 x3 x4 x5 x6 x7 x8 x9 x10 x11 x12=>an (bP (E k) (bh Tryz.f98 6 11)) (ae 0 [2,3,40,41,42]) (K0 k a0 a1) n0 (mk 141 2 [(2,.ptr 0 0 0),(3,.ptr 1 0 0),(40,.sl true (.int .i64) x0),(41,.int .i64 x1),(42,.int .i64 x2)] [(0,.box [.int .i64 x3,.sl true (.int .i64) x4,.sl true a_ x5,.int .i64 x6,.int .i64 x7,.int .i64 x8]),(1,.box [.sl true aE x9,.int .i64 x10,.int .i64 x11,.bool x12])])
def V1 (n1:Nat):T1:=fun x0 x1 x2 x3 x4 x5 x6 x7 x8 x9 x10 x11 x12=>an (bP (E k) (bh Tryz.f98 7 23)) (ae 0 [2,3,84,85,86]) (K1 k a0 a1) n1 (mk 141 2 [(2,.ptr 0 0 0),(3,.ptr 1 0 0),(84,.sl true a_ x0),(85,.int .i64 x1),(86,.int .i64 x2)] [(0,.box [.int .i64 x3,.sl true (.int .i64) x4,.sl true a_ x5,.int .i64 x6,.int .i64 x7,.int .i64 x8]),(1,.box [.sl true aE x9,.int .i64 x10,.int .i64 x11,.bool x12])])
theorem e1:V1 k a0 a1=l1 k:=aR (b:=b1 k) rfl (fun _=>by kernel_rfl) fun _=>rfl
theorem e0 (n0:Nat):V0 k a0 a1 n0=l0 k n0:=by
 induction n0 with
 | zero=>rfl
 | succ n0 ih =>
  have h:V0 k a0 a1 (n0+1)=b0 k (V1 k a0 a1 k) (V0 k a0 a1 n0):=by kernel_rfl
  rw [h,e1,ih];rfl
end
theorem ctr:Cp 98 (C k):=ry (D k) (E:=E k) rfl rfl Tryz.func98 rfl fun ⟨a0,a1,_⟩=>(show _=t k (V0 k a0 a1 k) a0 a1 by kernel_rfl).trans (by rw [e0];rfl)
end cm
namespace iQ
def C:Cn:=⟨[.val (.slice aE),.val (.int .i64)],[(.slice bR)],true,false,fun x=>f k x.1 x.2.1⟩
def D:List Ce:=[q (gk.ctr k)]
def E:gq:=en (D k) [(3,[0,1,5,8,9,10])] 0 [] k
section
variable (a0:List (Ty.d aE)) (a1:Int)
def K0:Ex→St→Rs:=bi (E k) (eK (E k) Tryz.f160 (C k) (a0,a1,())) [.blk 0,.code (bh Tryz.f160 3 7)]
def V0 (n0:Nat):T0:=fun x0 x1 x2 x3 x4 x5=>an (bP (E k) (bh Tryz.f160 6 11)) (ae 0 [0,1,5,8,9,10]) (K0 k a0 a1) n0 (mk 34 1 [(0,.sl true aE x0),(1,.int .i64 x1),(5,.ref 0),(8,.sl true aE x2),(9,.int .i64 x3),(10,.int .i64 x4)] [(0,.own false bR x5)])
theorem e0:V0 k a0 a1=l0 k:=aR (b:=b0 k) rfl (fun _=>by kernel_rfl) fun _=>rfl
end
theorem ctr:Cp 160 (C k):=ry (D k) (E:=E k) rfl rfl Tryz.func160 rfl fun ⟨a0,a1,_⟩=>(show _=t k (V0 k a0 a1 k) a0 a1 by kernel_rfl).trans (by rw [e0];rfl)
end iQ
namespace bI
def C:Cn:=⟨[.io true 0 au,.val (.int .i64),.val (.slice bR)],[(.slice a_)],true,false,fun x=>f k x.1 x.2.1 x.2.2.1⟩
def D:List Ce:=[q (ar.ctr k),q (d_.ctr k),q (gg.ctr k),q (i_.ctr k),q (cW.ctr k),q (bT.ctr k)]
def E:gq:=en (D k) [(5,[0,1,7,8,16,17,18])] 1 [] k
section
variable (a0:Ty.d au) (a1:Int) (a2:List (Ty.d bR))
def K0:Ex→St→Rs:=bi (E k) (eK (E k) Tryz.f159 (C k) (a0,a1,a2,())) [.blk 0,.code (bh Tryz.f159 5 31)]
def V0 (n0:Nat):T0:=fun x0 x1 x2 x3 x4 x5 x6 x7 x8 x9 x10=>an (bP (E k) (bh Tryz.f159 8 47)) (ae 1 [0,1,7,8,16,17,18]) (K0 k a0 a1 a2) n0 (mk 60 3 [(0,.ptr 0 0 0),(1,.int .i64 x0),(7,.ref 2),(8,.int .i64 x1),(16,.sl true bR x2),(17,.int .i64 x3),(18,.int .i64 x4)] [(1,.own false aE x5),(0,.box [.ref 1,.int .i64 x6,.int .i64 x7,.bool x8,.int .i64 x9]),(2,.own false a_ x10)])
theorem e0:V0 k a0 a1 a2=l0 k:=aR (b:=b0 k) rfl (fun _=>by kernel_rfl) fun _=>rfl
end
theorem ctr:Cp 159 (C k):=ry (D k) (E:=E k) rfl rfl Tryz.func159 rfl fun ⟨a0,a1,a2,_⟩=>(show _=t k (V0 k a0 a1 a2 k) a0 a1 a2 by kernel_rfl).trans (by rw [e0];rfl)
end bI
namespace dz
def C:Cn:=⟨[.io true 0 au,.val (.int .i64)],[],true,false,fun x=>f k x.1 x.2.1⟩
def D:List Ce:=[q (ar.ctr k),q (bq.ctr k),q (eu.ctr k),q (di.ctr k),q (dN.ctr k),q (dj.ctr k),q (bN.ctr k)]
theorem ctr:Cp 161 (C k):=rz k rfl (D k) Tryz.func161 rfl fun _=>by kernel_rfl
end dz
namespace ag
def C:Cn:=⟨[.io true 0 au,.val (.slice .str)],[],true,false,fun x=>f k x.1 x.2.1⟩
def D:List Ce:=[q (bN.ctr k)]
def E:gq:=en (D k) [(3,[0,4,18,19,20])] 1 [] k
section
variable (a0:Ty.d au) (a1:List ByteArray)
def K0:Ex→St→Rs:=bi (E k) (eK (E k) Tryz.f162 (C k) (a0,a1,())) [.blk 0,.code (bh Tryz.f162 3 7)]
def V0 (n0:Nat):T0:=fun x0 x1 x2 x3 x4 x5 x6 x7 x8 x9 x10 x11=>an (bP (E k) (bh Tryz.f162 6 11)) (ae 1 [0,4,18,19,20]) (K0 k a0 a1) n0 (mk 47 3 [(0,.ptr 0 0 0),(4,.ptr 2 0 0),(18,.sl true .str x0),(19,.int .i64 x1),(20,.int .i64 x2)] [(1,.own false aE x3),(0,.box [.ref 1,.int .i64 x4,.int .i64 x5,.bool x6,.int .i64 x7]),(2,.box [.ref 1,.int .i64 x8,.int .i64 x9,.bool x10,.int .i64 x11])])
def V1 (n0:Nat):T1:=fun x0 x1 x2 x3 x4 x5 x6 x7 x8 x9 x10 x11=>an (bP (E k) (bh Tryz.f162 6 11)) (ae 1 [0,4,18,19,20]) (K0 k a0 a1) n0 (mk 47 3 [(0,.ptr 0 0 0),(4,.ptr 1 0 0),(18,.sl true .str x0),(19,.int .i64 x1),(20,.int .i64 x2)] [(0,.box [.junk,.int .i64 x3,.int .i64 x4,.bool x5,.int .i64 x6]),(2,.own false aE x7),(1,.box [.ref 2,.int .i64 x8,.int .i64 x9,.bool x10,.int .i64 x11])])
theorem e1:V1 k a0 a1=l1 k:=aR (b:=b1 k) rfl (fun _=>by kernel_rfl) fun _=>rfl
theorem e0 (n0:Nat):V0 k a0 a1 n0=l0 k n0:=by
 induction n0 with
 | zero=>rfl
 | succ n0 ih =>
  have h:V0 k a0 a1 (n0+1)=b0 k (V1 k a0 a1 n0):=by kernel_rfl
  rw [h,e1];rfl
end
theorem ctr:Cp 162 (C k):=ry (D k) (E:=E k) rfl rfl Tryz.func162 rfl fun ⟨a0,a1,_⟩=>(show _=t k (V0 k a0 a1 k) a0 a1 by kernel_rfl).trans (by rw [e0];rfl)
end ag
namespace cT
def C:Cn:=⟨[.io true 0 aG,.io true 0 au,.val (.slice aE)],[],true,false,fun x=>f k x.1 x.2.1 x.2.2.1⟩
def D:List Ce:=[q (iQ.ctr k),q (bI.ctr k),q (dz.ctr k),q (cH.ctr k),q (ar.ctr k),q (di.ctr k),q (ag.ctr k),q (bN.ctr k)]
def E:gq:=en (D k) [(12,[1,85,86,87])] 2 [] k
section
variable (a0:Ty.d aG) (a1:Ty.d au) (a2:List (Ty.d aE))
def K0:Ex→St→Rs:=bi (E k) (eK (E k) Tryz.f99 (C k) (a0,a1,a2,())) [.blk 0]
def V0 (n0:Nat):T0:=fun x0 x1 x2 x3 x4 x5 x6 x7 x8 x9 x10 x11 x12 x13=>an (bP (E k) (bh Tryz.f99 12 1023)) (ae 2 [1,85,86,87]) (K0 k a0 a1 a2) n0 (mk 100 6 [(1,.ptr 1 0 0),(85,.ref 5),(86,.int .i64 x0),(87,.int .i64 x1)] [(2,.own false (.int .i64) x2),(3,.own false a_ x3),(0,.box [.int .i64 x4,.ref 2,.ref 3,.int .i64 x5,.int .i64 x6,.int .i64 x7]),(4,.own false aE x8),(1,.box [.ref 4,.int .i64 x9,.int .i64 x10,.bool x11,.int .i64 x12]),(5,.own false (.int .i64) x13)])
theorem e0:V0 k a0 a1 a2=l0 k:=aR (b:=b0 k) rfl (fun _=>by kernel_rfl) fun _=>rfl
end
theorem ctr:Cp 99 (C k):=ry (D k) (E:=E k) rfl rfl Tryz.func99 rfl fun ⟨a0,a1,a2,_⟩=>(show _=t k (V0 k a0 a1 a2 k) a0 a1 a2 by kernel_rfl).trans (by rw [e0];rfl)
end cT
namespace kw
def C:Cn:=⟨[.val aG,.val aA],[aG,aA,(.int .i64)],true,false,fun x=>f k x.1 x.2.1⟩
def D:List Ce:=[q (cQ.ctr k),q (bE.ctr k),q (jY.ctr k),q (cm.ctr k),q (cT.ctr k)]
theorem ctr:Cp 49 (C k):=rz k rfl (D k) Tryz.func49 rfl fun _=>by kernel_rfl
end kw
namespace ky
def C:Cn:=⟨[.val (.slice ai),.val aZ],[.bool],true,false,fun x=>f k x.1 x.2.1⟩
def D:List Ce:=[q (ab.ctr k)]
theorem ctr:Cp 100 (C k):=rz k rfl (D k) Tryz.func100 rfl fun _=>by kernel_rfl
end ky
namespace fM
def C:Cn:=⟨[.val ai,.val .str],[aW,.bool],true,false,fun x=>f k x.1 x.2.1⟩
def E:gq:=en [] [(2,[1,2,4,6])] 0 [] k
section
variable (a0:Ty.d ai) (a1:ByteArray)
def K0:Ex→St→Rs:=bi (E k) (eK (E k) Tryz.f222 (C k) (a0,a1,())) [.blk 0,.code (bh Tryz.f222 2 3)]
def V0 (n0:Nat):T0:=fun x0 x1 x2 x3 x4 x5 x6 x7=>an (bP (E k) (bh Tryz.f222 5 5)) (ae 0 [1,2,4,6]) (K0 k a0 a1) n0 (mk 29 2 [(1,.str x0),(2,.ptr 0 0 0),(4,.ptr 1 0 0),(6,.int .i64 x1)] [(0,.box [.bool x2,.sl true bV x3,.sl true aW x4]),(1,.box [.str x5,.bool x6,.str x7])])
theorem e0:V0 k a0 a1=l0 k:=aR (b:=b0 k) rfl (fun _=>by kernel_rfl) fun _=>rfl
end
theorem ctr:Cp 222 (C k):=ry [] (E:=E k) rfl rfl Tryz.func222 rfl fun ⟨a0,a1,_⟩=>(show _=t k (V0 k a0 a1 k) a0 a1 by kernel_rfl).trans (by rw [e0];rfl)
end fM
namespace pI
def C:Cn:=⟨[.val ai,.val .str],[ac,.bool],true,false,fun x=>f k x.1 x.2.1⟩
def D:List Ce:=[q (fM.ctr k)]
theorem ctr:Cp 164 (C k):=rz k rfl (D k) Tryz.func164 rfl fun _=>by kernel_rfl
end pI
namespace gM
def C:Cn:=⟨[.val ai,.val .str,.val (.int .i64)],[ai,(.int .i64)],true,false,fun x=>f k x.1 x.2.1 x.2.2.1⟩
def D:List Ce:=[q (eO.ctr k),q (eI.ctr k)]
def E:gq:=en (D k) [(6,[1,2,3,6,8,9,24,25,26])] 0 [] k
section
variable (a0:Ty.d ai) (a1:ByteArray) (a2:Int)
def K0:Ex→St→Rs:=bi (E k) (eK (E k) Tryz.f223 (C k) (a0,a1,a2,())) [.blk 0,.code (bh Tryz.f223 5 31)]
def V0 (n0:Nat):T0:=fun x0 x1 x2 x3 x4 x5 x6 x7 x8 x9 x10 x11 x12 x13 x14=>an (bP (E k) (bh Tryz.f223 8 47)) (ae 0 [1,2,3,6,8,9,24,25,26]) (K0 k a0 a1 a2) n0 (mk 56 7 [(1,.str x0),(2,.int .i64 x1),(3,.ptr 0 0 0),(6,.ptr 1 0 0),(8,.ptr 4 0 0),(9,.bool x2),(24,.sl true bV x3),(25,.int .i64 x4),(26,.int .i64 x5)] [(0,.box [.bool x6,.sl true bV x7,.sl true aW x8]),(2,.own false bV x9),(3,.own false aW x10),(1,.box [.bool x11,.ref 2,.ref 3]),(5,.own false bV x12),(6,.own false aW x13),(4,.box [.bool x14,.ref 5,.ref 6])])
theorem e0:V0 k a0 a1 a2=l0 k:=aR (b:=b0 k) rfl (fun _=>by kernel_rfl) fun _=>rfl
end
theorem ctr:Cp 223 (C k):=ry (D k) (E:=E k) rfl rfl Tryz.func223 rfl fun ⟨a0,a1,a2,_⟩=>(show _=t k (V0 k a0 a1 a2 k) a0 a1 a2 by kernel_rfl).trans (by rw [e0];rfl)
end gM
namespace nh
def C:Cn:=⟨[.val ai,.val .str,.val aE,.val (.int .i64)],[ai,ac],true,false,fun x=>f k x.1 x.2.1 x.2.2.1 x.2.2.2.1⟩
def D:List Ce:=[q (gM.ctr k)]
theorem ctr:Cp 165 (C k):=rz k rfl (D k) Tryz.func165 rfl fun _=>by kernel_rfl
end nh
namespace cw
def C:Cn:=⟨[.io true 0 d6,.val aZ],[ac],true,true,fun x=>f k x.1 x.2.1⟩
def D:List Ce:=[q (eI.ctr k),q (pI.ctr k),q (mR.ctr k),q (nh.ctr k)]
theorem ctr:Cp 101 (C k):=rz k rfl (D k) Tryz.func101 rfl fun _=>by kernel_rfl
end cw
namespace gS
def C:Cn:=⟨[.val aW],[.bool],true,false,fun x=>f k x.1⟩
def D:List Ce:=[q (eI.ctr k)]
theorem ctr:Cp 167 (C k):=rz k rfl (D k) Tryz.func167 rfl fun _=>by kernel_rfl
end gS
namespace jK
def C:Cn:=⟨[.val ai,.val aW],[ai,.bool],true,false,fun x=>f k x.1 x.2.1⟩
def D:List Ce:=[q (eO.ctr k),q (gS.ctr k),q (eV.ctr k)]
theorem ctr:Cp 166 (C k):=rz k rfl (D k) Tryz.func166 rfl fun _=>by kernel_rfl
end jK
namespace l9
def C:Cn:=⟨[.val ai,.val aZ],[ai,ac],true,false,fun x=>f k x.1 x.2.1⟩
def D:List Ce:=[q (jK.ctr k),q (gS.ctr k)]
theorem ctr:Cp 102 (C k):=rz k rfl (D k) Tryz.func102 rfl fun _=>by kernel_rfl
end l9
namespace i8
def C:Cn:=⟨[.val ai,.val (.slice a_)],[.bool],true,false,fun x=>f k x.1 x.2.1⟩
def D:List Ce:=[q (fh.ctr k)]
def E:gq:=en (D k) [(2,[1,10,11,12])] 0 [] k
section
variable (a0:Ty.d ai) (a1:List (Ty.d a_))
def K0:Ex→St→Rs:=bi (E k) (eK (E k) Tryz.f103 (C k) (a0,a1,())) [.blk 0,.code (bh Tryz.f103 2 3)]
def V0 (n0:Nat):T0:=fun x0 x1 x2 x3=>an (bP (E k) (bh Tryz.f103 5 5)) (ae 0 [1,10,11,12]) (K0 k a0 a1) n0 (mk 29 0 [(1,.sl true a_ x0),(10,.sl true bV x1),(11,.int .i64 x2),(12,.int .i64 x3)] [])
theorem e0:V0 k a0 a1=l0 k:=aR (b:=b0 k) rfl (fun _=>by kernel_rfl) fun _=>rfl
end
theorem ctr:Cp 103 (C k):=ry (D k) (E:=E k) rfl rfl Tryz.func103 rfl fun ⟨a0,a1,_⟩=>(show _=t k (V0 k a0 a1 k) a0 a1 by kernel_rfl).trans (by rw [e0];rfl)
end i8
namespace fw
def C:Cn:=⟨[.val (.slice aW)],[.bool],true,false,fun x=>f k x.1⟩
def D:List Ce:=[q (gS.ctr k)]
def E:gq:=en (D k) [(2,[0,5,6,7])] 0 [] k
section
variable (a0:List (Ty.d aW))
def K0:Ex→St→Rs:=bi (E k) (eK (E k) Tryz.f169 (C k) (a0,())) [.blk 0,.code (bh Tryz.f169 2 3)]
def V0 (n0:Nat):T0:=fun x0 x1 x2 x3=>an (bP (E k) (bh Tryz.f169 5 5)) (ae 0 [0,5,6,7]) (K0 k a0) n0 (mk 18 0 [(0,.sl true aW x0),(5,.sl true aW x1),(6,.int .i64 x2),(7,.int .i64 x3)] [])
theorem e0:V0 k a0=l0 k:=aR (b:=b0 k) rfl (fun _=>by kernel_rfl) fun _=>rfl
end
theorem ctr:Cp 169 (C k):=ry (D k) (E:=E k) rfl rfl Tryz.func169 rfl fun ⟨a0,_⟩=>(show _=t k (V0 k a0 k) a0 by kernel_rfl).trans (by rw [e0];rfl)
end fw
namespace gf
def C:Cn:=⟨[.val (.slice a_),.val (.slice aW),.val (.slice a_)],[(.slice a_)],false,true,fun x=>f k x.1 x.2.1 x.2.2.1⟩
def D:List Ce:=[q (cG.ctr k),q (dQ.ctr k)]
def E:gq:=en (D k) [(2,[0,2,9,10,11])] 0 [] k
section
variable (a0:List (Ty.d a_)) (a1:List (Ty.d aW)) (a2:List (Ty.d a_))
def K0:Ex→St→Rs:=bi (E k) (eK (E k) Tryz.f224 (C k) (a0,a1,a2,())) [.blk 0,.code (bh Tryz.f224 2 3)]
def V0 (n0:Nat):T0:=fun x0 x1 x2 x3 x4=>an (bP (E k) (bh Tryz.f224 5 5)) (ae 0 [0,2,9,10,11]) (K0 k a0 a1 a2) n0 (mk 30 0 [(0,.sl true a_ x0),(2,.sl true a_ x1),(9,.sl true aW x2),(10,.int .i64 x3),(11,.int .i64 x4)] [])
def V1 (n0:Nat):T1:=fun x0 x1 x2 x3 x4=>an (bP (E k) (bh Tryz.f224 5 5)) (ae 0 [0,2,9,10,11]) (K0 k a0 a1 a2) n0 (mk 30 1 [(0,.ref 0),(2,.sl true a_ x0),(9,.sl true aW x1),(10,.int .i64 x2),(11,.int .i64 x3)] [(0,.own false a_ x4)])
theorem e1:V1 k a0 a1 a2=l1 k:=aR (b:=b1 k) rfl (fun _=>by kernel_rfl) fun _=>rfl
theorem e0 (n0:Nat):V0 k a0 a1 a2 n0=l0 k n0:=by
 induction n0 with
 | zero=>rfl
 | succ n0 ih =>
  have h:V0 k a0 a1 a2 (n0+1)=b0 k (V1 k a0 a1 a2 n0):=by kernel_rfl
  rw [h,e1];rfl
end
theorem ctr:Cp 224 (C k):=ry (D k) (E:=E k) rfl rfl Tryz.func224 rfl fun ⟨a0,a1,a2,_⟩=>(show _=t k (V0 k a0 a1 a2 k) a0 a1 a2 by kernel_rfl).trans (by rw [e0];rfl)
end gf
namespace fO
def C:Cn:=⟨[.val (.slice a_),.val (.slice aW)],[(.int .i64)],true,false,fun x=>f k x.1 x.2.1⟩
def D:List Ce:=[q (gf.ctr k)]
def E:gq:=en (D k) [(3,[0,1,5,8,9,10])] 0 [] k
section
variable (a0:List (Ty.d a_)) (a1:List (Ty.d aW))
def K0:Ex→St→Rs:=bi (E k) (eK (E k) Tryz.f170 (C k) (a0,a1,())) [.blk 0,.code (bh Tryz.f170 3 7)]
def V0 (n0:Nat):T0:=fun x0 x1 x2 x3 x4 x5=>an (bP (E k) (bh Tryz.f170 6 11)) (ae 0 [0,1,5,8,9,10]) (K0 k a0 a1) n0 (mk 26 1 [(0,.sl true a_ x0),(1,.sl true aW x1),(5,.ref 0),(8,.sl true aW x2),(9,.int .i64 x3),(10,.int .i64 x4)] [(0,.own false a_ x5)])
theorem e0:V0 k a0 a1=l0 k:=aR (b:=b0 k) rfl (fun _=>by kernel_rfl) fun _=>rfl
end
theorem ctr:Cp 170 (C k):=ry (D k) (E:=E k) rfl rfl Tryz.func170 rfl fun ⟨a0,a1,_⟩=>(show _=t k (V0 k a0 a1 k) a0 a1 by kernel_rfl).trans (by rw [e0];rfl)
end fO
namespace eU
def C:Cn:=⟨[.val (.slice aW),.val (.int .i64)],[(.slice bR)],true,false,fun x=>f k x.1 x.2.1⟩
def D:List Ce:=[q (gk.ctr k)]
def E:gq:=en (D k) [(3,[0,1,5,8,9,10])] 0 [] k
section
variable (a0:List (Ty.d aW)) (a1:Int)
def K0:Ex→St→Rs:=bi (E k) (eK (E k) Tryz.f225 (C k) (a0,a1,())) [.blk 0,.code (bh Tryz.f225 3 7)]
def V0 (n0:Nat):T0:=fun x0 x1 x2 x3 x4 x5=>an (bP (E k) (bh Tryz.f225 6 11)) (ae 0 [0,1,5,8,9,10]) (K0 k a0 a1) n0 (mk 42 1 [(0,.sl true aW x0),(1,.int .i64 x1),(5,.ref 0),(8,.sl true aW x2),(9,.int .i64 x3),(10,.int .i64 x4)] [(0,.own false bR x5)])
theorem e0:V0 k a0 a1=l0 k:=aR (b:=b0 k) rfl (fun _=>by kernel_rfl) fun _=>rfl
end
theorem ctr:Cp 225 (C k):=ry (D k) (E:=E k) rfl rfl Tryz.func225 rfl fun ⟨a0,a1,_⟩=>(show _=t k (V0 k a0 a1 k) a0 a1 by kernel_rfl).trans (by rw [e0];rfl)
end eU
namespace bj
def C:Cn:=⟨[.io true 0 aG],[.str],true,false,fun x=>f k x.1⟩
def D:List Ce:=[q (ar.ctr k)]
theorem ctr:Cp 227 (C k):=rz k rfl (D k) Tryz.func227 rfl fun _=>by kernel_rfl
end bj
namespace g7
def C:Cn:=⟨[.io true 0 aG,.io true 0 au],[],true,false,fun x=>f k x.1 x.2.1⟩
def D:List Ce:=[q (bj.ctr k),q (bT.ctr k),q (ar.ctr k),q (d_.ctr k),q (df.ctr k),q (cH.ctr k),q (ag.ctr k)]
theorem ctr:Cp 248 (C k):=rz k rfl (D k) Tryz.func248 rfl fun _=>by kernel_rfl
end g7
namespace gh
def C:Cn:=⟨[.io true 0 aG,.io true 0 au,.val bR],[a_],true,false,fun x=>f k x.1 x.2.1 x.2.2.1⟩
def D:List Ce:=[q (gg.ctr k),q (i_.ctr k),q (g7.ctr k),q (bj.ctr k),q (cW.ctr k)]
theorem ctr:Cp 226 (C k):=rz k rfl (D k) Tryz.func226 rfl fun _=>by kernel_rfl
end gh
namespace iD
def C:Cn:=⟨[.give (.slice a_),.val (.slice aW),.val (.slice a_)],[(.slice a_)],true,false,fun x=>f k x.1 x.2.1 x.2.2.1⟩
def D:List Ce:=[q (cG.ctr k),q (dQ.ctr k)]
def E:gq:=en (D k) [(2,[0,2,9,10,11])] 0 [] k
section
variable (a0:List (Ty.d a_)) (a1:List (Ty.d aW)) (a2:List (Ty.d a_))
def K0:Ex→St→Rs:=bi (E k) (eK (E k) Tryz.f224 (C k) (a0,a1,a2,())) [.blk 0,.code (bh Tryz.f224 2 3)]
def V0 (n0:Nat):T0:=fun x0 x1 x2 x3 x4=>an (bP (E k) (bh Tryz.f224 5 5)) (ae 0 [0,2,9,10,11]) (K0 k a0 a1 a2) n0 (mk 30 1 [(0,.ref 0),(2,.sl true a_ x0),(9,.sl true aW x1),(10,.int .i64 x2),(11,.int .i64 x3)] [(0,.own false a_ x4)])
theorem e0:V0 k a0 a1 a2=l0 k:=aR (b:=b0 k) rfl (fun _=>by kernel_rfl) fun _=>rfl
end
theorem ctr:Cp 224 (C k):=ry (D k) (E:=E k) rfl rfl Tryz.func224 rfl fun ⟨a0,a1,a2,_⟩=>(show _=t k (V0 k a0 a1 a2 k) a0 a1 a2 by kernel_rfl).trans (by rw [e0];rfl)
end iD
namespace cF
def C:Cn:=⟨[.io true 0 aG,.io true 0 au,.val (.slice aW)],[],true,false,fun x=>f k x.1 x.2.1 x.2.2.1⟩
def D:List Ce:=[q (eU.ctr k),q (gh.ctr k),q (bj.ctr k),q (bT.ctr k),q (iD.ctr k)]
def E:gq:=en (D k) [(4,[0,1,2,7,24,25,26])] 2 [] k
section
variable (a0:Ty.d aG) (a1:Ty.d au) (a2:List (Ty.d aW))
def K0:Ex→St→Rs:=bi (E k) (eK (E k) Tryz.f171 (C k) (a0,a1,a2,())) [.blk 0,.code (bh Tryz.f171 4 15)]
def V0 (n0:Nat):T0:=fun x0 x1 x2 x3 x4 x5 x6 x7 x8 x9 x10 x11 x12 x13 x14 x15=>an (bP (E k) (bh Tryz.f171 7 23)) (ae 2 [0,1,2,7,24,25,26]) (K0 k a0 a1 a2) n0 (mk 63 7 [(0,.ptr 0 0 0),(1,.ptr 1 0 0),(2,.sl true aW x0),(7,.ref 5),(24,.ref 6),(25,.int .i64 x1),(26,.int .i64 x2)] [(2,.own false (.int .i64) x3),(3,.own false a_ x4),(0,.box [.int .i64 x5,.ref 2,.ref 3,.int .i64 x6,.int .i64 x7,.int .i64 x8]),(4,.own false aE x9),(1,.box [.ref 4,.int .i64 x10,.int .i64 x11,.bool x12,.int .i64 x13]),(5,.own false a_ x14),(6,.own false bR x15)])
theorem e0:V0 k a0 a1 a2=l0 k:=aR (b:=b0 k) rfl (fun _=>by kernel_rfl) fun _=>rfl
end
theorem ctr:Cp 171 (C k):=ry (D k) (E:=E k) rfl rfl Tryz.func171 rfl fun ⟨a0,a1,a2,_⟩=>(show _=t k (V0 k a0 a1 a2 k) a0 a1 a2 by kernel_rfl).trans (by rw [e0];rfl)
end cF
namespace kC
def C:Cn:=⟨[.val aG,.val aA,.val (.slice aW)],[aG,aA,(.int .i64)],true,false,fun x=>f k x.1 x.2.1 x.2.2.1⟩
def D:List Ce:=[q (cQ.ctr k),q (bE.ctr k),q (cm.ctr k),q (fw.ctr k),q (fO.ctr k),q (cF.ctr k)]
theorem ctr:Cp 104 (C k):=rz k rfl (D k) Tryz.func104 rfl fun _=>by kernel_rfl
end kC
namespace bW
def C:Cn:=⟨[.io true 0 d6,.val aZ],[ac],true,true,fun x=>f k x.1 x.2.1⟩
def D:List Ce:=[q (ky.ctr k),q (cw.ctr k),q (l9.ctr k),q (i8.ctr k),q (eV.ctr k),q (kC.ctr k)]
theorem ctr:Cp 51 (C k):=rz k rfl (D k) Tryz.func51 rfl fun _=>by kernel_rfl
end bW
namespace bC
def C:Cn:=⟨[.io true 0 d6,.val aZ],[ac],true,true,fun x=>f k x.1 x.2.1⟩
def D:List Ce:=[q (fz.ctr k),q (iE.ctr k),q (b8.ctr k),q (ab.ctr k),q (kw.ctr k),q (eN.ctr k),q (bW.ctr k)]
theorem ctr:Cp 33 (C k):=rz k rfl (D k) Tryz.func33 rfl fun _=>by kernel_rfl
end bC
namespace jf
def C:Cn:=⟨[.val af,.val (.slice aZ)],[d6],true,true,fun x=>f k x.1 x.2.1⟩
def D:List Ce:=[q (gA.ctr k),q (kx.ctr k),q (bC.ctr k)]
def E:gq:=en (D k) [(3,[4,5,14,15,16])] 0 [] k
section
variable (a0:Ty.d af) (a1:List (Ty.d aZ))
def K0:Ex→St→Rs:=bi (E k) (eK (E k) Tryz.f19 (C k) (a0,a1,())) [.blk 0,.code (bh Tryz.f19 3 7)]
def V0 (n0:Nat):T0:=fun x0 x1 x2 x3 x4 x5 x6 x7 x8 x9 x10 x11 x12 x13 x14 x15 x16 x17 x18 x19 x20 x21 x22 x23 x24 x25 x26 x27 x28 x29 x30 x31 x32=>an (bP (E k) (bh Tryz.f19 6 11)) (ae 0 [4,5,14,15,16]) (K0 k a0 a1) n0 (mk 63 16 [(4,.ptr 0 0 0),(5,.ptr 8 0 0),(14,.sl true aZ x0),(15,.int .i64 x1),(16,.int .i64 x2)] [(1,.own false (.int .i64) x3),(2,.own false a_ x4),(3,.own false aE x5),(4,.own false ai x6),(5,.own false ac x7),(6,.own false na x8),(7,.own false aW x9),(0,.box [.bool x10,.int .i64 x11,.ref 1,.ref 2,.int .i64 x12,.int .i64 x13,.int .i64 x14,.ref 3,.int .i64 x15,.int .i64 x16,.bool x17,.ref 4,.ref 5,.ref 6,.ref 7]),(9,.own false (.int .i64) x18),(10,.own false a_ x19),(11,.own false aE x20),(12,.own false ai x21),(13,.own false ac x22),(14,.own false na x23),(15,.own false aW x24),(8,.box [.bool x25,.int .i64 x26,.ref 9,.ref 10,.int .i64 x27,.int .i64 x28,.int .i64 x29,.ref 11,.int .i64 x30,.int .i64 x31,.bool x32,.ref 12,.ref 13,.ref 14,.ref 15])])
def V1 (n0:Nat):T1:=fun x0 x1 x2 x3 x4 x5 x6 x7 x8 x9 x10 x11 x12 x13 x14 x15 x16 x17 x18 x19 x20 x21 x22 x23 x24 x25 x26 x27 x28 x29 x30 x31 x32=>an (bP (E k) (bh Tryz.f19 6 11)) (ae 0 [4,5,14,15,16]) (K0 k a0 a1) n0 (mk 63 16 [(4,.ptr 0 0 0),(5,.ptr 8 0 0),(14,.sl true aZ x0),(15,.int .i64 x1),(16,.int .i64 x2)] [(1,.own false (.int .i64) x3),(2,.own false a_ x4),(3,.own false aE x5),(4,.own false ai x6),(5,.own false ac x7),(6,.own false na x8),(7,.own false aW x9),(0,.box [.bool x10,.int .i64 x11,.ref 1,.ref 2,.int .i64 x12,.int .i64 x13,.int .i64 x14,.ref 3,.int .i64 x15,.int .i64 x16,.bool x17,.ref 4,.ref 5,.ref 6,.ref 7]),(9,.own false (.int .i64) x18),(10,.own false a_ x19),(11,.own false aE x20),(12,.own true ai x21),(13,.own true ac x22),(14,.own true na x23),(15,.own false aW x24),(8,.box [.bool x25,.int .i64 x26,.ref 9,.ref 10,.int .i64 x27,.int .i64 x28,.int .i64 x29,.ref 11,.int .i64 x30,.int .i64 x31,.bool x32,.ref 12,.ref 13,.ref 14,.ref 15])])
theorem e1:V1 k a0 a1=l1 k:=aR (b:=b1 k) rfl (fun _=>by kernel_rfl) fun _=>rfl
theorem e0 (n0:Nat):V0 k a0 a1 n0=l0 k n0:=by
 induction n0 with
 | zero=>rfl
 | succ n0 ih =>
  have h:V0 k a0 a1 (n0+1)=b0 k (V1 k a0 a1 n0):=by kernel_rfl
  rw [h,e1];rfl
end
theorem ctr:Cp 19 (C k):=ry (D k) (E:=E k) rfl rfl Tryz.func19 rfl fun ⟨a0,a1,_⟩=>(show _=t k (V0 k a0 a1 k) a0 a1 by kernel_rfl).trans (by rw [e0];rfl)
end jf
namespace m3
def C:Cn:=⟨[.val kQ],[d6],true,true,fun x=>f k x.1⟩
def D:List Ce:=[q (ab.ctr k),q (k0.ctr k),q (jS.ctr k),q (fz.ctr k),q (jf.ctr k)]
theorem ctr:Cp 7 (C k):=rz k rfl (D k) Tryz.func7 rfl fun _=>by kernel_rfl
end m3
namespace jy
def C:Cn:=⟨[.val (.int .i64)],[aA],true,false,fun x=>f k x.1⟩
def D:List Ce:=[q (aS.ctr k)]
theorem ctr:Cp 23 (C k):=rz k rfl (D k) Tryz.func23 rfl fun _=>by kernel_rfl
end jy
namespace cC
def C:Cn:=⟨[.val aA],[aA],true,false,fun x=>f k x.1⟩
theorem ctr:Cp 35 (C k):=rz k rfl [] Tryz.func35 rfl fun _=>by kernel_rfl
end cC
namespace eh
def C:Cn:=⟨[.val aA],[(.int .i64)],true,false,fun x=>f k x.1⟩
def E:gq:=en [] [(3,[1,3,4])] 0 [] k
section
variable (a0:Ty.d aA)
def K0:Ex→St→Rs:=bi (E k) (eK (E k) Tryz.f66 (C k) (a0,())) [.blk 0,.code (bh Tryz.f66 3 7)]
def V0 (n0:Nat):T0:=fun x0 x1 x2 x3 x4 x5=>an (bP (E k) (bh Tryz.f66 6 11)) (ae 0 [1,3,4]) (K0 k a0) n0 (mk 22 1 [(1,.ptr 0 0 0),(3,.int .i64 x0),(4,.int .i64 x1)] [(0,.box [.sl true aE x2,.int .i64 x3,.int .i64 x4,.bool x5])])
theorem e0:V0 k a0=l0 k:=aR (b:=b0 k) rfl (fun _=>by kernel_rfl) fun _=>rfl
end
theorem ctr:Cp 66 (C k):=ry [] (E:=E k) rfl rfl Tryz.func66 rfl fun ⟨a0,_⟩=>(show _=t k (V0 k a0 k) a0 by kernel_rfl).trans (by rw [e0];rfl)
end eh
namespace eg
def C:Cn:=⟨[.val .str],[.bool],true,false,fun x=>f k x.1⟩
def D:List Ce:=[q (aS.ctr k)]
def E:gq:=en (D k) [(2,[0,3])] 0 [] k
section
variable (a0:ByteArray)
def K0:Ex→St→Rs:=bi (E k) (eK (E k) Tryz.f67 (C k) (a0,())) [.blk 0,.code (bh Tryz.f67 2 3)]
def V0 (n0:Nat):T0:=fun x0 x1=>an (bP (E k) (bh Tryz.f67 5 5)) (ae 0 [0,3]) (K0 k a0) n0 (mk 36 0 [(0,.str x0),(3,.int .i64 x1)] [])
theorem e0:V0 k a0=l0 k:=aR (b:=b0 k) rfl (fun _=>by kernel_rfl) fun _=>rfl
end
theorem ctr:Cp 67 (C k):=ry (D k) (E:=E k) rfl rfl Tryz.func67 rfl fun ⟨a0,_⟩=>(show _=t k (V0 k a0 k) a0 by kernel_rfl).trans (by rw [e0];rfl)
end eg
namespace bQ
def C:Cn:=⟨[.val aA],[.bool],true,false,fun x=>f k x.1⟩
def D:List Ce:=[q (aS.ctr k),q (eh.ctr k),q (eg.ctr k)]
def E:gq:=en (D k) [(4,[1,3])] 0 [] k
section
variable (a0:Ty.d aA)
def K0:Ex→St→Rs:=bi (E k) (eK (E k) Tryz.f36 (C k) (a0,())) [.blk 0,.code (bh Tryz.f36 3 7)]
def V0 (n0:Nat):T0:=fun x0 x1 x2 x3 x4=>an (bP (E k) (bh Tryz.f36 6 11)) (ae 0 [1,3]) (K0 k a0) n0 (mk 79 1 [(1,.ptr 0 0 0),(3,.int .i64 x0)] [(0,.box [.sl true aE x1,.int .i64 x2,.int .i64 x3,.bool x4])])
theorem e0:V0 k a0=l0 k:=aR (b:=b0 k) rfl (fun _=>by kernel_rfl) fun _=>rfl
end
theorem ctr:Cp 36 (C k):=ry (D k) (E:=E k) rfl rfl Tryz.func36 rfl fun ⟨a0,_⟩=>(show _=t k (V0 k a0 k) a0 by kernel_rfl).trans (by rw [e0];rfl)
end bQ
namespace jN
def C:Cn:=⟨[.val aA,.val (.int .i64)],[aA],true,false,fun x=>f k x.1 x.2.1⟩
def D:List Ce:=[q (cC.ctr k),q (bQ.ctr k),q (aS.ctr k)]
theorem ctr:Cp 22 (C k):=rz k rfl (D k) Tryz.func22 rfl fun _=>by kernel_rfl
end jN
namespace bY
def C:Cn:=⟨[.val aA,.val .str],[(.int .i64)],true,false,fun x=>f k x.1 x.2.1⟩
def E:gq:=en [] [(2,[1,2,5])] 0 [] k
section
variable (a0:Ty.d aA) (a1:ByteArray)
def K0:Ex→St→Rs:=bi (E k) (eK (E k) Tryz.f105 (C k) (a0,a1,())) [.blk 0,.code (bh Tryz.f105 2 3)]
def V0 (n0:Nat):T0:=fun x0 x1 x2 x3 x4 x5=>an (bP (E k) (bh Tryz.f105 5 5)) (ae 0 [1,2,5]) (K0 k a0 a1) n0 (mk 22 1 [(1,.str x0),(2,.ptr 0 0 0),(5,.int .i64 x1)] [(0,.box [.sl true aE x2,.int .i64 x3,.int .i64 x4,.bool x5])])
theorem e0:V0 k a0 a1=l0 k:=aR (b:=b0 k) rfl (fun _=>by kernel_rfl) fun _=>rfl
end
theorem ctr:Cp 105 (C k):=ry [] (E:=E k) rfl rfl Tryz.func105 rfl fun ⟨a0,a1,_⟩=>(show _=t k (V0 k a0 a1 k) a0 a1 by kernel_rfl).trans (by rw [e0];rfl)
end bY
namespace cD
def C:Cn:=⟨[.val aA,.val .str],[.str,.bool],true,false,fun x=>f k x.1 x.2.1⟩
def D:List Ce:=[q (bQ.ctr k),q (bY.ctr k)]
theorem ctr:Cp 52 (C k):=rz k rfl (D k) Tryz.func52 rfl fun _=>by kernel_rfl
end cD
namespace ek
def C:Cn:=⟨[.val (.int .i64)],[.str],true,false,fun x=>f k x.1⟩
def E:gq:=en [] [(5,[0,3,4])] 0 [] k
section
variable (a0:Int)
def K0:Ex→St→Rs:=bi (E k) (eK (E k) Tryz.f111 (C k) (a0,())) [.blk 0,.code (bh Tryz.f111 5 31)]
def V0 (n0:Nat):T0:=fun x0 x1 x2=>an (bP (E k) (bh Tryz.f111 7 15)) (ae 0 [0,3,4]) (K0 k a0) n0 (mk 31 0 [(0,.int .i64 x0),(3,.str x1),(4,.bool x2)] [])
theorem e0:V0 k a0=l0 k:=aR (b:=b0 k) rfl (fun _=>by kernel_rfl) fun _=>rfl
end
theorem ctr:Cp 111 (C k):=ry [] (E:=E k) rfl rfl Tryz.func111 rfl fun ⟨a0,_⟩=>(show _=t k (V0 k a0 k) a0 by kernel_rfl).trans (by rw [e0];rfl)
end ek
namespace fZ
def C:Cn:=⟨[.val .str],[(.int .i64),.bool],true,false,fun x=>f k x.1⟩
def D:List Ce:=[q (ek.ctr k)]
def E:gq:=en (D k) [(4,[0,4,5,6])] 0 [] k
section
variable (a0:ByteArray)
def K0:Ex→St→Rs:=bi (E k) (eK (E k) Tryz.f230 (C k) (a0,())) [.blk 0,.code (bh Tryz.f230 4 15)]
def V0 (n0:Nat):T0:=fun x0 x1 x2 x3=>an (bP (E k) (bh Tryz.f230 7 23)) (ae 0 [0,4,5,6]) (K0 k a0) n0 (mk 61 0 [(0,.str x0),(4,.int .i64 x1),(5,.int .i64 x2),(6,.int .i64 x3)] [])
theorem e0:V0 k a0=l0 k:=aR (b:=b0 k) rfl (fun _=>by kernel_rfl) fun _=>rfl
end
theorem ctr:Cp 230 (C k):=ry (D k) (E:=E k) rfl rfl Tryz.func230 rfl fun ⟨a0,_⟩=>(show _=t k (V0 k a0 k) a0 by kernel_rfl).trans (by rw [e0];rfl)
end fZ
namespace aa
def C:Cn:=⟨[.val (.int .i64)],[.str],true,false,fun x=>f k x.1⟩
def D:List Ce:=[q (aS.ctr k),q (ek.ctr k)]
theorem ctr:Cp 55 (C k):=rz k rfl (D k) Tryz.func55 rfl fun _=>by kernel_rfl
end aa
namespace dO
def C:Cn:=⟨[.val (.int .i64)],[.str],true,false,fun x=>f k x.1⟩
def D:List Ce:=[q (aS.ctr k),q (ek.ctr k)]
theorem ctr:Cp 60 (C k):=rz k rfl (D k) Tryz.func60 rfl fun _=>by kernel_rfl
end dO
namespace iz
def C:Cn:=⟨[.val .str],[(.int .i64),.bool],true,false,fun x=>f k x.1⟩
def D:List Ce:=[q (fZ.ctr k),q (aa.ctr k),q (dO.ctr k)]
def E:gq:=en (D k) [(2,[0,4])] 0 [] k
section
variable (a0:ByteArray)
def K0:Ex→St→Rs:=bi (E k) (eK (E k) Tryz.f187 (C k) (a0,())) [.blk 0,.code (bh Tryz.f187 2 3)]
def V0 (n0:Nat):T0:=fun x0 x1=>an (bP (E k) (bh Tryz.f187 5 5)) (ae 0 [0,4]) (K0 k a0) n0 (mk 40 0 [(0,.str x0),(4,.int .i64 x1)] [])
theorem e0:V0 k a0=l0 k:=aR (b:=b0 k) rfl (fun _=>by kernel_rfl) fun _=>rfl
end
theorem ctr:Cp 187 (C k):=ry (D k) (E:=E k) rfl rfl Tryz.func187 rfl fun ⟨a0,_⟩=>(show _=t k (V0 k a0 k) a0 by kernel_rfl).trans (by rw [e0];rfl)
end iz
namespace bX
def C:Cn:=⟨[.val aA,.val bL],[(.slice .str)],true,false,fun x=>f k x.1 x.2.1⟩
def D:List Ce:=[q (bQ.ctr k),q (iz.ctr k)]
def E:gq:=en (D k) [(5,[2,3,5,6]),(10,[2,3,5,6,7,8,9,10])] 0 [] k
section
variable (a0:Ty.d aA) (a1:Ty.d bL)
def K0:Ex→St→Rs:=bi (E k) (eK (E k) Tryz.f123 (C k) (a0,a1,())) [.blk 0,.code (bh Tryz.f123 4 15)]
def B0 (n0:Nat):Ex→St→Rs:=NQ (E k) (bh Tryz.f123 7 23) 0 [2,3,5,6] (K0 k a0 a1) n0
def K1 (n0:Nat):Ex→St→Rs:=bi (E k) (B0 k a0 a1 n0) [.blk 2,.code (bh Tryz.f123 13 7319),.blk 1,.code (bh Tryz.f123 9 407)]
def V0 (n0:Nat):T0:=fun x0 x1 x2 x3 x4 x5 x6 x7=>an (bP (E k) (bh Tryz.f123 7 23)) (ae 0 [2,3,5,6]) (K0 k a0 a1) n0 (mk 74 3 [(2,.ptr 0 0 0),(3,.ptr 1 0 0),(5,.ref 2),(6,.int .i64 x0)] [(0,.box [.sl true aE x1,.int .i64 x2,.int .i64 x3,.bool x4]),(1,.box [.int .i64 x5,.sl true (.int .i64) x6]),(2,.own false .str x7)])
def V1 (n0 n1:Nat):T1:=fun x0 x1 x2 x3 x4 x5 x6 x7 x8 x9 x10 x11=>an (bP (E k) (bh Tryz.f123 16 11415)) (ae 0 [2,3,5,6,7,8,9,10]) (K1 k a0 a1 n0) n1 (mk 74 3 [(2,.ptr 0 0 0),(3,.ptr 1 0 0),(5,.ref 2),(6,.int .i64 x0),(7,.int .i64 x1),(8,.bool x2),(9,.bool x3),(10,.int .i64 x4)] [(0,.box [.sl true aE x5,.int .i64 x6,.int .i64 x7,.bool x8]),(1,.box [.int .i64 x9,.sl true (.int .i64) x10]),(2,.own false .str x11)])
theorem e1 (n0:Nat):V1 k a0 a1 n0=l1 k (V0 k a0 a1 n0):=aR (b:=b1 k (V0 k a0 a1 n0)) rfl (fun _=>by kernel_rfl) fun _=>rfl
theorem e0 (n0:Nat):V0 k a0 a1 n0=l0 k n0:=by
 induction n0 with
 | zero=>rfl
 | succ n0 ih =>
  have h:V0 k a0 a1 (n0+1)=b0 k (V1 k a0 a1 n0 k) (V0 k a0 a1 n0):=by kernel_rfl
  rw [h,e1,ih];rfl
end
theorem ctr:Cp 123 (C k):=ry (D k) (E:=E k) rfl rfl Tryz.func123 rfl fun ⟨a0,a1,_⟩=>(show _=t k (V0 k a0 a1 k) a0 a1 by kernel_rfl).trans (by rw [e0];rfl)
end bX
namespace dZ
def C:Cn:=⟨[.val aA],[aA,(.int .i64)],true,false,fun x=>f k x.1⟩
def D:List Ce:=[q (cC.ctr k),q (bQ.ctr k)]
theorem ctr:Cp 113 (C k):=rz k rfl (D k) Tryz.func113 rfl fun _=>by kernel_rfl
end dZ
namespace fo
def C:Cn:=⟨[.val (.slice aE),.val (.int .i64)],[(.slice aE)],true,false,fun x=>f k x.1 x.2.1⟩
theorem ctr:Cp 188 (C k):=rz k rfl [] Tryz.func188 rfl fun _=>by kernel_rfl
end fo
namespace fp
def C:Cn:=⟨[.val aA,.val .str],[aA,(.int .i64)],true,false,fun x=>f k x.1 x.2.1⟩
def D:List Ce:=[q (dZ.ctr k),q (bY.ctr k),q (fo.ctr k)]
theorem ctr:Cp 124 (C k):=rz k rfl (D k) Tryz.func124 rfl fun _=>by kernel_rfl
end fp
namespace aY
def C:Cn:=⟨[.val (.int .i64)],[(.int .i64)],true,false,fun x=>f k x.1⟩
theorem ctr:Cp 58 (C k):=rz k rfl [] Tryz.func58 rfl fun _=>by kernel_rfl
end aY
namespace fP
def C:Cn:=⟨[.val aA,.val bL],[aA,(.int .i64)],false,true,fun x=>f k x.1 x.2.1⟩
def D:List Ce:=[q (bX.ctr k),q (fp.ctr k),q (aY.ctr k)]
def E:gq:=en (D k) [(3,[2,4,6,7])] 0 [] k
section
variable (a0:Ty.d aA) (a1:Ty.d bL)
def K0:Ex→St→Rs:=bi (E k) (eK (E k) Tryz.f65 (C k) (a0,a1,())) [.blk 0,.code (bh Tryz.f65 3 7)]
def V0 (n0:Nat):T0:=fun x0 x1 x2 x3 x4 x5 x6 x7 x8 x9=>an (bP (E k) (bh Tryz.f65 6 11)) (ae 0 [2,4,6,7]) (K0 k a0 a1) n0 (mk 35 4 [(2,.ptr 0 0 0),(4,.ptr 1 0 0),(6,.ref 3),(7,.int .i64 x0)] [(0,.box [.sl true aE x1,.int .i64 x2,.int .i64 x3,.bool x4]),(2,.own false aE x5),(1,.box [.ref 2,.int .i64 x6,.int .i64 x7,.bool x8]),(3,.own false .str x9)])
def V1 (n0:Nat):T1:=fun x0 x1 x2 x3 x4 x5 x6 x7 x8 x9=>an (bP (E k) (bh Tryz.f65 6 11)) (ae 0 [2,4,6,7]) (K0 k a0 a1) n0 (mk 35 5 [(2,.ptr 0 0 0),(4,.ptr 2 0 0),(6,.ref 4),(7,.int .i64 x0)] [(1,.own false aE x1),(0,.box [.ref 1,.int .i64 x2,.int .i64 x3,.bool x4]),(3,.own false aE x5),(2,.box [.ref 3,.int .i64 x6,.int .i64 x7,.bool x8]),(4,.own false .str x9)])
theorem e1:V1 k a0 a1=l1 k:=aR (b:=b1 k) rfl (fun _=>by kernel_rfl) fun _=>rfl
theorem e0 (n0:Nat):V0 k a0 a1 n0=l0 k n0:=by
 induction n0 with
 | zero=>rfl
 | succ n0 ih =>
  have h:V0 k a0 a1 (n0+1)=b0 k (V1 k a0 a1 n0):=by kernel_rfl
  rw [h,e1];rfl
end
theorem ctr:Cp 65 (C k):=ry (D k) (E:=E k) rfl rfl Tryz.func65 rfl fun ⟨a0,a1,_⟩=>(show _=t k (V0 k a0 a1 k) a0 a1 by kernel_rfl).trans (by rw [e0];rfl)
end fP
namespace dm
def C:Cn:=⟨[.val (.slice aE),.val aE],[(.slice aE)],true,false,fun x=>f k x.1 x.2.1⟩
def E:gq:=en [] [(4,[0,3,5,6,7])] 0 [] k
section
variable (a0:List (Ty.d aE)) (a1:Ty.d aE)
def K0:Ex→St→Rs:=bi (E k) (eK (E k) Tryz.f172 (C k) (a0,a1,())) [.blk 0,.code (bh Tryz.f172 4 15)]
def V0 (n0:Nat):T0:=fun x0 x1 x2 x3 x4 x5 x6=>an (bP (E k) (bh Tryz.f172 7 23)) (ae 0 [0,3,5,6,7]) (K0 k a0 a1) n0 (mk 45 2 [(0,.sl true aE x0),(3,.ptr 0 0 0),(5,.ref 1),(6,.bool x1),(7,.int .i64 x2)] [(0,.box [.str x3,.str x4,.int .i64 x5]),(1,.own false aE x6)])
theorem e0:V0 k a0 a1=l0 k:=aR (b:=b0 k) rfl (fun _=>by kernel_rfl) fun _=>rfl
end
theorem ctr:Cp 172 (C k):=ry [] (E:=E k) rfl rfl Tryz.func172 rfl fun ⟨a0,a1,_⟩=>(show _=t k (V0 k a0 a1 k) a0 a1 by kernel_rfl).trans (by rw [e0];rfl)
end dm
namespace iv
def C:Cn:=⟨[.val aA,.val .str],[aA,(.int .i64)],true,false,fun x=>f k x.1 x.2.1⟩
def D:List Ce:=[q (dZ.ctr k),q (eg.ctr k),q (bY.ctr k),q (dm.ctr k)]
theorem ctr:Cp 106 (C k):=rz k rfl (D k) Tryz.func106 rfl fun _=>by kernel_rfl
end iv
namespace dy
def C:Cn:=⟨[.val bL],[.bool],true,false,fun x=>f k x.1⟩
def D:List Ce:=[q (aS.ctr k)]
def E:gq:=en (D k) [(4,[1,3])] 0 [] k
section
variable (a0:Ty.d bL)
def K0:Ex→St→Rs:=bi (E k) (eK (E k) Tryz.f173 (C k) (a0,())) [.blk 0,.code (bh Tryz.f173 3 7)]
def V0 (n0:Nat):T0:=fun x0 x1 x2=>an (bP (E k) (bh Tryz.f173 6 11)) (ae 0 [1,3]) (K0 k a0) n0 (mk 50 1 [(1,.ptr 0 0 0),(3,.int .i64 x0)] [(0,.box [.int .i64 x1,.sl true (.int .i64) x2])])
theorem e0:V0 k a0=l0 k:=aR (b:=b0 k) rfl (fun _=>by kernel_rfl) fun _=>rfl
end
theorem ctr:Cp 173 (C k):=ry (D k) (E:=E k) rfl rfl Tryz.func173 rfl fun ⟨a0,_⟩=>(show _=t k (V0 k a0 k) a0 by kernel_rfl).trans (by rw [e0];rfl)
end dy
namespace bw
def C:Cn:=⟨[.val (.int .i64)],[.str],true,false,fun x=>f k x.1⟩
def D:List Ce:=[q (aS.ctr k)]
def E:gq:=en (D k) [(4,[0,3])] 0 [] k
section
variable (a0:Int)
def K0:Ex→St→Rs:=bi (E k) (eK (E k) Tryz.f177 (C k) (a0,())) [.blk 0,.code (bh Tryz.f177 4 15)]
def V0 (n0:Nat):T0:=fun x0 x1=>an (bP (E k) (bh Tryz.f177 6 7)) (ae 0 [0,3]) (K0 k a0) n0 (mk 25 1 [(0,.int .i64 x0),(3,.ref 0)] [(0,.own false (.int .u8) x1)])
theorem e0:V0 k a0=l0 k:=aR (b:=b0 k) rfl (fun _=>by kernel_rfl) fun _=>rfl
end
theorem ctr:Cp 177 (C k):=ry (D k) (E:=E k) rfl rfl Tryz.func177 rfl fun ⟨a0,_⟩=>(show _=t k (V0 k a0 k) a0 by kernel_rfl).trans (by rw [e0];rfl)
end bw
namespace gz
def C:Cn:=⟨[.val .str],[(.int .i64)],true,false,fun x=>f k x.1⟩
def E:gq:=en [] [(3,[0,3,4]),(7,[0,3,4,5])] 0 [] k
section
variable (a0:ByteArray)
def K0:Ex→St→Rs:=bi (E k) (eK (E k) Tryz.f182 (C k) (a0,())) [.blk 0,.code (bh Tryz.f182 3 7)]
def B0 (n0:Nat):Ex→St→Rs:=NQ (E k) (bh Tryz.f182 6 11) 0 [0,3,4] (K0 k a0) n0
def K1 (n0:Nat):Ex→St→Rs:=bi (E k) (B0 k a0 n0) [.blk 2,.blk 1,.code (bh Tryz.f182 8 203)]
def V0 (n0:Nat):T0:=fun x0 x1 x2=>an (bP (E k) (bh Tryz.f182 6 11)) (ae 0 [0,3,4]) (K0 k a0) n0 (mk 33 0 [(0,.str x0),(3,.int .i64 x1),(4,.int .i64 x2)] [])
def V1 (n0 n1:Nat):T1:=fun x0 x1 x2 x3=>an (bP (E k) (bh Tryz.f182 13 1611)) (ae 0 [0,3,4,5]) (K1 k a0 n0) n1 (mk 33 0 [(0,.str x0),(3,.int .i64 x1),(4,.int .i64 x2),(5,.int .i64 x3)] [])
theorem e1 (n0:Nat):V1 k a0 n0=l1 k (V0 k a0 n0):=aR (b:=b1 k (V0 k a0 n0)) rfl (fun _=>by kernel_rfl) fun _=>rfl
theorem e0 (n0:Nat):V0 k a0 n0=l0 k n0:=by
 induction n0 with
 | zero=>rfl
 | succ n0 ih =>
  have h:V0 k a0 (n0+1)=b0 k (V1 k a0 n0 k) (V0 k a0 n0):=by kernel_rfl
  rw [h,e1,ih];rfl
end
theorem ctr:Cp 182 (C k):=ry [] (E:=E k) rfl rfl Tryz.func182 rfl fun ⟨a0,_⟩=>(show _=t k (V0 k a0 k) a0 by kernel_rfl).trans (by rw [e0];rfl)
end gz
namespace eH
def C:Cn:=⟨[.val (.int .i64),.val (.int .i64)],[.str],true,false,fun x=>f k x.1 x.2.1⟩
def D:List Ce:=[q (aS.ctr k)]
def E:gq:=en (D k) [(5,[0,1,5,6])] 0 [] k
section
variable (a0:Int) (a1:Int)
def K0:Ex→St→Rs:=bi (E k) (eK (E k) Tryz.f181 (C k) (a0,a1,())) [.blk 0,.code (bh Tryz.f181 4 15)]
def V0 (n0:Nat):T0:=fun x0 x1 x2 x3=>an (bP (E k) (bh Tryz.f181 7 23)) (ae 0 [0,1,5,6]) (K0 k a0 a1) n0 (mk 31 0 [(0,.int .i64 x0),(1,.int .i64 x1),(5,.str x2),(6,.int .i64 x3)] [])
theorem e0:V0 k a0 a1=l0 k:=aR (b:=b0 k) rfl (fun _=>by kernel_rfl) fun _=>rfl
end
theorem ctr:Cp 181 (C k):=ry (D k) (E:=E k) rfl rfl Tryz.func181 rfl fun ⟨a0,a1,_⟩=>(show _=t k (V0 k a0 a1 k) a0 a1 by kernel_rfl).trans (by rw [e0];rfl)
end eH
namespace gR
def C:Cn:=⟨[.val .str],[.str],true,false,fun x=>f k x.1⟩
def D:List Ce:=[q (bw.ctr k),q (gz.ctr k),q (eH.ctr k)]
theorem ctr:Cp 176 (C k):=rz k rfl (D k) Tryz.func176 rfl fun _=>by kernel_rfl
end gR
namespace dk
def C:Cn:=⟨[.val bL],[.str],true,false,fun x=>f k x.1⟩
def D:List Ce:=[q (dy.ctr k),q (bw.ctr k),q (gR.ctr k)]
def E:gq:=en (D k) [(5,[1,3,4])] 0 [] k
section
variable (a0:Ty.d bL)
def K0:Ex→St→Rs:=bi (E k) (eK (E k) Tryz.f110 (C k) (a0,())) [.blk 0,.code (bh Tryz.f110 4 15)]
def V0 (n0:Nat):T0:=fun x0 x1 x2 x3=>an (bP (E k) (bh Tryz.f110 7 23)) (ae 0 [1,3,4]) (K0 k a0) n0 (mk 33 1 [(1,.ptr 0 0 0),(3,.str x0),(4,.int .i64 x1)] [(0,.box [.int .i64 x2,.sl true (.int .i64) x3])])
theorem e0:V0 k a0=l0 k:=aR (b:=b0 k) rfl (fun _=>by kernel_rfl) fun _=>rfl
end
theorem ctr:Cp 110 (C k):=ry (D k) (E:=E k) rfl rfl Tryz.func110 rfl fun ⟨a0,_⟩=>(show _=t k (V0 k a0 k) a0 by kernel_rfl).trans (by rw [e0];rfl)
end dk
namespace eX
def C:Cn:=⟨[.val aA,.val .str],[aA,(.int .i64)],true,false,fun x=>f k x.1 x.2.1⟩
def D:List Ce:=[q (bY.ctr k),q (fp.ctr k),q (iv.ctr k)]
theorem ctr:Cp 193 (C k):=rz k rfl (D k) Tryz.func193 rfl fun _=>by kernel_rfl
end eX
namespace eo
def C:Cn:=⟨[.val aA,.val .str,.val .str],[aA,(.int .i64)],true,false,fun x=>f k x.1 x.2.1 x.2.2.1⟩
def D:List Ce:=[q (dZ.ctr k),q (bY.ctr k),q (eh.ctr k)]
theorem ctr:Cp 228 (C k):=rz k rfl (D k) Tryz.func228 rfl fun _=>by kernel_rfl
end eo
namespace fN
def C:Cn:=⟨[.val aA,.val .str],[aA,(.int .i64)],true,false,fun x=>f k x.1 x.2.1⟩
def D:List Ce:=[q (dZ.ctr k),q (bY.ctr k)]
theorem ctr:Cp 59 (C k):=rz k rfl (D k) Tryz.func59 rfl fun _=>by kernel_rfl
end fN
namespace ik
def C:Cn:=⟨[.val aA,.val .str,.val .str],[aA,(.int .i64)],true,false,fun x=>f k x.1 x.2.1 x.2.2.1⟩
def D:List Ce:=[q (eX.ctr k),q (eo.ctr k),q (fN.ctr k)]
theorem ctr:Cp 174 (C k):=rz k rfl (D k) Tryz.func174 rfl fun _=>by kernel_rfl
end ik
namespace kl
def C:Cn:=⟨[.val aA,.val .str,.val .str],[aA,(.int .i64)],true,false,fun x=>f k x.1 x.2.1 x.2.2.1⟩
def D:List Ce:=[q (dZ.ctr k),q (eg.ctr k),q (bY.ctr k),q (fo.ctr k),q (dm.ctr k)]
theorem ctr:Cp 175 (C k):=rz k rfl (D k) Tryz.func175 rfl fun _=>by kernel_rfl
end kl
namespace fa
def C:Cn:=⟨[.val aA,.val bL],[aA,(.int .i64)],true,false,fun x=>f k x.1 x.2.1⟩
def D:List Ce:=[q (bQ.ctr k),q (cC.ctr k),q (dy.ctr k),q (dk.ctr k),q (ik.ctr k),q (kl.ctr k),q (aY.ctr k)]
theorem ctr:Cp 107 (C k):=rz k rfl (D k) Tryz.func107 rfl fun _=>by kernel_rfl
end fa
namespace jT
def C:Cn:=⟨[.val aA],[aG,aA,(.int .i64)],false,true,fun x=>f k x.1⟩
def D:List Ce:=[q (fP.ctr k),q (aa.ctr k),q (iv.ctr k),q (aY.ctr k),q (fa.ctr k)]
theorem ctr:Cp 53 (C k):=rz k rfl (D k) Tryz.func53 rfl fun _=>by kernel_rfl
end jT
namespace aw
def C:Cn:=⟨[.val .str],[(.int .i64),(.int .i64)],true,false,fun x=>f k x.1⟩
def D:List Ce:=[q (bw.ctr k)]
def E:gq:=en (D k) [(2,[0,4]),(6,[0,4,5,6])] 0 [] k
section
variable (a0:ByteArray)
def K0:Ex→St→Rs:=bi (E k) (eK (E k) Tryz.f109 (C k) (a0,())) [.blk 0,.code (bh Tryz.f109 2 3)]
def B0 (n0:Nat):Ex→St→Rs:=NQ (E k) (bh Tryz.f109 5 5) 0 [0,4] (K0 k a0) n0
def K1 (n0:Nat):Ex→St→Rs:=bi (E k) (B0 k a0 n0) [.blk 2,.code (bh Tryz.f109 10 805),.blk 1,.code (bh Tryz.f109 7 101)]
def V0 (n0:Nat):T0:=fun x0 x1=>an (bP (E k) (bh Tryz.f109 5 5)) (ae 0 [0,4]) (K0 k a0) n0 (mk 39 0 [(0,.str x0),(4,.int .i64 x1)] [])
def V1 (n0 n1:Nat):T1:=fun x0 x1 x2 x3=>an (bP (E k) (bh Tryz.f109 13 1317)) (ae 0 [0,4,5,6]) (K1 k a0 n0) n1 (mk 39 0 [(0,.str x0),(4,.int .i64 x1),(5,.int .i64 x2),(6,.int .i64 x3)] [])
theorem e1 (n0:Nat):V1 k a0 n0=l1 k (V0 k a0 n0):=aR (b:=b1 k (V0 k a0 n0)) rfl (fun _=>by kernel_rfl) fun _=>rfl
theorem e0 (n0:Nat):V0 k a0 n0=l0 k n0:=by
 induction n0 with
 | zero=>rfl
 | succ n0 ih =>
  have h:V0 k a0 (n0+1)=b0 k (V1 k a0 n0 k) (V0 k a0 n0):=by kernel_rfl
  rw [h,e1,ih];rfl
end
theorem ctr:Cp 109 (C k):=ry (D k) (E:=E k) rfl rfl Tryz.func109 rfl fun ⟨a0,_⟩=>(show _=t k (V0 k a0 k) a0 by kernel_rfl).trans (by rw [e0];rfl)
end aw
namespace eP
def C:Cn:=⟨[.val .str],[.str,(.int .i64)],true,false,fun x=>f k x.1⟩
def D:List Ce:=[q (aw.ctr k),q (gR.ctr k)]
theorem ctr:Cp 108 (C k):=rz k rfl (D k) Tryz.func108 rfl fun _=>by kernel_rfl
end eP
namespace bf
def C:Cn:=⟨[.val .str],[bL,.bool],true,false,fun x=>f k x.1⟩
def D:List Ce:=[q (eP.ctr k),q (aw.ctr k),q (dk.ctr k)]
def E:gq:=en (D k) [(9,[0,2,4,8,10,11,12])] 0 [] k
section
variable (a0:ByteArray)
def K0:Ex→St→Rs:=bi (E k) (eK (E k) Tryz.f54 (C k) (a0,())) [.blk 0,.code (bh Tryz.f54 8 255)]
def V0 (n0:Nat):T0:=fun x0 x1 x2 x3 x4 x5 x6 x7 x8=>an (bP (E k) (bh Tryz.f54 11 383)) (ae 0 [0,2,4,8,10,11,12]) (K0 k a0) n0 (mk 81 4 [(0,.str x0),(2,.ptr 0 0 0),(4,.str x1),(8,.int .i64 x2),(10,.ptr 2 0 0),(11,.int .i64 x3),(12,.int .i64 x4)] [(1,.own false (.int .i64) x5),(0,.box [.int .i64 x6,.ref 1]),(3,.own false (.int .i64) x7),(2,.box [.int .i64 x8,.ref 3])])
theorem e0:V0 k a0=l0 k:=aR (b:=b0 k) rfl (fun _=>by kernel_rfl) fun _=>rfl
end
theorem ctr:Cp 54 (C k):=ry (D k) (E:=E k) rfl rfl Tryz.func54 rfl fun ⟨a0,_⟩=>(show _=t k (V0 k a0 k) a0 by kernel_rfl).trans (by rw [e0];rfl)
end bf
namespace dE
def C:Cn:=⟨[.val .str],[.str,.str,.bool],true,false,fun x=>f k x.1⟩
def D:List Ce:=[q (aw.ctr k)]
theorem ctr:Cp 115 (C k):=rz k rfl (D k) Tryz.func115 rfl fun _=>by kernel_rfl
end dE
namespace dA
def C:Cn:=⟨[.val .str],[.bool],true,false,fun x=>f k x.1⟩
def D:List Ce:=[q (aS.ctr k)]
theorem ctr:Cp 128 (C k):=rz k rfl (D k) Tryz.func128 rfl fun _=>by kernel_rfl
end dA
namespace ll
def C:Cn:=⟨[.val bR],[.bool],true,false,fun x=>f k x.1⟩
def D:List Ce:=[q (aS.ctr k),q (dA.ctr k)]
theorem ctr:Cp 229 (C k):=rz k rfl (D k) Tryz.func229 rfl fun _=>by kernel_rfl
end ll
namespace cg
def C:Cn:=⟨[.val bR],[.str],true,false,fun x=>f k x.1⟩
def D:List Ce:=[q (ll.ctr k),q (bw.ctr k),q (eH.ctr k)]
theorem ctr:Cp 179 (C k):=rz k rfl (D k) Tryz.func179 rfl fun _=>by kernel_rfl
end cg
namespace br
def C:Cn:=⟨[.val .str,.val (.int .i64)],[(.int .i64),.bool],true,false,fun x=>f k x.1 x.2.1⟩
def D:List Ce:=[q (aS.ctr k)]
def E:gq:=en (D k) [(5,[0,1,6,7])] 0 [] k
section
variable (a0:ByteArray) (a1:Int)
def K0:Ex→St→Rs:=bi (E k) (eK (E k) Tryz.f178 (C k) (a0,a1,())) [.blk 0,.code (bh Tryz.f178 4 15)]
def V0 (n0:Nat):T0:=fun x0 x1 x2 x3=>an (bP (E k) (bh Tryz.f178 7 23)) (ae 0 [0,1,6,7]) (K0 k a0 a1) n0 (mk 30 0 [(0,.str x0),(1,.int .i64 x1),(6,.int .i64 x2),(7,.int .i64 x3)] [])
theorem e0:V0 k a0 a1=l0 k:=aR (b:=b0 k) rfl (fun _=>by kernel_rfl) fun _=>rfl
end
theorem ctr:Cp 178 (C k):=ry (D k) (E:=E k) rfl rfl Tryz.func178 rfl fun ⟨a0,a1,_⟩=>(show _=t k (V0 k a0 a1 k) a0 a1 by kernel_rfl).trans (by rw [e0];rfl)
end br
namespace fE
def C:Cn:=⟨[.val .str],[bR,.bool],true,false,fun x=>f k x.1⟩
def D:List Ce:=[q (aw.ctr k),q (dE.ctr k),q (cg.ctr k),q (br.ctr k)]
theorem ctr:Cp 112 (C k):=rz k rfl (D k) Tryz.func112 rfl fun _=>by kernel_rfl
end fE
namespace bp
def C:Cn:=⟨[.val .str],[(.slice bU),(.int .i64)],true,false,fun x=>f k x.1⟩
def D:List Ce:=[q (eP.ctr k),q (fE.ctr k)]
def E:gq:=en (D k) [(3,[0,4,5])] 0 [] k
section
variable (a0:ByteArray)
def K0:Ex→St→Rs:=bi (E k) (eK (E k) Tryz.f56 (C k) (a0,())) [.blk 0,.code (bh Tryz.f56 4 15)]
def V0 (n0:Nat):T0:=fun x0 x1 x2=>an (bP (E k) (bh Tryz.f56 6 7)) (ae 0 [0,4,5]) (K0 k a0) n0 (mk 47 1 [(0,.str x0),(4,.ref 0),(5,.int .i64 x1)] [(0,.own false bU x2)])
theorem e0:V0 k a0=l0 k:=aR (b:=b0 k) rfl (fun _=>by kernel_rfl) fun _=>rfl
end
theorem ctr:Cp 56 (C k):=ry (D k) (E:=E k) rfl rfl Tryz.func56 rfl fun ⟨a0,_⟩=>(show _=t k (V0 k a0 k) a0 by kernel_rfl).trans (by rw [e0];rfl)
end bp
namespace jR
def C:Cn:=⟨[.val aA,.val .str,.val (.int .i64)],[aA,(.int .i64)],true,false,fun x=>f k x.1 x.2.1 x.2.2.1⟩
def D:List Ce:=[q (dZ.ctr k),q (bY.ctr k),q (aS.ctr k)]
theorem ctr:Cp 57 (C k):=rz k rfl (D k) Tryz.func57 rfl fun _=>by kernel_rfl
end jR
namespace c_
def C:Cn:=⟨[.val .str,.val (.int .i64),.val (.int .i64)],[(.slice (.int .i64)),(.int .i64)],true,false,fun x=>f k x.1 x.2.1 x.2.2.1⟩
def D:List Ce:=[q (aw.ctr k)]
def E:gq:=en (D k) [(3,[0,1,2,8,9])] 0 [] k
section
variable (a0:ByteArray) (a1:Int) (a2:Int)
def K0:Ex→St→Rs:=bi (E k) (eK (E k) Tryz.f114 (C k) (a0,a1,a2,())) [.blk 0,.code (bh Tryz.f114 3 7)]
def V0 (n0:Nat):T0:=fun x0 x1 x2 x3 x4=>an (bP (E k) (bh Tryz.f114 6 11)) (ae 0 [0,1,2,8,9]) (K0 k a0 a1 a2) n0 (mk 38 1 [(0,.str x0),(1,.int .i64 x1),(2,.int .i64 x2),(8,.ref 0),(9,.int .i64 x3)] [(0,.own false (.int .i64) x4)])
theorem e0:V0 k a0 a1 a2=l0 k:=aR (b:=b0 k) rfl (fun _=>by kernel_rfl) fun _=>rfl
end
theorem ctr:Cp 114 (C k):=ry (D k) (E:=E k) rfl rfl Tryz.func114 rfl fun ⟨a0,a1,a2,_⟩=>(show _=t k (V0 k a0 a1 a2 k) a0 a1 a2 by kernel_rfl).trans (by rw [e0];rfl)
end c_
namespace fy
def C:Cn:=⟨[.val (.slice a_)],[.bool],true,false,fun x=>f k x.1⟩
def D:List Ce:=[q (dA.ctr k),q (aS.ctr k)]
def E:gq:=en (D k) [(4,[0,3])] 0 [] k
section
variable (a0:List (Ty.d a_))
def K0:Ex→St→Rs:=bi (E k) (eK (E k) Tryz.f189 (C k) (a0,())) [.blk 0,.code (bh Tryz.f189 3 7)]
def V0 (n0:Nat):T0:=fun x0 x1=>an (bP (E k) (bh Tryz.f189 6 11)) (ae 0 [0,3]) (K0 k a0) n0 (mk 60 0 [(0,.sl true a_ x0),(3,.int .i64 x1)] [])
theorem e0:V0 k a0=l0 k:=aR (b:=b0 k) rfl (fun _=>by kernel_rfl) fun _=>rfl
end
theorem ctr:Cp 189 (C k):=ry (D k) (E:=E k) rfl rfl Tryz.func189 rfl fun ⟨a0,_⟩=>(show _=t k (V0 k a0 k) a0 by kernel_rfl).trans (by rw [e0];rfl)
end fy
namespace iS
def C:Cn:=⟨[.val fV],[.bool],true,false,fun x=>f k x.1⟩
def D:List Ce:=[q (aS.ctr k),q (fy.ctr k)]
def E:gq:=en (D k) [(4,[1,3])] 0 [] k
section
variable (a0:Ty.d fV)
def K0:Ex→St→Rs:=bi (E k) (eK (E k) Tryz.f180 (C k) (a0,())) [.blk 0,.code (bh Tryz.f180 3 7)]
def V0 (n0:Nat):T0:=fun x0 x1 x2 x3=>an (bP (E k) (bh Tryz.f180 6 11)) (ae 0 [1,3]) (K0 k a0) n0 (mk 48 1 [(1,.ptr 0 0 0),(3,.int .i64 x0)] [(0,.box [.int .i64 x1,.int .i64 x2,.sl true a_ x3])])
theorem e0:V0 k a0=l0 k:=aR (b:=b0 k) rfl (fun _=>by kernel_rfl) fun _=>rfl
end
theorem ctr:Cp 180 (C k):=ry (D k) (E:=E k) rfl rfl Tryz.func180 rfl fun ⟨a0,_⟩=>(show _=t k (V0 k a0 k) a0 by kernel_rfl).trans (by rw [e0];rfl)
end iS
namespace eJ
def C:Cn:=⟨[.val fV],[.str],true,false,fun x=>f k x.1⟩
def D:List Ce:=[q (iS.ctr k),q (bw.ctr k),q (gz.ctr k),q (eH.ctr k)]
def E:gq:=en (D k) [(5,[1,3,4])] 0 [] k
section
variable (a0:Ty.d fV)
def K0:Ex→St→Rs:=bi (E k) (eK (E k) Tryz.f116 (C k) (a0,())) [.blk 0,.code (bh Tryz.f116 4 15)]
def V0 (n0:Nat):T0:=fun x0 x1 x2 x3 x4=>an (bP (E k) (bh Tryz.f116 7 23)) (ae 0 [1,3,4]) (K0 k a0) n0 (mk 63 1 [(1,.ptr 0 0 0),(3,.str x0),(4,.int .i64 x1)] [(0,.box [.int .i64 x2,.int .i64 x3,.sl true a_ x4])])
theorem e0:V0 k a0=l0 k:=aR (b:=b0 k) rfl (fun _=>by kernel_rfl) fun _=>rfl
end
theorem ctr:Cp 116 (C k):=ry (D k) (E:=E k) rfl rfl Tryz.func116 rfl fun ⟨a0,_⟩=>(show _=t k (V0 k a0 k) a0 by kernel_rfl).trans (by rw [e0];rfl)
end eJ
namespace bd
def C:Cn:=⟨[.val .str],[fV,.bool],true,false,fun x=>f k x.1⟩
def D:List Ce:=[q (c_.ctr k),q (dE.ctr k),q (eJ.ctr k)]
def E:gq:=en (D k) [(8,[0,2,4,5,6,7])] 0 [] k
section
variable (a0:ByteArray)
def K0:Ex→St→Rs:=bi (E k) (eK (E k) Tryz.f61 (C k) (a0,())) [.blk 0,.code (bh Tryz.f61 6 63)]
def V0 (n0:Nat):T0:=fun x0 x1 x2 x3 x4 x5 x6 x7 x8 x9=>an (bP (E k) (bh Tryz.f61 9 95)) (ae 0 [0,2,4,5,6,7]) (K0 k a0) n0 (mk 97 5 [(0,.str x0),(2,.ptr 0 0 0),(4,.ref 2),(5,.int .i64 x1),(6,.ptr 3 0 0),(7,.int .i64 x2)] [(1,.own false a_ x3),(0,.box [.int .i64 x4,.int .i64 x5,.ref 1]),(2,.own false (.int .i64) x6),(4,.own false a_ x7),(3,.box [.int .i64 x8,.int .i64 x9,.ref 4])])
theorem e0:V0 k a0=l0 k:=aR (b:=b0 k) rfl (fun _=>by kernel_rfl) fun _=>rfl
end
theorem ctr:Cp 61 (C k):=ry (D k) (E:=E k) rfl rfl Tryz.func61 rfl fun ⟨a0,_⟩=>(show _=t k (V0 k a0 k) a0 by kernel_rfl).trans (by rw [e0];rfl)
end bd
namespace gu
def C:Cn:=⟨[.val (.slice bR)],[(.int .i64)],true,false,fun x=>f k x.1⟩
def D:List Ce:=[q (cg.ctr k),q (gz.ctr k)]
def E:gq:=en (D k) [(3,[0,3,4])] 0 [] k
section
variable (a0:List (Ty.d bR))
def K0:Ex→St→Rs:=bi (E k) (eK (E k) Tryz.f183 (C k) (a0,())) [.blk 0,.code (bh Tryz.f183 3 7)]
def V0 (n0:Nat):T0:=fun x0 x1 x2=>an (bP (E k) (bh Tryz.f183 6 11)) (ae 0 [0,3,4]) (K0 k a0) n0 (mk 20 0 [(0,.sl true bR x0),(3,.str x1),(4,.int .i64 x2)] [])
theorem e0:V0 k a0=l0 k:=aR (b:=b0 k) rfl (fun _=>by kernel_rfl) fun _=>rfl
end
theorem ctr:Cp 183 (C k):=ry (D k) (E:=E k) rfl rfl Tryz.func183 rfl fun ⟨a0,_⟩=>(show _=t k (V0 k a0 k) a0 by kernel_rfl).trans (by rw [e0];rfl)
end gu
namespace f8
def C:Cn:=⟨[.val (.int .i64),.val .str],[fV,.bool],true,false,fun x=>f k x.1 x.2.1⟩
def D:List Ce:=[q (bp.ctr k),q (aa.ctr k),q (gu.ctr k)]
def E:gq:=en (D k) [(7,[0,4,6,8,9,10])] 0 [] k
section
variable (a0:Int) (a1:ByteArray)
def K0:Ex→St→Rs:=bi (E k) (eK (E k) Tryz.f117 (C k) (a0,a1,())) [.blk 0,.code (bh Tryz.f117 6 63)]
def V0 (n0:Nat):T0:=fun x0 x1 x2 x3 x4 x5 x6 x7 x8 x9=>an (bP (E k) (bh Tryz.f117 9 95)) (ae 0 [0,4,6,8,9,10]) (K0 k a0 a1) n0 (mk 141 6 [(0,.int .i64 x0),(4,.ptr 0 0 0),(6,.ref 2),(8,.ptr 3 0 0),(9,.ref 5),(10,.int .i64 x1)] [(1,.own false a_ x2),(0,.box [.int .i64 x3,.int .i64 x4,.ref 1]),(2,.own false bU x5),(4,.own false a_ x6),(3,.box [.int .i64 x7,.int .i64 x8,.ref 4]),(5,.own false bR x9)])
theorem e0:V0 k a0 a1=l0 k:=aR (b:=b0 k) rfl (fun _=>by kernel_rfl) fun _=>rfl
end
theorem ctr:Cp 117 (C k):=ry (D k) (E:=E k) rfl rfl Tryz.func117 rfl fun ⟨a0,a1,_⟩=>(show _=t k (V0 k a0 a1 k) a0 a1 by kernel_rfl).trans (by rw [e0];rfl)
end f8
namespace gG
def C:Cn:=⟨[.val (.slice a_),.val (.slice a_)],[.bool],true,false,fun x=>f k x.1 x.2.1⟩
def E:gq:=en [] [(4,[0,1,5])] 0 [] k
section
variable (a0:List (Ty.d a_)) (a1:List (Ty.d a_))
def K0:Ex→St→Rs:=bi (E k) (eK (E k) Tryz.f118 (C k) (a0,a1,())) [.blk 0,.code (bh Tryz.f118 3 7)]
def V0 (n0:Nat):T0:=fun x0 x1 x2=>an (bP (E k) (bh Tryz.f118 6 11)) (ae 0 [0,1,5]) (K0 k a0 a1) n0 (mk 26 0 [(0,.sl true a_ x0),(1,.sl true a_ x1),(5,.int .i64 x2)] [])
theorem e0:V0 k a0 a1=l0 k:=aR (b:=b0 k) rfl (fun _=>by kernel_rfl) fun _=>rfl
end
theorem ctr:Cp 118 (C k):=ry [] (E:=E k) rfl rfl Tryz.func118 rfl fun ⟨a0,a1,_⟩=>(show _=t k (V0 k a0 a1 k) a0 a1 by kernel_rfl).trans (by rw [e0];rfl)
end gG
namespace ig
def C:Cn:=⟨[.val (.int .i64),.val .str,.val fV],[.bool],true,false,fun x=>f k x.1 x.2.1 x.2.2.1⟩
def D:List Ce:=[q (f8.ctr k),q (gG.ctr k)]
theorem ctr:Cp 62 (C k):=rz k rfl (D k) Tryz.func62 rfl fun _=>by kernel_rfl
end ig
namespace bu
def C:Cn:=⟨[.val (.int .i64),.val .str],[(.slice aD)],true,false,fun x=>f k x.1 x.2.1⟩
def D:List Ce:=[q (bp.ctr k)]
def E:gq:=en (D k) [(4,[0,5,6,8])] 0 [] k
section
variable (a0:Int) (a1:ByteArray)
def K0:Ex→St→Rs:=bi (E k) (eK (E k) Tryz.f63 (C k) (a0,a1,())) [.blk 0,.code (bh Tryz.f63 4 15)]
def V0 (n0:Nat):T0:=fun x0 x1 x2 x3=>an (bP (E k) (bh Tryz.f63 7 23)) (ae 0 [0,5,6,8]) (K0 k a0 a1) n0 (mk 42 2 [(0,.int .i64 x0),(5,.ref 0),(6,.ref 1),(8,.int .i64 x1)] [(0,.own false aD x2),(1,.own false bU x3)])
theorem e0:V0 k a0 a1=l0 k:=aR (b:=b0 k) rfl (fun _=>by kernel_rfl) fun _=>rfl
end
theorem ctr:Cp 63 (C k):=ry (D k) (E:=E k) rfl rfl Tryz.func63 rfl fun ⟨a0,a1,_⟩=>(show _=t k (V0 k a0 a1 k) a0 a1 by kernel_rfl).trans (by rw [e0];rfl)
end bu
namespace jU
def C:Cn:=⟨[.val (.slice aD),.val (.int .i64),.val (.int .i64)],[(.slice aD)],true,false,fun x=>f k x.1 x.2.1 x.2.2.1⟩
def E:gq:=en [] [(3,[0,1,2,7,8])] 0 [] k
section
variable (a0:List (Ty.d aD)) (a1:Int) (a2:Int)
def K0:Ex→St→Rs:=bi (E k) (eK (E k) Tryz.f119 (C k) (a0,a1,a2,())) [.blk 0,.code (bh Tryz.f119 3 7)]
def V0 (n0:Nat):T0:=fun x0 x1 x2 x3 x4=>an (bP (E k) (bh Tryz.f119 6 11)) (ae 0 [0,1,2,7,8]) (K0 k a0 a1 a2) n0 (mk 53 1 [(0,.sl true aD x0),(1,.int .i64 x1),(2,.int .i64 x2),(7,.ref 0),(8,.int .i64 x3)] [(0,.own false aD x4)])
theorem e0:V0 k a0 a1 a2=l0 k:=aR (b:=b0 k) rfl (fun _=>by kernel_rfl) fun _=>rfl
end
theorem ctr:Cp 119 (C k):=ry [] (E:=E k) rfl rfl Tryz.func119 rfl fun ⟨a0,a1,a2,_⟩=>(show _=t k (V0 k a0 a1 a2 k) a0 a1 a2 by kernel_rfl).trans (by rw [e0];rfl)
end jU
namespace h_
def C:Cn:=⟨[.val (.slice aD)],[(.slice bR)],true,false,fun x=>f k x.1⟩
def E:gq:=en [] [(3,[0,3,4])] 0 [] k
section
variable (a0:List (Ty.d aD))
def K0:Ex→St→Rs:=bi (E k) (eK (E k) Tryz.f184 (C k) (a0,())) [.blk 0,.code (bh Tryz.f184 3 7)]
def V0 (n0:Nat):T0:=fun x0 x1 x2=>an (bP (E k) (bh Tryz.f184 6 11)) (ae 0 [0,3,4]) (K0 k a0) n0 (mk 21 1 [(0,.sl true aD x0),(3,.ref 0),(4,.int .i64 x1)] [(0,.own false bR x2)])
theorem e0:V0 k a0=l0 k:=aR (b:=b0 k) rfl (fun _=>by kernel_rfl) fun _=>rfl
end
theorem ctr:Cp 184 (C k):=ry [] (E:=E k) rfl rfl Tryz.func184 rfl fun ⟨a0,_⟩=>(show _=t k (V0 k a0 k) a0 by kernel_rfl).trans (by rw [e0];rfl)
end h_
namespace jz
def C:Cn:=⟨[.val bR,.val (.slice aD)],[.bool],true,false,fun x=>f k x.1 x.2.1⟩
def D:List Ce:=[q (h_.ctr k),q (gu.ctr k)]
theorem ctr:Cp 120 (C k):=rz k rfl (D k) Tryz.func120 rfl fun _=>by kernel_rfl
end jz
namespace da
def C:Cn:=⟨[.val (.slice a_),.val .str],[(.slice a_)],true,false,fun x=>f k x.1 x.2.1⟩
def E:gq:=en [] [(3,[0,1,5,6])] 0 [] k
section
variable (a0:List (Ty.d a_)) (a1:ByteArray)
def K0:Ex→St→Rs:=bi (E k) (eK (E k) Tryz.f185 (C k) (a0,a1,())) [.blk 0,.code (bh Tryz.f185 3 7)]
def V0 (n0:Nat):T0:=fun x0 x1 x2 x3=>an (bP (E k) (bh Tryz.f185 6 11)) (ae 0 [0,1,5,6]) (K0 k a0 a1) n0 (mk 29 1 [(0,.sl true a_ x0),(1,.str x1),(5,.ref 0),(6,.int .i64 x2)] [(0,.own false a_ x3)])
theorem e0:V0 k a0 a1=l0 k:=aR (b:=b0 k) rfl (fun _=>by kernel_rfl) fun _=>rfl
end
theorem ctr:Cp 185 (C k):=ry [] (E:=E k) rfl rfl Tryz.func185 rfl fun ⟨a0,a1,_⟩=>(show _=t k (V0 k a0 a1 k) a0 a1 by kernel_rfl).trans (by rw [e0];rfl)
end da
namespace cU
def C:Cn:=⟨[.val (.slice a_),.val a_],[(.slice a_)],true,false,fun x=>f k x.1 x.2.1⟩
def E:gq:=en [] [(4,[0,3,5,6,7])] 0 [] k
section
variable (a0:List (Ty.d a_)) (a1:Ty.d a_)
def K0:Ex→St→Rs:=bi (E k) (eK (E k) Tryz.f186 (C k) (a0,a1,())) [.blk 0,.code (bh Tryz.f186 4 15)]
def V0 (n0:Nat):T0:=fun x0 x1 x2 x3 x4 x5 x6 x7 x8=>an (bP (E k) (bh Tryz.f186 7 23)) (ae 0 [0,3,5,6,7]) (K0 k a0 a1) n0 (mk 53 2 [(0,.sl true a_ x0),(3,.ptr 0 0 0),(5,.ref 1),(6,.bool x1),(7,.int .i64 x2)] [(0,.box [.str x3,.int .i64 x4,.int .i64 x5,.int .i64 x6,.int .i64 x7]),(1,.own false a_ x8)])
theorem e0:V0 k a0 a1=l0 k:=aR (b:=b0 k) rfl (fun _=>by kernel_rfl) fun _=>rfl
end
theorem ctr:Cp 186 (C k):=ry [] (E:=E k) rfl rfl Tryz.func186 rfl fun ⟨a0,a1,_⟩=>(show _=t k (V0 k a0 a1 k) a0 a1 by kernel_rfl).trans (by rw [e0];rfl)
end cU
namespace j6
def C:Cn:=⟨[.val (.slice a_),.val aD],[(.slice a_)],true,false,fun x=>f k x.1 x.2.1⟩
def D:List Ce:=[q (da.ctr k),q (cU.ctr k)]
theorem ctr:Cp 122 (C k):=rz k rfl (D k) Tryz.func122 rfl fun _=>by kernel_rfl
end j6
namespace g9
def C:Cn:=⟨[.val (.slice aD),.val (.int .i64)],[(.slice aD)],true,false,fun x=>f k x.1 x.2.1⟩
def E:gq:=en [] [(3,[0,1,5,6])] 0 [] k
section
variable (a0:List (Ty.d aD)) (a1:Int)
def K0:Ex→St→Rs:=bi (E k) (eK (E k) Tryz.f121 (C k) (a0,a1,())) [.blk 0,.code (bh Tryz.f121 3 7)]
def V0 (n0:Nat):T0:=fun x0 x1 x2 x3=>an (bP (E k) (bh Tryz.f121 6 11)) (ae 0 [0,1,5,6]) (K0 k a0 a1) n0 (mk 36 1 [(0,.sl true aD x0),(1,.int .i64 x1),(5,.ref 0),(6,.int .i64 x2)] [(0,.own false aD x3)])
theorem e0:V0 k a0 a1=l0 k:=aR (b:=b0 k) rfl (fun _=>by kernel_rfl) fun _=>rfl
end
theorem ctr:Cp 121 (C k):=ry [] (E:=E k) rfl rfl Tryz.func121 rfl fun ⟨a0,a1,_⟩=>(show _=t k (V0 k a0 a1 k) a0 a1 by kernel_rfl).trans (by rw [e0];rfl)
end g9
namespace ck
def C:Cn:=⟨[.val iK,.val (.slice aD)],[iK],true,false,fun x=>f k x.1 x.2.1⟩
def D:List Ce:=[q (jU.ctr k),q (jz.ctr k),q (j6.ctr k),q (g9.ctr k)]
def E:gq:=en (D k) [(3,[1,4,5,6]),(17,[1,4,5,6,8,9])] 0 [] k
section
variable (a0:Ty.d iK) (a1:List (Ty.d aD))
def K0:Ex→St→Rs:=bi (E k) (eK (E k) Tryz.f64 (C k) (a0,a1,())) [.blk 0,.code (bh Tryz.f64 3 7)]
def B0 (n0:Nat):Ex→St→Rs:=NQ (E k) (bh Tryz.f64 6 11) 0 [1,4,5,6] (K0 k a0 a1) n0
def K1 (n0:Nat):Ex→St→Rs:=bi (E k) (B0 k a0 a1 n0) [.blk 3,.code (bh Tryz.f64 14 15947),.blk 1,.code (bh Tryz.f64 8 203)]
def V0 (n0:Nat):T0:=fun x0 x1 x2 x3 x4 x5 x6 x7=>an (bP (E k) (bh Tryz.f64 6 11)) (ae 0 [1,4,5,6]) (K0 k a0 a1) n0 (mk 97 4 [(1,.sl true aD x0),(4,.ptr 0 0 0),(5,.ptr 2 0 0),(6,.int .i64 x1)] [(1,.own false a_ x2),(0,.box [.ref 1,.int .i64 x3,.int .i64 x4]),(3,.own false a_ x5),(2,.box [.ref 3,.int .i64 x6,.int .i64 x7])])
def V1 (n0 n1:Nat):T1:=fun x0 x1 x2 x3 x4 x5 x6 x7 x8 x9=>an (bP (E k) (bh Tryz.f64 17 24139)) (ae 0 [1,4,5,6,8,9]) (K1 k a0 a1 n0) n1 (mk 97 5 [(1,.sl true aD x0),(4,.ptr 0 0 0),(5,.ptr 2 0 0),(6,.int .i64 x1),(8,.ref 4),(9,.int .i64 x2)] [(1,.own false a_ x3),(0,.box [.ref 1,.int .i64 x4,.int .i64 x5]),(3,.own false a_ x6),(2,.box [.ref 3,.int .i64 x7,.int .i64 x8]),(4,.own false aD x9)])
theorem e1 (n0:Nat):V1 k a0 a1 n0=l1 k (V0 k a0 a1 n0):=aR (b:=b1 k (V0 k a0 a1 n0)) rfl (fun _=>by kernel_rfl) fun _=>rfl
theorem e0 (n0:Nat):V0 k a0 a1 n0=l0 k n0:=by
 induction n0 with
 | zero=>rfl
 | succ n0 ih =>
  have h:V0 k a0 a1 (n0+1)=b0 k (V1 k a0 a1 n0 k) (V0 k a0 a1 n0):=by kernel_rfl
  rw [h,e1,ih];rfl
end
theorem ctr:Cp 64 (C k):=ry (D k) (E:=E k) rfl rfl Tryz.func64 rfl fun ⟨a0,a1,_⟩=>(show _=t k (V0 k a0 a1 k) a0 a1 by kernel_rfl).trans (by rw [e0];rfl)
end ck
namespace bG
def C:Cn:=⟨[.give aA,.val bL],[aA,(.int .i64)],true,false,fun x=>f k x.1 x.2.1⟩
def D:List Ce:=[q (bX.ctr k),q (fp.ctr k),q (aY.ctr k)]
def E:gq:=en (D k) [(3,[2,4,6,7])] 0 [] k
section
variable (a0:Ty.d aA) (a1:Ty.d bL)
def K0:Ex→St→Rs:=bi (E k) (eK (E k) Tryz.f65 (C k) (a0,a1,())) [.blk 0,.code (bh Tryz.f65 3 7)]
def V0 (n0:Nat):T0:=fun x0 x1 x2 x3 x4 x5 x6 x7 x8 x9=>an (bP (E k) (bh Tryz.f65 6 11)) (ae 0 [2,4,6,7]) (K0 k a0 a1) n0 (mk 35 5 [(2,.ptr 0 0 0),(4,.ptr 2 0 0),(6,.ref 4),(7,.int .i64 x0)] [(1,.own false aE x1),(0,.box [.ref 1,.int .i64 x2,.int .i64 x3,.bool x4]),(3,.own false aE x5),(2,.box [.ref 3,.int .i64 x6,.int .i64 x7,.bool x8]),(4,.own false .str x9)])
theorem e0:V0 k a0 a1=l0 k:=aR (b:=b0 k) rfl (fun _=>by kernel_rfl) fun _=>rfl
end
theorem ctr:Cp 65 (C k):=ry (D k) (E:=E k) rfl rfl Tryz.func65 rfl fun ⟨a0,a1,_⟩=>(show _=t k (V0 k a0 a1 k) a0 a1 by kernel_rfl).trans (by rw [e0];rfl)
end bG
namespace cK
def C:Cn:=⟨[.val aA],[aG,aA,(.int .i64)],false,true,fun x=>f k x.1⟩
def D:List Ce:=[q (bQ.ctr k),q (cC.ctr k),q (cD.ctr k),q (jT.ctr k),q (bf.ctr k),q (aa.ctr k),q (bp.ctr k),q (jR.ctr k),q (aY.ctr k),q (fN.ctr k),q (dO.ctr k),q (bd.ctr k),q (ig.ctr k),q (bu.ctr k),q (ck.ctr k),q (bG.ctr k)]
def E:gq:=en (D k) [(14,[1,2,3,5,8,9,10]),(35,[2,3,5,8,19,23,24,25,26])] 0 [] k
section
variable (a0:Ty.d aA)
def K0:Ex→St→Rs:=bi (E k) (eK (E k) Tryz.f34 (C k) (a0,())) [.blk 0,.code (bh Tryz.f34 10 1023)]
def K1:Ex→St→Rs:=bi (E k) (eK (E k) Tryz.f34 (C k) (a0,())) [.blk 2,.code (bh Tryz.f34 20 1048575)]
def V0 (n0:Nat):T0:=fun x0 x1 x2 x3 x4 x5 x6 x7 x8 x9 x10 x11 x12 x13 x14 x15 x16 x17 x18 x19 x20 x21 x22 x23=>an (bP (E k) (bh Tryz.f34 13 1535)) (ae 0 [1,2,3,5,8,9,10]) (K0 k a0) n0 (mk 268 11 [(1,.ptr 0 0 0),(2,.ptr 1 0 0),(3,.ptr 4 0 0),(5,.ptr 6 0 0),(8,.ptr 9 0 0),(9,.int .i64 x0),(10,.int .i64 x1)] [(0,.box [.sl true aE x2,.int .i64 x3,.int .i64 x4,.bool x5]),(2,.own false (.int .i64) x6),(3,.own false a_ x7),(1,.box [.int .i64 x8,.ref 2,.ref 3,.int .i64 x9,.int .i64 x10,.int .i64 x11]),(5,.own false aE x12),(4,.box [.ref 5,.int .i64 x13,.int .i64 x14,.bool x15]),(7,.own false (.int .i64) x16),(8,.own false a_ x17),(6,.box [.int .i64 x18,.ref 7,.ref 8,.int .i64 x19,.int .i64 x20,.int .i64 x21]),(10,.own false (.int .i64) x22),(9,.box [.int .i64 x23,.ref 10])])
def V1 (n1:Nat):T1:=fun x0 x1 x2 x3 x4 x5 x6 x7 x8 x9 x10 x11 x12 x13 x14 x15 x16 x17 x18 x19 x20 x21 x22 x23 x24 x25 x26 x27 x28 x29 x30 x31=>an (bP (E k) (bh Tryz.f34 23 1572863)) (ae 0 [2,3,5,8,19,23,24,25,26]) (K1 k a0) n1 (mk 268 17 [(2,.ptr 0 0 0),(3,.ptr 3 0 0),(5,.ptr 5 0 0),(8,.ptr 8 0 0),(19,.ptr 10 0 0),(23,.ptr 12 0 0),(24,.ptr 14 0 0),(25,.ref 16),(26,.int .i64 x0)] [(1,.own false (.int .i64) x1),(2,.own false a_ x2),(0,.box [.int .i64 x3,.ref 1,.ref 2,.int .i64 x4,.int .i64 x5,.int .i64 x6]),(4,.own false aE x7),(3,.box [.ref 4,.int .i64 x8,.int .i64 x9,.bool x10]),(6,.own false (.int .i64) x11),(7,.own false a_ x12),(5,.box [.int .i64 x13,.ref 6,.ref 7,.int .i64 x14,.int .i64 x15,.int .i64 x16]),(9,.own false (.int .i64) x17),(8,.box [.int .i64 x18,.ref 9]),(11,.own false aE x19),(10,.box [.ref 11,.int .i64 x20,.int .i64 x21,.bool x22]),(13,.own false a_ x23),(12,.box [.int .i64 x24,.ref 9,.ref 13,.int .i64 x25,.int .i64 x26,.int .i64 x27]),(15,.own false a_ x28),(14,.box [.ref 15,.int .i64 x29,.int .i64 x30]),(16,.own false aD x31)])
def V2 (n1:Nat):T2:=fun x0 x1 x2 x3 x4 x5 x6 x7 x8 x9 x10 x11 x12 x13 x14 x15 x16 x17 x18 x19 x20 x21 x22 x23 x24 x25 x26 x27 x28 x29 x30 x31=>an (bP (E k) (bh Tryz.f34 23 1572863)) (ae 0 [2,3,5,8,19,23,24,25,26]) (K1 k a0) n1 (mk 268 17 [(2,.ptr 0 0 0),(3,.ptr 3 0 0),(5,.ptr 5 0 0),(8,.ptr 8 0 0),(19,.ptr 10 0 0),(23,.ptr 12 0 0),(24,.ptr 14 0 0),(25,.ref 16),(26,.int .i64 x0)] [(1,.own false (.int .i64) x1),(2,.own false a_ x2),(0,.box [.int .i64 x3,.ref 1,.ref 2,.int .i64 x4,.int .i64 x5,.int .i64 x6]),(4,.own false aE x7),(3,.box [.ref 4,.int .i64 x8,.int .i64 x9,.bool x10]),(6,.own false (.int .i64) x11),(7,.own false a_ x12),(5,.box [.int .i64 x13,.ref 6,.ref 7,.int .i64 x14,.int .i64 x15,.int .i64 x16]),(9,.own false (.int .i64) x17),(8,.box [.int .i64 x18,.ref 9]),(11,.own false aE x19),(10,.box [.ref 11,.int .i64 x20,.int .i64 x21,.bool x22]),(13,.own false a_ x23),(12,.box [.int .i64 x24,.ref 9,.ref 13,.int .i64 x25,.int .i64 x26,.int .i64 x27]),(15,.own false a_ x28),(14,.box [.ref 15,.int .i64 x29,.int .i64 x30]),(16,.own false aD x31)])
theorem e1:V1 k a0=l1 k:=aR (b:=b1 k) rfl (fun _=>by kernel_rfl) fun _=>rfl
theorem e2:V2 k a0=l2 k:=aR (b:=b2 k) rfl (fun _=>by kernel_rfl) fun _=>rfl
theorem e0 (n0:Nat):V0 k a0 n0=l0 k n0:=by
 induction n0 with
 | zero=>rfl
 | succ n0 ih =>
  have h:V0 k a0 (n0+1)=b0 k (V1 k a0 k) (V2 k a0 k) (V0 k a0 n0):=by kernel_rfl
  rw [h,e1,e2,ih];rfl
end
theorem ctr:Cp 34 (C k):=ry (D k) (E:=E k) rfl rfl Tryz.func34 rfl fun ⟨a0,_⟩=>(show _=t k (V0 k a0 k) a0 by kernel_rfl).trans (by rw [e0];rfl)
end cK
namespace gX
def C:Cn:=⟨[.val aA],[af,(.int .i64)],false,true,fun x=>f k x.1⟩
def D:List Ce:=[q (cK.ctr k)]
theorem ctr:Cp 21 (C k):=rz k rfl (D k) Tryz.func21 rfl fun _=>by kernel_rfl
end gX
namespace db
def C:Cn:=⟨[.val aG],[aG],true,false,fun x=>f k x.1⟩
theorem ctr:Cp 68 (C k):=rz k rfl [] Tryz.func68 rfl fun _=>by kernel_rfl
end db
namespace fY
def C:Cn:=⟨[.val ai],[ai],true,false,fun x=>f k x.1⟩
theorem ctr:Cp 69 (C k):=rz k rfl [] Tryz.func69 rfl fun _=>by kernel_rfl
end fY
namespace eR
def C:Cn:=⟨[.val af],[af],true,false,fun x=>f k x.1⟩
def D:List Ce:=[q (db.ctr k),q (cC.ctr k),q (fY.ctr k)]
def E:gq:=en (D k) [(5,[1,2,3,4])] 0 [] k
section
variable (a0:Ty.d af)
def K0:Ex→St→Rs:=bi (E k) (eK (E k) Tryz.f37 (C k) (a0,())) [.blk 0,.code (bh Tryz.f37 5 31)]
def V0 (n0:Nat):T0:=fun x0 x1 x2 x3 x4 x5 x6 x7 x8 x9 x10 x11 x12 x13 x14 x15 x16 x17 x18 x19 x20 x21 x22 x23 x24 x25=>an (bP (E k) (bh Tryz.f37 8 47)) (ae 0 [1,2,3,4]) (K0 k a0) n0 (mk 33 10 [(1,.ptr 0 0 0),(2,.ptr 4 0 0),(3,.ref 9),(4,.int .i64 x0)] [(1,.own false (.int .i64) x1),(2,.own false a_ x2),(3,.own false aE x3),(0,.box [.bool x4,.int .i64 x5,.ref 1,.ref 2,.int .i64 x6,.int .i64 x7,.int .i64 x8,.ref 3,.int .i64 x9,.int .i64 x10,.bool x11,.sl true ai x12]),(5,.own false (.int .i64) x13),(6,.own false a_ x14),(7,.own false aE x15),(8,.own false ai x16),(4,.box [.bool x17,.int .i64 x18,.ref 5,.ref 6,.int .i64 x19,.int .i64 x20,.int .i64 x21,.ref 7,.int .i64 x22,.int .i64 x23,.bool x24,.ref 8]),(9,.own false ai x25)])
theorem e0:V0 k a0=l0 k:=aR (b:=b0 k) rfl (fun _=>by kernel_rfl) fun _=>rfl
end
theorem ctr:Cp 37 (C k):=ry (D k) (E:=E k) rfl rfl Tryz.func37 rfl fun ⟨a0,_⟩=>(show _=t k (V0 k a0 k) a0 by kernel_rfl).trans (by rw [e0];rfl)
end eR
namespace eG
def C:Cn:=⟨[.val ai,.val .str],[aW,.bool],true,false,fun x=>f k x.1 x.2.1⟩
def E:gq:=en [] [(2,[1,2,4,6])] 0 [] k
section
variable (a0:Ty.d ai) (a1:ByteArray)
def K0:Ex→St→Rs:=bi (E k) (eK (E k) Tryz.f70 (C k) (a0,a1,())) [.blk 0,.code (bh Tryz.f70 2 3)]
def V0 (n0:Nat):T0:=fun x0 x1 x2 x3 x4 x5 x6 x7=>an (bP (E k) (bh Tryz.f70 5 5)) (ae 0 [1,2,4,6]) (K0 k a0 a1) n0 (mk 29 2 [(1,.str x0),(2,.ptr 0 0 0),(4,.ptr 1 0 0),(6,.int .i64 x1)] [(0,.box [.bool x2,.sl true bV x3,.sl true aW x4]),(1,.box [.str x5,.bool x6,.str x7])])
theorem e0:V0 k a0 a1=l0 k:=aR (b:=b0 k) rfl (fun _=>by kernel_rfl) fun _=>rfl
end
theorem ctr:Cp 70 (C k):=ry [] (E:=E k) rfl rfl Tryz.func70 rfl fun ⟨a0,a1,_⟩=>(show _=t k (V0 k a0 a1 k) a0 a1 by kernel_rfl).trans (by rw [e0];rfl)
end eG
namespace bM
def C:Cn:=⟨[.val ai],[(.slice aW)],true,false,fun x=>f k x.1⟩
def D:List Ce:=[q (eG.ctr k)]
def E:gq:=en (D k) [(3,[1,3,4]),(7,[1,3,4,5,6])] 0 [] k
section
variable (a0:Ty.d ai)
def K0:Ex→St→Rs:=bi (E k) (eK (E k) Tryz.f38 (C k) (a0,())) [.blk 0,.code (bh Tryz.f38 3 7)]
def B0 (n0:Nat):Ex→St→Rs:=NQ (E k) (bh Tryz.f38 6 11) 0 [1,3,4] (K0 k a0) n0
def K1 (n0:Nat):Ex→St→Rs:=bi (E k) (B0 k a0 n0) [.blk 2,.code (bh Tryz.f38 11 1611),.blk 1,.code (bh Tryz.f38 8 203)]
def V0 (n0:Nat):T0:=fun x0 x1 x2 x3 x4=>an (bP (E k) (bh Tryz.f38 6 11)) (ae 0 [1,3,4]) (K0 k a0) n0 (mk 55 2 [(1,.ptr 0 0 0),(3,.ref 1),(4,.int .i64 x0)] [(0,.box [.bool x1,.sl true bV x2,.sl true aW x3]),(1,.own false aW x4)])
def V1 (n0 n1:Nat):T1:=fun x0 x1 x2 x3 x4 x5 x6=>an (bP (E k) (bh Tryz.f38 14 2635)) (ae 0 [1,3,4,5,6]) (K1 k a0 n0) n1 (mk 55 2 [(1,.ptr 0 0 0),(3,.ref 1),(4,.int .i64 x0),(5,.bool x1),(6,.int .i64 x2)] [(0,.box [.bool x3,.sl true bV x4,.sl true aW x5]),(1,.own false aW x6)])
theorem e1 (n0:Nat):V1 k a0 n0=l1 k (V0 k a0 n0):=aR (b:=b1 k (V0 k a0 n0)) rfl (fun _=>by kernel_rfl) fun _=>rfl
theorem e0 (n0:Nat):V0 k a0 n0=l0 k n0:=by
 induction n0 with
 | zero=>rfl
 | succ n0 ih =>
  have h:V0 k a0 (n0+1)=b0 k (V1 k a0 n0 k) (V0 k a0 n0):=by kernel_rfl
  rw [h,e1,ih];rfl
end
theorem ctr:Cp 38 (C k):=ry (D k) (E:=E k) rfl rfl Tryz.func38 rfl fun ⟨a0,_⟩=>(show _=t k (V0 k a0 k) a0 by kernel_rfl).trans (by rw [e0];rfl)
end bM
namespace mD
def C:Cn:=⟨[.val aA],[(.int .i64)],true,false,fun x=>f k x.1⟩
def D:List Ce:=[q (bQ.ctr k),q (eh.ctr k)]
theorem ctr:Cp 71 (C k):=rz k rfl (D k) Tryz.func71 rfl fun _=>by kernel_rfl
end mD
namespace kK
def C:Cn:=⟨[.val .str,.val (.int .i64),.val (.int .i64)],[bR,.bool],true,false,fun x=>f k x.1 x.2.1 x.2.2.1⟩
def D:List Ce:=[q (aS.ctr k),q (eP.ctr k),q (fE.ctr k)]
theorem ctr:Cp 190 (C k):=rz k rfl (D k) Tryz.func190 rfl fun _=>by kernel_rfl
end kK
namespace ch
def C:Cn:=⟨[.val aG,.val aA],[.bool],true,false,fun x=>f k x.1 x.2.1⟩
def D:List Ce:=[q (bQ.ctr k),q (dy.ctr k),q (fy.ctr k),q (aS.ctr k),q (aa.ctr k),q (cD.ctr k),q (bp.ctr k),q (kK.ctr k)]
def E:gq:=en (D k) [(4,[2,3,5]),(11,[2,3,10])] 0 [] k
section
variable (a0:Ty.d aG) (a1:Ty.d aA)
def K0:Ex→St→Rs:=bi (E k) (eK (E k) Tryz.f125 (C k) (a0,a1,())) [.blk 0,.code (bh Tryz.f125 3 7)]
def K1:Ex→St→Rs:=bi (E k) (eK (E k) Tryz.f125 (C k) (a0,a1,())) [.blk 2,.code (bh Tryz.f125 4 15)]
def V0 (n0:Nat):T0:=fun x0 x1 x2 x3 x4 x5 x6 x7 x8 x9 x10=>an (bP (E k) (bh Tryz.f125 6 11)) (ae 0 [2,3,5]) (K0 k a0 a1) n0 (mk 148 2 [(2,.ptr 0 0 0),(3,.ptr 1 0 0),(5,.int .i64 x0)] [(0,.box [.int .i64 x1,.sl true (.int .i64) x2,.sl true a_ x3,.int .i64 x4,.int .i64 x5,.int .i64 x6]),(1,.box [.sl true aE x7,.int .i64 x8,.int .i64 x9,.bool x10])])
def V1 (n1:Nat):T1:=fun x0 x1 x2 x3 x4 x5 x6 x7 x8 x9 x10=>an (bP (E k) (bh Tryz.f125 7 23)) (ae 0 [2,3,10]) (K1 k a0 a1) n1 (mk 148 2 [(2,.ptr 0 0 0),(3,.ptr 1 0 0),(10,.int .i64 x0)] [(0,.box [.int .i64 x1,.sl true (.int .i64) x2,.sl true a_ x3,.int .i64 x4,.int .i64 x5,.int .i64 x6]),(1,.box [.sl true aE x7,.int .i64 x8,.int .i64 x9,.bool x10])])
theorem e1:V1 k a0 a1=l1 k:=aR (b:=b1 k) rfl (fun _=>by kernel_rfl) fun _=>rfl
theorem e0 (n0:Nat):V0 k a0 a1 n0=l0 k n0:=by
 induction n0 with
 | zero=>rfl
 | succ n0 ih =>
  have h:V0 k a0 a1 (n0+1)=b0 k (V1 k a0 a1 k) (V0 k a0 a1 n0):=by kernel_rfl
  rw [h,e1,ih];rfl
end
theorem ctr:Cp 125 (C k):=ry (D k) (E:=E k) rfl rfl Tryz.func125 rfl fun ⟨a0,a1,_⟩=>(show _=t k (V0 k a0 a1 k) a0 a1 by kernel_rfl).trans (by rw [e0];rfl)
end ch
namespace fq
def C:Cn:=⟨[.val (.slice a_),.val .str],[a_,.bool],true,false,fun x=>f k x.1 x.2.1⟩
def E:gq:=en [] [(2,[0,1,4,6])] 0 [] k
section
variable (a0:List (Ty.d a_)) (a1:ByteArray)
def K0:Ex→St→Rs:=bi (E k) (eK (E k) Tryz.f195 (C k) (a0,a1,())) [.blk 0,.code (bh Tryz.f195 2 3)]
def V0 (n0:Nat):T0:=fun x0 x1 x2 x3 x4 x5 x6 x7=>an (bP (E k) (bh Tryz.f195 5 5)) (ae 0 [0,1,4,6]) (K0 k a0 a1) n0 (mk 25 1 [(0,.sl true a_ x0),(1,.str x1),(4,.ptr 0 0 0),(6,.int .i64 x2)] [(0,.box [.str x3,.int .i64 x4,.int .i64 x5,.int .i64 x6,.int .i64 x7])])
theorem e0:V0 k a0 a1=l0 k:=aR (b:=b0 k) rfl (fun _=>by kernel_rfl) fun _=>rfl
end
theorem ctr:Cp 195 (C k):=ry [] (E:=E k) rfl rfl Tryz.func195 rfl fun ⟨a0,a1,_⟩=>(show _=t k (V0 k a0 a1 k) a0 a1 by kernel_rfl).trans (by rw [e0];rfl)
end fq
namespace mP
def C:Cn:=⟨[.val aG,.val aA,.val .str],[aE,(.int .i64)],true,false,fun x=>f k x.1 x.2.1 x.2.2.1⟩
def D:List Ce:=[q (fq.ctr k),q (aa.ctr k),q (cD.ctr k),q (kK.ctr k)]
theorem ctr:Cp 129 (C k):=rz k rfl (D k) Tryz.func129 rfl fun _=>by kernel_rfl
end mP
namespace jW
def C:Cn:=⟨[.val aG,.val aA],[(.slice aE),(.int .i64)],true,false,fun x=>f k x.1 x.2.1⟩
def D:List Ce:=[q (mP.ctr k)]
def E:gq:=en (D k) [(3,[2,3,6,7])] 0 [] k
section
variable (a0:Ty.d aG) (a1:Ty.d aA)
def K0:Ex→St→Rs:=bi (E k) (eK (E k) Tryz.f126 (C k) (a0,a1,())) [.blk 0,.code (bh Tryz.f126 3 7)]
def V0 (n0:Nat):T0:=fun x0 x1 x2 x3 x4 x5 x6 x7 x8 x9 x10 x11=>an (bP (E k) (bh Tryz.f126 6 11)) (ae 0 [2,3,6,7]) (K0 k a0 a1) n0 (mk 39 3 [(2,.ptr 0 0 0),(3,.ptr 1 0 0),(6,.ref 2),(7,.int .i64 x0)] [(0,.box [.int .i64 x1,.sl true (.int .i64) x2,.sl true a_ x3,.int .i64 x4,.int .i64 x5,.int .i64 x6]),(1,.box [.sl true aE x7,.int .i64 x8,.int .i64 x9,.bool x10]),(2,.own false aE x11)])
theorem e0:V0 k a0 a1=l0 k:=aR (b:=b0 k) rfl (fun _=>by kernel_rfl) fun _=>rfl
end
theorem ctr:Cp 126 (C k):=ry (D k) (E:=E k) rfl rfl Tryz.func126 rfl fun ⟨a0,a1,_⟩=>(show _=t k (V0 k a0 a1 k) a0 a1 by kernel_rfl).trans (by rw [e0];rfl)
end jW
namespace lr
def C:Cn:=⟨[.val aE],[bR],true,false,fun x=>f k x.1⟩
theorem ctr:Cp 231 (C k):=rz k rfl [] Tryz.func231 rfl fun _=>by kernel_rfl
end lr
namespace ip
def C:Cn:=⟨[.val (.slice bR),.val (.int .i64),.val (.int .i64)],[bR],true,false,fun x=>f k x.1 x.2.1 x.2.2.1⟩
def D:List Ce:=[q (gu.ctr k)]
theorem ctr:Cp 232 (C k):=rz k rfl (D k) Tryz.func232 rfl fun _=>by kernel_rfl
end ip
namespace eY
def C:Cn:=⟨[.val aA,.val (.int .i64),.val (.slice aE),.val (.int .i64)],[aA,(.slice a_),(.int .i64)],true,false,fun x=>f k x.1 x.2.1 x.2.2.1 x.2.2.2.1⟩
def D:List Ce:=[q (aa.ctr k),q (eX.ctr k),q (lr.ctr k),q (cg.ctr k),q (gR.ctr k),q (eo.ctr k),q (ip.ctr k),q (fN.ctr k),q (aY.ctr k)]
def E:gq:=en (D k) [(6,[1,2,3,8,11,12,13,14,15,16])] 0 [] k
section
variable (a0:Ty.d aA) (a1:Int) (a2:List (Ty.d aE)) (a3:Int)
def K0:Ex→St→Rs:=bi (E k) (eK (E k) Tryz.f191 (C k) (a0,a1,a2,a3,())) [.blk 0,.code (bh Tryz.f191 6 63)]
def V0 (n0:Nat):T0:=fun x0 x1 x2 x3 x4 x5 x6 x7 x8 x9 x10 x11 x12 x13 x14 x15=>an (bP (E k) (bh Tryz.f191 9 95)) (ae 0 [1,2,3,8,11,12,13,14,15,16]) (K0 k a0 a1 a2 a3) n0 (mk 101 6 [(1,.int .i64 x0),(2,.sl true aE x1),(3,.int .i64 x2),(8,.ptr 0 0 0),(11,.ref 2),(12,.ptr 3 0 0),(13,.int .i64 x3),(14,.ref 5),(15,.int .i64 x4),(16,.int .i64 x5)] [(1,.own false aE x6),(0,.box [.ref 1,.int .i64 x7,.int .i64 x8,.bool x9]),(2,.own false a_ x10),(4,.own false aE x11),(3,.box [.ref 4,.int .i64 x12,.int .i64 x13,.bool x14]),(5,.own false bR x15)])
theorem e0:V0 k a0 a1 a2 a3=l0 k:=aR (b:=b0 k) rfl (fun _=>by kernel_rfl) fun _=>rfl
end
theorem ctr:Cp 191 (C k):=ry (D k) (E:=E k) rfl rfl Tryz.func191 rfl fun ⟨a0,a1,a2,a3,_⟩=>(show _=t k (V0 k a0 a1 a2 a3 k) a0 a1 a2 a3 by kernel_rfl).trans (by rw [e0];rfl)
end eY
namespace cP
def C:Cn:=⟨[.give aA,.val (.slice .str)],[aA,(.int .i64)],true,false,fun x=>f k x.1 x.2.1⟩
def D:List Ce:=[q (bY.ctr k),q (fp.ctr k)]
def E:gq:=en (D k) [(2,[1,2,4,6])] 0 [] k
section
variable (a0:Ty.d aA) (a1:List ByteArray)
def K0:Ex→St→Rs:=bi (E k) (eK (E k) Tryz.f194 (C k) (a0,a1,())) [.blk 0,.code (bh Tryz.f194 2 3)]
def V0 (n0:Nat):T0:=fun x0 x1 x2 x3 x4 x5 x6 x7 x8 x9=>an (bP (E k) (bh Tryz.f194 5 5)) (ae 0 [1,2,4,6]) (K0 k a0 a1) n0 (mk 37 4 [(1,.sl true .str x0),(2,.ptr 0 0 0),(4,.ptr 2 0 0),(6,.int .i64 x1)] [(1,.own false aE x2),(0,.box [.ref 1,.int .i64 x3,.int .i64 x4,.bool x5]),(3,.own false aE x6),(2,.box [.ref 3,.int .i64 x7,.int .i64 x8,.bool x9])])
theorem e0:V0 k a0 a1=l0 k:=aR (b:=b0 k) rfl (fun _=>by kernel_rfl) fun _=>rfl
end
theorem ctr:Cp 194 (C k):=ry (D k) (E:=E k) rfl rfl Tryz.func194 rfl fun ⟨a0,a1,_⟩=>(show _=t k (V0 k a0 a1 k) a0 a1 by kernel_rfl).trans (by rw [e0];rfl)
end cP
namespace eT
def C:Cn:=⟨[.give aG,.give aA,.val (.int .i64),.val (.int .i64)],[aG,aA,(.int .i64)],true,false,fun x=>f k x.1 x.2.1 x.2.2.1 x.2.2.2.1⟩
def D:List Ce:=[q (aa.ctr k),q (dO.ctr k),q (cP.ctr k),q (aY.ctr k)]
theorem ctr:Cp 192 (C k):=rz k rfl (D k) Tryz.func192 rfl fun _=>by kernel_rfl
end eT
namespace cI
def C:Cn:=⟨[.give aG,.val aA,.val (.slice aE)],[aG,aA,(.int .i64)],true,false,fun x=>f k x.1 x.2.1 x.2.2.1⟩
def D:List Ce:=[q (eY.ctr k),q (eT.ctr k),q (aa.ctr k),q (eX.ctr k),q (aY.ctr k),q (cD.ctr k),q (f8.ctr k),q (dO.ctr k),q (eJ.ctr k),q (ik.ctr k),q (cP.ctr k),q (fa.ctr k)]
def E:gq:=en (D k) [(26,[3,6,7,10,18,20])] 0 [] k
section
variable (a0:Ty.d aG) (a1:Ty.d aA) (a2:List (Ty.d aE))
def K0:Ex→St→Rs:=bi (E k) (eK (E k) Tryz.f127 (C k) (a0,a1,a2,())) [.blk 0,.code (bh Tryz.f127 21 2097151)]
def V0 (n0:Nat):T0:=fun x0 x1 x2 x3 x4 x5 x6 x7 x8 x9 x10 x11 x12 x13 x14 x15 x16 x17 x18 x19 x20 x21=>an (bP (E k) (bh Tryz.f127 24 3145727)) (ae 0 [3,6,7,10,18,20]) (K0 k a0 a1 a2) n0 (mk 170 11 [(3,.ptr 0 0 0),(6,.ptr 3 0 0),(7,.ptr 6 0 0),(10,.ptr 8 0 0),(18,.ref 10),(20,.int .i64 x0)] [(1,.own false (.int .i64) x1),(2,.own false a_ x2),(0,.box [.int .i64 x3,.ref 1,.ref 2,.int .i64 x4,.int .i64 x5,.int .i64 x6]),(4,.own false (.int .i64) x7),(5,.own false a_ x8),(3,.box [.int .i64 x9,.ref 4,.ref 5,.int .i64 x10,.int .i64 x11,.int .i64 x12]),(7,.own false aE x13),(6,.box [.ref 7,.int .i64 x14,.int .i64 x15,.bool x16]),(9,.own false aE x17),(8,.box [.ref 9,.int .i64 x18,.int .i64 x19,.bool x20]),(10,.own false (.int .i64) x21)])
theorem e0:V0 k a0 a1 a2=l0 k:=aR (b:=b0 k) rfl (fun _=>by kernel_rfl) fun _=>rfl
end
theorem ctr:Cp 127 (C k):=ry (D k) (E:=E k) rfl rfl Tryz.func127 rfl fun ⟨a0,a1,a2,_⟩=>(show _=t k (V0 k a0 a1 a2 k) a0 a1 a2 by kernel_rfl).trans (by rw [e0];rfl)
end cI
namespace lb
def C:Cn:=⟨[.val aG,.val aA],[aG,aA,(.int .i64)],true,false,fun x=>f k x.1 x.2.1⟩
def D:List Ce:=[q (db.ctr k),q (cC.ctr k),q (ch.ctr k),q (jW.ctr k),q (cI.ctr k)]
theorem ctr:Cp 72 (C k):=rz k rfl (D k) Tryz.func72 rfl fun _=>by kernel_rfl
end lb
namespace gH
def C:Cn:=⟨[.val (.slice a_)],[(.slice .str)],true,false,fun x=>f k x.1⟩
def E:gq:=en [] [(3,[0,3,4])] 0 [] k
section
variable (a0:List (Ty.d a_))
def K0:Ex→St→Rs:=bi (E k) (eK (E k) Tryz.f73 (C k) (a0,())) [.blk 0,.code (bh Tryz.f73 3 7)]
def V0 (n0:Nat):T0:=fun x0 x1 x2=>an (bP (E k) (bh Tryz.f73 6 11)) (ae 0 [0,3,4]) (K0 k a0) n0 (mk 21 1 [(0,.sl true a_ x0),(3,.ref 0),(4,.int .i64 x1)] [(0,.own false .str x2)])
theorem e0:V0 k a0=l0 k:=aR (b:=b0 k) rfl (fun _=>by kernel_rfl) fun _=>rfl
end
theorem ctr:Cp 73 (C k):=ry [] (E:=E k) rfl rfl Tryz.func73 rfl fun ⟨a0,_⟩=>(show _=t k (V0 k a0 k) a0 by kernel_rfl).trans (by rw [e0];rfl)
end gH
namespace gK
def C:Cn:=⟨[.val ai,.val .str,.val (.int .i64)],[ai,(.int .i64)],true,false,fun x=>f k x.1 x.2.1 x.2.2.1⟩
def D:List Ce:=[q (fY.ctr k),q (dA.ctr k)]
def E:gq:=en (D k) [(5,[1,2,3,6,8,9])] 0 [] k
section
variable (a0:Ty.d ai) (a1:ByteArray) (a2:Int)
def K0:Ex→St→Rs:=bi (E k) (eK (E k) Tryz.f130 (C k) (a0,a1,a2,())) [.blk 0,.code (bh Tryz.f130 4 15)]
def V0 (n0:Nat):T0:=fun x0 x1 x2 x3 x4 x5 x6 x7 x8 x9 x10 x11=>an (bP (E k) (bh Tryz.f130 7 23)) (ae 0 [1,2,3,6,8,9]) (K0 k a0 a1 a2) n0 (mk 60 7 [(1,.str x0),(2,.int .i64 x1),(3,.ptr 0 0 0),(6,.ptr 1 0 0),(8,.ptr 4 0 0),(9,.int .i64 x2)] [(0,.box [.bool x3,.sl true bV x4,.sl true aW x5]),(2,.own false bV x6),(3,.own false aW x7),(1,.box [.bool x8,.ref 2,.ref 3]),(5,.own false bV x9),(6,.own false aW x10),(4,.box [.bool x11,.ref 5,.ref 6])])
theorem e0:V0 k a0 a1 a2=l0 k:=aR (b:=b0 k) rfl (fun _=>by kernel_rfl) fun _=>rfl
end
theorem ctr:Cp 130 (C k):=ry (D k) (E:=E k) rfl rfl Tryz.func130 rfl fun ⟨a0,a1,a2,_⟩=>(show _=t k (V0 k a0 a1 a2 k) a0 a1 a2 by kernel_rfl).trans (by rw [e0];rfl)
end gK
namespace gB
def C:Cn:=⟨[.give af,.val aZ],[af,ac],true,true,fun x=>f k x.1 x.2.1⟩
def D:List Ce:=[q (dA.ctr k),q (eG.ctr k),q (mP.ctr k),q (gK.ctr k)]
theorem ctr:Cp 74 (C k):=rz k rfl (D k) Tryz.func74 rfl fun _=>by kernel_rfl
end gB
namespace iX
def C:Cn:=⟨[.val ai,.val (.slice a_)],[.bool],true,false,fun x=>f k x.1 x.2.1⟩
def D:List Ce:=[q (fq.ctr k)]
def E:gq:=en (D k) [(2,[1,2,5])] 0 [] k
section
variable (a0:Ty.d ai) (a1:List (Ty.d a_))
def K0:Ex→St→Rs:=bi (E k) (eK (E k) Tryz.f131 (C k) (a0,a1,())) [.blk 0,.code (bh Tryz.f131 2 3)]
def V0 (n0:Nat):T0:=fun x0 x1 x2 x3 x4=>an (bP (E k) (bh Tryz.f131 5 5)) (ae 0 [1,2,5]) (K0 k a0 a1) n0 (mk 35 1 [(1,.sl true a_ x0),(2,.ptr 0 0 0),(5,.int .i64 x1)] [(0,.box [.bool x2,.sl true bV x3,.sl true aW x4])])
theorem e0:V0 k a0 a1=l0 k:=aR (b:=b0 k) rfl (fun _=>by kernel_rfl) fun _=>rfl
end
theorem ctr:Cp 131 (C k):=ry (D k) (E:=E k) rfl rfl Tryz.func131 rfl fun ⟨a0,a1,_⟩=>(show _=t k (V0 k a0 a1 k) a0 a1 by kernel_rfl).trans (by rw [e0];rfl)
end iX
namespace co
def C:Cn:=⟨[.val (.slice aW)],[.bool],true,false,fun x=>f k x.1⟩
def D:List Ce:=[q (dA.ctr k)]
def E:gq:=en (D k) [(4,[0,3])] 0 [] k
section
variable (a0:List (Ty.d aW))
def K0:Ex→St→Rs:=bi (E k) (eK (E k) Tryz.f76 (C k) (a0,())) [.blk 0,.code (bh Tryz.f76 3 7)]
def V0 (n0:Nat):T0:=fun x0 x1=>an (bP (E k) (bh Tryz.f76 6 11)) (ae 0 [0,3]) (K0 k a0) n0 (mk 44 0 [(0,.sl true aW x0),(3,.int .i64 x1)] [])
theorem e0:V0 k a0=l0 k:=aR (b:=b0 k) rfl (fun _=>by kernel_rfl) fun _=>rfl
end
theorem ctr:Cp 76 (C k):=ry (D k) (E:=E k) rfl rfl Tryz.func76 rfl fun ⟨a0,_⟩=>(show _=t k (V0 k a0 k) a0 by kernel_rfl).trans (by rw [e0];rfl)
end co
namespace dh
def C:Cn:=⟨[.val (.slice a_),.val (.slice aW)],[(.int .i64)],true,false,fun x=>f k x.1 x.2.1⟩
def D:List Ce:=[q (da.ctr k),q (cU.ctr k)]
def E:gq:=en (D k) [(2,[0,1,5])] 0 [] k
section
variable (a0:List (Ty.d a_)) (a1:List (Ty.d aW))
def K0:Ex→St→Rs:=bi (E k) (eK (E k) Tryz.f196 (C k) (a0,a1,())) [.blk 0,.code (bh Tryz.f196 2 3)]
def V0 (n0:Nat):T0:=fun x0 x1 x2=>an (bP (E k) (bh Tryz.f196 5 5)) (ae 0 [0,1,5]) (K0 k a0 a1) n0 (mk 34 0 [(0,.sl true a_ x0),(1,.sl true aW x1),(5,.int .i64 x2)] [])
def V1 (n0:Nat):T1:=fun x0 x1 x2=>an (bP (E k) (bh Tryz.f196 5 5)) (ae 0 [0,1,5]) (K0 k a0 a1) n0 (mk 34 1 [(0,.ref 0),(1,.sl true aW x0),(5,.int .i64 x1)] [(0,.own false a_ x2)])
theorem e1:V1 k a0 a1=l1 k:=aR (b:=b1 k) rfl (fun _=>by kernel_rfl) fun _=>rfl
theorem e0 (n0:Nat):V0 k a0 a1 n0=l0 k n0:=by
 induction n0 with
 | zero=>rfl
 | succ n0 ih =>
  have h:V0 k a0 a1 (n0+1)=b0 k (V1 k a0 a1 n0):=by kernel_rfl
  rw [h,e1];rfl
end
theorem ctr:Cp 196 (C k):=ry (D k) (E:=E k) rfl rfl Tryz.func196 rfl fun ⟨a0,a1,_⟩=>(show _=t k (V0 k a0 a1 k) a0 a1 by kernel_rfl).trans (by rw [e0];rfl)
end dh
namespace dV
def C:Cn:=⟨[.val aG],[.str],true,false,fun x=>f k x.1⟩
def D:List Ce:=[q (aa.ctr k)]
theorem ctr:Cp 234 (C k):=rz k rfl (D k) Tryz.func234 rfl fun _=>by kernel_rfl
end dV
namespace gU
def C:Cn:=⟨[.give aG,.give aA],[aG,aA,(.int .i64)],true,false,fun x=>f k x.1 x.2.1⟩
def D:List Ce:=[q (dV.ctr k),q (fN.ctr k),q (aY.ctr k),q (aa.ctr k),q (eX.ctr k),q (fa.ctr k),q (cP.ctr k)]
theorem ctr:Cp 249 (C k):=rz k rfl (D k) Tryz.func249 rfl fun _=>by kernel_rfl
end gU
namespace fH
def C:Cn:=⟨[.give aG,.give aA,.val bR],[aG,aA,aD,(.int .i64)],true,false,fun x=>f k x.1 x.2.1 x.2.2.1⟩
def D:List Ce:=[q (cg.ctr k),q (gR.ctr k),q (gU.ctr k),q (dV.ctr k),q (eo.ctr k),q (aY.ctr k)]
theorem ctr:Cp 233 (C k):=rz k rfl (D k) Tryz.func233 rfl fun _=>by kernel_rfl
end fH
namespace bn
def C:Cn:=⟨[.give aG,.give aA,.give (.slice aW)],[aG,aA,(.int .i64)],true,false,fun x=>f k x.1 x.2.1 x.2.2.1⟩
def D:List Ce:=[q (fH.ctr k),q (j6.ctr k),q (ip.ctr k),q (dV.ctr k),q (fN.ctr k),q (aY.ctr k)]
def E:gq:=en (D k) [(6,[2,3,4,6,7,9,10,11,12])] 0 [] k
section
variable (a0:Ty.d aG) (a1:Ty.d aA) (a2:List (Ty.d aW))
def K0:Ex→St→Rs:=bi (E k) (eK (E k) Tryz.f197 (C k) (a0,a1,a2,())) [.blk 0,.code (bh Tryz.f197 6 63)]
def V0 (n0:Nat):T0:=fun x0 x1 x2 x3 x4 x5 x6 x7 x8 x9 x10 x11 x12 x13 x14 x15 x16 x17 x18 x19 x20 x21 x22 x23 x24=>an (bP (E k) (bh Tryz.f197 9 95)) (ae 0 [2,3,4,6,7,9,10,11,12]) (K0 k a0 a1 a2) n0 (mk 111 13 [(2,.ref 0),(3,.ptr 1 0 0),(4,.ptr 4 0 0),(6,.ptr 6 0 0),(7,.ptr 9 0 0),(9,.int .i64 x0),(10,.ref 11),(11,.ref 12),(12,.int .i64 x1)] [(0,.own false aW x2),(2,.own false (.int .i64) x3),(3,.own false a_ x4),(1,.box [.int .i64 x5,.ref 2,.ref 3,.int .i64 x6,.int .i64 x7,.int .i64 x8]),(5,.own false aE x9),(4,.box [.ref 5,.int .i64 x10,.int .i64 x11,.bool x12]),(7,.own false (.int .i64) x13),(8,.own false a_ x14),(6,.box [.int .i64 x15,.ref 7,.ref 8,.int .i64 x16,.int .i64 x17,.int .i64 x18]),(10,.own false aE x19),(9,.box [.ref 10,.int .i64 x20,.int .i64 x21,.bool x22]),(11,.own false bR x23),(12,.own false a_ x24)])
theorem e0:V0 k a0 a1 a2=l0 k:=aR (b:=b0 k) rfl (fun _=>by kernel_rfl) fun _=>rfl
end
theorem ctr:Cp 197 (C k):=ry (D k) (E:=E k) rfl rfl Tryz.func197 rfl fun ⟨a0,a1,a2,_⟩=>(show _=t k (V0 k a0 a1 a2 k) a0 a1 a2 by kernel_rfl).trans (by rw [e0];rfl)
end bn
namespace iw
def C:Cn:=⟨[.val aG,.val aA,.give (.slice aW)],[aG,aA,(.int .i64)],true,false,fun x=>f k x.1 x.2.1 x.2.2.1⟩
def D:List Ce:=[q (db.ctr k),q (cC.ctr k),q (ch.ctr k),q (co.ctr k),q (dh.ctr k),q (bn.ctr k)]
theorem ctr:Cp 132 (C k):=rz k rfl (D k) Tryz.func132 rfl fun _=>by kernel_rfl
end iw
namespace dr
def C:Cn:=⟨[.give af,.val aZ],[af,ac],true,true,fun x=>f k x.1 x.2.1⟩
def D:List Ce:=[q (iX.ctr k),q (bM.ctr k),q (iw.ctr k)]
theorem ctr:Cp 75 (C k):=rz k rfl (D k) Tryz.func75 rfl fun _=>by kernel_rfl
end dr
namespace g_
def C:Cn:=⟨[.val ai,.val aW],[ai,.bool],true,false,fun x=>f k x.1 x.2.1⟩
def D:List Ce:=[q (fY.ctr k),q (co.ctr k),q (bM.ctr k)]
theorem ctr:Cp 77 (C k):=rz k rfl (D k) Tryz.func77 rfl fun _=>by kernel_rfl
end g_
namespace cJ
def C:Cn:=⟨[.val af,.val aZ],[af,ac],false,true,fun x=>f k x.1 x.2.1⟩
def D:List Ce:=[q (eR.ctr k),q (gX.ctr k),q (bQ.ctr k),q (mD.ctr k),q (aS.ctr k),q (lb.ctr k),q (gH.ctr k),q (gB.ctr k),q (dr.ctr k),q (co.ctr k),q (g_.ctr k)]
theorem ctr:Cp 39 (C k):=rz k rfl (D k) Tryz.func39 rfl fun _=>by kernel_rfl
end cJ
namespace jh
def C:Cn:=⟨[.val af,.val (.slice aZ)],[d6],false,true,fun x=>f k x.1 x.2.1⟩
def D:List Ce:=[q (eR.ctr k),q (aS.ctr k),q (bM.ctr k),q (cJ.ctr k)]
def E:gq:=en (D k) [(3,[1,4,5,6])] 0 [] k
section
variable (a0:Ty.d af) (a1:List (Ty.d aZ))
def K0:Ex→St→Rs:=bi (E k) (eK (E k) Tryz.f24 (C k) (a0,a1,())) [.blk 0,.code (bh Tryz.f24 3 7)]
def V0 (n0:Nat):T0:=fun x0 x1 x2 x3 x4 x5 x6 x7 x8 x9 x10 x11 x12 x13 x14 x15 x16 x17 x18 x19 x20 x21 x22 x23 x24 x25 x26 x27 x28 x29 x30 x31=>an (bP (E k) (bh Tryz.f24 6 11)) (ae 0 [1,4,5,6]) (K0 k a0 a1) n0 (mk 108 16 [(1,.sl true aZ x0),(4,.ptr 0 0 0),(5,.ptr 8 0 0),(6,.int .i64 x1)] [(1,.own false (.int .i64) x2),(2,.own false a_ x3),(3,.own false aE x4),(4,.own false ai x5),(5,.own false ac x6),(6,.own false na x7),(7,.own false aW x8),(0,.box [.bool x9,.int .i64 x10,.ref 1,.ref 2,.int .i64 x11,.int .i64 x12,.int .i64 x13,.ref 3,.int .i64 x14,.int .i64 x15,.bool x16,.ref 4,.ref 5,.ref 6,.ref 7]),(9,.own false (.int .i64) x17),(10,.own false a_ x18),(11,.own false aE x19),(12,.own false ai x20),(13,.own false ac x21),(14,.own false na x22),(15,.own false aW x23),(8,.box [.bool x24,.int .i64 x25,.ref 9,.ref 10,.int .i64 x26,.int .i64 x27,.int .i64 x28,.ref 11,.int .i64 x29,.int .i64 x30,.bool x31,.ref 12,.ref 13,.ref 14,.ref 15])])
def V1 (n0:Nat):T1:=fun x0 x1 x2 x3 x4 x5 x6 x7 x8 x9 x10 x11 x12 x13 x14 x15 x16 x17 x18 x19 x20 x21 x22 x23 x24 x25 x26 x27 x28 x29 x30 x31=>an (bP (E k) (bh Tryz.f24 6 11)) (ae 0 [1,4,5,6]) (K0 k a0 a1) n0 (mk 108 12 [(1,.sl true aZ x0),(4,.ptr 0 0 0),(5,.ptr 8 0 0),(6,.int .i64 x1)] [(1,.own false (.int .i64) x2),(2,.own false a_ x3),(3,.own false aE x4),(4,.own false ai x5),(5,.own false ac x6),(6,.own false na x7),(7,.own false aW x8),(0,.box [.bool x9,.int .i64 x10,.ref 1,.ref 2,.int .i64 x11,.int .i64 x12,.int .i64 x13,.ref 3,.int .i64 x14,.int .i64 x15,.bool x16,.ref 4,.ref 5,.ref 6,.ref 7]),(9,.own true ac x17),(10,.own false na x18),(11,.own false aW x19),(8,.box [.bool x20,.int .i64 x21,.sl true (.int .i64) x22,.sl true a_ x23,.int .i64 x24,.int .i64 x25,.int .i64 x26,.sl true aE x27,.int .i64 x28,.int .i64 x29,.bool x30,.sl true ai x31,.ref 9,.ref 10,.ref 11])])
theorem e1:V1 k a0 a1=l1 k:=aR (b:=b1 k) rfl (fun _=>by kernel_rfl) fun _=>rfl
theorem e0 (n0:Nat):V0 k a0 a1 n0=l0 k n0:=by
 induction n0 with
 | zero=>rfl
 | succ n0 ih =>
  have h:V0 k a0 a1 (n0+1)=b0 k (V1 k a0 a1 n0):=by kernel_rfl
  rw [h,e1];rfl
end
theorem ctr:Cp 24 (C k):=ry (D k) (E:=E k) rfl rfl Tryz.func24 rfl fun ⟨a0,a1,_⟩=>(show _=t k (V0 k a0 a1 k) a0 a1 by kernel_rfl).trans (by rw [e0];rfl)
end jh
namespace my
def C:Cn:=⟨[.val kQ],[d6],false,true,fun x=>f k x.1⟩
def D:List Ce:=[q (aS.ctr k),q (jy.ctr k),q (jN.ctr k),q (gX.ctr k),q (jh.ctr k)]
theorem ctr:Cp 8 (C k):=rz k rfl (D k) Tryz.func8 rfl fun _=>by kernel_rfl
end my
namespace gE
def C:Cn:=⟨[.val ac,.val ac],[.bool],true,false,fun x=>f k x.1 x.2.1⟩
def E:gq:=en [] [(4,[2,3,5])] 0 [] k
section
variable (a0:Ty.d ac) (a1:Ty.d ac)
def K0:Ex→St→Rs:=bi (E k) (eK (E k) Tryz.f25 (C k) (a0,a1,())) [.blk 0,.code (bh Tryz.f25 3 7)]
def V0 (n0:Nat):T0:=fun x0 x1 x2 x3 x4 x5 x6=>an (bP (E k) (bh Tryz.f25 6 11)) (ae 0 [2,3,5]) (K0 k a0 a1) n0 (mk 45 2 [(2,.ptr 0 0 0),(3,.ptr 1 0 0),(5,.int .i64 x0)] [(0,.box [.int .i64 x1,.str x2,.sl true .str x3]),(1,.box [.int .i64 x4,.str x5,.sl true .str x6])])
theorem e0:V0 k a0 a1=l0 k:=aR (b:=b0 k) rfl (fun _=>by kernel_rfl) fun _=>rfl
end
theorem ctr:Cp 25 (C k):=ry [] (E:=E k) rfl rfl Tryz.func25 rfl fun ⟨a0,a1,_⟩=>(show _=t k (V0 k a0 a1 k) a0 a1 by kernel_rfl).trans (by rw [e0];rfl)
end gE
namespace d9
def C:Cn:=⟨[.val (.slice ac),.val (.slice ac)],[.bool],true,false,fun x=>f k x.1 x.2.1⟩
def D:List Ce:=[q (gE.ctr k)]
def E:gq:=en (D k) [(4,[0,1,5])] 0 [] k
section
variable (a0:List (Ty.d ac)) (a1:List (Ty.d ac))
def K0:Ex→St→Rs:=bi (E k) (eK (E k) Tryz.f9 (C k) (a0,a1,())) [.blk 0,.code (bh Tryz.f9 3 7)]
def V0 (n0:Nat):T0:=fun x0 x1 x2=>an (bP (E k) (bh Tryz.f9 6 11)) (ae 0 [0,1,5]) (K0 k a0 a1) n0 (mk 27 0 [(0,.sl true ac x0),(1,.sl true ac x1),(5,.int .i64 x2)] [])
theorem e0:V0 k a0 a1=l0 k:=aR (b:=b0 k) rfl (fun _=>by kernel_rfl) fun _=>rfl
end
theorem ctr:Cp 9 (C k):=ry (D k) (E:=E k) rfl rfl Tryz.func9 rfl fun ⟨a0,a1,_⟩=>(show _=t k (V0 k a0 a1 k) a0 a1 by kernel_rfl).trans (by rw [e0];rfl)
end d9
namespace jI
def C:Cn:=⟨[.val (.slice (.int .u8))],[.bool],true,false,fun x=>f k x.1⟩
def D:List Ce:=[q (qz.ctr k),q (jQ.ctr k),q (qI.ctr k),q (m3.ctr k),q (my.ctr k),q (d9.ctr k)]
theorem ctr:Cp 3 (C k):=rz k rfl (D k) Tryz.func3 rfl fun _=>by kernel_rfl
end jI
end
end Go.Proofs.YtijlgdoiofdmhaaGreatDoor.G

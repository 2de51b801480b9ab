/- Functions keep their contracts. -/
import Derived.Test.YthjppgafienaoabGreatDoorVTab
import Derived.Test.YthjppgafienaoabGreatDoorFW
import Derived.Test.YthjppgafienaoabGreatDoorCLib
set_option linter.unusedVariables false
set_option linter.unusedSimpArgs false
set_option maxRecDepth 100000
namespace Go.Proofs.YthjppgafienaoabGreatDoor.G
open Go.V
noncomputable section
namespace oZ
def C (k:Nat):Cn:=⟨[.val (.slice (.int .u8))],[.bool],true,false,fun x=>f k x.1⟩
def E (k:Nat):dI:=en [] [] 0 [] k
theorem eq (k:Nat) (a0:List Int):rn (E k) Tryz.f4 (C k) (a0,())=f k a0:=by kernel_rfl
theorem ctr (k:Nat):Cp 4 (C k):=rc rfl [] (by kernel_rfl) Tryz.func4 (by kernel_rfl) rfl fun ⟨a0,_⟩ r h=>(eq k a0).trans h
end oZ
namespace fK
def C (k:Nat):Cn:=⟨[.val (.slice (.int .u8))],[.opq,cT],false,true,fun x=>f k x.1⟩
def E (k:Nat):dI:=en [] [(3,[0,3,4])] 0 [] k
section
variable (k:Nat) (a0:List Int)
def K0:Ex→St→Rs:=cJ (E k) (eB (E k) Tryz.f21 (C k) (a0,())) [.blk 0,.code (at_ (bt 3 7) (body Tryz.f21))]
def V0 (n0:Nat):T0:=fun x0 x1 x2=>aq (bn (E k) (at_ (bt 6 11) (body Tryz.f21))) (an 0 [0,3,4]) (K0 k a0) n0 (mk 32 0 [(0,.sl true (.int .u8) x0),(3,.int .i64 x1),(4,.int .i64 x2)] [])
theorem s0 (n0:Nat):V0 k a0 (n0+1)=b0 k (V0 k a0 n0):=by kernel_rfl
theorem e0:V0 k a0=l0 k:=aZ rfl (s0 k a0) fun _=>rfl
end
theorem eq (k:Nat) (a0:List Int):rb (E k) Tryz.f21 (C k) (a0,())=f k a0:=(show _=t k (V0 k a0 k) a0 by kernel_rfl).trans (by rw [e0];rfl)
theorem ctr (k:Nat):Cp 21 (C k):=Ll rfl rfl rfl [] (by kernel_rfl) Tryz.func21 (by kernel_rfl) rfl fun ⟨a0,_⟩ r h=>(eq k a0).trans h
end fK
namespace eV
def C (k:Nat):Cn:=⟨[.io false cT],[(.int .i64)],true,true,fun x=>f k x.1⟩
def E (k:Nat):dI:=en [] [] 1 [] k
theorem eq (k:Nat) (a0:Ty.d cT):rn (E k) Tryz.f52 (C k) (a0,())=f k a0:=by kernel_rfl
theorem ctr (k:Nat):Cp 52 (C k):=rc rfl [] (by kernel_rfl) Tryz.func52 (by kernel_rfl) rfl fun ⟨a0,_⟩ r h=>(eq k a0).trans h
end eV
namespace aa
def C (k:Nat):Cn:=⟨[.io false cT,.val (.int .i64)],[(.int .i64)],true,true,fun x=>f k x.1 x.2.1⟩
def D (k:Nat):List Ce:=[q (eV.ctr k)]
def E (k:Nat):dI:=en (D k) [] 1 [] k
theorem eq (k:Nat) (a0:Ty.d cT) (a1:Int):rn (E k) Tryz.f23 (C k) (a0,a1,())=f k a0 a1:=by kernel_rfl
theorem ctr (k:Nat):Cp 23 (C k):=rc rfl (D k) (by kernel_rfl) Tryz.func23 (by kernel_rfl) rfl fun ⟨a0,a1,_⟩ r h=>(eq k a0 a1).trans h
end aa
namespace aM
def C (k:Nat):Cn:=⟨[.io false cT,.val (.slice (.int .i64))],[(.int .i64)],true,true,fun x=>f k x.1 x.2.1⟩
def D (k:Nat):List Ce:=[q (aa.ctr k)]
def E (k:Nat):dI:=en (D k) [] 1 [] k
theorem eq (k:Nat) (a0:Ty.d cT) (a1:List Int):rn (E k) Tryz.f24 (C k) (a0,a1,())=f k a0 a1:=by kernel_rfl
theorem ctr (k:Nat):Cp 24 (C k):=rc rfl (D k) (by kernel_rfl) Tryz.func24 (by kernel_rfl) rfl fun ⟨a0,a1,_⟩ r h=>(eq k a0 a1).trans h
end aM
namespace cM
def C (k:Nat):Cn:=⟨[.io false cT,.val (.slice .str)],[.str],true,true,fun x=>f k x.1 x.2.1⟩
def D (k:Nat):List Ce:=[q (aa.ctr k)]
def E (k:Nat):dI:=en (D k) [] 1 [] k
theorem eq (k:Nat) (a0:Ty.d cT) (a1:List ByteArray):rn (E k) Tryz.f135 (C k) (a0,a1,())=f k a0 a1:=by kernel_rfl
theorem ctr (k:Nat):Cp 135 (C k):=rc rfl (D k) (by kernel_rfl) Tryz.func135 (by kernel_rfl) rfl fun ⟨a0,a1,_⟩ r h=>(eq k a0 a1).trans h
end cM
namespace iR
def C (k:Nat):Cn:=⟨[.io false cT],[.str],true,true,fun x=>f k x.1⟩
def D (k:Nat):List Ce:=[q (cM.ctr k)]
def E (k:Nat):dI:=en (D k) [] 1 [] k
theorem eq (k:Nat) (a0:Ty.d cT):rn (E k) Tryz.f133 (C k) (a0,())=f k a0:=by kernel_rfl
theorem ctr (k:Nat):Cp 133 (C k):=rc rfl (D k) (by kernel_rfl) Tryz.func133 (by kernel_rfl) rfl fun ⟨a0,_⟩ r h=>(eq k a0).trans h
end iR
namespace eY
def C (k:Nat):Cn:=⟨[.io false cT,.val (.int .i64)],[.str],true,true,fun x=>f k x.1 x.2.1⟩
def D (k:Nat):List Ce:=[q (aa.ctr k),q (eV.ctr k)]
def E (k:Nat):dI:=en (D k) [(4,[0,5,6,7])] 1 [] k
section
variable (k:Nat) (a0:Ty.d cT) (a1:Int)
def K0:Ex→St→Rs:=cJ (E k) (eK (E k) Tryz.f134 (C k) (a0,a1,())) [.blk 0,.code (at_ (bt 4 15) (body Tryz.f134))]
def V0 (n0:Nat):T0:=fun x0 x1 x2 x3 x4 x5=>aq (bn (E k) (at_ (bt 7 23) (body Tryz.f134))) (an 1 [0,5,6,7]) (K0 k a0 a1) n0 (mk 38 2 [(0,.ptr 0 0 0),(5,.ref 1),(6,.int .i64 x0),(7,.int .i64 x1)] [(0,.box [.sl true (.int .u8) x2,.int .i64 x3,.int .i64 x4]),(1,.own false (.int .u8) x5)])
theorem s0 (n0:Nat):V0 k a0 a1 (n0+1)=b0 k (V0 k a0 a1 n0):=by kernel_rfl
theorem e0:V0 k a0 a1=l0 k:=aZ rfl (s0 k a0 a1) fun _=>rfl
end
theorem eq (k:Nat) (a0:Ty.d cT) (a1:Int):rn (E k) Tryz.f134 (C k) (a0,a1,())=f k a0 a1:=(show _=t k (V0 k a0 a1 k) a0 a1 by kernel_rfl).trans (by rw [e0];rfl)
theorem ctr (k:Nat):Cp 134 (C k):=rc rfl (D k) (by kernel_rfl) Tryz.func134 (by kernel_rfl) rfl fun ⟨a0,a1,_⟩ r h=>(eq k a0 a1).trans h
end eY
namespace ik
def C (k:Nat):Cn:=⟨[.io false cT],[ar],true,true,fun x=>f k x.1⟩
def D (k:Nat):List Ce:=[q (aM.ctr k),q (aa.ctr k),q (iR.ctr k),q (cM.ctr k),q (eY.ctr k)]
def E (k:Nat):dI:=en (D k) [] 1 [] k
theorem eq (k:Nat) (a0:Ty.d cT):rn (E k) Tryz.f95 (C k) (a0,())=f k a0:=by kernel_rfl
theorem ctr (k:Nat):Cp 95 (C k):=rc rfl (D k) (by kernel_rfl) Tryz.func95 (by kernel_rfl) rfl fun ⟨a0,_⟩ r h=>(eq k a0).trans h
end ik
namespace aN
def C (k:Nat):Cn:=⟨[.val (.int .i64),.val (.int .i64),.val (.int .i64)],[.bool],true,false,fun x=>f k x.1 x.2.1 x.2.2.1⟩
def E (k:Nat):dI:=en [] [] 0 [] k
theorem eq (k:Nat) (a0:Int) (a1:Int) (a2:Int):rn (E k) Tryz.f16 (C k) (a0,a1,a2,())=f k a0 a1 a2:=by kernel_rfl
theorem ctr (k:Nat):Cp 16 (C k):=rc rfl [] (by kernel_rfl) Tryz.func16 (by kernel_rfl) rfl fun ⟨a0,a1,a2,_⟩ r h=>(eq k a0 a1 a2).trans h
end aN
namespace bp
def C (k:Nat):Cn:=⟨[.io false cT,.val (.int .i64)],[.bool],true,true,fun x=>f k x.1 x.2.1⟩
def D (k:Nat):List Ce:=[q (aa.ctr k)]
def E (k:Nat):dI:=en (D k) [] 1 [] k
theorem eq (k:Nat) (a0:Ty.d cT) (a1:Int):rn (E k) Tryz.f25 (C k) (a0,a1,())=f k a0 a1:=by kernel_rfl
theorem ctr (k:Nat):Cp 25 (C k):=rc rfl (D k) (by kernel_rfl) Tryz.func25 (by kernel_rfl) rfl fun ⟨a0,a1,_⟩ r h=>(eq k a0 a1).trans h
end bp
namespace e7
def C (k:Nat):Cn:=⟨[.io false cT,.val (.int .i64)],[(.slice ar)],true,true,fun x=>f k x.1 x.2.1⟩
def D (k:Nat):List Ce:=[q (aa.ctr k),q (ik.ctr k),q (aN.ctr k),q (bp.ctr k)]
def E (k:Nat):dI:=en (D k) [(4,[0,5,6,7])] 1 [] k
section
variable (k:Nat) (a0:Ty.d cT) (a1:Int)
def K0:Ex→St→Rs:=cJ (E k) (eK (E k) Tryz.f51 (C k) (a0,a1,())) [.blk 0,.code (at_ (bt 4 15) (body Tryz.f51))]
def V0 (n0:Nat):T0:=fun x0 x1 x2 x3 x4 x5=>aq (bn (E k) (at_ (bt 7 23) (body Tryz.f51))) (an 1 [0,5,6,7]) (K0 k a0 a1) n0 (mk 85 3 [(0,.ptr 0 0 0),(5,.ref 1),(6,.ref 2),(7,.int .i64 x0)] [(0,.box [.sl true (.int .u8) x1,.int .i64 x2,.int .i64 x3]),(1,.own false ar x4),(2,.own false .bool x5)])
theorem s0 (n0:Nat):V0 k a0 a1 (n0+1)=b0 k (V0 k a0 a1 n0):=by kernel_rfl
theorem e0:V0 k a0 a1=l0 k:=aZ rfl (s0 k a0 a1) fun _=>rfl
end
theorem eq (k:Nat) (a0:Ty.d cT) (a1:Int):rn (E k) Tryz.f51 (C k) (a0,a1,())=f k a0 a1:=(show _=t k (V0 k a0 a1 k) a0 a1 by kernel_rfl).trans (by rw [e0];rfl)
theorem ctr (k:Nat):Cp 51 (C k):=rc rfl (D k) (by kernel_rfl) Tryz.func51 (by kernel_rfl) rfl fun ⟨a0,a1,_⟩ r h=>(eq k a0 a1).trans h
end e7
namespace fX
def C (k:Nat):Cn:=⟨[.io false cT,.val (.int .i64)],[kh],true,true,fun x=>f k x.1 x.2.1⟩
def D (k:Nat):List Ce:=[q (e7.ctr k),q (aa.ctr k)]
def E (k:Nat):dI:=en (D k) [] 1 [] k
theorem eq (k:Nat) (a0:Ty.d cT) (a1:Int):rn (E k) Tryz.f22 (C k) (a0,a1,())=f k a0 a1:=by kernel_rfl
theorem ctr (k:Nat):Cp 22 (C k):=rc rfl (D k) (by kernel_rfl) Tryz.func22 (by kernel_rfl) rfl fun ⟨a0,a1,_⟩ r h=>(eq k a0 a1).trans h
end fX
namespace iB
def C (k:Nat):Cn:=⟨[.val (.slice (.int .u8))],[kh],true,false,fun x=>f k x.1⟩
def D (k:Nat):List Ce:=[q (fK.ctr k),q (fX.ctr k),q (aa.ctr k),q (bp.ctr k),q (aM.ctr k)]
def E (k:Nat):dI:=en (D k) [] 0 [] k
theorem eq (k:Nat) (a0:List Int):rn (E k) Tryz.f6 (C k) (a0,())=f k a0:=by kernel_rfl
theorem ctr (k:Nat):Cp 6 (C k):=rc rfl (D k) (by kernel_rfl) Tryz.func6 (by kernel_rfl) rfl fun ⟨a0,_⟩ r h=>(eq k a0).trans h
end iB
namespace gT
def C (k:Nat):Cn:=⟨[.val (.int .i64)],[aA],true,false,fun x=>f k x.1⟩
def D (k:Nat):List Ce:=[q (aN.ctr k)]
def E (k:Nat):dI:=en (D k) [] 0 [] k
theorem eq (k:Nat) (a0:Int):rn (E k) Tryz.f19 (C k) (a0,())=f k a0:=by kernel_rfl
theorem ctr (k:Nat):Cp 19 (C k):=rc rfl (D k) (by kernel_rfl) Tryz.func19 (by kernel_rfl) rfl fun ⟨a0,_⟩ r h=>(eq k a0).trans h
end gT
namespace bh
def C (k:Nat):Cn:=⟨[.val aA],[aA],true,false,fun x=>f k x.1⟩
def E (k:Nat):dI:=en [] [] 0 [] k
theorem eq (k:Nat) (a0:Ty.d aA):rn (E k) Tryz.f47 (C k) (a0,())=f k a0:=by kernel_rfl
theorem ctr (k:Nat):Cp 47 (C k):=rc rfl [] (by kernel_rfl) Tryz.func47 (by kernel_rfl) rfl fun ⟨a0,_⟩ r h=>(eq k a0).trans h
end bh
namespace df
def C (k:Nat):Cn:=⟨[.val aA],[(.int .i64)],true,false,fun x=>f k x.1⟩
def E (k:Nat):dI:=en [] [(3,[1,3,4])] 0 [] k
section
variable (k:Nat) (a0:Ty.d aA)
def K0:Ex→St→Rs:=cJ (E k) (eK (E k) Tryz.f53 (C k) (a0,())) [.blk 0,.code (at_ (bt 3 7) (body Tryz.f53))]
def V0 (n0:Nat):T0:=fun x0 x1 x2 x3 x4 x5=>aq (bn (E k) (at_ (bt 6 11) (body Tryz.f53))) (an 0 [1,3,4]) (K0 k a0) n0 (mk 22 1 [(1,.ptr 0 0 0),(3,.int .i64 x0),(4,.int .i64 x1)] [(0,.box [.sl true aK x2,.int .i64 x3,.int .i64 x4,.bool x5])])
theorem s0 (n0:Nat):V0 k a0 (n0+1)=b0 k (V0 k a0 n0):=by kernel_rfl
theorem e0:V0 k a0=l0 k:=aZ rfl (s0 k a0) fun _=>rfl
end
theorem eq (k:Nat) (a0:Ty.d aA):rn (E k) Tryz.f53 (C k) (a0,())=f k a0:=(show _=t k (V0 k a0 k) a0 by kernel_rfl).trans (by rw [e0];rfl)
theorem ctr (k:Nat):Cp 53 (C k):=rc rfl [] (by kernel_rfl) Tryz.func53 (by kernel_rfl) rfl fun ⟨a0,_⟩ r h=>(eq k a0).trans h
end df
namespace dc
def C (k:Nat):Cn:=⟨[.val .str],[.bool],true,false,fun x=>f k x.1⟩
def D (k:Nat):List Ce:=[q (aN.ctr k)]
def E (k:Nat):dI:=en (D k) [(2,[0,3])] 0 [] k
section
variable (k:Nat) (a0:ByteArray)
def K0:Ex→St→Rs:=cJ (E k) (eK (E k) Tryz.f54 (C k) (a0,())) [.blk 0,.code (at_ (bt 2 3) (body Tryz.f54))]
def V0 (n0:Nat):T0:=fun x0 x1=>aq (bn (E k) (at_ (bt 5 5) (body Tryz.f54))) (an 0 [0,3]) (K0 k a0) n0 (mk 36 0 [(0,.str x0),(3,.int .i64 x1)] [])
theorem s0 (n0:Nat):V0 k a0 (n0+1)=b0 k (V0 k a0 n0):=by kernel_rfl
theorem e0:V0 k a0=l0 k:=aZ rfl (s0 k a0) fun _=>rfl
end
theorem eq (k:Nat) (a0:ByteArray):rn (E k) Tryz.f54 (C k) (a0,())=f k a0:=(show _=t k (V0 k a0 k) a0 by kernel_rfl).trans (by rw [e0];rfl)
theorem ctr (k:Nat):Cp 54 (C k):=rc rfl (D k) (by kernel_rfl) Tryz.func54 (by kernel_rfl) rfl fun ⟨a0,_⟩ r h=>(eq k a0).trans h
end dc
namespace bC
def C (k:Nat):Cn:=⟨[.val aA],[.bool],true,false,fun x=>f k x.1⟩
def D (k:Nat):List Ce:=[q (aN.ctr k),q (df.ctr k),q (dc.ctr k)]
def E (k:Nat):dI:=en (D k) [(4,[1,3])] 0 [] k
section
variable (k:Nat) (a0:Ty.d aA)
def K0:Ex→St→Rs:=cJ (E k) (eK (E k) Tryz.f26 (C k) (a0,())) [.blk 0,.code (at_ (bt 3 7) (body Tryz.f26))]
def V0 (n0:Nat):T0:=fun x0 x1 x2 x3 x4=>aq (bn (E k) (at_ (bt 6 11) (body Tryz.f26))) (an 0 [1,3]) (K0 k a0) n0 (mk 79 1 [(1,.ptr 0 0 0),(3,.int .i64 x0)] [(0,.box [.sl true aK x1,.int .i64 x2,.int .i64 x3,.bool x4])])
theorem s0 (n0:Nat):V0 k a0 (n0+1)=b0 k (V0 k a0 n0):=by kernel_rfl
theorem e0:V0 k a0=l0 k:=aZ rfl (s0 k a0) fun _=>rfl
end
theorem eq (k:Nat) (a0:Ty.d aA):rn (E k) Tryz.f26 (C k) (a0,())=f k a0:=(show _=t k (V0 k a0 k) a0 by kernel_rfl).trans (by rw [e0];rfl)
theorem ctr (k:Nat):Cp 26 (C k):=rc rfl (D k) (by kernel_rfl) Tryz.func26 (by kernel_rfl) rfl fun ⟨a0,_⟩ r h=>(eq k a0).trans h
end bC
namespace i8
def C (k:Nat):Cn:=⟨[.val aA,.val (.int .i64)],[aA],true,false,fun x=>f k x.1 x.2.1⟩
def D (k:Nat):List Ce:=[q (bh.ctr k),q (bC.ctr k),q (aN.ctr k)]
def E (k:Nat):dI:=en (D k) [] 0 [] k
theorem eq (k:Nat) (a0:Ty.d aA) (a1:Int):rn (E k) Tryz.f18 (C k) (a0,a1,())=f k a0 a1:=by kernel_rfl
theorem ctr (k:Nat):Cp 18 (C k):=rc rfl (D k) (by kernel_rfl) Tryz.func18 (by kernel_rfl) rfl fun ⟨a0,a1,_⟩ r h=>(eq k a0 a1).trans h
end i8
namespace bE
def C (k:Nat):Cn:=⟨[.val aA,.val .str],[(.int .i64)],true,false,fun x=>f k x.1 x.2.1⟩
def E (k:Nat):dI:=en [] [(2,[1,2,5])] 0 [] k
section
variable (k:Nat) (a0:Ty.d aA) (a1:ByteArray)
def K0:Ex→St→Rs:=cJ (E k) (eK (E k) Tryz.f56 (C k) (a0,a1,())) [.blk 0,.code (at_ (bt 2 3) (body Tryz.f56))]
def V0 (n0:Nat):T0:=fun x0 x1 x2 x3 x4 x5=>aq (bn (E k) (at_ (bt 5 5) (body Tryz.f56))) (an 0 [1,2,5]) (K0 k a0 a1) n0 (mk 22 1 [(1,.str x0),(2,.ptr 0 0 0),(5,.int .i64 x1)] [(0,.box [.sl true aK x2,.int .i64 x3,.int .i64 x4,.bool x5])])
theorem s0 (n0:Nat):V0 k a0 a1 (n0+1)=b0 k (V0 k a0 a1 n0):=by kernel_rfl
theorem e0:V0 k a0 a1=l0 k:=aZ rfl (s0 k a0 a1) fun _=>rfl
end
theorem eq (k:Nat) (a0:Ty.d aA) (a1:ByteArray):rn (E k) Tryz.f56 (C k) (a0,a1,())=f k a0 a1:=(show _=t k (V0 k a0 a1 k) a0 a1 by kernel_rfl).trans (by rw [e0];rfl)
theorem ctr (k:Nat):Cp 56 (C k):=rc rfl [] (by kernel_rfl) Tryz.func56 (by kernel_rfl) rfl fun ⟨a0,a1,_⟩ r h=>(eq k a0 a1).trans h
end bE
namespace bK
def C (k:Nat):Cn:=⟨[.val aA,.val .str],[.str,.bool],true,false,fun x=>f k x.1 x.2.1⟩
def D (k:Nat):List Ce:=[q (bC.ctr k),q (bE.ctr k)]
def E (k:Nat):dI:=en (D k) [] 0 [] k
theorem eq (k:Nat) (a0:Ty.d aA) (a1:ByteArray):rn (E k) Tryz.f29 (C k) (a0,a1,())=f k a0 a1:=by kernel_rfl
theorem ctr (k:Nat):Cp 29 (C k):=rc rfl (D k) (by kernel_rfl) Tryz.func29 (by kernel_rfl) rfl fun ⟨a0,a1,_⟩ r h=>(eq k a0 a1).trans h
end bK
namespace db
def C (k:Nat):Cn:=⟨[.val (.int .i64)],[.str],true,false,fun x=>f k x.1⟩
def E (k:Nat):dI:=en [] [(5,[0,3,4])] 0 [] k
section
variable (k:Nat) (a0:Int)
def K0:Ex→St→Rs:=cJ (E k) (eK (E k) Tryz.f57 (C k) (a0,())) [.blk 0,.code (at_ (bt 5 31) (body Tryz.f57))]
def V0 (n0:Nat):T0:=fun x0 x1 x2=>aq (bn (E k) (at_ (bt 7 15) (body Tryz.f57))) (an 0 [0,3,4]) (K0 k a0) n0 (mk 31 0 [(0,.int .i64 x0),(3,.str x1),(4,.bool x2)] [])
theorem s0 (n0:Nat):V0 k a0 (n0+1)=b0 k (V0 k a0 n0):=by kernel_rfl
theorem e0:V0 k a0=l0 k:=aZ rfl (s0 k a0) fun _=>rfl
end
theorem eq (k:Nat) (a0:Int):rn (E k) Tryz.f57 (C k) (a0,())=f k a0:=(show _=t k (V0 k a0 k) a0 by kernel_rfl).trans (by rw [e0];rfl)
theorem ctr (k:Nat):Cp 57 (C k):=rc rfl [] (by kernel_rfl) Tryz.func57 (by kernel_rfl) rfl fun ⟨a0,_⟩ r h=>(eq k a0).trans h
end db
namespace eJ
def C (k:Nat):Cn:=⟨[.val .str],[(.int .i64),.bool],true,false,fun x=>f k x.1⟩
def D (k:Nat):List Ce:=[q (db.ctr k)]
def E (k:Nat):dI:=en (D k) [(4,[0,4,5,6])] 0 [] k
section
variable (k:Nat) (a0:ByteArray)
def K0:Ex→St→Rs:=cJ (E k) (eK (E k) Tryz.f165 (C k) (a0,())) [.blk 0,.code (at_ (bt 4 15) (body Tryz.f165))]
def V0 (n0:Nat):T0:=fun x0 x1 x2 x3=>aq (bn (E k) (at_ (bt 7 23) (body Tryz.f165))) (an 0 [0,4,5,6]) (K0 k a0) n0 (mk 61 0 [(0,.str x0),(4,.int .i64 x1),(5,.int .i64 x2),(6,.int .i64 x3)] [])
theorem s0 (n0:Nat):V0 k a0 (n0+1)=b0 k (V0 k a0 n0):=by kernel_rfl
theorem e0:V0 k a0=l0 k:=aZ rfl (s0 k a0) fun _=>rfl
end
theorem eq (k:Nat) (a0:ByteArray):rn (E k) Tryz.f165 (C k) (a0,())=f k a0:=(show _=t k (V0 k a0 k) a0 by kernel_rfl).trans (by rw [e0];rfl)
theorem ctr (k:Nat):Cp 165 (C k):=rc rfl (D k) (by kernel_rfl) Tryz.func165 (by kernel_rfl) rfl fun ⟨a0,_⟩ r h=>(eq k a0).trans h
end eJ
namespace aU
def C (k:Nat):Cn:=⟨[.val (.int .i64)],[.str],true,false,fun x=>f k x.1⟩
def D (k:Nat):List Ce:=[q (aN.ctr k),q (db.ctr k)]
def E (k:Nat):dI:=en (D k) [] 0 [] k
theorem eq (k:Nat) (a0:Int):rn (E k) Tryz.f30 (C k) (a0,())=f k a0:=by kernel_rfl
theorem ctr (k:Nat):Cp 30 (C k):=rc rfl (D k) (by kernel_rfl) Tryz.func30 (by kernel_rfl) rfl fun ⟨a0,_⟩ r h=>(eq k a0).trans h
end aU
namespace cj
def C (k:Nat):Cn:=⟨[.val (.int .i64)],[.str],true,false,fun x=>f k x.1⟩
def D (k:Nat):List Ce:=[q (aN.ctr k),q (db.ctr k)]
def E (k:Nat):dI:=en (D k) [] 0 [] k
theorem eq (k:Nat) (a0:Int):rn (E k) Tryz.f79 (C k) (a0,())=f k a0:=by kernel_rfl
theorem ctr (k:Nat):Cp 79 (C k):=rc rfl (D k) (by kernel_rfl) Tryz.func79 (by kernel_rfl) rfl fun ⟨a0,_⟩ r h=>(eq k a0).trans h
end cj
namespace gq
def C (k:Nat):Cn:=⟨[.val .str],[(.int .i64),.bool],true,false,fun x=>f k x.1⟩
def D (k:Nat):List Ce:=[q (eJ.ctr k),q (aU.ctr k),q (cj.ctr k)]
def E (k:Nat):dI:=en (D k) [(2,[0,4])] 0 [] k
section
variable (k:Nat) (a0:ByteArray)
def K0:Ex→St→Rs:=cJ (E k) (eK (E k) Tryz.f153 (C k) (a0,())) [.blk 0,.code (at_ (bt 2 3) (body Tryz.f153))]
def V0 (n0:Nat):T0:=fun x0 x1=>aq (bn (E k) (at_ (bt 5 5) (body Tryz.f153))) (an 0 [0,4]) (K0 k a0) n0 (mk 40 0 [(0,.str x0),(4,.int .i64 x1)] [])
theorem s0 (n0:Nat):V0 k a0 (n0+1)=b0 k (V0 k a0 n0):=by kernel_rfl
theorem e0:V0 k a0=l0 k:=aZ rfl (s0 k a0) fun _=>rfl
end
theorem eq (k:Nat) (a0:ByteArray):rn (E k) Tryz.f153 (C k) (a0,())=f k a0:=(show _=t k (V0 k a0 k) a0 by kernel_rfl).trans (by rw [e0];rfl)
theorem ctr (k:Nat):Cp 153 (C k):=rc rfl (D k) (by kernel_rfl) Tryz.func153 (by kernel_rfl) rfl fun ⟨a0,_⟩ r h=>(eq k a0).trans h
end gq
namespace bR
def C (k:Nat):Cn:=⟨[.val aA,.val cZ],[(.slice .str)],true,false,fun x=>f k x.1 x.2.1⟩
def D (k:Nat):List Ce:=[q (bC.ctr k),q (gq.ctr k)]
def E (k:Nat):dI:=en (D k) [(5,[2,3,5,6]),(10,[2,3,5,6,7,8,9,10])] 0 [] k
section
variable (k:Nat) (a0:Ty.d aA) (a1:Ty.d cZ)
def K0:Ex→St→Rs:=cJ (E k) (eK (E k) Tryz.f127 (C k) (a0,a1,())) [.blk 0,.code (at_ (bt 4 15) (body Tryz.f127))]
def B0 (n0:Nat):Ex→St→Rs:=Kt (E k) (at_ (bt 7 23) (body Tryz.f127)) 0 [2,3,5,6] (K0 k a0 a1) n0
def K1 (n0:Nat):Ex→St→Rs:=cJ (E k) (B0 k a0 a1 n0) [.blk 2,.code (at_ (bt 13 7319) (body Tryz.f127)),.blk 1,.code (at_ (bt 9 407) (body Tryz.f127))]
def V0 (n0:Nat):T0:=fun x0 x1 x2 x3 x4 x5 x6 x7=>aq (bn (E k) (at_ (bt 7 23) (body Tryz.f127))) (an 0 [2,3,5,6]) (K0 k a0 a1) n0 (mk 74 3 [(2,.ptr 0 0 0),(3,.ptr 1 0 0),(5,.ref 2),(6,.int .i64 x0)] [(0,.box [.sl true aK x1,.int .i64 x2,.int .i64 x3,.bool x4]),(1,.box [.int .i64 x5,.sl true (.int .i64) x6]),(2,.own false .str x7)])
def V1 (n0 n1:Nat):T1:=fun x0 x1 x2 x3 x4 x5 x6 x7 x8 x9 x10 x11=>aq (bn (E k) (at_ (bt 16 11415) (body Tryz.f127))) (an 0 [2,3,5,6,7,8,9,10]) (K1 k a0 a1 n0) n1 (mk 74 3 [(2,.ptr 0 0 0),(3,.ptr 1 0 0),(5,.ref 2),(6,.int .i64 x0),(7,.int .i64 x1),(8,.bool x2),(9,.bool x3),(10,.int .i64 x4)] [(0,.box [.sl true aK x5,.int .i64 x6,.int .i64 x7,.bool x8]),(1,.box [.int .i64 x9,.sl true (.int .i64) x10]),(2,.own false .str x11)])
theorem s0 (n0:Nat):V0 k a0 a1 (n0+1)=b0 k (V1 k a0 a1 n0 k) (V0 k a0 a1 n0):=by kernel_rfl
theorem s1 (n0 n1:Nat):V1 k a0 a1 n0 (n1+1)=b1 k (V0 k a0 a1 n0) (V1 k a0 a1 n0 n1):=by kernel_rfl
theorem e1 (n0:Nat):V1 k a0 a1 n0=l1 k (V0 k a0 a1 n0):=aZ rfl (s1 k a0 a1 n0) fun _=>rfl
theorem e0 (n0:Nat):V0 k a0 a1 n0=l0 k n0:=by
 induction n0 with
 | zero=>rfl
 | succ n0 ih =>
  have h:V0 k a0 a1 (n0+1)=b0 k (V1 k a0 a1 n0 k) (V0 k a0 a1 n0):=s0 k a0 a1 n0
  rw [h,e1,ih]
  rfl
end
theorem eq (k:Nat) (a0:Ty.d aA) (a1:Ty.d cZ):rn (E k) Tryz.f127 (C k) (a0,a1,())=f k a0 a1:=(show _=t k (V0 k a0 a1 k) a0 a1 by kernel_rfl).trans (by rw [e0];rfl)
theorem ctr (k:Nat):Cp 127 (C k):=rc rfl (D k) (by kernel_rfl) Tryz.func127 (by kernel_rfl) rfl fun ⟨a0,a1,_⟩ r h=>(eq k a0 a1).trans h
end bR
namespace d5
def C (k:Nat):Cn:=⟨[.val aA],[aA,(.int .i64)],true,false,fun x=>f k x.1⟩
def D (k:Nat):List Ce:=[q (bh.ctr k),q (bC.ctr k)]
def E (k:Nat):dI:=en (D k) [] 0 [] k
theorem eq (k:Nat) (a0:Ty.d aA):rn (E k) Tryz.f118 (C k) (a0,())=f k a0:=by kernel_rfl
theorem ctr (k:Nat):Cp 118 (C k):=rc rfl (D k) (by kernel_rfl) Tryz.func118 (by kernel_rfl) rfl fun ⟨a0,_⟩ r h=>(eq k a0).trans h
end d5
namespace eW
def C (k:Nat):Cn:=⟨[.val (.slice aK),.val (.int .i64)],[(.slice aK)],true,false,fun x=>f k x.1 x.2.1⟩
def E (k:Nat):dI:=en [] [] 0 [] k
theorem eq (k:Nat) (a0:List (Ty.d aK)) (a1:Int):rn (E k) Tryz.f154 (C k) (a0,a1,())=f k a0 a1:=by kernel_rfl
theorem ctr (k:Nat):Cp 154 (C k):=rc rfl [] (by kernel_rfl) Tryz.func154 (by kernel_rfl) rfl fun ⟨a0,a1,_⟩ r h=>(eq k a0 a1).trans h
end eW
namespace gD
def C (k:Nat):Cn:=⟨[.val aA,.val .str],[aA,(.int .i64)],true,false,fun x=>f k x.1 x.2.1⟩
def D (k:Nat):List Ce:=[q (d5.ctr k),q (bE.ctr k),q (eW.ctr k)]
def E (k:Nat):dI:=en (D k) [] 0 [] k
theorem eq (k:Nat) (a0:Ty.d aA) (a1:ByteArray):rn (E k) Tryz.f128 (C k) (a0,a1,())=f k a0 a1:=by kernel_rfl
theorem ctr (k:Nat):Cp 128 (C k):=rc rfl (D k) (by kernel_rfl) Tryz.func128 (by kernel_rfl) rfl fun ⟨a0,a1,_⟩ r h=>(eq k a0 a1).trans h
end gD
namespace aW
def C (k:Nat):Cn:=⟨[.val (.int .i64)],[(.int .i64)],true,false,fun x=>f k x.1⟩
def E (k:Nat):dI:=en [] [] 0 [] k
theorem eq (k:Nat) (a0:Int):rn (E k) Tryz.f77 (C k) (a0,())=f k a0:=by kernel_rfl
theorem ctr (k:Nat):Cp 77 (C k):=rc rfl [] (by kernel_rfl) Tryz.func77 (by kernel_rfl) rfl fun ⟨a0,_⟩ r h=>(eq k a0).trans h
end aW
namespace d9
def C (k:Nat):Cn:=⟨[.val (.slice aK),.val aK],[(.slice aK)],true,false,fun x=>f k x.1 x.2.1⟩
def E (k:Nat):dI:=en [] [(4,[0,3,5,6,7])] 0 [] k
section
variable (k:Nat) (a0:List (Ty.d aK)) (a1:Ty.d aK)
def K0:Ex→St→Rs:=cJ (E k) (eK (E k) Tryz.f145 (C k) (a0,a1,())) [.blk 0,.code (at_ (bt 4 15) (body Tryz.f145))]
def V0 (n0:Nat):T0:=fun x0 x1 x2 x3 x4 x5 x6=>aq (bn (E k) (at_ (bt 7 23) (body Tryz.f145))) (an 0 [0,3,5,6,7]) (K0 k a0 a1) n0 (mk 45 2 [(0,.sl true aK x0),(3,.ptr 0 0 0),(5,.ref 1),(6,.bool x1),(7,.int .i64 x2)] [(0,.box [.str x3,.str x4,.int .i64 x5]),(1,.own false aK x6)])
theorem s0 (n0:Nat):V0 k a0 a1 (n0+1)=b0 k (V0 k a0 a1 n0):=by kernel_rfl
theorem e0:V0 k a0 a1=l0 k:=aZ rfl (s0 k a0 a1) fun _=>rfl
end
theorem eq (k:Nat) (a0:List (Ty.d aK)) (a1:Ty.d aK):rn (E k) Tryz.f145 (C k) (a0,a1,())=f k a0 a1:=(show _=t k (V0 k a0 a1 k) a0 a1 by kernel_rfl).trans (by rw [e0];rfl)
theorem ctr (k:Nat):Cp 145 (C k):=rc rfl [] (by kernel_rfl) Tryz.func145 (by kernel_rfl) rfl fun ⟨a0,a1,_⟩ r h=>(eq k a0 a1).trans h
end d9
namespace gi
def C (k:Nat):Cn:=⟨[.val aA,.val .str],[aA,(.int .i64)],true,false,fun x=>f k x.1 x.2.1⟩
def D (k:Nat):List Ce:=[q (d5.ctr k),q (dc.ctr k),q (bE.ctr k),q (d9.ctr k)]
def E (k:Nat):dI:=en (D k) [] 0 [] k
theorem eq (k:Nat) (a0:Ty.d aA) (a1:ByteArray):rn (E k) Tryz.f115 (C k) (a0,a1,())=f k a0 a1:=by kernel_rfl
theorem ctr (k:Nat):Cp 115 (C k):=rc rfl (D k) (by kernel_rfl) Tryz.func115 (by kernel_rfl) rfl fun ⟨a0,a1,_⟩ r h=>(eq k a0 a1).trans h
end gi
namespace cY
def C (k:Nat):Cn:=⟨[.val cZ],[.bool],true,false,fun x=>f k x.1⟩
def D (k:Nat):List Ce:=[q (aN.ctr k)]
def E (k:Nat):dI:=en (D k) [(4,[1,3])] 0 [] k
section
variable (k:Nat) (a0:Ty.d cZ)
def K0:Ex→St→Rs:=cJ (E k) (eK (E k) Tryz.f27 (C k) (a0,())) [.blk 0,.code (at_ (bt 3 7) (body Tryz.f27))]
def V0 (n0:Nat):T0:=fun x0 x1 x2=>aq (bn (E k) (at_ (bt 6 11) (body Tryz.f27))) (an 0 [1,3]) (K0 k a0) n0 (mk 50 1 [(1,.ptr 0 0 0),(3,.int .i64 x0)] [(0,.box [.int .i64 x1,.sl true (.int .i64) x2])])
theorem s0 (n0:Nat):V0 k a0 (n0+1)=b0 k (V0 k a0 n0):=by kernel_rfl
theorem e0:V0 k a0=l0 k:=aZ rfl (s0 k a0) fun _=>rfl
end
theorem eq (k:Nat) (a0:Ty.d cZ):rn (E k) Tryz.f27 (C k) (a0,())=f k a0:=(show _=t k (V0 k a0 k) a0 by kernel_rfl).trans (by rw [e0];rfl)
theorem ctr (k:Nat):Cp 27 (C k):=rc rfl (D k) (by kernel_rfl) Tryz.func27 (by kernel_rfl) rfl fun ⟨a0,_⟩ r h=>(eq k a0).trans h
end cY
namespace bY
def C (k:Nat):Cn:=⟨[.val (.int .i64)],[.str],true,false,fun x=>f k x.1⟩
def D (k:Nat):List Ce:=[q (aN.ctr k)]
def E (k:Nat):dI:=en (D k) [(4,[0,3])] 0 [] k
section
variable (k:Nat) (a0:Int)
def K0:Ex→St→Rs:=cJ (E k) (eK (E k) Tryz.f136 (C k) (a0,())) [.blk 0,.code (at_ (bt 4 15) (body Tryz.f136))]
def V0 (n0:Nat):T0:=fun x0 x1=>aq (bn (E k) (at_ (bt 6 7) (body Tryz.f136))) (an 0 [0,3]) (K0 k a0) n0 (mk 25 1 [(0,.int .i64 x0),(3,.ref 0)] [(0,.own false (.int .u8) x1)])
theorem s0 (n0:Nat):V0 k a0 (n0+1)=b0 k (V0 k a0 n0):=by kernel_rfl
theorem e0:V0 k a0=l0 k:=aZ rfl (s0 k a0) fun _=>rfl
end
theorem eq (k:Nat) (a0:Int):rn (E k) Tryz.f136 (C k) (a0,())=f k a0:=(show _=t k (V0 k a0 k) a0 by kernel_rfl).trans (by rw [e0];rfl)
theorem ctr (k:Nat):Cp 136 (C k):=rc rfl (D k) (by kernel_rfl) Tryz.func136 (by kernel_rfl) rfl fun ⟨a0,_⟩ r h=>(eq k a0).trans h
end bY
namespace fk
def C (k:Nat):Cn:=⟨[.val .str],[(.int .i64)],true,false,fun x=>f k x.1⟩
def E (k:Nat):dI:=en [] [(3,[0,3,4]),(7,[0,3,4,5])] 0 [] k
section
variable (k:Nat) (a0:ByteArray)
def K0:Ex→St→Rs:=cJ (E k) (eK (E k) Tryz.f138 (C k) (a0,())) [.blk 0,.code (at_ (bt 3 7) (body Tryz.f138))]
def B0 (n0:Nat):Ex→St→Rs:=Kt (E k) (at_ (bt 6 11) (body Tryz.f138)) 0 [0,3,4] (K0 k a0) n0
def K1 (n0:Nat):Ex→St→Rs:=cJ (E k) (B0 k a0 n0) [.blk 2,.blk 1,.code (at_ (bt 8 203) (body Tryz.f138))]
def V0 (n0:Nat):T0:=fun x0 x1 x2=>aq (bn (E k) (at_ (bt 6 11) (body Tryz.f138))) (an 0 [0,3,4]) (K0 k a0) n0 (mk 33 0 [(0,.str x0),(3,.int .i64 x1),(4,.int .i64 x2)] [])
def V1 (n0 n1:Nat):T1:=fun x0 x1 x2 x3=>aq (bn (E k) (at_ (bt 13 1611) (body Tryz.f138))) (an 0 [0,3,4,5]) (K1 k a0 n0) n1 (mk 33 0 [(0,.str x0),(3,.int .i64 x1),(4,.int .i64 x2),(5,.int .i64 x3)] [])
theorem s0 (n0:Nat):V0 k a0 (n0+1)=b0 k (V1 k a0 n0 k) (V0 k a0 n0):=by kernel_rfl
theorem s1 (n0 n1:Nat):V1 k a0 n0 (n1+1)=b1 k (V0 k a0 n0) (V1 k a0 n0 n1):=by kernel_rfl
theorem e1 (n0:Nat):V1 k a0 n0=l1 k (V0 k a0 n0):=aZ rfl (s1 k a0 n0) fun _=>rfl
theorem e0 (n0:Nat):V0 k a0 n0=l0 k n0:=by
 induction n0 with
 | zero=>rfl
 | succ n0 ih =>
  have h:V0 k a0 (n0+1)=b0 k (V1 k a0 n0 k) (V0 k a0 n0):=s0 k a0 n0
  rw [h,e1,ih]
  rfl
end
theorem eq (k:Nat) (a0:ByteArray):rn (E k) Tryz.f138 (C k) (a0,())=f k a0:=(show _=t k (V0 k a0 k) a0 by kernel_rfl).trans (by rw [e0];rfl)
theorem ctr (k:Nat):Cp 138 (C k):=rc rfl [] (by kernel_rfl) Tryz.func138 (by kernel_rfl) rfl fun ⟨a0,_⟩ r h=>(eq k a0).trans h
end fk
namespace dM
def C (k:Nat):Cn:=⟨[.val (.int .i64),.val (.int .i64)],[.str],true,false,fun x=>f k x.1 x.2.1⟩
def D (k:Nat):List Ce:=[q (aN.ctr k)]
def E (k:Nat):dI:=en (D k) [(5,[0,1,5,6])] 0 [] k
section
variable (k:Nat) (a0:Int) (a1:Int)
def K0:Ex→St→Rs:=cJ (E k) (eK (E k) Tryz.f137 (C k) (a0,a1,())) [.blk 0,.code (at_ (bt 4 15) (body Tryz.f137))]
def V0 (n0:Nat):T0:=fun x0 x1 x2 x3=>aq (bn (E k) (at_ (bt 7 23) (body Tryz.f137))) (an 0 [0,1,5,6]) (K0 k a0 a1) n0 (mk 31 0 [(0,.int .i64 x0),(1,.int .i64 x1),(5,.str x2),(6,.int .i64 x3)] [])
theorem s0 (n0:Nat):V0 k a0 a1 (n0+1)=b0 k (V0 k a0 a1 n0):=by kernel_rfl
theorem e0:V0 k a0 a1=l0 k:=aZ rfl (s0 k a0 a1) fun _=>rfl
end
theorem eq (k:Nat) (a0:Int) (a1:Int):rn (E k) Tryz.f137 (C k) (a0,a1,())=f k a0 a1:=(show _=t k (V0 k a0 a1 k) a0 a1 by kernel_rfl).trans (by rw [e0];rfl)
theorem ctr (k:Nat):Cp 137 (C k):=rc rfl (D k) (by kernel_rfl) Tryz.func137 (by kernel_rfl) rfl fun ⟨a0,a1,_⟩ r h=>(eq k a0 a1).trans h
end dM
namespace fI
def C (k:Nat):Cn:=⟨[.val .str],[.str],true,false,fun x=>f k x.1⟩
def D (k:Nat):List Ce:=[q (bY.ctr k),q (fk.ctr k),q (dM.ctr k)]
def E (k:Nat):dI:=en (D k) [] 0 [] k
theorem eq (k:Nat) (a0:ByteArray):rn (E k) Tryz.f97 (C k) (a0,())=f k a0:=by kernel_rfl
theorem ctr (k:Nat):Cp 97 (C k):=rc rfl (D k) (by kernel_rfl) Tryz.func97 (by kernel_rfl) rfl fun ⟨a0,_⟩ r h=>(eq k a0).trans h
end fI
namespace dA
def C (k:Nat):Cn:=⟨[.val cZ],[.str],true,false,fun x=>f k x.1⟩
def D (k:Nat):List Ce:=[q (cY.ctr k),q (bY.ctr k),q (fI.ctr k)]
def E (k:Nat):dI:=en (D k) [(5,[1,3,4])] 0 [] k
section
variable (k:Nat) (a0:Ty.d cZ)
def K0:Ex→St→Rs:=cJ (E k) (eK (E k) Tryz.f117 (C k) (a0,())) [.blk 0,.code (at_ (bt 4 15) (body Tryz.f117))]
def V0 (n0:Nat):T0:=fun x0 x1 x2 x3=>aq (bn (E k) (at_ (bt 7 23) (body Tryz.f117))) (an 0 [1,3,4]) (K0 k a0) n0 (mk 33 1 [(1,.ptr 0 0 0),(3,.str x0),(4,.int .i64 x1)] [(0,.box [.int .i64 x2,.sl true (.int .i64) x3])])
theorem s0 (n0:Nat):V0 k a0 (n0+1)=b0 k (V0 k a0 n0):=by kernel_rfl
theorem e0:V0 k a0=l0 k:=aZ rfl (s0 k a0) fun _=>rfl
end
theorem eq (k:Nat) (a0:Ty.d cZ):rn (E k) Tryz.f117 (C k) (a0,())=f k a0:=(show _=t k (V0 k a0 k) a0 by kernel_rfl).trans (by rw [e0];rfl)
theorem ctr (k:Nat):Cp 117 (C k):=rc rfl (D k) (by kernel_rfl) Tryz.func117 (by kernel_rfl) rfl fun ⟨a0,_⟩ r h=>(eq k a0).trans h
end dA
namespace dV
def C (k:Nat):Cn:=⟨[.val aA,.val .str],[aA,(.int .i64)],true,false,fun x=>f k x.1 x.2.1⟩
def D (k:Nat):List Ce:=[q (bE.ctr k),q (gD.ctr k),q (gi.ctr k)]
def E (k:Nat):dI:=en (D k) [] 0 [] k
theorem eq (k:Nat) (a0:Ty.d aA) (a1:ByteArray):rn (E k) Tryz.f157 (C k) (a0,a1,())=f k a0 a1:=by kernel_rfl
theorem ctr (k:Nat):Cp 157 (C k):=rc rfl (D k) (by kernel_rfl) Tryz.func157 (by kernel_rfl) rfl fun ⟨a0,a1,_⟩ r h=>(eq k a0 a1).trans h
end dV
namespace dX
def C (k:Nat):Cn:=⟨[.val aA,.val .str,.val .str],[aA,(.int .i64)],true,false,fun x=>f k x.1 x.2.1 x.2.2.1⟩
def D (k:Nat):List Ce:=[q (d5.ctr k),q (bE.ctr k),q (df.ctr k)]
def E (k:Nat):dI:=en (D k) [] 0 [] k
theorem eq (k:Nat) (a0:Ty.d aA) (a1:ByteArray) (a2:ByteArray):rn (E k) Tryz.f164 (C k) (a0,a1,a2,())=f k a0 a1 a2:=by kernel_rfl
theorem ctr (k:Nat):Cp 164 (C k):=rc rfl (D k) (by kernel_rfl) Tryz.func164 (by kernel_rfl) rfl fun ⟨a0,a1,a2,_⟩ r h=>(eq k a0 a1 a2).trans h
end dX
namespace eA
def C (k:Nat):Cn:=⟨[.val aA,.val .str],[aA,(.int .i64)],true,false,fun x=>f k x.1 x.2.1⟩
def D (k:Nat):List Ce:=[q (d5.ctr k),q (bE.ctr k)]
def E (k:Nat):dI:=en (D k) [] 0 [] k
theorem eq (k:Nat) (a0:Ty.d aA) (a1:ByteArray):rn (E k) Tryz.f78 (C k) (a0,a1,())=f k a0 a1:=by kernel_rfl
theorem ctr (k:Nat):Cp 78 (C k):=rc rfl (D k) (by kernel_rfl) Tryz.func78 (by kernel_rfl) rfl fun ⟨a0,a1,_⟩ r h=>(eq k a0 a1).trans h
end eA
namespace gU
def C (k:Nat):Cn:=⟨[.val aA,.val .str,.val .str],[aA,(.int .i64)],true,false,fun x=>f k x.1 x.2.1 x.2.2.1⟩
def D (k:Nat):List Ce:=[q (dV.ctr k),q (dX.ctr k),q (eA.ctr k)]
def E (k:Nat):dI:=en (D k) [] 0 [] k
theorem eq (k:Nat) (a0:Ty.d aA) (a1:ByteArray) (a2:ByteArray):rn (E k) Tryz.f146 (C k) (a0,a1,a2,())=f k a0 a1 a2:=by kernel_rfl
theorem ctr (k:Nat):Cp 146 (C k):=rc rfl (D k) (by kernel_rfl) Tryz.func146 (by kernel_rfl) rfl fun ⟨a0,a1,a2,_⟩ r h=>(eq k a0 a1 a2).trans h
end gU
namespace jR
def C (k:Nat):Cn:=⟨[.val aA,.val .str,.val .str],[aA,(.int .i64)],true,false,fun x=>f k x.1 x.2.1 x.2.2.1⟩
def D (k:Nat):List Ce:=[q (d5.ctr k),q (dc.ctr k),q (bE.ctr k),q (eW.ctr k),q (d9.ctr k)]
def E (k:Nat):dI:=en (D k) [] 0 [] k
theorem eq (k:Nat) (a0:Ty.d aA) (a1:ByteArray) (a2:ByteArray):rn (E k) Tryz.f147 (C k) (a0,a1,a2,())=f k a0 a1 a2:=by kernel_rfl
theorem ctr (k:Nat):Cp 147 (C k):=rc rfl (D k) (by kernel_rfl) Tryz.func147 (by kernel_rfl) rfl fun ⟨a0,a1,a2,_⟩ r h=>(eq k a0 a1 a2).trans h
end jR
namespace eG
def C (k:Nat):Cn:=⟨[.val aA,.val cZ],[aA,(.int .i64)],true,false,fun x=>f k x.1 x.2.1⟩
def D (k:Nat):List Ce:=[q (bC.ctr k),q (bh.ctr k),q (cY.ctr k),q (dA.ctr k),q (gU.ctr k),q (jR.ctr k),q (aW.ctr k)]
def E (k:Nat):dI:=en (D k) [] 0 [] k
theorem eq (k:Nat) (a0:Ty.d aA) (a1:Ty.d cZ):rn (E k) Tryz.f116 (C k) (a0,a1,())=f k a0 a1:=by kernel_rfl
theorem ctr (k:Nat):Cp 116 (C k):=rc rfl (D k) (by kernel_rfl) Tryz.func116 (by kernel_rfl) rfl fun ⟨a0,a1,_⟩ r h=>(eq k a0 a1).trans h
end eG
namespace ag
def C (k:Nat):Cn:=⟨[.val .str],[(.int .i64),(.int .i64)],true,false,fun x=>f k x.1⟩
def D (k:Nat):List Ce:=[q (bY.ctr k)]
def E (k:Nat):dI:=en (D k) [(2,[0,4]),(6,[0,4,5,6])] 0 [] k
section
variable (k:Nat) (a0:ByteArray)
def K0:Ex→St→Rs:=cJ (E k) (eK (E k) Tryz.f96 (C k) (a0,())) [.blk 0,.code (at_ (bt 2 3) (body Tryz.f96))]
def B0 (n0:Nat):Ex→St→Rs:=Kt (E k) (at_ (bt 5 5) (body Tryz.f96)) 0 [0,4] (K0 k a0) n0
def K1 (n0:Nat):Ex→St→Rs:=cJ (E k) (B0 k a0 n0) [.blk 2,.code (at_ (bt 10 805) (body Tryz.f96)),.blk 1,.code (at_ (bt 7 101) (body Tryz.f96))]
def V0 (n0:Nat):T0:=fun x0 x1=>aq (bn (E k) (at_ (bt 5 5) (body Tryz.f96))) (an 0 [0,4]) (K0 k a0) n0 (mk 39 0 [(0,.str x0),(4,.int .i64 x1)] [])
def V1 (n0 n1:Nat):T1:=fun x0 x1 x2 x3=>aq (bn (E k) (at_ (bt 13 1317) (body Tryz.f96))) (an 0 [0,4,5,6]) (K1 k a0 n0) n1 (mk 39 0 [(0,.str x0),(4,.int .i64 x1),(5,.int .i64 x2),(6,.int .i64 x3)] [])
theorem s0 (n0:Nat):V0 k a0 (n0+1)=b0 k (V1 k a0 n0 k) (V0 k a0 n0):=by kernel_rfl
theorem s1 (n0 n1:Nat):V1 k a0 n0 (n1+1)=b1 k (V0 k a0 n0) (V1 k a0 n0 n1):=by kernel_rfl
theorem e1 (n0:Nat):V1 k a0 n0=l1 k (V0 k a0 n0):=aZ rfl (s1 k a0 n0) fun _=>rfl
theorem e0 (n0:Nat):V0 k a0 n0=l0 k n0:=by
 induction n0 with
 | zero=>rfl
 | succ n0 ih =>
  have h:V0 k a0 (n0+1)=b0 k (V1 k a0 n0 k) (V0 k a0 n0):=s0 k a0 n0
  rw [h,e1,ih]
  rfl
end
theorem eq (k:Nat) (a0:ByteArray):rn (E k) Tryz.f96 (C k) (a0,())=f k a0:=(show _=t k (V0 k a0 k) a0 by kernel_rfl).trans (by rw [e0];rfl)
theorem ctr (k:Nat):Cp 96 (C k):=rc rfl (D k) (by kernel_rfl) Tryz.func96 (by kernel_rfl) rfl fun ⟨a0,_⟩ r h=>(eq k a0).trans h
end ag
namespace dQ
def C (k:Nat):Cn:=⟨[.val .str],[.str,(.int .i64)],true,false,fun x=>f k x.1⟩
def D (k:Nat):List Ce:=[q (ag.ctr k),q (fI.ctr k)]
def E (k:Nat):dI:=en (D k) [] 0 [] k
theorem eq (k:Nat) (a0:ByteArray):rn (E k) Tryz.f58 (C k) (a0,())=f k a0:=by kernel_rfl
theorem ctr (k:Nat):Cp 58 (C k):=rc rfl (D k) (by kernel_rfl) Tryz.func58 (by kernel_rfl) rfl fun ⟨a0,_⟩ r h=>(eq k a0).trans h
end dQ
namespace bM
def C (k:Nat):Cn:=⟨[.val .str],[cZ,.bool],true,false,fun x=>f k x.1⟩
def D (k:Nat):List Ce:=[q (dQ.ctr k),q (ag.ctr k),q (dA.ctr k)]
def E (k:Nat):dI:=en (D k) [(9,[0,2,4,8,10,11,12])] 0 [] k
section
variable (k:Nat) (a0:ByteArray)
def K0:Ex→St→Rs:=cJ (E k) (eK (E k) Tryz.f75 (C k) (a0,())) [.blk 0,.code (at_ (bt 8 255) (body Tryz.f75))]
def V0 (n0:Nat):T0:=fun x0 x1 x2 x3 x4 x5 x6 x7 x8=>aq (bn (E k) (at_ (bt 11 383) (body Tryz.f75))) (an 0 [0,2,4,8,10,11,12]) (K0 k a0) n0 (mk 81 4 [(0,.str x0),(2,.ptr 0 0 0),(4,.str x1),(8,.int .i64 x2),(10,.ptr 2 0 0),(11,.int .i64 x3),(12,.int .i64 x4)] [(1,.own false (.int .i64) x5),(0,.box [.int .i64 x6,.ref 1]),(3,.own false (.int .i64) x7),(2,.box [.int .i64 x8,.ref 3])])
theorem s0 (n0:Nat):V0 k a0 (n0+1)=b0 k (V0 k a0 n0):=by kernel_rfl
theorem e0:V0 k a0=l0 k:=aZ rfl (s0 k a0) fun _=>rfl
end
theorem eq (k:Nat) (a0:ByteArray):rn (E k) Tryz.f75 (C k) (a0,())=f k a0:=(show _=t k (V0 k a0 k) a0 by kernel_rfl).trans (by rw [e0];rfl)
theorem ctr (k:Nat):Cp 75 (C k):=rc rfl (D k) (by kernel_rfl) Tryz.func75 (by kernel_rfl) rfl fun ⟨a0,_⟩ r h=>(eq k a0).trans h
end bM
namespace cL
def C (k:Nat):Cn:=⟨[.val .str],[.str,.str,.bool],true,false,fun x=>f k x.1⟩
def D (k:Nat):List Ce:=[q (ag.ctr k)]
def E (k:Nat):dI:=en (D k) [] 0 [] k
theorem eq (k:Nat) (a0:ByteArray):rn (E k) Tryz.f98 (C k) (a0,())=f k a0:=by kernel_rfl
theorem ctr (k:Nat):Cp 98 (C k):=rc rfl (D k) (by kernel_rfl) Tryz.func98 (by kernel_rfl) rfl fun ⟨a0,_⟩ r h=>(eq k a0).trans h
end cL
namespace cm
def C (k:Nat):Cn:=⟨[.val .str],[.bool],true,false,fun x=>f k x.1⟩
def D (k:Nat):List Ce:=[q (aN.ctr k)]
def E (k:Nat):dI:=en (D k) [] 0 [] k
theorem eq (k:Nat) (a0:ByteArray):rn (E k) Tryz.f55 (C k) (a0,())=f k a0:=by kernel_rfl
theorem ctr (k:Nat):Cp 55 (C k):=rc rfl (D k) (by kernel_rfl) Tryz.func55 (by kernel_rfl) rfl fun ⟨a0,_⟩ r h=>(eq k a0).trans h
end cm
namespace kB
def C (k:Nat):Cn:=⟨[.val bB],[.bool],true,false,fun x=>f k x.1⟩
def D (k:Nat):List Ce:=[q (aN.ctr k),q (cm.ctr k)]
def E (k:Nat):dI:=en (D k) [] 0 [] k
theorem eq (k:Nat) (a0:Ty.d bB):rn (E k) Tryz.f139 (C k) (a0,())=f k a0:=by kernel_rfl
theorem ctr (k:Nat):Cp 139 (C k):=rc rfl (D k) (by kernel_rfl) Tryz.func139 (by kernel_rfl) rfl fun ⟨a0,_⟩ r h=>(eq k a0).trans h
end kB
namespace cD
def C (k:Nat):Cn:=⟨[.val bB],[.str],true,false,fun x=>f k x.1⟩
def D (k:Nat):List Ce:=[q (kB.ctr k),q (bY.ctr k),q (dM.ctr k)]
def E (k:Nat):dI:=en (D k) [] 0 [] k
theorem eq (k:Nat) (a0:Ty.d bB):rn (E k) Tryz.f100 (C k) (a0,())=f k a0:=by kernel_rfl
theorem ctr (k:Nat):Cp 100 (C k):=rc rfl (D k) (by kernel_rfl) Tryz.func100 (by kernel_rfl) rfl fun ⟨a0,_⟩ r h=>(eq k a0).trans h
end cD
namespace bZ
def C (k:Nat):Cn:=⟨[.val .str,.val (.int .i64)],[(.int .i64),.bool],true,false,fun x=>f k x.1 x.2.1⟩
def D (k:Nat):List Ce:=[q (aN.ctr k)]
def E (k:Nat):dI:=en (D k) [(5,[0,1,6,7])] 0 [] k
section
variable (k:Nat) (a0:ByteArray) (a1:Int)
def K0:Ex→St→Rs:=cJ (E k) (eK (E k) Tryz.f99 (C k) (a0,a1,())) [.blk 0,.code (at_ (bt 4 15) (body Tryz.f99))]
def V0 (n0:Nat):T0:=fun x0 x1 x2 x3=>aq (bn (E k) (at_ (bt 7 23) (body Tryz.f99))) (an 0 [0,1,6,7]) (K0 k a0 a1) n0 (mk 30 0 [(0,.str x0),(1,.int .i64 x1),(6,.int .i64 x2),(7,.int .i64 x3)] [])
theorem s0 (n0:Nat):V0 k a0 a1 (n0+1)=b0 k (V0 k a0 a1 n0):=by kernel_rfl
theorem e0:V0 k a0 a1=l0 k:=aZ rfl (s0 k a0 a1) fun _=>rfl
end
theorem eq (k:Nat) (a0:ByteArray) (a1:Int):rn (E k) Tryz.f99 (C k) (a0,a1,())=f k a0 a1:=(show _=t k (V0 k a0 a1 k) a0 a1 by kernel_rfl).trans (by rw [e0];rfl)
theorem ctr (k:Nat):Cp 99 (C k):=rc rfl (D k) (by kernel_rfl) Tryz.func99 (by kernel_rfl) rfl fun ⟨a0,a1,_⟩ r h=>(eq k a0 a1).trans h
end bZ
namespace dl
def C (k:Nat):Cn:=⟨[.val .str],[bB,.bool],true,false,fun x=>f k x.1⟩
def D (k:Nat):List Ce:=[q (ag.ctr k),q (cL.ctr k),q (cD.ctr k),q (bZ.ctr k)]
def E (k:Nat):dI:=en (D k) [] 0 [] k
theorem eq (k:Nat) (a0:ByteArray):rn (E k) Tryz.f59 (C k) (a0,())=f k a0:=by kernel_rfl
theorem ctr (k:Nat):Cp 59 (C k):=rc rfl (D k) (by kernel_rfl) Tryz.func59 (by kernel_rfl) rfl fun ⟨a0,_⟩ r h=>(eq k a0).trans h
end dl
namespace bX
def C (k:Nat):Cn:=⟨[.val .str],[(.slice cA),(.int .i64)],true,false,fun x=>f k x.1⟩
def D (k:Nat):List Ce:=[q (dQ.ctr k),q (dl.ctr k)]
def E (k:Nat):dI:=en (D k) [(3,[0,4,5])] 0 [] k
section
variable (k:Nat) (a0:ByteArray)
def K0:Ex→St→Rs:=cJ (E k) (eK (E k) Tryz.f31 (C k) (a0,())) [.blk 0,.code (at_ (bt 4 15) (body Tryz.f31))]
def V0 (n0:Nat):T0:=fun x0 x1 x2=>aq (bn (E k) (at_ (bt 6 7) (body Tryz.f31))) (an 0 [0,4,5]) (K0 k a0) n0 (mk 47 1 [(0,.str x0),(4,.ref 0),(5,.int .i64 x1)] [(0,.own false cA x2)])
theorem s0 (n0:Nat):V0 k a0 (n0+1)=b0 k (V0 k a0 n0):=by kernel_rfl
theorem e0:V0 k a0=l0 k:=aZ rfl (s0 k a0) fun _=>rfl
end
theorem eq (k:Nat) (a0:ByteArray):rn (E k) Tryz.f31 (C k) (a0,())=f k a0:=(show _=t k (V0 k a0 k) a0 by kernel_rfl).trans (by rw [e0];rfl)
theorem ctr (k:Nat):Cp 31 (C k):=rc rfl (D k) (by kernel_rfl) Tryz.func31 (by kernel_rfl) rfl fun ⟨a0,_⟩ r h=>(eq k a0).trans h
end bX
namespace i_
def C (k:Nat):Cn:=⟨[.val aA,.val .str,.val (.int .i64)],[aA,(.int .i64)],true,false,fun x=>f k x.1 x.2.1 x.2.2.1⟩
def D (k:Nat):List Ce:=[q (d5.ctr k),q (bE.ctr k),q (aN.ctr k)]
def E (k:Nat):dI:=en (D k) [] 0 [] k
theorem eq (k:Nat) (a0:Ty.d aA) (a1:ByteArray) (a2:Int):rn (E k) Tryz.f76 (C k) (a0,a1,a2,())=f k a0 a1 a2:=by kernel_rfl
theorem ctr (k:Nat):Cp 76 (C k):=rc rfl (D k) (by kernel_rfl) Tryz.func76 (by kernel_rfl) rfl fun ⟨a0,a1,a2,_⟩ r h=>(eq k a0 a1 a2).trans h
end i_
namespace bg
def C (k:Nat):Cn:=⟨[.val .str,.val (.int .i64),.val (.int .i64)],[(.slice (.int .i64)),(.int .i64)],true,false,fun x=>f k x.1 x.2.1 x.2.2.1⟩
def D (k:Nat):List Ce:=[q (ag.ctr k)]
def E (k:Nat):dI:=en (D k) [(3,[0,1,2,8,9])] 0 [] k
section
variable (k:Nat) (a0:ByteArray) (a1:Int) (a2:Int)
def K0:Ex→St→Rs:=cJ (E k) (eK (E k) Tryz.f119 (C k) (a0,a1,a2,())) [.blk 0,.code (at_ (bt 3 7) (body Tryz.f119))]
def V0 (n0:Nat):T0:=fun x0 x1 x2 x3 x4=>aq (bn (E k) (at_ (bt 6 11) (body Tryz.f119))) (an 0 [0,1,2,8,9]) (K0 k a0 a1 a2) n0 (mk 38 1 [(0,.str x0),(1,.int .i64 x1),(2,.int .i64 x2),(8,.ref 0),(9,.int .i64 x3)] [(0,.own false (.int .i64) x4)])
theorem s0 (n0:Nat):V0 k a0 a1 a2 (n0+1)=b0 k (V0 k a0 a1 a2 n0):=by kernel_rfl
theorem e0:V0 k a0 a1 a2=l0 k:=aZ rfl (s0 k a0 a1 a2) fun _=>rfl
end
theorem eq (k:Nat) (a0:ByteArray) (a1:Int) (a2:Int):rn (E k) Tryz.f119 (C k) (a0,a1,a2,())=f k a0 a1 a2:=(show _=t k (V0 k a0 a1 a2 k) a0 a1 a2 by kernel_rfl).trans (by rw [e0];rfl)
theorem ctr (k:Nat):Cp 119 (C k):=rc rfl (D k) (by kernel_rfl) Tryz.func119 (by kernel_rfl) rfl fun ⟨a0,a1,a2,_⟩ r h=>(eq k a0 a1 a2).trans h
end bg
namespace eh
def C (k:Nat):Cn:=⟨[.val (.slice aB)],[.bool],true,false,fun x=>f k x.1⟩
def D (k:Nat):List Ce:=[q (cm.ctr k),q (aN.ctr k)]
def E (k:Nat):dI:=en (D k) [(4,[0,3])] 0 [] k
section
variable (k:Nat) (a0:List (Ty.d aB))
def K0:Ex→St→Rs:=cJ (E k) (eK (E k) Tryz.f28 (C k) (a0,())) [.blk 0,.code (at_ (bt 3 7) (body Tryz.f28))]
def V0 (n0:Nat):T0:=fun x0 x1=>aq (bn (E k) (at_ (bt 6 11) (body Tryz.f28))) (an 0 [0,3]) (K0 k a0) n0 (mk 60 0 [(0,.sl true aB x0),(3,.int .i64 x1)] [])
theorem s0 (n0:Nat):V0 k a0 (n0+1)=b0 k (V0 k a0 n0):=by kernel_rfl
theorem e0:V0 k a0=l0 k:=aZ rfl (s0 k a0) fun _=>rfl
end
theorem eq (k:Nat) (a0:List (Ty.d aB)):rn (E k) Tryz.f28 (C k) (a0,())=f k a0:=(show _=t k (V0 k a0 k) a0 by kernel_rfl).trans (by rw [e0];rfl)
theorem ctr (k:Nat):Cp 28 (C k):=rc rfl (D k) (by kernel_rfl) Tryz.func28 (by kernel_rfl) rfl fun ⟨a0,_⟩ r h=>(eq k a0).trans h
end eh
namespace gR
def C (k:Nat):Cn:=⟨[.val gZ],[.bool],true,false,fun x=>f k x.1⟩
def D (k:Nat):List Ce:=[q (aN.ctr k),q (eh.ctr k)]
def E (k:Nat):dI:=en (D k) [(4,[1,3])] 0 [] k
section
variable (k:Nat) (a0:Ty.d gZ)
def K0:Ex→St→Rs:=cJ (E k) (eK (E k) Tryz.f148 (C k) (a0,())) [.blk 0,.code (at_ (bt 3 7) (body Tryz.f148))]
def V0 (n0:Nat):T0:=fun x0 x1 x2 x3=>aq (bn (E k) (at_ (bt 6 11) (body Tryz.f148))) (an 0 [1,3]) (K0 k a0) n0 (mk 48 1 [(1,.ptr 0 0 0),(3,.int .i64 x0)] [(0,.box [.int .i64 x1,.int .i64 x2,.sl true aB x3])])
theorem s0 (n0:Nat):V0 k a0 (n0+1)=b0 k (V0 k a0 n0):=by kernel_rfl
theorem e0:V0 k a0=l0 k:=aZ rfl (s0 k a0) fun _=>rfl
end
theorem eq (k:Nat) (a0:Ty.d gZ):rn (E k) Tryz.f148 (C k) (a0,())=f k a0:=(show _=t k (V0 k a0 k) a0 by kernel_rfl).trans (by rw [e0];rfl)
theorem ctr (k:Nat):Cp 148 (C k):=rc rfl (D k) (by kernel_rfl) Tryz.func148 (by kernel_rfl) rfl fun ⟨a0,_⟩ r h=>(eq k a0).trans h
end gR
namespace dL
def C (k:Nat):Cn:=⟨[.val gZ],[.str],true,false,fun x=>f k x.1⟩
def D (k:Nat):List Ce:=[q (gR.ctr k),q (bY.ctr k),q (fk.ctr k),q (dM.ctr k)]
def E (k:Nat):dI:=en (D k) [(5,[1,3,4])] 0 [] k
section
variable (k:Nat) (a0:Ty.d gZ)
def K0:Ex→St→Rs:=cJ (E k) (eK (E k) Tryz.f120 (C k) (a0,())) [.blk 0,.code (at_ (bt 4 15) (body Tryz.f120))]
def V0 (n0:Nat):T0:=fun x0 x1 x2 x3 x4=>aq (bn (E k) (at_ (bt 7 23) (body Tryz.f120))) (an 0 [1,3,4]) (K0 k a0) n0 (mk 63 1 [(1,.ptr 0 0 0),(3,.str x0),(4,.int .i64 x1)] [(0,.box [.int .i64 x2,.int .i64 x3,.sl true aB x4])])
theorem s0 (n0:Nat):V0 k a0 (n0+1)=b0 k (V0 k a0 n0):=by kernel_rfl
theorem e0:V0 k a0=l0 k:=aZ rfl (s0 k a0) fun _=>rfl
end
theorem eq (k:Nat) (a0:Ty.d gZ):rn (E k) Tryz.f120 (C k) (a0,())=f k a0:=(show _=t k (V0 k a0 k) a0 by kernel_rfl).trans (by rw [e0];rfl)
theorem ctr (k:Nat):Cp 120 (C k):=rc rfl (D k) (by kernel_rfl) Tryz.func120 (by kernel_rfl) rfl fun ⟨a0,_⟩ r h=>(eq k a0).trans h
end dL
namespace bL
def C (k:Nat):Cn:=⟨[.val .str],[gZ,.bool],true,false,fun x=>f k x.1⟩
def D (k:Nat):List Ce:=[q (bg.ctr k),q (cL.ctr k),q (dL.ctr k)]
def E (k:Nat):dI:=en (D k) [(8,[0,2,4,5,6,7])] 0 [] k
section
variable (k:Nat) (a0:ByteArray)
def K0:Ex→St→Rs:=cJ (E k) (eK (E k) Tryz.f80 (C k) (a0,())) [.blk 0,.code (at_ (bt 6 63) (body Tryz.f80))]
def V0 (n0:Nat):T0:=fun x0 x1 x2 x3 x4 x5 x6 x7 x8 x9=>aq (bn (E k) (at_ (bt 9 95) (body Tryz.f80))) (an 0 [0,2,4,5,6,7]) (K0 k a0) n0 (mk 97 5 [(0,.str x0),(2,.ptr 0 0 0),(4,.ref 2),(5,.int .i64 x1),(6,.ptr 3 0 0),(7,.int .i64 x2)] [(1,.own false aB x3),(0,.box [.int .i64 x4,.int .i64 x5,.ref 1]),(2,.own false (.int .i64) x6),(4,.own false aB x7),(3,.box [.int .i64 x8,.int .i64 x9,.ref 4])])
theorem s0 (n0:Nat):V0 k a0 (n0+1)=b0 k (V0 k a0 n0):=by kernel_rfl
theorem e0:V0 k a0=l0 k:=aZ rfl (s0 k a0) fun _=>rfl
end
theorem eq (k:Nat) (a0:ByteArray):rn (E k) Tryz.f80 (C k) (a0,())=f k a0:=(show _=t k (V0 k a0 k) a0 by kernel_rfl).trans (by rw [e0];rfl)
theorem ctr (k:Nat):Cp 80 (C k):=rc rfl (D k) (by kernel_rfl) Tryz.func80 (by kernel_rfl) rfl fun ⟨a0,_⟩ r h=>(eq k a0).trans h
end bL
namespace ff
def C (k:Nat):Cn:=⟨[.val (.slice bB)],[(.int .i64)],true,false,fun x=>f k x.1⟩
def D (k:Nat):List Ce:=[q (cD.ctr k),q (fk.ctr k)]
def E (k:Nat):dI:=en (D k) [(3,[0,3,4])] 0 [] k
section
variable (k:Nat) (a0:List (Ty.d bB))
def K0:Ex→St→Rs:=cJ (E k) (eK (E k) Tryz.f149 (C k) (a0,())) [.blk 0,.code (at_ (bt 3 7) (body Tryz.f149))]
def V0 (n0:Nat):T0:=fun x0 x1 x2=>aq (bn (E k) (at_ (bt 6 11) (body Tryz.f149))) (an 0 [0,3,4]) (K0 k a0) n0 (mk 20 0 [(0,.sl true bB x0),(3,.str x1),(4,.int .i64 x2)] [])
theorem s0 (n0:Nat):V0 k a0 (n0+1)=b0 k (V0 k a0 n0):=by kernel_rfl
theorem e0:V0 k a0=l0 k:=aZ rfl (s0 k a0) fun _=>rfl
end
theorem eq (k:Nat) (a0:List (Ty.d bB)):rn (E k) Tryz.f149 (C k) (a0,())=f k a0:=(show _=t k (V0 k a0 k) a0 by kernel_rfl).trans (by rw [e0];rfl)
theorem ctr (k:Nat):Cp 149 (C k):=rc rfl (D k) (by kernel_rfl) Tryz.func149 (by kernel_rfl) rfl fun ⟨a0,_⟩ r h=>(eq k a0).trans h
end ff
namespace dW
def C (k:Nat):Cn:=⟨[.val (.int .i64),.val .str],[gZ,.bool],true,false,fun x=>f k x.1 x.2.1⟩
def D (k:Nat):List Ce:=[q (bX.ctr k),q (aU.ctr k),q (ff.ctr k)]
def E (k:Nat):dI:=en (D k) [(7,[0,4,6,8,9,10])] 0 [] k
section
variable (k:Nat) (a0:Int) (a1:ByteArray)
def K0:Ex→St→Rs:=cJ (E k) (eK (E k) Tryz.f121 (C k) (a0,a1,())) [.blk 0,.code (at_ (bt 6 63) (body Tryz.f121))]
def V0 (n0:Nat):T0:=fun x0 x1 x2 x3 x4 x5 x6 x7 x8 x9=>aq (bn (E k) (at_ (bt 9 95) (body Tryz.f121))) (an 0 [0,4,6,8,9,10]) (K0 k a0 a1) n0 (mk 141 6 [(0,.int .i64 x0),(4,.ptr 0 0 0),(6,.ref 2),(8,.ptr 3 0 0),(9,.ref 5),(10,.int .i64 x1)] [(1,.own false aB x2),(0,.box [.int .i64 x3,.int .i64 x4,.ref 1]),(2,.own false cA x5),(4,.own false aB x6),(3,.box [.int .i64 x7,.int .i64 x8,.ref 4]),(5,.own false bB x9)])
theorem s0 (n0:Nat):V0 k a0 a1 (n0+1)=b0 k (V0 k a0 a1 n0):=by kernel_rfl
theorem e0:V0 k a0 a1=l0 k:=aZ rfl (s0 k a0 a1) fun _=>rfl
end
theorem eq (k:Nat) (a0:Int) (a1:ByteArray):rn (E k) Tryz.f121 (C k) (a0,a1,())=f k a0 a1:=(show _=t k (V0 k a0 a1 k) a0 a1 by kernel_rfl).trans (by rw [e0];rfl)
theorem ctr (k:Nat):Cp 121 (C k):=rc rfl (D k) (by kernel_rfl) Tryz.func121 (by kernel_rfl) rfl fun ⟨a0,a1,_⟩ r h=>(eq k a0 a1).trans h
end dW
namespace fD
def C (k:Nat):Cn:=⟨[.val (.slice aB),.val (.slice aB)],[.bool],true,false,fun x=>f k x.1 x.2.1⟩
def E (k:Nat):dI:=en [] [(4,[0,1,5])] 0 [] k
section
variable (k:Nat) (a0:List (Ty.d aB)) (a1:List (Ty.d aB))
def K0:Ex→St→Rs:=cJ (E k) (eK (E k) Tryz.f122 (C k) (a0,a1,())) [.blk 0,.code (at_ (bt 3 7) (body Tryz.f122))]
def V0 (n0:Nat):T0:=fun x0 x1 x2=>aq (bn (E k) (at_ (bt 6 11) (body Tryz.f122))) (an 0 [0,1,5]) (K0 k a0 a1) n0 (mk 26 0 [(0,.sl true aB x0),(1,.sl true aB x1),(5,.int .i64 x2)] [])
theorem s0 (n0:Nat):V0 k a0 a1 (n0+1)=b0 k (V0 k a0 a1 n0):=by kernel_rfl
theorem e0:V0 k a0 a1=l0 k:=aZ rfl (s0 k a0 a1) fun _=>rfl
end
theorem eq (k:Nat) (a0:List (Ty.d aB)) (a1:List (Ty.d aB)):rn (E k) Tryz.f122 (C k) (a0,a1,())=f k a0 a1:=(show _=t k (V0 k a0 a1 k) a0 a1 by kernel_rfl).trans (by rw [e0];rfl)
theorem ctr (k:Nat):Cp 122 (C k):=rc rfl [] (by kernel_rfl) Tryz.func122 (by kernel_rfl) rfl fun ⟨a0,a1,_⟩ r h=>(eq k a0 a1).trans h
end fD
namespace gS
def C (k:Nat):Cn:=⟨[.val (.int .i64),.val .str,.val gZ],[.bool],true,false,fun x=>f k x.1 x.2.1 x.2.2.1⟩
def D (k:Nat):List Ce:=[q (dW.ctr k),q (fD.ctr k)]
def E (k:Nat):dI:=en (D k) [] 0 [] k
theorem eq (k:Nat) (a0:Int) (a1:ByteArray) (a2:Ty.d gZ):rn (E k) Tryz.f81 (C k) (a0,a1,a2,())=f k a0 a1 a2:=by kernel_rfl
theorem ctr (k:Nat):Cp 81 (C k):=rc rfl (D k) (by kernel_rfl) Tryz.func81 (by kernel_rfl) rfl fun ⟨a0,a1,a2,_⟩ r h=>(eq k a0 a1 a2).trans h
end gS
namespace ba
def C (k:Nat):Cn:=⟨[.val (.int .i64),.val .str],[(.slice aC)],true,false,fun x=>f k x.1 x.2.1⟩
def D (k:Nat):List Ce:=[q (bX.ctr k)]
def E (k:Nat):dI:=en (D k) [(4,[0,5,6,8])] 0 [] k
section
variable (k:Nat) (a0:Int) (a1:ByteArray)
def K0:Ex→St→Rs:=cJ (E k) (eK (E k) Tryz.f82 (C k) (a0,a1,())) [.blk 0,.code (at_ (bt 4 15) (body Tryz.f82))]
def V0 (n0:Nat):T0:=fun x0 x1 x2 x3=>aq (bn (E k) (at_ (bt 7 23) (body Tryz.f82))) (an 0 [0,5,6,8]) (K0 k a0 a1) n0 (mk 42 2 [(0,.int .i64 x0),(5,.ref 0),(6,.ref 1),(8,.int .i64 x1)] [(0,.own false aC x2),(1,.own false cA x3)])
theorem s0 (n0:Nat):V0 k a0 a1 (n0+1)=b0 k (V0 k a0 a1 n0):=by kernel_rfl
theorem e0:V0 k a0 a1=l0 k:=aZ rfl (s0 k a0 a1) fun _=>rfl
end
theorem eq (k:Nat) (a0:Int) (a1:ByteArray):rn (E k) Tryz.f82 (C k) (a0,a1,())=f k a0 a1:=(show _=t k (V0 k a0 a1 k) a0 a1 by kernel_rfl).trans (by rw [e0];rfl)
theorem ctr (k:Nat):Cp 82 (C k):=rc rfl (D k) (by kernel_rfl) Tryz.func82 (by kernel_rfl) rfl fun ⟨a0,a1,_⟩ r h=>(eq k a0 a1).trans h
end ba
namespace iJ
def C (k:Nat):Cn:=⟨[.val (.slice aC),.val (.int .i64),.val (.int .i64)],[(.slice aC)],true,false,fun x=>f k x.1 x.2.1 x.2.2.1⟩
def E (k:Nat):dI:=en [] [(3,[0,1,2,7,8])] 0 [] k
section
variable (k:Nat) (a0:List (Ty.d aC)) (a1:Int) (a2:Int)
def K0:Ex→St→Rs:=cJ (E k) (eK (E k) Tryz.f123 (C k) (a0,a1,a2,())) [.blk 0,.code (at_ (bt 3 7) (body Tryz.f123))]
def V0 (n0:Nat):T0:=fun x0 x1 x2 x3 x4=>aq (bn (E k) (at_ (bt 6 11) (body Tryz.f123))) (an 0 [0,1,2,7,8]) (K0 k a0 a1 a2) n0 (mk 53 1 [(0,.sl true aC x0),(1,.int .i64 x1),(2,.int .i64 x2),(7,.ref 0),(8,.int .i64 x3)] [(0,.own false aC x4)])
theorem s0 (n0:Nat):V0 k a0 a1 a2 (n0+1)=b0 k (V0 k a0 a1 a2 n0):=by kernel_rfl
theorem e0:V0 k a0 a1 a2=l0 k:=aZ rfl (s0 k a0 a1 a2) fun _=>rfl
end
theorem eq (k:Nat) (a0:List (Ty.d aC)) (a1:Int) (a2:Int):rn (E k) Tryz.f123 (C k) (a0,a1,a2,())=f k a0 a1 a2:=(show _=t k (V0 k a0 a1 a2 k) a0 a1 a2 by kernel_rfl).trans (by rw [e0];rfl)
theorem ctr (k:Nat):Cp 123 (C k):=rc rfl [] (by kernel_rfl) Tryz.func123 (by kernel_rfl) rfl fun ⟨a0,a1,a2,_⟩ r h=>(eq k a0 a1 a2).trans h
end iJ
namespace fg
def C (k:Nat):Cn:=⟨[.val (.slice aC)],[(.slice bB)],true,false,fun x=>f k x.1⟩
def E (k:Nat):dI:=en [] [(3,[0,3,4])] 0 [] k
section
variable (k:Nat) (a0:List (Ty.d aC))
def K0:Ex→St→Rs:=cJ (E k) (eK (E k) Tryz.f150 (C k) (a0,())) [.blk 0,.code (at_ (bt 3 7) (body Tryz.f150))]
def V0 (n0:Nat):T0:=fun x0 x1 x2=>aq (bn (E k) (at_ (bt 6 11) (body Tryz.f150))) (an 0 [0,3,4]) (K0 k a0) n0 (mk 21 1 [(0,.sl true aC x0),(3,.ref 0),(4,.int .i64 x1)] [(0,.own false bB x2)])
theorem s0 (n0:Nat):V0 k a0 (n0+1)=b0 k (V0 k a0 n0):=by kernel_rfl
theorem e0:V0 k a0=l0 k:=aZ rfl (s0 k a0) fun _=>rfl
end
theorem eq (k:Nat) (a0:List (Ty.d aC)):rn (E k) Tryz.f150 (C k) (a0,())=f k a0:=(show _=t k (V0 k a0 k) a0 by kernel_rfl).trans (by rw [e0];rfl)
theorem ctr (k:Nat):Cp 150 (C k):=rc rfl [] (by kernel_rfl) Tryz.func150 (by kernel_rfl) rfl fun ⟨a0,_⟩ r h=>(eq k a0).trans h
end fg
namespace ij
def C (k:Nat):Cn:=⟨[.val bB,.val (.slice aC)],[.bool],true,false,fun x=>f k x.1 x.2.1⟩
def D (k:Nat):List Ce:=[q (fg.ctr k),q (ff.ctr k)]
def E (k:Nat):dI:=en (D k) [] 0 [] k
theorem eq (k:Nat) (a0:Ty.d bB) (a1:List (Ty.d aC)):rn (E k) Tryz.f124 (C k) (a0,a1,())=f k a0 a1:=by kernel_rfl
theorem ctr (k:Nat):Cp 124 (C k):=rc rfl (D k) (by kernel_rfl) Tryz.func124 (by kernel_rfl) rfl fun ⟨a0,a1,_⟩ r h=>(eq k a0 a1).trans h
end ij
namespace cw
def C (k:Nat):Cn:=⟨[.val (.slice aB),.val .str],[(.slice aB)],true,false,fun x=>f k x.1 x.2.1⟩
def E (k:Nat):dI:=en [] [(3,[0,1,5,6])] 0 [] k
section
variable (k:Nat) (a0:List (Ty.d aB)) (a1:ByteArray)
def K0:Ex→St→Rs:=cJ (E k) (eK (E k) Tryz.f151 (C k) (a0,a1,())) [.blk 0,.code (at_ (bt 3 7) (body Tryz.f151))]
def V0 (n0:Nat):T0:=fun x0 x1 x2 x3=>aq (bn (E k) (at_ (bt 6 11) (body Tryz.f151))) (an 0 [0,1,5,6]) (K0 k a0 a1) n0 (mk 29 1 [(0,.sl true aB x0),(1,.str x1),(5,.ref 0),(6,.int .i64 x2)] [(0,.own false aB x3)])
theorem s0 (n0:Nat):V0 k a0 a1 (n0+1)=b0 k (V0 k a0 a1 n0):=by kernel_rfl
theorem e0:V0 k a0 a1=l0 k:=aZ rfl (s0 k a0 a1) fun _=>rfl
end
theorem eq (k:Nat) (a0:List (Ty.d aB)) (a1:ByteArray):rn (E k) Tryz.f151 (C k) (a0,a1,())=f k a0 a1:=(show _=t k (V0 k a0 a1 k) a0 a1 by kernel_rfl).trans (by rw [e0];rfl)
theorem ctr (k:Nat):Cp 151 (C k):=rc rfl [] (by kernel_rfl) Tryz.func151 (by kernel_rfl) rfl fun ⟨a0,a1,_⟩ r h=>(eq k a0 a1).trans h
end cw
namespace c8
def C (k:Nat):Cn:=⟨[.val (.slice aB),.val aB],[(.slice aB)],true,false,fun x=>f k x.1 x.2.1⟩
def E (k:Nat):dI:=en [] [(4,[0,3,5,6,7])] 0 [] k
section
variable (k:Nat) (a0:List (Ty.d aB)) (a1:Ty.d aB)
def K0:Ex→St→Rs:=cJ (E k) (eK (E k) Tryz.f152 (C k) (a0,a1,())) [.blk 0,.code (at_ (bt 4 15) (body Tryz.f152))]
def V0 (n0:Nat):T0:=fun x0 x1 x2 x3 x4 x5 x6 x7 x8=>aq (bn (E k) (at_ (bt 7 23) (body Tryz.f152))) (an 0 [0,3,5,6,7]) (K0 k a0 a1) n0 (mk 53 2 [(0,.sl true aB x0),(3,.ptr 0 0 0),(5,.ref 1),(6,.bool x1),(7,.int .i64 x2)] [(0,.box [.str x3,.int .i64 x4,.int .i64 x5,.int .i64 x6,.int .i64 x7]),(1,.own false aB x8)])
theorem s0 (n0:Nat):V0 k a0 a1 (n0+1)=b0 k (V0 k a0 a1 n0):=by kernel_rfl
theorem e0:V0 k a0 a1=l0 k:=aZ rfl (s0 k a0 a1) fun _=>rfl
end
theorem eq (k:Nat) (a0:List (Ty.d aB)) (a1:Ty.d aB):rn (E k) Tryz.f152 (C k) (a0,a1,())=f k a0 a1:=(show _=t k (V0 k a0 a1 k) a0 a1 by kernel_rfl).trans (by rw [e0];rfl)
theorem ctr (k:Nat):Cp 152 (C k):=rc rfl [] (by kernel_rfl) Tryz.func152 (by kernel_rfl) rfl fun ⟨a0,a1,_⟩ r h=>(eq k a0 a1).trans h
end c8
namespace gw
def C (k:Nat):Cn:=⟨[.val (.slice aB),.val aC],[(.slice aB)],true,false,fun x=>f k x.1 x.2.1⟩
def D (k:Nat):List Ce:=[q (cw.ctr k),q (c8.ctr k)]
def E (k:Nat):dI:=en (D k) [] 0 [] k
theorem eq (k:Nat) (a0:List (Ty.d aB)) (a1:Ty.d aC):rn (E k) Tryz.f126 (C k) (a0,a1,())=f k a0 a1:=by kernel_rfl
theorem ctr (k:Nat):Cp 126 (C k):=rc rfl (D k) (by kernel_rfl) Tryz.func126 (by kernel_rfl) rfl fun ⟨a0,a1,_⟩ r h=>(eq k a0 a1).trans h
end gw
namespace eX
def C (k:Nat):Cn:=⟨[.val (.slice aC),.val (.int .i64)],[(.slice aC)],true,false,fun x=>f k x.1 x.2.1⟩
def E (k:Nat):dI:=en [] [(3,[0,1,5,6])] 0 [] k
section
variable (k:Nat) (a0:List (Ty.d aC)) (a1:Int)
def K0:Ex→St→Rs:=cJ (E k) (eK (E k) Tryz.f125 (C k) (a0,a1,())) [.blk 0,.code (at_ (bt 3 7) (body Tryz.f125))]
def V0 (n0:Nat):T0:=fun x0 x1 x2 x3=>aq (bn (E k) (at_ (bt 6 11) (body Tryz.f125))) (an 0 [0,1,5,6]) (K0 k a0 a1) n0 (mk 36 1 [(0,.sl true aC x0),(1,.int .i64 x1),(5,.ref 0),(6,.int .i64 x2)] [(0,.own false aC x3)])
theorem s0 (n0:Nat):V0 k a0 a1 (n0+1)=b0 k (V0 k a0 a1 n0):=by kernel_rfl
theorem e0:V0 k a0 a1=l0 k:=aZ rfl (s0 k a0 a1) fun _=>rfl
end
theorem eq (k:Nat) (a0:List (Ty.d aC)) (a1:Int):rn (E k) Tryz.f125 (C k) (a0,a1,())=f k a0 a1:=(show _=t k (V0 k a0 a1 k) a0 a1 by kernel_rfl).trans (by rw [e0];rfl)
theorem ctr (k:Nat):Cp 125 (C k):=rc rfl [] (by kernel_rfl) Tryz.func125 (by kernel_rfl) rfl fun ⟨a0,a1,_⟩ r h=>(eq k a0 a1).trans h
end eX
namespace cB
def C (k:Nat):Cn:=⟨[.val fw,.val (.slice aC)],[fw],true,false,fun x=>f k x.1 x.2.1⟩
def D (k:Nat):List Ce:=[q (iJ.ctr k),q (ij.ctr k),q (gw.ctr k),q (eX.ctr k)]
def E (k:Nat):dI:=en (D k) [(3,[1,4,5,6]),(17,[1,4,5,6,8,9])] 0 [] k
section
variable (k:Nat) (a0:Ty.d fw) (a1:List (Ty.d aC))
def K0:Ex→St→Rs:=cJ (E k) (eK (E k) Tryz.f83 (C k) (a0,a1,())) [.blk 0,.code (at_ (bt 3 7) (body Tryz.f83))]
def B0 (n0:Nat):Ex→St→Rs:=Kt (E k) (at_ (bt 6 11) (body Tryz.f83)) 0 [1,4,5,6] (K0 k a0 a1) n0
def K1 (n0:Nat):Ex→St→Rs:=cJ (E k) (B0 k a0 a1 n0) [.blk 3,.code (at_ (bt 14 15947) (body Tryz.f83)),.blk 1,.code (at_ (bt 8 203) (body Tryz.f83))]
def V0 (n0:Nat):T0:=fun x0 x1 x2 x3 x4 x5 x6 x7=>aq (bn (E k) (at_ (bt 6 11) (body Tryz.f83))) (an 0 [1,4,5,6]) (K0 k a0 a1) n0 (mk 97 4 [(1,.sl true aC x0),(4,.ptr 0 0 0),(5,.ptr 2 0 0),(6,.int .i64 x1)] [(1,.own false aB x2),(0,.box [.ref 1,.int .i64 x3,.int .i64 x4]),(3,.own false aB x5),(2,.box [.ref 3,.int .i64 x6,.int .i64 x7])])
def V1 (n0 n1:Nat):T1:=fun x0 x1 x2 x3 x4 x5 x6 x7 x8 x9=>aq (bn (E k) (at_ (bt 17 24139) (body Tryz.f83))) (an 0 [1,4,5,6,8,9]) (K1 k a0 a1 n0) n1 (mk 97 5 [(1,.sl true aC x0),(4,.ptr 0 0 0),(5,.ptr 2 0 0),(6,.int .i64 x1),(8,.ref 4),(9,.int .i64 x2)] [(1,.own false aB x3),(0,.box [.ref 1,.int .i64 x4,.int .i64 x5]),(3,.own false aB x6),(2,.box [.ref 3,.int .i64 x7,.int .i64 x8]),(4,.own false aC x9)])
theorem s0 (n0:Nat):V0 k a0 a1 (n0+1)=b0 k (V1 k a0 a1 n0 k) (V0 k a0 a1 n0):=by kernel_rfl
theorem s1 (n0 n1:Nat):V1 k a0 a1 n0 (n1+1)=b1 k (V0 k a0 a1 n0) (V1 k a0 a1 n0 n1):=by kernel_rfl
theorem e1 (n0:Nat):V1 k a0 a1 n0=l1 k (V0 k a0 a1 n0):=aZ rfl (s1 k a0 a1 n0) fun _=>rfl
theorem e0 (n0:Nat):V0 k a0 a1 n0=l0 k n0:=by
 induction n0 with
 | zero=>rfl
 | succ n0 ih =>
  have h:V0 k a0 a1 (n0+1)=b0 k (V1 k a0 a1 n0 k) (V0 k a0 a1 n0):=s0 k a0 a1 n0
  rw [h,e1,ih]
  rfl
end
theorem eq (k:Nat) (a0:Ty.d fw) (a1:List (Ty.d aC)):rn (E k) Tryz.f83 (C k) (a0,a1,())=f k a0 a1:=(show _=t k (V0 k a0 a1 k) a0 a1 by kernel_rfl).trans (by rw [e0];rfl)
theorem ctr (k:Nat):Cp 83 (C k):=rc rfl (D k) (by kernel_rfl) Tryz.func83 (by kernel_rfl) rfl fun ⟨a0,a1,_⟩ r h=>(eq k a0 a1).trans h
end cB
namespace bo
def C (k:Nat):Cn:=⟨[.give aA,.val cZ],[aA,(.int .i64)],true,false,fun x=>f k x.1 x.2.1⟩
def D (k:Nat):List Ce:=[q (bR.ctr k),q (gD.ctr k),q (aW.ctr k)]
def E (k:Nat):dI:=en (D k) [(3,[2,4,6,7])] 0 [] k
section
variable (k:Nat) (a0:Ty.d aA) (a1:Ty.d cZ)
def K0:Ex→St→Rs:=cJ (E k) (eK (E k) Tryz.f84 (C k) (a0,a1,())) [.blk 0,.code (at_ (bt 3 7) (body Tryz.f84))]
def V0 (n0:Nat):T0:=fun x0 x1 x2 x3 x4 x5 x6 x7 x8 x9=>aq (bn (E k) (at_ (bt 6 11) (body Tryz.f84))) (an 0 [2,4,6,7]) (K0 k a0 a1) n0 (mk 35 5 [(2,.ptr 0 0 0),(4,.ptr 2 0 0),(6,.ref 4),(7,.int .i64 x0)] [(1,.own false aK x1),(0,.box [.ref 1,.int .i64 x2,.int .i64 x3,.bool x4]),(3,.own false aK x5),(2,.box [.ref 3,.int .i64 x6,.int .i64 x7,.bool x8]),(4,.own false .str x9)])
theorem s0 (n0:Nat):V0 k a0 a1 (n0+1)=b0 k (V0 k a0 a1 n0):=by kernel_rfl
theorem e0:V0 k a0 a1=l0 k:=aZ rfl (s0 k a0 a1) fun _=>rfl
end
theorem eq (k:Nat) (a0:Ty.d aA) (a1:Ty.d cZ):rn (E k) Tryz.f84 (C k) (a0,a1,())=f k a0 a1:=(show _=t k (V0 k a0 a1 k) a0 a1 by kernel_rfl).trans (by rw [e0];rfl)
theorem ctr (k:Nat):Cp 84 (C k):=rc rfl (D k) (by kernel_rfl) Tryz.func84 (by kernel_rfl) rfl fun ⟨a0,a1,_⟩ r h=>(eq k a0 a1).trans h
end bo
namespace gE
def C (k:Nat):Cn:=⟨[.give aA],[aE,aA,(.int .i64)],true,false,fun x=>f k x.1⟩
def D (k:Nat):List Ce:=[q (bo.ctr k),q (aU.ctr k),q (gi.ctr k),q (aW.ctr k),q (eG.ctr k)]
def E (k:Nat):dI:=en (D k) [] 0 [] k
theorem eq (k:Nat) (a0:Ty.d aA):rn (E k) Tryz.f74 (C k) (a0,())=f k a0:=by kernel_rfl
theorem ctr (k:Nat):Cp 74 (C k):=rc rfl (D k) (by kernel_rfl) Tryz.func74 (by kernel_rfl) rfl fun ⟨a0,_⟩ r h=>(eq k a0).trans h
end gE
namespace b7
def C (k:Nat):Cn:=⟨[.give aA],[aE,aA,(.int .i64)],true,false,fun x=>f k x.1⟩
def D (k:Nat):List Ce:=[q (bC.ctr k),q (bh.ctr k),q (bK.ctr k),q (gE.ctr k),q (bM.ctr k),q (aU.ctr k),q (bX.ctr k),q (i_.ctr k),q (aW.ctr k),q (eA.ctr k),q (cj.ctr k),q (bL.ctr k),q (gS.ctr k),q (ba.ctr k),q (cB.ctr k),q (bo.ctr k)]
def E (k:Nat):dI:=en (D k) [(14,[1,2,3,5,8,9,10]),(35,[2,3,5,8,19,23,24,25,26])] 0 [] k
section
variable (k:Nat) (a0:Ty.d aA)
def K0:Ex→St→Rs:=cJ (E k) (eK (E k) Tryz.f46 (C k) (a0,())) [.blk 0,.code (at_ (bt 10 1023) (body Tryz.f46))]
def K1:Ex→St→Rs:=cJ (E k) (eK (E k) Tryz.f46 (C k) (a0,())) [.blk 2,.code (at_ (bt 20 1048575) (body Tryz.f46))]
def V0 (n0:Nat):T0:=fun x0 x1 x2 x3 x4 x5 x6 x7 x8 x9 x10 x11 x12 x13 x14 x15 x16 x17 x18 x19 x20 x21 x22 x23=>aq (bn (E k) (at_ (bt 13 1535) (body Tryz.f46))) (an 0 [1,2,3,5,8,9,10]) (K0 k a0) n0 (mk 268 12 [(1,.ptr 0 0 0),(2,.ptr 2 0 0),(3,.ptr 5 0 0),(5,.ptr 7 0 0),(8,.ptr 10 0 0),(9,.int .i64 x0),(10,.int .i64 x1)] [(1,.own false aK x2),(0,.box [.ref 1,.int .i64 x3,.int .i64 x4,.bool x5]),(3,.own false (.int .i64) x6),(4,.own false aB x7),(2,.box [.int .i64 x8,.ref 3,.ref 4,.int .i64 x9,.int .i64 x10,.int .i64 x11]),(6,.own false aK x12),(5,.box [.ref 6,.int .i64 x13,.int .i64 x14,.bool x15]),(8,.own false (.int .i64) x16),(9,.own false aB x17),(7,.box [.int .i64 x18,.ref 8,.ref 9,.int .i64 x19,.int .i64 x20,.int .i64 x21]),(11,.own false (.int .i64) x22),(10,.box [.int .i64 x23,.ref 11])])
def V1 (n1:Nat):T1:=fun x0 x1 x2 x3 x4 x5 x6 x7 x8 x9 x10 x11 x12 x13 x14 x15 x16 x17 x18 x19 x20 x21 x22 x23 x24 x25 x26 x27 x28 x29 x30 x31=>aq (bn (E k) (at_ (bt 23 1572863) (body Tryz.f46))) (an 0 [2,3,5,8,19,23,24,25,26]) (K1 k a0) n1 (mk 268 17 [(2,.ptr 0 0 0),(3,.ptr 3 0 0),(5,.ptr 5 0 0),(8,.ptr 8 0 0),(19,.ptr 10 0 0),(23,.ptr 12 0 0),(24,.ptr 14 0 0),(25,.ref 16),(26,.int .i64 x0)] [(1,.own false (.int .i64) x1),(2,.own false aB x2),(0,.box [.int .i64 x3,.ref 1,.ref 2,.int .i64 x4,.int .i64 x5,.int .i64 x6]),(4,.own false aK x7),(3,.box [.ref 4,.int .i64 x8,.int .i64 x9,.bool x10]),(6,.own false (.int .i64) x11),(7,.own false aB x12),(5,.box [.int .i64 x13,.ref 6,.ref 7,.int .i64 x14,.int .i64 x15,.int .i64 x16]),(9,.own false (.int .i64) x17),(8,.box [.int .i64 x18,.ref 9]),(11,.own false aK x19),(10,.box [.ref 11,.int .i64 x20,.int .i64 x21,.bool x22]),(13,.own false aB x23),(12,.box [.int .i64 x24,.ref 9,.ref 13,.int .i64 x25,.int .i64 x26,.int .i64 x27]),(15,.own false aB x28),(14,.box [.ref 15,.int .i64 x29,.int .i64 x30]),(16,.own false aC x31)])
def V2 (n1:Nat):T2:=fun x0 x1 x2 x3 x4 x5 x6 x7 x8 x9 x10 x11 x12 x13 x14 x15 x16 x17 x18 x19 x20 x21 x22 x23 x24 x25 x26 x27 x28 x29 x30 x31=>aq (bn (E k) (at_ (bt 23 1572863) (body Tryz.f46))) (an 0 [2,3,5,8,19,23,24,25,26]) (K1 k a0) n1 (mk 268 17 [(2,.ptr 0 0 0),(3,.ptr 3 0 0),(5,.ptr 5 0 0),(8,.ptr 8 0 0),(19,.ptr 10 0 0),(23,.ptr 12 0 0),(24,.ptr 14 0 0),(25,.ref 16),(26,.int .i64 x0)] [(1,.own false (.int .i64) x1),(2,.own false aB x2),(0,.box [.int .i64 x3,.ref 1,.ref 2,.int .i64 x4,.int .i64 x5,.int .i64 x6]),(4,.own false aK x7),(3,.box [.ref 4,.int .i64 x8,.int .i64 x9,.bool x10]),(6,.own false (.int .i64) x11),(7,.own false aB x12),(5,.box [.int .i64 x13,.ref 6,.ref 7,.int .i64 x14,.int .i64 x15,.int .i64 x16]),(9,.own false (.int .i64) x17),(8,.box [.int .i64 x18,.ref 9]),(11,.own false aK x19),(10,.box [.ref 11,.int .i64 x20,.int .i64 x21,.bool x22]),(13,.own false aB x23),(12,.box [.int .i64 x24,.ref 9,.ref 13,.int .i64 x25,.int .i64 x26,.int .i64 x27]),(15,.own false aB x28),(14,.box [.ref 15,.int .i64 x29,.int .i64 x30]),(16,.own false aC x31)])
theorem s0 (n0:Nat):V0 k a0 (n0+1)=b0 k (V1 k a0 k) (V2 k a0 k) (V0 k a0 n0):=by kernel_rfl
theorem s1 (n1:Nat):V1 k a0 (n1+1)=b1 k (V1 k a0 n1):=by kernel_rfl
theorem s2 (n1:Nat):V2 k a0 (n1+1)=b2 k (V2 k a0 n1):=by kernel_rfl
theorem e1:V1 k a0=l1 k:=aZ rfl (s1 k a0) fun _=>rfl
theorem e2:V2 k a0=l2 k:=aZ rfl (s2 k a0) fun _=>rfl
theorem e0 (n0:Nat):V0 k a0 n0=l0 k n0:=by
 induction n0 with
 | zero=>rfl
 | succ n0 ih =>
  have h:V0 k a0 (n0+1)=b0 k (V1 k a0 k) (V2 k a0 k) (V0 k a0 n0):=s0 k a0 n0
  rw [h,e1,e2,ih]
  rfl
end
theorem eq (k:Nat) (a0:Ty.d aA):rn (E k) Tryz.f46 (C k) (a0,())=f k a0:=(show _=t k (V0 k a0 k) a0 by kernel_rfl).trans (by rw [e0];rfl)
theorem ctr (k:Nat):Cp 46 (C k):=rc rfl (D k) (by kernel_rfl) Tryz.func46 (by kernel_rfl) rfl fun ⟨a0,_⟩ r h=>(eq k a0).trans h
end b7
namespace dC
def C (k:Nat):Cn:=⟨[.give aA],[ck,(.int .i64)],true,false,fun x=>f k x.1⟩
def D (k:Nat):List Ce:=[q (b7.ctr k)]
def E (k:Nat):dI:=en (D k) [] 0 [] k
theorem eq (k:Nat) (a0:Ty.d aA):rn (E k) Tryz.f17 (C k) (a0,())=f k a0:=by kernel_rfl
theorem ctr (k:Nat):Cp 17 (C k):=rc rfl (D k) (by kernel_rfl) Tryz.func17 (by kernel_rfl) rfl fun ⟨a0,_⟩ r h=>(eq k a0).trans h
end dC
namespace d6
def C (k:Nat):Cn:=⟨[.val aE],[aE],true,false,fun x=>f k x.1⟩
def E (k:Nat):dI:=en [] [] 0 [] k
theorem eq (k:Nat) (a0:Ty.d aE):rn (E k) Tryz.f85 (C k) (a0,())=f k a0:=by kernel_rfl
theorem ctr (k:Nat):Cp 85 (C k):=rc rfl [] (by kernel_rfl) Tryz.func85 (by kernel_rfl) rfl fun ⟨a0,_⟩ r h=>(eq k a0).trans h
end d6
namespace eI
def C (k:Nat):Cn:=⟨[.val dO],[dO],true,false,fun x=>f k x.1⟩
def E (k:Nat):dI:=en [] [] 0 [] k
theorem eq (k:Nat) (a0:Ty.d dO):rn (E k) Tryz.f86 (C k) (a0,())=f k a0:=by kernel_rfl
theorem ctr (k:Nat):Cp 86 (C k):=rc rfl [] (by kernel_rfl) Tryz.func86 (by kernel_rfl) rfl fun ⟨a0,_⟩ r h=>(eq k a0).trans h
end eI
namespace dP
def C (k:Nat):Cn:=⟨[.val ck],[ck],true,false,fun x=>f k x.1⟩
def D (k:Nat):List Ce:=[q (d6.ctr k),q (bh.ctr k),q (eI.ctr k)]
def E (k:Nat):dI:=en (D k) [(5,[1,2,3,4])] 0 [] k
section
variable (k:Nat) (a0:Ty.d ck)
def K0:Ex→St→Rs:=cJ (E k) (eK (E k) Tryz.f48 (C k) (a0,())) [.blk 0,.code (at_ (bt 5 31) (body Tryz.f48))]
def V0 (n0:Nat):T0:=fun x0 x1 x2 x3 x4 x5 x6 x7 x8 x9 x10 x11 x12 x13 x14 x15 x16 x17 x18 x19 x20 x21 x22 x23 x24 x25=>aq (bn (E k) (at_ (bt 8 47) (body Tryz.f48))) (an 0 [1,2,3,4]) (K0 k a0) n0 (mk 33 10 [(1,.ptr 0 0 0),(2,.ptr 4 0 0),(3,.ref 9),(4,.int .i64 x0)] [(1,.own false (.int .i64) x1),(2,.own false aB x2),(3,.own false aK x3),(0,.box [.bool x4,.int .i64 x5,.ref 1,.ref 2,.int .i64 x6,.int .i64 x7,.int .i64 x8,.ref 3,.int .i64 x9,.int .i64 x10,.bool x11,.sl true dO x12]),(5,.own false (.int .i64) x13),(6,.own false aB x14),(7,.own false aK x15),(8,.own false dO x16),(4,.box [.bool x17,.int .i64 x18,.ref 5,.ref 6,.int .i64 x19,.int .i64 x20,.int .i64 x21,.ref 7,.int .i64 x22,.int .i64 x23,.bool x24,.ref 8]),(9,.own false dO x25)])
theorem s0 (n0:Nat):V0 k a0 (n0+1)=b0 k (V0 k a0 n0):=by kernel_rfl
theorem e0:V0 k a0=l0 k:=aZ rfl (s0 k a0) fun _=>rfl
end
theorem eq (k:Nat) (a0:Ty.d ck):rn (E k) Tryz.f48 (C k) (a0,())=f k a0:=(show _=t k (V0 k a0 k) a0 by kernel_rfl).trans (by rw [e0];rfl)
theorem ctr (k:Nat):Cp 48 (C k):=rc rfl (D k) (by kernel_rfl) Tryz.func48 (by kernel_rfl) rfl fun ⟨a0,_⟩ r h=>(eq k a0).trans h
end dP
namespace dK
def C (k:Nat):Cn:=⟨[.val dO,.val .str],[ch,.bool],true,false,fun x=>f k x.1 x.2.1⟩
def E (k:Nat):dI:=en [] [(2,[1,2,4,6])] 0 [] k
section
variable (k:Nat) (a0:Ty.d dO) (a1:ByteArray)
def K0:Ex→St→Rs:=cJ (E k) (eK (E k) Tryz.f87 (C k) (a0,a1,())) [.blk 0,.code (at_ (bt 2 3) (body Tryz.f87))]
def V0 (n0:Nat):T0:=fun x0 x1 x2 x3 x4 x5 x6 x7=>aq (bn (E k) (at_ (bt 5 5) (body Tryz.f87))) (an 0 [1,2,4,6]) (K0 k a0 a1) n0 (mk 29 2 [(1,.str x0),(2,.ptr 0 0 0),(4,.ptr 1 0 0),(6,.int .i64 x1)] [(0,.box [.bool x2,.sl true ek x3,.sl true ch x4]),(1,.box [.str x5,.bool x6,.str x7])])
theorem s0 (n0:Nat):V0 k a0 a1 (n0+1)=b0 k (V0 k a0 a1 n0):=by kernel_rfl
theorem e0:V0 k a0 a1=l0 k:=aZ rfl (s0 k a0 a1) fun _=>rfl
end
theorem eq (k:Nat) (a0:Ty.d dO) (a1:ByteArray):rn (E k) Tryz.f87 (C k) (a0,a1,())=f k a0 a1:=(show _=t k (V0 k a0 a1 k) a0 a1 by kernel_rfl).trans (by rw [e0];rfl)
theorem ctr (k:Nat):Cp 87 (C k):=rc rfl [] (by kernel_rfl) Tryz.func87 (by kernel_rfl) rfl fun ⟨a0,a1,_⟩ r h=>(eq k a0 a1).trans h
end dK
namespace az
def C (k:Nat):Cn:=⟨[.val dO],[(.slice ch)],true,false,fun x=>f k x.1⟩
def D (k:Nat):List Ce:=[q (dK.ctr k)]
def E (k:Nat):dI:=en (D k) [(3,[1,3,4]),(7,[1,3,4,5,6])] 0 [] k
section
variable (k:Nat) (a0:Ty.d dO)
def K0:Ex→St→Rs:=cJ (E k) (eK (E k) Tryz.f49 (C k) (a0,())) [.blk 0,.code (at_ (bt 3 7) (body Tryz.f49))]
def B0 (n0:Nat):Ex→St→Rs:=Kt (E k) (at_ (bt 6 11) (body Tryz.f49)) 0 [1,3,4] (K0 k a0) n0
def K1 (n0:Nat):Ex→St→Rs:=cJ (E k) (B0 k a0 n0) [.blk 2,.code (at_ (bt 11 1611) (body Tryz.f49)),.blk 1,.code (at_ (bt 8 203) (body Tryz.f49))]
def V0 (n0:Nat):T0:=fun x0 x1 x2 x3 x4=>aq (bn (E k) (at_ (bt 6 11) (body Tryz.f49))) (an 0 [1,3,4]) (K0 k a0) n0 (mk 55 2 [(1,.ptr 0 0 0),(3,.ref 1),(4,.int .i64 x0)] [(0,.box [.bool x1,.sl true ek x2,.sl true ch x3]),(1,.own false ch x4)])
def V1 (n0 n1:Nat):T1:=fun x0 x1 x2 x3 x4 x5 x6=>aq (bn (E k) (at_ (bt 14 2635) (body Tryz.f49))) (an 0 [1,3,4,5,6]) (K1 k a0 n0) n1 (mk 55 2 [(1,.ptr 0 0 0),(3,.ref 1),(4,.int .i64 x0),(5,.bool x1),(6,.int .i64 x2)] [(0,.box [.bool x3,.sl true ek x4,.sl true ch x5]),(1,.own false ch x6)])
theorem s0 (n0:Nat):V0 k a0 (n0+1)=b0 k (V1 k a0 n0 k) (V0 k a0 n0):=by kernel_rfl
theorem s1 (n0 n1:Nat):V1 k a0 n0 (n1+1)=b1 k (V0 k a0 n0) (V1 k a0 n0 n1):=by kernel_rfl
theorem e1 (n0:Nat):V1 k a0 n0=l1 k (V0 k a0 n0):=aZ rfl (s1 k a0 n0) fun _=>rfl
theorem e0 (n0:Nat):V0 k a0 n0=l0 k n0:=by
 induction n0 with
 | zero=>rfl
 | succ n0 ih =>
  have h:V0 k a0 (n0+1)=b0 k (V1 k a0 n0 k) (V0 k a0 n0):=s0 k a0 n0
  rw [h,e1,ih]
  rfl
end
theorem eq (k:Nat) (a0:Ty.d dO):rn (E k) Tryz.f49 (C k) (a0,())=f k a0:=(show _=t k (V0 k a0 k) a0 by kernel_rfl).trans (by rw [e0];rfl)
theorem ctr (k:Nat):Cp 49 (C k):=rc rfl (D k) (by kernel_rfl) Tryz.func49 (by kernel_rfl) rfl fun ⟨a0,_⟩ r h=>(eq k a0).trans h
end az
namespace kI
def C (k:Nat):Cn:=⟨[.val aA],[(.int .i64)],true,false,fun x=>f k x.1⟩
def D (k:Nat):List Ce:=[q (bC.ctr k),q (df.ctr k)]
def E (k:Nat):dI:=en (D k) [] 0 [] k
theorem eq (k:Nat) (a0:Ty.d aA):rn (E k) Tryz.f88 (C k) (a0,())=f k a0:=by kernel_rfl
theorem ctr (k:Nat):Cp 88 (C k):=rc rfl (D k) (by kernel_rfl) Tryz.func88 (by kernel_rfl) rfl fun ⟨a0,_⟩ r h=>(eq k a0).trans h
end kI
namespace j3
def C (k:Nat):Cn:=⟨[.val .str,.val (.int .i64),.val (.int .i64)],[bB,.bool],true,false,fun x=>f k x.1 x.2.1 x.2.2.1⟩
def D (k:Nat):List Ce:=[q (aN.ctr k),q (dQ.ctr k),q (dl.ctr k)]
def E (k:Nat):dI:=en (D k) [] 0 [] k
theorem eq (k:Nat) (a0:ByteArray) (a1:Int) (a2:Int):rn (E k) Tryz.f32 (C k) (a0,a1,a2,())=f k a0 a1 a2:=by kernel_rfl
theorem ctr (k:Nat):Cp 32 (C k):=rc rfl (D k) (by kernel_rfl) Tryz.func32 (by kernel_rfl) rfl fun ⟨a0,a1,a2,_⟩ r h=>(eq k a0 a1 a2).trans h
end j3
namespace bS
def C (k:Nat):Cn:=⟨[.val aE,.val aA],[.bool],true,false,fun x=>f k x.1 x.2.1⟩
def D (k:Nat):List Ce:=[q (bC.ctr k),q (cY.ctr k),q (eh.ctr k),q (aN.ctr k),q (aU.ctr k),q (bK.ctr k),q (bX.ctr k),q (j3.ctr k)]
def E (k:Nat):dI:=en (D k) [(4,[2,3,5]),(11,[2,3,10])] 0 [] k
section
variable (k:Nat) (a0:Ty.d aE) (a1:Ty.d aA)
def K0:Ex→St→Rs:=cJ (E k) (eK (E k) Tryz.f7 (C k) (a0,a1,())) [.blk 0,.code (at_ (bt 3 7) (body Tryz.f7))]
def K1:Ex→St→Rs:=cJ (E k) (eK (E k) Tryz.f7 (C k) (a0,a1,())) [.blk 2,.code (at_ (bt 4 15) (body Tryz.f7))]
def V0 (n0:Nat):T0:=fun x0 x1 x2 x3 x4 x5 x6 x7 x8 x9 x10=>aq (bn (E k) (at_ (bt 6 11) (body Tryz.f7))) (an 0 [2,3,5]) (K0 k a0 a1) n0 (mk 148 2 [(2,.ptr 0 0 0),(3,.ptr 1 0 0),(5,.int .i64 x0)] [(0,.box [.int .i64 x1,.sl true (.int .i64) x2,.sl true aB x3,.int .i64 x4,.int .i64 x5,.int .i64 x6]),(1,.box [.sl true aK x7,.int .i64 x8,.int .i64 x9,.bool x10])])
def V1 (n1:Nat):T1:=fun x0 x1 x2 x3 x4 x5 x6 x7 x8 x9 x10=>aq (bn (E k) (at_ (bt 7 23) (body Tryz.f7))) (an 0 [2,3,10]) (K1 k a0 a1) n1 (mk 148 2 [(2,.ptr 0 0 0),(3,.ptr 1 0 0),(10,.int .i64 x0)] [(0,.box [.int .i64 x1,.sl true (.int .i64) x2,.sl true aB x3,.int .i64 x4,.int .i64 x5,.int .i64 x6]),(1,.box [.sl true aK x7,.int .i64 x8,.int .i64 x9,.bool x10])])
theorem s0 (n0:Nat):V0 k a0 a1 (n0+1)=b0 k (V1 k a0 a1 k) (V0 k a0 a1 n0):=by kernel_rfl
theorem s1 (n1:Nat):V1 k a0 a1 (n1+1)=b1 k (V1 k a0 a1 n1):=by kernel_rfl
theorem e1:V1 k a0 a1=l1 k:=aZ rfl (s1 k a0 a1) fun _=>rfl
theorem e0 (n0:Nat):V0 k a0 a1 n0=l0 k n0:=by
 induction n0 with
 | zero=>rfl
 | succ n0 ih =>
  have h:V0 k a0 a1 (n0+1)=b0 k (V1 k a0 a1 k) (V0 k a0 a1 n0):=s0 k a0 a1 n0
  rw [h,e1,ih]
  rfl
end
theorem eq (k:Nat) (a0:Ty.d aE) (a1:Ty.d aA):rn (E k) Tryz.f7 (C k) (a0,a1,())=f k a0 a1:=(show _=t k (V0 k a0 a1 k) a0 a1 by kernel_rfl).trans (by rw [e0];rfl)
theorem ctr (k:Nat):Cp 7 (C k):=rc rfl (D k) (by kernel_rfl) Tryz.func7 (by kernel_rfl) rfl fun ⟨a0,a1,_⟩ r h=>(eq k a0 a1).trans h
end bS
namespace eU
def C (k:Nat):Cn:=⟨[.val (.slice aB),.val .str],[aB,.bool],true,false,fun x=>f k x.1 x.2.1⟩
def E (k:Nat):dI:=en [] [(2,[0,1,4,6])] 0 [] k
section
variable (k:Nat) (a0:List (Ty.d aB)) (a1:ByteArray)
def K0:Ex→St→Rs:=cJ (E k) (eK (E k) Tryz.f73 (C k) (a0,a1,())) [.blk 0,.code (at_ (bt 2 3) (body Tryz.f73))]
def V0 (n0:Nat):T0:=fun x0 x1 x2 x3 x4 x5 x6 x7=>aq (bn (E k) (at_ (bt 5 5) (body Tryz.f73))) (an 0 [0,1,4,6]) (K0 k a0 a1) n0 (mk 25 1 [(0,.sl true aB x0),(1,.str x1),(4,.ptr 0 0 0),(6,.int .i64 x2)] [(0,.box [.str x3,.int .i64 x4,.int .i64 x5,.int .i64 x6,.int .i64 x7])])
theorem s0 (n0:Nat):V0 k a0 a1 (n0+1)=b0 k (V0 k a0 a1 n0):=by kernel_rfl
theorem e0:V0 k a0 a1=l0 k:=aZ rfl (s0 k a0 a1) fun _=>rfl
end
theorem eq (k:Nat) (a0:List (Ty.d aB)) (a1:ByteArray):rn (E k) Tryz.f73 (C k) (a0,a1,())=f k a0 a1:=(show _=t k (V0 k a0 a1 k) a0 a1 by kernel_rfl).trans (by rw [e0];rfl)
theorem ctr (k:Nat):Cp 73 (C k):=rc rfl [] (by kernel_rfl) Tryz.func73 (by kernel_rfl) rfl fun ⟨a0,a1,_⟩ r h=>(eq k a0 a1).trans h
end eU
namespace kc
def C (k:Nat):Cn:=⟨[.val aE,.val aA,.val .str],[aK,(.int .i64)],true,false,fun x=>f k x.1 x.2.1 x.2.2.1⟩
def D (k:Nat):List Ce:=[q (eU.ctr k),q (aU.ctr k),q (bK.ctr k),q (j3.ctr k)]
def E (k:Nat):dI:=en (D k) [] 0 [] k
theorem eq (k:Nat) (a0:Ty.d aE) (a1:Ty.d aA) (a2:ByteArray):rn (E k) Tryz.f45 (C k) (a0,a1,a2,())=f k a0 a1 a2:=by kernel_rfl
theorem ctr (k:Nat):Cp 45 (C k):=rc rfl (D k) (by kernel_rfl) Tryz.func45 (by kernel_rfl) rfl fun ⟨a0,a1,a2,_⟩ r h=>(eq k a0 a1 a2).trans h
end kc
namespace gB
def C (k:Nat):Cn:=⟨[.val aE,.val aA],[(.slice aK),(.int .i64)],true,false,fun x=>f k x.1 x.2.1⟩
def D (k:Nat):List Ce:=[q (kc.ctr k)]
def E (k:Nat):dI:=en (D k) [(3,[2,3,6,7])] 0 [] k
section
variable (k:Nat) (a0:Ty.d aE) (a1:Ty.d aA)
def K0:Ex→St→Rs:=cJ (E k) (eK (E k) Tryz.f13 (C k) (a0,a1,())) [.blk 0,.code (at_ (bt 3 7) (body Tryz.f13))]
def V0 (n0:Nat):T0:=fun x0 x1 x2 x3 x4 x5 x6 x7 x8 x9 x10 x11=>aq (bn (E k) (at_ (bt 6 11) (body Tryz.f13))) (an 0 [2,3,6,7]) (K0 k a0 a1) n0 (mk 39 3 [(2,.ptr 0 0 0),(3,.ptr 1 0 0),(6,.ref 2),(7,.int .i64 x0)] [(0,.box [.int .i64 x1,.sl true (.int .i64) x2,.sl true aB x3,.int .i64 x4,.int .i64 x5,.int .i64 x6]),(1,.box [.sl true aK x7,.int .i64 x8,.int .i64 x9,.bool x10]),(2,.own false aK x11)])
theorem s0 (n0:Nat):V0 k a0 a1 (n0+1)=b0 k (V0 k a0 a1 n0):=by kernel_rfl
theorem e0:V0 k a0 a1=l0 k:=aZ rfl (s0 k a0 a1) fun _=>rfl
end
theorem eq (k:Nat) (a0:Ty.d aE) (a1:Ty.d aA):rn (E k) Tryz.f13 (C k) (a0,a1,())=f k a0 a1:=(show _=t k (V0 k a0 a1 k) a0 a1 by kernel_rfl).trans (by rw [e0];rfl)
theorem ctr (k:Nat):Cp 13 (C k):=rc rfl (D k) (by kernel_rfl) Tryz.func13 (by kernel_rfl) rfl fun ⟨a0,a1,_⟩ r h=>(eq k a0 a1).trans h
end gB
namespace kS
def C (k:Nat):Cn:=⟨[.val aK],[bB],true,false,fun x=>f k x.1⟩
def E (k:Nat):dI:=en [] [] 0 [] k
theorem eq (k:Nat) (a0:Ty.d aK):rn (E k) Tryz.f166 (C k) (a0,())=f k a0:=by kernel_rfl
theorem ctr (k:Nat):Cp 166 (C k):=rc rfl [] (by kernel_rfl) Tryz.func166 (by kernel_rfl) rfl fun ⟨a0,_⟩ r h=>(eq k a0).trans h
end kS
namespace gY
def C (k:Nat):Cn:=⟨[.val (.slice bB),.val (.int .i64),.val (.int .i64)],[bB],true,false,fun x=>f k x.1 x.2.1 x.2.2.1⟩
def D (k:Nat):List Ce:=[q (ff.ctr k)]
def E (k:Nat):dI:=en (D k) [] 0 [] k
theorem eq (k:Nat) (a0:List (Ty.d bB)) (a1:Int) (a2:Int):rn (E k) Tryz.f167 (C k) (a0,a1,a2,())=f k a0 a1 a2:=by kernel_rfl
theorem ctr (k:Nat):Cp 167 (C k):=rc rfl (D k) (by kernel_rfl) Tryz.func167 (by kernel_rfl) rfl fun ⟨a0,a1,a2,_⟩ r h=>(eq k a0 a1 a2).trans h
end gY
namespace dU
def C (k:Nat):Cn:=⟨[.val aA,.val (.int .i64),.val (.slice aK),.val (.int .i64)],[aA,(.slice aB),(.int .i64)],true,false,fun x=>f k x.1 x.2.1 x.2.2.1 x.2.2.2.1⟩
def D (k:Nat):List Ce:=[q (aU.ctr k),q (dV.ctr k),q (kS.ctr k),q (cD.ctr k),q (fI.ctr k),q (dX.ctr k),q (gY.ctr k),q (eA.ctr k),q (aW.ctr k)]
def E (k:Nat):dI:=en (D k) [(6,[1,2,3,8,11,12,13,14,15,16])] 0 [] k
section
variable (k:Nat) (a0:Ty.d aA) (a1:Int) (a2:List (Ty.d aK)) (a3:Int)
def K0:Ex→St→Rs:=cJ (E k) (eK (E k) Tryz.f155 (C k) (a0,a1,a2,a3,())) [.blk 0,.code (at_ (bt 6 63) (body Tryz.f155))]
def V0 (n0:Nat):T0:=fun x0 x1 x2 x3 x4 x5 x6 x7 x8 x9 x10 x11 x12 x13 x14 x15=>aq (bn (E k) (at_ (bt 9 95) (body Tryz.f155))) (an 0 [1,2,3,8,11,12,13,14,15,16]) (K0 k a0 a1 a2 a3) n0 (mk 101 6 [(1,.int .i64 x0),(2,.sl true aK x1),(3,.int .i64 x2),(8,.ptr 0 0 0),(11,.ref 2),(12,.ptr 3 0 0),(13,.int .i64 x3),(14,.ref 5),(15,.int .i64 x4),(16,.int .i64 x5)] [(1,.own false aK x6),(0,.box [.ref 1,.int .i64 x7,.int .i64 x8,.bool x9]),(2,.own false aB x10),(4,.own false aK x11),(3,.box [.ref 4,.int .i64 x12,.int .i64 x13,.bool x14]),(5,.own false bB x15)])
theorem s0 (n0:Nat):V0 k a0 a1 a2 a3 (n0+1)=b0 k (V0 k a0 a1 a2 a3 n0):=by kernel_rfl
theorem e0:V0 k a0 a1 a2 a3=l0 k:=aZ rfl (s0 k a0 a1 a2 a3) fun _=>rfl
end
theorem eq (k:Nat) (a0:Ty.d aA) (a1:Int) (a2:List (Ty.d aK)) (a3:Int):rn (E k) Tryz.f155 (C k) (a0,a1,a2,a3,())=f k a0 a1 a2 a3:=(show _=t k (V0 k a0 a1 a2 a3 k) a0 a1 a2 a3 by kernel_rfl).trans (by rw [e0];rfl)
theorem ctr (k:Nat):Cp 155 (C k):=rc rfl (D k) (by kernel_rfl) Tryz.func155 (by kernel_rfl) rfl fun ⟨a0,a1,a2,a3,_⟩ r h=>(eq k a0 a1 a2 a3).trans h
end dU
namespace bx
def C (k:Nat):Cn:=⟨[.give aA,.val (.slice .str)],[aA,(.int .i64)],true,false,fun x=>f k x.1 x.2.1⟩
def D (k:Nat):List Ce:=[q (bE.ctr k),q (gD.ctr k)]
def E (k:Nat):dI:=en (D k) [(2,[1,2,4,6])] 0 [] k
section
variable (k:Nat) (a0:Ty.d aA) (a1:List ByteArray)
def K0:Ex→St→Rs:=cJ (E k) (eK (E k) Tryz.f158 (C k) (a0,a1,())) [.blk 0,.code (at_ (bt 2 3) (body Tryz.f158))]
def V0 (n0:Nat):T0:=fun x0 x1 x2 x3 x4 x5 x6 x7 x8 x9=>aq (bn (E k) (at_ (bt 5 5) (body Tryz.f158))) (an 0 [1,2,4,6]) (K0 k a0 a1) n0 (mk 37 4 [(1,.sl true .str x0),(2,.ptr 0 0 0),(4,.ptr 2 0 0),(6,.int .i64 x1)] [(1,.own false aK x2),(0,.box [.ref 1,.int .i64 x3,.int .i64 x4,.bool x5]),(3,.own false aK x6),(2,.box [.ref 3,.int .i64 x7,.int .i64 x8,.bool x9])])
theorem s0 (n0:Nat):V0 k a0 a1 (n0+1)=b0 k (V0 k a0 a1 n0):=by kernel_rfl
theorem e0:V0 k a0 a1=l0 k:=aZ rfl (s0 k a0 a1) fun _=>rfl
end
theorem eq (k:Nat) (a0:Ty.d aA) (a1:List ByteArray):rn (E k) Tryz.f158 (C k) (a0,a1,())=f k a0 a1:=(show _=t k (V0 k a0 a1 k) a0 a1 by kernel_rfl).trans (by rw [e0];rfl)
theorem ctr (k:Nat):Cp 158 (C k):=rc rfl (D k) (by kernel_rfl) Tryz.func158 (by kernel_rfl) rfl fun ⟨a0,a1,_⟩ r h=>(eq k a0 a1).trans h
end bx
namespace dS
def C (k:Nat):Cn:=⟨[.give aE,.give aA,.val (.int .i64),.val (.int .i64)],[aE,aA,(.int .i64)],true,false,fun x=>f k x.1 x.2.1 x.2.2.1 x.2.2.2.1⟩
def D (k:Nat):List Ce:=[q (aU.ctr k),q (cj.ctr k),q (bx.ctr k),q (aW.ctr k)]
def E (k:Nat):dI:=en (D k) [] 0 [] k
theorem eq (k:Nat) (a0:Ty.d aE) (a1:Ty.d aA) (a2:Int) (a3:Int):rn (E k) Tryz.f156 (C k) (a0,a1,a2,a3,())=f k a0 a1 a2 a3:=by kernel_rfl
theorem ctr (k:Nat):Cp 156 (C k):=rc rfl (D k) (by kernel_rfl) Tryz.func156 (by kernel_rfl) rfl fun ⟨a0,a1,a2,a3,_⟩ r h=>(eq k a0 a1 a2 a3).trans h
end dS
namespace bq
def C (k:Nat):Cn:=⟨[.give aE,.val aA,.val (.slice aK)],[aE,aA,(.int .i64)],true,false,fun x=>f k x.1 x.2.1 x.2.2.1⟩
def D (k:Nat):List Ce:=[q (dU.ctr k),q (dS.ctr k),q (aU.ctr k),q (dV.ctr k),q (aW.ctr k),q (bK.ctr k),q (dW.ctr k),q (cj.ctr k),q (dL.ctr k),q (gU.ctr k),q (bx.ctr k),q (eG.ctr k)]
def E (k:Nat):dI:=en (D k) [(26,[3,6,7,10,18,20])] 0 [] k
section
variable (k:Nat) (a0:Ty.d aE) (a1:Ty.d aA) (a2:List (Ty.d aK))
def K0:Ex→St→Rs:=cJ (E k) (eK (E k) Tryz.f129 (C k) (a0,a1,a2,())) [.blk 0,.code (at_ (bt 21 2097151) (body Tryz.f129))]
def V0 (n0:Nat):T0:=fun x0 x1 x2 x3 x4 x5 x6 x7 x8 x9 x10 x11 x12 x13 x14 x15 x16 x17 x18 x19 x20 x21=>aq (bn (E k) (at_ (bt 24 3145727) (body Tryz.f129))) (an 0 [3,6,7,10,18,20]) (K0 k a0 a1 a2) n0 (mk 170 11 [(3,.ptr 0 0 0),(6,.ptr 3 0 0),(7,.ptr 6 0 0),(10,.ptr 8 0 0),(18,.ref 10),(20,.int .i64 x0)] [(1,.own false (.int .i64) x1),(2,.own false aB x2),(0,.box [.int .i64 x3,.ref 1,.ref 2,.int .i64 x4,.int .i64 x5,.int .i64 x6]),(4,.own false (.int .i64) x7),(5,.own false aB x8),(3,.box [.int .i64 x9,.ref 4,.ref 5,.int .i64 x10,.int .i64 x11,.int .i64 x12]),(7,.own false aK x13),(6,.box [.ref 7,.int .i64 x14,.int .i64 x15,.bool x16]),(9,.own false aK x17),(8,.box [.ref 9,.int .i64 x18,.int .i64 x19,.bool x20]),(10,.own false (.int .i64) x21)])
theorem s0 (n0:Nat):V0 k a0 a1 a2 (n0+1)=b0 k (V0 k a0 a1 a2 n0):=by kernel_rfl
theorem e0:V0 k a0 a1 a2=l0 k:=aZ rfl (s0 k a0 a1 a2) fun _=>rfl
end
theorem eq (k:Nat) (a0:Ty.d aE) (a1:Ty.d aA) (a2:List (Ty.d aK)):rn (E k) Tryz.f129 (C k) (a0,a1,a2,())=f k a0 a1 a2:=(show _=t k (V0 k a0 a1 a2 k) a0 a1 a2 by kernel_rfl).trans (by rw [e0];rfl)
theorem ctr (k:Nat):Cp 129 (C k):=rc rfl (D k) (by kernel_rfl) Tryz.func129 (by kernel_rfl) rfl fun ⟨a0,a1,a2,_⟩ r h=>(eq k a0 a1 a2).trans h
end bq
namespace kF
def C (k:Nat):Cn:=⟨[.val aE,.val aA],[aE,aA,(.int .i64)],true,false,fun x=>f k x.1 x.2.1⟩
def D (k:Nat):List Ce:=[q (d6.ctr k),q (bh.ctr k),q (bS.ctr k),q (gB.ctr k),q (bq.ctr k)]
def E (k:Nat):dI:=en (D k) [] 0 [] k
theorem eq (k:Nat) (a0:Ty.d aE) (a1:Ty.d aA):rn (E k) Tryz.f89 (C k) (a0,a1,())=f k a0 a1:=by kernel_rfl
theorem ctr (k:Nat):Cp 89 (C k):=rc rfl (D k) (by kernel_rfl) Tryz.func89 (by kernel_rfl) rfl fun ⟨a0,a1,_⟩ r h=>(eq k a0 a1).trans h
end kF
namespace fB
def C (k:Nat):Cn:=⟨[.val (.slice aB)],[(.slice .str)],true,false,fun x=>f k x.1⟩
def E (k:Nat):dI:=en [] [(3,[0,3,4])] 0 [] k
section
variable (k:Nat) (a0:List (Ty.d aB))
def K0:Ex→St→Rs:=cJ (E k) (eK (E k) Tryz.f90 (C k) (a0,())) [.blk 0,.code (at_ (bt 3 7) (body Tryz.f90))]
def V0 (n0:Nat):T0:=fun x0 x1 x2=>aq (bn (E k) (at_ (bt 6 11) (body Tryz.f90))) (an 0 [0,3,4]) (K0 k a0) n0 (mk 21 1 [(0,.sl true aB x0),(3,.ref 0),(4,.int .i64 x1)] [(0,.own false .str x2)])
theorem s0 (n0:Nat):V0 k a0 (n0+1)=b0 k (V0 k a0 n0):=by kernel_rfl
theorem e0:V0 k a0=l0 k:=aZ rfl (s0 k a0) fun _=>rfl
end
theorem eq (k:Nat) (a0:List (Ty.d aB)):rn (E k) Tryz.f90 (C k) (a0,())=f k a0:=(show _=t k (V0 k a0 k) a0 by kernel_rfl).trans (by rw [e0];rfl)
theorem ctr (k:Nat):Cp 90 (C k):=rc rfl [] (by kernel_rfl) Tryz.func90 (by kernel_rfl) rfl fun ⟨a0,_⟩ r h=>(eq k a0).trans h
end fB
namespace fA
def C (k:Nat):Cn:=⟨[.val dO,.val .str,.val (.int .i64)],[dO,(.int .i64)],true,false,fun x=>f k x.1 x.2.1 x.2.2.1⟩
def D (k:Nat):List Ce:=[q (eI.ctr k),q (cm.ctr k)]
def E (k:Nat):dI:=en (D k) [(5,[1,2,3,6,8,9])] 0 [] k
section
variable (k:Nat) (a0:Ty.d dO) (a1:ByteArray) (a2:Int)
def K0:Ex→St→Rs:=cJ (E k) (eK (E k) Tryz.f130 (C k) (a0,a1,a2,())) [.blk 0,.code (at_ (bt 4 15) (body Tryz.f130))]
def V0 (n0:Nat):T0:=fun x0 x1 x2 x3 x4 x5 x6 x7 x8 x9 x10 x11=>aq (bn (E k) (at_ (bt 7 23) (body Tryz.f130))) (an 0 [1,2,3,6,8,9]) (K0 k a0 a1 a2) n0 (mk 60 7 [(1,.str x0),(2,.int .i64 x1),(3,.ptr 0 0 0),(6,.ptr 1 0 0),(8,.ptr 4 0 0),(9,.int .i64 x2)] [(0,.box [.bool x3,.sl true ek x4,.sl true ch x5]),(2,.own false ek x6),(3,.own false ch x7),(1,.box [.bool x8,.ref 2,.ref 3]),(5,.own false ek x9),(6,.own false ch x10),(4,.box [.bool x11,.ref 5,.ref 6])])
theorem s0 (n0:Nat):V0 k a0 a1 a2 (n0+1)=b0 k (V0 k a0 a1 a2 n0):=by kernel_rfl
theorem e0:V0 k a0 a1 a2=l0 k:=aZ rfl (s0 k a0 a1 a2) fun _=>rfl
end
theorem eq (k:Nat) (a0:Ty.d dO) (a1:ByteArray) (a2:Int):rn (E k) Tryz.f130 (C k) (a0,a1,a2,())=f k a0 a1 a2:=(show _=t k (V0 k a0 a1 a2 k) a0 a1 a2 by kernel_rfl).trans (by rw [e0];rfl)
theorem ctr (k:Nat):Cp 130 (C k):=rc rfl (D k) (by kernel_rfl) Tryz.func130 (by kernel_rfl) rfl fun ⟨a0,a1,a2,_⟩ r h=>(eq k a0 a1 a2).trans h
end fA
namespace eu
def C (k:Nat):Cn:=⟨[.give ck,.val ar],[ck,dz],true,true,fun x=>f k x.1 x.2.1⟩
def D (k:Nat):List Ce:=[q (cm.ctr k),q (dK.ctr k),q (kc.ctr k),q (fA.ctr k)]
def E (k:Nat):dI:=en (D k) [] 0 [] k
theorem eq (k:Nat) (a0:Ty.d ck) (a1:Ty.d ar):rn (E k) Tryz.f91 (C k) (a0,a1,())=f k a0 a1:=by kernel_rfl
theorem ctr (k:Nat):Cp 91 (C k):=rc rfl (D k) (by kernel_rfl) Tryz.func91 (by kernel_rfl) rfl fun ⟨a0,a1,_⟩ r h=>(eq k a0 a1).trans h
end eu
namespace gN
def C (k:Nat):Cn:=⟨[.val dO,.val (.slice aB)],[.bool],true,false,fun x=>f k x.1 x.2.1⟩
def D (k:Nat):List Ce:=[q (eU.ctr k)]
def E (k:Nat):dI:=en (D k) [(2,[1,2,5])] 0 [] k
section
variable (k:Nat) (a0:Ty.d dO) (a1:List (Ty.d aB))
def K0:Ex→St→Rs:=cJ (E k) (eK (E k) Tryz.f131 (C k) (a0,a1,())) [.blk 0,.code (at_ (bt 2 3) (body Tryz.f131))]
def V0 (n0:Nat):T0:=fun x0 x1 x2 x3 x4=>aq (bn (E k) (at_ (bt 5 5) (body Tryz.f131))) (an 0 [1,2,5]) (K0 k a0 a1) n0 (mk 35 1 [(1,.sl true aB x0),(2,.ptr 0 0 0),(5,.int .i64 x1)] [(0,.box [.bool x2,.sl true ek x3,.sl true ch x4])])
theorem s0 (n0:Nat):V0 k a0 a1 (n0+1)=b0 k (V0 k a0 a1 n0):=by kernel_rfl
theorem e0:V0 k a0 a1=l0 k:=aZ rfl (s0 k a0 a1) fun _=>rfl
end
theorem eq (k:Nat) (a0:Ty.d dO) (a1:List (Ty.d aB)):rn (E k) Tryz.f131 (C k) (a0,a1,())=f k a0 a1:=(show _=t k (V0 k a0 a1 k) a0 a1 by kernel_rfl).trans (by rw [e0];rfl)
theorem ctr (k:Nat):Cp 131 (C k):=rc rfl (D k) (by kernel_rfl) Tryz.func131 (by kernel_rfl) rfl fun ⟨a0,a1,_⟩ r h=>(eq k a0 a1).trans h
end gN
namespace cF
def C (k:Nat):Cn:=⟨[.val (.slice ch)],[.bool],true,false,fun x=>f k x.1⟩
def D (k:Nat):List Ce:=[q (cm.ctr k)]
def E (k:Nat):dI:=en (D k) [(4,[0,3])] 0 [] k
section
variable (k:Nat) (a0:List (Ty.d ch))
def K0:Ex→St→Rs:=cJ (E k) (eK (E k) Tryz.f93 (C k) (a0,())) [.blk 0,.code (at_ (bt 3 7) (body Tryz.f93))]
def V0 (n0:Nat):T0:=fun x0 x1=>aq (bn (E k) (at_ (bt 6 11) (body Tryz.f93))) (an 0 [0,3]) (K0 k a0) n0 (mk 44 0 [(0,.sl true ch x0),(3,.int .i64 x1)] [])
theorem s0 (n0:Nat):V0 k a0 (n0+1)=b0 k (V0 k a0 n0):=by kernel_rfl
theorem e0:V0 k a0=l0 k:=aZ rfl (s0 k a0) fun _=>rfl
end
theorem eq (k:Nat) (a0:List (Ty.d ch)):rn (E k) Tryz.f93 (C k) (a0,())=f k a0:=(show _=t k (V0 k a0 k) a0 by kernel_rfl).trans (by rw [e0];rfl)
theorem ctr (k:Nat):Cp 93 (C k):=rc rfl (D k) (by kernel_rfl) Tryz.func93 (by kernel_rfl) rfl fun ⟨a0,_⟩ r h=>(eq k a0).trans h
end cF
namespace d_
def C (k:Nat):Cn:=⟨[.val (.slice aB),.val (.slice ch)],[(.int .i64)],true,false,fun x=>f k x.1 x.2.1⟩
def D (k:Nat):List Ce:=[q (cw.ctr k),q (c8.ctr k)]
def E (k:Nat):dI:=en (D k) [(2,[0,1,5])] 0 [] k
section
variable (k:Nat) (a0:List (Ty.d aB)) (a1:List (Ty.d ch))
def K0:Ex→St→Rs:=cJ (E k) (eK (E k) Tryz.f159 (C k) (a0,a1,())) [.blk 0,.code (at_ (bt 2 3) (body Tryz.f159))]
def V0 (n0:Nat):T0:=fun x0 x1 x2=>aq (bn (E k) (at_ (bt 5 5) (body Tryz.f159))) (an 0 [0,1,5]) (K0 k a0 a1) n0 (mk 34 0 [(0,.sl true aB x0),(1,.sl true ch x1),(5,.int .i64 x2)] [])
def V1 (n0:Nat):T1:=fun x0 x1 x2=>aq (bn (E k) (at_ (bt 5 5) (body Tryz.f159))) (an 0 [0,1,5]) (K0 k a0 a1) n0 (mk 34 1 [(0,.ref 0),(1,.sl true ch x0),(5,.int .i64 x1)] [(0,.own false aB x2)])
theorem s0 (n0:Nat):V0 k a0 a1 (n0+1)=b0 k (V1 k a0 a1 n0):=by kernel_rfl
theorem s1 (n0:Nat):V1 k a0 a1 (n0+1)=b1 k (V1 k a0 a1 n0):=by kernel_rfl
theorem e1:V1 k a0 a1=l1 k:=aZ rfl (s1 k a0 a1) fun _=>rfl
theorem e0 (n0:Nat):V0 k a0 a1 n0=l0 k n0:=by
 induction n0 with
 | zero=>rfl
 | succ n0 ih =>
  have h:V0 k a0 a1 (n0+1)=b0 k (V1 k a0 a1 n0):=s0 k a0 a1 n0
  rw [h,e1]
  rfl
end
theorem eq (k:Nat) (a0:List (Ty.d aB)) (a1:List (Ty.d ch)):rn (E k) Tryz.f159 (C k) (a0,a1,())=f k a0 a1:=(show _=t k (V0 k a0 a1 k) a0 a1 by kernel_rfl).trans (by rw [e0];rfl)
theorem ctr (k:Nat):Cp 159 (C k):=rc rfl (D k) (by kernel_rfl) Tryz.func159 (by kernel_rfl) rfl fun ⟨a0,a1,_⟩ r h=>(eq k a0 a1).trans h
end d_
namespace co
def C (k:Nat):Cn:=⟨[.val aE],[.str],true,false,fun x=>f k x.1⟩
def D (k:Nat):List Ce:=[q (aU.ctr k)]
def E (k:Nat):dI:=en (D k) [] 0 [] k
theorem eq (k:Nat) (a0:Ty.d aE):rn (E k) Tryz.f169 (C k) (a0,())=f k a0:=by kernel_rfl
theorem ctr (k:Nat):Cp 169 (C k):=rc rfl (D k) (by kernel_rfl) Tryz.func169 (by kernel_rfl) rfl fun ⟨a0,_⟩ r h=>(eq k a0).trans h
end co
namespace fL
def C (k:Nat):Cn:=⟨[.give aE,.give aA],[aE,aA,(.int .i64)],true,false,fun x=>f k x.1 x.2.1⟩
def D (k:Nat):List Ce:=[q (co.ctr k),q (eA.ctr k),q (aW.ctr k),q (aU.ctr k),q (dV.ctr k),q (eG.ctr k),q (bx.ctr k)]
def E (k:Nat):dI:=en (D k) [] 0 [] k
theorem eq (k:Nat) (a0:Ty.d aE) (a1:Ty.d aA):rn (E k) Tryz.f171 (C k) (a0,a1,())=f k a0 a1:=by kernel_rfl
theorem ctr (k:Nat):Cp 171 (C k):=rc rfl (D k) (by kernel_rfl) Tryz.func171 (by kernel_rfl) rfl fun ⟨a0,a1,_⟩ r h=>(eq k a0 a1).trans h
end fL
namespace dr
def C (k:Nat):Cn:=⟨[.give aE,.give aA,.val bB],[aE,aA,aC,(.int .i64)],true,false,fun x=>f k x.1 x.2.1 x.2.2.1⟩
def D (k:Nat):List Ce:=[q (cD.ctr k),q (fI.ctr k),q (fL.ctr k),q (co.ctr k),q (dX.ctr k),q (aW.ctr k)]
def E (k:Nat):dI:=en (D k) [] 0 [] k
theorem eq (k:Nat) (a0:Ty.d aE) (a1:Ty.d aA) (a2:Ty.d bB):rn (E k) Tryz.f168 (C k) (a0,a1,a2,())=f k a0 a1 a2:=by kernel_rfl
theorem ctr (k:Nat):Cp 168 (C k):=rc rfl (D k) (by kernel_rfl) Tryz.func168 (by kernel_rfl) rfl fun ⟨a0,a1,a2,_⟩ r h=>(eq k a0 a1 a2).trans h
end dr
namespace bW
def C (k:Nat):Cn:=⟨[.give aE,.give aA,.give (.slice ch)],[aE,aA,(.int .i64)],true,false,fun x=>f k x.1 x.2.1 x.2.2.1⟩
def D (k:Nat):List Ce:=[q (dr.ctr k),q (gw.ctr k),q (gY.ctr k),q (co.ctr k),q (eA.ctr k),q (aW.ctr k)]
def E (k:Nat):dI:=en (D k) [(6,[2,3,4,6,7,9,10,11,12])] 0 [] k
section
variable (k:Nat) (a0:Ty.d aE) (a1:Ty.d aA) (a2:List (Ty.d ch))
def K0:Ex→St→Rs:=cJ (E k) (eK (E k) Tryz.f160 (C k) (a0,a1,a2,())) [.blk 0,.code (at_ (bt 6 63) (body Tryz.f160))]
def V0 (n0:Nat):T0:=fun x0 x1 x2 x3 x4 x5 x6 x7 x8 x9 x10 x11 x12 x13 x14 x15 x16 x17 x18 x19 x20 x21 x22 x23 x24=>aq (bn (E k) (at_ (bt 9 95) (body Tryz.f160))) (an 0 [2,3,4,6,7,9,10,11,12]) (K0 k a0 a1 a2) n0 (mk 111 13 [(2,.ref 0),(3,.ptr 1 0 0),(4,.ptr 4 0 0),(6,.ptr 6 0 0),(7,.ptr 9 0 0),(9,.int .i64 x0),(10,.ref 11),(11,.ref 12),(12,.int .i64 x1)] [(0,.own false ch x2),(2,.own false (.int .i64) x3),(3,.own false aB x4),(1,.box [.int .i64 x5,.ref 2,.ref 3,.int .i64 x6,.int .i64 x7,.int .i64 x8]),(5,.own false aK x9),(4,.box [.ref 5,.int .i64 x10,.int .i64 x11,.bool x12]),(7,.own false (.int .i64) x13),(8,.own false aB x14),(6,.box [.int .i64 x15,.ref 7,.ref 8,.int .i64 x16,.int .i64 x17,.int .i64 x18]),(10,.own false aK x19),(9,.box [.ref 10,.int .i64 x20,.int .i64 x21,.bool x22]),(11,.own false bB x23),(12,.own false aB x24)])
theorem s0 (n0:Nat):V0 k a0 a1 a2 (n0+1)=b0 k (V0 k a0 a1 a2 n0):=by kernel_rfl
theorem e0:V0 k a0 a1 a2=l0 k:=aZ rfl (s0 k a0 a1 a2) fun _=>rfl
end
theorem eq (k:Nat) (a0:Ty.d aE) (a1:Ty.d aA) (a2:List (Ty.d ch)):rn (E k) Tryz.f160 (C k) (a0,a1,a2,())=f k a0 a1 a2:=(show _=t k (V0 k a0 a1 a2 k) a0 a1 a2 by kernel_rfl).trans (by rw [e0];rfl)
theorem ctr (k:Nat):Cp 160 (C k):=rc rfl (D k) (by kernel_rfl) Tryz.func160 (by kernel_rfl) rfl fun ⟨a0,a1,a2,_⟩ r h=>(eq k a0 a1 a2).trans h
end bW
namespace gj
def C (k:Nat):Cn:=⟨[.val aE,.val aA,.give (.slice ch)],[aE,aA,(.int .i64)],true,false,fun x=>f k x.1 x.2.1 x.2.2.1⟩
def D (k:Nat):List Ce:=[q (d6.ctr k),q (bh.ctr k),q (bS.ctr k),q (cF.ctr k),q (d_.ctr k),q (bW.ctr k)]
def E (k:Nat):dI:=en (D k) [] 0 [] k
theorem eq (k:Nat) (a0:Ty.d aE) (a1:Ty.d aA) (a2:List (Ty.d ch)):rn (E k) Tryz.f132 (C k) (a0,a1,a2,())=f k a0 a1 a2:=by kernel_rfl
theorem ctr (k:Nat):Cp 132 (C k):=rc rfl (D k) (by kernel_rfl) Tryz.func132 (by kernel_rfl) rfl fun ⟨a0,a1,a2,_⟩ r h=>(eq k a0 a1 a2).trans h
end gj
namespace dD
def C (k:Nat):Cn:=⟨[.give ck,.val ar],[ck,dz],true,true,fun x=>f k x.1 x.2.1⟩
def D (k:Nat):List Ce:=[q (gN.ctr k),q (az.ctr k),q (gj.ctr k)]
def E (k:Nat):dI:=en (D k) [] 0 [] k
theorem eq (k:Nat) (a0:Ty.d ck) (a1:Ty.d ar):rn (E k) Tryz.f92 (C k) (a0,a1,())=f k a0 a1:=by kernel_rfl
theorem ctr (k:Nat):Cp 92 (C k):=rc rfl (D k) (by kernel_rfl) Tryz.func92 (by kernel_rfl) rfl fun ⟨a0,a1,_⟩ r h=>(eq k a0 a1).trans h
end dD
namespace er
def C (k:Nat):Cn:=⟨[.val dO,.val ch],[dO,.bool],true,false,fun x=>f k x.1 x.2.1⟩
def D (k:Nat):List Ce:=[q (eI.ctr k),q (cF.ctr k),q (az.ctr k)]
def E (k:Nat):dI:=en (D k) [] 0 [] k
theorem eq (k:Nat) (a0:Ty.d dO) (a1:Ty.d ch):rn (E k) Tryz.f94 (C k) (a0,a1,())=f k a0 a1:=by kernel_rfl
theorem ctr (k:Nat):Cp 94 (C k):=rc rfl (D k) (by kernel_rfl) Tryz.func94 (by kernel_rfl) rfl fun ⟨a0,a1,_⟩ r h=>(eq k a0 a1).trans h
end er
namespace aw
def C (k:Nat):Cn:=⟨[.give ck,.val ar],[ck,dz],true,true,fun x=>f k x.1 x.2.1⟩
def D (k:Nat):List Ce:=[q (dP.ctr k),q (dC.ctr k),q (bC.ctr k),q (kI.ctr k),q (aN.ctr k),q (kF.ctr k),q (fB.ctr k),q (eu.ctr k),q (dD.ctr k),q (cF.ctr k),q (er.ctr k)]
def E (k:Nat):dI:=en (D k) [] 0 [] k
theorem eq (k:Nat) (a0:Ty.d ck) (a1:Ty.d ar):rn (E k) Tryz.f50 (C k) (a0,a1,())=f k a0 a1:=by kernel_rfl
theorem ctr (k:Nat):Cp 50 (C k):=rc rfl (D k) (by kernel_rfl) Tryz.func50 (by kernel_rfl) rfl fun ⟨a0,a1,_⟩ r h=>(eq k a0 a1).trans h
end aw
namespace fE
def C (k:Nat):Cn:=⟨[.val ck,.val (.slice ar)],[vR],false,true,fun x=>f k x.1 x.2.1⟩
def D (k:Nat):List Ce:=[q (dP.ctr k),q (aN.ctr k),q (az.ctr k),q (aw.ctr k)]
def E (k:Nat):dI:=en (D k) [(3,[1,4,5,6])] 0 [] k
section
variable (k:Nat) (a0:Ty.d ck) (a1:List (Ty.d ar))
def K0:Ex→St→Rs:=cJ (E k) (eK (E k) Tryz.f20 (C k) (a0,a1,())) [.blk 0,.code (at_ (bt 3 7) (body Tryz.f20))]
def V0 (n0:Nat):T0:=fun x0 x1 x2 x3 x4 x5 x6 x7 x8 x9 x10 x11 x12 x13 x14 x15 x16 x17 x18 x19 x20 x21 x22 x23 x24 x25 x26 x27 x28 x29 x30 x31=>aq (bn (E k) (at_ (bt 6 11) (body Tryz.f20))) (an 0 [1,4,5,6]) (K0 k a0 a1) n0 (mk 108 16 [(1,.sl true ar x0),(4,.ptr 0 0 0),(5,.ptr 8 0 0),(6,.int .i64 x1)] [(1,.own false (.int .i64) x2),(2,.own false aB x3),(3,.own false aK x4),(4,.own false dO x5),(5,.own false dz x6),(6,.own false sH x7),(7,.own false ch x8),(0,.box [.bool x9,.int .i64 x10,.ref 1,.ref 2,.int .i64 x11,.int .i64 x12,.int .i64 x13,.ref 3,.int .i64 x14,.int .i64 x15,.bool x16,.ref 4,.ref 5,.ref 6,.ref 7]),(9,.own false (.int .i64) x17),(10,.own false aB x18),(11,.own false aK x19),(12,.own false dO x20),(13,.own false dz x21),(14,.own false sH x22),(15,.own false ch x23),(8,.box [.bool x24,.int .i64 x25,.ref 9,.ref 10,.int .i64 x26,.int .i64 x27,.int .i64 x28,.ref 11,.int .i64 x29,.int .i64 x30,.bool x31,.ref 12,.ref 13,.ref 14,.ref 15])])
def V1 (n0:Nat):T1:=fun x0 x1 x2 x3 x4 x5 x6 x7 x8 x9 x10 x11 x12 x13 x14 x15 x16 x17 x18 x19 x20 x21 x22 x23 x24 x25 x26 x27 x28 x29 x30 x31=>aq (bn (E k) (at_ (bt 6 11) (body Tryz.f20))) (an 0 [1,4,5,6]) (K0 k a0 a1) n0 (mk 108 16 [(1,.sl true ar x0),(4,.ptr 0 0 0),(5,.ptr 8 0 0),(6,.int .i64 x1)] [(1,.own false (.int .i64) x2),(2,.own false aB x3),(3,.own false aK x4),(4,.own false dO x5),(5,.own false dz x6),(6,.own false sH x7),(7,.own false ch x8),(0,.box [.bool x9,.int .i64 x10,.ref 1,.ref 2,.int .i64 x11,.int .i64 x12,.int .i64 x13,.ref 3,.int .i64 x14,.int .i64 x15,.bool x16,.ref 4,.ref 5,.ref 6,.ref 7]),(9,.own false (.int .i64) x17),(10,.own false aB x18),(11,.own false aK x19),(12,.own true dO x20),(13,.own false dz x21),(14,.own false sH x22),(15,.own false ch x23),(8,.box [.bool x24,.int .i64 x25,.ref 9,.ref 10,.int .i64 x26,.int .i64 x27,.int .i64 x28,.ref 11,.int .i64 x29,.int .i64 x30,.bool x31,.ref 12,.ref 13,.ref 14,.ref 15])])
theorem s0 (n0:Nat):V0 k a0 a1 (n0+1)=b0 k (V1 k a0 a1 n0):=by kernel_rfl
theorem s1 (n0:Nat):V1 k a0 a1 (n0+1)=b1 k (V1 k a0 a1 n0):=by kernel_rfl
theorem e1:V1 k a0 a1=l1 k:=aZ rfl (s1 k a0 a1) fun _=>rfl
theorem e0 (n0:Nat):V0 k a0 a1 n0=l0 k n0:=by
 induction n0 with
 | zero=>rfl
 | succ n0 ih =>
  have h:V0 k a0 a1 (n0+1)=b0 k (V1 k a0 a1 n0):=s0 k a0 a1 n0
  rw [h,e1]
  rfl
end
theorem eq (k:Nat) (a0:Ty.d ck) (a1:List (Ty.d ar)):rn (E k) Tryz.f20 (C k) (a0,a1,())=f k a0 a1:=(show _=t k (V0 k a0 a1 k) a0 a1 by kernel_rfl).trans (by rw [e0];rfl)
theorem ctr (k:Nat):Cp 20 (C k):=rc rfl (D k) (by kernel_rfl) Tryz.func20 (by kernel_rfl) rfl fun ⟨a0,a1,_⟩ r h=>(eq k a0 a1).trans h
end fE
namespace kz
def C (k:Nat):Cn:=⟨[.val kh],[vR],false,true,fun x=>f k x.1⟩
def D (k:Nat):List Ce:=[q (aN.ctr k),q (gT.ctr k),q (i8.ctr k),q (dC.ctr k),q (fE.ctr k)]
def E (k:Nat):dI:=en (D k) [] 0 [] k
theorem eq (k:Nat) (a0:Ty.d kh):rn (E k) Tryz.f5 (C k) (a0,())=f k a0:=by kernel_rfl
theorem ctr (k:Nat):Cp 5 (C k):=rc rfl (D k) (by kernel_rfl) Tryz.func5 (by kernel_rfl) rfl fun ⟨a0,_⟩ r h=>(eq k a0).trans h
end kz
namespace b9
def C (k:Nat):Cn:=⟨[.val (.int .i64),.val (.int .i64),.val (.int .i64)],[.bool],true,false,fun x=>f k x.1 x.2.1 x.2.2.1⟩
def E (k:Nat):dI:=en [] [] 0 [] k
theorem eq (k:Nat) (a0:Int) (a1:Int) (a2:Int):rn (E k) Tryz.f39 (C k) (a0,a1,a2,())=f k a0 a1 a2:=by kernel_rfl
theorem ctr (k:Nat):Cp 39 (C k):=rc rfl [] (by kernel_rfl) Tryz.func39 (by kernel_rfl) rfl fun ⟨a0,a1,a2,_⟩ r h=>(eq k a0 a1 a2).trans h
end b9
namespace fo
def C (k:Nat):Cn:=⟨[.val .str],[.bool],true,false,fun x=>f k x.1⟩
def D (k:Nat):List Ce:=[q (b9.ctr k)]
def E (k:Nat):dI:=en (D k) [(2,[0,3])] 0 [] k
section
variable (k:Nat) (a0:ByteArray)
def K0:Ex→St→Rs:=cJ (E k) (eK (E k) Tryz.f101 (C k) (a0,())) [.blk 0,.code (at_ (bt 2 3) (body Tryz.f101))]
def V0 (n0:Nat):T0:=fun x0 x1=>aq (bn (E k) (at_ (bt 5 5) (body Tryz.f101))) (an 0 [0,3]) (K0 k a0) n0 (mk 37 0 [(0,.str x0),(3,.int .i64 x1)] [])
theorem s0 (n0:Nat):V0 k a0 (n0+1)=b0 k (V0 k a0 n0):=by kernel_rfl
theorem e0:V0 k a0=l0 k:=aZ rfl (s0 k a0) fun _=>rfl
end
theorem eq (k:Nat) (a0:ByteArray):rn (E k) Tryz.f101 (C k) (a0,())=f k a0:=(show _=t k (V0 k a0 k) a0 by kernel_rfl).trans (by rw [e0];rfl)
theorem ctr (k:Nat):Cp 101 (C k):=rc rfl (D k) (by kernel_rfl) Tryz.func101 (by kernel_rfl) rfl fun ⟨a0,_⟩ r h=>(eq k a0).trans h
end fo
namespace dY
def C (k:Nat):Cn:=⟨[.val aA],[.bool],true,false,fun x=>f k x.1⟩
def D (k:Nat):List Ce:=[q (b9.ctr k),q (fo.ctr k)]
def E (k:Nat):dI:=en (D k) [(5,[1,3,23,24,25])] 0 [] k
section
variable (k:Nat) (a0:Ty.d aA)
def K0:Ex→St→Rs:=cJ (E k) (eK (E k) Tryz.f60 (C k) (a0,())) [.blk 0,.code (at_ (bt 4 15) (body Tryz.f60))]
def V0 (n0:Nat):T0:=fun x0 x1 x2 x3 x4 x5 x6 x7=>aq (bn (E k) (at_ (bt 7 23) (body Tryz.f60))) (an 0 [1,3,23,24,25]) (K0 k a0) n0 (mk 69 1 [(1,.ptr 0 0 0),(3,.int .i64 x0),(23,.sl true aK x1),(24,.int .i64 x2),(25,.int .i64 x3)] [(0,.box [.sl true aK x4,.int .i64 x5,.int .i64 x6,.bool x7])])
theorem s0 (n0:Nat):V0 k a0 (n0+1)=b0 k (V0 k a0 n0):=by kernel_rfl
theorem e0:V0 k a0=l0 k:=aZ rfl (s0 k a0) fun _=>rfl
end
theorem eq (k:Nat) (a0:Ty.d aA):rn (E k) Tryz.f60 (C k) (a0,())=f k a0:=(show _=t k (V0 k a0 k) a0 by kernel_rfl).trans (by rw [e0];rfl)
theorem ctr (k:Nat):Cp 60 (C k):=rc rfl (D k) (by kernel_rfl) Tryz.func60 (by kernel_rfl) rfl fun ⟨a0,_⟩ r h=>(eq k a0).trans h
end dY
namespace da
def C (k:Nat):Cn:=⟨[.val cZ],[.bool],true,false,fun x=>f k x.1⟩
def D (k:Nat):List Ce:=[q (b9.ctr k)]
def E (k:Nat):dI:=en (D k) [(2,[1,6,7,8])] 0 [] k
section
variable (k:Nat) (a0:Ty.d cZ)
def K0:Ex→St→Rs:=cJ (E k) (eK (E k) Tryz.f40 (C k) (a0,())) [.blk 0,.code (at_ (bt 2 3) (body Tryz.f40))]
def V0 (n0:Nat):T0:=fun x0 x1 x2 x3 x4=>aq (bn (E k) (at_ (bt 5 5) (body Tryz.f40))) (an 0 [1,6,7,8]) (K0 k a0) n0 (mk 43 1 [(1,.ptr 0 0 0),(6,.sl true (.int .i64) x0),(7,.int .i64 x1),(8,.int .i64 x2)] [(0,.box [.int .i64 x3,.sl true (.int .i64) x4])])
theorem s0 (n0:Nat):V0 k a0 (n0+1)=b0 k (V0 k a0 n0):=by kernel_rfl
theorem e0:V0 k a0=l0 k:=aZ rfl (s0 k a0) fun _=>rfl
end
theorem eq (k:Nat) (a0:Ty.d cZ):rn (E k) Tryz.f40 (C k) (a0,())=f k a0:=(show _=t k (V0 k a0 k) a0 by kernel_rfl).trans (by rw [e0];rfl)
theorem ctr (k:Nat):Cp 40 (C k):=rc rfl (D k) (by kernel_rfl) Tryz.func40 (by kernel_rfl) rfl fun ⟨a0,_⟩ r h=>(eq k a0).trans h
end da
namespace gQ
def C (k:Nat):Cn:=⟨[.val .str],[.bool],true,false,fun x=>f k x.1⟩
def D (k:Nat):List Ce:=[q (b9.ctr k)]
def E (k:Nat):dI:=en (D k) [] 0 [] k
theorem eq (k:Nat) (a0:ByteArray):rn (E k) Tryz.f102 (C k) (a0,())=f k a0:=by kernel_rfl
theorem ctr (k:Nat):Cp 102 (C k):=rc rfl (D k) (by kernel_rfl) Tryz.func102 (by kernel_rfl) rfl fun ⟨a0,_⟩ r h=>(eq k a0).trans h
end gQ
namespace fe
def C (k:Nat):Cn:=⟨[.val (.slice aB)],[.bool],true,false,fun x=>f k x.1⟩
def D (k:Nat):List Ce:=[q (gQ.ctr k),q (b9.ctr k)]
def E (k:Nat):dI:=en (D k) [(2,[0,5,6,7])] 0 [] k
section
variable (k:Nat) (a0:List (Ty.d aB))
def K0:Ex→St→Rs:=cJ (E k) (eK (E k) Tryz.f61 (C k) (a0,())) [.blk 0,.code (at_ (bt 2 3) (body Tryz.f61))]
def V0 (n0:Nat):T0:=fun x0 x1 x2 x3=>aq (bn (E k) (at_ (bt 5 5) (body Tryz.f61))) (an 0 [0,5,6,7]) (K0 k a0) n0 (mk 58 0 [(0,.sl true aB x0),(5,.sl true aB x1),(6,.int .i64 x2),(7,.int .i64 x3)] [])
theorem s0 (n0:Nat):V0 k a0 (n0+1)=b0 k (V0 k a0 n0):=by kernel_rfl
theorem e0:V0 k a0=l0 k:=aZ rfl (s0 k a0) fun _=>rfl
end
theorem eq (k:Nat) (a0:List (Ty.d aB)):rn (E k) Tryz.f61 (C k) (a0,())=f k a0:=(show _=t k (V0 k a0 k) a0 by kernel_rfl).trans (by rw [e0];rfl)
theorem ctr (k:Nat):Cp 61 (C k):=rc rfl (D k) (by kernel_rfl) Tryz.func61 (by kernel_rfl) rfl fun ⟨a0,_⟩ r h=>(eq k a0).trans h
end fe
namespace mK
def C (k:Nat):Cn:=⟨[.val (.int .i64)],[.str],true,false,fun x=>f k x.1⟩
def D (k:Nat):List Ce:=[q (mI.ctr k)]
def E (k:Nat):dI:=en (D k) [] 0 [] k
theorem eq (k:Nat) (a0:Int):rn (E k) Tryz.f103 (C k) (a0,())=f k a0:=by kernel_rfl
theorem ctr (k:Nat):Cp 103 (C k):=rc rfl (D k) (by kernel_rfl) Tryz.func103 (by kernel_rfl) rfl fun ⟨a0,_⟩ r h=>(eq k a0).trans h
end mK
namespace jy
def C (k:Nat):Cn:=⟨[.val .str,.val (.int .i64)],[.str],true,false,fun x=>f k x.1 x.2.1⟩
def D (k:Nat):List Ce:=[q (b9.ctr k),q (mK.ctr k)]
def E (k:Nat):dI:=en (D k) [] 0 [] k
theorem eq (k:Nat) (a0:ByteArray) (a1:Int):rn (E k) Tryz.f63 (C k) (a0,a1,())=f k a0 a1:=by kernel_rfl
theorem ctr (k:Nat):Cp 63 (C k):=rc rfl (D k) (by kernel_rfl) Tryz.func63 (by kernel_rfl) rfl fun ⟨a0,a1,_⟩ r h=>(eq k a0 a1).trans h
end jy
namespace g9
def C (k:Nat):Cn:=⟨[.val (.int .i64)],[.str],true,false,fun x=>f k x.1⟩
def D (k:Nat):List Ce:=[q (jy.ctr k)]
def E (k:Nat):dI:=en (D k) [] 0 [] k
theorem eq (k:Nat) (a0:Int):rn (E k) Tryz.f35 (C k) (a0,())=f k a0:=by kernel_rfl
theorem ctr (k:Nat):Cp 35 (C k):=rc rfl (D k) (by kernel_rfl) Tryz.func35 (by kernel_rfl) rfl fun ⟨a0,_⟩ r h=>(eq k a0).trans h
end g9
namespace fp
def C (k:Nat):Cn:=⟨[.val aA,.val .str],[(.int .i64)],true,false,fun x=>f k x.1 x.2.1⟩
def E (k:Nat):dI:=en [] [(2,[1,8,9,10])] 0 [] k
section
variable (k:Nat) (a0:Ty.d aA) (a1:ByteArray)
def K0:Ex→St→Rs:=cJ (E k) (eK (E k) Tryz.f62 (C k) (a0,a1,())) [.blk 0,.code (at_ (bt 2 3) (body Tryz.f62))]
def V0 (n0:Nat):T0:=fun x0 x1 x2 x3=>aq (bn (E k) (at_ (bt 5 5) (body Tryz.f62))) (an 0 [1,8,9,10]) (K0 k a0 a1) n0 (mk 21 0 [(1,.str x0),(8,.sl true aK x1),(9,.int .i64 x2),(10,.int .i64 x3)] [])
theorem s0 (n0:Nat):V0 k a0 a1 (n0+1)=b0 k (V0 k a0 a1 n0):=by kernel_rfl
theorem e0:V0 k a0 a1=l0 k:=aZ rfl (s0 k a0 a1) fun _=>rfl
end
theorem eq (k:Nat) (a0:Ty.d aA) (a1:ByteArray):rn (E k) Tryz.f62 (C k) (a0,a1,())=f k a0 a1:=(show _=t k (V0 k a0 a1 k) a0 a1 by kernel_rfl).trans (by rw [e0];rfl)
theorem ctr (k:Nat):Cp 62 (C k):=rc rfl [] (by kernel_rfl) Tryz.func62 (by kernel_rfl) rfl fun ⟨a0,a1,_⟩ r h=>(eq k a0 a1).trans h
end fp
namespace fS
def C (k:Nat):Cn:=⟨[.val aA,.val .str],[.str,.bool],true,false,fun x=>f k x.1 x.2.1⟩
def D (k:Nat):List Ce:=[q (fp.ctr k),q (dY.ctr k)]
def E (k:Nat):dI:=en (D k) [] 0 [] k
theorem eq (k:Nat) (a0:Ty.d aA) (a1:ByteArray):rn (E k) Tryz.f34 (C k) (a0,a1,())=f k a0 a1:=by kernel_rfl
theorem ctr (k:Nat):Cp 34 (C k):=rc rfl (D k) (by kernel_rfl) Tryz.func34 (by kernel_rfl) rfl fun ⟨a0,a1,_⟩ r h=>(eq k a0 a1).trans h
end fS
namespace cU
def C (k:Nat):Cn:=⟨[.val .str],[(.int .i64),(.int .i64)],true,false,fun x=>f k x.1⟩
def E (k:Nat):dI:=en [] [(3,[0,4,5])] 0 [] k
section
variable (k:Nat) (a0:ByteArray)
def K0:Ex→St→Rs:=cJ (E k) (eK (E k) Tryz.f105 (C k) (a0,())) [.blk 0,.code (at_ (bt 3 7) (body Tryz.f105))]
def V0 (n0:Nat):T0:=fun x0 x1 x2=>aq (bn (E k) (at_ (bt 6 11) (body Tryz.f105))) (an 0 [0,4,5]) (K0 k a0) n0 (mk 39 0 [(0,.str x0),(4,.int .i64 x1),(5,.int .i64 x2)] [])
theorem s0 (n0:Nat):V0 k a0 (n0+1)=b0 k (V0 k a0 n0):=by kernel_rfl
theorem e0:V0 k a0=l0 k:=aZ rfl (s0 k a0) fun _=>rfl
end
theorem eq (k:Nat) (a0:ByteArray):rn (E k) Tryz.f105 (C k) (a0,())=f k a0:=(show _=t k (V0 k a0 k) a0 by kernel_rfl).trans (by rw [e0];rfl)
theorem ctr (k:Nat):Cp 105 (C k):=rc rfl [] (by kernel_rfl) Tryz.func105 (by kernel_rfl) rfl fun ⟨a0,_⟩ r h=>(eq k a0).trans h
end cU
namespace fG
def C (k:Nat):Cn:=⟨[.val (.int .i64)],[.str],true,false,fun x=>f k x.1⟩
def D (k:Nat):List Ce:=[q (b9.ctr k)]
def E (k:Nat):dI:=en (D k) [(4,[0,3])] 0 [] k
section
variable (k:Nat) (a0:Int)
def K0:Ex→St→Rs:=cJ (E k) (eK (E k) Tryz.f162 (C k) (a0,())) [.blk 0,.code (at_ (bt 4 15) (body Tryz.f162))]
def V0 (n0:Nat):T0:=fun x0 x1=>aq (bn (E k) (at_ (bt 6 7) (body Tryz.f162))) (an 0 [0,3]) (K0 k a0) n0 (mk 24 1 [(0,.int .i64 x0),(3,.ref 0)] [(0,.own false (.int .u8) x1)])
theorem s0 (n0:Nat):V0 k a0 (n0+1)=b0 k (V0 k a0 n0):=by kernel_rfl
theorem e0:V0 k a0=l0 k:=aZ rfl (s0 k a0) fun _=>rfl
end
theorem eq (k:Nat) (a0:Int):rn (E k) Tryz.f162 (C k) (a0,())=f k a0:=(show _=t k (V0 k a0 k) a0 by kernel_rfl).trans (by rw [e0];rfl)
theorem ctr (k:Nat):Cp 162 (C k):=rc rfl (D k) (by kernel_rfl) Tryz.func162 (by kernel_rfl) rfl fun ⟨a0,_⟩ r h=>(eq k a0).trans h
end fG
namespace eZ
def C (k:Nat):Cn:=⟨[.val .str],[.str],true,false,fun x=>f k x.1⟩
def D (k:Nat):List Ce:=[q (fG.ctr k)]
def E (k:Nat):dI:=en (D k) [] 0 [] k
theorem eq (k:Nat) (a0:ByteArray):rn (E k) Tryz.f141 (C k) (a0,())=f k a0:=by kernel_rfl
theorem ctr (k:Nat):Cp 141 (C k):=rc rfl (D k) (by kernel_rfl) Tryz.func141 (by kernel_rfl) rfl fun ⟨a0,_⟩ r h=>(eq k a0).trans h
end eZ
namespace gL
def C (k:Nat):Cn:=⟨[.val .str],[(.int .i64)],true,false,fun x=>f k x.1⟩
def E (k:Nat):dI:=en [] [(3,[0,3,4]),(7,[0,3,4,18])] 0 [] k
section
variable (k:Nat) (a0:ByteArray)
def K0:Ex→St→Rs:=cJ (E k) (eK (E k) Tryz.f143 (C k) (a0,())) [.blk 0,.code (at_ (bt 3 7) (body Tryz.f143))]
def B0 (n0:Nat):Ex→St→Rs:=Kt (E k) (at_ (bt 6 11) (body Tryz.f143)) 0 [0,3,4] (K0 k a0) n0
def K1 (n0:Nat):Ex→St→Rs:=cJ (E k) (B0 k a0 n0) [.blk 2,.blk 1,.code (at_ (bt 8 203) (body Tryz.f143))]
def V0 (n0:Nat):T0:=fun x0 x1 x2=>aq (bn (E k) (at_ (bt 6 11) (body Tryz.f143))) (an 0 [0,3,4]) (K0 k a0) n0 (mk 32 0 [(0,.str x0),(3,.int .u32 x1),(4,.int .i64 x2)] [])
def V1 (n0 n1:Nat):T1:=fun x0 x1 x2 x3=>aq (bn (E k) (at_ (bt 13 1611) (body Tryz.f143))) (an 0 [0,3,4,18]) (K1 k a0 n0) n1 (mk 32 0 [(0,.str x0),(3,.int .u32 x1),(4,.int .i64 x2),(18,.int .i64 x3)] [])
theorem s0 (n0:Nat):V0 k a0 (n0+1)=b0 k (V1 k a0 n0 k) (V0 k a0 n0):=by kernel_rfl
theorem s1 (n0 n1:Nat):V1 k a0 n0 (n1+1)=b1 k (V0 k a0 n0) (V1 k a0 n0 n1):=by kernel_rfl
theorem e1 (n0:Nat):V1 k a0 n0=l1 k (V0 k a0 n0):=aZ rfl (s1 k a0 n0) fun _=>rfl
theorem e0 (n0:Nat):V0 k a0 n0=l0 k n0:=by
 induction n0 with
 | zero=>rfl
 | succ n0 ih =>
  have h:V0 k a0 (n0+1)=b0 k (V1 k a0 n0 k) (V0 k a0 n0):=s0 k a0 n0
  rw [h,e1,ih]
  rfl
end
theorem eq (k:Nat) (a0:ByteArray):rn (E k) Tryz.f143 (C k) (a0,())=f k a0:=(show _=t k (V0 k a0 k) a0 by kernel_rfl).trans (by rw [e0];rfl)
theorem ctr (k:Nat):Cp 143 (C k):=rc rfl [] (by kernel_rfl) Tryz.func143 (by kernel_rfl) rfl fun ⟨a0,_⟩ r h=>(eq k a0).trans h
end gL
namespace dk
def C (k:Nat):Cn:=⟨[.val (.int .i64),.val (.int .i64)],[.str],true,false,fun x=>f k x.1 x.2.1⟩
def D (k:Nat):List Ce:=[q (b9.ctr k)]
def E (k:Nat):dI:=en (D k) [(5,[0,5,6])] 0 [] k
section
variable (k:Nat) (a0:Int) (a1:Int)
def K0:Ex→St→Rs:=cJ (E k) (eK (E k) Tryz.f142 (C k) (a0,a1,())) [.blk 0,.code (at_ (bt 4 15) (body Tryz.f142))]
def V0 (n0:Nat):T0:=fun x0 x1 x2=>aq (bn (E k) (at_ (bt 7 23) (body Tryz.f142))) (an 0 [0,5,6]) (K0 k a0 a1) n0 (mk 35 1 [(0,.int .i64 x0),(5,.ref 0),(6,.int .i64 x1)] [(0,.own false (.int .u8) x2)])
theorem s0 (n0:Nat):V0 k a0 a1 (n0+1)=b0 k (V0 k a0 a1 n0):=by kernel_rfl
theorem e0:V0 k a0 a1=l0 k:=aZ rfl (s0 k a0 a1) fun _=>rfl
end
theorem eq (k:Nat) (a0:Int) (a1:Int):rn (E k) Tryz.f142 (C k) (a0,a1,())=f k a0 a1:=(show _=t k (V0 k a0 a1 k) a0 a1 by kernel_rfl).trans (by rw [e0];rfl)
theorem ctr (k:Nat):Cp 142 (C k):=rc rfl (D k) (by kernel_rfl) Tryz.func142 (by kernel_rfl) rfl fun ⟨a0,a1,_⟩ r h=>(eq k a0 a1).trans h
end dk
namespace jv
def C (k:Nat):Cn:=⟨[.val .str],[.str],true,false,fun x=>f k x.1⟩
def D (k:Nat):List Ce:=[q (eZ.ctr k),q (gL.ctr k),q (dk.ctr k)]
def E (k:Nat):dI:=en (D k) [] 0 [] k
theorem eq (k:Nat) (a0:ByteArray):rn (E k) Tryz.f106 (C k) (a0,())=f k a0:=by kernel_rfl
theorem ctr (k:Nat):Cp 106 (C k):=rc rfl (D k) (by kernel_rfl) Tryz.func106 (by kernel_rfl) rfl fun ⟨a0,_⟩ r h=>(eq k a0).trans h
end jv
namespace eH
def C (k:Nat):Cn:=⟨[.val .str],[.str,(.int .i64)],true,false,fun x=>f k x.1⟩
def D (k:Nat):List Ce:=[q (cU.ctr k),q (jv.ctr k)]
def E (k:Nat):dI:=en (D k) [] 0 [] k
theorem eq (k:Nat) (a0:ByteArray):rn (E k) Tryz.f67 (C k) (a0,())=f k a0:=by kernel_rfl
theorem ctr (k:Nat):Cp 67 (C k):=rc rfl (D k) (by kernel_rfl) Tryz.func67 (by kernel_rfl) rfl fun ⟨a0,_⟩ r h=>(eq k a0).trans h
end eH
namespace ax
def C (k:Nat):Cn:=⟨[.io true je],[(.int .i64)],true,false,fun x=>f k x.1⟩
def D (k:Nat):List Ce:=[q (cU.ctr k)]
def E (k:Nat):dI:=en (D k) [] 1 [] k
theorem eq (k:Nat) (a0:Ty.d je):rn (E k) Tryz.f107 (C k) (a0,())=f k a0:=by kernel_rfl
theorem ctr (k:Nat):Cp 107 (C k):=rc rfl (D k) (by kernel_rfl) Tryz.func107 (by kernel_rfl) rfl fun ⟨a0,_⟩ r h=>(eq k a0).trans h
end ax
namespace au
def C (k:Nat):Cn:=⟨[.io true je,.val (.int .i64)],[.str],true,false,fun x=>f k x.1 x.2.1⟩
def E (k:Nat):dI:=en [] [] 1 [] k
theorem eq (k:Nat) (a0:Ty.d je) (a1:Int):rn (E k) Tryz.f110 (C k) (a0,a1,())=f k a0 a1:=by kernel_rfl
theorem ctr (k:Nat):Cp 110 (C k):=rc rfl [] (by kernel_rfl) Tryz.func110 (by kernel_rfl) rfl fun ⟨a0,a1,_⟩ r h=>(eq k a0 a1).trans h
end au
namespace ao
def C (k:Nat):Cn:=⟨[.io true je],[.str],true,false,fun x=>f k x.1⟩
def D (k:Nat):List Ce:=[q (ax.ctr k),q (au.ctr k)]
def E (k:Nat):dI:=en (D k) [] 1 [] k
theorem eq (k:Nat) (a0:Ty.d je):rn (E k) Tryz.f108 (C k) (a0,())=f k a0:=by kernel_rfl
theorem ctr (k:Nat):Cp 108 (C k):=rc rfl (D k) (by kernel_rfl) Tryz.func108 (by kernel_rfl) rfl fun ⟨a0,_⟩ r h=>(eq k a0).trans h
end ao
namespace fb
def C (k:Nat):Cn:=⟨[.val bB],[.bool],true,false,fun x=>f k x.1⟩
def D (k:Nat):List Ce:=[q (gQ.ctr k),q (b9.ctr k)]
def E (k:Nat):dI:=en (D k) [] 0 [] k
theorem eq (k:Nat) (a0:Ty.d bB):rn (E k) Tryz.f111 (C k) (a0,())=f k a0:=by kernel_rfl
theorem ctr (k:Nat):Cp 111 (C k):=rc rfl (D k) (by kernel_rfl) Tryz.func111 (by kernel_rfl) rfl fun ⟨a0,_⟩ r h=>(eq k a0).trans h
end fb
namespace bj
def C (k:Nat):Cn:=⟨[.val .str,.val (.int .i64)],[(.int .i64),.bool],true,false,fun x=>f k x.1 x.2.1⟩
def D (k:Nat):List Ce:=[q (b9.ctr k)]
def E (k:Nat):dI:=en (D k) [(5,[0,6,17,18])] 0 [] k
section
variable (k:Nat) (a0:ByteArray) (a1:Int)
def K0:Ex→St→Rs:=cJ (E k) (eK (E k) Tryz.f109 (C k) (a0,a1,())) [.blk 0,.code (at_ (bt 4 15) (body Tryz.f109))]
def V0 (n0:Nat):T0:=fun x0 x1 x2 x3=>aq (bn (E k) (at_ (bt 7 23) (body Tryz.f109))) (an 0 [0,6,17,18]) (K0 k a0 a1) n0 (mk 30 0 [(0,.str x0),(6,.int .i64 x1),(17,.int .i64 x2),(18,.int .i64 x3)] [])
theorem s0 (n0:Nat):V0 k a0 a1 (n0+1)=b0 k (V0 k a0 a1 n0):=by kernel_rfl
theorem e0:V0 k a0 a1=l0 k:=aZ rfl (s0 k a0 a1) fun _=>rfl
end
theorem eq (k:Nat) (a0:ByteArray) (a1:Int):rn (E k) Tryz.f109 (C k) (a0,a1,())=f k a0 a1:=(show _=t k (V0 k a0 a1 k) a0 a1 by kernel_rfl).trans (by rw [e0];rfl)
theorem ctr (k:Nat):Cp 109 (C k):=rc rfl (D k) (by kernel_rfl) Tryz.func109 (by kernel_rfl) rfl fun ⟨a0,a1,_⟩ r h=>(eq k a0 a1).trans h
end bj
namespace cV
def C (k:Nat):Cn:=⟨[.val .str],[bB,.bool],true,false,fun x=>f k x.1⟩
def D (k:Nat):List Ce:=[q (ax.ctr k),q (ao.ctr k),q (fb.ctr k),q (au.ctr k),q (bj.ctr k)]
def E (k:Nat):dI:=en (D k) [] 0 [] k
theorem eq (k:Nat) (a0:ByteArray):rn (E k) Tryz.f68 (C k) (a0,())=f k a0:=by kernel_rfl
theorem ctr (k:Nat):Cp 68 (C k):=rc rfl (D k) (by kernel_rfl) Tryz.func68 (by kernel_rfl) rfl fun ⟨a0,_⟩ r h=>(eq k a0).trans h
end cV
namespace dN
def C (k:Nat):Cn:=⟨[.val .str],[(.slice cA),(.int .i64)],true,false,fun x=>f k x.1⟩
def D (k:Nat):List Ce:=[q (eH.ctr k),q (cV.ctr k)]
def E (k:Nat):dI:=en (D k) [(3,[0,4,5])] 0 [] k
section
variable (k:Nat) (a0:ByteArray)
def K0:Ex→St→Rs:=cJ (E k) (eK (E k) Tryz.f41 (C k) (a0,())) [.blk 0]
def V0 (n0:Nat):T0:=fun x0 x1 x2=>aq (bn (E k) (at_ (bt 5 7) (body Tryz.f41))) (an 0 [0,4,5]) (K0 k a0) n0 (mk 40 1 [(0,.str x0),(4,.ref 0),(5,.int .i64 x1)] [(0,.own false cA x2)])
theorem s0 (n0:Nat):V0 k a0 (n0+1)=b0 k (V0 k a0 n0):=by kernel_rfl
theorem e0:V0 k a0=l0 k:=aZ rfl (s0 k a0) fun _=>rfl
end
theorem eq (k:Nat) (a0:ByteArray):rn (E k) Tryz.f41 (C k) (a0,())=f k a0:=(show _=t k (V0 k a0 k) a0 by kernel_rfl).trans (by rw [e0];rfl)
theorem ctr (k:Nat):Cp 41 (C k):=rc rfl (D k) (by kernel_rfl) Tryz.func41 (by kernel_rfl) rfl fun ⟨a0,_⟩ r h=>(eq k a0).trans h
end dN
namespace iw
def C (k:Nat):Cn:=⟨[.val .str,.val (.int .i64),.val (.int .i64)],[bB,.bool],true,false,fun x=>f k x.1 x.2.1 x.2.2.1⟩
def D (k:Nat):List Ce:=[q (b9.ctr k),q (eH.ctr k),q (cV.ctr k)]
def E (k:Nat):dI:=en (D k) [] 0 [] k
theorem eq (k:Nat) (a0:ByteArray) (a1:Int) (a2:Int):rn (E k) Tryz.f44 (C k) (a0,a1,a2,())=f k a0 a1 a2:=by kernel_rfl
theorem ctr (k:Nat):Cp 44 (C k):=rc rfl (D k) (by kernel_rfl) Tryz.func44 (by kernel_rfl) rfl fun ⟨a0,a1,a2,_⟩ r h=>(eq k a0 a1 a2).trans h
end iw
namespace cW
def C (k:Nat):Cn:=⟨[.val aE,.val aA],[.bool],true,false,fun x=>f k x.1 x.2.1⟩
def D (k:Nat):List Ce:=[q (dY.ctr k),q (da.ctr k),q (fe.ctr k),q (b9.ctr k),q (g9.ctr k),q (fS.ctr k),q (dN.ctr k),q (iw.ctr k)]
def E (k:Nat):dI:=en (D k) [(4,[2,3,40,41,42]),(12,[2,3,84,85,86])] 0 [] k
section
variable (k:Nat) (a0:Ty.d aE) (a1:Ty.d aA)
def K0:Ex→St→Rs:=cJ (E k) (eK (E k) Tryz.f33 (C k) (a0,a1,())) [.blk 0,.code (at_ (bt 3 7) (body Tryz.f33))]
def K1:Ex→St→Rs:=cJ (E k) (eK (E k) Tryz.f33 (C k) (a0,a1,())) [.blk 2,.code (at_ (bt 4 15) (body Tryz.f33))]
def V0 (n0:Nat):T0:=fun x0 x1 x2 x3 x4 x5 x6 x7 x8 x9 x10 x11 x12=>aq (bn (E k) (at_ (bt 6 11) (body Tryz.f33))) (an 0 [2,3,40,41,42]) (K0 k a0 a1) n0 (mk 141 2 [(2,.ptr 0 0 0),(3,.ptr 1 0 0),(40,.sl true (.int .i64) x0),(41,.int .i64 x1),(42,.int .i64 x2)] [(0,.box [.int .i64 x3,.sl true (.int .i64) x4,.sl true aB x5,.int .i64 x6,.int .i64 x7,.int .i64 x8]),(1,.box [.sl true aK x9,.int .i64 x10,.int .i64 x11,.bool x12])])
def V1 (n1:Nat):T1:=fun x0 x1 x2 x3 x4 x5 x6 x7 x8 x9 x10 x11 x12=>aq (bn (E k) (at_ (bt 7 23) (body Tryz.f33))) (an 0 [2,3,84,85,86]) (K1 k a0 a1) n1 (mk 141 2 [(2,.ptr 0 0 0),(3,.ptr 1 0 0),(84,.sl true aB x0),(85,.int .i64 x1),(86,.int .i64 x2)] [(0,.box [.int .i64 x3,.sl true (.int .i64) x4,.sl true aB x5,.int .i64 x6,.int .i64 x7,.int .i64 x8]),(1,.box [.sl true aK x9,.int .i64 x10,.int .i64 x11,.bool x12])])
theorem s0 (n0:Nat):V0 k a0 a1 (n0+1)=b0 k (V1 k a0 a1 k) (V0 k a0 a1 n0):=by kernel_rfl
theorem s1 (n1:Nat):V1 k a0 a1 (n1+1)=b1 k (V1 k a0 a1 n1):=by kernel_rfl
theorem e1:V1 k a0 a1=l1 k:=aZ rfl (s1 k a0 a1) fun _=>rfl
theorem e0 (n0:Nat):V0 k a0 a1 n0=l0 k n0:=by
 induction n0 with
 | zero=>rfl
 | succ n0 ih =>
  have h:V0 k a0 a1 (n0+1)=b0 k (V1 k a0 a1 k) (V0 k a0 a1 n0):=s0 k a0 a1 n0
  rw [h,e1,ih]
  rfl
end
theorem eq (k:Nat) (a0:Ty.d aE) (a1:Ty.d aA):rn (E k) Tryz.f33 (C k) (a0,a1,())=f k a0 a1:=(show _=t k (V0 k a0 a1 k) a0 a1 by kernel_rfl).trans (by rw [e0];rfl)
theorem ctr (k:Nat):Cp 33 (C k):=rc rfl (D k) (by kernel_rfl) Tryz.func33 (by kernel_rfl) rfl fun ⟨a0,a1,_⟩ r h=>(eq k a0 a1).trans h
end cW
namespace gm
def C (k:Nat):Cn:=⟨[.val aV,.val (.int .i64)],[.str],true,false,fun x=>f k x.1 x.2.1⟩
def E (k:Nat):dI:=en [] [(2,[1,8,9,10])] 0 [] k
section
variable (k:Nat) (a0:Ty.d aV) (a1:Int)
def K0:Ex→St→Rs:=cJ (E k) (eK (E k) Tryz.f36 (C k) (a0,a1,())) [.blk 0,.code (at_ (bt 2 3) (body Tryz.f36))]
def V0 (n0:Nat):T0:=fun x0 x1 x2 x3=>aq (bn (E k) (at_ (bt 5 5) (body Tryz.f36))) (an 0 [1,8,9,10]) (K0 k a0 a1) n0 (mk 21 0 [(1,.int .i64 x0),(8,.sl true bU x1),(9,.int .i64 x2),(10,.int .i64 x3)] [])
theorem s0 (n0:Nat):V0 k a0 a1 (n0+1)=b0 k (V0 k a0 a1 n0):=by kernel_rfl
theorem e0:V0 k a0 a1=l0 k:=aZ rfl (s0 k a0 a1) fun _=>rfl
end
theorem eq (k:Nat) (a0:Ty.d aV) (a1:Int):rn (E k) Tryz.f36 (C k) (a0,a1,())=f k a0 a1:=(show _=t k (V0 k a0 a1 k) a0 a1 by kernel_rfl).trans (by rw [e0];rfl)
theorem ctr (k:Nat):Cp 36 (C k):=rc rfl [] (by kernel_rfl) Tryz.func36 (by kernel_rfl) rfl fun ⟨a0,a1,_⟩ r h=>(eq k a0 a1).trans h
end gm
namespace eC
def C (k:Nat):Cn:=⟨[.val aE,.val aA,.val aV],[g_],true,false,fun x=>f k x.1 x.2.1 x.2.2.1⟩
def D (k:Nat):List Ce:=[q (cW.ctr k),q (g9.ctr k),q (fS.ctr k),q (gm.ctr k),q (iC.ctr k)]
def E (k:Nat):dI:=en (D k) [(5,[4,5,6,7,25,26,27])] 0 [] k
section
variable (k:Nat) (a0:Ty.d aE) (a1:Ty.d aA) (a2:Ty.d aV)
def K0:Ex→St→Rs:=cJ (E k) (eK (E k) Tryz.f9 (C k) (a0,a1,a2,())) [.blk 0,.code (at_ (bt 4 15) (body Tryz.f9))]
def V0 (n0:Nat):T0:=fun x0 x1 x2 x3 x4 x5 x6 x7 x8 x9 x10 x11 x12=>aq (bn (E k) (at_ (bt 7 23) (body Tryz.f9))) (an 0 [4,5,6,7,25,26,27]) (K0 k a0 a1 a2) n0 (mk 63 6 [(4,.ptr 0 0 0),(5,.ptr 1 0 0),(6,.ptr 2 0 0),(7,.ptr 4 0 0),(25,.sl true (.int .i64) x0),(26,.int .i64 x1),(27,.int .i64 x2)] [(0,.box [.sl true aK x3,.int .i64 x4,.int .i64 x5,.bool x6]),(1,.box [.int .i64 x7,.sl true bU x8]),(3,.own false iq x9),(2,.box [.int .i64 x10,.ref 3]),(5,.own false iq x11),(4,.box [.int .i64 x12,.ref 5])])
theorem s0 (n0:Nat):V0 k a0 a1 a2 (n0+1)=b0 k (V0 k a0 a1 a2 n0):=by kernel_rfl
theorem e0:V0 k a0 a1 a2=l0 k:=aZ rfl (s0 k a0 a1 a2) fun _=>rfl
end
theorem eq (k:Nat) (a0:Ty.d aE) (a1:Ty.d aA) (a2:Ty.d aV):rn (E k) Tryz.f9 (C k) (a0,a1,a2,())=f k a0 a1 a2:=(show _=t k (V0 k a0 a1 a2 k) a0 a1 a2 by kernel_rfl).trans (by rw [e0];rfl)
theorem ctr (k:Nat):Cp 9 (C k):=rc rfl (D k) (by kernel_rfl) Tryz.func9 (by kernel_rfl) rfl fun ⟨a0,a1,a2,_⟩ r h=>(eq k a0 a1 a2).trans h
end eC
namespace bA
def C (k:Nat):Cn:=⟨[.val g_],[(.int .i64)],true,false,fun x=>f k x.1⟩
def E (k:Nat):dI:=en [] [(3,[3,7,8,9])] 0 [] k
section
variable (k:Nat) (a0:Ty.d g_)
def K0:Ex→St→Rs:=cJ (E k) (eK (E k) Tryz.f8 (C k) (a0,())) [.blk 0,.code (at_ (bt 3 7) (body Tryz.f8))]
def V0 (n0:Nat):T0:=fun x0 x1 x2 x3=>aq (bn (E k) (at_ (bt 6 11) (body Tryz.f8))) (an 0 [3,7,8,9]) (K0 k a0) n0 (mk 20 0 [(3,.int .i64 x0),(7,.sl true iq x1),(8,.int .i64 x2),(9,.int .i64 x3)] [])
theorem s0 (n0:Nat):V0 k a0 (n0+1)=b0 k (V0 k a0 n0):=by kernel_rfl
theorem e0:V0 k a0=l0 k:=aZ rfl (s0 k a0) fun _=>rfl
end
theorem eq (k:Nat) (a0:Ty.d g_):rn (E k) Tryz.f8 (C k) (a0,())=f k a0:=(show _=t k (V0 k a0 k) a0 by kernel_rfl).trans (by rw [e0];rfl)
theorem ctr (k:Nat):Cp 8 (C k):=rc rfl [] (by kernel_rfl) Tryz.func8 (by kernel_rfl) rfl fun ⟨a0,_⟩ r h=>(eq k a0).trans h
end bA
namespace dh
def C (k:Nat):Cn:=⟨[.val aV,.val (.int .i64)],[.str],true,false,fun x=>f k x.1 x.2.1⟩
def E (k:Nat):dI:=en [] [(2,[1,2,5])] 0 [] k
section
variable (k:Nat) (a0:Ty.d aV) (a1:Int)
def K0:Ex→St→Rs:=cJ (E k) (eK (E k) Tryz.f104 (C k) (a0,a1,())) [.blk 0,.code (at_ (bt 2 3) (body Tryz.f104))]
def V0 (n0:Nat):T0:=fun x0 x1 x2 x3=>aq (bn (E k) (at_ (bt 5 5) (body Tryz.f104))) (an 0 [1,2,5]) (K0 k a0 a1) n0 (mk 27 1 [(1,.int .i64 x0),(2,.ptr 0 0 0),(5,.int .i64 x1)] [(0,.box [.int .i64 x2,.sl true bU x3])])
theorem s0 (n0:Nat):V0 k a0 a1 (n0+1)=b0 k (V0 k a0 a1 n0):=by kernel_rfl
theorem e0:V0 k a0 a1=l0 k:=aZ rfl (s0 k a0 a1) fun _=>rfl
end
theorem eq (k:Nat) (a0:Ty.d aV) (a1:Int):rn (E k) Tryz.f104 (C k) (a0,a1,())=f k a0 a1:=(show _=t k (V0 k a0 a1 k) a0 a1 by kernel_rfl).trans (by rw [e0];rfl)
theorem ctr (k:Nat):Cp 104 (C k):=rc rfl [] (by kernel_rfl) Tryz.func104 (by kernel_rfl) rfl fun ⟨a0,a1,_⟩ r h=>(eq k a0 a1).trans h
end dh
namespace iH
def C (k:Nat):Cn:=⟨[.val aE,.val aA,.val aV],[g_],true,false,fun x=>f k x.1 x.2.1 x.2.2.1⟩
def D (k:Nat):List Ce:=[q (bS.ctr k),q (aU.ctr k),q (bK.ctr k),q (dh.ctr k)]
def E (k:Nat):dI:=en (D k) [(6,[3,4,5,6,7,8])] 0 [] k
section
variable (k:Nat) (a0:Ty.d aE) (a1:Ty.d aA) (a2:Ty.d aV)
def K0:Ex→St→Rs:=cJ (E k) (eK (E k) Tryz.f66 (C k) (a0,a1,a2,())) [.blk 0,.code (at_ (bt 5 31) (body Tryz.f66))]
def V0 (n0:Nat):T0:=fun x0 x1 x2 x3 x4 x5 x6 x7 x8 x9 x10 x11 x12 x13 x14 x15 x16=>aq (bn (E k) (at_ (bt 8 47) (body Tryz.f66))) (an 0 [3,4,5,6,7,8]) (K0 k a0 a1 a2) n0 (mk 75 7 [(3,.ptr 0 0 0),(4,.ptr 1 0 0),(5,.ptr 2 0 0),(6,.ptr 3 0 0),(7,.ptr 5 0 0),(8,.int .i64 x0)] [(0,.box [.int .i64 x1,.sl true (.int .i64) x2,.sl true aB x3,.int .i64 x4,.int .i64 x5,.int .i64 x6]),(1,.box [.sl true aK x7,.int .i64 x8,.int .i64 x9,.bool x10]),(2,.box [.int .i64 x11,.sl true bU x12]),(4,.own false iq x13),(3,.box [.int .i64 x14,.ref 4]),(6,.own false iq x15),(5,.box [.int .i64 x16,.ref 6])])
theorem s0 (n0:Nat):V0 k a0 a1 a2 (n0+1)=b0 k (V0 k a0 a1 a2 n0):=by kernel_rfl
theorem e0:V0 k a0 a1 a2=l0 k:=aZ rfl (s0 k a0 a1 a2) fun _=>rfl
end
theorem eq (k:Nat) (a0:Ty.d aE) (a1:Ty.d aA) (a2:Ty.d aV):rn (E k) Tryz.f66 (C k) (a0,a1,a2,())=f k a0 a1 a2:=(show _=t k (V0 k a0 a1 a2 k) a0 a1 a2 by kernel_rfl).trans (by rw [e0];rfl)
theorem ctr (k:Nat):Cp 66 (C k):=rc rfl (D k) (by kernel_rfl) Tryz.func66 (by kernel_rfl) rfl fun ⟨a0,a1,a2,_⟩ r h=>(eq k a0 a1 a2).trans h
end iH
namespace f_
def C (k:Nat):Cn:=⟨[.val aV,.val g_],[aV,.bool],true,false,fun x=>f k x.1 x.2.1⟩
def D (k:Nat):List Ce:=[q (dh.ctr k),q (aN.ctr k),q (cY.ctr k)]
def E (k:Nat):dI:=en (D k) [(5,[2,3,4,6,7,8,9])] 0 [] k
section
variable (k:Nat) (a0:Ty.d aV) (a1:Ty.d g_)
def K0:Ex→St→Rs:=cJ (E k) (eK (E k) Tryz.f65 (C k) (a0,a1,())) [.blk 0,.code (at_ (bt 5 31) (body Tryz.f65))]
def V0 (n0:Nat):T0:=fun x0 x1 x2 x3 x4 x5 x6 x7 x8 x9 x10 x11=>aq (bn (E k) (at_ (bt 8 47) (body Tryz.f65))) (an 0 [2,3,4,6,7,8,9]) (K0 k a0 a1) n0 (mk 74 9 [(2,.ptr 0 0 0),(3,.ptr 1 0 0),(4,.ptr 2 0 0),(6,.ptr 4 0 0),(7,.ptr 6 0 0),(8,.ref 8),(9,.int .i64 x0)] [(0,.box [.int .i64 x1,.sl true bU x2]),(1,.box [.int .i64 x3,.sl true iq x4]),(3,.own false bU x5),(2,.box [.int .i64 x6,.ref 3]),(5,.own false bU x7),(4,.box [.int .i64 x8,.ref 5]),(7,.own false bU x9),(6,.box [.int .i64 x10,.ref 7]),(8,.own false (.int .i64) x11)])
theorem s0 (n0:Nat):V0 k a0 a1 (n0+1)=b0 k (V0 k a0 a1 n0):=by kernel_rfl
theorem e0:V0 k a0 a1=l0 k:=aZ rfl (s0 k a0 a1) fun _=>rfl
end
theorem eq (k:Nat) (a0:Ty.d aV) (a1:Ty.d g_):rn (E k) Tryz.f65 (C k) (a0,a1,())=f k a0 a1:=(show _=t k (V0 k a0 a1 k) a0 a1 by kernel_rfl).trans (by rw [e0];rfl)
theorem ctr (k:Nat):Cp 65 (C k):=rc rfl (D k) (by kernel_rfl) Tryz.func65 (by kernel_rfl) rfl fun ⟨a0,a1,_⟩ r h=>(eq k a0 a1).trans h
end f_
namespace iv
def C (k:Nat):Cn:=⟨[.io false cT],[aE,aA,aV],false,true,fun x=>f k x.1⟩
def D (k:Nat):List Ce:=[q (gT.ctr k),q (dC.ctr k),q (fX.ctr k),q (aa.ctr k),q (fE.ctr k),q (iH.ctr k),q (f_.ctr k),q (bp.ctr k)]
def E (k:Nat):dI:=en (D k) [] 1 [] k
theorem eq (k:Nat) (a0:Ty.d cT):rn (E k) Tryz.f38 (C k) (a0,())=f k a0:=by kernel_rfl
theorem ctr (k:Nat):Cp 38 (C k):=rc rfl (D k) (by kernel_rfl) Tryz.func38 (by kernel_rfl) rfl fun ⟨a0,_⟩ r h=>(eq k a0).trans h
end iv
namespace j2
def C (k:Nat):Cn:=⟨[.val (.slice (.int .u8))],[aE,aA,aV],false,true,fun x=>f k x.1⟩
def D (k:Nat):List Ce:=[q (fK.ctr k),q (iv.ctr k)]
def E (k:Nat):dI:=en (D k) [] 0 [] k
theorem eq (k:Nat) (a0:List Int):rn (E k) Tryz.f10 (C k) (a0,())=f k a0:=by kernel_rfl
theorem ctr (k:Nat):Cp 10 (C k):=rc rfl (D k) (by kernel_rfl) Tryz.func10 (by kernel_rfl) rfl fun ⟨a0,_⟩ r h=>(eq k a0).trans h
end j2
namespace dj
def C (k:Nat):Cn:=⟨[.val aV,.val g_],[aV,.bool],true,false,fun x=>f k x.1 x.2.1⟩
def D (k:Nat):List Ce:=[q (gm.ctr k),q (b9.ctr k),q (da.ctr k)]
def E (k:Nat):dI:=en (D k) [(5,[2,4,6,7,8,25,26,27])] 0 [] k
section
variable (k:Nat) (a0:Ty.d aV) (a1:Ty.d g_)
def K0:Ex→St→Rs:=cJ (E k) (eK (E k) Tryz.f11 (C k) (a0,a1,())) [.blk 0,.code (at_ (bt 5 31) (body Tryz.f11))]
def V0 (n0:Nat):T0:=fun x0 x1 x2 x3 x4 x5 x6 x7 x8 x9 x10 x11 x12=>aq (bn (E k) (at_ (bt 8 47) (body Tryz.f11))) (an 0 [2,4,6,7,8,25,26,27]) (K0 k a0 a1) n0 (mk 70 9 [(2,.ptr 0 0 0),(4,.ptr 1 0 0),(6,.ptr 3 0 0),(7,.ptr 5 0 0),(8,.ptr 7 0 0),(25,.sl true iq x0),(26,.int .i64 x1),(27,.int .i64 x2)] [(0,.box [.int .i64 x3,.sl true bU x4]),(2,.own false bU x5),(1,.box [.int .i64 x6,.ref 2]),(4,.own false bU x7),(3,.box [.int .i64 x8,.ref 4]),(6,.own false bU x9),(5,.box [.int .i64 x10,.ref 6]),(8,.own false (.int .i64) x11),(7,.box [.int .i64 x12,.ref 8])])
theorem s0 (n0:Nat):V0 k a0 a1 (n0+1)=b0 k (V0 k a0 a1 n0):=by kernel_rfl
theorem e0:V0 k a0 a1=l0 k:=aZ rfl (s0 k a0 a1) fun _=>rfl
end
theorem eq (k:Nat) (a0:Ty.d aV) (a1:Ty.d g_):rn (E k) Tryz.f11 (C k) (a0,a1,())=f k a0 a1:=(show _=t k (V0 k a0 a1 k) a0 a1 by kernel_rfl).trans (by rw [e0];rfl)
theorem ctr (k:Nat):Cp 11 (C k):=rc rfl (D k) (by kernel_rfl) Tryz.func11 (by kernel_rfl) rfl fun ⟨a0,a1,_⟩ r h=>(eq k a0 a1).trans h
end dj
namespace fi
def C (k:Nat):Cn:=⟨[.val (.int .i64),.val (.slice cA)],[(.slice aC)],true,false,fun x=>f k x.1 x.2.1⟩
def E (k:Nat):dI:=en [] [(3,[0,5,8,9,10])] 0 [] k
section
variable (k:Nat) (a0:Int) (a1:List (Ty.d cA))
def K0:Ex→St→Rs:=cJ (E k) (eK (E k) Tryz.f42 (C k) (a0,a1,())) [.blk 0,.code (at_ (bt 3 7) (body Tryz.f42))]
def V0 (n0:Nat):T0:=fun x0 x1 x2 x3 x4=>aq (bn (E k) (at_ (bt 6 11) (body Tryz.f42))) (an 0 [0,5,8,9,10]) (K0 k a0 a1) n0 (mk 27 1 [(0,.int .i64 x0),(5,.ref 0),(8,.sl true cA x1),(9,.int .i64 x2),(10,.int .i64 x3)] [(0,.own false aC x4)])
theorem s0 (n0:Nat):V0 k a0 a1 (n0+1)=b0 k (V0 k a0 a1 n0):=by kernel_rfl
theorem e0:V0 k a0 a1=l0 k:=aZ rfl (s0 k a0 a1) fun _=>rfl
end
theorem eq (k:Nat) (a0:Int) (a1:List (Ty.d cA)):rn (E k) Tryz.f42 (C k) (a0,a1,())=f k a0 a1:=(show _=t k (V0 k a0 a1 k) a0 a1 by kernel_rfl).trans (by rw [e0];rfl)
theorem ctr (k:Nat):Cp 42 (C k):=rc rfl [] (by kernel_rfl) Tryz.func42 (by kernel_rfl) rfl fun ⟨a0,a1,_⟩ r h=>(eq k a0 a1).trans h
end fi
namespace eM
def C (k:Nat):Cn:=⟨[.val (.slice aB)],[(.slice aB)],true,false,fun x=>f k x.1⟩
def E (k:Nat):dI:=en [] [] 0 [] k
theorem eq (k:Nat) (a0:List (Ty.d aB)):rn (E k) Tryz.f69 (C k) (a0,())=f k a0:=by kernel_rfl
theorem ctr (k:Nat):Cp 69 (C k):=rc rfl [] (by kernel_rfl) Tryz.func69 (by kernel_rfl) rfl fun ⟨a0,_⟩ r h=>(eq k a0).trans h
end eM
namespace cr
def C (k:Nat):Cn:=⟨[.val (.slice aC),.val bB],[(.slice aC)],true,false,fun x=>f k x.1 x.2.1⟩
def E (k:Nat):dI:=en [] [(3,[3,5,9,10,11])] 0 [] k
section
variable (k:Nat) (a0:List (Ty.d aC)) (a1:Ty.d bB)
def K0:Ex→St→Rs:=cJ (E k) (eK (E k) Tryz.f70 (C k) (a0,a1,())) [.blk 0,.code (at_ (bt 3 7) (body Tryz.f70))]
def V0 (n0:Nat):T0:=fun x0 x1 x2 x3 x4 x5 x6 x7 x8 x9=>aq (bn (E k) (at_ (bt 6 11) (body Tryz.f70))) (an 0 [3,5,9,10,11]) (K0 k a0 a1) n0 (mk 62 2 [(3,.ptr 0 0 0),(5,.ref 1),(9,.sl true aC x0),(10,.int .i64 x1),(11,.int .i64 x2)] [(0,.box [.int .i64 x3,.int .i64 x4,.str x5,.str x6,.int .i64 x7,.int .i64 x8]),(1,.own false aC x9)])
theorem s0 (n0:Nat):V0 k a0 a1 (n0+1)=b0 k (V0 k a0 a1 n0):=by kernel_rfl
theorem e0:V0 k a0 a1=l0 k:=aZ rfl (s0 k a0 a1) fun _=>rfl
end
theorem eq (k:Nat) (a0:List (Ty.d aC)) (a1:Ty.d bB):rn (E k) Tryz.f70 (C k) (a0,a1,())=f k a0 a1:=(show _=t k (V0 k a0 a1 k) a0 a1 by kernel_rfl).trans (by rw [e0];rfl)
theorem ctr (k:Nat):Cp 70 (C k):=rc rfl [] (by kernel_rfl) Tryz.func70 (by kernel_rfl) rfl fun ⟨a0,a1,_⟩ r h=>(eq k a0 a1).trans h
end cr
namespace jK
def C (k:Nat):Cn:=⟨[.val (.slice (.int .i64))],[.str],true,false,fun x=>f k x.1⟩
def D (k:Nat):List Ce:=[q (fG.ctr k)]
def E (k:Nat):dI:=en (D k) [(3,[3,6,7,8])] 0 [] k
section
variable (k:Nat) (a0:List Int)
def K0:Ex→St→Rs:=cJ (E k) (eK (E k) Tryz.f163 (C k) (a0,())) [.blk 0,.code (at_ (bt 3 7) (body Tryz.f163))]
def V0 (n0:Nat):T0:=fun x0 x1 x2 x3=>aq (bn (E k) (at_ (bt 6 11) (body Tryz.f163))) (an 0 [3,6,7,8]) (K0 k a0) n0 (mk 18 0 [(3,.str x0),(6,.sl true (.int .i64) x1),(7,.int .i64 x2),(8,.int .i64 x3)] [])
theorem s0 (n0:Nat):V0 k a0 (n0+1)=b0 k (V0 k a0 n0):=by kernel_rfl
theorem e0:V0 k a0=l0 k:=aZ rfl (s0 k a0) fun _=>rfl
end
theorem eq (k:Nat) (a0:List Int):rn (E k) Tryz.f163 (C k) (a0,())=f k a0:=(show _=t k (V0 k a0 k) a0 by kernel_rfl).trans (by rw [e0];rfl)
theorem ctr (k:Nat):Cp 163 (C k):=rc rfl (D k) (by kernel_rfl) Tryz.func163 (by kernel_rfl) rfl fun ⟨a0,_⟩ r h=>(eq k a0).trans h
end jK
namespace ii
def C (k:Nat):Cn:=⟨[.val bB],[.str],true,false,fun x=>f k x.1⟩
def D (k:Nat):List Ce:=[q (fb.ctr k),q (jK.ctr k),q (eZ.ctr k),q (fG.ctr k),q (dk.ctr k)]
def E (k:Nat):dI:=en (D k) [] 0 [] k
theorem eq (k:Nat) (a0:Ty.d bB):rn (E k) Tryz.f144 (C k) (a0,())=f k a0:=by kernel_rfl
theorem ctr (k:Nat):Cp 144 (C k):=rc rfl (D k) (by kernel_rfl) Tryz.func144 (by kernel_rfl) rfl fun ⟨a0,_⟩ r h=>(eq k a0).trans h
end ii
namespace iO
def C (k:Nat):Cn:=⟨[.val (.slice bB)],[(.int .i64)],true,false,fun x=>f k x.1⟩
def D (k:Nat):List Ce:=[q (ii.ctr k),q (gL.ctr k)]
def E (k:Nat):dI:=en (D k) [(3,[3,6,7,8])] 0 [] k
section
variable (k:Nat) (a0:List (Ty.d bB))
def K0:Ex→St→Rs:=cJ (E k) (eK (E k) Tryz.f112 (C k) (a0,())) [.blk 0,.code (at_ (bt 3 7) (body Tryz.f112))]
def V0 (n0:Nat):T0:=fun x0 x1 x2 x3=>aq (bn (E k) (at_ (bt 6 11) (body Tryz.f112))) (an 0 [3,6,7,8]) (K0 k a0) n0 (mk 19 0 [(3,.str x0),(6,.sl true bB x1),(7,.int .i64 x2),(8,.int .i64 x3)] [])
theorem s0 (n0:Nat):V0 k a0 (n0+1)=b0 k (V0 k a0 n0):=by kernel_rfl
theorem e0:V0 k a0=l0 k:=aZ rfl (s0 k a0) fun _=>rfl
end
theorem eq (k:Nat) (a0:List (Ty.d bB)):rn (E k) Tryz.f112 (C k) (a0,())=f k a0:=(show _=t k (V0 k a0 k) a0 by kernel_rfl).trans (by rw [e0];rfl)
theorem ctr (k:Nat):Cp 112 (C k):=rc rfl (D k) (by kernel_rfl) Tryz.func112 (by kernel_rfl) rfl fun ⟨a0,_⟩ r h=>(eq k a0).trans h
end iO
namespace gn
def C (k:Nat):Cn:=⟨[.val bB,.val (.slice aC)],[.bool],true,false,fun x=>f k x.1 x.2.1⟩
def D (k:Nat):List Ce:=[q (iO.ctr k)]
def E (k:Nat):dI:=en (D k) [(3,[2,5,8,9,10])] 0 [] k
section
variable (k:Nat) (a0:Ty.d bB) (a1:List (Ty.d aC))
def K0:Ex→St→Rs:=cJ (E k) (eK (E k) Tryz.f71 (C k) (a0,a1,())) [.blk 0,.code (at_ (bt 3 7) (body Tryz.f71))]
def V0 (n0:Nat):T0:=fun x0 x1 x2 x3 x4 x5 x6 x7 x8 x9=>aq (bn (E k) (at_ (bt 6 11) (body Tryz.f71))) (an 0 [2,5,8,9,10]) (K0 k a0 a1) n0 (mk 32 2 [(2,.ptr 0 0 0),(5,.ref 1),(8,.sl true aC x0),(9,.int .i64 x1),(10,.int .i64 x2)] [(0,.box [.int .i64 x3,.int .i64 x4,.str x5,.str x6,.int .i64 x7,.int .i64 x8]),(1,.own false bB x9)])
theorem s0 (n0:Nat):V0 k a0 a1 (n0+1)=b0 k (V0 k a0 a1 n0):=by kernel_rfl
theorem e0:V0 k a0 a1=l0 k:=aZ rfl (s0 k a0 a1) fun _=>rfl
end
theorem eq (k:Nat) (a0:Ty.d bB) (a1:List (Ty.d aC)):rn (E k) Tryz.f71 (C k) (a0,a1,())=f k a0 a1:=(show _=t k (V0 k a0 a1 k) a0 a1 by kernel_rfl).trans (by rw [e0];rfl)
theorem ctr (k:Nat):Cp 71 (C k):=rc rfl (D k) (by kernel_rfl) Tryz.func71 (by kernel_rfl) rfl fun ⟨a0,a1,_⟩ r h=>(eq k a0 a1).trans h
end gn
namespace dE
def C (k:Nat):Cn:=⟨[.val (.slice aB),.val .str],[(.slice aB)],true,false,fun x=>f k x.1 x.2.1⟩
def E (k:Nat):dI:=en [] [(3,[1,5,8,9,10])] 0 [] k
section
variable (k:Nat) (a0:List (Ty.d aB)) (a1:ByteArray)
def K0:Ex→St→Rs:=cJ (E k) (eK (E k) Tryz.f113 (C k) (a0,a1,())) [.blk 0,.code (at_ (bt 3 7) (body Tryz.f113))]
def V0 (n0:Nat):T0:=fun x0 x1 x2 x3 x4=>aq (bn (E k) (at_ (bt 6 11) (body Tryz.f113))) (an 0 [1,5,8,9,10]) (K0 k a0 a1) n0 (mk 24 1 [(1,.str x0),(5,.ref 0),(8,.sl true aB x1),(9,.int .i64 x2),(10,.int .i64 x3)] [(0,.own false aB x4)])
theorem s0 (n0:Nat):V0 k a0 a1 (n0+1)=b0 k (V0 k a0 a1 n0):=by kernel_rfl
theorem e0:V0 k a0 a1=l0 k:=aZ rfl (s0 k a0 a1) fun _=>rfl
end
theorem eq (k:Nat) (a0:List (Ty.d aB)) (a1:ByteArray):rn (E k) Tryz.f113 (C k) (a0,a1,())=f k a0 a1:=(show _=t k (V0 k a0 a1 k) a0 a1 by kernel_rfl).trans (by rw [e0];rfl)
theorem ctr (k:Nat):Cp 113 (C k):=rc rfl [] (by kernel_rfl) Tryz.func113 (by kernel_rfl) rfl fun ⟨a0,a1,_⟩ r h=>(eq k a0 a1).trans h
end dE
namespace eo
def C (k:Nat):Cn:=⟨[.val (.slice aB),.val aB],[(.slice aB)],true,false,fun x=>f k x.1 x.2.1⟩
def D (k:Nat):List Ce:=[q (dE.ctr k),q (eM.ctr k)]
def E (k:Nat):dI:=en (D k) [(3,[3,5,6])] 0 [] k
section
variable (k:Nat) (a0:List (Ty.d aB)) (a1:Ty.d aB)
def K0:Ex→St→Rs:=cJ (E k) (eK (E k) Tryz.f114 (C k) (a0,a1,())) [.blk 0,.code (at_ (bt 4 15) (body Tryz.f114))]
def V0 (n0:Nat):T0:=fun x0 x1 x2 x3 x4 x5 x6=>aq (bn (E k) (at_ (bt 6 7) (body Tryz.f114))) (an 0 [3,5,6]) (K0 k a0 a1) n0 (mk 38 2 [(3,.ptr 0 0 0),(5,.ref 1),(6,.int .i64 x0)] [(0,.box [.str x1,.int .i64 x2,.int .i64 x3,.int .i64 x4,.int .i64 x5]),(1,.own false aB x6)])
theorem s0 (n0:Nat):V0 k a0 a1 (n0+1)=b0 k (V0 k a0 a1 n0):=by kernel_rfl
theorem e0:V0 k a0 a1=l0 k:=aZ rfl (s0 k a0 a1) fun _=>rfl
end
theorem eq (k:Nat) (a0:List (Ty.d aB)) (a1:Ty.d aB):rn (E k) Tryz.f114 (C k) (a0,a1,())=f k a0 a1:=(show _=t k (V0 k a0 a1 k) a0 a1 by kernel_rfl).trans (by rw [e0];rfl)
theorem ctr (k:Nat):Cp 114 (C k):=rc rfl (D k) (by kernel_rfl) Tryz.func114 (by kernel_rfl) rfl fun ⟨a0,a1,_⟩ r h=>(eq k a0 a1).trans h
end eo
namespace c9
def C (k:Nat):Cn:=⟨[.io true fw,.val (.slice aC)],[],true,false,fun x=>f k x.1 x.2.1⟩
def D (k:Nat):List Ce:=[q (dE.ctr k),q (eo.ctr k)]
def E (k:Nat):dI:=en (D k) [(1,[0,6,7,8])] 1 [] k
section
variable (k:Nat) (a0:Ty.d fw) (a1:List (Ty.d aC))
def K0:Ex→St→Rs:=cJ (E k) (eK (E k) Tryz.f72 (C k) (a0,a1,())) [.blk 0,.code (at_ (bt 1 1) (body Tryz.f72))]
def V0 (n0:Nat):T0:=fun x0 x1 x2 x3 x4 x5=>aq (bn (E k) (at_ (bt 4 2) (body Tryz.f72))) (an 1 [0,6,7,8]) (K0 k a0 a1) n0 (mk 58 2 [(0,.ptr 0 0 0),(6,.sl true aC x0),(7,.int .i64 x1),(8,.int .i64 x2)] [(1,.own false aB x3),(0,.box [.ref 1,.int .i64 x4,.int .i64 x5])])
theorem s0 (n0:Nat):V0 k a0 a1 (n0+1)=b0 k (V0 k a0 a1 n0):=by kernel_rfl
theorem e0:V0 k a0 a1=l0 k:=aZ rfl (s0 k a0 a1) fun _=>rfl
end
theorem eq (k:Nat) (a0:Ty.d fw) (a1:List (Ty.d aC)):rn (E k) Tryz.f72 (C k) (a0,a1,())=f k a0 a1:=(show _=t k (V0 k a0 a1 k) a0 a1 by kernel_rfl).trans (by rw [e0];rfl)
theorem ctr (k:Nat):Cp 72 (C k):=rc rfl (D k) (by kernel_rfl) Tryz.func72 (by kernel_rfl) rfl fun ⟨a0,a1,_⟩ r h=>(eq k a0 a1).trans h
end c9
namespace ez
def C (k:Nat):Cn:=⟨[.val fw,.val (.slice aC)],[fw],true,false,fun x=>f k x.1 x.2.1⟩
def D (k:Nat):List Ce:=[q (eM.ctr k),q (cr.ctr k),q (gn.ctr k),q (c9.ctr k)]
def E (k:Nat):dI:=en (D k) [(3,[1,4,5,17,18,19])] 0 [] k
section
variable (k:Nat) (a0:Ty.d fw) (a1:List (Ty.d aC))
def K0:Ex→St→Rs:=cJ (E k) (eK (E k) Tryz.f43 (C k) (a0,a1,())) [.blk 0,.code (at_ (bt 3 7) (body Tryz.f43))]
def V0 (n0:Nat):T0:=fun x0 x1 x2 x3 x4 x5 x6 x7 x8 x9=>aq (bn (E k) (at_ (bt 6 11) (body Tryz.f43))) (an 0 [1,4,5,17,18,19]) (K0 k a0 a1) n0 (mk 77 4 [(1,.sl true aC x0),(4,.ptr 0 0 0),(5,.ptr 2 0 0),(17,.sl true aC x1),(18,.int .i64 x2),(19,.int .i64 x3)] [(1,.own false aB x4),(0,.box [.ref 1,.int .i64 x5,.int .i64 x6]),(3,.own false aB x7),(2,.box [.ref 3,.int .i64 x8,.int .i64 x9])])
theorem s0 (n0:Nat):V0 k a0 a1 (n0+1)=b0 k (V0 k a0 a1 n0):=by kernel_rfl
theorem e0:V0 k a0 a1=l0 k:=aZ rfl (s0 k a0 a1) fun _=>rfl
end
theorem eq (k:Nat) (a0:Ty.d fw) (a1:List (Ty.d aC)):rn (E k) Tryz.f43 (C k) (a0,a1,())=f k a0 a1:=(show _=t k (V0 k a0 a1 k) a0 a1 by kernel_rfl).trans (by rw [e0];rfl)
theorem ctr (k:Nat):Cp 43 (C k):=rc rfl (D k) (by kernel_rfl) Tryz.func43 (by kernel_rfl) rfl fun ⟨a0,a1,_⟩ r h=>(eq k a0 a1).trans h
end ez
namespace bd
def C (k:Nat):Cn:=⟨[.val aV],[(.slice aK),.bool],true,false,fun x=>f k x.1⟩
def D (k:Nat):List Ce:=[q (dN.ctr k),q (fi.ctr k),q (ez.ctr k),q (gm.ctr k),q (iw.ctr k)]
def E (k:Nat):dI:=en (D k) [(3,[1,4,16,17,18]),(15,[1,10,47,48,49])] 0 [] k
section
variable (k:Nat) (a0:Ty.d aV)
def K0:Ex→St→Rs:=cJ (E k) (eK (E k) Tryz.f12 (C k) (a0,())) [.blk 0,.code (at_ (bt 3 7) (body Tryz.f12))]
def K1:Ex→St→Rs:=cJ (E k) (eK (E k) Tryz.f12 (C k) (a0,())) [.blk 2,.code (at_ (bt 7 127) (body Tryz.f12))]
def V0 (n0:Nat):T0:=fun x0 x1 x2 x3 x4 x5=>aq (bn (E k) (at_ (bt 6 11) (body Tryz.f12))) (an 0 [1,4,16,17,18]) (K0 k a0) n0 (mk 79 2 [(1,.ptr 0 0 0),(4,.ref 1),(16,.sl true bU x0),(17,.int .i64 x1),(18,.int .i64 x2)] [(0,.box [.int .i64 x3,.sl true bU x4]),(1,.own false aC x5)])
def V1 (n1:Nat):T1:=fun x0 x1 x2 x3 x4 x5=>aq (bn (E k) (at_ (bt 10 191) (body Tryz.f12))) (an 0 [1,10,47,48,49]) (K1 k a0) n1 (mk 79 3 [(1,.ptr 0 0 0),(10,.ref 1),(47,.ref 2),(48,.int .i64 x0),(49,.int .i64 x1)] [(0,.box [.int .i64 x2,.sl true bU x3]),(1,.own false aK x4),(2,.own false aB x5)])
theorem s0 (n0:Nat):V0 k a0 (n0+1)=b0 k (V1 k a0 k) (V0 k a0 n0):=by kernel_rfl
theorem s1 (n1:Nat):V1 k a0 (n1+1)=b1 k (V1 k a0 n1):=by kernel_rfl
theorem e1:V1 k a0=l1 k:=aZ rfl (s1 k a0) fun _=>rfl
theorem e0 (n0:Nat):V0 k a0 n0=l0 k n0:=by
 induction n0 with
 | zero=>rfl
 | succ n0 ih =>
  have h:V0 k a0 (n0+1)=b0 k (V1 k a0 k) (V0 k a0 n0):=s0 k a0 n0
  rw [h,e1,ih]
  rfl
end
theorem eq (k:Nat) (a0:Ty.d aV):rn (E k) Tryz.f12 (C k) (a0,())=f k a0:=(show _=t k (V0 k a0 k) a0 by kernel_rfl).trans (by rw [e0];rfl)
theorem ctr (k:Nat):Cp 12 (C k):=rc rfl (D k) (by kernel_rfl) Tryz.func12 (by kernel_rfl) rfl fun ⟨a0,_⟩ r h=>(eq k a0).trans h
end bd
namespace dF
def C (k:Nat):Cn:=⟨[.val (.slice aK),.val (.slice aK)],[.bool],true,false,fun x=>f k x.1 x.2.1⟩
def E (k:Nat):dI:=en [] [(4,[0,1,5])] 0 [] k
section
variable (k:Nat) (a0:List (Ty.d aK)) (a1:List (Ty.d aK))
def K0:Ex→St→Rs:=cJ (E k) (eK (E k) Tryz.f14 (C k) (a0,a1,())) [.blk 0,.code (at_ (bt 3 7) (body Tryz.f14))]
def V0 (n0:Nat):T0:=fun x0 x1 x2=>aq (bn (E k) (at_ (bt 6 11) (body Tryz.f14))) (an 0 [0,1,5]) (K0 k a0 a1) n0 (mk 26 0 [(0,.sl true aK x0),(1,.sl true aK x1),(5,.int .i64 x2)] [])
theorem s0 (n0:Nat):V0 k a0 a1 (n0+1)=b0 k (V0 k a0 a1 n0):=by kernel_rfl
theorem e0:V0 k a0 a1=l0 k:=aZ rfl (s0 k a0 a1) fun _=>rfl
end
theorem eq (k:Nat) (a0:List (Ty.d aK)) (a1:List (Ty.d aK)):rn (E k) Tryz.f14 (C k) (a0,a1,())=f k a0 a1:=(show _=t k (V0 k a0 a1 k) a0 a1 by kernel_rfl).trans (by rw [e0];rfl)
theorem ctr (k:Nat):Cp 14 (C k):=rc rfl [] (by kernel_rfl) Tryz.func14 (by kernel_rfl) rfl fun ⟨a0,a1,_⟩ r h=>(eq k a0 a1).trans h
end dF
namespace cI
def C (k:Nat):Cn:=⟨[.val aV,.val aV],[.bool],true,false,fun x=>f k x.1 x.2.1⟩
def E (k:Nat):dI:=en [] [(4,[2,3,5])] 0 [] k
section
variable (k:Nat) (a0:Ty.d aV) (a1:Ty.d aV)
def K0:Ex→St→Rs:=cJ (E k) (eK (E k) Tryz.f15 (C k) (a0,a1,())) [.blk 0,.code (at_ (bt 3 7) (body Tryz.f15))]
def V0 (n0:Nat):T0:=fun x0 x1 x2 x3 x4=>aq (bn (E k) (at_ (bt 6 11) (body Tryz.f15))) (an 0 [2,3,5]) (K0 k a0 a1) n0 (mk 38 2 [(2,.ptr 0 0 0),(3,.ptr 1 0 0),(5,.int .i64 x0)] [(0,.box [.int .i64 x1,.sl true bU x2]),(1,.box [.int .i64 x3,.sl true bU x4])])
theorem s0 (n0:Nat):V0 k a0 a1 (n0+1)=b0 k (V0 k a0 a1 n0):=by kernel_rfl
theorem e0:V0 k a0 a1=l0 k:=aZ rfl (s0 k a0 a1) fun _=>rfl
end
theorem eq (k:Nat) (a0:Ty.d aV) (a1:Ty.d aV):rn (E k) Tryz.f15 (C k) (a0,a1,())=f k a0 a1:=(show _=t k (V0 k a0 a1 k) a0 a1 by kernel_rfl).trans (by rw [e0];rfl)
theorem ctr (k:Nat):Cp 15 (C k):=rc rfl [] (by kernel_rfl) Tryz.func15 (by kernel_rfl) rfl fun ⟨a0,a1,_⟩ r h=>(eq k a0 a1).trans h
end cI
namespace fW
def C (k:Nat):Cn:=⟨[.val (.slice (.int .u8))],[.bool],true,false,fun x=>f k x.1⟩
def D (k:Nat):List Ce:=[q (oZ.ctr k),q (iB.ctr k),q (kz.ctr k),q (eC.ctr k),q (bA.ctr k),q (bS.ctr k),q (j2.ctr k),q (dj.ctr k),q (bd.ctr k),q (gB.ctr k),q (dF.ctr k),q (cI.ctr k)]
def E (k:Nat):dI:=en (D k) [] 0 [] k
theorem eq (k:Nat) (a0:List Int):rn (E k) Tryz.f3 (C k) (a0,())=f k a0:=by kernel_rfl
theorem ctr (k:Nat):Cp 3 (C k):=rc rfl (D k) (by kernel_rfl) Tryz.func3 (by kernel_rfl) rfl fun ⟨a0,_⟩ r h=>(eq k a0).trans h
end fW
end
end Go.Proofs.YthjppgafienaoabGreatDoor.G

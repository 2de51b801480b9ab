/- Functions keep their contracts. -/
import Derived.Test.YtohaanhjddohmaaGreatDoorVTab
import Derived.Test.YtohaanhjddohmaaGreatDoorFM
import Derived.Test.YtohaanhjddohmaaGreatDoorCLib
set_option linter.unusedVariables false
set_option maxRecDepth 100000
namespace Go.Proofs.YtohaanhjddohmaaGreatDoor.G
open Go.V
noncomputable section
namespace oN
def C (k:Nat):Cn:=⟨[.val (.slice (.int .u8))],[.bool],true,false,fun x=>f k x.1⟩
def E (k:Nat):cE:=en [] [] 0 [] k
theorem eq (k:Nat) (a0:List Int):rn (E k) Tryz.f5 (C k) (a0,())=f k a0:=by kernel_rfl
theorem ctr (k:Nat):Cp 5 (C k):=rc rfl [] (by kernel_rfl) Tryz.func5 (by kernel_rfl) rfl fun ⟨a0,_⟩ r h=>(eq k a0).trans h
end oN
namespace fu
def C (k:Nat):Cn:=⟨[.val (.slice (.int .u8))],[.opq,b8],false,true,fun x=>f k x.1⟩
def E (k:Nat):cE:=en [] [(3,[0,3,4])] 0 [] k
section
variable (k:Nat) (a0:List Int)
def K0:Ex→St→Rs:=cC (E k) (eB (E k) Tryz.f18 (C k) (a0,())) [.blk 0,.code (at_ (bt 3 7) (body Tryz.f18))]
def V0 (n0:Nat):T0:=fun x0 x1 x2=>am (bX (E k) (at_ (bt 6 11) (body Tryz.f18))) (ak 0 [0,3,4]) (K0 k a0) n0 (mk 32 0 [(0,.sl true (.int .u8) x0),(3,.int .i64 x1),(4,.int .i64 x2)] [])
theorem s0 (n0:Nat):V0 k a0 (n0+1)=b0 k (V0 k a0 n0):=by kernel_rfl
theorem e0:V0 k a0=l0 k:=aS rfl (s0 k a0) fun _=>rfl
end
theorem eq (k:Nat) (a0:List Int):rb (E k) Tryz.f18 (C k) (a0,())=f k a0:=(show _=t k (V0 k a0 k) a0 by kernel_rfl).trans (by rw [e0];rfl)
theorem ctr (k:Nat):Cp 18 (C k):=KM rfl rfl rfl [] (by kernel_rfl) Tryz.func18 (by kernel_rfl) rfl fun ⟨a0,_⟩ r h=>(eq k a0).trans h
end fu
namespace eX
def C (k:Nat):Cn:=⟨[.io false b8],[(.int .i64)],true,true,fun x=>f k x.1⟩
def E (k:Nat):cE:=en [] [] 1 [] k
theorem eq (k:Nat) (a0:Ty.den b8):rn (E k) Tryz.f117 (C k) (a0,())=f k a0:=by kernel_rfl
theorem ctr (k:Nat):Cp 117 (C k):=rc rfl [] (by kernel_rfl) Tryz.func117 (by kernel_rfl) rfl fun ⟨a0,_⟩ r h=>(eq k a0).trans h
end eX
namespace aW
def C (k:Nat):Cn:=⟨[.io false b8,.val (.int .i64)],[(.int .i64)],true,true,fun x=>f k x.1 x.2.1⟩
def D (k:Nat):List Ce:=[q (eX.ctr k)]
def E (k:Nat):cE:=en (D k) [] 1 [] k
theorem eq (k:Nat) (a0:Ty.den b8) (a1:Int):rn (E k) Tryz.f53 (C k) (a0,a1,())=f k a0 a1:=by kernel_rfl
theorem ctr (k:Nat):Cp 53 (C k):=rc rfl (D k) (by kernel_rfl) Tryz.func53 (by kernel_rfl) rfl fun ⟨a0,a1,_⟩ r h=>(eq k a0 a1).trans h
end aW
namespace cO
def C (k:Nat):Cn:=⟨[.io false b8,.val (.slice (.int .i64))],[(.int .i64)],true,true,fun x=>f k x.1 x.2.1⟩
def D (k:Nat):List Ce:=[q (aW.ctr k)]
def E (k:Nat):cE:=en (D k) [] 1 [] k
theorem eq (k:Nat) (a0:Ty.den b8) (a1:List Int):rn (E k) Tryz.f55 (C k) (a0,a1,())=f k a0 a1:=by kernel_rfl
theorem ctr (k:Nat):Cp 55 (C k):=rc rfl (D k) (by kernel_rfl) Tryz.func55 (by kernel_rfl) rfl fun ⟨a0,a1,_⟩ r h=>(eq k a0 a1).trans h
end cO
namespace aR
def C (k:Nat):Cn:=⟨[.val (.int .i64),.val (.int .i64),.val (.int .i64)],[.bool],true,false,fun x=>f k x.1 x.2.1 x.2.2.1⟩
def E (k:Nat):cE:=en [] [] 0 [] k
theorem eq (k:Nat) (a0:Int) (a1:Int) (a2:Int):rn (E k) Tryz.f49 (C k) (a0,a1,a2,())=f k a0 a1 a2:=by kernel_rfl
theorem ctr (k:Nat):Cp 49 (C k):=rc rfl [] (by kernel_rfl) Tryz.func49 (by kernel_rfl) rfl fun ⟨a0,a1,a2,_⟩ r h=>(eq k a0 a1 a2).trans h
end aR
namespace er
def C (k:Nat):Cn:=⟨[.val (.int .i64)],[a_],true,false,fun x=>f k x.1⟩
def D (k:Nat):List Ce:=[q (aR.ctr k)]
def E (k:Nat):cE:=en (D k) [] 0 [] k
theorem eq (k:Nat) (a0:Int):rn (E k) Tryz.f84 (C k) (a0,())=f k a0:=by kernel_rfl
theorem ctr (k:Nat):Cp 84 (C k):=rc rfl (D k) (by kernel_rfl) Tryz.func84 (by kernel_rfl) rfl fun ⟨a0,_⟩ r h=>(eq k a0).trans h
end er
namespace dP
def C (k:Nat):Cn:=⟨[.val a_],[(.int .i64)],true,false,fun x=>f k x.1⟩
def E (k:Nat):cE:=en [] [(3,[1,3,4])] 0 [] k
section
variable (k:Nat) (a0:Ty.den a_)
def K0:Ex→St→Rs:=cC (E k) (eK (E k) Tryz.f50 (C k) (a0,())) [.blk 0,.code (at_ (bt 3 7) (body Tryz.f50))]
def V0 (n0:Nat):T0:=fun x0 x1 x2 x3 x4 x5=>am (bX (E k) (at_ (bt 6 11) (body Tryz.f50))) (ak 0 [1,3,4]) (K0 k a0) n0 (mk 22 1 [(1,.ptr 0 0 0),(3,.int .i64 x0),(4,.int .i64 x1)] [(0,.box [.sl true aF x2,.int .i64 x3,.int .i64 x4,.bool x5])])
theorem s0 (n0:Nat):V0 k a0 (n0+1)=b0 k (V0 k a0 n0):=by kernel_rfl
theorem e0:V0 k a0=l0 k:=aS rfl (s0 k a0) fun _=>rfl
end
theorem eq (k:Nat) (a0:Ty.den a_):rn (E k) Tryz.f50 (C k) (a0,())=f k a0:=(show _=t k (V0 k a0 k) a0 by kernel_rfl).trans (by rw [e0];rfl)
theorem ctr (k:Nat):Cp 50 (C k):=rc rfl [] (by kernel_rfl) Tryz.func50 (by kernel_rfl) rfl fun ⟨a0,_⟩ r h=>(eq k a0).trans h
end dP
namespace dq
def C (k:Nat):Cn:=⟨[.val .str],[.bool],true,false,fun x=>f k x.1⟩
def D (k:Nat):List Ce:=[q (aR.ctr k)]
def E (k:Nat):cE:=en (D k) [(2,[0,3])] 0 [] k
section
variable (k:Nat) (a0:ByteArray)
def K0:Ex→St→Rs:=cC (E k) (eK (E k) Tryz.f51 (C k) (a0,())) [.blk 0,.code (at_ (bt 2 3) (body Tryz.f51))]
def V0 (n0:Nat):T0:=fun x0 x1=>am (bX (E k) (at_ (bt 5 5) (body Tryz.f51))) (ak 0 [0,3]) (K0 k a0) n0 (mk 36 0 [(0,.str x0),(3,.int .i64 x1)] [])
theorem s0 (n0:Nat):V0 k a0 (n0+1)=b0 k (V0 k a0 n0):=by kernel_rfl
theorem e0:V0 k a0=l0 k:=aS rfl (s0 k a0) fun _=>rfl
end
theorem eq (k:Nat) (a0:ByteArray):rn (E k) Tryz.f51 (C k) (a0,())=f k a0:=(show _=t k (V0 k a0 k) a0 by kernel_rfl).trans (by rw [e0];rfl)
theorem ctr (k:Nat):Cp 51 (C k):=rc rfl (D k) (by kernel_rfl) Tryz.func51 (by kernel_rfl) rfl fun ⟨a0,_⟩ r h=>(eq k a0).trans h
end dq
namespace bd
def C (k:Nat):Cn:=⟨[.val a_],[.bool],true,false,fun x=>f k x.1⟩
def D (k:Nat):List Ce:=[q (aR.ctr k),q (dP.ctr k),q (dq.ctr k)]
def E (k:Nat):cE:=en (D k) [(4,[1,3])] 0 [] k
section
variable (k:Nat) (a0:Ty.den a_)
def K0:Ex→St→Rs:=cC (E k) (eK (E k) Tryz.f17 (C k) (a0,())) [.blk 0,.code (at_ (bt 3 7) (body Tryz.f17))]
def V0 (n0:Nat):T0:=fun x0 x1 x2 x3 x4=>am (bX (E k) (at_ (bt 6 11) (body Tryz.f17))) (ak 0 [1,3]) (K0 k a0) n0 (mk 79 1 [(1,.ptr 0 0 0),(3,.int .i64 x0)] [(0,.box [.sl true aF x1,.int .i64 x2,.int .i64 x3,.bool x4])])
theorem s0 (n0:Nat):V0 k a0 (n0+1)=b0 k (V0 k a0 n0):=by kernel_rfl
theorem e0:V0 k a0=l0 k:=aS rfl (s0 k a0) fun _=>rfl
end
theorem eq (k:Nat) (a0:Ty.den a_):rn (E k) Tryz.f17 (C k) (a0,())=f k a0:=(show _=t k (V0 k a0 k) a0 by kernel_rfl).trans (by rw [e0];rfl)
theorem ctr (k:Nat):Cp 17 (C k):=rc rfl (D k) (by kernel_rfl) Tryz.func17 (by kernel_rfl) rfl fun ⟨a0,_⟩ r h=>(eq k a0).trans h
end bd
namespace cL
def C (k:Nat):Cn:=⟨[.val a_],[a_],true,false,fun x=>f k x.1⟩
def E (k:Nat):cE:=en [] [] 0 [] k
theorem eq (k:Nat) (a0:Ty.den a_):rn (E k) Tryz.f171 (C k) (a0,())=f k a0:=by kernel_rfl
theorem ctr (k:Nat):Cp 171 (C k):=rc rfl [] (by kernel_rfl) Tryz.func171 (by kernel_rfl) rfl fun ⟨a0,_⟩ r h=>(eq k a0).trans h
end cL
namespace bA
def C (k:Nat):Cn:=⟨[.val a_,.val .str],[(.int .i64)],true,false,fun x=>f k x.1 x.2.1⟩
def E (k:Nat):cE:=en [] [(2,[1,2,5])] 0 [] k
section
variable (k:Nat) (a0:Ty.den a_) (a1:ByteArray)
def K0:Ex→St→Rs:=cC (E k) (eK (E k) Tryz.f42 (C k) (a0,a1,())) [.blk 0,.code (at_ (bt 2 3) (body Tryz.f42))]
def V0 (n0:Nat):T0:=fun x0 x1 x2 x3 x4 x5=>am (bX (E k) (at_ (bt 5 5) (body Tryz.f42))) (ak 0 [1,2,5]) (K0 k a0 a1) n0 (mk 22 1 [(1,.str x0),(2,.ptr 0 0 0),(5,.int .i64 x1)] [(0,.box [.sl true aF x2,.int .i64 x3,.int .i64 x4,.bool x5])])
theorem s0 (n0:Nat):V0 k a0 a1 (n0+1)=b0 k (V0 k a0 a1 n0):=by kernel_rfl
theorem e0:V0 k a0 a1=l0 k:=aS rfl (s0 k a0 a1) fun _=>rfl
end
theorem eq (k:Nat) (a0:Ty.den a_) (a1:ByteArray):rn (E k) Tryz.f42 (C k) (a0,a1,())=f k a0 a1:=(show _=t k (V0 k a0 a1 k) a0 a1 by kernel_rfl).trans (by rw [e0];rfl)
theorem ctr (k:Nat):Cp 42 (C k):=rc rfl [] (by kernel_rfl) Tryz.func42 (by kernel_rfl) rfl fun ⟨a0,a1,_⟩ r h=>(eq k a0 a1).trans h
end bA
namespace bF
def C (k:Nat):Cn:=⟨[.val a_,.val .str],[.str,.bool],true,false,fun x=>f k x.1 x.2.1⟩
def D (k:Nat):List Ce:=[q (bd.ctr k),q (bA.ctr k)]
def E (k:Nat):cE:=en (D k) [] 0 [] k
theorem eq (k:Nat) (a0:Ty.den a_) (a1:ByteArray):rn (E k) Tryz.f15 (C k) (a0,a1,())=f k a0 a1:=by kernel_rfl
theorem ctr (k:Nat):Cp 15 (C k):=rc rfl (D k) (by kernel_rfl) Tryz.func15 (by kernel_rfl) rfl fun ⟨a0,a1,_⟩ r h=>(eq k a0 a1).trans h
end bF
namespace dO
def C (k:Nat):Cn:=⟨[.val (.int .i64)],[.str],true,false,fun x=>f k x.1⟩
def E (k:Nat):cE:=en [] [(5,[0,3,4])] 0 [] k
section
variable (k:Nat) (a0:Int)
def K0:Ex→St→Rs:=cC (E k) (eK (E k) Tryz.f73 (C k) (a0,())) [.blk 0,.code (at_ (bt 5 31) (body Tryz.f73))]
def V0 (n0:Nat):T0:=fun x0 x1 x2=>am (bX (E k) (at_ (bt 7 15) (body Tryz.f73))) (ak 0 [0,3,4]) (K0 k a0) n0 (mk 31 0 [(0,.int .i64 x0),(3,.str x1),(4,.bool x2)] [])
theorem s0 (n0:Nat):V0 k a0 (n0+1)=b0 k (V0 k a0 n0):=by kernel_rfl
theorem e0:V0 k a0=l0 k:=aS rfl (s0 k a0) fun _=>rfl
end
theorem eq (k:Nat) (a0:Int):rn (E k) Tryz.f73 (C k) (a0,())=f k a0:=(show _=t k (V0 k a0 k) a0 by kernel_rfl).trans (by rw [e0];rfl)
theorem ctr (k:Nat):Cp 73 (C k):=rc rfl [] (by kernel_rfl) Tryz.func73 (by kernel_rfl) rfl fun ⟨a0,_⟩ r h=>(eq k a0).trans h
end dO
namespace eO
def C (k:Nat):Cn:=⟨[.val .str],[(.int .i64),.bool],true,false,fun x=>f k x.1⟩
def D (k:Nat):List Ce:=[q (dO.ctr k)]
def E (k:Nat):cE:=en (D k) [(4,[0,4,5,6])] 0 [] k
section
variable (k:Nat) (a0:ByteArray)
def K0:Ex→St→Rs:=cC (E k) (eK (E k) Tryz.f167 (C k) (a0,())) [.blk 0,.code (at_ (bt 4 15) (body Tryz.f167))]
def V0 (n0:Nat):T0:=fun x0 x1 x2 x3=>am (bX (E k) (at_ (bt 7 23) (body Tryz.f167))) (ak 0 [0,4,5,6]) (K0 k a0) n0 (mk 61 0 [(0,.str x0),(4,.int .i64 x1),(5,.int .i64 x2),(6,.int .i64 x3)] [])
theorem s0 (n0:Nat):V0 k a0 (n0+1)=b0 k (V0 k a0 n0):=by kernel_rfl
theorem e0:V0 k a0=l0 k:=aS rfl (s0 k a0) fun _=>rfl
end
theorem eq (k:Nat) (a0:ByteArray):rn (E k) Tryz.f167 (C k) (a0,())=f k a0:=(show _=t k (V0 k a0 k) a0 by kernel_rfl).trans (by rw [e0];rfl)
theorem ctr (k:Nat):Cp 167 (C k):=rc rfl (D k) (by kernel_rfl) Tryz.func167 (by kernel_rfl) rfl fun ⟨a0,_⟩ r h=>(eq k a0).trans h
end eO
namespace aQ
def C (k:Nat):Cn:=⟨[.val (.int .i64)],[.str],true,false,fun x=>f k x.1⟩
def D (k:Nat):List Ce:=[q (aR.ctr k),q (dO.ctr k)]
def E (k:Nat):cE:=en (D k) [] 0 [] k
theorem eq (k:Nat) (a0:Int):rn (E k) Tryz.f26 (C k) (a0,())=f k a0:=by kernel_rfl
theorem ctr (k:Nat):Cp 26 (C k):=rc rfl (D k) (by kernel_rfl) Tryz.func26 (by kernel_rfl) rfl fun ⟨a0,_⟩ r h=>(eq k a0).trans h
end aQ
namespace cZ
def C (k:Nat):Cn:=⟨[.val (.int .i64)],[.str],true,false,fun x=>f k x.1⟩
def D (k:Nat):List Ce:=[q (aR.ctr k),q (dO.ctr k)]
def E (k:Nat):cE:=en (D k) [] 0 [] k
theorem eq (k:Nat) (a0:Int):rn (E k) Tryz.f94 (C k) (a0,())=f k a0:=by kernel_rfl
theorem ctr (k:Nat):Cp 94 (C k):=rc rfl (D k) (by kernel_rfl) Tryz.func94 (by kernel_rfl) rfl fun ⟨a0,_⟩ r h=>(eq k a0).trans h
end cZ
namespace gl
def C (k:Nat):Cn:=⟨[.val .str],[(.int .i64),.bool],true,false,fun x=>f k x.1⟩
def D (k:Nat):List Ce:=[q (eO.ctr k),q (aQ.ctr k),q (cZ.ctr k)]
def E (k:Nat):cE:=en (D k) [(2,[0,4])] 0 [] k
section
variable (k:Nat) (a0:ByteArray)
def K0:Ex→St→Rs:=cC (E k) (eK (E k) Tryz.f109 (C k) (a0,())) [.blk 0,.code (at_ (bt 2 3) (body Tryz.f109))]
def V0 (n0:Nat):T0:=fun x0 x1=>am (bX (E k) (at_ (bt 5 5) (body Tryz.f109))) (ak 0 [0,4]) (K0 k a0) n0 (mk 40 0 [(0,.str x0),(4,.int .i64 x1)] [])
theorem s0 (n0:Nat):V0 k a0 (n0+1)=b0 k (V0 k a0 n0):=by kernel_rfl
theorem e0:V0 k a0=l0 k:=aS rfl (s0 k a0) fun _=>rfl
end
theorem eq (k:Nat) (a0:ByteArray):rn (E k) Tryz.f109 (C k) (a0,())=f k a0:=(show _=t k (V0 k a0 k) a0 by kernel_rfl).trans (by rw [e0];rfl)
theorem ctr (k:Nat):Cp 109 (C k):=rc rfl (D k) (by kernel_rfl) Tryz.func109 (by kernel_rfl) rfl fun ⟨a0,_⟩ r h=>(eq k a0).trans h
end gl
namespace bK
def C (k:Nat):Cn:=⟨[.val a_,.val bE],[(.slice .str)],true,false,fun x=>f k x.1 x.2.1⟩
def D (k:Nat):List Ce:=[q (bd.ctr k),q (gl.ctr k)]
def E (k:Nat):cE:=en (D k) [(5,[2,3,5,6]),(10,[2,3,5,6,7,8,9,10])] 0 [] k
section
variable (k:Nat) (a0:Ty.den a_) (a1:Ty.den bE)
def K0:Ex→St→Rs:=cC (E k) (eK (E k) Tryz.f44 (C k) (a0,a1,())) [.blk 0,.code (at_ (bt 4 15) (body Tryz.f44))]
def B0 (n0:Nat):Ex→St→Rs:=Js (E k) (at_ (bt 7 23) (body Tryz.f44)) 0 [2,3,5,6] (K0 k a0 a1) n0
def K1 (n0:Nat):Ex→St→Rs:=cC (E k) (B0 k a0 a1 n0) [.blk 2,.code (at_ (bt 13 7319) (body Tryz.f44)),.blk 1,.code (at_ (bt 9 407) (body Tryz.f44))]
def V0 (n0:Nat):T0:=fun x0 x1 x2 x3 x4 x5 x6 x7=>am (bX (E k) (at_ (bt 7 23) (body Tryz.f44))) (ak 0 [2,3,5,6]) (K0 k a0 a1) n0 (mk 74 3 [(2,.ptr 0 0 0),(3,.ptr 1 0 0),(5,.ref 2),(6,.int .i64 x0)] [(0,.box [.sl true aF x1,.int .i64 x2,.int .i64 x3,.bool x4]),(1,.box [.int .i64 x5,.sl true (.int .i64) x6]),(2,.own false .str x7)])
def V1 (n0 n1:Nat):T1:=fun x0 x1 x2 x3 x4 x5 x6 x7 x8 x9 x10 x11=>am (bX (E k) (at_ (bt 16 11415) (body Tryz.f44))) (ak 0 [2,3,5,6,7,8,9,10]) (K1 k a0 a1 n0) n1 (mk 74 3 [(2,.ptr 0 0 0),(3,.ptr 1 0 0),(5,.ref 2),(6,.int .i64 x0),(7,.int .i64 x1),(8,.bool x2),(9,.bool x3),(10,.int .i64 x4)] [(0,.box [.sl true aF x5,.int .i64 x6,.int .i64 x7,.bool x8]),(1,.box [.int .i64 x9,.sl true (.int .i64) x10]),(2,.own false .str x11)])
theorem s0 (n0:Nat):V0 k a0 a1 (n0+1)=b0 k (V1 k a0 a1 n0 k) (V0 k a0 a1 n0):=by kernel_rfl
theorem s1 (n0 n1:Nat):V1 k a0 a1 n0 (n1+1)=b1 k (V0 k a0 a1 n0) (V1 k a0 a1 n0 n1):=by kernel_rfl
theorem e1 (n0:Nat):V1 k a0 a1 n0=l1 k (V0 k a0 a1 n0):=aS rfl (s1 k a0 a1 n0) fun _=>rfl
theorem e0 (n0:Nat):V0 k a0 a1 n0=l0 k n0:=by
 induction n0 with
 | zero=>rfl
 | succ n0 ih =>
  have h:V0 k a0 a1 (n0+1)=b0 k (V1 k a0 a1 n0 k) (V0 k a0 a1 n0):=s0 k a0 a1 n0
  rw [h,e1,ih]
  rfl
end
theorem eq (k:Nat) (a0:Ty.den a_) (a1:Ty.den bE):rn (E k) Tryz.f44 (C k) (a0,a1,())=f k a0 a1:=(show _=t k (V0 k a0 a1 k) a0 a1 by kernel_rfl).trans (by rw [e0];rfl)
theorem ctr (k:Nat):Cp 44 (C k):=rc rfl (D k) (by kernel_rfl) Tryz.func44 (by kernel_rfl) rfl fun ⟨a0,a1,_⟩ r h=>(eq k a0 a1).trans h
end bK
namespace cm
def C (k:Nat):Cn:=⟨[.val a_],[a_,(.int .i64)],true,false,fun x=>f k x.1⟩
def D (k:Nat):List Ce:=[q (cL.ctr k),q (bd.ctr k)]
def E (k:Nat):cE:=en (D k) [] 0 [] k
theorem eq (k:Nat) (a0:Ty.den a_):rn (E k) Tryz.f158 (C k) (a0,())=f k a0:=by kernel_rfl
theorem ctr (k:Nat):Cp 158 (C k):=rc rfl (D k) (by kernel_rfl) Tryz.func158 (by kernel_rfl) rfl fun ⟨a0,_⟩ r h=>(eq k a0).trans h
end cm
namespace eV
def C (k:Nat):Cn:=⟨[.val (.slice aF),.val (.int .i64)],[(.slice aF)],true,false,fun x=>f k x.1 x.2.1⟩
def E (k:Nat):cE:=en [] [] 0 [] k
theorem eq (k:Nat) (a0:List (Ty.den aF)) (a1:Int):rn (E k) Tryz.f96 (C k) (a0,a1,())=f k a0 a1:=by kernel_rfl
theorem ctr (k:Nat):Cp 96 (C k):=rc rfl [] (by kernel_rfl) Tryz.func96 (by kernel_rfl) rfl fun ⟨a0,a1,_⟩ r h=>(eq k a0 a1).trans h
end eV
namespace g_
def C (k:Nat):Cn:=⟨[.val a_,.val .str],[a_,(.int .i64)],true,false,fun x=>f k x.1 x.2.1⟩
def D (k:Nat):List Ce:=[q (cm.ctr k),q (bA.ctr k),q (eV.ctr k)]
def E (k:Nat):cE:=en (D k) [] 0 [] k
theorem eq (k:Nat) (a0:Ty.den a_) (a1:ByteArray):rn (E k) Tryz.f210 (C k) (a0,a1,())=f k a0 a1:=by kernel_rfl
theorem ctr (k:Nat):Cp 210 (C k):=rc rfl (D k) (by kernel_rfl) Tryz.func210 (by kernel_rfl) rfl fun ⟨a0,a1,_⟩ r h=>(eq k a0 a1).trans h
end g_
namespace aU
def C (k:Nat):Cn:=⟨[.val (.int .i64)],[(.int .i64)],true,false,fun x=>f k x.1⟩
def E (k:Nat):cE:=en [] [] 0 [] k
theorem eq (k:Nat) (a0:Int):rn (E k) Tryz.f174 (C k) (a0,())=f k a0:=by kernel_rfl
theorem ctr (k:Nat):Cp 174 (C k):=rc rfl [] (by kernel_rfl) Tryz.func174 (by kernel_rfl) rfl fun ⟨a0,_⟩ r h=>(eq k a0).trans h
end aU
namespace cy
def C (k:Nat):Cn:=⟨[.val (.slice aF),.val aF],[(.slice aF)],true,false,fun x=>f k x.1 x.2.1⟩
def E (k:Nat):cE:=en [] [(4,[0,3,5,6,7])] 0 [] k
section
variable (k:Nat) (a0:List (Ty.den aF)) (a1:Ty.den aF)
def K0:Ex→St→Rs:=cC (E k) (eK (E k) Tryz.f91 (C k) (a0,a1,())) [.blk 0,.code (at_ (bt 4 15) (body Tryz.f91))]
def V0 (n0:Nat):T0:=fun x0 x1 x2 x3 x4 x5 x6=>am (bX (E k) (at_ (bt 7 23) (body Tryz.f91))) (ak 0 [0,3,5,6,7]) (K0 k a0 a1) n0 (mk 45 2 [(0,.sl true aF x0),(3,.ptr 0 0 0),(5,.ref 1),(6,.bool x1),(7,.int .i64 x2)] [(0,.box [.str x3,.str x4,.int .i64 x5]),(1,.own false aF x6)])
theorem s0 (n0:Nat):V0 k a0 a1 (n0+1)=b0 k (V0 k a0 a1 n0):=by kernel_rfl
theorem e0:V0 k a0 a1=l0 k:=aS rfl (s0 k a0 a1) fun _=>rfl
end
theorem eq (k:Nat) (a0:List (Ty.den aF)) (a1:Ty.den aF):rn (E k) Tryz.f91 (C k) (a0,a1,())=f k a0 a1:=(show _=t k (V0 k a0 a1 k) a0 a1 by kernel_rfl).trans (by rw [e0];rfl)
theorem ctr (k:Nat):Cp 91 (C k):=rc rfl [] (by kernel_rfl) Tryz.func91 (by kernel_rfl) rfl fun ⟨a0,a1,_⟩ r h=>(eq k a0 a1).trans h
end cy
namespace eY
def C (k:Nat):Cn:=⟨[.val a_,.val .str],[a_,(.int .i64)],true,false,fun x=>f k x.1 x.2.1⟩
def D (k:Nat):List Ce:=[q (cm.ctr k),q (dq.ctr k),q (bA.ctr k),q (cy.ctr k)]
def E (k:Nat):cE:=en (D k) [] 0 [] k
theorem eq (k:Nat) (a0:Ty.den a_) (a1:ByteArray):rn (E k) Tryz.f97 (C k) (a0,a1,())=f k a0 a1:=by kernel_rfl
theorem ctr (k:Nat):Cp 97 (C k):=rc rfl (D k) (by kernel_rfl) Tryz.func97 (by kernel_rfl) rfl fun ⟨a0,a1,_⟩ r h=>(eq k a0 a1).trans h
end eY
namespace dC
def C (k:Nat):Cn:=⟨[.val bE],[.bool],true,false,fun x=>f k x.1⟩
def D (k:Nat):List Ce:=[q (aR.ctr k)]
def E (k:Nat):cE:=en (D k) [(4,[1,3])] 0 [] k
section
variable (k:Nat) (a0:Ty.den bE)
def K0:Ex→St→Rs:=cC (E k) (eK (E k) Tryz.f157 (C k) (a0,())) [.blk 0,.code (at_ (bt 3 7) (body Tryz.f157))]
def V0 (n0:Nat):T0:=fun x0 x1 x2=>am (bX (E k) (at_ (bt 6 11) (body Tryz.f157))) (ak 0 [1,3]) (K0 k a0) n0 (mk 50 1 [(1,.ptr 0 0 0),(3,.int .i64 x0)] [(0,.box [.int .i64 x1,.sl true (.int .i64) x2])])
theorem s0 (n0:Nat):V0 k a0 (n0+1)=b0 k (V0 k a0 n0):=by kernel_rfl
theorem e0:V0 k a0=l0 k:=aS rfl (s0 k a0) fun _=>rfl
end
theorem eq (k:Nat) (a0:Ty.den bE):rn (E k) Tryz.f157 (C k) (a0,())=f k a0:=(show _=t k (V0 k a0 k) a0 by kernel_rfl).trans (by rw [e0];rfl)
theorem ctr (k:Nat):Cp 157 (C k):=rc rfl (D k) (by kernel_rfl) Tryz.func157 (by kernel_rfl) rfl fun ⟨a0,_⟩ r h=>(eq k a0).trans h
end dC
namespace bP
def C (k:Nat):Cn:=⟨[.val (.int .i64)],[.str],true,false,fun x=>f k x.1⟩
def D (k:Nat):List Ce:=[q (aR.ctr k)]
def E (k:Nat):cE:=en (D k) [(4,[0,3])] 0 [] k
section
variable (k:Nat) (a0:Int)
def K0:Ex→St→Rs:=cC (E k) (eK (E k) Tryz.f151 (C k) (a0,())) [.blk 0,.code (at_ (bt 4 15) (body Tryz.f151))]
def V0 (n0:Nat):T0:=fun x0 x1=>am (bX (E k) (at_ (bt 6 7) (body Tryz.f151))) (ak 0 [0,3]) (K0 k a0) n0 (mk 25 1 [(0,.int .i64 x0),(3,.ref 0)] [(0,.own false (.int .u8) x1)])
theorem s0 (n0:Nat):V0 k a0 (n0+1)=b0 k (V0 k a0 n0):=by kernel_rfl
theorem e0:V0 k a0=l0 k:=aS rfl (s0 k a0) fun _=>rfl
end
theorem eq (k:Nat) (a0:Int):rn (E k) Tryz.f151 (C k) (a0,())=f k a0:=(show _=t k (V0 k a0 k) a0 by kernel_rfl).trans (by rw [e0];rfl)
theorem ctr (k:Nat):Cp 151 (C k):=rc rfl (D k) (by kernel_rfl) Tryz.func151 (by kernel_rfl) rfl fun ⟨a0,_⟩ r h=>(eq k a0).trans h
end bP
namespace fg
def C (k:Nat):Cn:=⟨[.val .str],[(.int .i64)],true,false,fun x=>f k x.1⟩
def E (k:Nat):cE:=en [] [(3,[0,3,4]),(7,[0,3,4,5])] 0 [] k
section
variable (k:Nat) (a0:ByteArray)
def K0:Ex→St→Rs:=cC (E k) (eK (E k) Tryz.f153 (C k) (a0,())) [.blk 0,.code (at_ (bt 3 7) (body Tryz.f153))]
def B0 (n0:Nat):Ex→St→Rs:=Js (E k) (at_ (bt 6 11) (body Tryz.f153)) 0 [0,3,4] (K0 k a0) n0
def K1 (n0:Nat):Ex→St→Rs:=cC (E k) (B0 k a0 n0) [.blk 2,.blk 1,.code (at_ (bt 8 203) (body Tryz.f153))]
def V0 (n0:Nat):T0:=fun x0 x1 x2=>am (bX (E k) (at_ (bt 6 11) (body Tryz.f153))) (ak 0 [0,3,4]) (K0 k a0) n0 (mk 33 0 [(0,.str x0),(3,.int .i64 x1),(4,.int .i64 x2)] [])
def V1 (n0 n1:Nat):T1:=fun x0 x1 x2 x3=>am (bX (E k) (at_ (bt 13 1611) (body Tryz.f153))) (ak 0 [0,3,4,5]) (K1 k a0 n0) n1 (mk 33 0 [(0,.str x0),(3,.int .i64 x1),(4,.int .i64 x2),(5,.int .i64 x3)] [])
theorem s0 (n0:Nat):V0 k a0 (n0+1)=b0 k (V1 k a0 n0 k) (V0 k a0 n0):=by kernel_rfl
theorem s1 (n0 n1:Nat):V1 k a0 n0 (n1+1)=b1 k (V0 k a0 n0) (V1 k a0 n0 n1):=by kernel_rfl
theorem e1 (n0:Nat):V1 k a0 n0=l1 k (V0 k a0 n0):=aS rfl (s1 k a0 n0) fun _=>rfl
theorem e0 (n0:Nat):V0 k a0 n0=l0 k n0:=by
 induction n0 with
 | zero=>rfl
 | succ n0 ih =>
  have h:V0 k a0 (n0+1)=b0 k (V1 k a0 n0 k) (V0 k a0 n0):=s0 k a0 n0
  rw [h,e1,ih]
  rfl
end
theorem eq (k:Nat) (a0:ByteArray):rn (E k) Tryz.f153 (C k) (a0,())=f k a0:=(show _=t k (V0 k a0 k) a0 by kernel_rfl).trans (by rw [e0];rfl)
theorem ctr (k:Nat):Cp 153 (C k):=rc rfl [] (by kernel_rfl) Tryz.func153 (by kernel_rfl) rfl fun ⟨a0,_⟩ r h=>(eq k a0).trans h
end fg
namespace dI
def C (k:Nat):Cn:=⟨[.val (.int .i64),.val (.int .i64)],[.str],true,false,fun x=>f k x.1 x.2.1⟩
def D (k:Nat):List Ce:=[q (aR.ctr k)]
def E (k:Nat):cE:=en (D k) [(5,[0,1,5,6])] 0 [] k
section
variable (k:Nat) (a0:Int) (a1:Int)
def K0:Ex→St→Rs:=cC (E k) (eK (E k) Tryz.f152 (C k) (a0,a1,())) [.blk 0,.code (at_ (bt 4 15) (body Tryz.f152))]
def V0 (n0:Nat):T0:=fun x0 x1 x2 x3=>am (bX (E k) (at_ (bt 7 23) (body Tryz.f152))) (ak 0 [0,1,5,6]) (K0 k a0 a1) n0 (mk 31 0 [(0,.int .i64 x0),(1,.int .i64 x1),(5,.str x2),(6,.int .i64 x3)] [])
theorem s0 (n0:Nat):V0 k a0 a1 (n0+1)=b0 k (V0 k a0 a1 n0):=by kernel_rfl
theorem e0:V0 k a0 a1=l0 k:=aS rfl (s0 k a0 a1) fun _=>rfl
end
theorem eq (k:Nat) (a0:Int) (a1:Int):rn (E k) Tryz.f152 (C k) (a0,a1,())=f k a0 a1:=(show _=t k (V0 k a0 a1 k) a0 a1 by kernel_rfl).trans (by rw [e0];rfl)
theorem ctr (k:Nat):Cp 152 (C k):=rc rfl (D k) (by kernel_rfl) Tryz.func152 (by kernel_rfl) rfl fun ⟨a0,a1,_⟩ r h=>(eq k a0 a1).trans h
end dI
namespace fG
def C (k:Nat):Cn:=⟨[.val .str],[.str],true,false,fun x=>f k x.1⟩
def D (k:Nat):List Ce:=[q (bP.ctr k),q (fg.ctr k),q (dI.ctr k)]
def E (k:Nat):cE:=en (D k) [] 0 [] k
theorem eq (k:Nat) (a0:ByteArray):rn (E k) Tryz.f88 (C k) (a0,())=f k a0:=by kernel_rfl
theorem ctr (k:Nat):Cp 88 (C k):=rc rfl (D k) (by kernel_rfl) Tryz.func88 (by kernel_rfl) rfl fun ⟨a0,_⟩ r h=>(eq k a0).trans h
end fG
namespace cr
def C (k:Nat):Cn:=⟨[.val bE],[.str],true,false,fun x=>f k x.1⟩
def D (k:Nat):List Ce:=[q (dC.ctr k),q (bP.ctr k),q (fG.ctr k)]
def E (k:Nat):cE:=en (D k) [(5,[1,3,4])] 0 [] k
section
variable (k:Nat) (a0:Ty.den bE)
def K0:Ex→St→Rs:=cC (E k) (eK (E k) Tryz.f95 (C k) (a0,())) [.blk 0,.code (at_ (bt 4 15) (body Tryz.f95))]
def V0 (n0:Nat):T0:=fun x0 x1 x2 x3=>am (bX (E k) (at_ (bt 7 23) (body Tryz.f95))) (ak 0 [1,3,4]) (K0 k a0) n0 (mk 33 1 [(1,.ptr 0 0 0),(3,.str x0),(4,.int .i64 x1)] [(0,.box [.int .i64 x2,.sl true (.int .i64) x3])])
theorem s0 (n0:Nat):V0 k a0 (n0+1)=b0 k (V0 k a0 n0):=by kernel_rfl
theorem e0:V0 k a0=l0 k:=aS rfl (s0 k a0) fun _=>rfl
end
theorem eq (k:Nat) (a0:Ty.den bE):rn (E k) Tryz.f95 (C k) (a0,())=f k a0:=(show _=t k (V0 k a0 k) a0 by kernel_rfl).trans (by rw [e0];rfl)
theorem ctr (k:Nat):Cp 95 (C k):=rc rfl (D k) (by kernel_rfl) Tryz.func95 (by kernel_rfl) rfl fun ⟨a0,_⟩ r h=>(eq k a0).trans h
end cr
namespace da
def C (k:Nat):Cn:=⟨[.val a_,.val .str],[a_,(.int .i64)],true,false,fun x=>f k x.1 x.2.1⟩
def D (k:Nat):List Ce:=[q (bA.ctr k),q (g_.ctr k),q (eY.ctr k)]
def E (k:Nat):cE:=en (D k) [] 0 [] k
theorem eq (k:Nat) (a0:Ty.den a_) (a1:ByteArray):rn (E k) Tryz.f213 (C k) (a0,a1,())=f k a0 a1:=by kernel_rfl
theorem ctr (k:Nat):Cp 213 (C k):=rc rfl (D k) (by kernel_rfl) Tryz.func213 (by kernel_rfl) rfl fun ⟨a0,a1,_⟩ r h=>(eq k a0 a1).trans h
end da
namespace cA
def C (k:Nat):Cn:=⟨[.val a_,.val .str,.val .str],[a_,(.int .i64)],true,false,fun x=>f k x.1 x.2.1 x.2.2.1⟩
def D (k:Nat):List Ce:=[q (cm.ctr k),q (bA.ctr k),q (dP.ctr k)]
def E (k:Nat):cE:=en (D k) [] 0 [] k
theorem eq (k:Nat) (a0:Ty.den a_) (a1:ByteArray) (a2:ByteArray):rn (E k) Tryz.f187 (C k) (a0,a1,a2,())=f k a0 a1 a2:=by kernel_rfl
theorem ctr (k:Nat):Cp 187 (C k):=rc rfl (D k) (by kernel_rfl) Tryz.func187 (by kernel_rfl) rfl fun ⟨a0,a1,a2,_⟩ r h=>(eq k a0 a1 a2).trans h
end cA
namespace cg
def C (k:Nat):Cn:=⟨[.val a_,.val .str],[a_,(.int .i64)],true,false,fun x=>f k x.1 x.2.1⟩
def D (k:Nat):List Ce:=[q (cm.ctr k),q (bA.ctr k)]
def E (k:Nat):cE:=en (D k) [] 0 [] k
theorem eq (k:Nat) (a0:Ty.den a_) (a1:ByteArray):rn (E k) Tryz.f175 (C k) (a0,a1,())=f k a0 a1:=by kernel_rfl
theorem ctr (k:Nat):Cp 175 (C k):=rc rfl (D k) (by kernel_rfl) Tryz.func175 (by kernel_rfl) rfl fun ⟨a0,a1,_⟩ r h=>(eq k a0 a1).trans h
end cg
namespace gZ
def C (k:Nat):Cn:=⟨[.val a_,.val .str,.val .str],[a_,(.int .i64)],true,false,fun x=>f k x.1 x.2.1 x.2.2.1⟩
def D (k:Nat):List Ce:=[q (da.ctr k),q (cA.ctr k),q (cg.ctr k)]
def E (k:Nat):cE:=en (D k) [] 0 [] k
theorem eq (k:Nat) (a0:Ty.den a_) (a1:ByteArray) (a2:ByteArray):rn (E k) Tryz.f214 (C k) (a0,a1,a2,())=f k a0 a1 a2:=by kernel_rfl
theorem ctr (k:Nat):Cp 214 (C k):=rc rfl (D k) (by kernel_rfl) Tryz.func214 (by kernel_rfl) rfl fun ⟨a0,a1,a2,_⟩ r h=>(eq k a0 a1 a2).trans h
end gZ
namespace fJ
def C (k:Nat):Cn:=⟨[.val a_,.val .str,.val .str],[a_,(.int .i64)],true,false,fun x=>f k x.1 x.2.1 x.2.2.1⟩
def D (k:Nat):List Ce:=[q (cm.ctr k),q (dq.ctr k),q (bA.ctr k),q (eV.ctr k),q (cy.ctr k)]
def E (k:Nat):cE:=en (D k) [] 0 [] k
theorem eq (k:Nat) (a0:Ty.den a_) (a1:ByteArray) (a2:ByteArray):rn (E k) Tryz.f188 (C k) (a0,a1,a2,())=f k a0 a1 a2:=by kernel_rfl
theorem ctr (k:Nat):Cp 188 (C k):=rc rfl (D k) (by kernel_rfl) Tryz.func188 (by kernel_rfl) rfl fun ⟨a0,a1,a2,_⟩ r h=>(eq k a0 a1 a2).trans h
end fJ
namespace eQ
def C (k:Nat):Cn:=⟨[.val a_,.val bE],[a_,(.int .i64)],true,false,fun x=>f k x.1 x.2.1⟩
def D (k:Nat):List Ce:=[q (bd.ctr k),q (cL.ctr k),q (dC.ctr k),q (cr.ctr k),q (gZ.ctr k),q (fJ.ctr k),q (aU.ctr k)]
def E (k:Nat):cE:=en (D k) [] 0 [] k
theorem eq (k:Nat) (a0:Ty.den a_) (a1:Ty.den bE):rn (E k) Tryz.f205 (C k) (a0,a1,())=f k a0 a1:=by kernel_rfl
theorem ctr (k:Nat):Cp 205 (C k):=rc rfl (D k) (by kernel_rfl) Tryz.func205 (by kernel_rfl) rfl fun ⟨a0,a1,_⟩ r h=>(eq k a0 a1).trans h
end eQ
namespace ab
def C (k:Nat):Cn:=⟨[.val .str],[(.int .i64),(.int .i64)],true,false,fun x=>f k x.1⟩
def D (k:Nat):List Ce:=[q (bP.ctr k)]
def E (k:Nat):cE:=en (D k) [(2,[0,4]),(6,[0,4,5,6])] 0 [] k
section
variable (k:Nat) (a0:ByteArray)
def K0:Ex→St→Rs:=cC (E k) (eK (E k) Tryz.f108 (C k) (a0,())) [.blk 0,.code (at_ (bt 2 3) (body Tryz.f108))]
def B0 (n0:Nat):Ex→St→Rs:=Js (E k) (at_ (bt 5 5) (body Tryz.f108)) 0 [0,4] (K0 k a0) n0
def K1 (n0:Nat):Ex→St→Rs:=cC (E k) (B0 k a0 n0) [.blk 2,.code (at_ (bt 10 805) (body Tryz.f108)),.blk 1,.code (at_ (bt 7 101) (body Tryz.f108))]
def V0 (n0:Nat):T0:=fun x0 x1=>am (bX (E k) (at_ (bt 5 5) (body Tryz.f108))) (ak 0 [0,4]) (K0 k a0) n0 (mk 39 0 [(0,.str x0),(4,.int .i64 x1)] [])
def V1 (n0 n1:Nat):T1:=fun x0 x1 x2 x3=>am (bX (E k) (at_ (bt 13 1317) (body Tryz.f108))) (ak 0 [0,4,5,6]) (K1 k a0 n0) n1 (mk 39 0 [(0,.str x0),(4,.int .i64 x1),(5,.int .i64 x2),(6,.int .i64 x3)] [])
theorem s0 (n0:Nat):V0 k a0 (n0+1)=b0 k (V1 k a0 n0 k) (V0 k a0 n0):=by kernel_rfl
theorem s1 (n0 n1:Nat):V1 k a0 n0 (n1+1)=b1 k (V0 k a0 n0) (V1 k a0 n0 n1):=by kernel_rfl
theorem e1 (n0:Nat):V1 k a0 n0=l1 k (V0 k a0 n0):=aS rfl (s1 k a0 n0) fun _=>rfl
theorem e0 (n0:Nat):V0 k a0 n0=l0 k n0:=by
 induction n0 with
 | zero=>rfl
 | succ n0 ih =>
  have h:V0 k a0 (n0+1)=b0 k (V1 k a0 n0 k) (V0 k a0 n0):=s0 k a0 n0
  rw [h,e1,ih]
  rfl
end
theorem eq (k:Nat) (a0:ByteArray):rn (E k) Tryz.f108 (C k) (a0,())=f k a0:=(show _=t k (V0 k a0 k) a0 by kernel_rfl).trans (by rw [e0];rfl)
theorem ctr (k:Nat):Cp 108 (C k):=rc rfl (D k) (by kernel_rfl) Tryz.func108 (by kernel_rfl) rfl fun ⟨a0,_⟩ r h=>(eq k a0).trans h
end ab
namespace dT
def C (k:Nat):Cn:=⟨[.val .str],[.str,(.int .i64)],true,false,fun x=>f k x.1⟩
def D (k:Nat):List Ce:=[q (ab.ctr k),q (fG.ctr k)]
def E (k:Nat):cE:=en (D k) [] 0 [] k
theorem eq (k:Nat) (a0:ByteArray):rn (E k) Tryz.f107 (C k) (a0,())=f k a0:=by kernel_rfl
theorem ctr (k:Nat):Cp 107 (C k):=rc rfl (D k) (by kernel_rfl) Tryz.func107 (by kernel_rfl) rfl fun ⟨a0,_⟩ r h=>(eq k a0).trans h
end dT
namespace bI
def C (k:Nat):Cn:=⟨[.val .str],[bE,.bool],true,false,fun x=>f k x.1⟩
def D (k:Nat):List Ce:=[q (dT.ctr k),q (ab.ctr k),q (cr.ctr k)]
def E (k:Nat):cE:=en (D k) [(9,[0,2,4,8,10,11,12])] 0 [] k
section
variable (k:Nat) (a0:ByteArray)
def K0:Ex→St→Rs:=cC (E k) (eK (E k) Tryz.f43 (C k) (a0,())) [.blk 0,.code (at_ (bt 8 255) (body Tryz.f43))]
def V0 (n0:Nat):T0:=fun x0 x1 x2 x3 x4 x5 x6 x7 x8=>am (bX (E k) (at_ (bt 11 383) (body Tryz.f43))) (ak 0 [0,2,4,8,10,11,12]) (K0 k a0) n0 (mk 81 4 [(0,.str x0),(2,.ptr 0 0 0),(4,.str x1),(8,.int .i64 x2),(10,.ptr 2 0 0),(11,.int .i64 x3),(12,.int .i64 x4)] [(1,.own false (.int .i64) x5),(0,.box [.int .i64 x6,.ref 1]),(3,.own false (.int .i64) x7),(2,.box [.int .i64 x8,.ref 3])])
theorem s0 (n0:Nat):V0 k a0 (n0+1)=b0 k (V0 k a0 n0):=by kernel_rfl
theorem e0:V0 k a0=l0 k:=aS rfl (s0 k a0) fun _=>rfl
end
theorem eq (k:Nat) (a0:ByteArray):rn (E k) Tryz.f43 (C k) (a0,())=f k a0:=(show _=t k (V0 k a0 k) a0 by kernel_rfl).trans (by rw [e0];rfl)
theorem ctr (k:Nat):Cp 43 (C k):=rc rfl (D k) (by kernel_rfl) Tryz.func43 (by kernel_rfl) rfl fun ⟨a0,_⟩ r h=>(eq k a0).trans h
end bI
namespace cK
def C (k:Nat):Cn:=⟨[.val .str],[.str,.str,.bool],true,false,fun x=>f k x.1⟩
def D (k:Nat):List Ce:=[q (ab.ctr k)]
def E (k:Nat):cE:=en (D k) [] 0 [] k
theorem eq (k:Nat) (a0:ByteArray):rn (E k) Tryz.f168 (C k) (a0,())=f k a0:=by kernel_rfl
theorem ctr (k:Nat):Cp 168 (C k):=rc rfl (D k) (by kernel_rfl) Tryz.func168 (by kernel_rfl) rfl fun ⟨a0,_⟩ r h=>(eq k a0).trans h
end cK
namespace dt
def C (k:Nat):Cn:=⟨[.val .str],[.bool],true,false,fun x=>f k x.1⟩
def D (k:Nat):List Ce:=[q (aR.ctr k)]
def E (k:Nat):cE:=en (D k) [] 0 [] k
theorem eq (k:Nat) (a0:ByteArray):rn (E k) Tryz.f197 (C k) (a0,())=f k a0:=by kernel_rfl
theorem ctr (k:Nat):Cp 197 (C k):=rc rfl (D k) (by kernel_rfl) Tryz.func197 (by kernel_rfl) rfl fun ⟨a0,_⟩ r h=>(eq k a0).trans h
end dt
namespace jg
def C (k:Nat):Cn:=⟨[.val ax],[.bool],true,false,fun x=>f k x.1⟩
def D (k:Nat):List Ce:=[q (aR.ctr k),q (dt.ctr k)]
def E (k:Nat):cE:=en (D k) [] 0 [] k
theorem eq (k:Nat) (a0:Ty.den ax):rn (E k) Tryz.f154 (C k) (a0,())=f k a0:=by kernel_rfl
theorem ctr (k:Nat):Cp 154 (C k):=rc rfl (D k) (by kernel_rfl) Tryz.func154 (by kernel_rfl) rfl fun ⟨a0,_⟩ r h=>(eq k a0).trans h
end jg
namespace c8
def C (k:Nat):Cn:=⟨[.val ax],[.str],true,false,fun x=>f k x.1⟩
def D (k:Nat):List Ce:=[q (jg.ctr k),q (bP.ctr k),q (dI.ctr k)]
def E (k:Nat):cE:=en (D k) [] 0 [] k
theorem eq (k:Nat) (a0:Ty.den ax):rn (E k) Tryz.f89 (C k) (a0,())=f k a0:=by kernel_rfl
theorem ctr (k:Nat):Cp 89 (C k):=rc rfl (D k) (by kernel_rfl) Tryz.func89 (by kernel_rfl) rfl fun ⟨a0,_⟩ r h=>(eq k a0).trans h
end c8
namespace bR
def C (k:Nat):Cn:=⟨[.val .str,.val (.int .i64)],[(.int .i64),.bool],true,false,fun x=>f k x.1 x.2.1⟩
def D (k:Nat):List Ce:=[q (aR.ctr k)]
def E (k:Nat):cE:=en (D k) [(5,[0,1,6,7])] 0 [] k
section
variable (k:Nat) (a0:ByteArray) (a1:Int)
def K0:Ex→St→Rs:=cC (E k) (eK (E k) Tryz.f169 (C k) (a0,a1,())) [.blk 0,.code (at_ (bt 4 15) (body Tryz.f169))]
def V0 (n0:Nat):T0:=fun x0 x1 x2 x3=>am (bX (E k) (at_ (bt 7 23) (body Tryz.f169))) (ak 0 [0,1,6,7]) (K0 k a0 a1) n0 (mk 30 0 [(0,.str x0),(1,.int .i64 x1),(6,.int .i64 x2),(7,.int .i64 x3)] [])
theorem s0 (n0:Nat):V0 k a0 a1 (n0+1)=b0 k (V0 k a0 a1 n0):=by kernel_rfl
theorem e0:V0 k a0 a1=l0 k:=aS rfl (s0 k a0 a1) fun _=>rfl
end
theorem eq (k:Nat) (a0:ByteArray) (a1:Int):rn (E k) Tryz.f169 (C k) (a0,a1,())=f k a0 a1:=(show _=t k (V0 k a0 a1 k) a0 a1 by kernel_rfl).trans (by rw [e0];rfl)
theorem ctr (k:Nat):Cp 169 (C k):=rc rfl (D k) (by kernel_rfl) Tryz.func169 (by kernel_rfl) rfl fun ⟨a0,a1,_⟩ r h=>(eq k a0 a1).trans h
end bR
namespace du
def C (k:Nat):Cn:=⟨[.val .str],[ax,.bool],true,false,fun x=>f k x.1⟩
def D (k:Nat):List Ce:=[q (ab.ctr k),q (cK.ctr k),q (c8.ctr k),q (bR.ctr k)]
def E (k:Nat):cE:=en (D k) [] 0 [] k
theorem eq (k:Nat) (a0:ByteArray):rn (E k) Tryz.f110 (C k) (a0,())=f k a0:=by kernel_rfl
theorem ctr (k:Nat):Cp 110 (C k):=rc rfl (D k) (by kernel_rfl) Tryz.func110 (by kernel_rfl) rfl fun ⟨a0,_⟩ r h=>(eq k a0).trans h
end du
namespace bN
def C (k:Nat):Cn:=⟨[.val .str],[(.slice b9),(.int .i64)],true,false,fun x=>f k x.1⟩
def D (k:Nat):List Ce:=[q (dT.ctr k),q (du.ctr k)]
def E (k:Nat):cE:=en (D k) [(3,[0,4,5])] 0 [] k
section
variable (k:Nat) (a0:ByteArray)
def K0:Ex→St→Rs:=cC (E k) (eK (E k) Tryz.f45 (C k) (a0,())) [.blk 0,.code (at_ (bt 4 15) (body Tryz.f45))]
def V0 (n0:Nat):T0:=fun x0 x1 x2=>am (bX (E k) (at_ (bt 6 7) (body Tryz.f45))) (ak 0 [0,4,5]) (K0 k a0) n0 (mk 47 1 [(0,.str x0),(4,.ref 0),(5,.int .i64 x1)] [(0,.own false b9 x2)])
theorem s0 (n0:Nat):V0 k a0 (n0+1)=b0 k (V0 k a0 n0):=by kernel_rfl
theorem e0:V0 k a0=l0 k:=aS rfl (s0 k a0) fun _=>rfl
end
theorem eq (k:Nat) (a0:ByteArray):rn (E k) Tryz.f45 (C k) (a0,())=f k a0:=(show _=t k (V0 k a0 k) a0 by kernel_rfl).trans (by rw [e0];rfl)
theorem ctr (k:Nat):Cp 45 (C k):=rc rfl (D k) (by kernel_rfl) Tryz.func45 (by kernel_rfl) rfl fun ⟨a0,_⟩ r h=>(eq k a0).trans h
end bN
namespace i_
def C (k:Nat):Cn:=⟨[.val a_,.val .str,.val (.int .i64)],[a_,(.int .i64)],true,false,fun x=>f k x.1 x.2.1 x.2.2.1⟩
def D (k:Nat):List Ce:=[q (cm.ctr k),q (bA.ctr k),q (aR.ctr k)]
def E (k:Nat):cE:=en (D k) [] 0 [] k
theorem eq (k:Nat) (a0:Ty.den a_) (a1:ByteArray) (a2:Int):rn (E k) Tryz.f173 (C k) (a0,a1,a2,())=f k a0 a1 a2:=by kernel_rfl
theorem ctr (k:Nat):Cp 173 (C k):=rc rfl (D k) (by kernel_rfl) Tryz.func173 (by kernel_rfl) rfl fun ⟨a0,a1,a2,_⟩ r h=>(eq k a0 a1 a2).trans h
end i_
namespace bT
def C (k:Nat):Cn:=⟨[.val .str,.val (.int .i64),.val (.int .i64)],[(.slice (.int .i64)),(.int .i64)],true,false,fun x=>f k x.1 x.2.1 x.2.2.1⟩
def D (k:Nat):List Ce:=[q (ab.ctr k)]
def E (k:Nat):cE:=en (D k) [(3,[0,1,2,8,9])] 0 [] k
section
variable (k:Nat) (a0:ByteArray) (a1:Int) (a2:Int)
def K0:Ex→St→Rs:=cC (E k) (eK (E k) Tryz.f206 (C k) (a0,a1,a2,())) [.blk 0,.code (at_ (bt 3 7) (body Tryz.f206))]
def V0 (n0:Nat):T0:=fun x0 x1 x2 x3 x4=>am (bX (E k) (at_ (bt 6 11) (body Tryz.f206))) (ak 0 [0,1,2,8,9]) (K0 k a0 a1 a2) n0 (mk 38 1 [(0,.str x0),(1,.int .i64 x1),(2,.int .i64 x2),(8,.ref 0),(9,.int .i64 x3)] [(0,.own false (.int .i64) x4)])
theorem s0 (n0:Nat):V0 k a0 a1 a2 (n0+1)=b0 k (V0 k a0 a1 a2 n0):=by kernel_rfl
theorem e0:V0 k a0 a1 a2=l0 k:=aS rfl (s0 k a0 a1 a2) fun _=>rfl
end
theorem eq (k:Nat) (a0:ByteArray) (a1:Int) (a2:Int):rn (E k) Tryz.f206 (C k) (a0,a1,a2,())=f k a0 a1 a2:=(show _=t k (V0 k a0 a1 a2 k) a0 a1 a2 by kernel_rfl).trans (by rw [e0];rfl)
theorem ctr (k:Nat):Cp 206 (C k):=rc rfl (D k) (by kernel_rfl) Tryz.func206 (by kernel_rfl) rfl fun ⟨a0,a1,a2,_⟩ r h=>(eq k a0 a1 a2).trans h
end bT
namespace eZ
def C (k:Nat):Cn:=⟨[.val (.slice aB)],[.bool],true,false,fun x=>f k x.1⟩
def D (k:Nat):List Ce:=[q (dt.ctr k),q (aR.ctr k)]
def E (k:Nat):cE:=en (D k) [(4,[0,3])] 0 [] k
section
variable (k:Nat) (a0:List (Ty.den aB))
def K0:Ex→St→Rs:=cC (E k) (eK (E k) Tryz.f198 (C k) (a0,())) [.blk 0,.code (at_ (bt 3 7) (body Tryz.f198))]
def V0 (n0:Nat):T0:=fun x0 x1=>am (bX (E k) (at_ (bt 6 11) (body Tryz.f198))) (ak 0 [0,3]) (K0 k a0) n0 (mk 60 0 [(0,.sl true aB x0),(3,.int .i64 x1)] [])
theorem s0 (n0:Nat):V0 k a0 (n0+1)=b0 k (V0 k a0 n0):=by kernel_rfl
theorem e0:V0 k a0=l0 k:=aS rfl (s0 k a0) fun _=>rfl
end
theorem eq (k:Nat) (a0:List (Ty.den aB)):rn (E k) Tryz.f198 (C k) (a0,())=f k a0:=(show _=t k (V0 k a0 k) a0 by kernel_rfl).trans (by rw [e0];rfl)
theorem ctr (k:Nat):Cp 198 (C k):=rc rfl (D k) (by kernel_rfl) Tryz.func198 (by kernel_rfl) rfl fun ⟨a0,_⟩ r h=>(eq k a0).trans h
end eZ
namespace gQ
def C (k:Nat):Cn:=⟨[.val eh],[.bool],true,false,fun x=>f k x.1⟩
def D (k:Nat):List Ce:=[q (aR.ctr k),q (eZ.ctr k)]
def E (k:Nat):cE:=en (D k) [(4,[1,3])] 0 [] k
section
variable (k:Nat) (a0:Ty.den eh)
def K0:Ex→St→Rs:=cC (E k) (eK (E k) Tryz.f156 (C k) (a0,())) [.blk 0,.code (at_ (bt 3 7) (body Tryz.f156))]
def V0 (n0:Nat):T0:=fun x0 x1 x2 x3=>am (bX (E k) (at_ (bt 6 11) (body Tryz.f156))) (ak 0 [1,3]) (K0 k a0) n0 (mk 48 1 [(1,.ptr 0 0 0),(3,.int .i64 x0)] [(0,.box [.int .i64 x1,.int .i64 x2,.sl true aB x3])])
theorem s0 (n0:Nat):V0 k a0 (n0+1)=b0 k (V0 k a0 n0):=by kernel_rfl
theorem e0:V0 k a0=l0 k:=aS rfl (s0 k a0) fun _=>rfl
end
theorem eq (k:Nat) (a0:Ty.den eh):rn (E k) Tryz.f156 (C k) (a0,())=f k a0:=(show _=t k (V0 k a0 k) a0 by kernel_rfl).trans (by rw [e0];rfl)
theorem ctr (k:Nat):Cp 156 (C k):=rc rfl (D k) (by kernel_rfl) Tryz.func156 (by kernel_rfl) rfl fun ⟨a0,_⟩ r h=>(eq k a0).trans h
end gQ
namespace dN
def C (k:Nat):Cn:=⟨[.val eh],[.str],true,false,fun x=>f k x.1⟩
def D (k:Nat):List Ce:=[q (gQ.ctr k),q (bP.ctr k),q (fg.ctr k),q (dI.ctr k)]
def E (k:Nat):cE:=en (D k) [(5,[1,3,4])] 0 [] k
section
variable (k:Nat) (a0:Ty.den eh)
def K0:Ex→St→Rs:=cC (E k) (eK (E k) Tryz.f93 (C k) (a0,())) [.blk 0,.code (at_ (bt 4 15) (body Tryz.f93))]
def V0 (n0:Nat):T0:=fun x0 x1 x2 x3 x4=>am (bX (E k) (at_ (bt 7 23) (body Tryz.f93))) (ak 0 [1,3,4]) (K0 k a0) n0 (mk 63 1 [(1,.ptr 0 0 0),(3,.str x0),(4,.int .i64 x1)] [(0,.box [.int .i64 x2,.int .i64 x3,.sl true aB x4])])
theorem s0 (n0:Nat):V0 k a0 (n0+1)=b0 k (V0 k a0 n0):=by kernel_rfl
theorem e0:V0 k a0=l0 k:=aS rfl (s0 k a0) fun _=>rfl
end
theorem eq (k:Nat) (a0:Ty.den eh):rn (E k) Tryz.f93 (C k) (a0,())=f k a0:=(show _=t k (V0 k a0 k) a0 by kernel_rfl).trans (by rw [e0];rfl)
theorem ctr (k:Nat):Cp 93 (C k):=rc rfl (D k) (by kernel_rfl) Tryz.func93 (by kernel_rfl) rfl fun ⟨a0,_⟩ r h=>(eq k a0).trans h
end dN
namespace bJ
def C (k:Nat):Cn:=⟨[.val .str],[eh,.bool],true,false,fun x=>f k x.1⟩
def D (k:Nat):List Ce:=[q (bT.ctr k),q (cK.ctr k),q (dN.ctr k)]
def E (k:Nat):cE:=en (D k) [(8,[0,2,4,5,6,7])] 0 [] k
section
variable (k:Nat) (a0:ByteArray)
def K0:Ex→St→Rs:=cC (E k) (eK (E k) Tryz.f176 (C k) (a0,())) [.blk 0,.code (at_ (bt 6 63) (body Tryz.f176))]
def V0 (n0:Nat):T0:=fun x0 x1 x2 x3 x4 x5 x6 x7 x8 x9=>am (bX (E k) (at_ (bt 9 95) (body Tryz.f176))) (ak 0 [0,2,4,5,6,7]) (K0 k a0) n0 (mk 97 5 [(0,.str x0),(2,.ptr 0 0 0),(4,.ref 2),(5,.int .i64 x1),(6,.ptr 3 0 0),(7,.int .i64 x2)] [(1,.own false aB x3),(0,.box [.int .i64 x4,.int .i64 x5,.ref 1]),(2,.own false (.int .i64) x6),(4,.own false aB x7),(3,.box [.int .i64 x8,.int .i64 x9,.ref 4])])
theorem s0 (n0:Nat):V0 k a0 (n0+1)=b0 k (V0 k a0 n0):=by kernel_rfl
theorem e0:V0 k a0=l0 k:=aS rfl (s0 k a0) fun _=>rfl
end
theorem eq (k:Nat) (a0:ByteArray):rn (E k) Tryz.f176 (C k) (a0,())=f k a0:=(show _=t k (V0 k a0 k) a0 by kernel_rfl).trans (by rw [e0];rfl)
theorem ctr (k:Nat):Cp 176 (C k):=rc rfl (D k) (by kernel_rfl) Tryz.func176 (by kernel_rfl) rfl fun ⟨a0,_⟩ r h=>(eq k a0).trans h
end bJ
namespace fY
def C (k:Nat):Cn:=⟨[.val (.slice ax)],[(.int .i64)],true,false,fun x=>f k x.1⟩
def D (k:Nat):List Ce:=[q (c8.ctr k),q (fg.ctr k)]
def E (k:Nat):cE:=en (D k) [(3,[0,3,4])] 0 [] k
section
variable (k:Nat) (a0:List (Ty.den ax))
def K0:Ex→St→Rs:=cC (E k) (eK (E k) Tryz.f155 (C k) (a0,())) [.blk 0,.code (at_ (bt 3 7) (body Tryz.f155))]
def V0 (n0:Nat):T0:=fun x0 x1 x2=>am (bX (E k) (at_ (bt 6 11) (body Tryz.f155))) (ak 0 [0,3,4]) (K0 k a0) n0 (mk 20 0 [(0,.sl true ax x0),(3,.str x1),(4,.int .i64 x2)] [])
theorem s0 (n0:Nat):V0 k a0 (n0+1)=b0 k (V0 k a0 n0):=by kernel_rfl
theorem e0:V0 k a0=l0 k:=aS rfl (s0 k a0) fun _=>rfl
end
theorem eq (k:Nat) (a0:List (Ty.den ax)):rn (E k) Tryz.f155 (C k) (a0,())=f k a0:=(show _=t k (V0 k a0 k) a0 by kernel_rfl).trans (by rw [e0];rfl)
theorem ctr (k:Nat):Cp 155 (C k):=rc rfl (D k) (by kernel_rfl) Tryz.func155 (by kernel_rfl) rfl fun ⟨a0,_⟩ r h=>(eq k a0).trans h
end fY
namespace di
def C (k:Nat):Cn:=⟨[.val (.int .i64),.val .str],[eh,.bool],true,false,fun x=>f k x.1 x.2.1⟩
def D (k:Nat):List Ce:=[q (bN.ctr k),q (aQ.ctr k),q (fY.ctr k)]
def E (k:Nat):cE:=en (D k) [(7,[0,4,6,8,9,10])] 0 [] k
section
variable (k:Nat) (a0:Int) (a1:ByteArray)
def K0:Ex→St→Rs:=cC (E k) (eK (E k) Tryz.f92 (C k) (a0,a1,())) [.blk 0,.code (at_ (bt 6 63) (body Tryz.f92))]
def V0 (n0:Nat):T0:=fun x0 x1 x2 x3 x4 x5 x6 x7 x8 x9=>am (bX (E k) (at_ (bt 9 95) (body Tryz.f92))) (ak 0 [0,4,6,8,9,10]) (K0 k a0 a1) n0 (mk 141 6 [(0,.int .i64 x0),(4,.ptr 0 0 0),(6,.ref 2),(8,.ptr 3 0 0),(9,.ref 5),(10,.int .i64 x1)] [(1,.own false aB x2),(0,.box [.int .i64 x3,.int .i64 x4,.ref 1]),(2,.own false b9 x5),(4,.own false aB x6),(3,.box [.int .i64 x7,.int .i64 x8,.ref 4]),(5,.own false ax x9)])
theorem s0 (n0:Nat):V0 k a0 a1 (n0+1)=b0 k (V0 k a0 a1 n0):=by kernel_rfl
theorem e0:V0 k a0 a1=l0 k:=aS rfl (s0 k a0 a1) fun _=>rfl
end
theorem eq (k:Nat) (a0:Int) (a1:ByteArray):rn (E k) Tryz.f92 (C k) (a0,a1,())=f k a0 a1:=(show _=t k (V0 k a0 a1 k) a0 a1 by kernel_rfl).trans (by rw [e0];rfl)
theorem ctr (k:Nat):Cp 92 (C k):=rc rfl (D k) (by kernel_rfl) Tryz.func92 (by kernel_rfl) rfl fun ⟨a0,a1,_⟩ r h=>(eq k a0 a1).trans h
end di
namespace fB
def C (k:Nat):Cn:=⟨[.val (.slice aB),.val (.slice aB)],[.bool],true,false,fun x=>f k x.1 x.2.1⟩
def E (k:Nat):cE:=en [] [(4,[0,1,5])] 0 [] k
section
variable (k:Nat) (a0:List (Ty.den aB)) (a1:List (Ty.den aB))
def K0:Ex→St→Rs:=cC (E k) (eK (E k) Tryz.f207 (C k) (a0,a1,())) [.blk 0,.code (at_ (bt 3 7) (body Tryz.f207))]
def V0 (n0:Nat):T0:=fun x0 x1 x2=>am (bX (E k) (at_ (bt 6 11) (body Tryz.f207))) (ak 0 [0,1,5]) (K0 k a0 a1) n0 (mk 26 0 [(0,.sl true aB x0),(1,.sl true aB x1),(5,.int .i64 x2)] [])
theorem s0 (n0:Nat):V0 k a0 a1 (n0+1)=b0 k (V0 k a0 a1 n0):=by kernel_rfl
theorem e0:V0 k a0 a1=l0 k:=aS rfl (s0 k a0 a1) fun _=>rfl
end
theorem eq (k:Nat) (a0:List (Ty.den aB)) (a1:List (Ty.den aB)):rn (E k) Tryz.f207 (C k) (a0,a1,())=f k a0 a1:=(show _=t k (V0 k a0 a1 k) a0 a1 by kernel_rfl).trans (by rw [e0];rfl)
theorem ctr (k:Nat):Cp 207 (C k):=rc rfl [] (by kernel_rfl) Tryz.func207 (by kernel_rfl) rfl fun ⟨a0,a1,_⟩ r h=>(eq k a0 a1).trans h
end fB
namespace gV
def C (k:Nat):Cn:=⟨[.val (.int .i64),.val .str,.val eh],[.bool],true,false,fun x=>f k x.1 x.2.1 x.2.2.1⟩
def D (k:Nat):List Ce:=[q (di.ctr k),q (fB.ctr k)]
def E (k:Nat):cE:=en (D k) [] 0 [] k
theorem eq (k:Nat) (a0:Int) (a1:ByteArray) (a2:Ty.den eh):rn (E k) Tryz.f177 (C k) (a0,a1,a2,())=f k a0 a1 a2:=by kernel_rfl
theorem ctr (k:Nat):Cp 177 (C k):=rc rfl (D k) (by kernel_rfl) Tryz.func177 (by kernel_rfl) rfl fun ⟨a0,a1,a2,_⟩ r h=>(eq k a0 a1 a2).trans h
end gV
namespace bQ
def C (k:Nat):Cn:=⟨[.val (.int .i64),.val .str],[(.slice aD)],true,false,fun x=>f k x.1 x.2.1⟩
def D (k:Nat):List Ce:=[q (bN.ctr k)]
def E (k:Nat):cE:=en (D k) [(4,[0,5,6,8])] 0 [] k
section
variable (k:Nat) (a0:Int) (a1:ByteArray)
def K0:Ex→St→Rs:=cC (E k) (eK (E k) Tryz.f46 (C k) (a0,a1,())) [.blk 0,.code (at_ (bt 4 15) (body Tryz.f46))]
def V0 (n0:Nat):T0:=fun x0 x1 x2 x3=>am (bX (E k) (at_ (bt 7 23) (body Tryz.f46))) (ak 0 [0,5,6,8]) (K0 k a0 a1) n0 (mk 42 2 [(0,.int .i64 x0),(5,.ref 0),(6,.ref 1),(8,.int .i64 x1)] [(0,.own false aD x2),(1,.own false b9 x3)])
theorem s0 (n0:Nat):V0 k a0 a1 (n0+1)=b0 k (V0 k a0 a1 n0):=by kernel_rfl
theorem e0:V0 k a0 a1=l0 k:=aS rfl (s0 k a0 a1) fun _=>rfl
end
theorem eq (k:Nat) (a0:Int) (a1:ByteArray):rn (E k) Tryz.f46 (C k) (a0,a1,())=f k a0 a1:=(show _=t k (V0 k a0 a1 k) a0 a1 by kernel_rfl).trans (by rw [e0];rfl)
theorem ctr (k:Nat):Cp 46 (C k):=rc rfl (D k) (by kernel_rfl) Tryz.func46 (by kernel_rfl) rfl fun ⟨a0,a1,_⟩ r h=>(eq k a0 a1).trans h
end bQ
namespace iA
def C (k:Nat):Cn:=⟨[.val (.slice aD),.val (.int .i64),.val (.int .i64)],[(.slice aD)],true,false,fun x=>f k x.1 x.2.1 x.2.2.1⟩
def E (k:Nat):cE:=en [] [(3,[0,1,2,7,8])] 0 [] k
section
variable (k:Nat) (a0:List (Ty.den aD)) (a1:Int) (a2:Int)
def K0:Ex→St→Rs:=cC (E k) (eK (E k) Tryz.f112 (C k) (a0,a1,a2,())) [.blk 0,.code (at_ (bt 3 7) (body Tryz.f112))]
def V0 (n0:Nat):T0:=fun x0 x1 x2 x3 x4=>am (bX (E k) (at_ (bt 6 11) (body Tryz.f112))) (ak 0 [0,1,2,7,8]) (K0 k a0 a1 a2) n0 (mk 53 1 [(0,.sl true aD x0),(1,.int .i64 x1),(2,.int .i64 x2),(7,.ref 0),(8,.int .i64 x3)] [(0,.own false aD x4)])
theorem s0 (n0:Nat):V0 k a0 a1 a2 (n0+1)=b0 k (V0 k a0 a1 a2 n0):=by kernel_rfl
theorem e0:V0 k a0 a1 a2=l0 k:=aS rfl (s0 k a0 a1 a2) fun _=>rfl
end
theorem eq (k:Nat) (a0:List (Ty.den aD)) (a1:Int) (a2:Int):rn (E k) Tryz.f112 (C k) (a0,a1,a2,())=f k a0 a1 a2:=(show _=t k (V0 k a0 a1 a2 k) a0 a1 a2 by kernel_rfl).trans (by rw [e0];rfl)
theorem ctr (k:Nat):Cp 112 (C k):=rc rfl [] (by kernel_rfl) Tryz.func112 (by kernel_rfl) rfl fun ⟨a0,a1,a2,_⟩ r h=>(eq k a0 a1 a2).trans h
end iA
namespace fc
def C (k:Nat):Cn:=⟨[.val (.slice aD)],[(.slice ax)],true,false,fun x=>f k x.1⟩
def E (k:Nat):cE:=en [] [(3,[0,3,4])] 0 [] k
section
variable (k:Nat) (a0:List (Ty.den aD))
def K0:Ex→St→Rs:=cC (E k) (eK (E k) Tryz.f170 (C k) (a0,())) [.blk 0,.code (at_ (bt 3 7) (body Tryz.f170))]
def V0 (n0:Nat):T0:=fun x0 x1 x2=>am (bX (E k) (at_ (bt 6 11) (body Tryz.f170))) (ak 0 [0,3,4]) (K0 k a0) n0 (mk 21 1 [(0,.sl true aD x0),(3,.ref 0),(4,.int .i64 x1)] [(0,.own false ax x2)])
theorem s0 (n0:Nat):V0 k a0 (n0+1)=b0 k (V0 k a0 n0):=by kernel_rfl
theorem e0:V0 k a0=l0 k:=aS rfl (s0 k a0) fun _=>rfl
end
theorem eq (k:Nat) (a0:List (Ty.den aD)):rn (E k) Tryz.f170 (C k) (a0,())=f k a0:=(show _=t k (V0 k a0 k) a0 by kernel_rfl).trans (by rw [e0];rfl)
theorem ctr (k:Nat):Cp 170 (C k):=rc rfl [] (by kernel_rfl) Tryz.func170 (by kernel_rfl) rfl fun ⟨a0,_⟩ r h=>(eq k a0).trans h
end fc
namespace iU
def C (k:Nat):Cn:=⟨[.val ax,.val (.slice aD)],[.bool],true,false,fun x=>f k x.1 x.2.1⟩
def D (k:Nat):List Ce:=[q (fc.ctr k),q (fY.ctr k)]
def E (k:Nat):cE:=en (D k) [] 0 [] k
theorem eq (k:Nat) (a0:Ty.den ax) (a1:List (Ty.den aD)):rn (E k) Tryz.f111 (C k) (a0,a1,())=f k a0 a1:=by kernel_rfl
theorem ctr (k:Nat):Cp 111 (C k):=rc rfl (D k) (by kernel_rfl) Tryz.func111 (by kernel_rfl) rfl fun ⟨a0,a1,_⟩ r h=>(eq k a0 a1).trans h
end iU
namespace co
def C (k:Nat):Cn:=⟨[.val (.slice aB),.val .str],[(.slice aB)],true,false,fun x=>f k x.1 x.2.1⟩
def E (k:Nat):cE:=en [] [(3,[0,1,5,6])] 0 [] k
section
variable (k:Nat) (a0:List (Ty.den aB)) (a1:ByteArray)
def K0:Ex→St→Rs:=cC (E k) (eK (E k) Tryz.f216 (C k) (a0,a1,())) [.blk 0,.code (at_ (bt 3 7) (body Tryz.f216))]
def V0 (n0:Nat):T0:=fun x0 x1 x2 x3=>am (bX (E k) (at_ (bt 6 11) (body Tryz.f216))) (ak 0 [0,1,5,6]) (K0 k a0 a1) n0 (mk 29 1 [(0,.sl true aB x0),(1,.str x1),(5,.ref 0),(6,.int .i64 x2)] [(0,.own false aB x3)])
theorem s0 (n0:Nat):V0 k a0 a1 (n0+1)=b0 k (V0 k a0 a1 n0):=by kernel_rfl
theorem e0:V0 k a0 a1=l0 k:=aS rfl (s0 k a0 a1) fun _=>rfl
end
theorem eq (k:Nat) (a0:List (Ty.den aB)) (a1:ByteArray):rn (E k) Tryz.f216 (C k) (a0,a1,())=f k a0 a1:=(show _=t k (V0 k a0 a1 k) a0 a1 by kernel_rfl).trans (by rw [e0];rfl)
theorem ctr (k:Nat):Cp 216 (C k):=rc rfl [] (by kernel_rfl) Tryz.func216 (by kernel_rfl) rfl fun ⟨a0,a1,_⟩ r h=>(eq k a0 a1).trans h
end co
namespace bV
def C (k:Nat):Cn:=⟨[.val (.slice aB),.val aB],[(.slice aB)],true,false,fun x=>f k x.1 x.2.1⟩
def E (k:Nat):cE:=en [] [(4,[0,3,5,6,7])] 0 [] k
section
variable (k:Nat) (a0:List (Ty.den aB)) (a1:Ty.den aB)
def K0:Ex→St→Rs:=cC (E k) (eK (E k) Tryz.f118 (C k) (a0,a1,())) [.blk 0,.code (at_ (bt 4 15) (body Tryz.f118))]
def V0 (n0:Nat):T0:=fun x0 x1 x2 x3 x4 x5 x6 x7 x8=>am (bX (E k) (at_ (bt 7 23) (body Tryz.f118))) (ak 0 [0,3,5,6,7]) (K0 k a0 a1) n0 (mk 53 2 [(0,.sl true aB x0),(3,.ptr 0 0 0),(5,.ref 1),(6,.bool x1),(7,.int .i64 x2)] [(0,.box [.str x3,.int .i64 x4,.int .i64 x5,.int .i64 x6,.int .i64 x7]),(1,.own false aB x8)])
theorem s0 (n0:Nat):V0 k a0 a1 (n0+1)=b0 k (V0 k a0 a1 n0):=by kernel_rfl
theorem e0:V0 k a0 a1=l0 k:=aS rfl (s0 k a0 a1) fun _=>rfl
end
theorem eq (k:Nat) (a0:List (Ty.den aB)) (a1:Ty.den aB):rn (E k) Tryz.f118 (C k) (a0,a1,())=f k a0 a1:=(show _=t k (V0 k a0 a1 k) a0 a1 by kernel_rfl).trans (by rw [e0];rfl)
theorem ctr (k:Nat):Cp 118 (C k):=rc rfl [] (by kernel_rfl) Tryz.func118 (by kernel_rfl) rfl fun ⟨a0,a1,_⟩ r h=>(eq k a0 a1).trans h
end bV
namespace gp
def C (k:Nat):Cn:=⟨[.val (.slice aB),.val aD],[(.slice aB)],true,false,fun x=>f k x.1 x.2.1⟩
def D (k:Nat):List Ce:=[q (co.ctr k),q (bV.ctr k)]
def E (k:Nat):cE:=en (D k) [] 0 [] k
theorem eq (k:Nat) (a0:List (Ty.den aB)) (a1:Ty.den aD):rn (E k) Tryz.f209 (C k) (a0,a1,())=f k a0 a1:=by kernel_rfl
theorem ctr (k:Nat):Cp 209 (C k):=rc rfl (D k) (by kernel_rfl) Tryz.func209 (by kernel_rfl) rfl fun ⟨a0,a1,_⟩ r h=>(eq k a0 a1).trans h
end gp
namespace eg
def C (k:Nat):Cn:=⟨[.val (.slice aD),.val (.int .i64)],[(.slice aD)],true,false,fun x=>f k x.1 x.2.1⟩
def E (k:Nat):cE:=en [] [(3,[0,1,5,6])] 0 [] k
section
variable (k:Nat) (a0:List (Ty.den aD)) (a1:Int)
def K0:Ex→St→Rs:=cC (E k) (eK (E k) Tryz.f208 (C k) (a0,a1,())) [.blk 0,.code (at_ (bt 3 7) (body Tryz.f208))]
def V0 (n0:Nat):T0:=fun x0 x1 x2 x3=>am (bX (E k) (at_ (bt 6 11) (body Tryz.f208))) (ak 0 [0,1,5,6]) (K0 k a0 a1) n0 (mk 36 1 [(0,.sl true aD x0),(1,.int .i64 x1),(5,.ref 0),(6,.int .i64 x2)] [(0,.own false aD x3)])
theorem s0 (n0:Nat):V0 k a0 a1 (n0+1)=b0 k (V0 k a0 a1 n0):=by kernel_rfl
theorem e0:V0 k a0 a1=l0 k:=aS rfl (s0 k a0 a1) fun _=>rfl
end
theorem eq (k:Nat) (a0:List (Ty.den aD)) (a1:Int):rn (E k) Tryz.f208 (C k) (a0,a1,())=f k a0 a1:=(show _=t k (V0 k a0 a1 k) a0 a1 by kernel_rfl).trans (by rw [e0];rfl)
theorem ctr (k:Nat):Cp 208 (C k):=rc rfl [] (by kernel_rfl) Tryz.func208 (by kernel_rfl) rfl fun ⟨a0,a1,_⟩ r h=>(eq k a0 a1).trans h
end eg
namespace bx
def C (k:Nat):Cn:=⟨[.val kO,.val (.slice aD)],[kO],true,false,fun x=>f k x.1 x.2.1⟩
def D (k:Nat):List Ce:=[q (iA.ctr k),q (iU.ctr k),q (gp.ctr k),q (eg.ctr k)]
def E (k:Nat):cE:=en (D k) [(3,[1,4,5,6]),(17,[1,4,5,6,8,9])] 0 [] k
section
variable (k:Nat) (a0:Ty.den kO) (a1:List (Ty.den aD))
def K0:Ex→St→Rs:=cC (E k) (eK (E k) Tryz.f178 (C k) (a0,a1,())) [.blk 0,.code (at_ (bt 3 7) (body Tryz.f178))]
def B0 (n0:Nat):Ex→St→Rs:=Js (E k) (at_ (bt 6 11) (body Tryz.f178)) 0 [1,4,5,6] (K0 k a0 a1) n0
def K1 (n0:Nat):Ex→St→Rs:=cC (E k) (B0 k a0 a1 n0) [.blk 3,.code (at_ (bt 14 15947) (body Tryz.f178)),.blk 1,.code (at_ (bt 8 203) (body Tryz.f178))]
def V0 (n0:Nat):T0:=fun x0 x1 x2 x3 x4 x5 x6 x7=>am (bX (E k) (at_ (bt 6 11) (body Tryz.f178))) (ak 0 [1,4,5,6]) (K0 k a0 a1) n0 (mk 97 4 [(1,.sl true aD x0),(4,.ptr 0 0 0),(5,.ptr 2 0 0),(6,.int .i64 x1)] [(1,.own false aB x2),(0,.box [.ref 1,.int .i64 x3,.int .i64 x4]),(3,.own false aB x5),(2,.box [.ref 3,.int .i64 x6,.int .i64 x7])])
def V1 (n0 n1:Nat):T1:=fun x0 x1 x2 x3 x4 x5 x6 x7 x8 x9=>am (bX (E k) (at_ (bt 17 24139) (body Tryz.f178))) (ak 0 [1,4,5,6,8,9]) (K1 k a0 a1 n0) n1 (mk 97 5 [(1,.sl true aD x0),(4,.ptr 0 0 0),(5,.ptr 2 0 0),(6,.int .i64 x1),(8,.ref 4),(9,.int .i64 x2)] [(1,.own false aB x3),(0,.box [.ref 1,.int .i64 x4,.int .i64 x5]),(3,.own false aB x6),(2,.box [.ref 3,.int .i64 x7,.int .i64 x8]),(4,.own false aD x9)])
theorem s0 (n0:Nat):V0 k a0 a1 (n0+1)=b0 k (V1 k a0 a1 n0 k) (V0 k a0 a1 n0):=by kernel_rfl
theorem s1 (n0 n1:Nat):V1 k a0 a1 n0 (n1+1)=b1 k (V0 k a0 a1 n0) (V1 k a0 a1 n0 n1):=by kernel_rfl
theorem e1 (n0:Nat):V1 k a0 a1 n0=l1 k (V0 k a0 a1 n0):=aS rfl (s1 k a0 a1 n0) fun _=>rfl
theorem e0 (n0:Nat):V0 k a0 a1 n0=l0 k n0:=by
 induction n0 with
 | zero=>rfl
 | succ n0 ih =>
  have h:V0 k a0 a1 (n0+1)=b0 k (V1 k a0 a1 n0 k) (V0 k a0 a1 n0):=s0 k a0 a1 n0
  rw [h,e1,ih]
  rfl
end
theorem eq (k:Nat) (a0:Ty.den kO) (a1:List (Ty.den aD)):rn (E k) Tryz.f178 (C k) (a0,a1,())=f k a0 a1:=(show _=t k (V0 k a0 a1 k) a0 a1 by kernel_rfl).trans (by rw [e0];rfl)
theorem ctr (k:Nat):Cp 178 (C k):=rc rfl (D k) (by kernel_rfl) Tryz.func178 (by kernel_rfl) rfl fun ⟨a0,a1,_⟩ r h=>(eq k a0 a1).trans h
end bx
namespace bh
def C (k:Nat):Cn:=⟨[.give a_,.val bE],[a_,(.int .i64)],true,false,fun x=>f k x.1 x.2.1⟩
def D (k:Nat):List Ce:=[q (bK.ctr k),q (g_.ctr k),q (aU.ctr k)]
def E (k:Nat):cE:=en (D k) [(3,[2,4,6,7])] 0 [] k
section
variable (k:Nat) (a0:Ty.den a_) (a1:Ty.den bE)
def K0:Ex→St→Rs:=cC (E k) (eK (E k) Tryz.f179 (C k) (a0,a1,())) [.blk 0,.code (at_ (bt 3 7) (body Tryz.f179))]
def V0 (n0:Nat):T0:=fun x0 x1 x2 x3 x4 x5 x6 x7 x8 x9=>am (bX (E k) (at_ (bt 6 11) (body Tryz.f179))) (ak 0 [2,4,6,7]) (K0 k a0 a1) n0 (mk 35 5 [(2,.ptr 0 0 0),(4,.ptr 2 0 0),(6,.ref 4),(7,.int .i64 x0)] [(1,.own false aF x1),(0,.box [.ref 1,.int .i64 x2,.int .i64 x3,.bool x4]),(3,.own false aF x5),(2,.box [.ref 3,.int .i64 x6,.int .i64 x7,.bool x8]),(4,.own false .str x9)])
theorem s0 (n0:Nat):V0 k a0 a1 (n0+1)=b0 k (V0 k a0 a1 n0):=by kernel_rfl
theorem e0:V0 k a0 a1=l0 k:=aS rfl (s0 k a0 a1) fun _=>rfl
end
theorem eq (k:Nat) (a0:Ty.den a_) (a1:Ty.den bE):rn (E k) Tryz.f179 (C k) (a0,a1,())=f k a0 a1:=(show _=t k (V0 k a0 a1 k) a0 a1 by kernel_rfl).trans (by rw [e0];rfl)
theorem ctr (k:Nat):Cp 179 (C k):=rc rfl (D k) (by kernel_rfl) Tryz.func179 (by kernel_rfl) rfl fun ⟨a0,a1,_⟩ r h=>(eq k a0 a1).trans h
end bh
namespace gC
def C (k:Nat):Cn:=⟨[.give a_],[aE,a_,(.int .i64)],true,false,fun x=>f k x.1⟩
def D (k:Nat):List Ce:=[q (bh.ctr k),q (aQ.ctr k),q (eY.ctr k),q (aU.ctr k),q (eQ.ctr k)]
def E (k:Nat):cE:=en (D k) [] 0 [] k
theorem eq (k:Nat) (a0:Ty.den a_):rn (E k) Tryz.f172 (C k) (a0,())=f k a0:=by kernel_rfl
theorem ctr (k:Nat):Cp 172 (C k):=rc rfl (D k) (by kernel_rfl) Tryz.func172 (by kernel_rfl) rfl fun ⟨a0,_⟩ r h=>(eq k a0).trans h
end gC
namespace b7
def C (k:Nat):Cn:=⟨[.give a_],[aE,a_,(.int .i64)],true,false,fun x=>f k x.1⟩
def D (k:Nat):List Ce:=[q (bd.ctr k),q (cL.ctr k),q (bF.ctr k),q (gC.ctr k),q (bI.ctr k),q (aQ.ctr k),q (bN.ctr k),q (i_.ctr k),q (aU.ctr k),q (cg.ctr k),q (cZ.ctr k),q (bJ.ctr k),q (gV.ctr k),q (bQ.ctr k),q (bx.ctr k),q (bh.ctr k)]
def E (k:Nat):cE:=en (D k) [(14,[1,2,3,5,8,9,10]),(35,[2,3,5,8,19,23,24,25,26])] 0 [] k
section
variable (k:Nat) (a0:Ty.den a_)
def K0:Ex→St→Rs:=cC (E k) (eK (E k) Tryz.f113 (C k) (a0,())) [.blk 0,.code (at_ (bt 10 1023) (body Tryz.f113))]
def K1:Ex→St→Rs:=cC (E k) (eK (E k) Tryz.f113 (C k) (a0,())) [.blk 2,.code (at_ (bt 20 1048575) (body Tryz.f113))]
def V0 (n0:Nat):T0:=fun x0 x1 x2 x3 x4 x5 x6 x7 x8 x9 x10 x11 x12 x13 x14 x15 x16 x17 x18 x19 x20 x21 x22 x23=>am (bX (E k) (at_ (bt 13 1535) (body Tryz.f113))) (ak 0 [1,2,3,5,8,9,10]) (K0 k a0) n0 (mk 268 12 [(1,.ptr 0 0 0),(2,.ptr 2 0 0),(3,.ptr 5 0 0),(5,.ptr 7 0 0),(8,.ptr 10 0 0),(9,.int .i64 x0),(10,.int .i64 x1)] [(1,.own false aF x2),(0,.box [.ref 1,.int .i64 x3,.int .i64 x4,.bool x5]),(3,.own false (.int .i64) x6),(4,.own false aB x7),(2,.box [.int .i64 x8,.ref 3,.ref 4,.int .i64 x9,.int .i64 x10,.int .i64 x11]),(6,.own false aF x12),(5,.box [.ref 6,.int .i64 x13,.int .i64 x14,.bool x15]),(8,.own false (.int .i64) x16),(9,.own false aB x17),(7,.box [.int .i64 x18,.ref 8,.ref 9,.int .i64 x19,.int .i64 x20,.int .i64 x21]),(11,.own false (.int .i64) x22),(10,.box [.int .i64 x23,.ref 11])])
def V1 (n1:Nat):T1:=fun x0 x1 x2 x3 x4 x5 x6 x7 x8 x9 x10 x11 x12 x13 x14 x15 x16 x17 x18 x19 x20 x21 x22 x23 x24 x25 x26 x27 x28 x29 x30 x31=>am (bX (E k) (at_ (bt 23 1572863) (body Tryz.f113))) (ak 0 [2,3,5,8,19,23,24,25,26]) (K1 k a0) n1 (mk 268 17 [(2,.ptr 0 0 0),(3,.ptr 3 0 0),(5,.ptr 5 0 0),(8,.ptr 8 0 0),(19,.ptr 10 0 0),(23,.ptr 12 0 0),(24,.ptr 14 0 0),(25,.ref 16),(26,.int .i64 x0)] [(1,.own false (.int .i64) x1),(2,.own false aB x2),(0,.box [.int .i64 x3,.ref 1,.ref 2,.int .i64 x4,.int .i64 x5,.int .i64 x6]),(4,.own false aF x7),(3,.box [.ref 4,.int .i64 x8,.int .i64 x9,.bool x10]),(6,.own false (.int .i64) x11),(7,.own false aB x12),(5,.box [.int .i64 x13,.ref 6,.ref 7,.int .i64 x14,.int .i64 x15,.int .i64 x16]),(9,.own false (.int .i64) x17),(8,.box [.int .i64 x18,.ref 9]),(11,.own false aF x19),(10,.box [.ref 11,.int .i64 x20,.int .i64 x21,.bool x22]),(13,.own false aB x23),(12,.box [.int .i64 x24,.ref 9,.ref 13,.int .i64 x25,.int .i64 x26,.int .i64 x27]),(15,.own false aB x28),(14,.box [.ref 15,.int .i64 x29,.int .i64 x30]),(16,.own false aD x31)])
def V2 (n1:Nat):T2:=fun x0 x1 x2 x3 x4 x5 x6 x7 x8 x9 x10 x11 x12 x13 x14 x15 x16 x17 x18 x19 x20 x21 x22 x23 x24 x25 x26 x27 x28 x29 x30 x31=>am (bX (E k) (at_ (bt 23 1572863) (body Tryz.f113))) (ak 0 [2,3,5,8,19,23,24,25,26]) (K1 k a0) n1 (mk 268 17 [(2,.ptr 0 0 0),(3,.ptr 3 0 0),(5,.ptr 5 0 0),(8,.ptr 8 0 0),(19,.ptr 10 0 0),(23,.ptr 12 0 0),(24,.ptr 14 0 0),(25,.ref 16),(26,.int .i64 x0)] [(1,.own false (.int .i64) x1),(2,.own false aB x2),(0,.box [.int .i64 x3,.ref 1,.ref 2,.int .i64 x4,.int .i64 x5,.int .i64 x6]),(4,.own false aF x7),(3,.box [.ref 4,.int .i64 x8,.int .i64 x9,.bool x10]),(6,.own false (.int .i64) x11),(7,.own false aB x12),(5,.box [.int .i64 x13,.ref 6,.ref 7,.int .i64 x14,.int .i64 x15,.int .i64 x16]),(9,.own false (.int .i64) x17),(8,.box [.int .i64 x18,.ref 9]),(11,.own false aF x19),(10,.box [.ref 11,.int .i64 x20,.int .i64 x21,.bool x22]),(13,.own false aB x23),(12,.box [.int .i64 x24,.ref 9,.ref 13,.int .i64 x25,.int .i64 x26,.int .i64 x27]),(15,.own false aB x28),(14,.box [.ref 15,.int .i64 x29,.int .i64 x30]),(16,.own false aD x31)])
theorem s0 (n0:Nat):V0 k a0 (n0+1)=b0 k (V1 k a0 k) (V2 k a0 k) (V0 k a0 n0):=by kernel_rfl
theorem s1 (n1:Nat):V1 k a0 (n1+1)=b1 k (V1 k a0 n1):=by kernel_rfl
theorem s2 (n1:Nat):V2 k a0 (n1+1)=b2 k (V2 k a0 n1):=by kernel_rfl
theorem e1:V1 k a0=l1 k:=aS rfl (s1 k a0) fun _=>rfl
theorem e2:V2 k a0=l2 k:=aS rfl (s2 k a0) fun _=>rfl
theorem e0 (n0:Nat):V0 k a0 n0=l0 k n0:=by
 induction n0 with
 | zero=>rfl
 | succ n0 ih =>
  have h:V0 k a0 (n0+1)=b0 k (V1 k a0 k) (V2 k a0 k) (V0 k a0 n0):=s0 k a0 n0
  rw [h,e1,e2,ih]
  rfl
end
theorem eq (k:Nat) (a0:Ty.den a_):rn (E k) Tryz.f113 (C k) (a0,())=f k a0:=(show _=t k (V0 k a0 k) a0 by kernel_rfl).trans (by rw [e0];rfl)
theorem ctr (k:Nat):Cp 113 (C k):=rc rfl (D k) (by kernel_rfl) Tryz.func113 (by kernel_rfl) rfl fun ⟨a0,_⟩ r h=>(eq k a0).trans h
end b7
namespace fj
def C (k:Nat):Cn:=⟨[.io false b8,.val (.int .i64)],[.bool],true,true,fun x=>f k x.1 x.2.1⟩
def D (k:Nat):List Ce:=[q (aW.ctr k)]
def E (k:Nat):cE:=en (D k) [] 1 [] k
theorem eq (k:Nat) (a0:Ty.den b8) (a1:Int):rn (E k) Tryz.f38 (C k) (a0,a1,())=f k a0 a1:=by kernel_rfl
theorem ctr (k:Nat):Cp 38 (C k):=rc rfl (D k) (by kernel_rfl) Tryz.func38 (by kernel_rfl) rfl fun ⟨a0,a1,_⟩ r h=>(eq k a0 a1).trans h
end fj
namespace fD
def C (k:Nat):Cn:=⟨[.val aE],[aE],true,false,fun x=>f k x.1⟩
def E (k:Nat):cE:=en [] [] 0 [] k
theorem eq (k:Nat) (a0:Ty.den aE):rn (E k) Tryz.f180 (C k) (a0,())=f k a0:=by kernel_rfl
theorem ctr (k:Nat):Cp 180 (C k):=rc rfl [] (by kernel_rfl) Tryz.func180 (by kernel_rfl) rfl fun ⟨a0,_⟩ r h=>(eq k a0).trans h
end fD
namespace iX
def C (k:Nat):Cn:=⟨[.val .str,.val (.int .i64),.val (.int .i64)],[ax,.bool],true,false,fun x=>f k x.1 x.2.1 x.2.2.1⟩
def D (k:Nat):List Ce:=[q (aR.ctr k),q (dT.ctr k),q (du.ctr k)]
def E (k:Nat):cE:=en (D k) [] 0 [] k
theorem eq (k:Nat) (a0:ByteArray) (a1:Int) (a2:Int):rn (E k) Tryz.f134 (C k) (a0,a1,a2,())=f k a0 a1 a2:=by kernel_rfl
theorem ctr (k:Nat):Cp 134 (C k):=rc rfl (D k) (by kernel_rfl) Tryz.func134 (by kernel_rfl) rfl fun ⟨a0,a1,a2,_⟩ r h=>(eq k a0 a1 a2).trans h
end iX
namespace bw
def C (k:Nat):Cn:=⟨[.val aE,.val a_],[.bool],true,false,fun x=>f k x.1 x.2.1⟩
def D (k:Nat):List Ce:=[q (bd.ctr k),q (dC.ctr k),q (eZ.ctr k),q (aR.ctr k),q (aQ.ctr k),q (bF.ctr k),q (bN.ctr k),q (iX.ctr k)]
def E (k:Nat):cE:=en (D k) [(4,[2,3,5]),(11,[2,3,10])] 0 [] k
section
variable (k:Nat) (a0:Ty.den aE) (a1:Ty.den a_)
def K0:Ex→St→Rs:=cC (E k) (eK (E k) Tryz.f181 (C k) (a0,a1,())) [.blk 0,.code (at_ (bt 3 7) (body Tryz.f181))]
def K1:Ex→St→Rs:=cC (E k) (eK (E k) Tryz.f181 (C k) (a0,a1,())) [.blk 2,.code (at_ (bt 4 15) (body Tryz.f181))]
def V0 (n0:Nat):T0:=fun x0 x1 x2 x3 x4 x5 x6 x7 x8 x9 x10=>am (bX (E k) (at_ (bt 6 11) (body Tryz.f181))) (ak 0 [2,3,5]) (K0 k a0 a1) n0 (mk 148 2 [(2,.ptr 0 0 0),(3,.ptr 1 0 0),(5,.int .i64 x0)] [(0,.box [.int .i64 x1,.sl true (.int .i64) x2,.sl true aB x3,.int .i64 x4,.int .i64 x5,.int .i64 x6]),(1,.box [.sl true aF x7,.int .i64 x8,.int .i64 x9,.bool x10])])
def V1 (n1:Nat):T1:=fun x0 x1 x2 x3 x4 x5 x6 x7 x8 x9 x10=>am (bX (E k) (at_ (bt 7 23) (body Tryz.f181))) (ak 0 [2,3,10]) (K1 k a0 a1) n1 (mk 148 2 [(2,.ptr 0 0 0),(3,.ptr 1 0 0),(10,.int .i64 x0)] [(0,.box [.int .i64 x1,.sl true (.int .i64) x2,.sl true aB x3,.int .i64 x4,.int .i64 x5,.int .i64 x6]),(1,.box [.sl true aF x7,.int .i64 x8,.int .i64 x9,.bool x10])])
theorem s0 (n0:Nat):V0 k a0 a1 (n0+1)=b0 k (V1 k a0 a1 k) (V0 k a0 a1 n0):=by kernel_rfl
theorem s1 (n1:Nat):V1 k a0 a1 (n1+1)=b1 k (V1 k a0 a1 n1):=by kernel_rfl
theorem e1:V1 k a0 a1=l1 k:=aS rfl (s1 k a0 a1) fun _=>rfl
theorem e0 (n0:Nat):V0 k a0 a1 n0=l0 k n0:=by
 induction n0 with
 | zero=>rfl
 | succ n0 ih =>
  have h:V0 k a0 a1 (n0+1)=b0 k (V1 k a0 a1 k) (V0 k a0 a1 n0):=s0 k a0 a1 n0
  rw [h,e1,ih]
  rfl
end
theorem eq (k:Nat) (a0:Ty.den aE) (a1:Ty.den a_):rn (E k) Tryz.f181 (C k) (a0,a1,())=f k a0 a1:=(show _=t k (V0 k a0 a1 k) a0 a1 by kernel_rfl).trans (by rw [e0];rfl)
theorem ctr (k:Nat):Cp 181 (C k):=rc rfl (D k) (by kernel_rfl) Tryz.func181 (by kernel_rfl) rfl fun ⟨a0,a1,_⟩ r h=>(eq k a0 a1).trans h
end bw
namespace fk
def C (k:Nat):Cn:=⟨[.val (.slice aB),.val .str],[aB,.bool],true,false,fun x=>f k x.1 x.2.1⟩
def E (k:Nat):cE:=en [] [(2,[0,1,4,6])] 0 [] k
section
variable (k:Nat) (a0:List (Ty.den aB)) (a1:ByteArray)
def K0:Ex→St→Rs:=cC (E k) (eK (E k) Tryz.f133 (C k) (a0,a1,())) [.blk 0,.code (at_ (bt 2 3) (body Tryz.f133))]
def V0 (n0:Nat):T0:=fun x0 x1 x2 x3 x4 x5 x6 x7=>am (bX (E k) (at_ (bt 5 5) (body Tryz.f133))) (ak 0 [0,1,4,6]) (K0 k a0 a1) n0 (mk 25 1 [(0,.sl true aB x0),(1,.str x1),(4,.ptr 0 0 0),(6,.int .i64 x2)] [(0,.box [.str x3,.int .i64 x4,.int .i64 x5,.int .i64 x6,.int .i64 x7])])
theorem s0 (n0:Nat):V0 k a0 a1 (n0+1)=b0 k (V0 k a0 a1 n0):=by kernel_rfl
theorem e0:V0 k a0 a1=l0 k:=aS rfl (s0 k a0 a1) fun _=>rfl
end
theorem eq (k:Nat) (a0:List (Ty.den aB)) (a1:ByteArray):rn (E k) Tryz.f133 (C k) (a0,a1,())=f k a0 a1:=(show _=t k (V0 k a0 a1 k) a0 a1 by kernel_rfl).trans (by rw [e0];rfl)
theorem ctr (k:Nat):Cp 133 (C k):=rc rfl [] (by kernel_rfl) Tryz.func133 (by kernel_rfl) rfl fun ⟨a0,a1,_⟩ r h=>(eq k a0 a1).trans h
end fk
namespace m5
def C (k:Nat):Cn:=⟨[.val aE,.val a_,.val .str],[aF,(.int .i64)],true,false,fun x=>f k x.1 x.2.1 x.2.2.1⟩
def D (k:Nat):List Ce:=[q (fk.ctr k),q (aQ.ctr k),q (bF.ctr k),q (iX.ctr k)]
def E (k:Nat):cE:=en (D k) [] 0 [] k
theorem eq (k:Nat) (a0:Ty.den aE) (a1:Ty.den a_) (a2:ByteArray):rn (E k) Tryz.f72 (C k) (a0,a1,a2,())=f k a0 a1 a2:=by kernel_rfl
theorem ctr (k:Nat):Cp 72 (C k):=rc rfl (D k) (by kernel_rfl) Tryz.func72 (by kernel_rfl) rfl fun ⟨a0,a1,a2,_⟩ r h=>(eq k a0 a1 a2).trans h
end m5
namespace gS
def C (k:Nat):Cn:=⟨[.val aE,.val a_],[(.slice aF),(.int .i64)],true,false,fun x=>f k x.1 x.2.1⟩
def D (k:Nat):List Ce:=[q (m5.ctr k)]
def E (k:Nat):cE:=en (D k) [(3,[2,3,6,7])] 0 [] k
section
variable (k:Nat) (a0:Ty.den aE) (a1:Ty.den a_)
def K0:Ex→St→Rs:=cC (E k) (eK (E k) Tryz.f25 (C k) (a0,a1,())) [.blk 0,.code (at_ (bt 3 7) (body Tryz.f25))]
def V0 (n0:Nat):T0:=fun x0 x1 x2 x3 x4 x5 x6 x7 x8 x9 x10 x11=>am (bX (E k) (at_ (bt 6 11) (body Tryz.f25))) (ak 0 [2,3,6,7]) (K0 k a0 a1) n0 (mk 39 3 [(2,.ptr 0 0 0),(3,.ptr 1 0 0),(6,.ref 2),(7,.int .i64 x0)] [(0,.box [.int .i64 x1,.sl true (.int .i64) x2,.sl true aB x3,.int .i64 x4,.int .i64 x5,.int .i64 x6]),(1,.box [.sl true aF x7,.int .i64 x8,.int .i64 x9,.bool x10]),(2,.own false aF x11)])
theorem s0 (n0:Nat):V0 k a0 a1 (n0+1)=b0 k (V0 k a0 a1 n0):=by kernel_rfl
theorem e0:V0 k a0 a1=l0 k:=aS rfl (s0 k a0 a1) fun _=>rfl
end
theorem eq (k:Nat) (a0:Ty.den aE) (a1:Ty.den a_):rn (E k) Tryz.f25 (C k) (a0,a1,())=f k a0 a1:=(show _=t k (V0 k a0 a1 k) a0 a1 by kernel_rfl).trans (by rw [e0];rfl)
theorem ctr (k:Nat):Cp 25 (C k):=rc rfl (D k) (by kernel_rfl) Tryz.func25 (by kernel_rfl) rfl fun ⟨a0,a1,_⟩ r h=>(eq k a0 a1).trans h
end gS
namespace kD
def C (k:Nat):Cn:=⟨[.val aF],[ax],true,false,fun x=>f k x.1⟩
def E (k:Nat):cE:=en [] [] 0 [] k
theorem eq (k:Nat) (a0:Ty.den aF):rn (E k) Tryz.f226 (C k) (a0,())=f k a0:=by kernel_rfl
theorem ctr (k:Nat):Cp 226 (C k):=rc rfl [] (by kernel_rfl) Tryz.func226 (by kernel_rfl) rfl fun ⟨a0,_⟩ r h=>(eq k a0).trans h
end kD
namespace gd
def C (k:Nat):Cn:=⟨[.val (.slice ax),.val (.int .i64),.val (.int .i64)],[ax],true,false,fun x=>f k x.1 x.2.1 x.2.2.1⟩
def D (k:Nat):List Ce:=[q (fY.ctr k)]
def E (k:Nat):cE:=en (D k) [] 0 [] k
theorem eq (k:Nat) (a0:List (Ty.den ax)) (a1:Int) (a2:Int):rn (E k) Tryz.f150 (C k) (a0,a1,a2,())=f k a0 a1 a2:=by kernel_rfl
theorem ctr (k:Nat):Cp 150 (C k):=rc rfl (D k) (by kernel_rfl) Tryz.func150 (by kernel_rfl) rfl fun ⟨a0,a1,a2,_⟩ r h=>(eq k a0 a1 a2).trans h
end gd
namespace dc
def C (k:Nat):Cn:=⟨[.val a_,.val (.int .i64),.val (.slice aF),.val (.int .i64)],[a_,(.slice aB),(.int .i64)],true,false,fun x=>f k x.1 x.2.1 x.2.2.1 x.2.2.2.1⟩
def D (k:Nat):List Ce:=[q (aQ.ctr k),q (da.ctr k),q (kD.ctr k),q (c8.ctr k),q (fG.ctr k),q (cA.ctr k),q (gd.ctr k),q (cg.ctr k),q (aU.ctr k)]
def E (k:Nat):cE:=en (D k) [(6,[1,2,3,8,11,12,13,14,15,16])] 0 [] k
section
variable (k:Nat) (a0:Ty.den a_) (a1:Int) (a2:List (Ty.den aF)) (a3:Int)
def K0:Ex→St→Rs:=cC (E k) (eK (E k) Tryz.f211 (C k) (a0,a1,a2,a3,())) [.blk 0,.code (at_ (bt 6 63) (body Tryz.f211))]
def V0 (n0:Nat):T0:=fun x0 x1 x2 x3 x4 x5 x6 x7 x8 x9 x10 x11 x12 x13 x14 x15=>am (bX (E k) (at_ (bt 9 95) (body Tryz.f211))) (ak 0 [1,2,3,8,11,12,13,14,15,16]) (K0 k a0 a1 a2 a3) n0 (mk 101 6 [(1,.int .i64 x0),(2,.sl true aF x1),(3,.int .i64 x2),(8,.ptr 0 0 0),(11,.ref 2),(12,.ptr 3 0 0),(13,.int .i64 x3),(14,.ref 5),(15,.int .i64 x4),(16,.int .i64 x5)] [(1,.own false aF x6),(0,.box [.ref 1,.int .i64 x7,.int .i64 x8,.bool x9]),(2,.own false aB x10),(4,.own false aF x11),(3,.box [.ref 4,.int .i64 x12,.int .i64 x13,.bool x14]),(5,.own false ax x15)])
theorem s0 (n0:Nat):V0 k a0 a1 a2 a3 (n0+1)=b0 k (V0 k a0 a1 a2 a3 n0):=by kernel_rfl
theorem e0:V0 k a0 a1 a2 a3=l0 k:=aS rfl (s0 k a0 a1 a2 a3) fun _=>rfl
end
theorem eq (k:Nat) (a0:Ty.den a_) (a1:Int) (a2:List (Ty.den aF)) (a3:Int):rn (E k) Tryz.f211 (C k) (a0,a1,a2,a3,())=f k a0 a1 a2 a3:=(show _=t k (V0 k a0 a1 a2 a3 k) a0 a1 a2 a3 by kernel_rfl).trans (by rw [e0];rfl)
theorem ctr (k:Nat):Cp 211 (C k):=rc rfl (D k) (by kernel_rfl) Tryz.func211 (by kernel_rfl) rfl fun ⟨a0,a1,a2,a3,_⟩ r h=>(eq k a0 a1 a2 a3).trans h
end dc
namespace bn
def C (k:Nat):Cn:=⟨[.give a_,.val (.slice .str)],[a_,(.int .i64)],true,false,fun x=>f k x.1 x.2.1⟩
def D (k:Nat):List Ce:=[q (bA.ctr k),q (g_.ctr k)]
def E (k:Nat):cE:=en (D k) [(2,[1,2,4,6])] 0 [] k
section
variable (k:Nat) (a0:Ty.den a_) (a1:List ByteArray)
def K0:Ex→St→Rs:=cC (E k) (eK (E k) Tryz.f215 (C k) (a0,a1,())) [.blk 0,.code (at_ (bt 2 3) (body Tryz.f215))]
def V0 (n0:Nat):T0:=fun x0 x1 x2 x3 x4 x5 x6 x7 x8 x9=>am (bX (E k) (at_ (bt 5 5) (body Tryz.f215))) (ak 0 [1,2,4,6]) (K0 k a0 a1) n0 (mk 37 4 [(1,.sl true .str x0),(2,.ptr 0 0 0),(4,.ptr 2 0 0),(6,.int .i64 x1)] [(1,.own false aF x2),(0,.box [.ref 1,.int .i64 x3,.int .i64 x4,.bool x5]),(3,.own false aF x6),(2,.box [.ref 3,.int .i64 x7,.int .i64 x8,.bool x9])])
theorem s0 (n0:Nat):V0 k a0 a1 (n0+1)=b0 k (V0 k a0 a1 n0):=by kernel_rfl
theorem e0:V0 k a0 a1=l0 k:=aS rfl (s0 k a0 a1) fun _=>rfl
end
theorem eq (k:Nat) (a0:Ty.den a_) (a1:List ByteArray):rn (E k) Tryz.f215 (C k) (a0,a1,())=f k a0 a1:=(show _=t k (V0 k a0 a1 k) a0 a1 by kernel_rfl).trans (by rw [e0];rfl)
theorem ctr (k:Nat):Cp 215 (C k):=rc rfl (D k) (by kernel_rfl) Tryz.func215 (by kernel_rfl) rfl fun ⟨a0,a1,_⟩ r h=>(eq k a0 a1).trans h
end bn
namespace dV
def C (k:Nat):Cn:=⟨[.give aE,.give a_,.val (.int .i64),.val (.int .i64)],[aE,a_,(.int .i64)],true,false,fun x=>f k x.1 x.2.1 x.2.2.1 x.2.2.2.1⟩
def D (k:Nat):List Ce:=[q (aQ.ctr k),q (cZ.ctr k),q (bn.ctr k),q (aU.ctr k)]
def E (k:Nat):cE:=en (D k) [] 0 [] k
theorem eq (k:Nat) (a0:Ty.den aE) (a1:Ty.den a_) (a2:Int) (a3:Int):rn (E k) Tryz.f212 (C k) (a0,a1,a2,a3,())=f k a0 a1 a2 a3:=by kernel_rfl
theorem ctr (k:Nat):Cp 212 (C k):=rc rfl (D k) (by kernel_rfl) Tryz.func212 (by kernel_rfl) rfl fun ⟨a0,a1,a2,a3,_⟩ r h=>(eq k a0 a1 a2 a3).trans h
end dV
namespace bf
def C (k:Nat):Cn:=⟨[.give aE,.val a_,.val (.slice aF)],[aE,a_,(.int .i64)],true,false,fun x=>f k x.1 x.2.1 x.2.2.1⟩
def D (k:Nat):List Ce:=[q (dc.ctr k),q (dV.ctr k),q (aQ.ctr k),q (da.ctr k),q (aU.ctr k),q (bF.ctr k),q (di.ctr k),q (cZ.ctr k),q (dN.ctr k),q (gZ.ctr k),q (bn.ctr k),q (eQ.ctr k)]
def E (k:Nat):cE:=en (D k) [(26,[3,6,7,10,18,20])] 0 [] k
section
variable (k:Nat) (a0:Ty.den aE) (a1:Ty.den a_) (a2:List (Ty.den aF))
def K0:Ex→St→Rs:=cC (E k) (eK (E k) Tryz.f182 (C k) (a0,a1,a2,())) [.blk 0,.code (at_ (bt 21 2097151) (body Tryz.f182))]
def V0 (n0:Nat):T0:=fun x0 x1 x2 x3 x4 x5 x6 x7 x8 x9 x10 x11 x12 x13 x14 x15 x16 x17 x18 x19 x20 x21=>am (bX (E k) (at_ (bt 24 3145727) (body Tryz.f182))) (ak 0 [3,6,7,10,18,20]) (K0 k a0 a1 a2) n0 (mk 170 11 [(3,.ptr 0 0 0),(6,.ptr 3 0 0),(7,.ptr 6 0 0),(10,.ptr 8 0 0),(18,.ref 10),(20,.int .i64 x0)] [(1,.own false (.int .i64) x1),(2,.own false aB x2),(0,.box [.int .i64 x3,.ref 1,.ref 2,.int .i64 x4,.int .i64 x5,.int .i64 x6]),(4,.own false (.int .i64) x7),(5,.own false aB x8),(3,.box [.int .i64 x9,.ref 4,.ref 5,.int .i64 x10,.int .i64 x11,.int .i64 x12]),(7,.own false aF x13),(6,.box [.ref 7,.int .i64 x14,.int .i64 x15,.bool x16]),(9,.own false aF x17),(8,.box [.ref 9,.int .i64 x18,.int .i64 x19,.bool x20]),(10,.own false (.int .i64) x21)])
theorem s0 (n0:Nat):V0 k a0 a1 a2 (n0+1)=b0 k (V0 k a0 a1 a2 n0):=by kernel_rfl
theorem e0:V0 k a0 a1 a2=l0 k:=aS rfl (s0 k a0 a1 a2) fun _=>rfl
end
theorem eq (k:Nat) (a0:Ty.den aE) (a1:Ty.den a_) (a2:List (Ty.den aF)):rn (E k) Tryz.f182 (C k) (a0,a1,a2,())=f k a0 a1 a2:=(show _=t k (V0 k a0 a1 a2 k) a0 a1 a2 by kernel_rfl).trans (by rw [e0];rfl)
theorem ctr (k:Nat):Cp 182 (C k):=rc rfl (D k) (by kernel_rfl) Tryz.func182 (by kernel_rfl) rfl fun ⟨a0,a1,a2,_⟩ r h=>(eq k a0 a1 a2).trans h
end bf
namespace jl
def C (k:Nat):Cn:=⟨[.val aE,.val a_],[aE,a_,(.int .i64)],true,false,fun x=>f k x.1 x.2.1⟩
def D (k:Nat):List Ce:=[q (fD.ctr k),q (cL.ctr k),q (bw.ctr k),q (gS.ctr k),q (bf.ctr k)]
def E (k:Nat):cE:=en (D k) [] 0 [] k
theorem eq (k:Nat) (a0:Ty.den aE) (a1:Ty.den a_):rn (E k) Tryz.f114 (C k) (a0,a1,())=f k a0 a1:=by kernel_rfl
theorem ctr (k:Nat):Cp 114 (C k):=rc rfl (D k) (by kernel_rfl) Tryz.func114 (by kernel_rfl) rfl fun ⟨a0,a1,_⟩ r h=>(eq k a0 a1).trans h
end jl
namespace fI
def C (k:Nat):Cn:=⟨[.io false b8,.val (.slice .str)],[.str],true,true,fun x=>f k x.1 x.2.1⟩
def D (k:Nat):List Ce:=[q (aW.ctr k)]
def E (k:Nat):cE:=en (D k) [] 1 [] k
theorem eq (k:Nat) (a0:Ty.den b8) (a1:List ByteArray):rn (E k) Tryz.f120 (C k) (a0,a1,())=f k a0 a1:=by kernel_rfl
theorem ctr (k:Nat):Cp 120 (C k):=rc rfl (D k) (by kernel_rfl) Tryz.func120 (by kernel_rfl) rfl fun ⟨a0,a1,_⟩ r h=>(eq k a0 a1).trans h
end fI
namespace iW
def C (k:Nat):Cn:=⟨[.io false b8],[.str],true,true,fun x=>f k x.1⟩
def D (k:Nat):List Ce:=[q (fI.ctr k)]
def E (k:Nat):cE:=en (D k) [] 1 [] k
theorem eq (k:Nat) (a0:Ty.den b8):rn (E k) Tryz.f148 (C k) (a0,())=f k a0:=by kernel_rfl
theorem ctr (k:Nat):Cp 148 (C k):=rc rfl (D k) (by kernel_rfl) Tryz.func148 (by kernel_rfl) rfl fun ⟨a0,_⟩ r h=>(eq k a0).trans h
end iW
namespace d_
def C (k:Nat):Cn:=⟨[.io false b8,.val (.int .i64)],[.str],true,true,fun x=>f k x.1 x.2.1⟩
def D (k:Nat):List Ce:=[q (aW.ctr k),q (eX.ctr k)]
def E (k:Nat):cE:=en (D k) [(4,[0,5,6,7])] 1 [] k
section
variable (k:Nat) (a0:Ty.den b8) (a1:Int)
def K0:Ex→St→Rs:=cC (E k) (eK (E k) Tryz.f149 (C k) (a0,a1,())) [.blk 0,.code (at_ (bt 4 15) (body Tryz.f149))]
def V0 (n0:Nat):T0:=fun x0 x1 x2 x3 x4 x5=>am (bX (E k) (at_ (bt 7 23) (body Tryz.f149))) (ak 1 [0,5,6,7]) (K0 k a0 a1) n0 (mk 38 2 [(0,.ptr 0 0 0),(5,.ref 1),(6,.int .i64 x0),(7,.int .i64 x1)] [(0,.box [.sl true (.int .u8) x2,.int .i64 x3,.int .i64 x4]),(1,.own false (.int .u8) x5)])
theorem s0 (n0:Nat):V0 k a0 a1 (n0+1)=b0 k (V0 k a0 a1 n0):=by kernel_rfl
theorem e0:V0 k a0 a1=l0 k:=aS rfl (s0 k a0 a1) fun _=>rfl
end
theorem eq (k:Nat) (a0:Ty.den b8) (a1:Int):rn (E k) Tryz.f149 (C k) (a0,a1,())=f k a0 a1:=(show _=t k (V0 k a0 a1 k) a0 a1 by kernel_rfl).trans (by rw [e0];rfl)
theorem ctr (k:Nat):Cp 149 (C k):=rc rfl (D k) (by kernel_rfl) Tryz.func149 (by kernel_rfl) rfl fun ⟨a0,a1,_⟩ r h=>(eq k a0 a1).trans h
end d_
namespace eu
def C (k:Nat):Cn:=⟨[.io false b8],[(.slice g8)],true,true,fun x=>f k x.1⟩
def D (k:Nat):List Ce:=[q (aW.ctr k),q (iW.ctr k),q (d_.ctr k),q (fj.ctr k)]
def E (k:Nat):cE:=en (D k) [(3,[0,3,4])] 1 [] k
section
variable (k:Nat) (a0:Ty.den b8)
def K0:Ex→St→Rs:=cC (E k) (eK (E k) Tryz.f116 (C k) (a0,())) [.blk 0,.code (at_ (bt 3 7) (body Tryz.f116))]
def V0 (n0:Nat):T0:=fun x0 x1 x2 x3 x4=>am (bX (E k) (at_ (bt 6 11) (body Tryz.f116))) (ak 1 [0,3,4]) (K0 k a0) n0 (mk 28 2 [(0,.ptr 0 0 0),(3,.ref 1),(4,.int .i64 x0)] [(0,.box [.sl true (.int .u8) x1,.int .i64 x2,.int .i64 x3]),(1,.own false g8 x4)])
theorem s0 (n0:Nat):V0 k a0 (n0+1)=b0 k (V0 k a0 n0):=by kernel_rfl
theorem e0:V0 k a0=l0 k:=aS rfl (s0 k a0) fun _=>rfl
end
theorem eq (k:Nat) (a0:Ty.den b8):rn (E k) Tryz.f116 (C k) (a0,())=f k a0:=(show _=t k (V0 k a0 k) a0 by kernel_rfl).trans (by rw [e0];rfl)
theorem ctr (k:Nat):Cp 116 (C k):=rc rfl (D k) (by kernel_rfl) Tryz.func116 (by kernel_rfl) rfl fun ⟨a0,_⟩ r h=>(eq k a0).trans h
end eu
namespace ek
def C (k:Nat):Cn:=⟨[.val (.slice g8)],[.bool],true,false,fun x=>f k x.1⟩
def D (k:Nat):List Ce:=[q (dt.ctr k)]
def E (k:Nat):cE:=en (D k) [(4,[0,3])] 0 [] k
section
variable (k:Nat) (a0:List (Ty.den g8))
def K0:Ex→St→Rs:=cC (E k) (eK (E k) Tryz.f183 (C k) (a0,())) [.blk 0,.code (at_ (bt 3 7) (body Tryz.f183))]
def V0 (n0:Nat):T0:=fun x0 x1=>am (bX (E k) (at_ (bt 6 11) (body Tryz.f183))) (ak 0 [0,3]) (K0 k a0) n0 (mk 44 0 [(0,.sl true g8 x0),(3,.int .i64 x1)] [])
theorem s0 (n0:Nat):V0 k a0 (n0+1)=b0 k (V0 k a0 n0):=by kernel_rfl
theorem e0:V0 k a0=l0 k:=aS rfl (s0 k a0) fun _=>rfl
end
theorem eq (k:Nat) (a0:List (Ty.den g8)):rn (E k) Tryz.f183 (C k) (a0,())=f k a0:=(show _=t k (V0 k a0 k) a0 by kernel_rfl).trans (by rw [e0];rfl)
theorem ctr (k:Nat):Cp 183 (C k):=rc rfl (D k) (by kernel_rfl) Tryz.func183 (by kernel_rfl) rfl fun ⟨a0,_⟩ r h=>(eq k a0).trans h
end ek
namespace cq
def C (k:Nat):Cn:=⟨[.val (.slice aB),.val (.slice g8)],[(.int .i64)],true,false,fun x=>f k x.1 x.2.1⟩
def D (k:Nat):List Ce:=[q (co.ctr k),q (bV.ctr k)]
def E (k:Nat):cE:=en (D k) [(2,[0,1,5])] 0 [] k
section
variable (k:Nat) (a0:List (Ty.den aB)) (a1:List (Ty.den g8))
def K0:Ex→St→Rs:=cC (E k) (eK (E k) Tryz.f184 (C k) (a0,a1,())) [.blk 0,.code (at_ (bt 2 3) (body Tryz.f184))]
def V0 (n0:Nat):T0:=fun x0 x1 x2=>am (bX (E k) (at_ (bt 5 5) (body Tryz.f184))) (ak 0 [0,1,5]) (K0 k a0 a1) n0 (mk 34 0 [(0,.sl true aB x0),(1,.sl true g8 x1),(5,.int .i64 x2)] [])
def V1 (n0:Nat):T1:=fun x0 x1 x2=>am (bX (E k) (at_ (bt 5 5) (body Tryz.f184))) (ak 0 [0,1,5]) (K0 k a0 a1) n0 (mk 34 1 [(0,.ref 0),(1,.sl true g8 x0),(5,.int .i64 x1)] [(0,.own false aB x2)])
theorem s0 (n0:Nat):V0 k a0 a1 (n0+1)=b0 k (V1 k a0 a1 n0):=by kernel_rfl
theorem s1 (n0:Nat):V1 k a0 a1 (n0+1)=b1 k (V1 k a0 a1 n0):=by kernel_rfl
theorem e1:V1 k a0 a1=l1 k:=aS rfl (s1 k a0 a1) fun _=>rfl
theorem e0 (n0:Nat):V0 k a0 a1 n0=l0 k n0:=by
 induction n0 with
 | zero=>rfl
 | succ n0 ih =>
  have h:V0 k a0 a1 (n0+1)=b0 k (V1 k a0 a1 n0):=s0 k a0 a1 n0
  rw [h,e1]
  rfl
end
theorem eq (k:Nat) (a0:List (Ty.den aB)) (a1:List (Ty.den g8)):rn (E k) Tryz.f184 (C k) (a0,a1,())=f k a0 a1:=(show _=t k (V0 k a0 a1 k) a0 a1 by kernel_rfl).trans (by rw [e0];rfl)
theorem ctr (k:Nat):Cp 184 (C k):=rc rfl (D k) (by kernel_rfl) Tryz.func184 (by kernel_rfl) rfl fun ⟨a0,a1,_⟩ r h=>(eq k a0 a1).trans h
end cq
namespace ch
def C (k:Nat):Cn:=⟨[.val aE],[.str],true,false,fun x=>f k x.1⟩
def D (k:Nat):List Ce:=[q (aQ.ctr k)]
def E (k:Nat):cE:=en (D k) [] 0 [] k
theorem eq (k:Nat) (a0:Ty.den aE):rn (E k) Tryz.f218 (C k) (a0,())=f k a0:=by kernel_rfl
theorem ctr (k:Nat):Cp 218 (C k):=rc rfl (D k) (by kernel_rfl) Tryz.func218 (by kernel_rfl) rfl fun ⟨a0,_⟩ r h=>(eq k a0).trans h
end ch
namespace fH
def C (k:Nat):Cn:=⟨[.give aE,.give a_],[aE,a_,(.int .i64)],true,false,fun x=>f k x.1 x.2.1⟩
def D (k:Nat):List Ce:=[q (ch.ctr k),q (cg.ctr k),q (aU.ctr k),q (aQ.ctr k),q (da.ctr k),q (eQ.ctr k),q (bn.ctr k)]
def E (k:Nat):cE:=en (D k) [] 0 [] k
theorem eq (k:Nat) (a0:Ty.den aE) (a1:Ty.den a_):rn (E k) Tryz.f227 (C k) (a0,a1,())=f k a0 a1:=by kernel_rfl
theorem ctr (k:Nat):Cp 227 (C k):=rc rfl (D k) (by kernel_rfl) Tryz.func227 (by kernel_rfl) rfl fun ⟨a0,a1,_⟩ r h=>(eq k a0 a1).trans h
end fH
namespace e7
def C (k:Nat):Cn:=⟨[.give aE,.give a_,.val ax],[aE,a_,aD,(.int .i64)],true,false,fun x=>f k x.1 x.2.1 x.2.2.1⟩
def D (k:Nat):List Ce:=[q (c8.ctr k),q (fG.ctr k),q (fH.ctr k),q (ch.ctr k),q (cA.ctr k),q (aU.ctr k)]
def E (k:Nat):cE:=en (D k) [] 0 [] k
theorem eq (k:Nat) (a0:Ty.den aE) (a1:Ty.den a_) (a2:Ty.den ax):rn (E k) Tryz.f217 (C k) (a0,a1,a2,())=f k a0 a1 a2:=by kernel_rfl
theorem ctr (k:Nat):Cp 217 (C k):=rc rfl (D k) (by kernel_rfl) Tryz.func217 (by kernel_rfl) rfl fun ⟨a0,a1,a2,_⟩ r h=>(eq k a0 a1 a2).trans h
end e7
namespace bM
def C (k:Nat):Cn:=⟨[.give aE,.give a_,.give (.slice g8)],[aE,a_,(.int .i64)],true,false,fun x=>f k x.1 x.2.1 x.2.2.1⟩
def D (k:Nat):List Ce:=[q (e7.ctr k),q (gp.ctr k),q (gd.ctr k),q (ch.ctr k),q (cg.ctr k),q (aU.ctr k)]
def E (k:Nat):cE:=en (D k) [(6,[2,3,4,6,7,9,10,11,12])] 0 [] k
section
variable (k:Nat) (a0:Ty.den aE) (a1:Ty.den a_) (a2:List (Ty.den g8))
def K0:Ex→St→Rs:=cC (E k) (eK (E k) Tryz.f185 (C k) (a0,a1,a2,())) [.blk 0,.code (at_ (bt 6 63) (body Tryz.f185))]
def V0 (n0:Nat):T0:=fun x0 x1 x2 x3 x4 x5 x6 x7 x8 x9 x10 x11 x12 x13 x14 x15 x16 x17 x18 x19 x20 x21 x22 x23 x24=>am (bX (E k) (at_ (bt 9 95) (body Tryz.f185))) (ak 0 [2,3,4,6,7,9,10,11,12]) (K0 k a0 a1 a2) n0 (mk 111 13 [(2,.ref 0),(3,.ptr 1 0 0),(4,.ptr 4 0 0),(6,.ptr 6 0 0),(7,.ptr 9 0 0),(9,.int .i64 x0),(10,.ref 11),(11,.ref 12),(12,.int .i64 x1)] [(0,.own false g8 x2),(2,.own false (.int .i64) x3),(3,.own false aB x4),(1,.box [.int .i64 x5,.ref 2,.ref 3,.int .i64 x6,.int .i64 x7,.int .i64 x8]),(5,.own false aF x9),(4,.box [.ref 5,.int .i64 x10,.int .i64 x11,.bool x12]),(7,.own false (.int .i64) x13),(8,.own false aB x14),(6,.box [.int .i64 x15,.ref 7,.ref 8,.int .i64 x16,.int .i64 x17,.int .i64 x18]),(10,.own false aF x19),(9,.box [.ref 10,.int .i64 x20,.int .i64 x21,.bool x22]),(11,.own false ax x23),(12,.own false aB x24)])
theorem s0 (n0:Nat):V0 k a0 a1 a2 (n0+1)=b0 k (V0 k a0 a1 a2 n0):=by kernel_rfl
theorem e0:V0 k a0 a1 a2=l0 k:=aS rfl (s0 k a0 a1 a2) fun _=>rfl
end
theorem eq (k:Nat) (a0:Ty.den aE) (a1:Ty.den a_) (a2:List (Ty.den g8)):rn (E k) Tryz.f185 (C k) (a0,a1,a2,())=f k a0 a1 a2:=(show _=t k (V0 k a0 a1 a2 k) a0 a1 a2 by kernel_rfl).trans (by rw [e0];rfl)
theorem ctr (k:Nat):Cp 185 (C k):=rc rfl (D k) (by kernel_rfl) Tryz.func185 (by kernel_rfl) rfl fun ⟨a0,a1,a2,_⟩ r h=>(eq k a0 a1 a2).trans h
end bM
namespace gj
def C (k:Nat):Cn:=⟨[.val aE,.val a_,.give (.slice g8)],[aE,a_,(.int .i64)],true,false,fun x=>f k x.1 x.2.1 x.2.2.1⟩
def D (k:Nat):List Ce:=[q (fD.ctr k),q (cL.ctr k),q (bw.ctr k),q (ek.ctr k),q (cq.ctr k),q (bM.ctr k)]
def E (k:Nat):cE:=en (D k) [] 0 [] k
theorem eq (k:Nat) (a0:Ty.den aE) (a1:Ty.den a_) (a2:List (Ty.den g8)):rn (E k) Tryz.f115 (C k) (a0,a1,a2,())=f k a0 a1 a2:=by kernel_rfl
theorem ctr (k:Nat):Cp 115 (C k):=rc rfl (D k) (by kernel_rfl) Tryz.func115 (by kernel_rfl) rfl fun ⟨a0,a1,a2,_⟩ r h=>(eq k a0 a1 a2).trans h
end gj
namespace dh
def C (k:Nat):Cn:=⟨[.io false b8],[aE,a_],true,true,fun x=>f k x.1⟩
def D (k:Nat):List Ce:=[q (cO.ctr k),q (er.ctr k),q (b7.ctr k),q (aW.ctr k),q (fj.ctr k),q (jl.ctr k),q (eu.ctr k),q (gj.ctr k)]
def E (k:Nat):cE:=en (D k) [(3,[0,2,3,4,5,7])] 1 [] k
section
variable (k:Nat) (a0:Ty.den b8)
def K0:Ex→St→Rs:=cC (E k) (eK (E k) Tryz.f52 (C k) (a0,())) [.blk 0,.code (at_ (bt 3 7) (body Tryz.f52))]
def V0 (n0:Nat):T0:=fun x0 x1 x2 x3 x4 x5 x6 x7 x8 x9 x10 x11 x12 x13 x14 x15 x16 x17 x18 x19 x20 x21 x22 x23=>am (bX (E k) (at_ (bt 6 11) (body Tryz.f52))) (ak 1 [0,2,3,4,5,7]) (K0 k a0) n0 (mk 60 11 [(0,.ptr 0 0 0),(2,.ptr 1 0 0),(3,.ptr 4 0 0),(4,.ptr 6 0 0),(5,.ptr 9 0 0),(7,.int .i64 x0)] [(0,.box [.sl true (.int .u8) x1,.int .i64 x2,.int .i64 x3]),(2,.own false (.int .i64) x4),(3,.own false aB x5),(1,.box [.int .i64 x6,.ref 2,.ref 3,.int .i64 x7,.int .i64 x8,.int .i64 x9]),(5,.own false aF x10),(4,.box [.ref 5,.int .i64 x11,.int .i64 x12,.bool x13]),(7,.own false (.int .i64) x14),(8,.own false aB x15),(6,.box [.int .i64 x16,.ref 7,.ref 8,.int .i64 x17,.int .i64 x18,.int .i64 x19]),(10,.own false aF x20),(9,.box [.ref 10,.int .i64 x21,.int .i64 x22,.bool x23])])
theorem s0 (n0:Nat):V0 k a0 (n0+1)=b0 k (V0 k a0 n0):=by kernel_rfl
theorem e0:V0 k a0=l0 k:=aS rfl (s0 k a0) fun _=>rfl
end
theorem eq (k:Nat) (a0:Ty.den b8):rn (E k) Tryz.f52 (C k) (a0,())=f k a0:=(show _=t k (V0 k a0 k) a0 by kernel_rfl).trans (by rw [e0];rfl)
theorem ctr (k:Nat):Cp 52 (C k):=rc rfl (D k) (by kernel_rfl) Tryz.func52 (by kernel_rfl) rfl fun ⟨a0,_⟩ r h=>(eq k a0).trans h
end dh
namespace iS
def C (k:Nat):Cn:=⟨[.io false b8],[aB],true,true,fun x=>f k x.1⟩
def D (k:Nat):List Ce:=[q (iW.ctr k),q (aW.ctr k)]
def E (k:Nat):cE:=en (D k) [] 1 [] k
theorem eq (k:Nat) (a0:Ty.den b8):rn (E k) Tryz.f119 (C k) (a0,())=f k a0:=by kernel_rfl
theorem ctr (k:Nat):Cp 119 (C k):=rc rfl (D k) (by kernel_rfl) Tryz.func119 (by kernel_rfl) rfl fun ⟨a0,_⟩ r h=>(eq k a0).trans h
end iS
namespace gP
def C (k:Nat):Cn:=⟨[.io false b8],[(.slice aB)],true,true,fun x=>f k x.1⟩
def D (k:Nat):List Ce:=[q (aW.ctr k),q (iS.ctr k),q (bV.ctr k),q (fj.ctr k),q (fI.ctr k),q (cO.ctr k)]
def E (k:Nat):cE:=en (D k) [(3,[0,3,4])] 1 [] k
section
variable (k:Nat) (a0:Ty.den b8)
def K0:Ex→St→Rs:=cC (E k) (eK (E k) Tryz.f54 (C k) (a0,())) [.blk 0,.code (at_ (bt 3 7) (body Tryz.f54))]
def V0 (n0:Nat):T0:=fun x0 x1 x2 x3 x4=>am (bX (E k) (at_ (bt 6 11) (body Tryz.f54))) (ak 1 [0,3,4]) (K0 k a0) n0 (mk 62 2 [(0,.ptr 0 0 0),(3,.ref 1),(4,.int .i64 x0)] [(0,.box [.sl true (.int .u8) x1,.int .i64 x2,.int .i64 x3]),(1,.own false aB x4)])
theorem s0 (n0:Nat):V0 k a0 (n0+1)=b0 k (V0 k a0 n0):=by kernel_rfl
theorem e0:V0 k a0=l0 k:=aS rfl (s0 k a0) fun _=>rfl
end
theorem eq (k:Nat) (a0:Ty.den b8):rn (E k) Tryz.f54 (C k) (a0,())=f k a0:=(show _=t k (V0 k a0 k) a0 by kernel_rfl).trans (by rw [e0];rfl)
theorem ctr (k:Nat):Cp 54 (C k):=rc rfl (D k) (by kernel_rfl) Tryz.func54 (by kernel_rfl) rfl fun ⟨a0,_⟩ r h=>(eq k a0).trans h
end gP
namespace fm
def C (k:Nat):Cn:=⟨[.io false b8],[.str],true,true,fun x=>f k x.1⟩
def D (k:Nat):List Ce:=[q (fI.ctr k)]
def E (k:Nat):cE:=en (D k) [] 1 [] k
theorem eq (k:Nat) (a0:Ty.den b8):rn (E k) Tryz.f186 (C k) (a0,())=f k a0:=by kernel_rfl
theorem ctr (k:Nat):Cp 186 (C k):=rc rfl (D k) (by kernel_rfl) Tryz.func186 (by kernel_rfl) rfl fun ⟨a0,_⟩ r h=>(eq k a0).trans h
end fm
namespace dk
def C (k:Nat):Cn:=⟨[.io false b8],[a_],true,true,fun x=>f k x.1⟩
def D (k:Nat):List Ce:=[q (er.ctr k),q (aW.ctr k),q (fm.ctr k),q (eY.ctr k),q (d_.ctr k),q (cA.ctr k),q (cg.ctr k),q (fJ.ctr k)]
def E (k:Nat):cE:=en (D k) [(3,[0,2,3,4])] 1 [] k
section
variable (k:Nat) (a0:Ty.den b8)
def K0:Ex→St→Rs:=cC (E k) (eK (E k) Tryz.f121 (C k) (a0,())) [.blk 0,.code (at_ (bt 3 7) (body Tryz.f121))]
def V0 (n0:Nat):T0:=fun x0 x1 x2 x3 x4 x5 x6 x7 x8 x9 x10 x11=>am (bX (E k) (at_ (bt 6 11) (body Tryz.f121))) (ak 1 [0,2,3,4]) (K0 k a0) n0 (mk 57 5 [(0,.ptr 0 0 0),(2,.ptr 1 0 0),(3,.ptr 3 0 0),(4,.int .i64 x0)] [(0,.box [.sl true (.int .u8) x1,.int .i64 x2,.int .i64 x3]),(2,.own false aF x4),(1,.box [.ref 2,.int .i64 x5,.int .i64 x6,.bool x7]),(4,.own false aF x8),(3,.box [.ref 4,.int .i64 x9,.int .i64 x10,.bool x11])])
theorem s0 (n0:Nat):V0 k a0 (n0+1)=b0 k (V0 k a0 n0):=by kernel_rfl
theorem e0:V0 k a0=l0 k:=aS rfl (s0 k a0) fun _=>rfl
end
theorem eq (k:Nat) (a0:Ty.den b8):rn (E k) Tryz.f121 (C k) (a0,())=f k a0:=(show _=t k (V0 k a0 k) a0 by kernel_rfl).trans (by rw [e0];rfl)
theorem ctr (k:Nat):Cp 121 (C k):=rc rfl (D k) (by kernel_rfl) Tryz.func121 (by kernel_rfl) rfl fun ⟨a0,_⟩ r h=>(eq k a0).trans h
end dk
namespace gO
def C (k:Nat):Cn:=⟨[.io false b8],[a_],true,true,fun x=>f k x.1⟩
def D (k:Nat):List Ce:=[q (dk.ctr k),q (aW.ctr k),q (cO.ctr k),q (dP.ctr k),q (fI.ctr k),q (dO.ctr k)]
def E (k:Nat):cE:=en (D k) [(17,[0,2,3,4])] 1 [] k
section
variable (k:Nat) (a0:Ty.den b8)
def K0:Ex→St→Rs:=cC (E k) (eK (E k) Tryz.f56 (C k) (a0,())) [.blk 1,.blk 0,.code (at_ (bt 3 7) (body Tryz.f56))]
def V0 (n0:Nat):T0:=fun x0 x1 x2 x3 x4 x5 x6 x7 x8 x9 x10 x11=>am (bX (E k) (at_ (bt 20 196587) (body Tryz.f56))) (ak 1 [0,2,3,4]) (K0 k a0) n0 (mk 81 5 [(0,.ptr 0 0 0),(2,.ptr 1 0 0),(3,.ptr 3 0 0),(4,.int .i64 x0)] [(0,.box [.sl true (.int .u8) x1,.int .i64 x2,.int .i64 x3]),(2,.own false aF x4),(1,.box [.ref 2,.int .i64 x5,.int .i64 x6,.bool x7]),(4,.own false aF x8),(3,.box [.ref 4,.int .i64 x9,.int .i64 x10,.bool x11])])
theorem s0 (n0:Nat):V0 k a0 (n0+1)=b0 k (V0 k a0 n0):=by kernel_rfl
theorem e0:V0 k a0=l0 k:=aS rfl (s0 k a0) fun _=>rfl
end
theorem eq (k:Nat) (a0:Ty.den b8):rn (E k) Tryz.f56 (C k) (a0,())=f k a0:=(show _=t k (V0 k a0 k) a0 by kernel_rfl).trans (by rw [e0];rfl)
theorem ctr (k:Nat):Cp 56 (C k):=rc rfl (D k) (by kernel_rfl) Tryz.func56 (by kernel_rfl) rfl fun ⟨a0,_⟩ r h=>(eq k a0).trans h
end gO
namespace jB
def C (k:Nat):Cn:=⟨[.io false b8],[aE,a_],true,true,fun x=>f k x.1⟩
def D (k:Nat):List Ce:=[q (dh.ctr k),q (aW.ctr k),q (gP.ctr k),q (cO.ctr k),q (gO.ctr k)]
def E (k:Nat):cE:=en (D k) [] 1 [] k
theorem eq (k:Nat) (a0:Ty.den b8):rn (E k) Tryz.f19 (C k) (a0,())=f k a0:=by kernel_rfl
theorem ctr (k:Nat):Cp 19 (C k):=rc rfl (D k) (by kernel_rfl) Tryz.func19 (by kernel_rfl) rfl fun ⟨a0,_⟩ r h=>(eq k a0).trans h
end jB
namespace gi
def C (k:Nat):Cn:=⟨[.val (.slice (.int .u8))],[aE,a_],true,false,fun x=>f k x.1⟩
def D (k:Nat):List Ce:=[q (fu.ctr k),q (jB.ctr k)]
def E (k:Nat):cE:=en (D k) [] 0 [] k
theorem eq (k:Nat) (a0:List Int):rn (E k) Tryz.f6 (C k) (a0,())=f k a0:=by kernel_rfl
theorem ctr (k:Nat):Cp 6 (C k):=rc rfl (D k) (by kernel_rfl) Tryz.func6 (by kernel_rfl) rfl fun ⟨a0,_⟩ r h=>(eq k a0).trans h
end gi
namespace ib
def C (k:Nat):Cn:=⟨[.val bE],[bE],true,false,fun x=>f k x.1⟩
def E (k:Nat):cE:=en [] [] 0 [] k
theorem eq (k:Nat) (a0:Ty.den bE):rn (E k) Tryz.f57 (C k) (a0,())=f k a0:=by kernel_rfl
theorem ctr (k:Nat):Cp 57 (C k):=rc rfl [] (by kernel_rfl) Tryz.func57 (by kernel_rfl) rfl fun ⟨a0,_⟩ r h=>(eq k a0).trans h
end ib
namespace jJ
def C (k:Nat):Cn:=⟨[.val (.slice aB)],[(.slice aB)],true,false,fun x=>f k x.1⟩
def E (k:Nat):cE:=en [] [] 0 [] k
theorem eq (k:Nat) (a0:List (Ty.den aB)):rn (E k) Tryz.f58 (C k) (a0,())=f k a0:=by kernel_rfl
theorem ctr (k:Nat):Cp 58 (C k):=rc rfl [] (by kernel_rfl) Tryz.func58 (by kernel_rfl) rfl fun ⟨a0,_⟩ r h=>(eq k a0).trans h
end jJ
namespace gf
def C (k:Nat):Cn:=⟨[.val aE],[aE],true,false,fun x=>f k x.1⟩
def D (k:Nat):List Ce:=[q (ib.ctr k),q (jJ.ctr k)]
def E (k:Nat):cE:=en (D k) [] 0 [] k
theorem eq (k:Nat) (a0:Ty.den aE):rn (E k) Tryz.f20 (C k) (a0,())=f k a0:=by kernel_rfl
theorem ctr (k:Nat):Cp 20 (C k):=rc rfl (D k) (by kernel_rfl) Tryz.func20 (by kernel_rfl) rfl fun ⟨a0,_⟩ r h=>(eq k a0).trans h
end gf
namespace cH
def C (k:Nat):Cn:=⟨[.val a_],[a_],true,false,fun x=>f k x.1⟩
def E (k:Nat):cE:=en [] [] 0 [] k
theorem eq (k:Nat) (a0:Ty.den a_):rn (E k) Tryz.f21 (C k) (a0,())=f k a0:=by kernel_rfl
theorem ctr (k:Nat):Cp 21 (C k):=rc rfl [] (by kernel_rfl) Tryz.func21 (by kernel_rfl) rfl fun ⟨a0,_⟩ r h=>(eq k a0).trans h
end cH
namespace fA
def C (k:Nat):Cn:=⟨[.val (.slice aB)],[(.slice .str)],true,false,fun x=>f k x.1⟩
def E (k:Nat):cE:=en [] [(3,[3,6,7,8])] 0 [] k
section
variable (k:Nat) (a0:List (Ty.den aB))
def K0:Ex→St→Rs:=cC (E k) (eK (E k) Tryz.f59 (C k) (a0,())) [.blk 0,.code (at_ (bt 3 7) (body Tryz.f59))]
def V0 (n0:Nat):T0:=fun x0 x1 x2 x3=>am (bX (E k) (at_ (bt 6 11) (body Tryz.f59))) (ak 0 [3,6,7,8]) (K0 k a0) n0 (mk 19 1 [(3,.ref 0),(6,.sl true aB x0),(7,.int .i64 x1),(8,.int .i64 x2)] [(0,.own false .str x3)])
theorem s0 (n0:Nat):V0 k a0 (n0+1)=b0 k (V0 k a0 n0):=by kernel_rfl
theorem e0:V0 k a0=l0 k:=aS rfl (s0 k a0) fun _=>rfl
end
theorem eq (k:Nat) (a0:List (Ty.den aB)):rn (E k) Tryz.f59 (C k) (a0,())=f k a0:=(show _=t k (V0 k a0 k) a0 by kernel_rfl).trans (by rw [e0];rfl)
theorem ctr (k:Nat):Cp 59 (C k):=rc rfl [] (by kernel_rfl) Tryz.func59 (by kernel_rfl) rfl fun ⟨a0,_⟩ r h=>(eq k a0).trans h
end fA
namespace ff
def C (k:Nat):Cn:=⟨[.val (.slice aB),.val .str],[aB,.bool],true,false,fun x=>f k x.1 x.2.1⟩
def E (k:Nat):cE:=en [] [(2,[1,4,8,9,10])] 0 [] k
section
variable (k:Nat) (a0:List (Ty.den aB)) (a1:ByteArray)
def K0:Ex→St→Rs:=cC (E k) (eK (E k) Tryz.f122 (C k) (a0,a1,())) [.blk 0,.code (at_ (bt 2 3) (body Tryz.f122))]
def V0 (n0:Nat):T0:=fun x0 x1 x2 x3 x4 x5 x6 x7 x8=>am (bX (E k) (at_ (bt 5 5) (body Tryz.f122))) (ak 0 [1,4,8,9,10]) (K0 k a0 a1) n0 (mk 21 1 [(1,.str x0),(4,.ptr 0 0 0),(8,.sl true aB x1),(9,.int .i64 x2),(10,.int .i64 x3)] [(0,.box [.str x4,.int .i64 x5,.int .i64 x6,.int .i64 x7,.int .i64 x8])])
theorem s0 (n0:Nat):V0 k a0 a1 (n0+1)=b0 k (V0 k a0 a1 n0):=by kernel_rfl
theorem e0:V0 k a0 a1=l0 k:=aS rfl (s0 k a0 a1) fun _=>rfl
end
theorem eq (k:Nat) (a0:List (Ty.den aB)) (a1:ByteArray):rn (E k) Tryz.f122 (C k) (a0,a1,())=f k a0 a1:=(show _=t k (V0 k a0 a1 k) a0 a1 by kernel_rfl).trans (by rw [e0];rfl)
theorem ctr (k:Nat):Cp 122 (C k):=rc rfl [] (by kernel_rfl) Tryz.func122 (by kernel_rfl) rfl fun ⟨a0,a1,_⟩ r h=>(eq k a0 a1).trans h
end ff
namespace ah
def C (k:Nat):Cn:=⟨[.val (.int .i64),.val (.int .i64),.val (.int .i64)],[.bool],true,false,fun x=>f k x.1 x.2.1 x.2.2.1⟩
def E (k:Nat):cE:=en [] [] 0 [] k
theorem eq (k:Nat) (a0:Int) (a1:Int) (a2:Int):rn (E k) Tryz.f63 (C k) (a0,a1,a2,())=f k a0 a1 a2:=by kernel_rfl
theorem ctr (k:Nat):Cp 63 (C k):=rc rfl [] (by kernel_rfl) Tryz.func63 (by kernel_rfl) rfl fun ⟨a0,a1,a2,_⟩ r h=>(eq k a0 a1 a2).trans h
end ah
namespace m4
def C (k:Nat):Cn:=⟨[.val (.int .i64)],[.str],true,false,fun x=>f k x.1⟩
def D (k:Nat):List Ce:=[q (m6.ctr k)]
def E (k:Nat):cE:=en (D k) [] 0 [] k
theorem eq (k:Nat) (a0:Int):rn (E k) Tryz.f144 (C k) (a0,())=f k a0:=by kernel_rfl
theorem ctr (k:Nat):Cp 144 (C k):=rc rfl (D k) (by kernel_rfl) Tryz.func144 (by kernel_rfl) rfl fun ⟨a0,_⟩ r h=>(eq k a0).trans h
end m4
namespace ic
def C (k:Nat):Cn:=⟨[.val .str,.val (.int .i64)],[.str],true,false,fun x=>f k x.1 x.2.1⟩
def D (k:Nat):List Ce:=[q (ah.ctr k),q (m4.ctr k)]
def E (k:Nat):cE:=en (D k) [] 0 [] k
theorem eq (k:Nat) (a0:ByteArray) (a1:Int):rn (E k) Tryz.f80 (C k) (a0,a1,())=f k a0 a1:=by kernel_rfl
theorem ctr (k:Nat):Cp 80 (C k):=rc rfl (D k) (by kernel_rfl) Tryz.func80 (by kernel_rfl) rfl fun ⟨a0,a1,_⟩ r h=>(eq k a0 a1).trans h
end ic
namespace ao
def C (k:Nat):Cn:=⟨[.val (.int .i64)],[.str],true,false,fun x=>f k x.1⟩
def D (k:Nat):List Ce:=[q (ic.ctr k)]
def E (k:Nat):cE:=en (D k) [] 0 [] k
theorem eq (k:Nat) (a0:Int):rn (E k) Tryz.f32 (C k) (a0,())=f k a0:=by kernel_rfl
theorem ctr (k:Nat):Cp 32 (C k):=rc rfl (D k) (by kernel_rfl) Tryz.func32 (by kernel_rfl) rfl fun ⟨a0,_⟩ r h=>(eq k a0).trans h
end ao
namespace bO
def C (k:Nat):Cn:=⟨[.val a_,.val .str],[(.int .i64)],true,false,fun x=>f k x.1 x.2.1⟩
def E (k:Nat):cE:=en [] [(2,[1,8,9,10])] 0 [] k
section
variable (k:Nat) (a0:Ty.den a_) (a1:ByteArray)
def K0:Ex→St→Rs:=cC (E k) (eK (E k) Tryz.f76 (C k) (a0,a1,())) [.blk 0,.code (at_ (bt 2 3) (body Tryz.f76))]
def V0 (n0:Nat):T0:=fun x0 x1 x2 x3=>am (bX (E k) (at_ (bt 5 5) (body Tryz.f76))) (ak 0 [1,8,9,10]) (K0 k a0 a1) n0 (mk 21 0 [(1,.str x0),(8,.sl true aF x1),(9,.int .i64 x2),(10,.int .i64 x3)] [])
theorem s0 (n0:Nat):V0 k a0 a1 (n0+1)=b0 k (V0 k a0 a1 n0):=by kernel_rfl
theorem e0:V0 k a0 a1=l0 k:=aS rfl (s0 k a0 a1) fun _=>rfl
end
theorem eq (k:Nat) (a0:Ty.den a_) (a1:ByteArray):rn (E k) Tryz.f76 (C k) (a0,a1,())=f k a0 a1:=(show _=t k (V0 k a0 a1 k) a0 a1 by kernel_rfl).trans (by rw [e0];rfl)
theorem ctr (k:Nat):Cp 76 (C k):=rc rfl [] (by kernel_rfl) Tryz.func76 (by kernel_rfl) rfl fun ⟨a0,a1,_⟩ r h=>(eq k a0 a1).trans h
end bO
namespace dl
def C (k:Nat):Cn:=⟨[.val .str],[.bool],true,false,fun x=>f k x.1⟩
def D (k:Nat):List Ce:=[q (ah.ctr k)]
def E (k:Nat):cE:=en (D k) [(2,[0,3])] 0 [] k
section
variable (k:Nat) (a0:ByteArray)
def K0:Ex→St→Rs:=cC (E k) (eK (E k) Tryz.f98 (C k) (a0,())) [.blk 0,.code (at_ (bt 2 3) (body Tryz.f98))]
def V0 (n0:Nat):T0:=fun x0 x1=>am (bX (E k) (at_ (bt 5 5) (body Tryz.f98))) (ak 0 [0,3]) (K0 k a0) n0 (mk 37 0 [(0,.str x0),(3,.int .i64 x1)] [])
theorem s0 (n0:Nat):V0 k a0 (n0+1)=b0 k (V0 k a0 n0):=by kernel_rfl
theorem e0:V0 k a0=l0 k:=aS rfl (s0 k a0) fun _=>rfl
end
theorem eq (k:Nat) (a0:ByteArray):rn (E k) Tryz.f98 (C k) (a0,())=f k a0:=(show _=t k (V0 k a0 k) a0 by kernel_rfl).trans (by rw [e0];rfl)
theorem ctr (k:Nat):Cp 98 (C k):=rc rfl (D k) (by kernel_rfl) Tryz.func98 (by kernel_rfl) rfl fun ⟨a0,_⟩ r h=>(eq k a0).trans h
end dl
namespace bC
def C (k:Nat):Cn:=⟨[.val a_],[.bool],true,false,fun x=>f k x.1⟩
def D (k:Nat):List Ce:=[q (ah.ctr k),q (dl.ctr k)]
def E (k:Nat):cE:=en (D k) [(5,[1,3,23,24,25])] 0 [] k
section
variable (k:Nat) (a0:Ty.den a_)
def K0:Ex→St→Rs:=cC (E k) (eK (E k) Tryz.f39 (C k) (a0,())) [.blk 0,.code (at_ (bt 4 15) (body Tryz.f39))]
def V0 (n0:Nat):T0:=fun x0 x1 x2 x3 x4 x5 x6 x7=>am (bX (E k) (at_ (bt 7 23) (body Tryz.f39))) (ak 0 [1,3,23,24,25]) (K0 k a0) n0 (mk 69 1 [(1,.ptr 0 0 0),(3,.int .i64 x0),(23,.sl true aF x1),(24,.int .i64 x2),(25,.int .i64 x3)] [(0,.box [.sl true aF x4,.int .i64 x5,.int .i64 x6,.bool x7])])
theorem s0 (n0:Nat):V0 k a0 (n0+1)=b0 k (V0 k a0 n0):=by kernel_rfl
theorem e0:V0 k a0=l0 k:=aS rfl (s0 k a0) fun _=>rfl
end
theorem eq (k:Nat) (a0:Ty.den a_):rn (E k) Tryz.f39 (C k) (a0,())=f k a0:=(show _=t k (V0 k a0 k) a0 by kernel_rfl).trans (by rw [e0];rfl)
theorem ctr (k:Nat):Cp 39 (C k):=rc rfl (D k) (by kernel_rfl) Tryz.func39 (by kernel_rfl) rfl fun ⟨a0,_⟩ r h=>(eq k a0).trans h
end bC
namespace cI
def C (k:Nat):Cn:=⟨[.val a_,.val .str],[.str,.bool],true,false,fun x=>f k x.1 x.2.1⟩
def D (k:Nat):List Ce:=[q (bO.ctr k),q (bC.ctr k)]
def E (k:Nat):cE:=en (D k) [] 0 [] k
theorem eq (k:Nat) (a0:Ty.den a_) (a1:ByteArray):rn (E k) Tryz.f29 (C k) (a0,a1,())=f k a0 a1:=by kernel_rfl
theorem ctr (k:Nat):Cp 29 (C k):=rc rfl (D k) (by kernel_rfl) Tryz.func29 (by kernel_rfl) rfl fun ⟨a0,a1,_⟩ r h=>(eq k a0 a1).trans h
end cI
namespace cS
def C (k:Nat):Cn:=⟨[.val .str],[(.int .i64),(.int .i64)],true,false,fun x=>f k x.1⟩
def E (k:Nat):cE:=en [] [(3,[0,4,5])] 0 [] k
section
variable (k:Nat) (a0:ByteArray)
def K0:Ex→St→Rs:=cC (E k) (eK (E k) Tryz.f141 (C k) (a0,())) [.blk 0,.code (at_ (bt 3 7) (body Tryz.f141))]
def V0 (n0:Nat):T0:=fun x0 x1 x2=>am (bX (E k) (at_ (bt 6 11) (body Tryz.f141))) (ak 0 [0,4,5]) (K0 k a0) n0 (mk 39 0 [(0,.str x0),(4,.int .i64 x1),(5,.int .i64 x2)] [])
theorem s0 (n0:Nat):V0 k a0 (n0+1)=b0 k (V0 k a0 n0):=by kernel_rfl
theorem e0:V0 k a0=l0 k:=aS rfl (s0 k a0) fun _=>rfl
end
theorem eq (k:Nat) (a0:ByteArray):rn (E k) Tryz.f141 (C k) (a0,())=f k a0:=(show _=t k (V0 k a0 k) a0 by kernel_rfl).trans (by rw [e0];rfl)
theorem ctr (k:Nat):Cp 141 (C k):=rc rfl [] (by kernel_rfl) Tryz.func141 (by kernel_rfl) rfl fun ⟨a0,_⟩ r h=>(eq k a0).trans h
end cS
namespace fE
def C (k:Nat):Cn:=⟨[.val (.int .i64)],[.str],true,false,fun x=>f k x.1⟩
def D (k:Nat):List Ce:=[q (ah.ctr k)]
def E (k:Nat):cE:=en (D k) [(4,[0,3])] 0 [] k
section
variable (k:Nat) (a0:Int)
def K0:Ex→St→Rs:=cC (E k) (eK (E k) Tryz.f140 (C k) (a0,())) [.blk 0,.code (at_ (bt 4 15) (body Tryz.f140))]
def V0 (n0:Nat):T0:=fun x0 x1=>am (bX (E k) (at_ (bt 6 7) (body Tryz.f140))) (ak 0 [0,3]) (K0 k a0) n0 (mk 24 1 [(0,.int .i64 x0),(3,.ref 0)] [(0,.own false (.int .u8) x1)])
theorem s0 (n0:Nat):V0 k a0 (n0+1)=b0 k (V0 k a0 n0):=by kernel_rfl
theorem e0:V0 k a0=l0 k:=aS rfl (s0 k a0) fun _=>rfl
end
theorem eq (k:Nat) (a0:Int):rn (E k) Tryz.f140 (C k) (a0,())=f k a0:=(show _=t k (V0 k a0 k) a0 by kernel_rfl).trans (by rw [e0];rfl)
theorem ctr (k:Nat):Cp 140 (C k):=rc rfl (D k) (by kernel_rfl) Tryz.func140 (by kernel_rfl) rfl fun ⟨a0,_⟩ r h=>(eq k a0).trans h
end fE
namespace dp
def C (k:Nat):Cn:=⟨[.val .str],[.str],true,false,fun x=>f k x.1⟩
def D (k:Nat):List Ce:=[q (fE.ctr k)]
def E (k:Nat):cE:=en (D k) [] 0 [] k
theorem eq (k:Nat) (a0:ByteArray):rn (E k) Tryz.f135 (C k) (a0,())=f k a0:=by kernel_rfl
theorem ctr (k:Nat):Cp 135 (C k):=rc rfl (D k) (by kernel_rfl) Tryz.func135 (by kernel_rfl) rfl fun ⟨a0,_⟩ r h=>(eq k a0).trans h
end dp
namespace fe
def C (k:Nat):Cn:=⟨[.val .str],[(.int .i64)],true,false,fun x=>f k x.1⟩
def E (k:Nat):cE:=en [] [(3,[0,3,4]),(7,[0,3,4,18])] 0 [] k
section
variable (k:Nat) (a0:ByteArray)
def K0:Ex→St→Rs:=cC (E k) (eK (E k) Tryz.f137 (C k) (a0,())) [.blk 0,.code (at_ (bt 3 7) (body Tryz.f137))]
def B0 (n0:Nat):Ex→St→Rs:=Js (E k) (at_ (bt 6 11) (body Tryz.f137)) 0 [0,3,4] (K0 k a0) n0
def K1 (n0:Nat):Ex→St→Rs:=cC (E k) (B0 k a0 n0) [.blk 2,.blk 1,.code (at_ (bt 8 203) (body Tryz.f137))]
def V0 (n0:Nat):T0:=fun x0 x1 x2=>am (bX (E k) (at_ (bt 6 11) (body Tryz.f137))) (ak 0 [0,3,4]) (K0 k a0) n0 (mk 32 0 [(0,.str x0),(3,.int .u32 x1),(4,.int .i64 x2)] [])
def V1 (n0 n1:Nat):T1:=fun x0 x1 x2 x3=>am (bX (E k) (at_ (bt 13 1611) (body Tryz.f137))) (ak 0 [0,3,4,18]) (K1 k a0 n0) n1 (mk 32 0 [(0,.str x0),(3,.int .u32 x1),(4,.int .i64 x2),(18,.int .i64 x3)] [])
theorem s0 (n0:Nat):V0 k a0 (n0+1)=b0 k (V1 k a0 n0 k) (V0 k a0 n0):=by kernel_rfl
theorem s1 (n0 n1:Nat):V1 k a0 n0 (n1+1)=b1 k (V0 k a0 n0) (V1 k a0 n0 n1):=by kernel_rfl
theorem e1 (n0:Nat):V1 k a0 n0=l1 k (V0 k a0 n0):=aS rfl (s1 k a0 n0) fun _=>rfl
theorem e0 (n0:Nat):V0 k a0 n0=l0 k n0:=by
 induction n0 with
 | zero=>rfl
 | succ n0 ih =>
  have h:V0 k a0 (n0+1)=b0 k (V1 k a0 n0 k) (V0 k a0 n0):=s0 k a0 n0
  rw [h,e1,ih]
  rfl
end
theorem eq (k:Nat) (a0:ByteArray):rn (E k) Tryz.f137 (C k) (a0,())=f k a0:=(show _=t k (V0 k a0 k) a0 by kernel_rfl).trans (by rw [e0];rfl)
theorem ctr (k:Nat):Cp 137 (C k):=rc rfl [] (by kernel_rfl) Tryz.func137 (by kernel_rfl) rfl fun ⟨a0,_⟩ r h=>(eq k a0).trans h
end fe
namespace dJ
def C (k:Nat):Cn:=⟨[.val (.int .i64),.val (.int .i64)],[.str],true,false,fun x=>f k x.1 x.2.1⟩
def D (k:Nat):List Ce:=[q (ah.ctr k)]
def E (k:Nat):cE:=en (D k) [(5,[0,5,6])] 0 [] k
section
variable (k:Nat) (a0:Int) (a1:Int)
def K0:Ex→St→Rs:=cC (E k) (eK (E k) Tryz.f136 (C k) (a0,a1,())) [.blk 0,.code (at_ (bt 4 15) (body Tryz.f136))]
def V0 (n0:Nat):T0:=fun x0 x1 x2=>am (bX (E k) (at_ (bt 7 23) (body Tryz.f136))) (ak 0 [0,5,6]) (K0 k a0 a1) n0 (mk 35 1 [(0,.int .i64 x0),(5,.ref 0),(6,.int .i64 x1)] [(0,.own false (.int .u8) x2)])
theorem s0 (n0:Nat):V0 k a0 a1 (n0+1)=b0 k (V0 k a0 a1 n0):=by kernel_rfl
theorem e0:V0 k a0 a1=l0 k:=aS rfl (s0 k a0 a1) fun _=>rfl
end
theorem eq (k:Nat) (a0:Int) (a1:Int):rn (E k) Tryz.f136 (C k) (a0,a1,())=f k a0 a1:=(show _=t k (V0 k a0 a1 k) a0 a1 by kernel_rfl).trans (by rw [e0];rfl)
theorem ctr (k:Nat):Cp 136 (C k):=rc rfl (D k) (by kernel_rfl) Tryz.func136 (by kernel_rfl) rfl fun ⟨a0,a1,_⟩ r h=>(eq k a0 a1).trans h
end dJ
namespace fw
def C (k:Nat):Cn:=⟨[.val .str],[.str],true,false,fun x=>f k x.1⟩
def D (k:Nat):List Ce:=[q (dp.ctr k),q (fe.ctr k),q (dJ.ctr k)]
def E (k:Nat):cE:=en (D k) [] 0 [] k
theorem eq (k:Nat) (a0:ByteArray):rn (E k) Tryz.f74 (C k) (a0,())=f k a0:=by kernel_rfl
theorem ctr (k:Nat):Cp 74 (C k):=rc rfl (D k) (by kernel_rfl) Tryz.func74 (by kernel_rfl) rfl fun ⟨a0,_⟩ r h=>(eq k a0).trans h
end fw
namespace dU
def C (k:Nat):Cn:=⟨[.val .str],[.str,(.int .i64)],true,false,fun x=>f k x.1⟩
def D (k:Nat):List Ce:=[q (cS.ctr k),q (fw.ctr k)]
def E (k:Nat):cE:=en (D k) [] 0 [] k
theorem eq (k:Nat) (a0:ByteArray):rn (E k) Tryz.f77 (C k) (a0,())=f k a0:=by kernel_rfl
theorem ctr (k:Nat):Cp 77 (C k):=rc rfl (D k) (by kernel_rfl) Tryz.func77 (by kernel_rfl) rfl fun ⟨a0,_⟩ r h=>(eq k a0).trans h
end dU
namespace aZ
def C (k:Nat):Cn:=⟨[.io true jP],[(.int .i64)],true,false,fun x=>f k x.1⟩
def D (k:Nat):List Ce:=[q (cS.ctr k)]
def E (k:Nat):cE:=en (D k) [] 1 [] k
theorem eq (k:Nat) (a0:Ty.den jP):rn (E k) Tryz.f78 (C k) (a0,())=f k a0:=by kernel_rfl
theorem ctr (k:Nat):Cp 78 (C k):=rc rfl (D k) (by kernel_rfl) Tryz.func78 (by kernel_rfl) rfl fun ⟨a0,_⟩ r h=>(eq k a0).trans h
end aZ
namespace au
def C (k:Nat):Cn:=⟨[.io true jP,.val (.int .i64)],[.str],true,false,fun x=>f k x.1 x.2.1⟩
def E (k:Nat):cE:=en [] [] 1 [] k
theorem eq (k:Nat) (a0:Ty.den jP) (a1:Int):rn (E k) Tryz.f147 (C k) (a0,a1,())=f k a0 a1:=by kernel_rfl
theorem ctr (k:Nat):Cp 147 (C k):=rc rfl [] (by kernel_rfl) Tryz.func147 (by kernel_rfl) rfl fun ⟨a0,a1,_⟩ r h=>(eq k a0 a1).trans h
end au
namespace an
def C (k:Nat):Cn:=⟨[.io true jP],[.str],true,false,fun x=>f k x.1⟩
def D (k:Nat):List Ce:=[q (aZ.ctr k),q (au.ctr k)]
def E (k:Nat):cE:=en (D k) [] 1 [] k
theorem eq (k:Nat) (a0:Ty.den jP):rn (E k) Tryz.f145 (C k) (a0,())=f k a0:=by kernel_rfl
theorem ctr (k:Nat):Cp 145 (C k):=rc rfl (D k) (by kernel_rfl) Tryz.func145 (by kernel_rfl) rfl fun ⟨a0,_⟩ r h=>(eq k a0).trans h
end an
namespace gL
def C (k:Nat):Cn:=⟨[.val .str],[.bool],true,false,fun x=>f k x.1⟩
def D (k:Nat):List Ce:=[q (ah.ctr k)]
def E (k:Nat):cE:=en (D k) [] 0 [] k
theorem eq (k:Nat) (a0:ByteArray):rn (E k) Tryz.f123 (C k) (a0,())=f k a0:=by kernel_rfl
theorem ctr (k:Nat):Cp 123 (C k):=rc rfl (D k) (by kernel_rfl) Tryz.func123 (by kernel_rfl) rfl fun ⟨a0,_⟩ r h=>(eq k a0).trans h
end gL
namespace fU
def C (k:Nat):Cn:=⟨[.val ax],[.bool],true,false,fun x=>f k x.1⟩
def D (k:Nat):List Ce:=[q (gL.ctr k),q (ah.ctr k)]
def E (k:Nat):cE:=en (D k) [] 0 [] k
theorem eq (k:Nat) (a0:Ty.den ax):rn (E k) Tryz.f138 (C k) (a0,())=f k a0:=by kernel_rfl
theorem ctr (k:Nat):Cp 138 (C k):=rc rfl (D k) (by kernel_rfl) Tryz.func138 (by kernel_rfl) rfl fun ⟨a0,_⟩ r h=>(eq k a0).trans h
end fU
namespace bZ
def C (k:Nat):Cn:=⟨[.val .str,.val (.int .i64)],[(.int .i64),.bool],true,false,fun x=>f k x.1 x.2.1⟩
def D (k:Nat):List Ce:=[q (ah.ctr k)]
def E (k:Nat):cE:=en (D k) [(5,[0,6,17,18])] 0 [] k
section
variable (k:Nat) (a0:ByteArray) (a1:Int)
def K0:Ex→St→Rs:=cC (E k) (eK (E k) Tryz.f146 (C k) (a0,a1,())) [.blk 0,.code (at_ (bt 4 15) (body Tryz.f146))]
def V0 (n0:Nat):T0:=fun x0 x1 x2 x3=>am (bX (E k) (at_ (bt 7 23) (body Tryz.f146))) (ak 0 [0,6,17,18]) (K0 k a0 a1) n0 (mk 30 0 [(0,.str x0),(6,.int .i64 x1),(17,.int .i64 x2),(18,.int .i64 x3)] [])
theorem s0 (n0:Nat):V0 k a0 a1 (n0+1)=b0 k (V0 k a0 a1 n0):=by kernel_rfl
theorem e0:V0 k a0 a1=l0 k:=aS rfl (s0 k a0 a1) fun _=>rfl
end
theorem eq (k:Nat) (a0:ByteArray) (a1:Int):rn (E k) Tryz.f146 (C k) (a0,a1,())=f k a0 a1:=(show _=t k (V0 k a0 a1 k) a0 a1 by kernel_rfl).trans (by rw [e0];rfl)
theorem ctr (k:Nat):Cp 146 (C k):=rc rfl (D k) (by kernel_rfl) Tryz.func146 (by kernel_rfl) rfl fun ⟨a0,a1,_⟩ r h=>(eq k a0 a1).trans h
end bZ
namespace cT
def C (k:Nat):Cn:=⟨[.val .str],[ax,.bool],true,false,fun x=>f k x.1⟩
def D (k:Nat):List Ce:=[q (aZ.ctr k),q (an.ctr k),q (fU.ctr k),q (au.ctr k),q (bZ.ctr k)]
def E (k:Nat):cE:=en (D k) [] 0 [] k
theorem eq (k:Nat) (a0:ByteArray):rn (E k) Tryz.f81 (C k) (a0,())=f k a0:=by kernel_rfl
theorem ctr (k:Nat):Cp 81 (C k):=rc rfl (D k) (by kernel_rfl) Tryz.func81 (by kernel_rfl) rfl fun ⟨a0,_⟩ r h=>(eq k a0).trans h
end cT
namespace ii
def C (k:Nat):Cn:=⟨[.val .str,.val (.int .i64),.val (.int .i64)],[ax,.bool],true,false,fun x=>f k x.1 x.2.1 x.2.2.1⟩
def D (k:Nat):List Ce:=[q (ah.ctr k),q (dU.ctr k),q (cT.ctr k)]
def E (k:Nat):cE:=en (D k) [] 0 [] k
theorem eq (k:Nat) (a0:ByteArray) (a1:Int) (a2:Int):rn (E k) Tryz.f64 (C k) (a0,a1,a2,())=f k a0 a1 a2:=by kernel_rfl
theorem ctr (k:Nat):Cp 64 (C k):=rc rfl (D k) (by kernel_rfl) Tryz.func64 (by kernel_rfl) rfl fun ⟨a0,a1,a2,_⟩ r h=>(eq k a0 a1 a2).trans h
end ii
namespace mA
def C (k:Nat):Cn:=⟨[.val aE,.val a_,.val .str],[aF,(.int .i64)],true,false,fun x=>f k x.1 x.2.1 x.2.2.1⟩
def D (k:Nat):List Ce:=[q (ff.ctr k),q (ao.ctr k),q (cI.ctr k),q (ii.ctr k)]
def E (k:Nat):cE:=en (D k) [] 0 [] k
theorem eq (k:Nat) (a0:Ty.den aE) (a1:Ty.den a_) (a2:ByteArray):rn (E k) Tryz.f60 (C k) (a0,a1,a2,())=f k a0 a1 a2:=by kernel_rfl
theorem ctr (k:Nat):Cp 60 (C k):=rc rfl (D k) (by kernel_rfl) Tryz.func60 (by kernel_rfl) rfl fun ⟨a0,a1,a2,_⟩ r h=>(eq k a0 a1 a2).trans h
end mA
namespace gJ
def C (k:Nat):Cn:=⟨[.val aE,.val a_],[(.slice aF),(.int .i64)],true,false,fun x=>f k x.1 x.2.1⟩
def D (k:Nat):List Ce:=[q (fA.ctr k),q (mA.ctr k)]
def E (k:Nat):cE:=en (D k) [(3,[2,3,6,13,14,15])] 0 [] k
section
variable (k:Nat) (a0:Ty.den aE) (a1:Ty.den a_)
def K0:Ex→St→Rs:=cC (E k) (eK (E k) Tryz.f22 (C k) (a0,a1,())) [.blk 0,.code (at_ (bt 3 7) (body Tryz.f22))]
def V0 (n0:Nat):T0:=fun x0 x1 x2 x3 x4 x5 x6 x7 x8 x9 x10 x11 x12 x13=>am (bX (E k) (at_ (bt 6 11) (body Tryz.f22))) (ak 0 [2,3,6,13,14,15]) (K0 k a0 a1) n0 (mk 35 4 [(2,.ptr 0 0 0),(3,.ptr 1 0 0),(6,.ref 2),(13,.ref 3),(14,.int .i64 x0),(15,.int .i64 x1)] [(0,.box [.int .i64 x2,.sl true (.int .i64) x3,.sl true aB x4,.int .i64 x5,.int .i64 x6,.int .i64 x7]),(1,.box [.sl true aF x8,.int .i64 x9,.int .i64 x10,.bool x11]),(2,.own false aF x12),(3,.own false .str x13)])
theorem s0 (n0:Nat):V0 k a0 a1 (n0+1)=b0 k (V0 k a0 a1 n0):=by kernel_rfl
theorem e0:V0 k a0 a1=l0 k:=aS rfl (s0 k a0 a1) fun _=>rfl
end
theorem eq (k:Nat) (a0:Ty.den aE) (a1:Ty.den a_):rn (E k) Tryz.f22 (C k) (a0,a1,())=f k a0 a1:=(show _=t k (V0 k a0 a1 k) a0 a1 by kernel_rfl).trans (by rw [e0];rfl)
theorem ctr (k:Nat):Cp 22 (C k):=rc rfl (D k) (by kernel_rfl) Tryz.func22 (by kernel_rfl) rfl fun ⟨a0,a1,_⟩ r h=>(eq k a0 a1).trans h
end gJ
namespace cU
def C (k:Nat):Cn:=⟨[.val bE],[.bool],true,false,fun x=>f k x.1⟩
def D (k:Nat):List Ce:=[q (ah.ctr k)]
def E (k:Nat):cE:=en (D k) [(2,[1,6,7,8])] 0 [] k
section
variable (k:Nat) (a0:Ty.den bE)
def K0:Ex→St→Rs:=cC (E k) (eK (E k) Tryz.f61 (C k) (a0,())) [.blk 0,.code (at_ (bt 2 3) (body Tryz.f61))]
def V0 (n0:Nat):T0:=fun x0 x1 x2 x3 x4=>am (bX (E k) (at_ (bt 5 5) (body Tryz.f61))) (ak 0 [1,6,7,8]) (K0 k a0) n0 (mk 43 1 [(1,.ptr 0 0 0),(6,.sl true (.int .i64) x0),(7,.int .i64 x1),(8,.int .i64 x2)] [(0,.box [.int .i64 x3,.sl true (.int .i64) x4])])
theorem s0 (n0:Nat):V0 k a0 (n0+1)=b0 k (V0 k a0 n0):=by kernel_rfl
theorem e0:V0 k a0=l0 k:=aS rfl (s0 k a0) fun _=>rfl
end
theorem eq (k:Nat) (a0:Ty.den bE):rn (E k) Tryz.f61 (C k) (a0,())=f k a0:=(show _=t k (V0 k a0 k) a0 by kernel_rfl).trans (by rw [e0];rfl)
theorem ctr (k:Nat):Cp 61 (C k):=rc rfl (D k) (by kernel_rfl) Tryz.func61 (by kernel_rfl) rfl fun ⟨a0,_⟩ r h=>(eq k a0).trans h
end cU
namespace dw
def C (k:Nat):Cn:=⟨[.val (.slice aB)],[.bool],true,false,fun x=>f k x.1⟩
def D (k:Nat):List Ce:=[q (gL.ctr k),q (ah.ctr k)]
def E (k:Nat):cE:=en (D k) [(2,[0,5,6,7])] 0 [] k
section
variable (k:Nat) (a0:List (Ty.den aB))
def K0:Ex→St→Rs:=cC (E k) (eK (E k) Tryz.f62 (C k) (a0,())) [.blk 0,.code (at_ (bt 2 3) (body Tryz.f62))]
def V0 (n0:Nat):T0:=fun x0 x1 x2 x3=>am (bX (E k) (at_ (bt 5 5) (body Tryz.f62))) (ak 0 [0,5,6,7]) (K0 k a0) n0 (mk 58 0 [(0,.sl true aB x0),(5,.sl true aB x1),(6,.int .i64 x2),(7,.int .i64 x3)] [])
theorem s0 (n0:Nat):V0 k a0 (n0+1)=b0 k (V0 k a0 n0):=by kernel_rfl
theorem e0:V0 k a0=l0 k:=aS rfl (s0 k a0) fun _=>rfl
end
theorem eq (k:Nat) (a0:List (Ty.den aB)):rn (E k) Tryz.f62 (C k) (a0,())=f k a0:=(show _=t k (V0 k a0 k) a0 by kernel_rfl).trans (by rw [e0];rfl)
theorem ctr (k:Nat):Cp 62 (C k):=rc rfl (D k) (by kernel_rfl) Tryz.func62 (by kernel_rfl) rfl fun ⟨a0,_⟩ r h=>(eq k a0).trans h
end dw
namespace cX
def C (k:Nat):Cn:=⟨[.val .str],[(.slice b9),(.int .i64)],true,false,fun x=>f k x.1⟩
def D (k:Nat):List Ce:=[q (dU.ctr k),q (cT.ctr k)]
def E (k:Nat):cE:=en (D k) [(3,[0,4,5])] 0 [] k
section
variable (k:Nat) (a0:ByteArray)
def K0:Ex→St→Rs:=cC (E k) (eK (E k) Tryz.f33 (C k) (a0,())) [.blk 0]
def V0 (n0:Nat):T0:=fun x0 x1 x2=>am (bX (E k) (at_ (bt 5 7) (body Tryz.f33))) (ak 0 [0,4,5]) (K0 k a0) n0 (mk 40 1 [(0,.str x0),(4,.ref 0),(5,.int .i64 x1)] [(0,.own false b9 x2)])
theorem s0 (n0:Nat):V0 k a0 (n0+1)=b0 k (V0 k a0 n0):=by kernel_rfl
theorem e0:V0 k a0=l0 k:=aS rfl (s0 k a0) fun _=>rfl
end
theorem eq (k:Nat) (a0:ByteArray):rn (E k) Tryz.f33 (C k) (a0,())=f k a0:=(show _=t k (V0 k a0 k) a0 by kernel_rfl).trans (by rw [e0];rfl)
theorem ctr (k:Nat):Cp 33 (C k):=rc rfl (D k) (by kernel_rfl) Tryz.func33 (by kernel_rfl) rfl fun ⟨a0,_⟩ r h=>(eq k a0).trans h
end cX
namespace bz
def C (k:Nat):Cn:=⟨[.val aE,.val a_],[.bool],true,false,fun x=>f k x.1 x.2.1⟩
def D (k:Nat):List Ce:=[q (bC.ctr k),q (cU.ctr k),q (dw.ctr k),q (ah.ctr k),q (ao.ctr k),q (cI.ctr k),q (cX.ctr k),q (ii.ctr k)]
def E (k:Nat):cE:=en (D k) [(4,[2,3,40,41,42]),(12,[2,3,84,85,86])] 0 [] k
section
variable (k:Nat) (a0:Ty.den aE) (a1:Ty.den a_)
def K0:Ex→St→Rs:=cC (E k) (eK (E k) Tryz.f23 (C k) (a0,a1,())) [.blk 0,.code (at_ (bt 3 7) (body Tryz.f23))]
def K1:Ex→St→Rs:=cC (E k) (eK (E k) Tryz.f23 (C k) (a0,a1,())) [.blk 2,.code (at_ (bt 4 15) (body Tryz.f23))]
def V0 (n0:Nat):T0:=fun x0 x1 x2 x3 x4 x5 x6 x7 x8 x9 x10 x11 x12=>am (bX (E k) (at_ (bt 6 11) (body Tryz.f23))) (ak 0 [2,3,40,41,42]) (K0 k a0 a1) n0 (mk 141 2 [(2,.ptr 0 0 0),(3,.ptr 1 0 0),(40,.sl true (.int .i64) x0),(41,.int .i64 x1),(42,.int .i64 x2)] [(0,.box [.int .i64 x3,.sl true (.int .i64) x4,.sl true aB x5,.int .i64 x6,.int .i64 x7,.int .i64 x8]),(1,.box [.sl true aF x9,.int .i64 x10,.int .i64 x11,.bool x12])])
def V1 (n1:Nat):T1:=fun x0 x1 x2 x3 x4 x5 x6 x7 x8 x9 x10 x11 x12=>am (bX (E k) (at_ (bt 7 23) (body Tryz.f23))) (ak 0 [2,3,84,85,86]) (K1 k a0 a1) n1 (mk 141 2 [(2,.ptr 0 0 0),(3,.ptr 1 0 0),(84,.sl true aB x0),(85,.int .i64 x1),(86,.int .i64 x2)] [(0,.box [.int .i64 x3,.sl true (.int .i64) x4,.sl true aB x5,.int .i64 x6,.int .i64 x7,.int .i64 x8]),(1,.box [.sl true aF x9,.int .i64 x10,.int .i64 x11,.bool x12])])
theorem s0 (n0:Nat):V0 k a0 a1 (n0+1)=b0 k (V1 k a0 a1 k) (V0 k a0 a1 n0):=by kernel_rfl
theorem s1 (n1:Nat):V1 k a0 a1 (n1+1)=b1 k (V1 k a0 a1 n1):=by kernel_rfl
theorem e1:V1 k a0 a1=l1 k:=aS rfl (s1 k a0 a1) fun _=>rfl
theorem e0 (n0:Nat):V0 k a0 a1 n0=l0 k n0:=by
 induction n0 with
 | zero=>rfl
 | succ n0 ih =>
  have h:V0 k a0 a1 (n0+1)=b0 k (V1 k a0 a1 k) (V0 k a0 a1 n0):=s0 k a0 a1 n0
  rw [h,e1,ih]
  rfl
end
theorem eq (k:Nat) (a0:Ty.den aE) (a1:Ty.den a_):rn (E k) Tryz.f23 (C k) (a0,a1,())=f k a0 a1:=(show _=t k (V0 k a0 a1 k) a0 a1 by kernel_rfl).trans (by rw [e0];rfl)
theorem ctr (k:Nat):Cp 23 (C k):=rc rfl (D k) (by kernel_rfl) Tryz.func23 (by kernel_rfl) rfl fun ⟨a0,a1,_⟩ r h=>(eq k a0 a1).trans h
end bz
namespace d6
def C (k:Nat):Cn:=⟨[.val (.slice (.int .i64))],[.str],true,false,fun x=>f k x.1⟩
def D (k:Nat):List Ce:=[q (fE.ctr k)]
def E (k:Nat):cE:=en (D k) [(3,[3,6,7,8])] 0 [] k
section
variable (k:Nat) (a0:List Int)
def K0:Ex→St→Rs:=cC (E k) (eK (E k) Tryz.f139 (C k) (a0,())) [.blk 0,.code (at_ (bt 3 7) (body Tryz.f139))]
def V0 (n0:Nat):T0:=fun x0 x1 x2 x3=>am (bX (E k) (at_ (bt 6 11) (body Tryz.f139))) (ak 0 [3,6,7,8]) (K0 k a0) n0 (mk 18 0 [(3,.str x0),(6,.sl true (.int .i64) x1),(7,.int .i64 x2),(8,.int .i64 x3)] [])
theorem s0 (n0:Nat):V0 k a0 (n0+1)=b0 k (V0 k a0 n0):=by kernel_rfl
theorem e0:V0 k a0=l0 k:=aS rfl (s0 k a0) fun _=>rfl
end
theorem eq (k:Nat) (a0:List Int):rn (E k) Tryz.f139 (C k) (a0,())=f k a0:=(show _=t k (V0 k a0 k) a0 by kernel_rfl).trans (by rw [e0];rfl)
theorem ctr (k:Nat):Cp 139 (C k):=rc rfl (D k) (by kernel_rfl) Tryz.func139 (by kernel_rfl) rfl fun ⟨a0,_⟩ r h=>(eq k a0).trans h
end d6
namespace fQ
def C (k:Nat):Cn:=⟨[.val ax],[.str],true,false,fun x=>f k x.1⟩
def D (k:Nat):List Ce:=[q (fU.ctr k),q (d6.ctr k),q (dp.ctr k),q (fE.ctr k),q (dJ.ctr k)]
def E (k:Nat):cE:=en (D k) [] 0 [] k
theorem eq (k:Nat) (a0:Ty.den ax):rn (E k) Tryz.f75 (C k) (a0,())=f k a0:=by kernel_rfl
theorem ctr (k:Nat):Cp 75 (C k):=rc rfl (D k) (by kernel_rfl) Tryz.func75 (by kernel_rfl) rfl fun ⟨a0,_⟩ r h=>(eq k a0).trans h
end fQ
namespace gT
def C (k:Nat):Cn:=⟨[.val (.slice ax)],[(.int .i64)],true,false,fun x=>f k x.1⟩
def D (k:Nat):List Ce:=[q (fQ.ctr k),q (fe.ctr k)]
def E (k:Nat):cE:=en (D k) [(3,[3,6,7,8])] 0 [] k
section
variable (k:Nat) (a0:List (Ty.den ax))
def K0:Ex→St→Rs:=cC (E k) (eK (E k) Tryz.f126 (C k) (a0,())) [.blk 0,.code (at_ (bt 3 7) (body Tryz.f126))]
def V0 (n0:Nat):T0:=fun x0 x1 x2 x3=>am (bX (E k) (at_ (bt 6 11) (body Tryz.f126))) (ak 0 [3,6,7,8]) (K0 k a0) n0 (mk 19 0 [(3,.str x0),(6,.sl true ax x1),(7,.int .i64 x2),(8,.int .i64 x3)] [])
theorem s0 (n0:Nat):V0 k a0 (n0+1)=b0 k (V0 k a0 n0):=by kernel_rfl
theorem e0:V0 k a0=l0 k:=aS rfl (s0 k a0) fun _=>rfl
end
theorem eq (k:Nat) (a0:List (Ty.den ax)):rn (E k) Tryz.f126 (C k) (a0,())=f k a0:=(show _=t k (V0 k a0 k) a0 by kernel_rfl).trans (by rw [e0];rfl)
theorem ctr (k:Nat):Cp 126 (C k):=rc rfl (D k) (by kernel_rfl) Tryz.func126 (by kernel_rfl) rfl fun ⟨a0,_⟩ r h=>(eq k a0).trans h
end gT
namespace fZ
def C (k:Nat):Cn:=⟨[.val (.slice aF),.val (.int .i64)],[(.slice ax)],true,false,fun x=>f k x.1 x.2.1⟩
def D (k:Nat):List Ce:=[q (gT.ctr k)]
def E (k:Nat):cE:=en (D k) [(3,[0,1,5,8,9,10])] 0 [] k
section
variable (k:Nat) (a0:List (Ty.den aF)) (a1:Int)
def K0:Ex→St→Rs:=cC (E k) (eK (E k) Tryz.f66 (C k) (a0,a1,())) [.blk 0,.code (at_ (bt 3 7) (body Tryz.f66))]
def V0 (n0:Nat):T0:=fun x0 x1 x2 x3 x4 x5=>am (bX (E k) (at_ (bt 6 11) (body Tryz.f66))) (ak 0 [0,1,5,8,9,10]) (K0 k a0 a1) n0 (mk 34 1 [(0,.sl true aF x0),(1,.int .i64 x1),(5,.ref 0),(8,.sl true aF x2),(9,.int .i64 x3),(10,.int .i64 x4)] [(0,.own false ax x5)])
theorem s0 (n0:Nat):V0 k a0 a1 (n0+1)=b0 k (V0 k a0 a1 n0):=by kernel_rfl
theorem e0:V0 k a0 a1=l0 k:=aS rfl (s0 k a0 a1) fun _=>rfl
end
theorem eq (k:Nat) (a0:List (Ty.den aF)) (a1:Int):rn (E k) Tryz.f66 (C k) (a0,a1,())=f k a0 a1:=(show _=t k (V0 k a0 a1 k) a0 a1 by kernel_rfl).trans (by rw [e0];rfl)
theorem ctr (k:Nat):Cp 66 (C k):=rc rfl (D k) (by kernel_rfl) Tryz.func66 (by kernel_rfl) rfl fun ⟨a0,a1,_⟩ r h=>(eq k a0 a1).trans h
end fZ
namespace e6
def C (k:Nat):Cn:=⟨[.io true a_,.val .str],[],true,false,fun x=>f k x.1 x.2.1⟩
def D (k:Nat):List Ce:=[q (bO.ctr k)]
def E (k:Nat):cE:=en (D k) [] 1 [] k
theorem eq (k:Nat) (a0:Ty.den a_) (a1:ByteArray):rn (E k) Tryz.f193 (C k) (a0,a1,())=f k a0 a1:=by kernel_rfl
theorem ctr (k:Nat):Cp 193 (C k):=rc rfl (D k) (by kernel_rfl) Tryz.func193 (by kernel_rfl) rfl fun ⟨a0,a1,_⟩ r h=>(eq k a0 a1).trans h
end e6
namespace fN
def C (k:Nat):Cn:=⟨[.io true a_,.io true .str],[(.int .i64)],true,false,fun x=>f k x.1 x.2.1⟩
def D (k:Nat):List Ce:=[q (bO.ctr k),q (e6.ctr k)]
def E (k:Nat):cE:=en (D k) [] 2 [] k
theorem eq (k:Nat) (a0:Ty.den a_) (a1:ByteArray):rn (E k) Tryz.f192 (C k) (a0,a1,())=f k a0 a1:=by kernel_rfl
theorem ctr (k:Nat):Cp 192 (C k):=rc rfl (D k) (by kernel_rfl) Tryz.func192 (by kernel_rfl) rfl fun ⟨a0,a1,_⟩ r h=>(eq k a0 a1).trans h
end fN
namespace fS
def C (k:Nat):Cn:=⟨[.val a_,.fn 192 1,.io true .str],[a_,(.int .i64)],true,false,fun x=>f k x.1 x.2.1⟩
def D (k:Nat):List Ce:=[q (cH.ctr k),q (bC.ctr k),q (fN.ctr k)]
def E (k:Nat):cE:=en (D k) [] 1 [] k
theorem eq (k:Nat) (a0:Ty.den a_) (a1:ByteArray):rn (E k) Tryz.f160 (C k) (a0,a1,())=f k a0 a1:=by kernel_rfl
theorem ctr (k:Nat):Cp 160 (C k):=rc rfl (D k) (by kernel_rfl) Tryz.func160 (by kernel_rfl) rfl fun ⟨a0,a1,_⟩ r h=>(eq k a0 a1).trans h
end fS
namespace jC
def C (k:Nat):Cn:=⟨[.val a_,.val .str],[a_,(.int .i64)],true,false,fun x=>f k x.1 x.2.1⟩
def D (k:Nat):List Ce:=[q (fS.ctr k)]
def E (k:Nat):cE:=en (D k) [] 0 [] k
theorem eq (k:Nat) (a0:Ty.den a_) (a1:ByteArray):rn (E k) Tryz.f132 (C k) (a0,a1,())=f k a0 a1:=by kernel_rfl
theorem ctr (k:Nat):Cp 132 (C k):=rc rfl (D k) (by kernel_rfl) Tryz.func132 (by kernel_rfl) rfl fun ⟨a0,a1,_⟩ r h=>(eq k a0 a1).trans h
end jC
namespace l6
def C (k:Nat):Cn:=⟨[.val (.int .i64)],[(.int .i64)],true,false,fun x=>f k x.1⟩
def E (k:Nat):cE:=en [] [] 0 [] k
theorem eq (k:Nat) (a0:Int):rn (E k) Tryz.f159 (C k) (a0,())=f k a0:=by kernel_rfl
theorem ctr (k:Nat):Cp 159 (C k):=rc rfl [] (by kernel_rfl) Tryz.func159 (by kernel_rfl) rfl fun ⟨a0,_⟩ r h=>(eq k a0).trans h
end l6
namespace ar
def C (k:Nat):Cn:=⟨[.io true az,.give a_,.val (.int .i64)],[],true,false,fun x=>f k x.1 x.2.1 x.2.2.1⟩
def D (k:Nat):List Ce:=[q (l6.ctr k)]
def E (k:Nat):cE:=en (D k) [] 1 [] k
theorem eq (k:Nat) (a0:Ty.den az) (a1:Ty.den a_) (a2:Int):rn (E k) Tryz.f100 (C k) (a0,a1,a2,())=f k a0 a1 a2:=by kernel_rfl
theorem ctr (k:Nat):Cp 100 (C k):=rc rfl (D k) (by kernel_rfl) Tryz.func100 (by kernel_rfl) rfl fun ⟨a0,a1,a2,_⟩ r h=>(eq k a0 a1 a2).trans h
end ar
namespace bB
def C (k:Nat):Cn:=⟨[.io true az,.val .str],[],true,false,fun x=>f k x.1 x.2.1⟩
def D (k:Nat):List Ce:=[q (bO.ctr k),q (jC.ctr k),q (ar.ctr k)]
def E (k:Nat):cE:=en (D k) [] 1 [] k
theorem eq (k:Nat) (a0:Ty.den az) (a1:ByteArray):rn (E k) Tryz.f71 (C k) (a0,a1,())=f k a0 a1:=by kernel_rfl
theorem ctr (k:Nat):Cp 71 (C k):=rc rfl (D k) (by kernel_rfl) Tryz.func71 (by kernel_rfl) rfl fun ⟨a0,a1,_⟩ r h=>(eq k a0 a1).trans h
end bB
namespace ck
def C (k:Nat):Cn:=⟨[.io true a_,.val aF],[],true,false,fun x=>f k x.1 x.2.1⟩
def E (k:Nat):cE:=en [] [(2,[0,3,4])] 1 [] k
section
variable (k:Nat) (a0:Ty.den a_) (a1:Ty.den aF)
def K0:Ex→St→Rs:=cC (E k) (eK (E k) Tryz.f204 (C k) (a0,a1,())) [.blk 0,.code (at_ (bt 3 7) (body Tryz.f204))]
def V0 (n0:Nat):T0:=fun x0 x1 x2 x3 x4 x5 x6 x7=>am (bX (E k) (at_ (bt 5 3) (body Tryz.f204))) (ak 1 [0,3,4]) (K0 k a0 a1) n0 (mk 47 3 [(0,.ptr 0 0 0),(3,.ptr 2 0 0),(4,.int .i64 x0)] [(1,.own false aF x1),(0,.box [.ref 1,.int .i64 x2,.int .i64 x3,.bool x4]),(2,.box [.str x5,.str x6,.int .i64 x7])])
theorem s0 (n0:Nat):V0 k a0 a1 (n0+1)=b0 k (V0 k a0 a1 n0):=by kernel_rfl
theorem e0:V0 k a0 a1=l0 k:=aS rfl (s0 k a0 a1) fun _=>rfl
end
theorem eq (k:Nat) (a0:Ty.den a_) (a1:Ty.den aF):rn (E k) Tryz.f204 (C k) (a0,a1,())=f k a0 a1:=(show _=t k (V0 k a0 a1 k) a0 a1 by kernel_rfl).trans (by rw [e0];rfl)
theorem ctr (k:Nat):Cp 204 (C k):=rc rfl [] (by kernel_rfl) Tryz.func204 (by kernel_rfl) rfl fun ⟨a0,a1,_⟩ r h=>(eq k a0 a1).trans h
end ck
namespace fM
def C (k:Nat):Cn:=⟨[.io true a_,.io true .str],[(.int .i64)],true,false,fun x=>f k x.1 x.2.1⟩
def D (k:Nat):List Ce:=[q (dl.ctr k),q (bO.ctr k),q (ck.ctr k)]
def E (k:Nat):cE:=en (D k) [] 2 [] k
theorem eq (k:Nat) (a0:Ty.den a_) (a1:ByteArray):rn (E k) Tryz.f203 (C k) (a0,a1,())=f k a0 a1:=by kernel_rfl
theorem ctr (k:Nat):Cp 203 (C k):=rc rfl (D k) (by kernel_rfl) Tryz.func203 (by kernel_rfl) rfl fun ⟨a0,a1,_⟩ r h=>(eq k a0 a1).trans h
end fM
namespace fa
def C (k:Nat):Cn:=⟨[.val a_,.fn 203 1,.io true .str],[a_,(.int .i64)],true,false,fun x=>f k x.1 x.2.1⟩
def D (k:Nat):List Ce:=[q (cH.ctr k),q (bC.ctr k),q (fM.ctr k)]
def E (k:Nat):cE:=en (D k) [] 1 [] k
theorem eq (k:Nat) (a0:Ty.den a_) (a1:ByteArray):rn (E k) Tryz.f160 (C k) (a0,a1,())=f k a0 a1:=by kernel_rfl
theorem ctr (k:Nat):Cp 160 (C k):=rc rfl (D k) (by kernel_rfl) Tryz.func160 (by kernel_rfl) rfl fun ⟨a0,a1,_⟩ r h=>(eq k a0 a1).trans h
end fa
namespace j7
def C (k:Nat):Cn:=⟨[.val a_,.val .str],[a_,(.int .i64)],true,false,fun x=>f k x.1 x.2.1⟩
def D (k:Nat):List Ce:=[q (fa.ctr k)]
def E (k:Nat):cE:=en (D k) [] 0 [] k
theorem eq (k:Nat) (a0:Ty.den a_) (a1:ByteArray):rn (E k) Tryz.f166 (C k) (a0,a1,())=f k a0 a1:=by kernel_rfl
theorem ctr (k:Nat):Cp 166 (C k):=rc rfl (D k) (by kernel_rfl) Tryz.func166 (by kernel_rfl) rfl fun ⟨a0,a1,_⟩ r h=>(eq k a0 a1).trans h
end j7
namespace eJ
def C (k:Nat):Cn:=⟨[.io true az,.val .str],[],true,false,fun x=>f k x.1 x.2.1⟩
def D (k:Nat):List Ce:=[q (j7.ctr k),q (ar.ctr k)]
def E (k:Nat):cE:=en (D k) [] 1 [] k
theorem eq (k:Nat) (a0:Ty.den az) (a1:ByteArray):rn (E k) Tryz.f106 (C k) (a0,a1,())=f k a0 a1:=by kernel_rfl
theorem ctr (k:Nat):Cp 106 (C k):=rc rfl (D k) (by kernel_rfl) Tryz.func106 (by kernel_rfl) rfl fun ⟨a0,a1,_⟩ r h=>(eq k a0 a1).trans h
end eJ
namespace dF
def C (k:Nat):Cn:=⟨[.io true az,.val .str],[],true,false,fun x=>f k x.1 x.2.1⟩
def D (k:Nat):List Ce:=[q (bB.ctr k),q (eJ.ctr k)]
def E (k:Nat):cE:=en (D k) [] 1 [] k
theorem eq (k:Nat) (a0:Ty.den az) (a1:ByteArray):rn (E k) Tryz.f124 (C k) (a0,a1,())=f k a0 a1:=by kernel_rfl
theorem ctr (k:Nat):Cp 124 (C k):=rc rfl (D k) (by kernel_rfl) Tryz.func124 (by kernel_rfl) rfl fun ⟨a0,a1,_⟩ r h=>(eq k a0 a1).trans h
end dF
namespace iC
def C (k:Nat):Cn:=⟨[.val a_],[(.int .i64)],true,false,fun x=>f k x.1⟩
def E (k:Nat):cE:=en [] [(3,[3,7,8,9])] 0 [] k
section
variable (k:Nat) (a0:Ty.den a_)
def K0:Ex→St→Rs:=cC (E k) (eK (E k) Tryz.f220 (C k) (a0,())) [.blk 0,.code (at_ (bt 3 7) (body Tryz.f220))]
def V0 (n0:Nat):T0:=fun x0 x1 x2 x3=>am (bX (E k) (at_ (bt 6 11) (body Tryz.f220))) (ak 0 [3,7,8,9]) (K0 k a0) n0 (mk 20 0 [(3,.int .i64 x0),(7,.sl true aF x1),(8,.int .i64 x2),(9,.int .i64 x3)] [])
theorem s0 (n0:Nat):V0 k a0 (n0+1)=b0 k (V0 k a0 n0):=by kernel_rfl
theorem e0:V0 k a0=l0 k:=aS rfl (s0 k a0) fun _=>rfl
end
theorem eq (k:Nat) (a0:Ty.den a_):rn (E k) Tryz.f220 (C k) (a0,())=f k a0:=(show _=t k (V0 k a0 k) a0 by kernel_rfl).trans (by rw [e0];rfl)
theorem ctr (k:Nat):Cp 220 (C k):=rc rfl [] (by kernel_rfl) Tryz.func220 (by kernel_rfl) rfl fun ⟨a0,_⟩ r h=>(eq k a0).trans h
end iC
namespace fL
def C (k:Nat):Cn:=⟨[.io true a_,.io true .str,.io true .str],[(.int .i64)],true,false,fun x=>f k x.1 x.2.1 x.2.2.1⟩
def D (k:Nat):List Ce:=[q (bO.ctr k),q (iC.ctr k)]
def E (k:Nat):cE:=en (D k) [] 3 [] k
theorem eq (k:Nat) (a0:Ty.den a_) (a1:ByteArray) (a2:ByteArray):rn (E k) Tryz.f219 (C k) (a0,a1,a2,())=f k a0 a1 a2:=by kernel_rfl
theorem ctr (k:Nat):Cp 219 (C k):=rc rfl (D k) (by kernel_rfl) Tryz.func219 (by kernel_rfl) rfl fun ⟨a0,a1,a2,_⟩ r h=>(eq k a0 a1 a2).trans h
end fL
namespace fV
def C (k:Nat):Cn:=⟨[.val a_,.fn 219 2,.io true .str,.io true .str],[a_,(.int .i64)],true,false,fun x=>f k x.1 x.2.1 x.2.2.1⟩
def D (k:Nat):List Ce:=[q (cH.ctr k),q (bC.ctr k),q (fL.ctr k)]
def E (k:Nat):cE:=en (D k) [] 2 [] k
theorem eq (k:Nat) (a0:Ty.den a_) (a1:ByteArray) (a2:ByteArray):rn (E k) Tryz.f160 (C k) (a0,a1,a2,())=f k a0 a1 a2:=by kernel_rfl
theorem ctr (k:Nat):Cp 160 (C k):=rc rfl (D k) (by kernel_rfl) Tryz.func160 (by kernel_rfl) rfl fun ⟨a0,a1,a2,_⟩ r h=>(eq k a0 a1 a2).trans h
end fV
namespace jA
def C (k:Nat):Cn:=⟨[.val a_,.val .str,.val .str],[a_,(.int .i64)],true,false,fun x=>f k x.1 x.2.1 x.2.2.1⟩
def D (k:Nat):List Ce:=[q (fV.ctr k)]
def E (k:Nat):cE:=en (D k) [] 0 [] k
theorem eq (k:Nat) (a0:Ty.den a_) (a1:ByteArray) (a2:ByteArray):rn (E k) Tryz.f189 (C k) (a0,a1,a2,())=f k a0 a1 a2:=by kernel_rfl
theorem ctr (k:Nat):Cp 189 (C k):=rc rfl (D k) (by kernel_rfl) Tryz.func189 (by kernel_rfl) rfl fun ⟨a0,a1,a2,_⟩ r h=>(eq k a0 a1 a2).trans h
end jA
namespace eF
def C (k:Nat):Cn:=⟨[.io true az,.val .str,.val .str],[],true,false,fun x=>f k x.1 x.2.1 x.2.2.1⟩
def D (k:Nat):List Ce:=[q (jA.ctr k),q (ar.ctr k)]
def E (k:Nat):cE:=en (D k) [] 1 [] k
theorem eq (k:Nat) (a0:Ty.den az) (a1:ByteArray) (a2:ByteArray):rn (E k) Tryz.f125 (C k) (a0,a1,a2,())=f k a0 a1 a2:=by kernel_rfl
theorem ctr (k:Nat):Cp 125 (C k):=rc rfl (D k) (by kernel_rfl) Tryz.func125 (by kernel_rfl) rfl fun ⟨a0,a1,a2,_⟩ r h=>(eq k a0 a1 a2).trans h
end eF
namespace gh
def C (k:Nat):Cn:=⟨[.io true a_,.io true .str],[(.int .i64)],true,false,fun x=>f k x.1 x.2.1⟩
def D (k:Nat):List Ce:=[q (bO.ctr k)]
def E (k:Nat):cE:=en (D k) [] 2 [] k
theorem eq (k:Nat) (a0:Ty.den a_) (a1:ByteArray):rn (E k) Tryz.f199 (C k) (a0,a1,())=f k a0 a1:=by kernel_rfl
theorem ctr (k:Nat):Cp 199 (C k):=rc rfl (D k) (by kernel_rfl) Tryz.func199 (by kernel_rfl) rfl fun ⟨a0,a1,_⟩ r h=>(eq k a0 a1).trans h
end gh
namespace gI
def C (k:Nat):Cn:=⟨[.val a_,.fn 199 1,.io true .str],[a_,(.int .i64)],true,false,fun x=>f k x.1 x.2.1⟩
def D (k:Nat):List Ce:=[q (cH.ctr k),q (bC.ctr k),q (gh.ctr k)]
def E (k:Nat):cE:=en (D k) [] 1 [] k
theorem eq (k:Nat) (a0:Ty.den a_) (a1:ByteArray):rn (E k) Tryz.f160 (C k) (a0,a1,())=f k a0 a1:=by kernel_rfl
theorem ctr (k:Nat):Cp 160 (C k):=rc rfl (D k) (by kernel_rfl) Tryz.func160 (by kernel_rfl) rfl fun ⟨a0,a1,_⟩ r h=>(eq k a0 a1).trans h
end gI
namespace kt
def C (k:Nat):Cn:=⟨[.val a_,.val .str],[a_,(.int .i64)],true,false,fun x=>f k x.1 x.2.1⟩
def D (k:Nat):List Ce:=[q (gI.ctr k)]
def E (k:Nat):cE:=en (D k) [] 0 [] k
theorem eq (k:Nat) (a0:Ty.den a_) (a1:ByteArray):rn (E k) Tryz.f162 (C k) (a0,a1,())=f k a0 a1:=by kernel_rfl
theorem ctr (k:Nat):Cp 162 (C k):=rc rfl (D k) (by kernel_rfl) Tryz.func162 (by kernel_rfl) rfl fun ⟨a0,a1,_⟩ r h=>(eq k a0 a1).trans h
end kt
namespace db
def C (k:Nat):Cn:=⟨[.io true az,.val .str],[],true,false,fun x=>f k x.1 x.2.1⟩
def D (k:Nat):List Ce:=[q (kt.ctr k),q (ar.ctr k)]
def E (k:Nat):cE:=en (D k) [] 1 [] k
theorem eq (k:Nat) (a0:Ty.den az) (a1:ByteArray):rn (E k) Tryz.f102 (C k) (a0,a1,())=f k a0 a1:=by kernel_rfl
theorem ctr (k:Nat):Cp 102 (C k):=rc rfl (D k) (by kernel_rfl) Tryz.func102 (by kernel_rfl) rfl fun ⟨a0,a1,_⟩ r h=>(eq k a0 a1).trans h
end db
namespace aq
def C (k:Nat):Cn:=⟨[.io true az,.val (.int .i64),.val (.slice ax)],[(.slice aB)],true,false,fun x=>f k x.1 x.2.1 x.2.2.1⟩
def D (k:Nat):List Ce:=[q (ao.ctr k),q (dF.ctr k),q (fQ.ctr k),q (fw.ctr k),q (eF.ctr k),q (db.ctr k)]
def E (k:Nat):cE:=en (D k) [(5,[0,1,7,8,16,17,18])] 1 [] k
section
variable (k:Nat) (a0:Ty.den az) (a1:Int) (a2:List (Ty.den ax))
def K0:Ex→St→Rs:=cC (E k) (eK (E k) Tryz.f65 (C k) (a0,a1,a2,())) [.blk 0,.code (at_ (bt 5 31) (body Tryz.f65))]
def V0 (n0:Nat):T0:=fun x0 x1 x2 x3 x4 x5 x6 x7 x8 x9 x10=>am (bX (E k) (at_ (bt 8 47) (body Tryz.f65))) (ak 1 [0,1,7,8,16,17,18]) (K0 k a0 a1 a2) n0 (mk 60 3 [(0,.ptr 0 0 0),(1,.int .i64 x0),(7,.ref 2),(8,.int .i64 x1),(16,.sl true ax x2),(17,.int .i64 x3),(18,.int .i64 x4)] [(1,.own false aF x5),(0,.box [.ref 1,.int .i64 x6,.int .i64 x7,.bool x8,.int .i64 x9]),(2,.own false aB x10)])
theorem s0 (n0:Nat):V0 k a0 a1 a2 (n0+1)=b0 k (V0 k a0 a1 a2 n0):=by kernel_rfl
theorem e0:V0 k a0 a1 a2=l0 k:=aS rfl (s0 k a0 a1 a2) fun _=>rfl
end
theorem eq (k:Nat) (a0:Ty.den az) (a1:Int) (a2:List (Ty.den ax)):rn (E k) Tryz.f65 (C k) (a0,a1,a2,())=f k a0 a1 a2:=(show _=t k (V0 k a0 a1 a2 k) a0 a1 a2 by kernel_rfl).trans (by rw [e0];rfl)
theorem ctr (k:Nat):Cp 65 (C k):=rc rfl (D k) (by kernel_rfl) Tryz.func65 (by kernel_rfl) rfl fun ⟨a0,a1,a2,_⟩ r h=>(eq k a0 a1 a2).trans h
end aq
namespace eI
def C (k:Nat):Cn:=⟨[.val (.int .i64),.val (.slice b9)],[(.slice aD)],true,false,fun x=>f k x.1 x.2.1⟩
def E (k:Nat):cE:=en [] [(3,[0,5,8,9,10])] 0 [] k
section
variable (k:Nat) (a0:Int) (a1:List (Ty.den b9))
def K0:Ex→St→Rs:=cC (E k) (eK (E k) Tryz.f34 (C k) (a0,a1,())) [.blk 0,.code (at_ (bt 3 7) (body Tryz.f34))]
def V0 (n0:Nat):T0:=fun x0 x1 x2 x3 x4=>am (bX (E k) (at_ (bt 6 11) (body Tryz.f34))) (ak 0 [0,5,8,9,10]) (K0 k a0 a1) n0 (mk 27 1 [(0,.int .i64 x0),(5,.ref 0),(8,.sl true b9 x1),(9,.int .i64 x2),(10,.int .i64 x3)] [(0,.own false aD x4)])
theorem s0 (n0:Nat):V0 k a0 a1 (n0+1)=b0 k (V0 k a0 a1 n0):=by kernel_rfl
theorem e0:V0 k a0 a1=l0 k:=aS rfl (s0 k a0 a1) fun _=>rfl
end
theorem eq (k:Nat) (a0:Int) (a1:List (Ty.den b9)):rn (E k) Tryz.f34 (C k) (a0,a1,())=f k a0 a1:=(show _=t k (V0 k a0 a1 k) a0 a1 by kernel_rfl).trans (by rw [e0];rfl)
theorem ctr (k:Nat):Cp 34 (C k):=rc rfl [] (by kernel_rfl) Tryz.func34 (by kernel_rfl) rfl fun ⟨a0,a1,_⟩ r h=>(eq k a0 a1).trans h
end eI
namespace gM
def C (k:Nat):Cn:=⟨[.val ax,.val (.slice aD)],[.bool],true,false,fun x=>f k x.1 x.2.1⟩
def D (k:Nat):List Ce:=[q (gT.ctr k)]
def E (k:Nat):cE:=en (D k) [(3,[2,5,8,9,10])] 0 [] k
section
variable (k:Nat) (a0:Ty.den ax) (a1:List (Ty.den aD))
def K0:Ex→St→Rs:=cC (E k) (eK (E k) Tryz.f82 (C k) (a0,a1,())) [.blk 0,.code (at_ (bt 3 7) (body Tryz.f82))]
def V0 (n0:Nat):T0:=fun x0 x1 x2 x3 x4 x5 x6 x7 x8 x9=>am (bX (E k) (at_ (bt 6 11) (body Tryz.f82))) (ak 0 [2,5,8,9,10]) (K0 k a0 a1) n0 (mk 32 2 [(2,.ptr 0 0 0),(5,.ref 1),(8,.sl true aD x0),(9,.int .i64 x1),(10,.int .i64 x2)] [(0,.box [.int .i64 x3,.int .i64 x4,.str x5,.str x6,.int .i64 x7,.int .i64 x8]),(1,.own false ax x9)])
theorem s0 (n0:Nat):V0 k a0 a1 (n0+1)=b0 k (V0 k a0 a1 n0):=by kernel_rfl
theorem e0:V0 k a0 a1=l0 k:=aS rfl (s0 k a0 a1) fun _=>rfl
end
theorem eq (k:Nat) (a0:Ty.den ax) (a1:List (Ty.den aD)):rn (E k) Tryz.f82 (C k) (a0,a1,())=f k a0 a1:=(show _=t k (V0 k a0 a1 k) a0 a1 by kernel_rfl).trans (by rw [e0];rfl)
theorem ctr (k:Nat):Cp 82 (C k):=rc rfl (D k) (by kernel_rfl) Tryz.func82 (by kernel_rfl) rfl fun ⟨a0,a1,_⟩ r h=>(eq k a0 a1).trans h
end gM
namespace eW
def C (k:Nat):Cn:=⟨[.val (.int .i64),.val .str],[eh,.bool],true,false,fun x=>f k x.1 x.2.1⟩
def D (k:Nat):List Ce:=[q (cX.ctr k),q (ah.ctr k),q (eI.ctr k),q (gM.ctr k)]
def E (k:Nat):cE:=en (D k) [(7,[0,4,6,9,67,68,69])] 0 [] k
section
variable (k:Nat) (a0:Int) (a1:ByteArray)
def K0:Ex→St→Rs:=cC (E k) (eK (E k) Tryz.f127 (C k) (a0,a1,())) [.blk 0,.code (at_ (bt 6 63) (body Tryz.f127))]
def V0 (n0:Nat):T0:=fun x0 x1 x2 x3 x4 x5 x6 x7 x8 x9 x10=>am (bX (E k) (at_ (bt 9 95) (body Tryz.f127))) (ak 0 [0,4,6,9,67,68,69]) (K0 k a0 a1) n0 (mk 123 4 [(0,.int .i64 x0),(4,.ptr 0 0 0),(6,.sl false b9 x1),(9,.ptr 2 0 0),(67,.sl false b9 x2),(68,.int .i64 x3),(69,.int .i64 x4)] [(1,.own false aB x5),(0,.box [.int .i64 x6,.int .i64 x7,.ref 1]),(3,.own false aB x8),(2,.box [.int .i64 x9,.int .i64 x10,.ref 3])])
theorem s0 (n0:Nat):V0 k a0 a1 (n0+1)=b0 k (V0 k a0 a1 n0):=by kernel_rfl
theorem e0:V0 k a0 a1=l0 k:=aS rfl (s0 k a0 a1) fun _=>rfl
end
theorem eq (k:Nat) (a0:Int) (a1:ByteArray):rn (E k) Tryz.f127 (C k) (a0,a1,())=f k a0 a1:=(show _=t k (V0 k a0 a1 k) a0 a1 by kernel_rfl).trans (by rw [e0];rfl)
theorem ctr (k:Nat):Cp 127 (C k):=rc rfl (D k) (by kernel_rfl) Tryz.func127 (by kernel_rfl) rfl fun ⟨a0,a1,_⟩ r h=>(eq k a0 a1).trans h
end eW
namespace df
def C (k:Nat):Cn:=⟨[.val (.int .i64)],[.str],true,false,fun x=>f k x.1⟩
def D (k:Nat):List Ce:=[q (ic.ctr k)]
def E (k:Nat):cE:=en (D k) [] 0 [] k
theorem eq (k:Nat) (a0:Int):rn (E k) Tryz.f70 (C k) (a0,())=f k a0:=by kernel_rfl
theorem ctr (k:Nat):Cp 70 (C k):=rc rfl (D k) (by kernel_rfl) Tryz.func70 (by kernel_rfl) rfl fun ⟨a0,_⟩ r h=>(eq k a0).trans h
end df
namespace fi
def C (k:Nat):Cn:=⟨[.val eh],[.bool],true,false,fun x=>f k x.1⟩
def D (k:Nat):List Ce:=[q (ah.ctr k),q (dw.ctr k)]
def E (k:Nat):cE:=en (D k) [(2,[1,6,7,8])] 0 [] k
section
variable (k:Nat) (a0:Ty.den eh)
def K0:Ex→St→Rs:=cC (E k) (eK (E k) Tryz.f190 (C k) (a0,())) [.blk 0,.code (at_ (bt 2 3) (body Tryz.f190))]
def V0 (n0:Nat):T0:=fun x0 x1 x2 x3 x4 x5=>am (bX (E k) (at_ (bt 5 5) (body Tryz.f190))) (ak 0 [1,6,7,8]) (K0 k a0) n0 (mk 39 1 [(1,.ptr 0 0 0),(6,.sl true aB x0),(7,.int .i64 x1),(8,.int .i64 x2)] [(0,.box [.int .i64 x3,.int .i64 x4,.sl true aB x5])])
theorem s0 (n0:Nat):V0 k a0 (n0+1)=b0 k (V0 k a0 n0):=by kernel_rfl
theorem e0:V0 k a0=l0 k:=aS rfl (s0 k a0) fun _=>rfl
end
theorem eq (k:Nat) (a0:Ty.den eh):rn (E k) Tryz.f190 (C k) (a0,())=f k a0:=(show _=t k (V0 k a0 k) a0 by kernel_rfl).trans (by rw [e0];rfl)
theorem ctr (k:Nat):Cp 190 (C k):=rc rfl (D k) (by kernel_rfl) Tryz.func190 (by kernel_rfl) rfl fun ⟨a0,_⟩ r h=>(eq k a0).trans h
end fi
namespace eD
def C (k:Nat):Cn:=⟨[.val eh],[.str],true,false,fun x=>f k x.1⟩
def D (k:Nat):List Ce:=[q (fi.ctr k),q (d6.ctr k),q (dp.ctr k),q (fe.ctr k),q (dJ.ctr k)]
def E (k:Nat):cE:=en (D k) [(5,[3,19,20,21])] 0 [] k
section
variable (k:Nat) (a0:Ty.den eh)
def K0:Ex→St→Rs:=cC (E k) (eK (E k) Tryz.f129 (C k) (a0,())) [.blk 0,.code (at_ (bt 4 15) (body Tryz.f129))]
def V0 (n0:Nat):T0:=fun x0 x1 x2 x3=>am (bX (E k) (at_ (bt 7 23) (body Tryz.f129))) (ak 0 [3,19,20,21]) (K0 k a0) n0 (mk 47 0 [(3,.str x0),(19,.sl true aB x1),(20,.int .i64 x2),(21,.int .i64 x3)] [])
theorem s0 (n0:Nat):V0 k a0 (n0+1)=b0 k (V0 k a0 n0):=by kernel_rfl
theorem e0:V0 k a0=l0 k:=aS rfl (s0 k a0) fun _=>rfl
end
theorem eq (k:Nat) (a0:Ty.den eh):rn (E k) Tryz.f129 (C k) (a0,())=f k a0:=(show _=t k (V0 k a0 k) a0 by kernel_rfl).trans (by rw [e0];rfl)
theorem ctr (k:Nat):Cp 129 (C k):=rc rfl (D k) (by kernel_rfl) Tryz.func129 (by kernel_rfl) rfl fun ⟨a0,_⟩ r h=>(eq k a0).trans h
end eD
namespace cv
def C (k:Nat):Cn:=⟨[.io true az,.val .str,.val .str],[],true,false,fun x=>f k x.1 x.2.1 x.2.2.1⟩
def D (k:Nat):List Ce:=[q (dF.ctr k),q (eF.ctr k),q (db.ctr k)]
def E (k:Nat):cE:=en (D k) [] 1 [] k
theorem eq (k:Nat) (a0:Ty.den az) (a1:ByteArray) (a2:ByteArray):rn (E k) Tryz.f128 (C k) (a0,a1,a2,())=f k a0 a1 a2:=by kernel_rfl
theorem ctr (k:Nat):Cp 128 (C k):=rc rfl (D k) (by kernel_rfl) Tryz.func128 (by kernel_rfl) rfl fun ⟨a0,a1,a2,_⟩ r h=>(eq k a0 a1 a2).trans h
end cv
namespace dG
def C (k:Nat):Cn:=⟨[.io true az,.val (.int .i64)],[],true,false,fun x=>f k x.1 x.2.1⟩
def D (k:Nat):List Ce:=[q (ao.ctr k),q (cI.ctr k),q (eW.ctr k),q (df.ctr k),q (eD.ctr k),q (cv.ctr k),q (bB.ctr k)]
def E (k:Nat):cE:=en (D k) [] 1 [] k
theorem eq (k:Nat) (a0:Ty.den az) (a1:Int):rn (E k) Tryz.f67 (C k) (a0,a1,())=f k a0 a1:=by kernel_rfl
theorem ctr (k:Nat):Cp 67 (C k):=rc rfl (D k) (by kernel_rfl) Tryz.func67 (by kernel_rfl) rfl fun ⟨a0,a1,_⟩ r h=>(eq k a0 a1).trans h
end dG
namespace hF
def C (k:Nat):Cn:=⟨[.val bE],[.str],true,false,fun x=>f k x.1⟩
def D (k:Nat):List Ce:=[q (cU.ctr k),q (d6.ctr k),q (fw.ctr k)]
def E (k:Nat):cE:=en (D k) [] 0 [] k
theorem eq (k:Nat) (a0:Ty.den bE):rn (E k) Tryz.f130 (C k) (a0,())=f k a0:=by kernel_rfl
theorem ctr (k:Nat):Cp 130 (C k):=rc rfl (D k) (by kernel_rfl) Tryz.func130 (by kernel_rfl) rfl fun ⟨a0,_⟩ r h=>(eq k a0).trans h
end hF
namespace fP
def C (k:Nat):Cn:=⟨[.io true a_,.io true .str,.io true .str],[(.int .i64)],true,false,fun x=>f k x.1 x.2.1 x.2.2.1⟩
def D (k:Nat):List Ce:=[q (bO.ctr k),q (dl.ctr k),q (e6.ctr k),q (ck.ctr k)]
def E (k:Nat):cE:=en (D k) [] 3 [] k
theorem eq (k:Nat) (a0:Ty.den a_) (a1:ByteArray) (a2:ByteArray):rn (E k) Tryz.f221 (C k) (a0,a1,a2,())=f k a0 a1 a2:=by kernel_rfl
theorem ctr (k:Nat):Cp 221 (C k):=rc rfl (D k) (by kernel_rfl) Tryz.func221 (by kernel_rfl) rfl fun ⟨a0,a1,a2,_⟩ r h=>(eq k a0 a1 a2).trans h
end fP
namespace fX
def C (k:Nat):Cn:=⟨[.val a_,.fn 221 2,.io true .str,.io true .str],[a_,(.int .i64)],true,false,fun x=>f k x.1 x.2.1 x.2.2.1⟩
def D (k:Nat):List Ce:=[q (cH.ctr k),q (bC.ctr k),q (fP.ctr k)]
def E (k:Nat):cE:=en (D k) [] 2 [] k
theorem eq (k:Nat) (a0:Ty.den a_) (a1:ByteArray) (a2:ByteArray):rn (E k) Tryz.f160 (C k) (a0,a1,a2,())=f k a0 a1 a2:=by kernel_rfl
theorem ctr (k:Nat):Cp 160 (C k):=rc rfl (D k) (by kernel_rfl) Tryz.func160 (by kernel_rfl) rfl fun ⟨a0,a1,a2,_⟩ r h=>(eq k a0 a1 a2).trans h
end fX
namespace j8
def C (k:Nat):Cn:=⟨[.val a_,.val .str,.val .str],[a_,(.int .i64)],true,false,fun x=>f k x.1 x.2.1 x.2.2.1⟩
def D (k:Nat):List Ce:=[q (fX.ctr k)]
def E (k:Nat):cE:=en (D k) [] 0 [] k
theorem eq (k:Nat) (a0:Ty.den a_) (a1:ByteArray) (a2:ByteArray):rn (E k) Tryz.f191 (C k) (a0,a1,a2,())=f k a0 a1 a2:=by kernel_rfl
theorem ctr (k:Nat):Cp 191 (C k):=rc rfl (D k) (by kernel_rfl) Tryz.func191 (by kernel_rfl) rfl fun ⟨a0,a1,a2,_⟩ r h=>(eq k a0 a1 a2).trans h
end j8
namespace eH
def C (k:Nat):Cn:=⟨[.io true az,.val .str,.val .str],[],true,false,fun x=>f k x.1 x.2.1 x.2.2.1⟩
def D (k:Nat):List Ce:=[q (j8.ctr k),q (ar.ctr k)]
def E (k:Nat):cE:=en (D k) [] 1 [] k
theorem eq (k:Nat) (a0:Ty.den az) (a1:ByteArray) (a2:ByteArray):rn (E k) Tryz.f131 (C k) (a0,a1,a2,())=f k a0 a1 a2:=by kernel_rfl
theorem ctr (k:Nat):Cp 131 (C k):=rc rfl (D k) (by kernel_rfl) Tryz.func131 (by kernel_rfl) rfl fun ⟨a0,a1,a2,_⟩ r h=>(eq k a0 a1 a2).trans h
end eH
namespace dm
def C (k:Nat):Cn:=⟨[.io true az,.val bE],[],true,false,fun x=>f k x.1 x.2.1⟩
def D (k:Nat):List Ce:=[q (hF.ctr k),q (cv.ctr k),q (eH.ctr k)]
def E (k:Nat):cE:=en (D k) [] 1 [] k
theorem eq (k:Nat) (a0:Ty.den az) (a1:Ty.den bE):rn (E k) Tryz.f68 (C k) (a0,a1,())=f k a0 a1:=by kernel_rfl
theorem ctr (k:Nat):Cp 68 (C k):=rc rfl (D k) (by kernel_rfl) Tryz.func68 (by kernel_rfl) rfl fun ⟨a0,a1,_⟩ r h=>(eq k a0 a1).trans h
end dm
namespace aa
def C (k:Nat):Cn:=⟨[.io true az,.val (.slice .str)],[],true,false,fun x=>f k x.1 x.2.1⟩
def D (k:Nat):List Ce:=[q (bB.ctr k)]
def E (k:Nat):cE:=en (D k) [(3,[0,4,18,19,20])] 1 [] k
section
variable (k:Nat) (a0:Ty.den az) (a1:List ByteArray)
def K0:Ex→St→Rs:=cC (E k) (eK (E k) Tryz.f69 (C k) (a0,a1,())) [.blk 0,.code (at_ (bt 3 7) (body Tryz.f69))]
def V0 (n0:Nat):T0:=fun x0 x1 x2 x3 x4 x5 x6 x7 x8 x9 x10 x11=>am (bX (E k) (at_ (bt 6 11) (body Tryz.f69))) (ak 1 [0,4,18,19,20]) (K0 k a0 a1) n0 (mk 47 3 [(0,.ptr 0 0 0),(4,.ptr 2 0 0),(18,.sl true .str x0),(19,.int .i64 x1),(20,.int .i64 x2)] [(1,.own false aF x3),(0,.box [.ref 1,.int .i64 x4,.int .i64 x5,.bool x6,.int .i64 x7]),(2,.box [.ref 1,.int .i64 x8,.int .i64 x9,.bool x10,.int .i64 x11])])
def V1 (n0:Nat):T1:=fun x0 x1 x2 x3 x4 x5 x6 x7 x8 x9 x10 x11=>am (bX (E k) (at_ (bt 6 11) (body Tryz.f69))) (ak 1 [0,4,18,19,20]) (K0 k a0 a1) n0 (mk 47 3 [(0,.ptr 0 0 0),(4,.ptr 1 0 0),(18,.sl true .str x0),(19,.int .i64 x1),(20,.int .i64 x2)] [(0,.box [.junk,.int .i64 x3,.int .i64 x4,.bool x5,.int .i64 x6]),(2,.own false aF x7),(1,.box [.ref 2,.int .i64 x8,.int .i64 x9,.bool x10,.int .i64 x11])])
theorem s0 (n0:Nat):V0 k a0 a1 (n0+1)=b0 k (V1 k a0 a1 n0):=by kernel_rfl
theorem s1 (n0:Nat):V1 k a0 a1 (n0+1)=b1 k (V1 k a0 a1 n0):=by kernel_rfl
theorem e1:V1 k a0 a1=l1 k:=aS rfl (s1 k a0 a1) fun _=>rfl
theorem e0 (n0:Nat):V0 k a0 a1 n0=l0 k n0:=by
 induction n0 with
 | zero=>rfl
 | succ n0 ih =>
  have h:V0 k a0 a1 (n0+1)=b0 k (V1 k a0 a1 n0):=s0 k a0 a1 n0
  rw [h,e1]
  rfl
end
theorem eq (k:Nat) (a0:Ty.den az) (a1:List ByteArray):rn (E k) Tryz.f69 (C k) (a0,a1,())=f k a0 a1:=(show _=t k (V0 k a0 a1 k) a0 a1 by kernel_rfl).trans (by rw [e0];rfl)
theorem ctr (k:Nat):Cp 69 (C k):=rc rfl (D k) (by kernel_rfl) Tryz.func69 (by kernel_rfl) rfl fun ⟨a0,a1,_⟩ r h=>(eq k a0 a1).trans h
end aa
namespace br
def C (k:Nat):Cn:=⟨[.io true aE,.io true az,.val (.slice aF)],[],true,false,fun x=>f k x.1 x.2.1 x.2.2.1⟩
def D (k:Nat):List Ce:=[q (fZ.ctr k),q (aq.ctr k),q (dG.ctr k),q (dm.ctr k),q (ao.ctr k),q (df.ctr k),q (aa.ctr k),q (bB.ctr k)]
def E (k:Nat):cE:=en (D k) [(12,[1,85,86,87])] 2 [] k
section
variable (k:Nat) (a0:Ty.den aE) (a1:Ty.den az) (a2:List (Ty.den aF))
def K0:Ex→St→Rs:=cC (E k) (eK (E k) Tryz.f24 (C k) (a0,a1,a2,())) [.blk 0]
def V0 (n0:Nat):T0:=fun x0 x1 x2 x3 x4 x5 x6 x7 x8 x9 x10 x11 x12 x13=>am (bX (E k) (at_ (bt 12 1023) (body Tryz.f24))) (ak 2 [1,85,86,87]) (K0 k a0 a1 a2) n0 (mk 100 6 [(1,.ptr 1 0 0),(85,.ref 5),(86,.int .i64 x0),(87,.int .i64 x1)] [(2,.own false (.int .i64) x2),(3,.own false aB x3),(0,.box [.int .i64 x4,.ref 2,.ref 3,.int .i64 x5,.int .i64 x6,.int .i64 x7]),(4,.own false aF x8),(1,.box [.ref 4,.int .i64 x9,.int .i64 x10,.bool x11,.int .i64 x12]),(5,.own false (.int .i64) x13)])
theorem s0 (n0:Nat):V0 k a0 a1 a2 (n0+1)=b0 k (V0 k a0 a1 a2 n0):=by kernel_rfl
theorem e0:V0 k a0 a1 a2=l0 k:=aS rfl (s0 k a0 a1 a2) fun _=>rfl
end
theorem eq (k:Nat) (a0:Ty.den aE) (a1:Ty.den az) (a2:List (Ty.den aF)):rn (E k) Tryz.f24 (C k) (a0,a1,a2,())=f k a0 a1 a2:=(show _=t k (V0 k a0 a1 a2 k) a0 a1 a2 by kernel_rfl).trans (by rw [e0];rfl)
theorem ctr (k:Nat):Cp 24 (C k):=rc rfl (D k) (by kernel_rfl) Tryz.func24 (by kernel_rfl) rfl fun ⟨a0,a1,a2,_⟩ r h=>(eq k a0 a1 a2).trans h
end br
namespace jH
def C (k:Nat):Cn:=⟨[.val aE,.val a_],[aE,a_,(.int .i64)],true,false,fun x=>f k x.1 x.2.1⟩
def D (k:Nat):List Ce:=[q (gf.ctr k),q (cH.ctr k),q (gJ.ctr k),q (bz.ctr k),q (br.ctr k)]
def E (k:Nat):cE:=en (D k) [] 0 [] k
theorem eq (k:Nat) (a0:Ty.den aE) (a1:Ty.den a_):rn (E k) Tryz.f7 (C k) (a0,a1,())=f k a0 a1:=by kernel_rfl
theorem ctr (k:Nat):Cp 7 (C k):=rc rfl (D k) (by kernel_rfl) Tryz.func7 (by kernel_rfl) rfl fun ⟨a0,a1,_⟩ r h=>(eq k a0 a1).trans h
end jH
namespace k9
def C (k:Nat):Cn:=⟨[.val aE,.val a_],[(.slice aF)],true,false,fun x=>f k x.1 x.2.1⟩
def D (k:Nat):List Ce:=[q (gS.ctr k)]
def E (k:Nat):cE:=en (D k) [] 0 [] k
theorem eq (k:Nat) (a0:Ty.den aE) (a1:Ty.den a_):rn (E k) Tryz.f9 (C k) (a0,a1,())=f k a0 a1:=by kernel_rfl
theorem ctr (k:Nat):Cp 9 (C k):=rc rfl (D k) (by kernel_rfl) Tryz.func9 (by kernel_rfl) rfl fun ⟨a0,a1,_⟩ r h=>(eq k a0 a1).trans h
end k9
namespace dA
def C (k:Nat):Cn:=⟨[.val (.slice aF),.val (.slice aF)],[.bool],true,false,fun x=>f k x.1 x.2.1⟩
def E (k:Nat):cE:=en [] [(4,[0,1,5])] 0 [] k
section
variable (k:Nat) (a0:List (Ty.den aF)) (a1:List (Ty.den aF))
def K0:Ex→St→Rs:=cC (E k) (eK (E k) Tryz.f8 (C k) (a0,a1,())) [.blk 0,.code (at_ (bt 3 7) (body Tryz.f8))]
def V0 (n0:Nat):T0:=fun x0 x1 x2=>am (bX (E k) (at_ (bt 6 11) (body Tryz.f8))) (ak 0 [0,1,5]) (K0 k a0 a1) n0 (mk 26 0 [(0,.sl true aF x0),(1,.sl true aF x1),(5,.int .i64 x2)] [])
theorem s0 (n0:Nat):V0 k a0 a1 (n0+1)=b0 k (V0 k a0 a1 n0):=by kernel_rfl
theorem e0:V0 k a0 a1=l0 k:=aS rfl (s0 k a0 a1) fun _=>rfl
end
theorem eq (k:Nat) (a0:List (Ty.den aF)) (a1:List (Ty.den aF)):rn (E k) Tryz.f8 (C k) (a0,a1,())=f k a0 a1:=(show _=t k (V0 k a0 a1 k) a0 a1 by kernel_rfl).trans (by rw [e0];rfl)
theorem ctr (k:Nat):Cp 8 (C k):=rc rfl [] (by kernel_rfl) Tryz.func8 (by kernel_rfl) rfl fun ⟨a0,a1,_⟩ r h=>(eq k a0 a1).trans h
end dA
namespace cw
def C (k:Nat):Cn:=⟨[.val aE,.val a_],[(.int .i64)],true,false,fun x=>f k x.1 x.2.1⟩
def D (k:Nat):List Ce:=[q (aQ.ctr k),q (bF.ctr k)]
def E (k:Nat):cE:=en (D k) [(3,[2,3,5,6])] 0 [] k
section
variable (k:Nat) (a0:Ty.den aE) (a1:Ty.den a_)
def K0:Ex→St→Rs:=cC (E k) (eK (E k) Tryz.f10 (C k) (a0,a1,())) [.blk 0,.code (at_ (bt 3 7) (body Tryz.f10))]
def V0 (n0:Nat):T0:=fun x0 x1 x2 x3 x4 x5 x6 x7 x8 x9 x10 x11=>am (bX (E k) (at_ (bt 6 11) (body Tryz.f10))) (ak 0 [2,3,5,6]) (K0 k a0 a1) n0 (mk 38 2 [(2,.ptr 0 0 0),(3,.ptr 1 0 0),(5,.int .i64 x0),(6,.int .i64 x1)] [(0,.box [.int .i64 x2,.sl true (.int .i64) x3,.sl true aB x4,.int .i64 x5,.int .i64 x6,.int .i64 x7]),(1,.box [.sl true aF x8,.int .i64 x9,.int .i64 x10,.bool x11])])
theorem s0 (n0:Nat):V0 k a0 a1 (n0+1)=b0 k (V0 k a0 a1 n0):=by kernel_rfl
theorem e0:V0 k a0 a1=l0 k:=aS rfl (s0 k a0 a1) fun _=>rfl
end
theorem eq (k:Nat) (a0:Ty.den aE) (a1:Ty.den a_):rn (E k) Tryz.f10 (C k) (a0,a1,())=f k a0 a1:=(show _=t k (V0 k a0 a1 k) a0 a1 by kernel_rfl).trans (by rw [e0];rfl)
theorem ctr (k:Nat):Cp 10 (C k):=rc rfl (D k) (by kernel_rfl) Tryz.func10 (by kernel_rfl) rfl fun ⟨a0,a1,_⟩ r h=>(eq k a0 a1).trans h
end cw
namespace dK
def C (k:Nat):Cn:=⟨[.val aE,.val a_],[(.int .i64)],true,false,fun x=>f k x.1 x.2.1⟩
def D (k:Nat):List Ce:=[q (ao.ctr k),q (cI.ctr k)]
def E (k:Nat):cE:=en (D k) [(3,[3,5,12,13,14])] 0 [] k
section
variable (k:Nat) (a0:Ty.den aE) (a1:Ty.den a_)
def K0:Ex→St→Rs:=cC (E k) (eK (E k) Tryz.f27 (C k) (a0,a1,())) [.blk 0,.code (at_ (bt 3 7) (body Tryz.f27))]
def V0 (n0:Nat):T0:=fun x0 x1 x2 x3 x4 x5 x6 x7=>am (bX (E k) (at_ (bt 6 11) (body Tryz.f27))) (ak 0 [3,5,12,13,14]) (K0 k a0 a1) n0 (mk 34 1 [(3,.ptr 0 0 0),(5,.int .i64 x0),(12,.sl true (.int .i64) x1),(13,.int .i64 x2),(14,.int .i64 x3)] [(0,.box [.sl true aF x4,.int .i64 x5,.int .i64 x6,.bool x7])])
theorem s0 (n0:Nat):V0 k a0 a1 (n0+1)=b0 k (V0 k a0 a1 n0):=by kernel_rfl
theorem e0:V0 k a0 a1=l0 k:=aS rfl (s0 k a0 a1) fun _=>rfl
end
theorem eq (k:Nat) (a0:Ty.den aE) (a1:Ty.den a_):rn (E k) Tryz.f27 (C k) (a0,a1,())=f k a0 a1:=(show _=t k (V0 k a0 a1 k) a0 a1 by kernel_rfl).trans (by rw [e0];rfl)
theorem ctr (k:Nat):Cp 27 (C k):=rc rfl (D k) (by kernel_rfl) Tryz.func27 (by kernel_rfl) rfl fun ⟨a0,a1,_⟩ r h=>(eq k a0 a1).trans h
end dK
namespace d8
def C (k:Nat):Cn:=⟨[.val (.slice aF),.val (.int .i64)],[(.int .i64)],true,false,fun x=>f k x.1 x.2.1⟩
def D (k:Nat):List Ce:=[q (fZ.ctr k),q (fQ.ctr k),q (fw.ctr k)]
def E (k:Nat):cE:=en (D k) [(3,[5,10,11,12])] 0 [] k
section
variable (k:Nat) (a0:List (Ty.den aF)) (a1:Int)
def K0:Ex→St→Rs:=cC (E k) (eK (E k) Tryz.f28 (C k) (a0,a1,())) [.blk 0,.code (at_ (bt 3 7) (body Tryz.f28))]
def V0 (n0:Nat):T0:=fun x0 x1 x2 x3=>am (bX (E k) (at_ (bt 6 11) (body Tryz.f28))) (ak 0 [5,10,11,12]) (K0 k a0 a1) n0 (mk 24 1 [(5,.int .i64 x0),(10,.ref 0),(11,.int .i64 x1),(12,.int .i64 x2)] [(0,.own false ax x3)])
theorem s0 (n0:Nat):V0 k a0 a1 (n0+1)=b0 k (V0 k a0 a1 n0):=by kernel_rfl
theorem e0:V0 k a0 a1=l0 k:=aS rfl (s0 k a0 a1) fun _=>rfl
end
theorem eq (k:Nat) (a0:List (Ty.den aF)) (a1:Int):rn (E k) Tryz.f28 (C k) (a0,a1,())=f k a0 a1:=(show _=t k (V0 k a0 a1 k) a0 a1 by kernel_rfl).trans (by rw [e0];rfl)
theorem ctr (k:Nat):Cp 28 (C k):=rc rfl (D k) (by kernel_rfl) Tryz.func28 (by kernel_rfl) rfl fun ⟨a0,a1,_⟩ r h=>(eq k a0 a1).trans h
end d8
namespace gg
def C (k:Nat):Cn:=⟨[.val aE,.val a_],[(.int .i64)],true,false,fun x=>f k x.1 x.2.1⟩
def D (k:Nat):List Ce:=[q (gJ.ctr k),q (bz.ctr k),q (dK.ctr k),q (d8.ctr k)]
def E (k:Nat):cE:=en (D k) [] 0 [] k
theorem eq (k:Nat) (a0:Ty.den aE) (a1:Ty.den a_):rn (E k) Tryz.f11 (C k) (a0,a1,())=f k a0 a1:=by kernel_rfl
theorem ctr (k:Nat):Cp 11 (C k):=rc rfl (D k) (by kernel_rfl) Tryz.func11 (by kernel_rfl) rfl fun ⟨a0,a1,_⟩ r h=>(eq k a0 a1).trans h
end gg
namespace aj
def C (k:Nat):Cn:=⟨[.val .str],[bE,.bool],true,false,fun x=>f k x.1⟩
def D (k:Nat):List Ce:=[q (dU.ctr k),q (aZ.ctr k),q (cU.ctr k)]
def E (k:Nat):cE:=en (D k) [(6,[0,2,5,6,7,8,9])] 0 [] k
section
variable (k:Nat) (a0:ByteArray)
def K0:Ex→St→Rs:=cC (E k) (eK (E k) Tryz.f30 (C k) (a0,())) [.blk 0,.code (at_ (bt 6 63) (body Tryz.f30))]
def V0 (n0:Nat):T0:=fun x0 x1 x2 x3 x4 x5 x6 x7 x8 x9=>am (bX (E k) (at_ (bt 9 95) (body Tryz.f30))) (ak 0 [0,2,5,6,7,8,9]) (K0 k a0) n0 (mk 72 5 [(0,.str x0),(2,.ptr 0 0 0),(5,.int .i64 x1),(6,.ptr 2 0 0),(7,.ptr 3 0 0),(8,.int .i64 x2),(9,.int .i64 x3)] [(1,.own false (.int .i64) x4),(0,.box [.int .i64 x5,.ref 1]),(2,.box [.str x6,.bool x7]),(4,.own false (.int .i64) x8),(3,.box [.int .i64 x9,.ref 4])])
theorem s0 (n0:Nat):V0 k a0 (n0+1)=b0 k (V0 k a0 n0):=by kernel_rfl
theorem e0:V0 k a0=l0 k:=aS rfl (s0 k a0) fun _=>rfl
end
theorem eq (k:Nat) (a0:ByteArray):rn (E k) Tryz.f30 (C k) (a0,())=f k a0:=(show _=t k (V0 k a0 k) a0 by kernel_rfl).trans (by rw [e0];rfl)
theorem ctr (k:Nat):Cp 30 (C k):=rc rfl (D k) (by kernel_rfl) Tryz.func30 (by kernel_rfl) rfl fun ⟨a0,_⟩ r h=>(eq k a0).trans h
end aj
namespace k8
def C (k:Nat):Cn:=⟨[.val .str],[(.int .i64),.bool],true,false,fun x=>f k x.1⟩
def D (k:Nat):List Ce:=[q (gW.ctr k),q (cF.ctr k),q (ah.ctr k)]
def E (k:Nat):cE:=en (D k) [] 0 [] k
theorem eq (k:Nat) (a0:ByteArray):rn (E k) Tryz.f79 (C k) (a0,())=f k a0:=by kernel_rfl
theorem ctr (k:Nat):Cp 79 (C k):=rc rfl (D k) (by kernel_rfl) Tryz.func79 (by kernel_rfl) rfl fun ⟨a0,_⟩ r h=>(eq k a0).trans h
end k8
namespace eG
def C (k:Nat):Cn:=⟨[.val (.slice (.int .i64)),.val (.int .i64)],[.bool],true,false,fun x=>f k x.1 x.2.1⟩
def E (k:Nat):cE:=en [] [(2,[1,7,8,9])] 0 [] k
section
variable (k:Nat) (a0:List Int) (a1:Int)
def K0:Ex→St→Rs:=cC (E k) (eK (E k) Tryz.f36 (C k) (a0,a1,())) [.blk 0,.code (at_ (bt 2 3) (body Tryz.f36))]
def V0 (n0:Nat):T0:=fun x0 x1 x2 x3=>am (bX (E k) (at_ (bt 5 5) (body Tryz.f36))) (ak 0 [1,7,8,9]) (K0 k a0 a1) n0 (mk 17 0 [(1,.int .i64 x0),(7,.sl true (.int .i64) x1),(8,.int .i64 x2),(9,.int .i64 x3)] [])
theorem s0 (n0:Nat):V0 k a0 a1 (n0+1)=b0 k (V0 k a0 a1 n0):=by kernel_rfl
theorem e0:V0 k a0 a1=l0 k:=aS rfl (s0 k a0 a1) fun _=>rfl
end
theorem eq (k:Nat) (a0:List Int) (a1:Int):rn (E k) Tryz.f36 (C k) (a0,a1,())=f k a0 a1:=(show _=t k (V0 k a0 a1 k) a0 a1 by kernel_rfl).trans (by rw [e0];rfl)
theorem ctr (k:Nat):Cp 36 (C k):=rc rfl [] (by kernel_rfl) Tryz.func36 (by kernel_rfl) rfl fun ⟨a0,a1,_⟩ r h=>(eq k a0 a1).trans h
end eG
namespace f_
def C (k:Nat):Cn:=⟨[.val a_,.val bE],[(.slice .str)],true,false,fun x=>f k x.1 x.2.1⟩
def D (k:Nat):List Ce:=[q (bC.ctr k),q (k8.ctr k),q (eG.ctr k)]
def E (k:Nat):cE:=en (D k) [(5,[3,5,14,15,16])] 0 [] k
section
variable (k:Nat) (a0:Ty.den a_) (a1:Ty.den bE)
def K0:Ex→St→Rs:=cC (E k) (eK (E k) Tryz.f31 (C k) (a0,a1,())) [.blk 0,.code (at_ (bt 4 15) (body Tryz.f31))]
def V0 (n0:Nat):T0:=fun x0 x1 x2 x3 x4 x5=>am (bX (E k) (at_ (bt 7 23) (body Tryz.f31))) (ak 0 [3,5,14,15,16]) (K0 k a0 a1) n0 (mk 46 2 [(3,.ptr 0 0 0),(5,.ref 1),(14,.sl true aF x0),(15,.int .i64 x1),(16,.int .i64 x2)] [(0,.box [.int .i64 x3,.sl true (.int .i64) x4]),(1,.own false .str x5)])
theorem s0 (n0:Nat):V0 k a0 a1 (n0+1)=b0 k (V0 k a0 a1 n0):=by kernel_rfl
theorem e0:V0 k a0 a1=l0 k:=aS rfl (s0 k a0 a1) fun _=>rfl
end
theorem eq (k:Nat) (a0:Ty.den a_) (a1:Ty.den bE):rn (E k) Tryz.f31 (C k) (a0,a1,())=f k a0 a1:=(show _=t k (V0 k a0 a1 k) a0 a1 by kernel_rfl).trans (by rw [e0];rfl)
theorem ctr (k:Nat):Cp 31 (C k):=rc rfl (D k) (by kernel_rfl) Tryz.func31 (by kernel_rfl) rfl fun ⟨a0,a1,_⟩ r h=>(eq k a0 a1).trans h
end f_
namespace gN
def C (k:Nat):Cn:=⟨[.val (.slice aD),.val ax],[(.slice aD)],true,false,fun x=>f k x.1 x.2.1⟩
def E (k:Nat):cE:=en [] [(3,[3,5,9,10,11])] 0 [] k
section
variable (k:Nat) (a0:List (Ty.den aD)) (a1:Ty.den ax)
def K0:Ex→St→Rs:=cC (E k) (eK (E k) Tryz.f83 (C k) (a0,a1,())) [.blk 0,.code (at_ (bt 3 7) (body Tryz.f83))]
def V0 (n0:Nat):T0:=fun x0 x1 x2 x3 x4 x5 x6 x7 x8 x9=>am (bX (E k) (at_ (bt 6 11) (body Tryz.f83))) (ak 0 [3,5,9,10,11]) (K0 k a0 a1) n0 (mk 62 2 [(3,.ptr 0 0 0),(5,.ref 1),(9,.sl true aD x0),(10,.int .i64 x1),(11,.int .i64 x2)] [(0,.box [.int .i64 x3,.int .i64 x4,.str x5,.str x6,.int .i64 x7,.int .i64 x8]),(1,.own false aD x9)])
theorem s0 (n0:Nat):V0 k a0 a1 (n0+1)=b0 k (V0 k a0 a1 n0):=by kernel_rfl
theorem e0:V0 k a0 a1=l0 k:=aS rfl (s0 k a0 a1) fun _=>rfl
end
theorem eq (k:Nat) (a0:List (Ty.den aD)) (a1:Ty.den ax):rn (E k) Tryz.f83 (C k) (a0,a1,())=f k a0 a1:=(show _=t k (V0 k a0 a1 k) a0 a1 by kernel_rfl).trans (by rw [e0];rfl)
theorem ctr (k:Nat):Cp 83 (C k):=rc rfl [] (by kernel_rfl) Tryz.func83 (by kernel_rfl) rfl fun ⟨a0,a1,_⟩ r h=>(eq k a0 a1).trans h
end gN
namespace fh
def C (k:Nat):Cn:=⟨[.val (.slice aD)],[(.slice (.int .i64))],true,false,fun x=>f k x.1⟩
def D (k:Nat):List Ce:=[q (gN.ctr k),q (gM.ctr k)]
def E (k:Nat):cE:=en (D k) [(3,[0,3,6,7,8])] 0 [] k
section
variable (k:Nat) (a0:List (Ty.den aD))
def K0:Ex→St→Rs:=cC (E k) (eK (E k) Tryz.f35 (C k) (a0,())) [.blk 0,.code (at_ (bt 3 7) (body Tryz.f35))]
def V0 (n0:Nat):T0:=fun x0 x1 x2 x3 x4=>am (bX (E k) (at_ (bt 6 11) (body Tryz.f35))) (ak 0 [0,3,6,7,8]) (K0 k a0) n0 (mk 36 1 [(0,.sl true aD x0),(3,.ref 0),(6,.sl true aD x1),(7,.int .i64 x2),(8,.int .i64 x3)] [(0,.own false (.int .i64) x4)])
theorem s0 (n0:Nat):V0 k a0 (n0+1)=b0 k (V0 k a0 n0):=by kernel_rfl
theorem e0:V0 k a0=l0 k:=aS rfl (s0 k a0) fun _=>rfl
end
theorem eq (k:Nat) (a0:List (Ty.den aD)):rn (E k) Tryz.f35 (C k) (a0,())=f k a0:=(show _=t k (V0 k a0 k) a0 by kernel_rfl).trans (by rw [e0];rfl)
theorem ctr (k:Nat):Cp 35 (C k):=rc rfl (D k) (by kernel_rfl) Tryz.func35 (by kernel_rfl) rfl fun ⟨a0,_⟩ r h=>(eq k a0).trans h
end fh
namespace eN
def C (k:Nat):Cn:=⟨[.val a_],[v_],true,false,fun x=>f k x.1⟩
def D (k:Nat):List Ce:=[q (cI.ctr k),q (aj.ctr k),q (f_.ctr k),q (ao.ctr k),q (cX.ctr k),q (eI.ctr k),q (fh.ctr k),q (eG.ctr k)]
def E (k:Nat):cE:=en (D k) [(6,[1,2,7,8,35,36,37]),(20,[2,7,15,86,87,88])] 0 [] k
section
variable (k:Nat) (a0:Ty.den a_)
def K0:Ex→St→Rs:=cC (E k) (eK (E k) Tryz.f12 (C k) (a0,())) [.blk 0,.code (at_ (bt 6 63) (body Tryz.f12))]
def K1:Ex→St→Rs:=cC (E k) (eK (E k) Tryz.f12 (C k) (a0,())) [.blk 2,.code (at_ (bt 9 511) (body Tryz.f12))]
def V0 (n0:Nat):T0:=fun x0 x1 x2 x3 x4 x5 x6 x7 x8 x9 x10 x11 x12 x13 x14 x15 x16 x17 x18 x19 x20 x21=>am (bX (E k) (at_ (bt 9 95) (body Tryz.f12))) (ak 0 [1,2,7,8,35,36,37]) (K0 k a0) n0 (mk 116 5 [(1,.ptr 0 0 0),(2,.ptr 1 0 0),(7,.ptr 2 0 0),(8,.ref 3),(35,.ref 4),(36,.int .i64 x0),(37,.int .i64 x1)] [(0,.box [.sl true aF x2,.int .i64 x3,.int .i64 x4,.bool x5]),(1,.box [.bool x6,.int .i64 x7,.int .i64 x8,.int .i64 x9,.int .i64 x10,.int .i64 x11,.int .i64 x12]),(2,.box [.bool x13,.int .i64 x14,.int .i64 x15,.int .i64 x16,.int .i64 x17,.int .i64 x18,.int .i64 x19]),(3,.own false aD x20),(4,.own false (.int .i64) x21)])
def V1 (n1:Nat):T1:=fun x0 x1 x2 x3 x4 x5 x6 x7 x8 x9 x10 x11 x12 x13 x14 x15 x16 x17=>am (bX (E k) (at_ (bt 12 767) (body Tryz.f12))) (ak 0 [2,7,15,86,87,88]) (K1 k a0) n1 (mk 116 4 [(2,.ptr 0 0 0),(7,.ptr 1 0 0),(15,.ref 2),(86,.ref 3),(87,.int .i64 x0),(88,.int .i64 x1)] [(0,.box [.bool x2,.int .i64 x3,.int .i64 x4,.int .i64 x5,.int .i64 x6,.int .i64 x7,.int .i64 x8]),(1,.box [.bool x9,.int .i64 x10,.int .i64 x11,.int .i64 x12,.int .i64 x13,.int .i64 x14,.int .i64 x15]),(2,.own false (.int .i64) x16),(3,.own false aD x17)])
theorem s0 (n0:Nat):V0 k a0 (n0+1)=b0 k (V1 k a0 k) (V0 k a0 n0):=by kernel_rfl
theorem s1 (n1:Nat):V1 k a0 (n1+1)=b1 k (V1 k a0 n1):=by kernel_rfl
theorem e1:V1 k a0=l1 k:=aS rfl (s1 k a0) fun _=>rfl
theorem e0 (n0:Nat):V0 k a0 n0=l0 k n0:=by
 induction n0 with
 | zero=>rfl
 | succ n0 ih =>
  have h:V0 k a0 (n0+1)=b0 k (V1 k a0 k) (V0 k a0 n0):=s0 k a0 n0
  rw [h,e1,ih]
  rfl
end
theorem eq (k:Nat) (a0:Ty.den a_):rn (E k) Tryz.f12 (C k) (a0,())=f k a0:=(show _=t k (V0 k a0 k) a0 by kernel_rfl).trans (by rw [e0];rfl)
theorem ctr (k:Nat):Cp 12 (C k):=rc rfl (D k) (by kernel_rfl) Tryz.func12 (by kernel_rfl) rfl fun ⟨a0,_⟩ r h=>(eq k a0).trans h
end eN
namespace dM
def C (k:Nat):Cn:=⟨[.val (.slice (.int .u8))],[.bool],true,false,fun x=>f k x.1⟩
def D (k:Nat):List Ce:=[q (oN.ctr k),q (gi.ctr k),q (jH.ctr k),q (k9.ctr k),q (dA.ctr k),q (cw.ctr k),q (gg.ctr k),q (eN.ctr k)]
def E (k:Nat):cE:=en (D k) [] 0 [] k
theorem eq (k:Nat) (a0:List Int):rn (E k) Tryz.f3 (C k) (a0,())=f k a0:=by kernel_rfl
theorem ctr (k:Nat):Cp 3 (C k):=rc rfl (D k) (by kernel_rfl) Tryz.func3 (by kernel_rfl) rfl fun ⟨a0,_⟩ r h=>(eq k a0).trans h
end dM
end
end Go.Proofs.YtohaanhjddohmaaGreatDoor.G

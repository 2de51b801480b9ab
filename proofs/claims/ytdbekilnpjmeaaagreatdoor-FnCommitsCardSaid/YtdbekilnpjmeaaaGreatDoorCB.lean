/- Functions keep their contracts. -/
import Derived.Test.YtdbekilnpjmeaaaGreatDoorVTab
import Derived.Test.YtdbekilnpjmeaaaGreatDoorFB
import Derived.Test.YtdbekilnpjmeaaaGreatDoorCLib
set_option linter.unusedVariables false
set_option maxRecDepth 100000
namespace Go.Proofs.YtdbekilnpjmeaaaGreatDoor.G
open Go.V
noncomputable section
namespace od
def C (k:Nat):Cn:=⟨[.val (.slice (.int .u8))],[.bool],true,false,fun x=>f k x.1⟩
def E (k:Nat):cC:=en [] [] 0 [] k
theorem eq (k:Nat) (a0:List Int):rn (E k) Tryz.f4 (C k) (a0,())=f k a0:=by kernel_rfl
theorem ctr (k:Nat):Cp 4 (C k):=rc rfl [] (by kernel_rfl) Tryz.func4 (by kernel_rfl) rfl fun ⟨a0,_⟩ r h=>(eq k a0).trans h
end od
namespace gD
def C (k:Nat):Cn:=⟨[.val (.slice (.int .u8))],[.opq,ap],false,true,fun x=>f k x.1⟩
def E (k:Nat):cC:=en [] [(3,[0,3,4])] 0 [] k
section
variable (k:Nat) (a0:List Int)
def K0:Ex→St→Rs:=cF (E k) (eB (E k) Tryz.f19 (C k) (a0,())) [.blk 0,.code (at_ (bt 3 7) (body Tryz.f19))]
def V0 (n0:Nat):T0:=fun x0 x1 x2=>ak (bf (E k) (at_ (bt 6 11) (body Tryz.f19))) (ai 0 [0,3,4]) (K0 k a0) n0 (mk 32 0 [(0,.sl true (.int .u8) x0),(3,.int .i64 x1),(4,.int .i64 x2)] [])
theorem s0 (n0:Nat):V0 k a0 (n0+1)=b0 k (V0 k a0 n0):=by kernel_rfl
theorem e0:V0 k a0=l0 k:=aW rfl (s0 k a0) fun _=>rfl
end
theorem eq (k:Nat) (a0:List Int):rb (E k) Tryz.f19 (C k) (a0,())=f k a0:=(show _=t k (V0 k a0 k) a0 by kernel_rfl).trans (by rw [e0];rfl)
theorem ctr (k:Nat):Cp 19 (C k):=Kw rfl rfl rfl [] (by kernel_rfl) Tryz.func19 (by kernel_rfl) rfl fun ⟨a0,_⟩ r h=>(eq k a0).trans h
end gD
namespace eu
def C (k:Nat):Cn:=⟨[.io false ap],[(.int .i64)],true,true,fun x=>f k x.1⟩
def E (k:Nat):cC:=en [] [] 1 [] k
theorem eq (k:Nat) (a0:Ty.den ap):rn (E k) Tryz.f101 (C k) (a0,())=f k a0:=by kernel_rfl
theorem ctr (k:Nat):Cp 101 (C k):=rc rfl [] (by kernel_rfl) Tryz.func101 (by kernel_rfl) rfl fun ⟨a0,_⟩ r h=>(eq k a0).trans h
end eu
namespace aV
def C (k:Nat):Cn:=⟨[.io false ap,.val (.int .i64)],[(.int .i64)],true,true,fun x=>f k x.1 x.2.1⟩
def D (k:Nat):List Ce:=[q (eu.ctr k)]
def E (k:Nat):cC:=en (D k) [] 1 [] k
theorem eq (k:Nat) (a0:Ty.den ap) (a1:Int):rn (E k) Tryz.f51 (C k) (a0,a1,())=f k a0 a1:=by kernel_rfl
theorem ctr (k:Nat):Cp 51 (C k):=rc rfl (D k) (by kernel_rfl) Tryz.func51 (by kernel_rfl) rfl fun ⟨a0,a1,_⟩ r h=>(eq k a0 a1).trans h
end aV
namespace cO
def C (k:Nat):Cn:=⟨[.io false ap,.val (.slice (.int .i64))],[(.int .i64)],true,true,fun x=>f k x.1 x.2.1⟩
def D (k:Nat):List Ce:=[q (aV.ctr k)]
def E (k:Nat):cC:=en (D k) [] 1 [] k
theorem eq (k:Nat) (a0:Ty.den ap) (a1:List Int):rn (E k) Tryz.f53 (C k) (a0,a1,())=f k a0 a1:=by kernel_rfl
theorem ctr (k:Nat):Cp 53 (C k):=rc rfl (D k) (by kernel_rfl) Tryz.func53 (by kernel_rfl) rfl fun ⟨a0,a1,_⟩ r h=>(eq k a0 a1).trans h
end cO
namespace aU
def C (k:Nat):Cn:=⟨[.val (.int .i64),.val (.int .i64),.val (.int .i64)],[.bool],true,false,fun x=>f k x.1 x.2.1 x.2.2.1⟩
def E (k:Nat):cC:=en [] [] 0 [] k
theorem eq (k:Nat) (a0:Int) (a1:Int) (a2:Int):rn (E k) Tryz.f40 (C k) (a0,a1,a2,())=f k a0 a1 a2:=by kernel_rfl
theorem ctr (k:Nat):Cp 40 (C k):=rc rfl [] (by kernel_rfl) Tryz.func40 (by kernel_rfl) rfl fun ⟨a0,a1,a2,_⟩ r h=>(eq k a0 a1 a2).trans h
end aU
namespace fE
def C (k:Nat):Cn:=⟨[.val (.int .i64)],[a_],true,false,fun x=>f k x.1⟩
def D (k:Nat):List Ce:=[q (aU.ctr k)]
def E (k:Nat):cC:=en (D k) [] 0 [] k
theorem eq (k:Nat) (a0:Int):rn (E k) Tryz.f98 (C k) (a0,())=f k a0:=by kernel_rfl
theorem ctr (k:Nat):Cp 98 (C k):=rc rfl (D k) (by kernel_rfl) Tryz.func98 (by kernel_rfl) rfl fun ⟨a0,_⟩ r h=>(eq k a0).trans h
end fE
namespace dQ
def C (k:Nat):Cn:=⟨[.val a_],[(.int .i64)],true,false,fun x=>f k x.1⟩
def E (k:Nat):cC:=en [] [(3,[1,3,4])] 0 [] k
section
variable (k:Nat) (a0:Ty.den a_)
def K0:Ex→St→Rs:=cF (E k) (eK (E k) Tryz.f83 (C k) (a0,())) [.blk 0,.code (at_ (bt 3 7) (body Tryz.f83))]
def V0 (n0:Nat):T0:=fun x0 x1 x2 x3 x4 x5=>ak (bf (E k) (at_ (bt 6 11) (body Tryz.f83))) (ai 0 [1,3,4]) (K0 k a0) n0 (mk 22 1 [(1,.ptr 0 0 0),(3,.int .i64 x0),(4,.int .i64 x1)] [(0,.box [.sl true aD x2,.int .i64 x3,.int .i64 x4,.bool x5])])
theorem s0 (n0:Nat):V0 k a0 (n0+1)=b0 k (V0 k a0 n0):=by kernel_rfl
theorem e0:V0 k a0=l0 k:=aW rfl (s0 k a0) fun _=>rfl
end
theorem eq (k:Nat) (a0:Ty.den a_):rn (E k) Tryz.f83 (C k) (a0,())=f k a0:=(show _=t k (V0 k a0 k) a0 by kernel_rfl).trans (by rw [e0];rfl)
theorem ctr (k:Nat):Cp 83 (C k):=rc rfl [] (by kernel_rfl) Tryz.func83 (by kernel_rfl) rfl fun ⟨a0,_⟩ r h=>(eq k a0).trans h
end dQ
namespace dt
def C (k:Nat):Cn:=⟨[.val .str],[.bool],true,false,fun x=>f k x.1⟩
def D (k:Nat):List Ce:=[q (aU.ctr k)]
def E (k:Nat):cC:=en (D k) [(2,[0,3])] 0 [] k
section
variable (k:Nat) (a0:ByteArray)
def K0:Ex→St→Rs:=cF (E k) (eK (E k) Tryz.f84 (C k) (a0,())) [.blk 0,.code (at_ (bt 2 3) (body Tryz.f84))]
def V0 (n0:Nat):T0:=fun x0 x1=>ak (bf (E k) (at_ (bt 5 5) (body Tryz.f84))) (ai 0 [0,3]) (K0 k a0) n0 (mk 36 0 [(0,.str x0),(3,.int .i64 x1)] [])
theorem s0 (n0:Nat):V0 k a0 (n0+1)=b0 k (V0 k a0 n0):=by kernel_rfl
theorem e0:V0 k a0=l0 k:=aW rfl (s0 k a0) fun _=>rfl
end
theorem eq (k:Nat) (a0:ByteArray):rn (E k) Tryz.f84 (C k) (a0,())=f k a0:=(show _=t k (V0 k a0 k) a0 by kernel_rfl).trans (by rw [e0];rfl)
theorem ctr (k:Nat):Cp 84 (C k):=rc rfl (D k) (by kernel_rfl) Tryz.func84 (by kernel_rfl) rfl fun ⟨a0,_⟩ r h=>(eq k a0).trans h
end dt
namespace bn
def C (k:Nat):Cn:=⟨[.val a_],[.bool],true,false,fun x=>f k x.1⟩
def D (k:Nat):List Ce:=[q (aU.ctr k),q (dQ.ctr k),q (dt.ctr k)]
def E (k:Nat):cC:=en (D k) [(4,[1,3])] 0 [] k
section
variable (k:Nat) (a0:Ty.den a_)
def K0:Ex→St→Rs:=cF (E k) (eK (E k) Tryz.f37 (C k) (a0,())) [.blk 0,.code (at_ (bt 3 7) (body Tryz.f37))]
def V0 (n0:Nat):T0:=fun x0 x1 x2 x3 x4=>ak (bf (E k) (at_ (bt 6 11) (body Tryz.f37))) (ai 0 [1,3]) (K0 k a0) n0 (mk 79 1 [(1,.ptr 0 0 0),(3,.int .i64 x0)] [(0,.box [.sl true aD x1,.int .i64 x2,.int .i64 x3,.bool x4])])
theorem s0 (n0:Nat):V0 k a0 (n0+1)=b0 k (V0 k a0 n0):=by kernel_rfl
theorem e0:V0 k a0=l0 k:=aW rfl (s0 k a0) fun _=>rfl
end
theorem eq (k:Nat) (a0:Ty.den a_):rn (E k) Tryz.f37 (C k) (a0,())=f k a0:=(show _=t k (V0 k a0 k) a0 by kernel_rfl).trans (by rw [e0];rfl)
theorem ctr (k:Nat):Cp 37 (C k):=rc rfl (D k) (by kernel_rfl) Tryz.func37 (by kernel_rfl) rfl fun ⟨a0,_⟩ r h=>(eq k a0).trans h
end bn
namespace bv
def C (k:Nat):Cn:=⟨[.val a_],[a_],true,false,fun x=>f k x.1⟩
def E (k:Nat):cC:=en [] [] 0 [] k
theorem eq (k:Nat) (a0:Ty.den a_):rn (E k) Tryz.f29 (C k) (a0,())=f k a0:=by kernel_rfl
theorem ctr (k:Nat):Cp 29 (C k):=rc rfl [] (by kernel_rfl) Tryz.func29 (by kernel_rfl) rfl fun ⟨a0,_⟩ r h=>(eq k a0).trans h
end bv
namespace bD
def C (k:Nat):Cn:=⟨[.val a_,.val .str],[(.int .i64)],true,false,fun x=>f k x.1 x.2.1⟩
def E (k:Nat):cC:=en [] [(2,[1,2,5])] 0 [] k
section
variable (k:Nat) (a0:Ty.den a_) (a1:ByteArray)
def K0:Ex→St→Rs:=cF (E k) (eK (E k) Tryz.f85 (C k) (a0,a1,())) [.blk 0,.code (at_ (bt 2 3) (body Tryz.f85))]
def V0 (n0:Nat):T0:=fun x0 x1 x2 x3 x4 x5=>ak (bf (E k) (at_ (bt 5 5) (body Tryz.f85))) (ai 0 [1,2,5]) (K0 k a0 a1) n0 (mk 22 1 [(1,.str x0),(2,.ptr 0 0 0),(5,.int .i64 x1)] [(0,.box [.sl true aD x2,.int .i64 x3,.int .i64 x4,.bool x5])])
theorem s0 (n0:Nat):V0 k a0 a1 (n0+1)=b0 k (V0 k a0 a1 n0):=by kernel_rfl
theorem e0:V0 k a0 a1=l0 k:=aW rfl (s0 k a0 a1) fun _=>rfl
end
theorem eq (k:Nat) (a0:Ty.den a_) (a1:ByteArray):rn (E k) Tryz.f85 (C k) (a0,a1,())=f k a0 a1:=(show _=t k (V0 k a0 a1 k) a0 a1 by kernel_rfl).trans (by rw [e0];rfl)
theorem ctr (k:Nat):Cp 85 (C k):=rc rfl [] (by kernel_rfl) Tryz.func85 (by kernel_rfl) rfl fun ⟨a0,a1,_⟩ r h=>(eq k a0 a1).trans h
end bD
namespace bJ
def C (k:Nat):Cn:=⟨[.val a_,.val .str],[.str,.bool],true,false,fun x=>f k x.1 x.2.1⟩
def D (k:Nat):List Ce:=[q (bn.ctr k),q (bD.ctr k)]
def E (k:Nat):cC:=en (D k) [] 0 [] k
theorem eq (k:Nat) (a0:Ty.den a_) (a1:ByteArray):rn (E k) Tryz.f41 (C k) (a0,a1,())=f k a0 a1:=by kernel_rfl
theorem ctr (k:Nat):Cp 41 (C k):=rc rfl (D k) (by kernel_rfl) Tryz.func41 (by kernel_rfl) rfl fun ⟨a0,a1,_⟩ r h=>(eq k a0 a1).trans h
end bJ
namespace dA
def C (k:Nat):Cn:=⟨[.val (.int .i64)],[.str],true,false,fun x=>f k x.1⟩
def E (k:Nat):cC:=en [] [(5,[0,3,4])] 0 [] k
section
variable (k:Nat) (a0:Int)
def K0:Ex→St→Rs:=cF (E k) (eK (E k) Tryz.f57 (C k) (a0,())) [.blk 0,.code (at_ (bt 5 31) (body Tryz.f57))]
def V0 (n0:Nat):T0:=fun x0 x1 x2=>ak (bf (E k) (at_ (bt 7 15) (body Tryz.f57))) (ai 0 [0,3,4]) (K0 k a0) n0 (mk 31 0 [(0,.int .i64 x0),(3,.str x1),(4,.bool x2)] [])
theorem s0 (n0:Nat):V0 k a0 (n0+1)=b0 k (V0 k a0 n0):=by kernel_rfl
theorem e0:V0 k a0=l0 k:=aW rfl (s0 k a0) fun _=>rfl
end
theorem eq (k:Nat) (a0:Int):rn (E k) Tryz.f57 (C k) (a0,())=f k a0:=(show _=t k (V0 k a0 k) a0 by kernel_rfl).trans (by rw [e0];rfl)
theorem ctr (k:Nat):Cp 57 (C k):=rc rfl [] (by kernel_rfl) Tryz.func57 (by kernel_rfl) rfl fun ⟨a0,_⟩ r h=>(eq k a0).trans h
end dA
namespace eR
def C (k:Nat):Cn:=⟨[.val .str],[(.int .i64),.bool],true,false,fun x=>f k x.1⟩
def D (k:Nat):List Ce:=[q (dA.ctr k)]
def E (k:Nat):cC:=en (D k) [(4,[0,4,5,6])] 0 [] k
section
variable (k:Nat) (a0:ByteArray)
def K0:Ex→St→Rs:=cF (E k) (eK (E k) Tryz.f95 (C k) (a0,())) [.blk 0,.code (at_ (bt 4 15) (body Tryz.f95))]
def V0 (n0:Nat):T0:=fun x0 x1 x2 x3=>ak (bf (E k) (at_ (bt 7 23) (body Tryz.f95))) (ai 0 [0,4,5,6]) (K0 k a0) n0 (mk 61 0 [(0,.str x0),(4,.int .i64 x1),(5,.int .i64 x2),(6,.int .i64 x3)] [])
theorem s0 (n0:Nat):V0 k a0 (n0+1)=b0 k (V0 k a0 n0):=by kernel_rfl
theorem e0:V0 k a0=l0 k:=aW rfl (s0 k a0) fun _=>rfl
end
theorem eq (k:Nat) (a0:ByteArray):rn (E k) Tryz.f95 (C k) (a0,())=f k a0:=(show _=t k (V0 k a0 k) a0 by kernel_rfl).trans (by rw [e0];rfl)
theorem ctr (k:Nat):Cp 95 (C k):=rc rfl (D k) (by kernel_rfl) Tryz.func95 (by kernel_rfl) rfl fun ⟨a0,_⟩ r h=>(eq k a0).trans h
end eR
namespace aS
def C (k:Nat):Cn:=⟨[.val (.int .i64)],[.str],true,false,fun x=>f k x.1⟩
def D (k:Nat):List Ce:=[q (aU.ctr k),q (dA.ctr k)]
def E (k:Nat):cC:=en (D k) [] 0 [] k
theorem eq (k:Nat) (a0:Int):rn (E k) Tryz.f42 (C k) (a0,())=f k a0:=by kernel_rfl
theorem ctr (k:Nat):Cp 42 (C k):=rc rfl (D k) (by kernel_rfl) Tryz.func42 (by kernel_rfl) rfl fun ⟨a0,_⟩ r h=>(eq k a0).trans h
end aS
namespace cX
def C (k:Nat):Cn:=⟨[.val (.int .i64)],[.str],true,false,fun x=>f k x.1⟩
def D (k:Nat):List Ce:=[q (aU.ctr k),q (dA.ctr k)]
def E (k:Nat):cC:=en (D k) [] 0 [] k
theorem eq (k:Nat) (a0:Int):rn (E k) Tryz.f96 (C k) (a0,())=f k a0:=by kernel_rfl
theorem ctr (k:Nat):Cp 96 (C k):=rc rfl (D k) (by kernel_rfl) Tryz.func96 (by kernel_rfl) rfl fun ⟨a0,_⟩ r h=>(eq k a0).trans h
end cX
namespace gy
def C (k:Nat):Cn:=⟨[.val .str],[(.int .i64),.bool],true,false,fun x=>f k x.1⟩
def D (k:Nat):List Ce:=[q (eR.ctr k),q (aS.ctr k),q (cX.ctr k)]
def E (k:Nat):cC:=en (D k) [(2,[0,4])] 0 [] k
section
variable (k:Nat) (a0:ByteArray)
def K0:Ex→St→Rs:=cF (E k) (eK (E k) Tryz.f49 (C k) (a0,())) [.blk 0,.code (at_ (bt 2 3) (body Tryz.f49))]
def V0 (n0:Nat):T0:=fun x0 x1=>ak (bf (E k) (at_ (bt 5 5) (body Tryz.f49))) (ai 0 [0,4]) (K0 k a0) n0 (mk 40 0 [(0,.str x0),(4,.int .i64 x1)] [])
theorem s0 (n0:Nat):V0 k a0 (n0+1)=b0 k (V0 k a0 n0):=by kernel_rfl
theorem e0:V0 k a0=l0 k:=aW rfl (s0 k a0) fun _=>rfl
end
theorem eq (k:Nat) (a0:ByteArray):rn (E k) Tryz.f49 (C k) (a0,())=f k a0:=(show _=t k (V0 k a0 k) a0 by kernel_rfl).trans (by rw [e0];rfl)
theorem ctr (k:Nat):Cp 49 (C k):=rc rfl (D k) (by kernel_rfl) Tryz.func49 (by kernel_rfl) rfl fun ⟨a0,_⟩ r h=>(eq k a0).trans h
end gy
namespace b9
def C (k:Nat):Cn:=⟨[.val a_,.val bj],[(.slice .str)],true,false,fun x=>f k x.1 x.2.1⟩
def D (k:Nat):List Ce:=[q (bn.ctr k),q (gy.ctr k)]
def E (k:Nat):cC:=en (D k) [(5,[2,3,5,6]),(10,[2,3,5,6,7,8,9,10])] 0 [] k
section
variable (k:Nat) (a0:Ty.den a_) (a1:Ty.den bj)
def K0:Ex→St→Rs:=cF (E k) (eK (E k) Tryz.f17 (C k) (a0,a1,())) [.blk 0,.code (at_ (bt 4 15) (body Tryz.f17))]
def B0 (n0:Nat):Ex→St→Rs:=KY (E k) (at_ (bt 7 23) (body Tryz.f17)) 0 [2,3,5,6] (K0 k a0 a1) n0
def K1 (n0:Nat):Ex→St→Rs:=cF (E k) (B0 k a0 a1 n0) [.blk 2,.code (at_ (bt 13 7319) (body Tryz.f17)),.blk 1,.code (at_ (bt 9 407) (body Tryz.f17))]
def V0 (n0:Nat):T0:=fun x0 x1 x2 x3 x4 x5 x6 x7=>ak (bf (E k) (at_ (bt 7 23) (body Tryz.f17))) (ai 0 [2,3,5,6]) (K0 k a0 a1) n0 (mk 74 3 [(2,.ptr 0 0 0),(3,.ptr 1 0 0),(5,.ref 2),(6,.int .i64 x0)] [(0,.box [.sl true aD x1,.int .i64 x2,.int .i64 x3,.bool x4]),(1,.box [.int .i64 x5,.sl true (.int .i64) x6]),(2,.own false .str x7)])
def V1 (n0 n1:Nat):T1:=fun x0 x1 x2 x3 x4 x5 x6 x7 x8 x9 x10 x11=>ak (bf (E k) (at_ (bt 16 11415) (body Tryz.f17))) (ai 0 [2,3,5,6,7,8,9,10]) (K1 k a0 a1 n0) n1 (mk 74 3 [(2,.ptr 0 0 0),(3,.ptr 1 0 0),(5,.ref 2),(6,.int .i64 x0),(7,.int .i64 x1),(8,.bool x2),(9,.bool x3),(10,.int .i64 x4)] [(0,.box [.sl true aD x5,.int .i64 x6,.int .i64 x7,.bool x8]),(1,.box [.int .i64 x9,.sl true (.int .i64) x10]),(2,.own false .str x11)])
theorem s0 (n0:Nat):V0 k a0 a1 (n0+1)=b0 k (V1 k a0 a1 n0 k) (V0 k a0 a1 n0):=by kernel_rfl
theorem s1 (n0 n1:Nat):V1 k a0 a1 n0 (n1+1)=b1 k (V0 k a0 a1 n0) (V1 k a0 a1 n0 n1):=by kernel_rfl
theorem e1 (n0:Nat):V1 k a0 a1 n0=l1 k (V0 k a0 a1 n0):=aW rfl (s1 k a0 a1 n0) fun _=>rfl
theorem e0 (n0:Nat):V0 k a0 a1 n0=l0 k n0:=by
 induction n0 with
 | zero=>rfl
 | succ n0 ih =>
  have h:V0 k a0 a1 (n0+1)=b0 k (V1 k a0 a1 n0 k) (V0 k a0 a1 n0):=s0 k a0 a1 n0
  rw [h,e1,ih]
  rfl
end
theorem eq (k:Nat) (a0:Ty.den a_) (a1:Ty.den bj):rn (E k) Tryz.f17 (C k) (a0,a1,())=f k a0 a1:=(show _=t k (V0 k a0 a1 k) a0 a1 by kernel_rfl).trans (by rw [e0];rfl)
theorem ctr (k:Nat):Cp 17 (C k):=rc rfl (D k) (by kernel_rfl) Tryz.func17 (by kernel_rfl) rfl fun ⟨a0,a1,_⟩ r h=>(eq k a0 a1).trans h
end b9
namespace cv
def C (k:Nat):Cn:=⟨[.val a_],[a_,(.int .i64)],true,false,fun x=>f k x.1⟩
def D (k:Nat):List Ce:=[q (bv.ctr k),q (bn.ctr k)]
def E (k:Nat):cC:=en (D k) [] 0 [] k
theorem eq (k:Nat) (a0:Ty.den a_):rn (E k) Tryz.f123 (C k) (a0,())=f k a0:=by kernel_rfl
theorem ctr (k:Nat):Cp 123 (C k):=rc rfl (D k) (by kernel_rfl) Tryz.func123 (by kernel_rfl) rfl fun ⟨a0,_⟩ r h=>(eq k a0).trans h
end cv
namespace er
def C (k:Nat):Cn:=⟨[.val (.slice aD),.val (.int .i64)],[(.slice aD)],true,false,fun x=>f k x.1 x.2.1⟩
def E (k:Nat):cC:=en [] [] 0 [] k
theorem eq (k:Nat) (a0:List (Ty.den aD)) (a1:Int):rn (E k) Tryz.f171 (C k) (a0,a1,())=f k a0 a1:=by kernel_rfl
theorem ctr (k:Nat):Cp 171 (C k):=rc rfl [] (by kernel_rfl) Tryz.func171 (by kernel_rfl) rfl fun ⟨a0,a1,_⟩ r h=>(eq k a0 a1).trans h
end er
namespace gJ
def C (k:Nat):Cn:=⟨[.val a_,.val .str],[a_,(.int .i64)],true,false,fun x=>f k x.1 x.2.1⟩
def D (k:Nat):List Ce:=[q (cv.ctr k),q (bD.ctr k),q (er.ctr k)]
def E (k:Nat):cC:=en (D k) [] 0 [] k
theorem eq (k:Nat) (a0:Ty.den a_) (a1:ByteArray):rn (E k) Tryz.f166 (C k) (a0,a1,())=f k a0 a1:=by kernel_rfl
theorem ctr (k:Nat):Cp 166 (C k):=rc rfl (D k) (by kernel_rfl) Tryz.func166 (by kernel_rfl) rfl fun ⟨a0,a1,_⟩ r h=>(eq k a0 a1).trans h
end gJ
namespace aP
def C (k:Nat):Cn:=⟨[.val (.int .i64)],[(.int .i64)],true,false,fun x=>f k x.1⟩
def E (k:Nat):cC:=en [] [] 0 [] k
theorem eq (k:Nat) (a0:Int):rn (E k) Tryz.f80 (C k) (a0,())=f k a0:=by kernel_rfl
theorem ctr (k:Nat):Cp 80 (C k):=rc rfl [] (by kernel_rfl) Tryz.func80 (by kernel_rfl) rfl fun ⟨a0,_⟩ r h=>(eq k a0).trans h
end aP
namespace d8
def C (k:Nat):Cn:=⟨[.val (.slice aD),.val aD],[(.slice aD)],true,false,fun x=>f k x.1 x.2.1⟩
def E (k:Nat):cC:=en [] [(4,[0,3,5,6,7])] 0 [] k
section
variable (k:Nat) (a0:List (Ty.den aD)) (a1:Ty.den aD)
def K0:Ex→St→Rs:=cF (E k) (eK (E k) Tryz.f170 (C k) (a0,a1,())) [.blk 0,.code (at_ (bt 4 15) (body Tryz.f170))]
def V0 (n0:Nat):T0:=fun x0 x1 x2 x3 x4 x5 x6=>ak (bf (E k) (at_ (bt 7 23) (body Tryz.f170))) (ai 0 [0,3,5,6,7]) (K0 k a0 a1) n0 (mk 45 2 [(0,.sl true aD x0),(3,.ptr 0 0 0),(5,.ref 1),(6,.bool x1),(7,.int .i64 x2)] [(0,.box [.str x3,.str x4,.int .i64 x5]),(1,.own false aD x6)])
theorem s0 (n0:Nat):V0 k a0 a1 (n0+1)=b0 k (V0 k a0 a1 n0):=by kernel_rfl
theorem e0:V0 k a0 a1=l0 k:=aW rfl (s0 k a0 a1) fun _=>rfl
end
theorem eq (k:Nat) (a0:List (Ty.den aD)) (a1:Ty.den aD):rn (E k) Tryz.f170 (C k) (a0,a1,())=f k a0 a1:=(show _=t k (V0 k a0 a1 k) a0 a1 by kernel_rfl).trans (by rw [e0];rfl)
theorem ctr (k:Nat):Cp 170 (C k):=rc rfl [] (by kernel_rfl) Tryz.func170 (by kernel_rfl) rfl fun ⟨a0,a1,_⟩ r h=>(eq k a0 a1).trans h
end d8
namespace eg
def C (k:Nat):Cn:=⟨[.val a_,.val .str],[a_,(.int .i64)],true,false,fun x=>f k x.1 x.2.1⟩
def D (k:Nat):List Ce:=[q (cv.ctr k),q (dt.ctr k),q (bD.ctr k),q (d8.ctr k)]
def E (k:Nat):cC:=en (D k) [] 0 [] k
theorem eq (k:Nat) (a0:Ty.den a_) (a1:ByteArray):rn (E k) Tryz.f137 (C k) (a0,a1,())=f k a0 a1:=by kernel_rfl
theorem ctr (k:Nat):Cp 137 (C k):=rc rfl (D k) (by kernel_rfl) Tryz.func137 (by kernel_rfl) rfl fun ⟨a0,a1,_⟩ r h=>(eq k a0 a1).trans h
end eg
namespace dK
def C (k:Nat):Cn:=⟨[.val bj],[.bool],true,false,fun x=>f k x.1⟩
def D (k:Nat):List Ce:=[q (aU.ctr k)]
def E (k:Nat):cC:=en (D k) [(4,[1,3])] 0 [] k
section
variable (k:Nat) (a0:Ty.den bj)
def K0:Ex→St→Rs:=cF (E k) (eK (E k) Tryz.f38 (C k) (a0,())) [.blk 0,.code (at_ (bt 3 7) (body Tryz.f38))]
def V0 (n0:Nat):T0:=fun x0 x1 x2=>ak (bf (E k) (at_ (bt 6 11) (body Tryz.f38))) (ai 0 [1,3]) (K0 k a0) n0 (mk 50 1 [(1,.ptr 0 0 0),(3,.int .i64 x0)] [(0,.box [.int .i64 x1,.sl true (.int .i64) x2])])
theorem s0 (n0:Nat):V0 k a0 (n0+1)=b0 k (V0 k a0 n0):=by kernel_rfl
theorem e0:V0 k a0=l0 k:=aW rfl (s0 k a0) fun _=>rfl
end
theorem eq (k:Nat) (a0:Ty.den bj):rn (E k) Tryz.f38 (C k) (a0,())=f k a0:=(show _=t k (V0 k a0 k) a0 by kernel_rfl).trans (by rw [e0];rfl)
theorem ctr (k:Nat):Cp 38 (C k):=rc rfl (D k) (by kernel_rfl) Tryz.func38 (by kernel_rfl) rfl fun ⟨a0,_⟩ r h=>(eq k a0).trans h
end dK
namespace bW
def C (k:Nat):Cn:=⟨[.val (.int .i64)],[.str],true,false,fun x=>f k x.1⟩
def D (k:Nat):List Ce:=[q (aU.ctr k)]
def E (k:Nat):cC:=en (D k) [(4,[0,3])] 0 [] k
section
variable (k:Nat) (a0:Int)
def K0:Ex→St→Rs:=cF (E k) (eK (E k) Tryz.f152 (C k) (a0,())) [.blk 0,.code (at_ (bt 4 15) (body Tryz.f152))]
def V0 (n0:Nat):T0:=fun x0 x1=>ak (bf (E k) (at_ (bt 6 7) (body Tryz.f152))) (ai 0 [0,3]) (K0 k a0) n0 (mk 25 1 [(0,.int .i64 x0),(3,.ref 0)] [(0,.own false (.int .u8) x1)])
theorem s0 (n0:Nat):V0 k a0 (n0+1)=b0 k (V0 k a0 n0):=by kernel_rfl
theorem e0:V0 k a0=l0 k:=aW rfl (s0 k a0) fun _=>rfl
end
theorem eq (k:Nat) (a0:Int):rn (E k) Tryz.f152 (C k) (a0,())=f k a0:=(show _=t k (V0 k a0 k) a0 by kernel_rfl).trans (by rw [e0];rfl)
theorem ctr (k:Nat):Cp 152 (C k):=rc rfl (D k) (by kernel_rfl) Tryz.func152 (by kernel_rfl) rfl fun ⟨a0,_⟩ r h=>(eq k a0).trans h
end bW
namespace g8
def C (k:Nat):Cn:=⟨[.val .str],[(.int .i64)],true,false,fun x=>f k x.1⟩
def E (k:Nat):cC:=en [] [(3,[0,3,4]),(7,[0,3,4,5])] 0 [] k
section
variable (k:Nat) (a0:ByteArray)
def K0:Ex→St→Rs:=cF (E k) (eK (E k) Tryz.f154 (C k) (a0,())) [.blk 0,.code (at_ (bt 3 7) (body Tryz.f154))]
def B0 (n0:Nat):Ex→St→Rs:=KY (E k) (at_ (bt 6 11) (body Tryz.f154)) 0 [0,3,4] (K0 k a0) n0
def K1 (n0:Nat):Ex→St→Rs:=cF (E k) (B0 k a0 n0) [.blk 2,.blk 1,.code (at_ (bt 8 203) (body Tryz.f154))]
def V0 (n0:Nat):T0:=fun x0 x1 x2=>ak (bf (E k) (at_ (bt 6 11) (body Tryz.f154))) (ai 0 [0,3,4]) (K0 k a0) n0 (mk 33 0 [(0,.str x0),(3,.int .i64 x1),(4,.int .i64 x2)] [])
def V1 (n0 n1:Nat):T1:=fun x0 x1 x2 x3=>ak (bf (E k) (at_ (bt 13 1611) (body Tryz.f154))) (ai 0 [0,3,4,5]) (K1 k a0 n0) n1 (mk 33 0 [(0,.str x0),(3,.int .i64 x1),(4,.int .i64 x2),(5,.int .i64 x3)] [])
theorem s0 (n0:Nat):V0 k a0 (n0+1)=b0 k (V1 k a0 n0 k) (V0 k a0 n0):=by kernel_rfl
theorem s1 (n0 n1:Nat):V1 k a0 n0 (n1+1)=b1 k (V0 k a0 n0) (V1 k a0 n0 n1):=by kernel_rfl
theorem e1 (n0:Nat):V1 k a0 n0=l1 k (V0 k a0 n0):=aW rfl (s1 k a0 n0) fun _=>rfl
theorem e0 (n0:Nat):V0 k a0 n0=l0 k n0:=by
 induction n0 with
 | zero=>rfl
 | succ n0 ih =>
  have h:V0 k a0 (n0+1)=b0 k (V1 k a0 n0 k) (V0 k a0 n0):=s0 k a0 n0
  rw [h,e1,ih]
  rfl
end
theorem eq (k:Nat) (a0:ByteArray):rn (E k) Tryz.f154 (C k) (a0,())=f k a0:=(show _=t k (V0 k a0 k) a0 by kernel_rfl).trans (by rw [e0];rfl)
theorem ctr (k:Nat):Cp 154 (C k):=rc rfl [] (by kernel_rfl) Tryz.func154 (by kernel_rfl) rfl fun ⟨a0,_⟩ r h=>(eq k a0).trans h
end g8
namespace dM
def C (k:Nat):Cn:=⟨[.val (.int .i64),.val (.int .i64)],[.str],true,false,fun x=>f k x.1 x.2.1⟩
def D (k:Nat):List Ce:=[q (aU.ctr k)]
def E (k:Nat):cC:=en (D k) [(5,[0,1,5,6])] 0 [] k
section
variable (k:Nat) (a0:Int) (a1:Int)
def K0:Ex→St→Rs:=cF (E k) (eK (E k) Tryz.f153 (C k) (a0,a1,())) [.blk 0,.code (at_ (bt 4 15) (body Tryz.f153))]
def V0 (n0:Nat):T0:=fun x0 x1 x2 x3=>ak (bf (E k) (at_ (bt 7 23) (body Tryz.f153))) (ai 0 [0,1,5,6]) (K0 k a0 a1) n0 (mk 31 0 [(0,.int .i64 x0),(1,.int .i64 x1),(5,.str x2),(6,.int .i64 x3)] [])
theorem s0 (n0:Nat):V0 k a0 a1 (n0+1)=b0 k (V0 k a0 a1 n0):=by kernel_rfl
theorem e0:V0 k a0 a1=l0 k:=aW rfl (s0 k a0 a1) fun _=>rfl
end
theorem eq (k:Nat) (a0:Int) (a1:Int):rn (E k) Tryz.f153 (C k) (a0,a1,())=f k a0 a1:=(show _=t k (V0 k a0 a1 k) a0 a1 by kernel_rfl).trans (by rw [e0];rfl)
theorem ctr (k:Nat):Cp 153 (C k):=rc rfl (D k) (by kernel_rfl) Tryz.func153 (by kernel_rfl) rfl fun ⟨a0,a1,_⟩ r h=>(eq k a0 a1).trans h
end dM
namespace eP
def C (k:Nat):Cn:=⟨[.val .str],[.str],true,false,fun x=>f k x.1⟩
def D (k:Nat):List Ce:=[q (bW.ctr k),q (g8.ctr k),q (dM.ctr k)]
def E (k:Nat):cC:=en (D k) [] 0 [] k
theorem eq (k:Nat) (a0:ByteArray):rn (E k) Tryz.f118 (C k) (a0,())=f k a0:=by kernel_rfl
theorem ctr (k:Nat):Cp 118 (C k):=rc rfl (D k) (by kernel_rfl) Tryz.func118 (by kernel_rfl) rfl fun ⟨a0,_⟩ r h=>(eq k a0).trans h
end eP
namespace d9
def C (k:Nat):Cn:=⟨[.val bj],[.str],true,false,fun x=>f k x.1⟩
def D (k:Nat):List Ce:=[q (dK.ctr k),q (bW.ctr k),q (eP.ctr k)]
def E (k:Nat):cC:=en (D k) [(5,[1,3,4])] 0 [] k
section
variable (k:Nat) (a0:Ty.den bj)
def K0:Ex→St→Rs:=cF (E k) (eK (E k) Tryz.f159 (C k) (a0,())) [.blk 0,.code (at_ (bt 4 15) (body Tryz.f159))]
def V0 (n0:Nat):T0:=fun x0 x1 x2 x3=>ak (bf (E k) (at_ (bt 7 23) (body Tryz.f159))) (ai 0 [1,3,4]) (K0 k a0) n0 (mk 33 1 [(1,.ptr 0 0 0),(3,.str x0),(4,.int .i64 x1)] [(0,.box [.int .i64 x2,.sl true (.int .i64) x3])])
theorem s0 (n0:Nat):V0 k a0 (n0+1)=b0 k (V0 k a0 n0):=by kernel_rfl
theorem e0:V0 k a0=l0 k:=aW rfl (s0 k a0) fun _=>rfl
end
theorem eq (k:Nat) (a0:Ty.den bj):rn (E k) Tryz.f159 (C k) (a0,())=f k a0:=(show _=t k (V0 k a0 k) a0 by kernel_rfl).trans (by rw [e0];rfl)
theorem ctr (k:Nat):Cp 159 (C k):=rc rfl (D k) (by kernel_rfl) Tryz.func159 (by kernel_rfl) rfl fun ⟨a0,_⟩ r h=>(eq k a0).trans h
end d9
namespace d7
def C (k:Nat):Cn:=⟨[.val a_,.val .str],[a_,(.int .i64)],true,false,fun x=>f k x.1 x.2.1⟩
def D (k:Nat):List Ce:=[q (bD.ctr k),q (gJ.ctr k),q (eg.ctr k)]
def E (k:Nat):cC:=en (D k) [] 0 [] k
theorem eq (k:Nat) (a0:Ty.den a_) (a1:ByteArray):rn (E k) Tryz.f156 (C k) (a0,a1,())=f k a0 a1:=by kernel_rfl
theorem ctr (k:Nat):Cp 156 (C k):=rc rfl (D k) (by kernel_rfl) Tryz.func156 (by kernel_rfl) rfl fun ⟨a0,a1,_⟩ r h=>(eq k a0 a1).trans h
end d7
namespace bS
def C (k:Nat):Cn:=⟨[.val a_,.val .str,.val .str],[a_,(.int .i64)],true,false,fun x=>f k x.1 x.2.1 x.2.2.1⟩
def D (k:Nat):List Ce:=[q (cv.ctr k),q (bD.ctr k),q (dQ.ctr k)]
def E (k:Nat):cC:=en (D k) [] 0 [] k
theorem eq (k:Nat) (a0:Ty.den a_) (a1:ByteArray) (a2:ByteArray):rn (E k) Tryz.f121 (C k) (a0,a1,a2,())=f k a0 a1 a2:=by kernel_rfl
theorem ctr (k:Nat):Cp 121 (C k):=rc rfl (D k) (by kernel_rfl) Tryz.func121 (by kernel_rfl) rfl fun ⟨a0,a1,a2,_⟩ r h=>(eq k a0 a1 a2).trans h
end bS
namespace bx
def C (k:Nat):Cn:=⟨[.val a_,.val .str],[a_,(.int .i64)],true,false,fun x=>f k x.1 x.2.1⟩
def D (k:Nat):List Ce:=[q (cv.ctr k),q (bD.ctr k)]
def E (k:Nat):cC:=en (D k) [] 0 [] k
theorem eq (k:Nat) (a0:Ty.den a_) (a1:ByteArray):rn (E k) Tryz.f78 (C k) (a0,a1,())=f k a0 a1:=by kernel_rfl
theorem ctr (k:Nat):Cp 78 (C k):=rc rfl (D k) (by kernel_rfl) Tryz.func78 (by kernel_rfl) rfl fun ⟨a0,a1,_⟩ r h=>(eq k a0 a1).trans h
end bx
namespace gg
def C (k:Nat):Cn:=⟨[.val a_,.val .str,.val .str],[a_,(.int .i64)],true,false,fun x=>f k x.1 x.2.1 x.2.2.1⟩
def D (k:Nat):List Ce:=[q (d7.ctr k),q (bS.ctr k),q (bx.ctr k)]
def E (k:Nat):cC:=en (D k) [] 0 [] k
theorem eq (k:Nat) (a0:Ty.den a_) (a1:ByteArray) (a2:ByteArray):rn (E k) Tryz.f169 (C k) (a0,a1,a2,())=f k a0 a1 a2:=by kernel_rfl
theorem ctr (k:Nat):Cp 169 (C k):=rc rfl (D k) (by kernel_rfl) Tryz.func169 (by kernel_rfl) rfl fun ⟨a0,a1,a2,_⟩ r h=>(eq k a0 a1 a2).trans h
end gg
namespace fL
def C (k:Nat):Cn:=⟨[.val a_,.val .str,.val .str],[a_,(.int .i64)],true,false,fun x=>f k x.1 x.2.1 x.2.2.1⟩
def D (k:Nat):List Ce:=[q (cv.ctr k),q (dt.ctr k),q (bD.ctr k),q (er.ctr k),q (d8.ctr k)]
def E (k:Nat):cC:=en (D k) [] 0 [] k
theorem eq (k:Nat) (a0:Ty.den a_) (a1:ByteArray) (a2:ByteArray):rn (E k) Tryz.f138 (C k) (a0,a1,a2,())=f k a0 a1 a2:=by kernel_rfl
theorem ctr (k:Nat):Cp 138 (C k):=rc rfl (D k) (by kernel_rfl) Tryz.func138 (by kernel_rfl) rfl fun ⟨a0,a1,a2,_⟩ r h=>(eq k a0 a1 a2).trans h
end fL
namespace dT
def C (k:Nat):Cn:=⟨[.val a_,.val bj],[a_,(.int .i64)],true,false,fun x=>f k x.1 x.2.1⟩
def D (k:Nat):List Ce:=[q (bn.ctr k),q (bv.ctr k),q (dK.ctr k),q (d9.ctr k),q (gg.ctr k),q (fL.ctr k),q (aP.ctr k)]
def E (k:Nat):cC:=en (D k) [] 0 [] k
theorem eq (k:Nat) (a0:Ty.den a_) (a1:Ty.den bj):rn (E k) Tryz.f157 (C k) (a0,a1,())=f k a0 a1:=by kernel_rfl
theorem ctr (k:Nat):Cp 157 (C k):=rc rfl (D k) (by kernel_rfl) Tryz.func157 (by kernel_rfl) rfl fun ⟨a0,a1,_⟩ r h=>(eq k a0 a1).trans h
end dT
namespace aa
def C (k:Nat):Cn:=⟨[.val .str],[(.int .i64),(.int .i64)],true,false,fun x=>f k x.1⟩
def D (k:Nat):List Ce:=[q (bW.ctr k)]
def E (k:Nat):cC:=en (D k) [(2,[0,4]),(6,[0,4,5,6])] 0 [] k
section
variable (k:Nat) (a0:ByteArray)
def K0:Ex→St→Rs:=cF (E k) (eK (E k) Tryz.f124 (C k) (a0,())) [.blk 0,.code (at_ (bt 2 3) (body Tryz.f124))]
def B0 (n0:Nat):Ex→St→Rs:=KY (E k) (at_ (bt 5 5) (body Tryz.f124)) 0 [0,4] (K0 k a0) n0
def K1 (n0:Nat):Ex→St→Rs:=cF (E k) (B0 k a0 n0) [.blk 2,.code (at_ (bt 10 805) (body Tryz.f124)),.blk 1,.code (at_ (bt 7 101) (body Tryz.f124))]
def V0 (n0:Nat):T0:=fun x0 x1=>ak (bf (E k) (at_ (bt 5 5) (body Tryz.f124))) (ai 0 [0,4]) (K0 k a0) n0 (mk 39 0 [(0,.str x0),(4,.int .i64 x1)] [])
def V1 (n0 n1:Nat):T1:=fun x0 x1 x2 x3=>ak (bf (E k) (at_ (bt 13 1317) (body Tryz.f124))) (ai 0 [0,4,5,6]) (K1 k a0 n0) n1 (mk 39 0 [(0,.str x0),(4,.int .i64 x1),(5,.int .i64 x2),(6,.int .i64 x3)] [])
theorem s0 (n0:Nat):V0 k a0 (n0+1)=b0 k (V1 k a0 n0 k) (V0 k a0 n0):=by kernel_rfl
theorem s1 (n0 n1:Nat):V1 k a0 n0 (n1+1)=b1 k (V0 k a0 n0) (V1 k a0 n0 n1):=by kernel_rfl
theorem e1 (n0:Nat):V1 k a0 n0=l1 k (V0 k a0 n0):=aW rfl (s1 k a0 n0) fun _=>rfl
theorem e0 (n0:Nat):V0 k a0 n0=l0 k n0:=by
 induction n0 with
 | zero=>rfl
 | succ n0 ih =>
  have h:V0 k a0 (n0+1)=b0 k (V1 k a0 n0 k) (V0 k a0 n0):=s0 k a0 n0
  rw [h,e1,ih]
  rfl
end
theorem eq (k:Nat) (a0:ByteArray):rn (E k) Tryz.f124 (C k) (a0,())=f k a0:=(show _=t k (V0 k a0 k) a0 by kernel_rfl).trans (by rw [e0];rfl)
theorem ctr (k:Nat):Cp 124 (C k):=rc rfl (D k) (by kernel_rfl) Tryz.func124 (by kernel_rfl) rfl fun ⟨a0,_⟩ r h=>(eq k a0).trans h
end aa
namespace dU
def C (k:Nat):Cn:=⟨[.val .str],[.str,(.int .i64)],true,false,fun x=>f k x.1⟩
def D (k:Nat):List Ce:=[q (aa.ctr k),q (eP.ctr k)]
def E (k:Nat):cC:=en (D k) [] 0 [] k
theorem eq (k:Nat) (a0:ByteArray):rn (E k) Tryz.f86 (C k) (a0,())=f k a0:=by kernel_rfl
theorem ctr (k:Nat):Cp 86 (C k):=rc rfl (D k) (by kernel_rfl) Tryz.func86 (by kernel_rfl) rfl fun ⟨a0,_⟩ r h=>(eq k a0).trans h
end dU
namespace bH
def C (k:Nat):Cn:=⟨[.val .str],[bj,.bool],true,false,fun x=>f k x.1⟩
def D (k:Nat):List Ce:=[q (dU.ctr k),q (aa.ctr k),q (d9.ctr k)]
def E (k:Nat):cC:=en (D k) [(9,[0,2,4,8,10,11,12])] 0 [] k
section
variable (k:Nat) (a0:ByteArray)
def K0:Ex→St→Rs:=cF (E k) (eK (E k) Tryz.f128 (C k) (a0,())) [.blk 0,.code (at_ (bt 8 255) (body Tryz.f128))]
def V0 (n0:Nat):T0:=fun x0 x1 x2 x3 x4 x5 x6 x7 x8=>ak (bf (E k) (at_ (bt 11 383) (body Tryz.f128))) (ai 0 [0,2,4,8,10,11,12]) (K0 k a0) n0 (mk 81 4 [(0,.str x0),(2,.ptr 0 0 0),(4,.str x1),(8,.int .i64 x2),(10,.ptr 2 0 0),(11,.int .i64 x3),(12,.int .i64 x4)] [(1,.own false (.int .i64) x5),(0,.box [.int .i64 x6,.ref 1]),(3,.own false (.int .i64) x7),(2,.box [.int .i64 x8,.ref 3])])
theorem s0 (n0:Nat):V0 k a0 (n0+1)=b0 k (V0 k a0 n0):=by kernel_rfl
theorem e0:V0 k a0=l0 k:=aW rfl (s0 k a0) fun _=>rfl
end
theorem eq (k:Nat) (a0:ByteArray):rn (E k) Tryz.f128 (C k) (a0,())=f k a0:=(show _=t k (V0 k a0 k) a0 by kernel_rfl).trans (by rw [e0];rfl)
theorem ctr (k:Nat):Cp 128 (C k):=rc rfl (D k) (by kernel_rfl) Tryz.func128 (by kernel_rfl) rfl fun ⟨a0,_⟩ r h=>(eq k a0).trans h
end bH
namespace cJ
def C (k:Nat):Cn:=⟨[.val .str],[.str,.str,.bool],true,false,fun x=>f k x.1⟩
def D (k:Nat):List Ce:=[q (aa.ctr k)]
def E (k:Nat):cC:=en (D k) [] 0 [] k
theorem eq (k:Nat) (a0:ByteArray):rn (E k) Tryz.f125 (C k) (a0,())=f k a0:=by kernel_rfl
theorem ctr (k:Nat):Cp 125 (C k):=rc rfl (D k) (by kernel_rfl) Tryz.func125 (by kernel_rfl) rfl fun ⟨a0,_⟩ r h=>(eq k a0).trans h
end cJ
namespace e7
def C (k:Nat):Cn:=⟨[.val .str],[.bool],true,false,fun x=>f k x.1⟩
def D (k:Nat):List Ce:=[q (aU.ctr k)]
def E (k:Nat):cC:=en (D k) [] 0 [] k
theorem eq (k:Nat) (a0:ByteArray):rn (E k) Tryz.f72 (C k) (a0,())=f k a0:=by kernel_rfl
theorem ctr (k:Nat):Cp 72 (C k):=rc rfl (D k) (by kernel_rfl) Tryz.func72 (by kernel_rfl) rfl fun ⟨a0,_⟩ r h=>(eq k a0).trans h
end e7
namespace js
def C (k:Nat):Cn:=⟨[.val am],[.bool],true,false,fun x=>f k x.1⟩
def D (k:Nat):List Ce:=[q (aU.ctr k),q (e7.ctr k)]
def E (k:Nat):cC:=en (D k) [] 0 [] k
theorem eq (k:Nat) (a0:Ty.den am):rn (E k) Tryz.f155 (C k) (a0,())=f k a0:=by kernel_rfl
theorem ctr (k:Nat):Cp 155 (C k):=rc rfl (D k) (by kernel_rfl) Tryz.func155 (by kernel_rfl) rfl fun ⟨a0,_⟩ r h=>(eq k a0).trans h
end js
namespace bd
def C (k:Nat):Cn:=⟨[.val am],[.str],true,false,fun x=>f k x.1⟩
def D (k:Nat):List Ce:=[q (js.ctr k),q (bW.ctr k),q (dM.ctr k)]
def E (k:Nat):cC:=en (D k) [] 0 [] k
theorem eq (k:Nat) (a0:Ty.den am):rn (E k) Tryz.f119 (C k) (a0,())=f k a0:=by kernel_rfl
theorem ctr (k:Nat):Cp 119 (C k):=rc rfl (D k) (by kernel_rfl) Tryz.func119 (by kernel_rfl) rfl fun ⟨a0,_⟩ r h=>(eq k a0).trans h
end bd
namespace bP
def C (k:Nat):Cn:=⟨[.val .str,.val (.int .i64)],[(.int .i64),.bool],true,false,fun x=>f k x.1 x.2.1⟩
def D (k:Nat):List Ce:=[q (aU.ctr k)]
def E (k:Nat):cC:=en (D k) [(5,[0,1,6,7])] 0 [] k
section
variable (k:Nat) (a0:ByteArray) (a1:Int)
def K0:Ex→St→Rs:=cF (E k) (eK (E k) Tryz.f126 (C k) (a0,a1,())) [.blk 0,.code (at_ (bt 4 15) (body Tryz.f126))]
def V0 (n0:Nat):T0:=fun x0 x1 x2 x3=>ak (bf (E k) (at_ (bt 7 23) (body Tryz.f126))) (ai 0 [0,1,6,7]) (K0 k a0 a1) n0 (mk 30 0 [(0,.str x0),(1,.int .i64 x1),(6,.int .i64 x2),(7,.int .i64 x3)] [])
theorem s0 (n0:Nat):V0 k a0 a1 (n0+1)=b0 k (V0 k a0 a1 n0):=by kernel_rfl
theorem e0:V0 k a0 a1=l0 k:=aW rfl (s0 k a0 a1) fun _=>rfl
end
theorem eq (k:Nat) (a0:ByteArray) (a1:Int):rn (E k) Tryz.f126 (C k) (a0,a1,())=f k a0 a1:=(show _=t k (V0 k a0 a1 k) a0 a1 by kernel_rfl).trans (by rw [e0];rfl)
theorem ctr (k:Nat):Cp 126 (C k):=rc rfl (D k) (by kernel_rfl) Tryz.func126 (by kernel_rfl) rfl fun ⟨a0,a1,_⟩ r h=>(eq k a0 a1).trans h
end bP
namespace e9
def C (k:Nat):Cn:=⟨[.val .str],[am,.bool],true,false,fun x=>f k x.1⟩
def D (k:Nat):List Ce:=[q (aa.ctr k),q (cJ.ctr k),q (bd.ctr k),q (bP.ctr k)]
def E (k:Nat):cC:=en (D k) [] 0 [] k
theorem eq (k:Nat) (a0:ByteArray):rn (E k) Tryz.f87 (C k) (a0,())=f k a0:=by kernel_rfl
theorem ctr (k:Nat):Cp 87 (C k):=rc rfl (D k) (by kernel_rfl) Tryz.func87 (by kernel_rfl) rfl fun ⟨a0,_⟩ r h=>(eq k a0).trans h
end e9
namespace bO
def C (k:Nat):Cn:=⟨[.val .str],[(.slice dD),(.int .i64)],true,false,fun x=>f k x.1⟩
def D (k:Nat):List Ce:=[q (dU.ctr k),q (e9.ctr k)]
def E (k:Nat):cC:=en (D k) [(3,[0,4,5])] 0 [] k
section
variable (k:Nat) (a0:ByteArray)
def K0:Ex→St→Rs:=cF (E k) (eK (E k) Tryz.f43 (C k) (a0,())) [.blk 0,.code (at_ (bt 4 15) (body Tryz.f43))]
def V0 (n0:Nat):T0:=fun x0 x1 x2=>ak (bf (E k) (at_ (bt 6 7) (body Tryz.f43))) (ai 0 [0,4,5]) (K0 k a0) n0 (mk 47 1 [(0,.str x0),(4,.ref 0),(5,.int .i64 x1)] [(0,.own false dD x2)])
theorem s0 (n0:Nat):V0 k a0 (n0+1)=b0 k (V0 k a0 n0):=by kernel_rfl
theorem e0:V0 k a0=l0 k:=aW rfl (s0 k a0) fun _=>rfl
end
theorem eq (k:Nat) (a0:ByteArray):rn (E k) Tryz.f43 (C k) (a0,())=f k a0:=(show _=t k (V0 k a0 k) a0 by kernel_rfl).trans (by rw [e0];rfl)
theorem ctr (k:Nat):Cp 43 (C k):=rc rfl (D k) (by kernel_rfl) Tryz.func43 (by kernel_rfl) rfl fun ⟨a0,_⟩ r h=>(eq k a0).trans h
end bO
namespace iF
def C (k:Nat):Cn:=⟨[.val a_,.val .str,.val (.int .i64)],[a_,(.int .i64)],true,false,fun x=>f k x.1 x.2.1 x.2.2.1⟩
def D (k:Nat):List Ce:=[q (cv.ctr k),q (bD.ctr k),q (aU.ctr k)]
def E (k:Nat):cC:=en (D k) [] 0 [] k
theorem eq (k:Nat) (a0:Ty.den a_) (a1:ByteArray) (a2:Int):rn (E k) Tryz.f129 (C k) (a0,a1,a2,())=f k a0 a1 a2:=by kernel_rfl
theorem ctr (k:Nat):Cp 129 (C k):=rc rfl (D k) (by kernel_rfl) Tryz.func129 (by kernel_rfl) rfl fun ⟨a0,a1,a2,_⟩ r h=>(eq k a0 a1 a2).trans h
end iF
namespace bY
def C (k:Nat):Cn:=⟨[.val .str,.val (.int .i64),.val (.int .i64)],[(.slice (.int .i64)),(.int .i64)],true,false,fun x=>f k x.1 x.2.1 x.2.2.1⟩
def D (k:Nat):List Ce:=[q (aa.ctr k)]
def E (k:Nat):cC:=en (D k) [(3,[0,1,2,8,9])] 0 [] k
section
variable (k:Nat) (a0:ByteArray) (a1:Int) (a2:Int)
def K0:Ex→St→Rs:=cF (E k) (eK (E k) Tryz.f160 (C k) (a0,a1,a2,())) [.blk 0,.code (at_ (bt 3 7) (body Tryz.f160))]
def V0 (n0:Nat):T0:=fun x0 x1 x2 x3 x4=>ak (bf (E k) (at_ (bt 6 11) (body Tryz.f160))) (ai 0 [0,1,2,8,9]) (K0 k a0 a1 a2) n0 (mk 38 1 [(0,.str x0),(1,.int .i64 x1),(2,.int .i64 x2),(8,.ref 0),(9,.int .i64 x3)] [(0,.own false (.int .i64) x4)])
theorem s0 (n0:Nat):V0 k a0 a1 a2 (n0+1)=b0 k (V0 k a0 a1 a2 n0):=by kernel_rfl
theorem e0:V0 k a0 a1 a2=l0 k:=aW rfl (s0 k a0 a1 a2) fun _=>rfl
end
theorem eq (k:Nat) (a0:ByteArray) (a1:Int) (a2:Int):rn (E k) Tryz.f160 (C k) (a0,a1,a2,())=f k a0 a1 a2:=(show _=t k (V0 k a0 a1 a2 k) a0 a1 a2 by kernel_rfl).trans (by rw [e0];rfl)
theorem ctr (k:Nat):Cp 160 (C k):=rc rfl (D k) (by kernel_rfl) Tryz.func160 (by kernel_rfl) rfl fun ⟨a0,a1,a2,_⟩ r h=>(eq k a0 a1 a2).trans h
end bY
namespace ez
def C (k:Nat):Cn:=⟨[.val (.slice aA)],[.bool],true,false,fun x=>f k x.1⟩
def D (k:Nat):List Ce:=[q (e7.ctr k),q (aU.ctr k)]
def E (k:Nat):cC:=en (D k) [(4,[0,3])] 0 [] k
section
variable (k:Nat) (a0:List (Ty.den aA))
def K0:Ex→St→Rs:=cF (E k) (eK (E k) Tryz.f39 (C k) (a0,())) [.blk 0,.code (at_ (bt 3 7) (body Tryz.f39))]
def V0 (n0:Nat):T0:=fun x0 x1=>ak (bf (E k) (at_ (bt 6 11) (body Tryz.f39))) (ai 0 [0,3]) (K0 k a0) n0 (mk 60 0 [(0,.sl true aA x0),(3,.int .i64 x1)] [])
theorem s0 (n0:Nat):V0 k a0 (n0+1)=b0 k (V0 k a0 n0):=by kernel_rfl
theorem e0:V0 k a0=l0 k:=aW rfl (s0 k a0) fun _=>rfl
end
theorem eq (k:Nat) (a0:List (Ty.den aA)):rn (E k) Tryz.f39 (C k) (a0,())=f k a0:=(show _=t k (V0 k a0 k) a0 by kernel_rfl).trans (by rw [e0];rfl)
theorem ctr (k:Nat):Cp 39 (C k):=rc rfl (D k) (by kernel_rfl) Tryz.func39 (by kernel_rfl) rfl fun ⟨a0,_⟩ r h=>(eq k a0).trans h
end ez
namespace gS
def C (k:Nat):Cn:=⟨[.val gl],[.bool],true,false,fun x=>f k x.1⟩
def D (k:Nat):List Ce:=[q (aU.ctr k),q (ez.ctr k)]
def E (k:Nat):cC:=en (D k) [(4,[1,3])] 0 [] k
section
variable (k:Nat) (a0:Ty.den gl)
def K0:Ex→St→Rs:=cF (E k) (eK (E k) Tryz.f180 (C k) (a0,())) [.blk 0,.code (at_ (bt 3 7) (body Tryz.f180))]
def V0 (n0:Nat):T0:=fun x0 x1 x2 x3=>ak (bf (E k) (at_ (bt 6 11) (body Tryz.f180))) (ai 0 [1,3]) (K0 k a0) n0 (mk 48 1 [(1,.ptr 0 0 0),(3,.int .i64 x0)] [(0,.box [.int .i64 x1,.int .i64 x2,.sl true aA x3])])
theorem s0 (n0:Nat):V0 k a0 (n0+1)=b0 k (V0 k a0 n0):=by kernel_rfl
theorem e0:V0 k a0=l0 k:=aW rfl (s0 k a0) fun _=>rfl
end
theorem eq (k:Nat) (a0:Ty.den gl):rn (E k) Tryz.f180 (C k) (a0,())=f k a0:=(show _=t k (V0 k a0 k) a0 by kernel_rfl).trans (by rw [e0];rfl)
theorem ctr (k:Nat):Cp 180 (C k):=rc rfl (D k) (by kernel_rfl) Tryz.func180 (by kernel_rfl) rfl fun ⟨a0,_⟩ r h=>(eq k a0).trans h
end gS
namespace dL
def C (k:Nat):Cn:=⟨[.val gl],[.str],true,false,fun x=>f k x.1⟩
def D (k:Nat):List Ce:=[q (gS.ctr k),q (bW.ctr k),q (g8.ctr k),q (dM.ctr k)]
def E (k:Nat):cC:=en (D k) [(5,[1,3,4])] 0 [] k
section
variable (k:Nat) (a0:Ty.den gl)
def K0:Ex→St→Rs:=cF (E k) (eK (E k) Tryz.f161 (C k) (a0,())) [.blk 0,.code (at_ (bt 4 15) (body Tryz.f161))]
def V0 (n0:Nat):T0:=fun x0 x1 x2 x3 x4=>ak (bf (E k) (at_ (bt 7 23) (body Tryz.f161))) (ai 0 [1,3,4]) (K0 k a0) n0 (mk 63 1 [(1,.ptr 0 0 0),(3,.str x0),(4,.int .i64 x1)] [(0,.box [.int .i64 x2,.int .i64 x3,.sl true aA x4])])
theorem s0 (n0:Nat):V0 k a0 (n0+1)=b0 k (V0 k a0 n0):=by kernel_rfl
theorem e0:V0 k a0=l0 k:=aW rfl (s0 k a0) fun _=>rfl
end
theorem eq (k:Nat) (a0:Ty.den gl):rn (E k) Tryz.f161 (C k) (a0,())=f k a0:=(show _=t k (V0 k a0 k) a0 by kernel_rfl).trans (by rw [e0];rfl)
theorem ctr (k:Nat):Cp 161 (C k):=rc rfl (D k) (by kernel_rfl) Tryz.func161 (by kernel_rfl) rfl fun ⟨a0,_⟩ r h=>(eq k a0).trans h
end dL
namespace bI
def C (k:Nat):Cn:=⟨[.val .str],[gl,.bool],true,false,fun x=>f k x.1⟩
def D (k:Nat):List Ce:=[q (bY.ctr k),q (cJ.ctr k),q (dL.ctr k)]
def E (k:Nat):cC:=en (D k) [(8,[0,2,4,5,6,7])] 0 [] k
section
variable (k:Nat) (a0:ByteArray)
def K0:Ex→St→Rs:=cF (E k) (eK (E k) Tryz.f130 (C k) (a0,())) [.blk 0,.code (at_ (bt 6 63) (body Tryz.f130))]
def V0 (n0:Nat):T0:=fun x0 x1 x2 x3 x4 x5 x6 x7 x8 x9=>ak (bf (E k) (at_ (bt 9 95) (body Tryz.f130))) (ai 0 [0,2,4,5,6,7]) (K0 k a0) n0 (mk 97 5 [(0,.str x0),(2,.ptr 0 0 0),(4,.ref 2),(5,.int .i64 x1),(6,.ptr 3 0 0),(7,.int .i64 x2)] [(1,.own false aA x3),(0,.box [.int .i64 x4,.int .i64 x5,.ref 1]),(2,.own false (.int .i64) x6),(4,.own false aA x7),(3,.box [.int .i64 x8,.int .i64 x9,.ref 4])])
theorem s0 (n0:Nat):V0 k a0 (n0+1)=b0 k (V0 k a0 n0):=by kernel_rfl
theorem e0:V0 k a0=l0 k:=aW rfl (s0 k a0) fun _=>rfl
end
theorem eq (k:Nat) (a0:ByteArray):rn (E k) Tryz.f130 (C k) (a0,())=f k a0:=(show _=t k (V0 k a0 k) a0 by kernel_rfl).trans (by rw [e0];rfl)
theorem ctr (k:Nat):Cp 130 (C k):=rc rfl (D k) (by kernel_rfl) Tryz.func130 (by kernel_rfl) rfl fun ⟨a0,_⟩ r h=>(eq k a0).trans h
end bI
namespace fh
def C (k:Nat):Cn:=⟨[.val (.slice am)],[(.int .i64)],true,false,fun x=>f k x.1⟩
def D (k:Nat):List Ce:=[q (bd.ctr k),q (g8.ctr k)]
def E (k:Nat):cC:=en (D k) [(3,[0,3,4])] 0 [] k
section
variable (k:Nat) (a0:List (Ty.den am))
def K0:Ex→St→Rs:=cF (E k) (eK (E k) Tryz.f122 (C k) (a0,())) [.blk 0,.code (at_ (bt 3 7) (body Tryz.f122))]
def V0 (n0:Nat):T0:=fun x0 x1 x2=>ak (bf (E k) (at_ (bt 6 11) (body Tryz.f122))) (ai 0 [0,3,4]) (K0 k a0) n0 (mk 20 0 [(0,.sl true am x0),(3,.str x1),(4,.int .i64 x2)] [])
theorem s0 (n0:Nat):V0 k a0 (n0+1)=b0 k (V0 k a0 n0):=by kernel_rfl
theorem e0:V0 k a0=l0 k:=aW rfl (s0 k a0) fun _=>rfl
end
theorem eq (k:Nat) (a0:List (Ty.den am)):rn (E k) Tryz.f122 (C k) (a0,())=f k a0:=(show _=t k (V0 k a0 k) a0 by kernel_rfl).trans (by rw [e0];rfl)
theorem ctr (k:Nat):Cp 122 (C k):=rc rfl (D k) (by kernel_rfl) Tryz.func122 (by kernel_rfl) rfl fun ⟨a0,_⟩ r h=>(eq k a0).trans h
end fh
namespace dj
def C (k:Nat):Cn:=⟨[.val (.int .i64),.val .str],[gl,.bool],true,false,fun x=>f k x.1 x.2.1⟩
def D (k:Nat):List Ce:=[q (bO.ctr k),q (aS.ctr k),q (fh.ctr k)]
def E (k:Nat):cC:=en (D k) [(7,[0,4,6,8,9,10])] 0 [] k
section
variable (k:Nat) (a0:Int) (a1:ByteArray)
def K0:Ex→St→Rs:=cF (E k) (eK (E k) Tryz.f162 (C k) (a0,a1,())) [.blk 0,.code (at_ (bt 6 63) (body Tryz.f162))]
def V0 (n0:Nat):T0:=fun x0 x1 x2 x3 x4 x5 x6 x7 x8 x9=>ak (bf (E k) (at_ (bt 9 95) (body Tryz.f162))) (ai 0 [0,4,6,8,9,10]) (K0 k a0 a1) n0 (mk 141 6 [(0,.int .i64 x0),(4,.ptr 0 0 0),(6,.ref 2),(8,.ptr 3 0 0),(9,.ref 5),(10,.int .i64 x1)] [(1,.own false aA x2),(0,.box [.int .i64 x3,.int .i64 x4,.ref 1]),(2,.own false dD x5),(4,.own false aA x6),(3,.box [.int .i64 x7,.int .i64 x8,.ref 4]),(5,.own false am x9)])
theorem s0 (n0:Nat):V0 k a0 a1 (n0+1)=b0 k (V0 k a0 a1 n0):=by kernel_rfl
theorem e0:V0 k a0 a1=l0 k:=aW rfl (s0 k a0 a1) fun _=>rfl
end
theorem eq (k:Nat) (a0:Int) (a1:ByteArray):rn (E k) Tryz.f162 (C k) (a0,a1,())=f k a0 a1:=(show _=t k (V0 k a0 a1 k) a0 a1 by kernel_rfl).trans (by rw [e0];rfl)
theorem ctr (k:Nat):Cp 162 (C k):=rc rfl (D k) (by kernel_rfl) Tryz.func162 (by kernel_rfl) rfl fun ⟨a0,a1,_⟩ r h=>(eq k a0 a1).trans h
end dj
namespace cT
def C (k:Nat):Cn:=⟨[.val (.slice aA),.val (.slice aA)],[.bool],true,false,fun x=>f k x.1 x.2.1⟩
def E (k:Nat):cC:=en [] [(4,[0,1,5])] 0 [] k
section
variable (k:Nat) (a0:List (Ty.den aA)) (a1:List (Ty.den aA))
def K0:Ex→St→Rs:=cF (E k) (eK (E k) Tryz.f10 (C k) (a0,a1,())) [.blk 0,.code (at_ (bt 3 7) (body Tryz.f10))]
def V0 (n0:Nat):T0:=fun x0 x1 x2=>ak (bf (E k) (at_ (bt 6 11) (body Tryz.f10))) (ai 0 [0,1,5]) (K0 k a0 a1) n0 (mk 26 0 [(0,.sl true aA x0),(1,.sl true aA x1),(5,.int .i64 x2)] [])
theorem s0 (n0:Nat):V0 k a0 a1 (n0+1)=b0 k (V0 k a0 a1 n0):=by kernel_rfl
theorem e0:V0 k a0 a1=l0 k:=aW rfl (s0 k a0 a1) fun _=>rfl
end
theorem eq (k:Nat) (a0:List (Ty.den aA)) (a1:List (Ty.den aA)):rn (E k) Tryz.f10 (C k) (a0,a1,())=f k a0 a1:=(show _=t k (V0 k a0 a1 k) a0 a1 by kernel_rfl).trans (by rw [e0];rfl)
theorem ctr (k:Nat):Cp 10 (C k):=rc rfl [] (by kernel_rfl) Tryz.func10 (by kernel_rfl) rfl fun ⟨a0,a1,_⟩ r h=>(eq k a0 a1).trans h
end cT
namespace gc
def C (k:Nat):Cn:=⟨[.val (.int .i64),.val .str,.val gl],[.bool],true,false,fun x=>f k x.1 x.2.1 x.2.2.1⟩
def D (k:Nat):List Ce:=[q (dj.ctr k),q (cT.ctr k)]
def E (k:Nat):cC:=en (D k) [] 0 [] k
theorem eq (k:Nat) (a0:Int) (a1:ByteArray) (a2:Ty.den gl):rn (E k) Tryz.f131 (C k) (a0,a1,a2,())=f k a0 a1 a2:=by kernel_rfl
theorem ctr (k:Nat):Cp 131 (C k):=rc rfl (D k) (by kernel_rfl) Tryz.func131 (by kernel_rfl) rfl fun ⟨a0,a1,a2,_⟩ r h=>(eq k a0 a1 a2).trans h
end gc
namespace bU
def C (k:Nat):Cn:=⟨[.val (.int .i64),.val .str],[(.slice aL)],true,false,fun x=>f k x.1 x.2.1⟩
def D (k:Nat):List Ce:=[q (bO.ctr k)]
def E (k:Nat):cC:=en (D k) [(4,[0,5,6,8])] 0 [] k
section
variable (k:Nat) (a0:Int) (a1:ByteArray)
def K0:Ex→St→Rs:=cF (E k) (eK (E k) Tryz.f132 (C k) (a0,a1,())) [.blk 0,.code (at_ (bt 4 15) (body Tryz.f132))]
def V0 (n0:Nat):T0:=fun x0 x1 x2 x3=>ak (bf (E k) (at_ (bt 7 23) (body Tryz.f132))) (ai 0 [0,5,6,8]) (K0 k a0 a1) n0 (mk 42 2 [(0,.int .i64 x0),(5,.ref 0),(6,.ref 1),(8,.int .i64 x1)] [(0,.own false aL x2),(1,.own false dD x3)])
theorem s0 (n0:Nat):V0 k a0 a1 (n0+1)=b0 k (V0 k a0 a1 n0):=by kernel_rfl
theorem e0:V0 k a0 a1=l0 k:=aW rfl (s0 k a0 a1) fun _=>rfl
end
theorem eq (k:Nat) (a0:Int) (a1:ByteArray):rn (E k) Tryz.f132 (C k) (a0,a1,())=f k a0 a1:=(show _=t k (V0 k a0 a1 k) a0 a1 by kernel_rfl).trans (by rw [e0];rfl)
theorem ctr (k:Nat):Cp 132 (C k):=rc rfl (D k) (by kernel_rfl) Tryz.func132 (by kernel_rfl) rfl fun ⟨a0,a1,_⟩ r h=>(eq k a0 a1).trans h
end bU
namespace iH
def C (k:Nat):Cn:=⟨[.val (.slice aL),.val (.int .i64),.val (.int .i64)],[(.slice aL)],true,false,fun x=>f k x.1 x.2.1 x.2.2.1⟩
def E (k:Nat):cC:=en [] [(3,[0,1,2,7,8])] 0 [] k
section
variable (k:Nat) (a0:List (Ty.den aL)) (a1:Int) (a2:Int)
def K0:Ex→St→Rs:=cF (E k) (eK (E k) Tryz.f163 (C k) (a0,a1,a2,())) [.blk 0,.code (at_ (bt 3 7) (body Tryz.f163))]
def V0 (n0:Nat):T0:=fun x0 x1 x2 x3 x4=>ak (bf (E k) (at_ (bt 6 11) (body Tryz.f163))) (ai 0 [0,1,2,7,8]) (K0 k a0 a1 a2) n0 (mk 53 1 [(0,.sl true aL x0),(1,.int .i64 x1),(2,.int .i64 x2),(7,.ref 0),(8,.int .i64 x3)] [(0,.own false aL x4)])
theorem s0 (n0:Nat):V0 k a0 a1 a2 (n0+1)=b0 k (V0 k a0 a1 a2 n0):=by kernel_rfl
theorem e0:V0 k a0 a1 a2=l0 k:=aW rfl (s0 k a0 a1 a2) fun _=>rfl
end
theorem eq (k:Nat) (a0:List (Ty.den aL)) (a1:Int) (a2:Int):rn (E k) Tryz.f163 (C k) (a0,a1,a2,())=f k a0 a1 a2:=(show _=t k (V0 k a0 a1 a2 k) a0 a1 a2 by kernel_rfl).trans (by rw [e0];rfl)
theorem ctr (k:Nat):Cp 163 (C k):=rc rfl [] (by kernel_rfl) Tryz.func163 (by kernel_rfl) rfl fun ⟨a0,a1,a2,_⟩ r h=>(eq k a0 a1 a2).trans h
end iH
namespace fp
def C (k:Nat):Cn:=⟨[.val (.slice aL)],[(.slice am)],true,false,fun x=>f k x.1⟩
def E (k:Nat):cC:=en [] [(3,[0,3,4])] 0 [] k
section
variable (k:Nat) (a0:List (Ty.den aL))
def K0:Ex→St→Rs:=cF (E k) (eK (E k) Tryz.f181 (C k) (a0,())) [.blk 0,.code (at_ (bt 3 7) (body Tryz.f181))]
def V0 (n0:Nat):T0:=fun x0 x1 x2=>ak (bf (E k) (at_ (bt 6 11) (body Tryz.f181))) (ai 0 [0,3,4]) (K0 k a0) n0 (mk 21 1 [(0,.sl true aL x0),(3,.ref 0),(4,.int .i64 x1)] [(0,.own false am x2)])
theorem s0 (n0:Nat):V0 k a0 (n0+1)=b0 k (V0 k a0 n0):=by kernel_rfl
theorem e0:V0 k a0=l0 k:=aW rfl (s0 k a0) fun _=>rfl
end
theorem eq (k:Nat) (a0:List (Ty.den aL)):rn (E k) Tryz.f181 (C k) (a0,())=f k a0:=(show _=t k (V0 k a0 k) a0 by kernel_rfl).trans (by rw [e0];rfl)
theorem ctr (k:Nat):Cp 181 (C k):=rc rfl [] (by kernel_rfl) Tryz.func181 (by kernel_rfl) rfl fun ⟨a0,_⟩ r h=>(eq k a0).trans h
end fp
namespace iZ
def C (k:Nat):Cn:=⟨[.val am,.val (.slice aL)],[.bool],true,false,fun x=>f k x.1 x.2.1⟩
def D (k:Nat):List Ce:=[q (fp.ctr k),q (fh.ctr k)]
def E (k:Nat):cC:=en (D k) [] 0 [] k
theorem eq (k:Nat) (a0:Ty.den am) (a1:List (Ty.den aL)):rn (E k) Tryz.f164 (C k) (a0,a1,())=f k a0 a1:=by kernel_rfl
theorem ctr (k:Nat):Cp 164 (C k):=rc rfl (D k) (by kernel_rfl) Tryz.func164 (by kernel_rfl) rfl fun ⟨a0,a1,_⟩ r h=>(eq k a0 a1).trans h
end iZ
namespace cq
def C (k:Nat):Cn:=⟨[.val (.slice aA),.val .str],[(.slice aA)],true,false,fun x=>f k x.1 x.2.1⟩
def E (k:Nat):cC:=en [] [(3,[0,1,5,6])] 0 [] k
section
variable (k:Nat) (a0:List (Ty.den aA)) (a1:ByteArray)
def K0:Ex→St→Rs:=cF (E k) (eK (E k) Tryz.f73 (C k) (a0,a1,())) [.blk 0,.code (at_ (bt 3 7) (body Tryz.f73))]
def V0 (n0:Nat):T0:=fun x0 x1 x2 x3=>ak (bf (E k) (at_ (bt 6 11) (body Tryz.f73))) (ai 0 [0,1,5,6]) (K0 k a0 a1) n0 (mk 29 1 [(0,.sl true aA x0),(1,.str x1),(5,.ref 0),(6,.int .i64 x2)] [(0,.own false aA x3)])
theorem s0 (n0:Nat):V0 k a0 a1 (n0+1)=b0 k (V0 k a0 a1 n0):=by kernel_rfl
theorem e0:V0 k a0 a1=l0 k:=aW rfl (s0 k a0 a1) fun _=>rfl
end
theorem eq (k:Nat) (a0:List (Ty.den aA)) (a1:ByteArray):rn (E k) Tryz.f73 (C k) (a0,a1,())=f k a0 a1:=(show _=t k (V0 k a0 a1 k) a0 a1 by kernel_rfl).trans (by rw [e0];rfl)
theorem ctr (k:Nat):Cp 73 (C k):=rc rfl [] (by kernel_rfl) Tryz.func73 (by kernel_rfl) rfl fun ⟨a0,a1,_⟩ r h=>(eq k a0 a1).trans h
end cq
namespace bZ
def C (k:Nat):Cn:=⟨[.val (.slice aA),.val aA],[(.slice aA)],true,false,fun x=>f k x.1 x.2.1⟩
def E (k:Nat):cC:=en [] [(4,[0,3,5,6,7])] 0 [] k
section
variable (k:Nat) (a0:List (Ty.den aA)) (a1:Ty.den aA)
def K0:Ex→St→Rs:=cF (E k) (eK (E k) Tryz.f74 (C k) (a0,a1,())) [.blk 0,.code (at_ (bt 4 15) (body Tryz.f74))]
def V0 (n0:Nat):T0:=fun x0 x1 x2 x3 x4 x5 x6 x7 x8=>ak (bf (E k) (at_ (bt 7 23) (body Tryz.f74))) (ai 0 [0,3,5,6,7]) (K0 k a0 a1) n0 (mk 53 2 [(0,.sl true aA x0),(3,.ptr 0 0 0),(5,.ref 1),(6,.bool x1),(7,.int .i64 x2)] [(0,.box [.str x3,.int .i64 x4,.int .i64 x5,.int .i64 x6,.int .i64 x7]),(1,.own false aA x8)])
theorem s0 (n0:Nat):V0 k a0 a1 (n0+1)=b0 k (V0 k a0 a1 n0):=by kernel_rfl
theorem e0:V0 k a0 a1=l0 k:=aW rfl (s0 k a0 a1) fun _=>rfl
end
theorem eq (k:Nat) (a0:List (Ty.den aA)) (a1:Ty.den aA):rn (E k) Tryz.f74 (C k) (a0,a1,())=f k a0 a1:=(show _=t k (V0 k a0 a1 k) a0 a1 by kernel_rfl).trans (by rw [e0];rfl)
theorem ctr (k:Nat):Cp 74 (C k):=rc rfl [] (by kernel_rfl) Tryz.func74 (by kernel_rfl) rfl fun ⟨a0,a1,_⟩ r h=>(eq k a0 a1).trans h
end bZ
namespace fm
def C (k:Nat):Cn:=⟨[.val (.slice aA),.val aL],[(.slice aA)],true,false,fun x=>f k x.1 x.2.1⟩
def D (k:Nat):List Ce:=[q (cq.ctr k),q (bZ.ctr k)]
def E (k:Nat):cC:=en (D k) [] 0 [] k
theorem eq (k:Nat) (a0:List (Ty.den aA)) (a1:Ty.den aL):rn (E k) Tryz.f76 (C k) (a0,a1,())=f k a0 a1:=by kernel_rfl
theorem ctr (k:Nat):Cp 76 (C k):=rc rfl (D k) (by kernel_rfl) Tryz.func76 (by kernel_rfl) rfl fun ⟨a0,a1,_⟩ r h=>(eq k a0 a1).trans h
end fm
namespace ed
def C (k:Nat):Cn:=⟨[.val (.slice aL),.val (.int .i64)],[(.slice aL)],true,false,fun x=>f k x.1 x.2.1⟩
def E (k:Nat):cC:=en [] [(3,[0,1,5,6])] 0 [] k
section
variable (k:Nat) (a0:List (Ty.den aL)) (a1:Int)
def K0:Ex→St→Rs:=cF (E k) (eK (E k) Tryz.f165 (C k) (a0,a1,())) [.blk 0,.code (at_ (bt 3 7) (body Tryz.f165))]
def V0 (n0:Nat):T0:=fun x0 x1 x2 x3=>ak (bf (E k) (at_ (bt 6 11) (body Tryz.f165))) (ai 0 [0,1,5,6]) (K0 k a0 a1) n0 (mk 36 1 [(0,.sl true aL x0),(1,.int .i64 x1),(5,.ref 0),(6,.int .i64 x2)] [(0,.own false aL x3)])
theorem s0 (n0:Nat):V0 k a0 a1 (n0+1)=b0 k (V0 k a0 a1 n0):=by kernel_rfl
theorem e0:V0 k a0 a1=l0 k:=aW rfl (s0 k a0 a1) fun _=>rfl
end
theorem eq (k:Nat) (a0:List (Ty.den aL)) (a1:Int):rn (E k) Tryz.f165 (C k) (a0,a1,())=f k a0 a1:=(show _=t k (V0 k a0 a1 k) a0 a1 by kernel_rfl).trans (by rw [e0];rfl)
theorem ctr (k:Nat):Cp 165 (C k):=rc rfl [] (by kernel_rfl) Tryz.func165 (by kernel_rfl) rfl fun ⟨a0,a1,_⟩ r h=>(eq k a0 a1).trans h
end ed
namespace cA
def C (k:Nat):Cn:=⟨[.val kY,.val (.slice aL)],[kY],true,false,fun x=>f k x.1 x.2.1⟩
def D (k:Nat):List Ce:=[q (iH.ctr k),q (iZ.ctr k),q (fm.ctr k),q (ed.ctr k)]
def E (k:Nat):cC:=en (D k) [(3,[1,4,5,6]),(17,[1,4,5,6,8,9])] 0 [] k
section
variable (k:Nat) (a0:Ty.den kY) (a1:List (Ty.den aL))
def K0:Ex→St→Rs:=cF (E k) (eK (E k) Tryz.f133 (C k) (a0,a1,())) [.blk 0,.code (at_ (bt 3 7) (body Tryz.f133))]
def B0 (n0:Nat):Ex→St→Rs:=KY (E k) (at_ (bt 6 11) (body Tryz.f133)) 0 [1,4,5,6] (K0 k a0 a1) n0
def K1 (n0:Nat):Ex→St→Rs:=cF (E k) (B0 k a0 a1 n0) [.blk 3,.code (at_ (bt 14 15947) (body Tryz.f133)),.blk 1,.code (at_ (bt 8 203) (body Tryz.f133))]
def V0 (n0:Nat):T0:=fun x0 x1 x2 x3 x4 x5 x6 x7=>ak (bf (E k) (at_ (bt 6 11) (body Tryz.f133))) (ai 0 [1,4,5,6]) (K0 k a0 a1) n0 (mk 97 4 [(1,.sl true aL x0),(4,.ptr 0 0 0),(5,.ptr 2 0 0),(6,.int .i64 x1)] [(1,.own false aA x2),(0,.box [.ref 1,.int .i64 x3,.int .i64 x4]),(3,.own false aA x5),(2,.box [.ref 3,.int .i64 x6,.int .i64 x7])])
def V1 (n0 n1:Nat):T1:=fun x0 x1 x2 x3 x4 x5 x6 x7 x8 x9=>ak (bf (E k) (at_ (bt 17 24139) (body Tryz.f133))) (ai 0 [1,4,5,6,8,9]) (K1 k a0 a1 n0) n1 (mk 97 5 [(1,.sl true aL x0),(4,.ptr 0 0 0),(5,.ptr 2 0 0),(6,.int .i64 x1),(8,.ref 4),(9,.int .i64 x2)] [(1,.own false aA x3),(0,.box [.ref 1,.int .i64 x4,.int .i64 x5]),(3,.own false aA x6),(2,.box [.ref 3,.int .i64 x7,.int .i64 x8]),(4,.own false aL x9)])
theorem s0 (n0:Nat):V0 k a0 a1 (n0+1)=b0 k (V1 k a0 a1 n0 k) (V0 k a0 a1 n0):=by kernel_rfl
theorem s1 (n0 n1:Nat):V1 k a0 a1 n0 (n1+1)=b1 k (V0 k a0 a1 n0) (V1 k a0 a1 n0 n1):=by kernel_rfl
theorem e1 (n0:Nat):V1 k a0 a1 n0=l1 k (V0 k a0 a1 n0):=aW rfl (s1 k a0 a1 n0) fun _=>rfl
theorem e0 (n0:Nat):V0 k a0 a1 n0=l0 k n0:=by
 induction n0 with
 | zero=>rfl
 | succ n0 ih =>
  have h:V0 k a0 a1 (n0+1)=b0 k (V1 k a0 a1 n0 k) (V0 k a0 a1 n0):=s0 k a0 a1 n0
  rw [h,e1,ih]
  rfl
end
theorem eq (k:Nat) (a0:Ty.den kY) (a1:List (Ty.den aL)):rn (E k) Tryz.f133 (C k) (a0,a1,())=f k a0 a1:=(show _=t k (V0 k a0 a1 k) a0 a1 by kernel_rfl).trans (by rw [e0];rfl)
theorem ctr (k:Nat):Cp 133 (C k):=rc rfl (D k) (by kernel_rfl) Tryz.func133 (by kernel_rfl) rfl fun ⟨a0,a1,_⟩ r h=>(eq k a0 a1).trans h
end cA
namespace bo
def C (k:Nat):Cn:=⟨[.give a_,.val bj],[a_,(.int .i64)],true,false,fun x=>f k x.1 x.2.1⟩
def D (k:Nat):List Ce:=[q (b9.ctr k),q (gJ.ctr k),q (aP.ctr k)]
def E (k:Nat):cC:=en (D k) [(3,[2,4,6,7])] 0 [] k
section
variable (k:Nat) (a0:Ty.den a_) (a1:Ty.den bj)
def K0:Ex→St→Rs:=cF (E k) (eK (E k) Tryz.f134 (C k) (a0,a1,())) [.blk 0,.code (at_ (bt 3 7) (body Tryz.f134))]
def V0 (n0:Nat):T0:=fun x0 x1 x2 x3 x4 x5 x6 x7 x8 x9=>ak (bf (E k) (at_ (bt 6 11) (body Tryz.f134))) (ai 0 [2,4,6,7]) (K0 k a0 a1) n0 (mk 35 5 [(2,.ptr 0 0 0),(4,.ptr 2 0 0),(6,.ref 4),(7,.int .i64 x0)] [(1,.own false aD x1),(0,.box [.ref 1,.int .i64 x2,.int .i64 x3,.bool x4]),(3,.own false aD x5),(2,.box [.ref 3,.int .i64 x6,.int .i64 x7,.bool x8]),(4,.own false .str x9)])
theorem s0 (n0:Nat):V0 k a0 a1 (n0+1)=b0 k (V0 k a0 a1 n0):=by kernel_rfl
theorem e0:V0 k a0 a1=l0 k:=aW rfl (s0 k a0 a1) fun _=>rfl
end
theorem eq (k:Nat) (a0:Ty.den a_) (a1:Ty.den bj):rn (E k) Tryz.f134 (C k) (a0,a1,())=f k a0 a1:=(show _=t k (V0 k a0 a1 k) a0 a1 by kernel_rfl).trans (by rw [e0];rfl)
theorem ctr (k:Nat):Cp 134 (C k):=rc rfl (D k) (by kernel_rfl) Tryz.func134 (by kernel_rfl) rfl fun ⟨a0,a1,_⟩ r h=>(eq k a0 a1).trans h
end bo
namespace gH
def C (k:Nat):Cn:=⟨[.give a_],[aC,a_,(.int .i64)],true,false,fun x=>f k x.1⟩
def D (k:Nat):List Ce:=[q (bo.ctr k),q (aS.ctr k),q (eg.ctr k),q (aP.ctr k),q (dT.ctr k)]
def E (k:Nat):cC:=en (D k) [] 0 [] k
theorem eq (k:Nat) (a0:Ty.den a_):rn (E k) Tryz.f127 (C k) (a0,())=f k a0:=by kernel_rfl
theorem ctr (k:Nat):Cp 127 (C k):=rc rfl (D k) (by kernel_rfl) Tryz.func127 (by kernel_rfl) rfl fun ⟨a0,_⟩ r h=>(eq k a0).trans h
end gH
namespace ax
def C (k:Nat):Cn:=⟨[.give a_],[aC,a_,(.int .i64)],true,false,fun x=>f k x.1⟩
def D (k:Nat):List Ce:=[q (bn.ctr k),q (bv.ctr k),q (bJ.ctr k),q (gH.ctr k),q (bH.ctr k),q (aS.ctr k),q (bO.ctr k),q (iF.ctr k),q (aP.ctr k),q (bx.ctr k),q (cX.ctr k),q (bI.ctr k),q (gc.ctr k),q (bU.ctr k),q (cA.ctr k),q (bo.ctr k)]
def E (k:Nat):cC:=en (D k) [(14,[1,2,3,5,8,9,10]),(35,[2,3,5,8,19,23,24,25,26])] 0 [] k
section
variable (k:Nat) (a0:Ty.den a_)
def K0:Ex→St→Rs:=cF (E k) (eK (E k) Tryz.f97 (C k) (a0,())) [.blk 0,.code (at_ (bt 10 1023) (body Tryz.f97))]
def K1:Ex→St→Rs:=cF (E k) (eK (E k) Tryz.f97 (C k) (a0,())) [.blk 2,.code (at_ (bt 20 1048575) (body Tryz.f97))]
def V0 (n0:Nat):T0:=fun x0 x1 x2 x3 x4 x5 x6 x7 x8 x9 x10 x11 x12 x13 x14 x15 x16 x17 x18 x19 x20 x21 x22 x23=>ak (bf (E k) (at_ (bt 13 1535) (body Tryz.f97))) (ai 0 [1,2,3,5,8,9,10]) (K0 k a0) n0 (mk 268 12 [(1,.ptr 0 0 0),(2,.ptr 2 0 0),(3,.ptr 5 0 0),(5,.ptr 7 0 0),(8,.ptr 10 0 0),(9,.int .i64 x0),(10,.int .i64 x1)] [(1,.own false aD x2),(0,.box [.ref 1,.int .i64 x3,.int .i64 x4,.bool x5]),(3,.own false (.int .i64) x6),(4,.own false aA x7),(2,.box [.int .i64 x8,.ref 3,.ref 4,.int .i64 x9,.int .i64 x10,.int .i64 x11]),(6,.own false aD x12),(5,.box [.ref 6,.int .i64 x13,.int .i64 x14,.bool x15]),(8,.own false (.int .i64) x16),(9,.own false aA x17),(7,.box [.int .i64 x18,.ref 8,.ref 9,.int .i64 x19,.int .i64 x20,.int .i64 x21]),(11,.own false (.int .i64) x22),(10,.box [.int .i64 x23,.ref 11])])
def V1 (n1:Nat):T1:=fun x0 x1 x2 x3 x4 x5 x6 x7 x8 x9 x10 x11 x12 x13 x14 x15 x16 x17 x18 x19 x20 x21 x22 x23 x24 x25 x26 x27 x28 x29 x30 x31=>ak (bf (E k) (at_ (bt 23 1572863) (body Tryz.f97))) (ai 0 [2,3,5,8,19,23,24,25,26]) (K1 k a0) n1 (mk 268 17 [(2,.ptr 0 0 0),(3,.ptr 3 0 0),(5,.ptr 5 0 0),(8,.ptr 8 0 0),(19,.ptr 10 0 0),(23,.ptr 12 0 0),(24,.ptr 14 0 0),(25,.ref 16),(26,.int .i64 x0)] [(1,.own false (.int .i64) x1),(2,.own false aA x2),(0,.box [.int .i64 x3,.ref 1,.ref 2,.int .i64 x4,.int .i64 x5,.int .i64 x6]),(4,.own false aD x7),(3,.box [.ref 4,.int .i64 x8,.int .i64 x9,.bool x10]),(6,.own false (.int .i64) x11),(7,.own false aA x12),(5,.box [.int .i64 x13,.ref 6,.ref 7,.int .i64 x14,.int .i64 x15,.int .i64 x16]),(9,.own false (.int .i64) x17),(8,.box [.int .i64 x18,.ref 9]),(11,.own false aD x19),(10,.box [.ref 11,.int .i64 x20,.int .i64 x21,.bool x22]),(13,.own false aA x23),(12,.box [.int .i64 x24,.ref 9,.ref 13,.int .i64 x25,.int .i64 x26,.int .i64 x27]),(15,.own false aA x28),(14,.box [.ref 15,.int .i64 x29,.int .i64 x30]),(16,.own false aL x31)])
def V2 (n1:Nat):T2:=fun x0 x1 x2 x3 x4 x5 x6 x7 x8 x9 x10 x11 x12 x13 x14 x15 x16 x17 x18 x19 x20 x21 x22 x23 x24 x25 x26 x27 x28 x29 x30 x31=>ak (bf (E k) (at_ (bt 23 1572863) (body Tryz.f97))) (ai 0 [2,3,5,8,19,23,24,25,26]) (K1 k a0) n1 (mk 268 17 [(2,.ptr 0 0 0),(3,.ptr 3 0 0),(5,.ptr 5 0 0),(8,.ptr 8 0 0),(19,.ptr 10 0 0),(23,.ptr 12 0 0),(24,.ptr 14 0 0),(25,.ref 16),(26,.int .i64 x0)] [(1,.own false (.int .i64) x1),(2,.own false aA x2),(0,.box [.int .i64 x3,.ref 1,.ref 2,.int .i64 x4,.int .i64 x5,.int .i64 x6]),(4,.own false aD x7),(3,.box [.ref 4,.int .i64 x8,.int .i64 x9,.bool x10]),(6,.own false (.int .i64) x11),(7,.own false aA x12),(5,.box [.int .i64 x13,.ref 6,.ref 7,.int .i64 x14,.int .i64 x15,.int .i64 x16]),(9,.own false (.int .i64) x17),(8,.box [.int .i64 x18,.ref 9]),(11,.own false aD x19),(10,.box [.ref 11,.int .i64 x20,.int .i64 x21,.bool x22]),(13,.own false aA x23),(12,.box [.int .i64 x24,.ref 9,.ref 13,.int .i64 x25,.int .i64 x26,.int .i64 x27]),(15,.own false aA x28),(14,.box [.ref 15,.int .i64 x29,.int .i64 x30]),(16,.own false aL x31)])
theorem s0 (n0:Nat):V0 k a0 (n0+1)=b0 k (V1 k a0 k) (V2 k a0 k) (V0 k a0 n0):=by kernel_rfl
theorem s1 (n1:Nat):V1 k a0 (n1+1)=b1 k (V1 k a0 n1):=by kernel_rfl
theorem s2 (n1:Nat):V2 k a0 (n1+1)=b2 k (V2 k a0 n1):=by kernel_rfl
theorem e1:V1 k a0=l1 k:=aW rfl (s1 k a0) fun _=>rfl
theorem e2:V2 k a0=l2 k:=aW rfl (s2 k a0) fun _=>rfl
theorem e0 (n0:Nat):V0 k a0 n0=l0 k n0:=by
 induction n0 with
 | zero=>rfl
 | succ n0 ih =>
  have h:V0 k a0 (n0+1)=b0 k (V1 k a0 k) (V2 k a0 k) (V0 k a0 n0):=s0 k a0 n0
  rw [h,e1,e2,ih]
  rfl
end
theorem eq (k:Nat) (a0:Ty.den a_):rn (E k) Tryz.f97 (C k) (a0,())=f k a0:=(show _=t k (V0 k a0 k) a0 by kernel_rfl).trans (by rw [e0];rfl)
theorem ctr (k:Nat):Cp 97 (C k):=rc rfl (D k) (by kernel_rfl) Tryz.func97 (by kernel_rfl) rfl fun ⟨a0,_⟩ r h=>(eq k a0).trans h
end ax
namespace g7
def C (k:Nat):Cn:=⟨[.io false ap,.val (.int .i64)],[.bool],true,true,fun x=>f k x.1 x.2.1⟩
def D (k:Nat):List Ce:=[q (aV.ctr k)]
def E (k:Nat):cC:=en (D k) [] 1 [] k
theorem eq (k:Nat) (a0:Ty.den ap) (a1:Int):rn (E k) Tryz.f99 (C k) (a0,a1,())=f k a0 a1:=by kernel_rfl
theorem ctr (k:Nat):Cp 99 (C k):=rc rfl (D k) (by kernel_rfl) Tryz.func99 (by kernel_rfl) rfl fun ⟨a0,a1,_⟩ r h=>(eq k a0 a1).trans h
end g7
namespace dy
def C (k:Nat):Cn:=⟨[.val aC],[aC],true,false,fun x=>f k x.1⟩
def E (k:Nat):cC:=en [] [] 0 [] k
theorem eq (k:Nat) (a0:Ty.den aC):rn (E k) Tryz.f28 (C k) (a0,())=f k a0:=by kernel_rfl
theorem ctr (k:Nat):Cp 28 (C k):=rc rfl [] (by kernel_rfl) Tryz.func28 (by kernel_rfl) rfl fun ⟨a0,_⟩ r h=>(eq k a0).trans h
end dy
namespace ip
def C (k:Nat):Cn:=⟨[.val .str,.val (.int .i64),.val (.int .i64)],[am,.bool],true,false,fun x=>f k x.1 x.2.1 x.2.2.1⟩
def D (k:Nat):List Ce:=[q (aU.ctr k),q (dU.ctr k),q (e9.ctr k)]
def E (k:Nat):cC:=en (D k) [] 0 [] k
theorem eq (k:Nat) (a0:ByteArray) (a1:Int) (a2:Int):rn (E k) Tryz.f44 (C k) (a0,a1,a2,())=f k a0 a1 a2:=by kernel_rfl
theorem ctr (k:Nat):Cp 44 (C k):=rc rfl (D k) (by kernel_rfl) Tryz.func44 (by kernel_rfl) rfl fun ⟨a0,a1,a2,_⟩ r h=>(eq k a0 a1 a2).trans h
end ip
namespace bF
def C (k:Nat):Cn:=⟨[.val aC,.val a_],[.bool],true,false,fun x=>f k x.1 x.2.1⟩
def D (k:Nat):List Ce:=[q (bn.ctr k),q (dK.ctr k),q (ez.ctr k),q (aU.ctr k),q (aS.ctr k),q (bJ.ctr k),q (bO.ctr k),q (ip.ctr k)]
def E (k:Nat):cC:=en (D k) [(4,[2,3,5]),(11,[2,3,10])] 0 [] k
section
variable (k:Nat) (a0:Ty.den aC) (a1:Ty.den a_)
def K0:Ex→St→Rs:=cF (E k) (eK (E k) Tryz.f15 (C k) (a0,a1,())) [.blk 0,.code (at_ (bt 3 7) (body Tryz.f15))]
def K1:Ex→St→Rs:=cF (E k) (eK (E k) Tryz.f15 (C k) (a0,a1,())) [.blk 2,.code (at_ (bt 4 15) (body Tryz.f15))]
def V0 (n0:Nat):T0:=fun x0 x1 x2 x3 x4 x5 x6 x7 x8 x9 x10=>ak (bf (E k) (at_ (bt 6 11) (body Tryz.f15))) (ai 0 [2,3,5]) (K0 k a0 a1) n0 (mk 148 2 [(2,.ptr 0 0 0),(3,.ptr 1 0 0),(5,.int .i64 x0)] [(0,.box [.int .i64 x1,.sl true (.int .i64) x2,.sl true aA x3,.int .i64 x4,.int .i64 x5,.int .i64 x6]),(1,.box [.sl true aD x7,.int .i64 x8,.int .i64 x9,.bool x10])])
def V1 (n1:Nat):T1:=fun x0 x1 x2 x3 x4 x5 x6 x7 x8 x9 x10=>ak (bf (E k) (at_ (bt 7 23) (body Tryz.f15))) (ai 0 [2,3,10]) (K1 k a0 a1) n1 (mk 148 2 [(2,.ptr 0 0 0),(3,.ptr 1 0 0),(10,.int .i64 x0)] [(0,.box [.int .i64 x1,.sl true (.int .i64) x2,.sl true aA x3,.int .i64 x4,.int .i64 x5,.int .i64 x6]),(1,.box [.sl true aD x7,.int .i64 x8,.int .i64 x9,.bool x10])])
theorem s0 (n0:Nat):V0 k a0 a1 (n0+1)=b0 k (V1 k a0 a1 k) (V0 k a0 a1 n0):=by kernel_rfl
theorem s1 (n1:Nat):V1 k a0 a1 (n1+1)=b1 k (V1 k a0 a1 n1):=by kernel_rfl
theorem e1:V1 k a0 a1=l1 k:=aW rfl (s1 k a0 a1) fun _=>rfl
theorem e0 (n0:Nat):V0 k a0 a1 n0=l0 k n0:=by
 induction n0 with
 | zero=>rfl
 | succ n0 ih =>
  have h:V0 k a0 a1 (n0+1)=b0 k (V1 k a0 a1 k) (V0 k a0 a1 n0):=s0 k a0 a1 n0
  rw [h,e1,ih]
  rfl
end
theorem eq (k:Nat) (a0:Ty.den aC) (a1:Ty.den a_):rn (E k) Tryz.f15 (C k) (a0,a1,())=f k a0 a1:=(show _=t k (V0 k a0 a1 k) a0 a1 by kernel_rfl).trans (by rw [e0];rfl)
theorem ctr (k:Nat):Cp 15 (C k):=rc rfl (D k) (by kernel_rfl) Tryz.func15 (by kernel_rfl) rfl fun ⟨a0,a1,_⟩ r h=>(eq k a0 a1).trans h
end bF
namespace fy
def C (k:Nat):Cn:=⟨[.val (.slice aA),.val .str],[aA,.bool],true,false,fun x=>f k x.1 x.2.1⟩
def E (k:Nat):cC:=en [] [(2,[0,1,4,6])] 0 [] k
section
variable (k:Nat) (a0:List (Ty.den aA)) (a1:ByteArray)
def K0:Ex→St→Rs:=cF (E k) (eK (E k) Tryz.f81 (C k) (a0,a1,())) [.blk 0,.code (at_ (bt 2 3) (body Tryz.f81))]
def V0 (n0:Nat):T0:=fun x0 x1 x2 x3 x4 x5 x6 x7=>ak (bf (E k) (at_ (bt 5 5) (body Tryz.f81))) (ai 0 [0,1,4,6]) (K0 k a0 a1) n0 (mk 25 1 [(0,.sl true aA x0),(1,.str x1),(4,.ptr 0 0 0),(6,.int .i64 x2)] [(0,.box [.str x3,.int .i64 x4,.int .i64 x5,.int .i64 x6,.int .i64 x7])])
theorem s0 (n0:Nat):V0 k a0 a1 (n0+1)=b0 k (V0 k a0 a1 n0):=by kernel_rfl
theorem e0:V0 k a0 a1=l0 k:=aW rfl (s0 k a0 a1) fun _=>rfl
end
theorem eq (k:Nat) (a0:List (Ty.den aA)) (a1:ByteArray):rn (E k) Tryz.f81 (C k) (a0,a1,())=f k a0 a1:=(show _=t k (V0 k a0 a1 k) a0 a1 by kernel_rfl).trans (by rw [e0];rfl)
theorem ctr (k:Nat):Cp 81 (C k):=rc rfl [] (by kernel_rfl) Tryz.func81 (by kernel_rfl) rfl fun ⟨a0,a1,_⟩ r h=>(eq k a0 a1).trans h
end fy
namespace mS
def C (k:Nat):Cn:=⟨[.val aC,.val a_,.val .str],[aD,(.int .i64)],true,false,fun x=>f k x.1 x.2.1 x.2.2.1⟩
def D (k:Nat):List Ce:=[q (fy.ctr k),q (aS.ctr k),q (bJ.ctr k),q (ip.ctr k)]
def E (k:Nat):cC:=en (D k) [] 0 [] k
theorem eq (k:Nat) (a0:Ty.den aC) (a1:Ty.den a_) (a2:ByteArray):rn (E k) Tryz.f33 (C k) (a0,a1,a2,())=f k a0 a1 a2:=by kernel_rfl
theorem ctr (k:Nat):Cp 33 (C k):=rc rfl (D k) (by kernel_rfl) Tryz.func33 (by kernel_rfl) rfl fun ⟨a0,a1,a2,_⟩ r h=>(eq k a0 a1 a2).trans h
end mS
namespace gF
def C (k:Nat):Cn:=⟨[.val aC,.val a_],[(.slice aD),(.int .i64)],true,false,fun x=>f k x.1 x.2.1⟩
def D (k:Nat):List Ce:=[q (mS.ctr k)]
def E (k:Nat):cC:=en (D k) [(3,[2,3,6,7])] 0 [] k
section
variable (k:Nat) (a0:Ty.den aC) (a1:Ty.den a_)
def K0:Ex→St→Rs:=cF (E k) (eK (E k) Tryz.f11 (C k) (a0,a1,())) [.blk 0,.code (at_ (bt 3 7) (body Tryz.f11))]
def V0 (n0:Nat):T0:=fun x0 x1 x2 x3 x4 x5 x6 x7 x8 x9 x10 x11=>ak (bf (E k) (at_ (bt 6 11) (body Tryz.f11))) (ai 0 [2,3,6,7]) (K0 k a0 a1) n0 (mk 39 3 [(2,.ptr 0 0 0),(3,.ptr 1 0 0),(6,.ref 2),(7,.int .i64 x0)] [(0,.box [.int .i64 x1,.sl true (.int .i64) x2,.sl true aA x3,.int .i64 x4,.int .i64 x5,.int .i64 x6]),(1,.box [.sl true aD x7,.int .i64 x8,.int .i64 x9,.bool x10]),(2,.own false aD x11)])
theorem s0 (n0:Nat):V0 k a0 a1 (n0+1)=b0 k (V0 k a0 a1 n0):=by kernel_rfl
theorem e0:V0 k a0 a1=l0 k:=aW rfl (s0 k a0 a1) fun _=>rfl
end
theorem eq (k:Nat) (a0:Ty.den aC) (a1:Ty.den a_):rn (E k) Tryz.f11 (C k) (a0,a1,())=f k a0 a1:=(show _=t k (V0 k a0 a1 k) a0 a1 by kernel_rfl).trans (by rw [e0];rfl)
theorem ctr (k:Nat):Cp 11 (C k):=rc rfl (D k) (by kernel_rfl) Tryz.func11 (by kernel_rfl) rfl fun ⟨a0,a1,_⟩ r h=>(eq k a0 a1).trans h
end gF
namespace kS
def C (k:Nat):Cn:=⟨[.val aD],[am],true,false,fun x=>f k x.1⟩
def E (k:Nat):cC:=en [] [] 0 [] k
theorem eq (k:Nat) (a0:Ty.den aD):rn (E k) Tryz.f182 (C k) (a0,())=f k a0:=by kernel_rfl
theorem ctr (k:Nat):Cp 182 (C k):=rc rfl [] (by kernel_rfl) Tryz.func182 (by kernel_rfl) rfl fun ⟨a0,_⟩ r h=>(eq k a0).trans h
end kS
namespace fu
def C (k:Nat):Cn:=⟨[.val (.slice am),.val (.int .i64),.val (.int .i64)],[am],true,false,fun x=>f k x.1 x.2.1 x.2.2.1⟩
def D (k:Nat):List Ce:=[q (fh.ctr k)]
def E (k:Nat):cC:=en (D k) [] 0 [] k
theorem eq (k:Nat) (a0:List (Ty.den am)) (a1:Int) (a2:Int):rn (E k) Tryz.f77 (C k) (a0,a1,a2,())=f k a0 a1 a2:=by kernel_rfl
theorem ctr (k:Nat):Cp 77 (C k):=rc rfl (D k) (by kernel_rfl) Tryz.func77 (by kernel_rfl) rfl fun ⟨a0,a1,a2,_⟩ r h=>(eq k a0 a1 a2).trans h
end fu
namespace dX
def C (k:Nat):Cn:=⟨[.val a_,.val (.int .i64),.val (.slice aD),.val (.int .i64)],[a_,(.slice aA),(.int .i64)],true,false,fun x=>f k x.1 x.2.1 x.2.2.1 x.2.2.2.1⟩
def D (k:Nat):List Ce:=[q (aS.ctr k),q (d7.ctr k),q (kS.ctr k),q (bd.ctr k),q (eP.ctr k),q (bS.ctr k),q (fu.ctr k),q (bx.ctr k),q (aP.ctr k)]
def E (k:Nat):cC:=en (D k) [(6,[1,2,3,8,11,12,13,14,15,16])] 0 [] k
section
variable (k:Nat) (a0:Ty.den a_) (a1:Int) (a2:List (Ty.den aD)) (a3:Int)
def K0:Ex→St→Rs:=cF (E k) (eK (E k) Tryz.f167 (C k) (a0,a1,a2,a3,())) [.blk 0,.code (at_ (bt 6 63) (body Tryz.f167))]
def V0 (n0:Nat):T0:=fun x0 x1 x2 x3 x4 x5 x6 x7 x8 x9 x10 x11 x12 x13 x14 x15=>ak (bf (E k) (at_ (bt 9 95) (body Tryz.f167))) (ai 0 [1,2,3,8,11,12,13,14,15,16]) (K0 k a0 a1 a2 a3) n0 (mk 101 6 [(1,.int .i64 x0),(2,.sl true aD x1),(3,.int .i64 x2),(8,.ptr 0 0 0),(11,.ref 2),(12,.ptr 3 0 0),(13,.int .i64 x3),(14,.ref 5),(15,.int .i64 x4),(16,.int .i64 x5)] [(1,.own false aD x6),(0,.box [.ref 1,.int .i64 x7,.int .i64 x8,.bool x9]),(2,.own false aA x10),(4,.own false aD x11),(3,.box [.ref 4,.int .i64 x12,.int .i64 x13,.bool x14]),(5,.own false am x15)])
theorem s0 (n0:Nat):V0 k a0 a1 a2 a3 (n0+1)=b0 k (V0 k a0 a1 a2 a3 n0):=by kernel_rfl
theorem e0:V0 k a0 a1 a2 a3=l0 k:=aW rfl (s0 k a0 a1 a2 a3) fun _=>rfl
end
theorem eq (k:Nat) (a0:Ty.den a_) (a1:Int) (a2:List (Ty.den aD)) (a3:Int):rn (E k) Tryz.f167 (C k) (a0,a1,a2,a3,())=f k a0 a1 a2 a3:=(show _=t k (V0 k a0 a1 a2 a3 k) a0 a1 a2 a3 by kernel_rfl).trans (by rw [e0];rfl)
theorem ctr (k:Nat):Cp 167 (C k):=rc rfl (D k) (by kernel_rfl) Tryz.func167 (by kernel_rfl) rfl fun ⟨a0,a1,a2,a3,_⟩ r h=>(eq k a0 a1 a2 a3).trans h
end dX
namespace bR
def C (k:Nat):Cn:=⟨[.give a_,.val (.slice .str)],[a_,(.int .i64)],true,false,fun x=>f k x.1 x.2.1⟩
def D (k:Nat):List Ce:=[q (bD.ctr k),q (gJ.ctr k)]
def E (k:Nat):cC:=en (D k) [(2,[1,2,4,6])] 0 [] k
section
variable (k:Nat) (a0:Ty.den a_) (a1:List ByteArray)
def K0:Ex→St→Rs:=cF (E k) (eK (E k) Tryz.f158 (C k) (a0,a1,())) [.blk 0,.code (at_ (bt 2 3) (body Tryz.f158))]
def V0 (n0:Nat):T0:=fun x0 x1 x2 x3 x4 x5 x6 x7 x8 x9=>ak (bf (E k) (at_ (bt 5 5) (body Tryz.f158))) (ai 0 [1,2,4,6]) (K0 k a0 a1) n0 (mk 37 4 [(1,.sl true .str x0),(2,.ptr 0 0 0),(4,.ptr 2 0 0),(6,.int .i64 x1)] [(1,.own false aD x2),(0,.box [.ref 1,.int .i64 x3,.int .i64 x4,.bool x5]),(3,.own false aD x6),(2,.box [.ref 3,.int .i64 x7,.int .i64 x8,.bool x9])])
theorem s0 (n0:Nat):V0 k a0 a1 (n0+1)=b0 k (V0 k a0 a1 n0):=by kernel_rfl
theorem e0:V0 k a0 a1=l0 k:=aW rfl (s0 k a0 a1) fun _=>rfl
end
theorem eq (k:Nat) (a0:Ty.den a_) (a1:List ByteArray):rn (E k) Tryz.f158 (C k) (a0,a1,())=f k a0 a1:=(show _=t k (V0 k a0 a1 k) a0 a1 by kernel_rfl).trans (by rw [e0];rfl)
theorem ctr (k:Nat):Cp 158 (C k):=rc rfl (D k) (by kernel_rfl) Tryz.func158 (by kernel_rfl) rfl fun ⟨a0,a1,_⟩ r h=>(eq k a0 a1).trans h
end bR
namespace dV
def C (k:Nat):Cn:=⟨[.give aC,.give a_,.val (.int .i64),.val (.int .i64)],[aC,a_,(.int .i64)],true,false,fun x=>f k x.1 x.2.1 x.2.2.1 x.2.2.2.1⟩
def D (k:Nat):List Ce:=[q (aS.ctr k),q (cX.ctr k),q (bR.ctr k),q (aP.ctr k)]
def E (k:Nat):cC:=en (D k) [] 0 [] k
theorem eq (k:Nat) (a0:Ty.den aC) (a1:Ty.den a_) (a2:Int) (a3:Int):rn (E k) Tryz.f168 (C k) (a0,a1,a2,a3,())=f k a0 a1 a2 a3:=by kernel_rfl
theorem ctr (k:Nat):Cp 168 (C k):=rc rfl (D k) (by kernel_rfl) Tryz.func168 (by kernel_rfl) rfl fun ⟨a0,a1,a2,a3,_⟩ r h=>(eq k a0 a1 a2 a3).trans h
end dV
namespace bp
def C (k:Nat):Cn:=⟨[.give aC,.val a_,.val (.slice aD)],[aC,a_,(.int .i64)],true,false,fun x=>f k x.1 x.2.1 x.2.2.1⟩
def D (k:Nat):List Ce:=[q (dX.ctr k),q (dV.ctr k),q (aS.ctr k),q (d7.ctr k),q (aP.ctr k),q (bJ.ctr k),q (dj.ctr k),q (cX.ctr k),q (dL.ctr k),q (gg.ctr k),q (bR.ctr k),q (dT.ctr k)]
def E (k:Nat):cC:=en (D k) [(26,[3,6,7,10,18,20])] 0 [] k
section
variable (k:Nat) (a0:Ty.den aC) (a1:Ty.den a_) (a2:List (Ty.den aD))
def K0:Ex→St→Rs:=cF (E k) (eK (E k) Tryz.f135 (C k) (a0,a1,a2,())) [.blk 0,.code (at_ (bt 21 2097151) (body Tryz.f135))]
def V0 (n0:Nat):T0:=fun x0 x1 x2 x3 x4 x5 x6 x7 x8 x9 x10 x11 x12 x13 x14 x15 x16 x17 x18 x19 x20 x21=>ak (bf (E k) (at_ (bt 24 3145727) (body Tryz.f135))) (ai 0 [3,6,7,10,18,20]) (K0 k a0 a1 a2) n0 (mk 170 11 [(3,.ptr 0 0 0),(6,.ptr 3 0 0),(7,.ptr 6 0 0),(10,.ptr 8 0 0),(18,.ref 10),(20,.int .i64 x0)] [(1,.own false (.int .i64) x1),(2,.own false aA x2),(0,.box [.int .i64 x3,.ref 1,.ref 2,.int .i64 x4,.int .i64 x5,.int .i64 x6]),(4,.own false (.int .i64) x7),(5,.own false aA x8),(3,.box [.int .i64 x9,.ref 4,.ref 5,.int .i64 x10,.int .i64 x11,.int .i64 x12]),(7,.own false aD x13),(6,.box [.ref 7,.int .i64 x14,.int .i64 x15,.bool x16]),(9,.own false aD x17),(8,.box [.ref 9,.int .i64 x18,.int .i64 x19,.bool x20]),(10,.own false (.int .i64) x21)])
theorem s0 (n0:Nat):V0 k a0 a1 a2 (n0+1)=b0 k (V0 k a0 a1 a2 n0):=by kernel_rfl
theorem e0:V0 k a0 a1 a2=l0 k:=aW rfl (s0 k a0 a1 a2) fun _=>rfl
end
theorem eq (k:Nat) (a0:Ty.den aC) (a1:Ty.den a_) (a2:List (Ty.den aD)):rn (E k) Tryz.f135 (C k) (a0,a1,a2,())=f k a0 a1 a2:=(show _=t k (V0 k a0 a1 a2 k) a0 a1 a2 by kernel_rfl).trans (by rw [e0];rfl)
theorem ctr (k:Nat):Cp 135 (C k):=rc rfl (D k) (by kernel_rfl) Tryz.func135 (by kernel_rfl) rfl fun ⟨a0,a1,a2,_⟩ r h=>(eq k a0 a1 a2).trans h
end bp
namespace k7
def C (k:Nat):Cn:=⟨[.val aC,.val a_],[aC,a_,(.int .i64)],true,false,fun x=>f k x.1 x.2.1⟩
def D (k:Nat):List Ce:=[q (dy.ctr k),q (bv.ctr k),q (bF.ctr k),q (gF.ctr k),q (bp.ctr k)]
def E (k:Nat):cC:=en (D k) [] 0 [] k
theorem eq (k:Nat) (a0:Ty.den aC) (a1:Ty.den a_):rn (E k) Tryz.f100 (C k) (a0,a1,())=f k a0 a1:=by kernel_rfl
theorem ctr (k:Nat):Cp 100 (C k):=rc rfl (D k) (by kernel_rfl) Tryz.func100 (by kernel_rfl) rfl fun ⟨a0,a1,_⟩ r h=>(eq k a0 a1).trans h
end k7
namespace eO
def C (k:Nat):Cn:=⟨[.io false ap,.val (.slice .str)],[.str],true,true,fun x=>f k x.1 x.2.1⟩
def D (k:Nat):List Ce:=[q (aV.ctr k)]
def E (k:Nat):cC:=en (D k) [] 1 [] k
theorem eq (k:Nat) (a0:Ty.den ap) (a1:List ByteArray):rn (E k) Tryz.f56 (C k) (a0,a1,())=f k a0 a1:=by kernel_rfl
theorem ctr (k:Nat):Cp 56 (C k):=rc rfl (D k) (by kernel_rfl) Tryz.func56 (by kernel_rfl) rfl fun ⟨a0,a1,_⟩ r h=>(eq k a0 a1).trans h
end eO
namespace il
def C (k:Nat):Cn:=⟨[.io false ap],[.str],true,true,fun x=>f k x.1⟩
def D (k:Nat):List Ce:=[q (eO.ctr k)]
def E (k:Nat):cC:=en (D k) [] 1 [] k
theorem eq (k:Nat) (a0:Ty.den ap):rn (E k) Tryz.f104 (C k) (a0,())=f k a0:=by kernel_rfl
theorem ctr (k:Nat):Cp 104 (C k):=rc rfl (D k) (by kernel_rfl) Tryz.func104 (by kernel_rfl) rfl fun ⟨a0,_⟩ r h=>(eq k a0).trans h
end il
namespace dI
def C (k:Nat):Cn:=⟨[.io false ap,.val (.int .i64)],[.str],true,true,fun x=>f k x.1 x.2.1⟩
def D (k:Nat):List Ce:=[q (aV.ctr k),q (eu.ctr k)]
def E (k:Nat):cC:=en (D k) [(4,[0,5,6,7])] 1 [] k
section
variable (k:Nat) (a0:Ty.den ap) (a1:Int)
def K0:Ex→St→Rs:=cF (E k) (eK (E k) Tryz.f105 (C k) (a0,a1,())) [.blk 0,.code (at_ (bt 4 15) (body Tryz.f105))]
def V0 (n0:Nat):T0:=fun x0 x1 x2 x3 x4 x5=>ak (bf (E k) (at_ (bt 7 23) (body Tryz.f105))) (ai 1 [0,5,6,7]) (K0 k a0 a1) n0 (mk 38 2 [(0,.ptr 0 0 0),(5,.ref 1),(6,.int .i64 x0),(7,.int .i64 x1)] [(0,.box [.sl true (.int .u8) x2,.int .i64 x3,.int .i64 x4]),(1,.own false (.int .u8) x5)])
theorem s0 (n0:Nat):V0 k a0 a1 (n0+1)=b0 k (V0 k a0 a1 n0):=by kernel_rfl
theorem e0:V0 k a0 a1=l0 k:=aW rfl (s0 k a0 a1) fun _=>rfl
end
theorem eq (k:Nat) (a0:Ty.den ap) (a1:Int):rn (E k) Tryz.f105 (C k) (a0,a1,())=f k a0 a1:=(show _=t k (V0 k a0 a1 k) a0 a1 by kernel_rfl).trans (by rw [e0];rfl)
theorem ctr (k:Nat):Cp 105 (C k):=rc rfl (D k) (by kernel_rfl) Tryz.func105 (by kernel_rfl) rfl fun ⟨a0,a1,_⟩ r h=>(eq k a0 a1).trans h
end dI
namespace dx
def C (k:Nat):Cn:=⟨[.io false ap],[(.slice af)],true,true,fun x=>f k x.1⟩
def D (k:Nat):List Ce:=[q (aV.ctr k),q (il.ctr k),q (dI.ctr k),q (g7.ctr k)]
def E (k:Nat):cC:=en (D k) [(3,[0,3,4])] 1 [] k
section
variable (k:Nat) (a0:Ty.den ap)
def K0:Ex→St→Rs:=cF (E k) (eK (E k) Tryz.f55 (C k) (a0,())) [.blk 0,.code (at_ (bt 3 7) (body Tryz.f55))]
def V0 (n0:Nat):T0:=fun x0 x1 x2 x3 x4=>ak (bf (E k) (at_ (bt 6 11) (body Tryz.f55))) (ai 1 [0,3,4]) (K0 k a0) n0 (mk 28 2 [(0,.ptr 0 0 0),(3,.ref 1),(4,.int .i64 x0)] [(0,.box [.sl true (.int .u8) x1,.int .i64 x2,.int .i64 x3]),(1,.own false af x4)])
theorem s0 (n0:Nat):V0 k a0 (n0+1)=b0 k (V0 k a0 n0):=by kernel_rfl
theorem e0:V0 k a0=l0 k:=aW rfl (s0 k a0) fun _=>rfl
end
theorem eq (k:Nat) (a0:Ty.den ap):rn (E k) Tryz.f55 (C k) (a0,())=f k a0:=(show _=t k (V0 k a0 k) a0 by kernel_rfl).trans (by rw [e0];rfl)
theorem ctr (k:Nat):Cp 55 (C k):=rc rfl (D k) (by kernel_rfl) Tryz.func55 (by kernel_rfl) rfl fun ⟨a0,_⟩ r h=>(eq k a0).trans h
end dx
namespace di
def C (k:Nat):Cn:=⟨[.val (.slice af)],[.bool],true,false,fun x=>f k x.1⟩
def D (k:Nat):List Ce:=[q (e7.ctr k)]
def E (k:Nat):cC:=en (D k) [(4,[0,3])] 0 [] k
section
variable (k:Nat) (a0:List (Ty.den af))
def K0:Ex→St→Rs:=cF (E k) (eK (E k) Tryz.f30 (C k) (a0,())) [.blk 0,.code (at_ (bt 3 7) (body Tryz.f30))]
def V0 (n0:Nat):T0:=fun x0 x1=>ak (bf (E k) (at_ (bt 6 11) (body Tryz.f30))) (ai 0 [0,3]) (K0 k a0) n0 (mk 44 0 [(0,.sl true af x0),(3,.int .i64 x1)] [])
theorem s0 (n0:Nat):V0 k a0 (n0+1)=b0 k (V0 k a0 n0):=by kernel_rfl
theorem e0:V0 k a0=l0 k:=aW rfl (s0 k a0) fun _=>rfl
end
theorem eq (k:Nat) (a0:List (Ty.den af)):rn (E k) Tryz.f30 (C k) (a0,())=f k a0:=(show _=t k (V0 k a0 k) a0 by kernel_rfl).trans (by rw [e0];rfl)
theorem ctr (k:Nat):Cp 30 (C k):=rc rfl (D k) (by kernel_rfl) Tryz.func30 (by kernel_rfl) rfl fun ⟨a0,_⟩ r h=>(eq k a0).trans h
end di
namespace cG
def C (k:Nat):Cn:=⟨[.val (.slice aA),.val (.slice af)],[(.int .i64)],true,false,fun x=>f k x.1 x.2.1⟩
def D (k:Nat):List Ce:=[q (cq.ctr k),q (bZ.ctr k)]
def E (k:Nat):cC:=en (D k) [(2,[0,1,5])] 0 [] k
section
variable (k:Nat) (a0:List (Ty.den aA)) (a1:List (Ty.den af))
def K0:Ex→St→Rs:=cF (E k) (eK (E k) Tryz.f31 (C k) (a0,a1,())) [.blk 0,.code (at_ (bt 2 3) (body Tryz.f31))]
def V0 (n0:Nat):T0:=fun x0 x1 x2=>ak (bf (E k) (at_ (bt 5 5) (body Tryz.f31))) (ai 0 [0,1,5]) (K0 k a0 a1) n0 (mk 34 0 [(0,.sl true aA x0),(1,.sl true af x1),(5,.int .i64 x2)] [])
def V1 (n0:Nat):T1:=fun x0 x1 x2=>ak (bf (E k) (at_ (bt 5 5) (body Tryz.f31))) (ai 0 [0,1,5]) (K0 k a0 a1) n0 (mk 34 1 [(0,.ref 0),(1,.sl true af x0),(5,.int .i64 x1)] [(0,.own false aA x2)])
theorem s0 (n0:Nat):V0 k a0 a1 (n0+1)=b0 k (V1 k a0 a1 n0):=by kernel_rfl
theorem s1 (n0:Nat):V1 k a0 a1 (n0+1)=b1 k (V1 k a0 a1 n0):=by kernel_rfl
theorem e1:V1 k a0 a1=l1 k:=aW rfl (s1 k a0 a1) fun _=>rfl
theorem e0 (n0:Nat):V0 k a0 a1 n0=l0 k n0:=by
 induction n0 with
 | zero=>rfl
 | succ n0 ih =>
  have h:V0 k a0 a1 (n0+1)=b0 k (V1 k a0 a1 n0):=s0 k a0 a1 n0
  rw [h,e1]
  rfl
end
theorem eq (k:Nat) (a0:List (Ty.den aA)) (a1:List (Ty.den af)):rn (E k) Tryz.f31 (C k) (a0,a1,())=f k a0 a1:=(show _=t k (V0 k a0 a1 k) a0 a1 by kernel_rfl).trans (by rw [e0];rfl)
theorem ctr (k:Nat):Cp 31 (C k):=rc rfl (D k) (by kernel_rfl) Tryz.func31 (by kernel_rfl) rfl fun ⟨a0,a1,_⟩ r h=>(eq k a0 a1).trans h
end cG
namespace b_
def C (k:Nat):Cn:=⟨[.val aC],[.str],true,false,fun x=>f k x.1⟩
def D (k:Nat):List Ce:=[q (aS.ctr k)]
def E (k:Nat):cC:=en (D k) [] 0 [] k
theorem eq (k:Nat) (a0:Ty.den aC):rn (E k) Tryz.f79 (C k) (a0,())=f k a0:=by kernel_rfl
theorem ctr (k:Nat):Cp 79 (C k):=rc rfl (D k) (by kernel_rfl) Tryz.func79 (by kernel_rfl) rfl fun ⟨a0,_⟩ r h=>(eq k a0).trans h
end b_
namespace jq
def C (k:Nat):Cn:=⟨[.val aC,.val a_],[aC,a_,(.int .i64)],false,true,fun x=>f k x.1 x.2.1⟩
def D (k:Nat):List Ce:=[q (b_.ctr k),q (bx.ctr k),q (aP.ctr k),q (aS.ctr k),q (d7.ctr k),q (dT.ctr k),q (bR.ctr k)]
def E (k:Nat):cC:=en (D k) [] 0 [] k
theorem eq (k:Nat) (a0:Ty.den aC) (a1:Ty.den a_):rn (E k) Tryz.f120 (C k) (a0,a1,())=f k a0 a1:=by kernel_rfl
theorem ctr (k:Nat):Cp 120 (C k):=rc rfl (D k) (by kernel_rfl) Tryz.func120 (by kernel_rfl) rfl fun ⟨a0,a1,_⟩ r h=>(eq k a0 a1).trans h
end jq
namespace jr
def C (k:Nat):Cn:=⟨[.val aC,.val a_,.val am],[aC,a_,aL,(.int .i64)],false,true,fun x=>f k x.1 x.2.1 x.2.2.1⟩
def D (k:Nat):List Ce:=[q (bd.ctr k),q (eP.ctr k),q (jq.ctr k),q (b_.ctr k),q (bS.ctr k),q (aP.ctr k)]
def E (k:Nat):cC:=en (D k) [] 0 [] k
theorem eq (k:Nat) (a0:Ty.den aC) (a1:Ty.den a_) (a2:Ty.den am):rn (E k) Tryz.f75 (C k) (a0,a1,a2,())=f k a0 a1 a2:=by kernel_rfl
theorem ctr (k:Nat):Cp 75 (C k):=rc rfl (D k) (by kernel_rfl) Tryz.func75 (by kernel_rfl) rfl fun ⟨a0,a1,a2,_⟩ r h=>(eq k a0 a1 a2).trans h
end jr
namespace eo
def C (k:Nat):Cn:=⟨[.val aC,.val a_,.val (.slice af)],[aC,a_,(.int .i64)],false,true,fun x=>f k x.1 x.2.1 x.2.2.1⟩
def D (k:Nat):List Ce:=[q (jr.ctr k),q (fm.ctr k),q (fu.ctr k),q (b_.ctr k),q (bx.ctr k),q (aP.ctr k)]
def E (k:Nat):cC:=en (D k) [(6,[2,3,4,6,7,9,10,11,12])] 0 [] k
section
variable (k:Nat) (a0:Ty.den aC) (a1:Ty.den a_) (a2:List (Ty.den af))
def K0:Ex→St→Rs:=cF (E k) (eK (E k) Tryz.f32 (C k) (a0,a1,a2,())) [.blk 0,.code (at_ (bt 6 63) (body Tryz.f32))]
def V0 (n0:Nat):T0:=fun x0 x1 x2 x3 x4 x5 x6 x7 x8 x9 x10 x11 x12 x13 x14 x15 x16 x17 x18 x19 x20 x21 x22 x23 x24=>ak (bf (E k) (at_ (bt 9 95) (body Tryz.f32))) (ai 0 [2,3,4,6,7,9,10,11,12]) (K0 k a0 a1 a2) n0 (mk 111 9 [(2,.sl true af x0),(3,.ptr 0 0 0),(4,.ptr 1 0 0),(6,.ptr 2 0 0),(7,.ptr 5 0 0),(9,.int .i64 x1),(10,.ref 7),(11,.ref 8),(12,.int .i64 x2)] [(0,.box [.int .i64 x3,.sl true (.int .i64) x4,.sl true aA x5,.int .i64 x6,.int .i64 x7,.int .i64 x8]),(1,.box [.sl true aD x9,.int .i64 x10,.int .i64 x11,.bool x12]),(3,.own false (.int .i64) x13),(4,.own false aA x14),(2,.box [.int .i64 x15,.ref 3,.ref 4,.int .i64 x16,.int .i64 x17,.int .i64 x18]),(6,.own false aD x19),(5,.box [.ref 6,.int .i64 x20,.int .i64 x21,.bool x22]),(7,.own false am x23),(8,.own false aA x24)])
theorem s0 (n0:Nat):V0 k a0 a1 a2 (n0+1)=b0 k (V0 k a0 a1 a2 n0):=by kernel_rfl
theorem e0:V0 k a0 a1 a2=l0 k:=aW rfl (s0 k a0 a1 a2) fun _=>rfl
end
theorem eq (k:Nat) (a0:Ty.den aC) (a1:Ty.den a_) (a2:List (Ty.den af)):rn (E k) Tryz.f32 (C k) (a0,a1,a2,())=f k a0 a1 a2:=(show _=t k (V0 k a0 a1 a2 k) a0 a1 a2 by kernel_rfl).trans (by rw [e0];rfl)
theorem ctr (k:Nat):Cp 32 (C k):=rc rfl (D k) (by kernel_rfl) Tryz.func32 (by kernel_rfl) rfl fun ⟨a0,a1,a2,_⟩ r h=>(eq k a0 a1 a2).trans h
end eo
namespace jS
def C (k:Nat):Cn:=⟨[.val aC,.val a_,.val (.slice af)],[aC,a_,(.int .i64)],false,true,fun x=>f k x.1 x.2.1 x.2.2.1⟩
def D (k:Nat):List Ce:=[q (dy.ctr k),q (bv.ctr k),q (bF.ctr k),q (di.ctr k),q (cG.ctr k),q (eo.ctr k)]
def E (k:Nat):cC:=en (D k) [] 0 [] k
theorem eq (k:Nat) (a0:Ty.den aC) (a1:Ty.den a_) (a2:List (Ty.den af)):rn (E k) Tryz.f7 (C k) (a0,a1,a2,())=f k a0 a1 a2:=by kernel_rfl
theorem ctr (k:Nat):Cp 7 (C k):=rc rfl (D k) (by kernel_rfl) Tryz.func7 (by kernel_rfl) rfl fun ⟨a0,a1,a2,_⟩ r h=>(eq k a0 a1 a2).trans h
end jS
namespace fJ
def C (k:Nat):Cn:=⟨[.give aC,.give a_],[aC,a_,(.int .i64)],true,false,fun x=>f k x.1 x.2.1⟩
def D (k:Nat):List Ce:=[q (b_.ctr k),q (bx.ctr k),q (aP.ctr k),q (aS.ctr k),q (d7.ctr k),q (dT.ctr k),q (bR.ctr k)]
def E (k:Nat):cC:=en (D k) [] 0 [] k
theorem eq (k:Nat) (a0:Ty.den aC) (a1:Ty.den a_):rn (E k) Tryz.f120 (C k) (a0,a1,())=f k a0 a1:=by kernel_rfl
theorem ctr (k:Nat):Cp 120 (C k):=rc rfl (D k) (by kernel_rfl) Tryz.func120 (by kernel_rfl) rfl fun ⟨a0,a1,_⟩ r h=>(eq k a0 a1).trans h
end fJ
namespace eC
def C (k:Nat):Cn:=⟨[.give aC,.give a_,.val am],[aC,a_,aL,(.int .i64)],true,false,fun x=>f k x.1 x.2.1 x.2.2.1⟩
def D (k:Nat):List Ce:=[q (bd.ctr k),q (eP.ctr k),q (fJ.ctr k),q (b_.ctr k),q (bS.ctr k),q (aP.ctr k)]
def E (k:Nat):cC:=en (D k) [] 0 [] k
theorem eq (k:Nat) (a0:Ty.den aC) (a1:Ty.den a_) (a2:Ty.den am):rn (E k) Tryz.f75 (C k) (a0,a1,a2,())=f k a0 a1 a2:=by kernel_rfl
theorem ctr (k:Nat):Cp 75 (C k):=rc rfl (D k) (by kernel_rfl) Tryz.func75 (by kernel_rfl) rfl fun ⟨a0,a1,a2,_⟩ r h=>(eq k a0 a1 a2).trans h
end eC
namespace bB
def C (k:Nat):Cn:=⟨[.give aC,.give a_,.give (.slice af)],[aC,a_,(.int .i64)],true,false,fun x=>f k x.1 x.2.1 x.2.2.1⟩
def D (k:Nat):List Ce:=[q (eC.ctr k),q (fm.ctr k),q (fu.ctr k),q (b_.ctr k),q (bx.ctr k),q (aP.ctr k)]
def E (k:Nat):cC:=en (D k) [(6,[2,3,4,6,7,9,10,11,12])] 0 [] k
section
variable (k:Nat) (a0:Ty.den aC) (a1:Ty.den a_) (a2:List (Ty.den af))
def K0:Ex→St→Rs:=cF (E k) (eK (E k) Tryz.f32 (C k) (a0,a1,a2,())) [.blk 0,.code (at_ (bt 6 63) (body Tryz.f32))]
def V0 (n0:Nat):T0:=fun x0 x1 x2 x3 x4 x5 x6 x7 x8 x9 x10 x11 x12 x13 x14 x15 x16 x17 x18 x19 x20 x21 x22 x23 x24=>ak (bf (E k) (at_ (bt 9 95) (body Tryz.f32))) (ai 0 [2,3,4,6,7,9,10,11,12]) (K0 k a0 a1 a2) n0 (mk 111 13 [(2,.ref 0),(3,.ptr 1 0 0),(4,.ptr 4 0 0),(6,.ptr 6 0 0),(7,.ptr 9 0 0),(9,.int .i64 x0),(10,.ref 11),(11,.ref 12),(12,.int .i64 x1)] [(0,.own false af x2),(2,.own false (.int .i64) x3),(3,.own false aA x4),(1,.box [.int .i64 x5,.ref 2,.ref 3,.int .i64 x6,.int .i64 x7,.int .i64 x8]),(5,.own false aD x9),(4,.box [.ref 5,.int .i64 x10,.int .i64 x11,.bool x12]),(7,.own false (.int .i64) x13),(8,.own false aA x14),(6,.box [.int .i64 x15,.ref 7,.ref 8,.int .i64 x16,.int .i64 x17,.int .i64 x18]),(10,.own false aD x19),(9,.box [.ref 10,.int .i64 x20,.int .i64 x21,.bool x22]),(11,.own false am x23),(12,.own false aA x24)])
theorem s0 (n0:Nat):V0 k a0 a1 a2 (n0+1)=b0 k (V0 k a0 a1 a2 n0):=by kernel_rfl
theorem e0:V0 k a0 a1 a2=l0 k:=aW rfl (s0 k a0 a1 a2) fun _=>rfl
end
theorem eq (k:Nat) (a0:Ty.den aC) (a1:Ty.den a_) (a2:List (Ty.den af)):rn (E k) Tryz.f32 (C k) (a0,a1,a2,())=f k a0 a1 a2:=(show _=t k (V0 k a0 a1 a2 k) a0 a1 a2 by kernel_rfl).trans (by rw [e0];rfl)
theorem ctr (k:Nat):Cp 32 (C k):=rc rfl (D k) (by kernel_rfl) Tryz.func32 (by kernel_rfl) rfl fun ⟨a0,a1,a2,_⟩ r h=>(eq k a0 a1 a2).trans h
end bB
namespace gi
def C (k:Nat):Cn:=⟨[.val aC,.val a_,.give (.slice af)],[aC,a_,(.int .i64)],true,false,fun x=>f k x.1 x.2.1 x.2.2.1⟩
def D (k:Nat):List Ce:=[q (dy.ctr k),q (bv.ctr k),q (bF.ctr k),q (di.ctr k),q (cG.ctr k),q (bB.ctr k)]
def E (k:Nat):cC:=en (D k) [] 0 [] k
theorem eq (k:Nat) (a0:Ty.den aC) (a1:Ty.den a_) (a2:List (Ty.den af)):rn (E k) Tryz.f7 (C k) (a0,a1,a2,())=f k a0 a1 a2:=by kernel_rfl
theorem ctr (k:Nat):Cp 7 (C k):=rc rfl (D k) (by kernel_rfl) Tryz.func7 (by kernel_rfl) rfl fun ⟨a0,a1,a2,_⟩ r h=>(eq k a0 a1 a2).trans h
end gi
namespace eJ
def C (k:Nat):Cn:=⟨[.io false ap],[aC,a_],true,true,fun x=>f k x.1⟩
def D (k:Nat):List Ce:=[q (cO.ctr k),q (fE.ctr k),q (ax.ctr k),q (aV.ctr k),q (g7.ctr k),q (k7.ctr k),q (dx.ctr k),q (gi.ctr k)]
def E (k:Nat):cC:=en (D k) [(3,[0,2,3,4,5,7])] 1 [] k
section
variable (k:Nat) (a0:Ty.den ap)
def K0:Ex→St→Rs:=cF (E k) (eK (E k) Tryz.f50 (C k) (a0,())) [.blk 0,.code (at_ (bt 3 7) (body Tryz.f50))]
def V0 (n0:Nat):T0:=fun x0 x1 x2 x3 x4 x5 x6 x7 x8 x9 x10 x11 x12 x13 x14 x15 x16 x17 x18 x19 x20 x21 x22 x23=>ak (bf (E k) (at_ (bt 6 11) (body Tryz.f50))) (ai 1 [0,2,3,4,5,7]) (K0 k a0) n0 (mk 60 11 [(0,.ptr 0 0 0),(2,.ptr 1 0 0),(3,.ptr 4 0 0),(4,.ptr 6 0 0),(5,.ptr 9 0 0),(7,.int .i64 x0)] [(0,.box [.sl true (.int .u8) x1,.int .i64 x2,.int .i64 x3]),(2,.own false (.int .i64) x4),(3,.own false aA x5),(1,.box [.int .i64 x6,.ref 2,.ref 3,.int .i64 x7,.int .i64 x8,.int .i64 x9]),(5,.own false aD x10),(4,.box [.ref 5,.int .i64 x11,.int .i64 x12,.bool x13]),(7,.own false (.int .i64) x14),(8,.own false aA x15),(6,.box [.int .i64 x16,.ref 7,.ref 8,.int .i64 x17,.int .i64 x18,.int .i64 x19]),(10,.own false aD x20),(9,.box [.ref 10,.int .i64 x21,.int .i64 x22,.bool x23])])
theorem s0 (n0:Nat):V0 k a0 (n0+1)=b0 k (V0 k a0 n0):=by kernel_rfl
theorem e0:V0 k a0=l0 k:=aW rfl (s0 k a0) fun _=>rfl
end
theorem eq (k:Nat) (a0:Ty.den ap):rn (E k) Tryz.f50 (C k) (a0,())=f k a0:=(show _=t k (V0 k a0 k) a0 by kernel_rfl).trans (by rw [e0];rfl)
theorem ctr (k:Nat):Cp 50 (C k):=rc rfl (D k) (by kernel_rfl) Tryz.func50 (by kernel_rfl) rfl fun ⟨a0,_⟩ r h=>(eq k a0).trans h
end eJ
namespace ii
def C (k:Nat):Cn:=⟨[.io false ap],[aA],true,true,fun x=>f k x.1⟩
def D (k:Nat):List Ce:=[q (il.ctr k),q (aV.ctr k)]
def E (k:Nat):cC:=en (D k) [] 1 [] k
theorem eq (k:Nat) (a0:Ty.den ap):rn (E k) Tryz.f102 (C k) (a0,())=f k a0:=by kernel_rfl
theorem ctr (k:Nat):Cp 102 (C k):=rc rfl (D k) (by kernel_rfl) Tryz.func102 (by kernel_rfl) rfl fun ⟨a0,_⟩ r h=>(eq k a0).trans h
end ii
namespace gU
def C (k:Nat):Cn:=⟨[.io false ap],[(.slice aA)],true,true,fun x=>f k x.1⟩
def D (k:Nat):List Ce:=[q (aV.ctr k),q (ii.ctr k),q (bZ.ctr k),q (g7.ctr k),q (eO.ctr k),q (cO.ctr k)]
def E (k:Nat):cC:=en (D k) [(3,[0,3,4])] 1 [] k
section
variable (k:Nat) (a0:Ty.den ap)
def K0:Ex→St→Rs:=cF (E k) (eK (E k) Tryz.f52 (C k) (a0,())) [.blk 0,.code (at_ (bt 3 7) (body Tryz.f52))]
def V0 (n0:Nat):T0:=fun x0 x1 x2 x3 x4=>ak (bf (E k) (at_ (bt 6 11) (body Tryz.f52))) (ai 1 [0,3,4]) (K0 k a0) n0 (mk 62 2 [(0,.ptr 0 0 0),(3,.ref 1),(4,.int .i64 x0)] [(0,.box [.sl true (.int .u8) x1,.int .i64 x2,.int .i64 x3]),(1,.own false aA x4)])
theorem s0 (n0:Nat):V0 k a0 (n0+1)=b0 k (V0 k a0 n0):=by kernel_rfl
theorem e0:V0 k a0=l0 k:=aW rfl (s0 k a0) fun _=>rfl
end
theorem eq (k:Nat) (a0:Ty.den ap):rn (E k) Tryz.f52 (C k) (a0,())=f k a0:=(show _=t k (V0 k a0 k) a0 by kernel_rfl).trans (by rw [e0];rfl)
theorem ctr (k:Nat):Cp 52 (C k):=rc rfl (D k) (by kernel_rfl) Tryz.func52 (by kernel_rfl) rfl fun ⟨a0,_⟩ r h=>(eq k a0).trans h
end gU
namespace g9
def C (k:Nat):Cn:=⟨[.io false ap],[.str],true,true,fun x=>f k x.1⟩
def D (k:Nat):List Ce:=[q (eO.ctr k)]
def E (k:Nat):cC:=en (D k) [] 1 [] k
theorem eq (k:Nat) (a0:Ty.den ap):rn (E k) Tryz.f136 (C k) (a0,())=f k a0:=by kernel_rfl
theorem ctr (k:Nat):Cp 136 (C k):=rc rfl (D k) (by kernel_rfl) Tryz.func136 (by kernel_rfl) rfl fun ⟨a0,_⟩ r h=>(eq k a0).trans h
end g9
namespace dp
def C (k:Nat):Cn:=⟨[.io false ap],[a_],true,true,fun x=>f k x.1⟩
def D (k:Nat):List Ce:=[q (fE.ctr k),q (aV.ctr k),q (g9.ctr k),q (eg.ctr k),q (dI.ctr k),q (bS.ctr k),q (bx.ctr k),q (fL.ctr k)]
def E (k:Nat):cC:=en (D k) [(3,[0,2,3,4])] 1 [] k
section
variable (k:Nat) (a0:Ty.den ap)
def K0:Ex→St→Rs:=cF (E k) (eK (E k) Tryz.f103 (C k) (a0,())) [.blk 0,.code (at_ (bt 3 7) (body Tryz.f103))]
def V0 (n0:Nat):T0:=fun x0 x1 x2 x3 x4 x5 x6 x7 x8 x9 x10 x11=>ak (bf (E k) (at_ (bt 6 11) (body Tryz.f103))) (ai 1 [0,2,3,4]) (K0 k a0) n0 (mk 57 5 [(0,.ptr 0 0 0),(2,.ptr 1 0 0),(3,.ptr 3 0 0),(4,.int .i64 x0)] [(0,.box [.sl true (.int .u8) x1,.int .i64 x2,.int .i64 x3]),(2,.own false aD x4),(1,.box [.ref 2,.int .i64 x5,.int .i64 x6,.bool x7]),(4,.own false aD x8),(3,.box [.ref 4,.int .i64 x9,.int .i64 x10,.bool x11])])
theorem s0 (n0:Nat):V0 k a0 (n0+1)=b0 k (V0 k a0 n0):=by kernel_rfl
theorem e0:V0 k a0=l0 k:=aW rfl (s0 k a0) fun _=>rfl
end
theorem eq (k:Nat) (a0:Ty.den ap):rn (E k) Tryz.f103 (C k) (a0,())=f k a0:=(show _=t k (V0 k a0 k) a0 by kernel_rfl).trans (by rw [e0];rfl)
theorem ctr (k:Nat):Cp 103 (C k):=rc rfl (D k) (by kernel_rfl) Tryz.func103 (by kernel_rfl) rfl fun ⟨a0,_⟩ r h=>(eq k a0).trans h
end dp
namespace gT
def C (k:Nat):Cn:=⟨[.io false ap],[a_],true,true,fun x=>f k x.1⟩
def D (k:Nat):List Ce:=[q (dp.ctr k),q (aV.ctr k),q (cO.ctr k),q (dQ.ctr k),q (eO.ctr k),q (dA.ctr k)]
def E (k:Nat):cC:=en (D k) [(17,[0,2,3,4])] 1 [] k
section
variable (k:Nat) (a0:Ty.den ap)
def K0:Ex→St→Rs:=cF (E k) (eK (E k) Tryz.f54 (C k) (a0,())) [.blk 1,.blk 0,.code (at_ (bt 3 7) (body Tryz.f54))]
def V0 (n0:Nat):T0:=fun x0 x1 x2 x3 x4 x5 x6 x7 x8 x9 x10 x11=>ak (bf (E k) (at_ (bt 20 196587) (body Tryz.f54))) (ai 1 [0,2,3,4]) (K0 k a0) n0 (mk 81 5 [(0,.ptr 0 0 0),(2,.ptr 1 0 0),(3,.ptr 3 0 0),(4,.int .i64 x0)] [(0,.box [.sl true (.int .u8) x1,.int .i64 x2,.int .i64 x3]),(2,.own false aD x4),(1,.box [.ref 2,.int .i64 x5,.int .i64 x6,.bool x7]),(4,.own false aD x8),(3,.box [.ref 4,.int .i64 x9,.int .i64 x10,.bool x11])])
theorem s0 (n0:Nat):V0 k a0 (n0+1)=b0 k (V0 k a0 n0):=by kernel_rfl
theorem e0:V0 k a0=l0 k:=aW rfl (s0 k a0) fun _=>rfl
end
theorem eq (k:Nat) (a0:Ty.den ap):rn (E k) Tryz.f54 (C k) (a0,())=f k a0:=(show _=t k (V0 k a0 k) a0 by kernel_rfl).trans (by rw [e0];rfl)
theorem ctr (k:Nat):Cp 54 (C k):=rc rfl (D k) (by kernel_rfl) Tryz.func54 (by kernel_rfl) rfl fun ⟨a0,_⟩ r h=>(eq k a0).trans h
end gT
namespace jR
def C (k:Nat):Cn:=⟨[.io false ap],[aC,a_],true,true,fun x=>f k x.1⟩
def D (k:Nat):List Ce:=[q (eJ.ctr k),q (aV.ctr k),q (gU.ctr k),q (cO.ctr k),q (gT.ctr k)]
def E (k:Nat):cC:=en (D k) [] 1 [] k
theorem eq (k:Nat) (a0:Ty.den ap):rn (E k) Tryz.f20 (C k) (a0,())=f k a0:=by kernel_rfl
theorem ctr (k:Nat):Cp 20 (C k):=rc rfl (D k) (by kernel_rfl) Tryz.func20 (by kernel_rfl) rfl fun ⟨a0,_⟩ r h=>(eq k a0).trans h
end jR
namespace dE
def C (k:Nat):Cn:=⟨[.io false ap],[(.slice af)],true,true,fun x=>f k x.1⟩
def D (k:Nat):List Ce:=[q (dx.ctr k),q (aV.ctr k),q (eO.ctr k),q (dA.ctr k)]
def E (k:Nat):cC:=en (D k) [(6,[0,3])] 1 [] k
section
variable (k:Nat) (a0:Ty.den ap)
def K0:Ex→St→Rs:=cF (E k) (eK (E k) Tryz.f21 (C k) (a0,())) [.blk 1,.blk 0,.code (at_ (bt 3 7) (body Tryz.f21))]
def V0 (n0:Nat):T0:=fun x0 x1 x2 x3=>ak (bf (E k) (at_ (bt 11 235) (body Tryz.f21))) (ai 1 [0,3]) (K0 k a0) n0 (mk 40 2 [(0,.ptr 0 0 0),(3,.ref 1)] [(0,.box [.sl true (.int .u8) x0,.int .i64 x1,.int .i64 x2]),(1,.own false af x3)])
theorem s0 (n0:Nat):V0 k a0 (n0+1)=b0 k (V0 k a0 n0):=by kernel_rfl
theorem e0:V0 k a0=l0 k:=aW rfl (s0 k a0) fun _=>rfl
end
theorem eq (k:Nat) (a0:Ty.den ap):rn (E k) Tryz.f21 (C k) (a0,())=f k a0:=(show _=t k (V0 k a0 k) a0 by kernel_rfl).trans (by rw [e0];rfl)
theorem ctr (k:Nat):Cp 21 (C k):=rc rfl (D k) (by kernel_rfl) Tryz.func21 (by kernel_rfl) rfl fun ⟨a0,_⟩ r h=>(eq k a0).trans h
end dE
namespace gL
def C (k:Nat):Cn:=⟨[.val (.slice (.int .u8))],[aC,a_,(.slice af)],true,false,fun x=>f k x.1⟩
def D (k:Nat):List Ce:=[q (gD.ctr k),q (jR.ctr k),q (dE.ctr k)]
def E (k:Nat):cC:=en (D k) [] 0 [] k
theorem eq (k:Nat) (a0:List Int):rn (E k) Tryz.f5 (C k) (a0,())=f k a0:=by kernel_rfl
theorem ctr (k:Nat):Cp 5 (C k):=rc rfl (D k) (by kernel_rfl) Tryz.func5 (by kernel_rfl) rfl fun ⟨a0,_⟩ r h=>(eq k a0).trans h
end gL
namespace f_
def C (k:Nat):Cn:=⟨[.val bj],[bj],true,false,fun x=>f k x.1⟩
def E (k:Nat):cC:=en [] [] 0 [] k
theorem eq (k:Nat) (a0:Ty.den bj):rn (E k) Tryz.f58 (C k) (a0,())=f k a0:=by kernel_rfl
theorem ctr (k:Nat):Cp 58 (C k):=rc rfl [] (by kernel_rfl) Tryz.func58 (by kernel_rfl) rfl fun ⟨a0,_⟩ r h=>(eq k a0).trans h
end f_
namespace fD
def C (k:Nat):Cn:=⟨[.val (.slice aA)],[(.slice aA)],true,false,fun x=>f k x.1⟩
def E (k:Nat):cC:=en [] [] 0 [] k
theorem eq (k:Nat) (a0:List (Ty.den aA)):rn (E k) Tryz.f59 (C k) (a0,())=f k a0:=by kernel_rfl
theorem ctr (k:Nat):Cp 59 (C k):=rc rfl [] (by kernel_rfl) Tryz.func59 (by kernel_rfl) rfl fun ⟨a0,_⟩ r h=>(eq k a0).trans h
end fD
namespace gp
def C (k:Nat):Cn:=⟨[.val aC],[aC],true,false,fun x=>f k x.1⟩
def D (k:Nat):List Ce:=[q (f_.ctr k),q (fD.ctr k)]
def E (k:Nat):cC:=en (D k) [] 0 [] k
theorem eq (k:Nat) (a0:Ty.den aC):rn (E k) Tryz.f22 (C k) (a0,())=f k a0:=by kernel_rfl
theorem ctr (k:Nat):Cp 22 (C k):=rc rfl (D k) (by kernel_rfl) Tryz.func22 (by kernel_rfl) rfl fun ⟨a0,_⟩ r h=>(eq k a0).trans h
end gp
namespace cH
def C (k:Nat):Cn:=⟨[.val a_],[a_],true,false,fun x=>f k x.1⟩
def E (k:Nat):cC:=en [] [] 0 [] k
theorem eq (k:Nat) (a0:Ty.den a_):rn (E k) Tryz.f23 (C k) (a0,())=f k a0:=by kernel_rfl
theorem ctr (k:Nat):Cp 23 (C k):=rc rfl [] (by kernel_rfl) Tryz.func23 (by kernel_rfl) rfl fun ⟨a0,_⟩ r h=>(eq k a0).trans h
end cH
namespace ay
def C (k:Nat):Cn:=⟨[.val (.int .i64),.val (.int .i64),.val (.int .i64)],[.bool],true,false,fun x=>f k x.1 x.2.1 x.2.2.1⟩
def E (k:Nat):cC:=en [] [] 0 [] k
theorem eq (k:Nat) (a0:Int) (a1:Int) (a2:Int):rn (E k) Tryz.f45 (C k) (a0,a1,a2,())=f k a0 a1 a2:=by kernel_rfl
theorem ctr (k:Nat):Cp 45 (C k):=rc rfl [] (by kernel_rfl) Tryz.func45 (by kernel_rfl) rfl fun ⟨a0,a1,a2,_⟩ r h=>(eq k a0 a1 a2).trans h
end ay
namespace dk
def C (k:Nat):Cn:=⟨[.val .str],[.bool],true,false,fun x=>f k x.1⟩
def D (k:Nat):List Ce:=[q (ay.ctr k)]
def E (k:Nat):cC:=en (D k) [(2,[0,3])] 0 [] k
section
variable (k:Nat) (a0:ByteArray)
def K0:Ex→St→Rs:=cF (E k) (eK (E k) Tryz.f106 (C k) (a0,())) [.blk 0,.code (at_ (bt 2 3) (body Tryz.f106))]
def V0 (n0:Nat):T0:=fun x0 x1=>ak (bf (E k) (at_ (bt 5 5) (body Tryz.f106))) (ai 0 [0,3]) (K0 k a0) n0 (mk 37 0 [(0,.str x0),(3,.int .i64 x1)] [])
theorem s0 (n0:Nat):V0 k a0 (n0+1)=b0 k (V0 k a0 n0):=by kernel_rfl
theorem e0:V0 k a0=l0 k:=aW rfl (s0 k a0) fun _=>rfl
end
theorem eq (k:Nat) (a0:ByteArray):rn (E k) Tryz.f106 (C k) (a0,())=f k a0:=(show _=t k (V0 k a0 k) a0 by kernel_rfl).trans (by rw [e0];rfl)
theorem ctr (k:Nat):Cp 106 (C k):=rc rfl (D k) (by kernel_rfl) Tryz.func106 (by kernel_rfl) rfl fun ⟨a0,_⟩ r h=>(eq k a0).trans h
end dk
namespace bV
def C (k:Nat):Cn:=⟨[.val a_],[.bool],true,false,fun x=>f k x.1⟩
def D (k:Nat):List Ce:=[q (ay.ctr k),q (dk.ctr k)]
def E (k:Nat):cC:=en (D k) [(5,[1,3,23,24,25])] 0 [] k
section
variable (k:Nat) (a0:Ty.den a_)
def K0:Ex→St→Rs:=cF (E k) (eK (E k) Tryz.f60 (C k) (a0,())) [.blk 0,.code (at_ (bt 4 15) (body Tryz.f60))]
def V0 (n0:Nat):T0:=fun x0 x1 x2 x3 x4 x5 x6 x7=>ak (bf (E k) (at_ (bt 7 23) (body Tryz.f60))) (ai 0 [1,3,23,24,25]) (K0 k a0) n0 (mk 69 1 [(1,.ptr 0 0 0),(3,.int .i64 x0),(23,.sl true aD x1),(24,.int .i64 x2),(25,.int .i64 x3)] [(0,.box [.sl true aD x4,.int .i64 x5,.int .i64 x6,.bool x7])])
theorem s0 (n0:Nat):V0 k a0 (n0+1)=b0 k (V0 k a0 n0):=by kernel_rfl
theorem e0:V0 k a0=l0 k:=aW rfl (s0 k a0) fun _=>rfl
end
theorem eq (k:Nat) (a0:Ty.den a_):rn (E k) Tryz.f60 (C k) (a0,())=f k a0:=(show _=t k (V0 k a0 k) a0 by kernel_rfl).trans (by rw [e0];rfl)
theorem ctr (k:Nat):Cp 60 (C k):=rc rfl (D k) (by kernel_rfl) Tryz.func60 (by kernel_rfl) rfl fun ⟨a0,_⟩ r h=>(eq k a0).trans h
end bV
namespace dr
def C (k:Nat):Cn:=⟨[.val bj],[.bool],true,false,fun x=>f k x.1⟩
def D (k:Nat):List Ce:=[q (ay.ctr k)]
def E (k:Nat):cC:=en (D k) [(2,[1,6,7,8])] 0 [] k
section
variable (k:Nat) (a0:Ty.den bj)
def K0:Ex→St→Rs:=cF (E k) (eK (E k) Tryz.f61 (C k) (a0,())) [.blk 0,.code (at_ (bt 2 3) (body Tryz.f61))]
def V0 (n0:Nat):T0:=fun x0 x1 x2 x3 x4=>ak (bf (E k) (at_ (bt 5 5) (body Tryz.f61))) (ai 0 [1,6,7,8]) (K0 k a0) n0 (mk 43 1 [(1,.ptr 0 0 0),(6,.sl true (.int .i64) x0),(7,.int .i64 x1),(8,.int .i64 x2)] [(0,.box [.int .i64 x3,.sl true (.int .i64) x4])])
theorem s0 (n0:Nat):V0 k a0 (n0+1)=b0 k (V0 k a0 n0):=by kernel_rfl
theorem e0:V0 k a0=l0 k:=aW rfl (s0 k a0) fun _=>rfl
end
theorem eq (k:Nat) (a0:Ty.den bj):rn (E k) Tryz.f61 (C k) (a0,())=f k a0:=(show _=t k (V0 k a0 k) a0 by kernel_rfl).trans (by rw [e0];rfl)
theorem ctr (k:Nat):Cp 61 (C k):=rc rfl (D k) (by kernel_rfl) Tryz.func61 (by kernel_rfl) rfl fun ⟨a0,_⟩ r h=>(eq k a0).trans h
end dr
namespace fk
def C (k:Nat):Cn:=⟨[.val .str],[.bool],true,false,fun x=>f k x.1⟩
def D (k:Nat):List Ce:=[q (ay.ctr k)]
def E (k:Nat):cC:=en (D k) [] 0 [] k
theorem eq (k:Nat) (a0:ByteArray):rn (E k) Tryz.f107 (C k) (a0,())=f k a0:=by kernel_rfl
theorem ctr (k:Nat):Cp 107 (C k):=rc rfl (D k) (by kernel_rfl) Tryz.func107 (by kernel_rfl) rfl fun ⟨a0,_⟩ r h=>(eq k a0).trans h
end fk
namespace fj
def C (k:Nat):Cn:=⟨[.val (.slice aA)],[.bool],true,false,fun x=>f k x.1⟩
def D (k:Nat):List Ce:=[q (fk.ctr k),q (ay.ctr k)]
def E (k:Nat):cC:=en (D k) [(2,[0,5,6,7])] 0 [] k
section
variable (k:Nat) (a0:List (Ty.den aA))
def K0:Ex→St→Rs:=cF (E k) (eK (E k) Tryz.f62 (C k) (a0,())) [.blk 0,.code (at_ (bt 2 3) (body Tryz.f62))]
def V0 (n0:Nat):T0:=fun x0 x1 x2 x3=>ak (bf (E k) (at_ (bt 5 5) (body Tryz.f62))) (ai 0 [0,5,6,7]) (K0 k a0) n0 (mk 58 0 [(0,.sl true aA x0),(5,.sl true aA x1),(6,.int .i64 x2),(7,.int .i64 x3)] [])
theorem s0 (n0:Nat):V0 k a0 (n0+1)=b0 k (V0 k a0 n0):=by kernel_rfl
theorem e0:V0 k a0=l0 k:=aW rfl (s0 k a0) fun _=>rfl
end
theorem eq (k:Nat) (a0:List (Ty.den aA)):rn (E k) Tryz.f62 (C k) (a0,())=f k a0:=(show _=t k (V0 k a0 k) a0 by kernel_rfl).trans (by rw [e0];rfl)
theorem ctr (k:Nat):Cp 62 (C k):=rc rfl (D k) (by kernel_rfl) Tryz.func62 (by kernel_rfl) rfl fun ⟨a0,_⟩ r h=>(eq k a0).trans h
end fj
namespace mM
def C (k:Nat):Cn:=⟨[.val (.int .i64)],[.str],true,false,fun x=>f k x.1⟩
def D (k:Nat):List Ce:=[q (mN.ctr k)]
def E (k:Nat):cC:=en (D k) [] 0 [] k
theorem eq (k:Nat) (a0:Int):rn (E k) Tryz.f139 (C k) (a0,())=f k a0:=by kernel_rfl
theorem ctr (k:Nat):Cp 139 (C k):=rc rfl (D k) (by kernel_rfl) Tryz.func139 (by kernel_rfl) rfl fun ⟨a0,_⟩ r h=>(eq k a0).trans h
end mM
namespace ju
def C (k:Nat):Cn:=⟨[.val .str,.val (.int .i64)],[.str],true,false,fun x=>f k x.1 x.2.1⟩
def D (k:Nat):List Ce:=[q (ay.ctr k),q (mM.ctr k)]
def E (k:Nat):cC:=en (D k) [] 0 [] k
theorem eq (k:Nat) (a0:ByteArray) (a1:Int):rn (E k) Tryz.f109 (C k) (a0,a1,())=f k a0 a1:=by kernel_rfl
theorem ctr (k:Nat):Cp 109 (C k):=rc rfl (D k) (by kernel_rfl) Tryz.func109 (by kernel_rfl) rfl fun ⟨a0,a1,_⟩ r h=>(eq k a0 a1).trans h
end ju
namespace dS
def C (k:Nat):Cn:=⟨[.val (.int .i64)],[.str],true,false,fun x=>f k x.1⟩
def D (k:Nat):List Ce:=[q (ju.ctr k)]
def E (k:Nat):cC:=en (D k) [] 0 [] k
theorem eq (k:Nat) (a0:Int):rn (E k) Tryz.f64 (C k) (a0,())=f k a0:=by kernel_rfl
theorem ctr (k:Nat):Cp 64 (C k):=rc rfl (D k) (by kernel_rfl) Tryz.func64 (by kernel_rfl) rfl fun ⟨a0,_⟩ r h=>(eq k a0).trans h
end dS
namespace bT
def C (k:Nat):Cn:=⟨[.val a_,.val .str],[(.int .i64)],true,false,fun x=>f k x.1 x.2.1⟩
def E (k:Nat):cC:=en [] [(2,[1,8,9,10])] 0 [] k
section
variable (k:Nat) (a0:Ty.den a_) (a1:ByteArray)
def K0:Ex→St→Rs:=cF (E k) (eK (E k) Tryz.f108 (C k) (a0,a1,())) [.blk 0,.code (at_ (bt 2 3) (body Tryz.f108))]
def V0 (n0:Nat):T0:=fun x0 x1 x2 x3=>ak (bf (E k) (at_ (bt 5 5) (body Tryz.f108))) (ai 0 [1,8,9,10]) (K0 k a0 a1) n0 (mk 21 0 [(1,.str x0),(8,.sl true aD x1),(9,.int .i64 x2),(10,.int .i64 x3)] [])
theorem s0 (n0:Nat):V0 k a0 a1 (n0+1)=b0 k (V0 k a0 a1 n0):=by kernel_rfl
theorem e0:V0 k a0 a1=l0 k:=aW rfl (s0 k a0 a1) fun _=>rfl
end
theorem eq (k:Nat) (a0:Ty.den a_) (a1:ByteArray):rn (E k) Tryz.f108 (C k) (a0,a1,())=f k a0 a1:=(show _=t k (V0 k a0 a1 k) a0 a1 by kernel_rfl).trans (by rw [e0];rfl)
theorem ctr (k:Nat):Cp 108 (C k):=rc rfl [] (by kernel_rfl) Tryz.func108 (by kernel_rfl) rfl fun ⟨a0,a1,_⟩ r h=>(eq k a0 a1).trans h
end bT
namespace fP
def C (k:Nat):Cn:=⟨[.val a_,.val .str],[.str,.bool],true,false,fun x=>f k x.1 x.2.1⟩
def D (k:Nat):List Ce:=[q (bT.ctr k),q (bV.ctr k)]
def E (k:Nat):cC:=en (D k) [] 0 [] k
theorem eq (k:Nat) (a0:Ty.den a_) (a1:ByteArray):rn (E k) Tryz.f63 (C k) (a0,a1,())=f k a0 a1:=by kernel_rfl
theorem ctr (k:Nat):Cp 63 (C k):=rc rfl (D k) (by kernel_rfl) Tryz.func63 (by kernel_rfl) rfl fun ⟨a0,a1,_⟩ r h=>(eq k a0 a1).trans h
end fP
namespace cV
def C (k:Nat):Cn:=⟨[.val .str],[(.int .i64),(.int .i64)],true,false,fun x=>f k x.1⟩
def E (k:Nat):cC:=en [] [(3,[0,4,5])] 0 [] k
section
variable (k:Nat) (a0:ByteArray)
def K0:Ex→St→Rs:=cF (E k) (eK (E k) Tryz.f140 (C k) (a0,())) [.blk 0,.code (at_ (bt 3 7) (body Tryz.f140))]
def V0 (n0:Nat):T0:=fun x0 x1 x2=>ak (bf (E k) (at_ (bt 6 11) (body Tryz.f140))) (ai 0 [0,4,5]) (K0 k a0) n0 (mk 39 0 [(0,.str x0),(4,.int .i64 x1),(5,.int .i64 x2)] [])
theorem s0 (n0:Nat):V0 k a0 (n0+1)=b0 k (V0 k a0 n0):=by kernel_rfl
theorem e0:V0 k a0=l0 k:=aW rfl (s0 k a0) fun _=>rfl
end
theorem eq (k:Nat) (a0:ByteArray):rn (E k) Tryz.f140 (C k) (a0,())=f k a0:=(show _=t k (V0 k a0 k) a0 by kernel_rfl).trans (by rw [e0];rfl)
theorem ctr (k:Nat):Cp 140 (C k):=rc rfl [] (by kernel_rfl) Tryz.func140 (by kernel_rfl) rfl fun ⟨a0,_⟩ r h=>(eq k a0).trans h
end cV
namespace fH
def C (k:Nat):Cn:=⟨[.val (.int .i64)],[.str],true,false,fun x=>f k x.1⟩
def D (k:Nat):List Ce:=[q (ay.ctr k)]
def E (k:Nat):cC:=en (D k) [(4,[0,3])] 0 [] k
section
variable (k:Nat) (a0:Int)
def K0:Ex→St→Rs:=cF (E k) (eK (E k) Tryz.f94 (C k) (a0,())) [.blk 0,.code (at_ (bt 4 15) (body Tryz.f94))]
def V0 (n0:Nat):T0:=fun x0 x1=>ak (bf (E k) (at_ (bt 6 7) (body Tryz.f94))) (ai 0 [0,3]) (K0 k a0) n0 (mk 24 1 [(0,.int .i64 x0),(3,.ref 0)] [(0,.own false (.int .u8) x1)])
theorem s0 (n0:Nat):V0 k a0 (n0+1)=b0 k (V0 k a0 n0):=by kernel_rfl
theorem e0:V0 k a0=l0 k:=aW rfl (s0 k a0) fun _=>rfl
end
theorem eq (k:Nat) (a0:Int):rn (E k) Tryz.f94 (C k) (a0,())=f k a0:=(show _=t k (V0 k a0 k) a0 by kernel_rfl).trans (by rw [e0];rfl)
theorem ctr (k:Nat):Cp 94 (C k):=rc rfl (D k) (by kernel_rfl) Tryz.func94 (by kernel_rfl) rfl fun ⟨a0,_⟩ r h=>(eq k a0).trans h
end fH
namespace ea
def C (k:Nat):Cn:=⟨[.val .str],[.str],true,false,fun x=>f k x.1⟩
def D (k:Nat):List Ce:=[q (fH.ctr k)]
def E (k:Nat):cC:=en (D k) [] 0 [] k
theorem eq (k:Nat) (a0:ByteArray):rn (E k) Tryz.f89 (C k) (a0,())=f k a0:=by kernel_rfl
theorem ctr (k:Nat):Cp 89 (C k):=rc rfl (D k) (by kernel_rfl) Tryz.func89 (by kernel_rfl) rfl fun ⟨a0,_⟩ r h=>(eq k a0).trans h
end ea
namespace gQ
def C (k:Nat):Cn:=⟨[.val .str],[(.int .i64)],true,false,fun x=>f k x.1⟩
def E (k:Nat):cC:=en [] [(3,[0,3,4]),(7,[0,3,4,18])] 0 [] k
section
variable (k:Nat) (a0:ByteArray)
def K0:Ex→St→Rs:=cF (E k) (eK (E k) Tryz.f91 (C k) (a0,())) [.blk 0,.code (at_ (bt 3 7) (body Tryz.f91))]
def B0 (n0:Nat):Ex→St→Rs:=KY (E k) (at_ (bt 6 11) (body Tryz.f91)) 0 [0,3,4] (K0 k a0) n0
def K1 (n0:Nat):Ex→St→Rs:=cF (E k) (B0 k a0 n0) [.blk 2,.blk 1,.code (at_ (bt 8 203) (body Tryz.f91))]
def V0 (n0:Nat):T0:=fun x0 x1 x2=>ak (bf (E k) (at_ (bt 6 11) (body Tryz.f91))) (ai 0 [0,3,4]) (K0 k a0) n0 (mk 32 0 [(0,.str x0),(3,.int .u32 x1),(4,.int .i64 x2)] [])
def V1 (n0 n1:Nat):T1:=fun x0 x1 x2 x3=>ak (bf (E k) (at_ (bt 13 1611) (body Tryz.f91))) (ai 0 [0,3,4,18]) (K1 k a0 n0) n1 (mk 32 0 [(0,.str x0),(3,.int .u32 x1),(4,.int .i64 x2),(18,.int .i64 x3)] [])
theorem s0 (n0:Nat):V0 k a0 (n0+1)=b0 k (V1 k a0 n0 k) (V0 k a0 n0):=by kernel_rfl
theorem s1 (n0 n1:Nat):V1 k a0 n0 (n1+1)=b1 k (V0 k a0 n0) (V1 k a0 n0 n1):=by kernel_rfl
theorem e1 (n0:Nat):V1 k a0 n0=l1 k (V0 k a0 n0):=aW rfl (s1 k a0 n0) fun _=>rfl
theorem e0 (n0:Nat):V0 k a0 n0=l0 k n0:=by
 induction n0 with
 | zero=>rfl
 | succ n0 ih =>
  have h:V0 k a0 (n0+1)=b0 k (V1 k a0 n0 k) (V0 k a0 n0):=s0 k a0 n0
  rw [h,e1,ih]
  rfl
end
theorem eq (k:Nat) (a0:ByteArray):rn (E k) Tryz.f91 (C k) (a0,())=f k a0:=(show _=t k (V0 k a0 k) a0 by kernel_rfl).trans (by rw [e0];rfl)
theorem ctr (k:Nat):Cp 91 (C k):=rc rfl [] (by kernel_rfl) Tryz.func91 (by kernel_rfl) rfl fun ⟨a0,_⟩ r h=>(eq k a0).trans h
end gQ
namespace dw
def C (k:Nat):Cn:=⟨[.val (.int .i64),.val (.int .i64)],[.str],true,false,fun x=>f k x.1 x.2.1⟩
def D (k:Nat):List Ce:=[q (ay.ctr k)]
def E (k:Nat):cC:=en (D k) [(5,[0,5,6])] 0 [] k
section
variable (k:Nat) (a0:Int) (a1:Int)
def K0:Ex→St→Rs:=cF (E k) (eK (E k) Tryz.f90 (C k) (a0,a1,())) [.blk 0,.code (at_ (bt 4 15) (body Tryz.f90))]
def V0 (n0:Nat):T0:=fun x0 x1 x2=>ak (bf (E k) (at_ (bt 7 23) (body Tryz.f90))) (ai 0 [0,5,6]) (K0 k a0 a1) n0 (mk 35 1 [(0,.int .i64 x0),(5,.ref 0),(6,.int .i64 x1)] [(0,.own false (.int .u8) x2)])
theorem s0 (n0:Nat):V0 k a0 a1 (n0+1)=b0 k (V0 k a0 a1 n0):=by kernel_rfl
theorem e0:V0 k a0 a1=l0 k:=aW rfl (s0 k a0 a1) fun _=>rfl
end
theorem eq (k:Nat) (a0:Int) (a1:Int):rn (E k) Tryz.f90 (C k) (a0,a1,())=f k a0 a1:=(show _=t k (V0 k a0 a1 k) a0 a1 by kernel_rfl).trans (by rw [e0];rfl)
theorem ctr (k:Nat):Cp 90 (C k):=rc rfl (D k) (by kernel_rfl) Tryz.func90 (by kernel_rfl) rfl fun ⟨a0,a1,_⟩ r h=>(eq k a0 a1).trans h
end dw
namespace gA
def C (k:Nat):Cn:=⟨[.val .str],[.str],true,false,fun x=>f k x.1⟩
def D (k:Nat):List Ce:=[q (ea.ctr k),q (gQ.ctr k),q (dw.ctr k)]
def E (k:Nat):cC:=en (D k) [] 0 [] k
theorem eq (k:Nat) (a0:ByteArray):rn (E k) Tryz.f47 (C k) (a0,())=f k a0:=by kernel_rfl
theorem ctr (k:Nat):Cp 47 (C k):=rc rfl (D k) (by kernel_rfl) Tryz.func47 (by kernel_rfl) rfl fun ⟨a0,_⟩ r h=>(eq k a0).trans h
end gA
namespace eS
def C (k:Nat):Cn:=⟨[.val .str],[.str,(.int .i64)],true,false,fun x=>f k x.1⟩
def D (k:Nat):List Ce:=[q (cV.ctr k),q (gA.ctr k)]
def E (k:Nat):cC:=en (D k) [] 0 [] k
theorem eq (k:Nat) (a0:ByteArray):rn (E k) Tryz.f110 (C k) (a0,())=f k a0:=by kernel_rfl
theorem ctr (k:Nat):Cp 110 (C k):=rc rfl (D k) (by kernel_rfl) Tryz.func110 (by kernel_rfl) rfl fun ⟨a0,_⟩ r h=>(eq k a0).trans h
end eS
namespace aw
def C (k:Nat):Cn:=⟨[.io true jd],[(.int .i64)],true,false,fun x=>f k x.1⟩
def D (k:Nat):List Ce:=[q (cV.ctr k)]
def E (k:Nat):cC:=en (D k) [] 1 [] k
theorem eq (k:Nat) (a0:Ty.den jd):rn (E k) Tryz.f141 (C k) (a0,())=f k a0:=by kernel_rfl
theorem ctr (k:Nat):Cp 141 (C k):=rc rfl (D k) (by kernel_rfl) Tryz.func141 (by kernel_rfl) rfl fun ⟨a0,_⟩ r h=>(eq k a0).trans h
end aw
namespace aq
def C (k:Nat):Cn:=⟨[.io true jd,.val (.int .i64)],[.str],true,false,fun x=>f k x.1 x.2.1⟩
def E (k:Nat):cC:=en [] [] 1 [] k
theorem eq (k:Nat) (a0:Ty.den jd) (a1:Int):rn (E k) Tryz.f144 (C k) (a0,a1,())=f k a0 a1:=by kernel_rfl
theorem ctr (k:Nat):Cp 144 (C k):=rc rfl [] (by kernel_rfl) Tryz.func144 (by kernel_rfl) rfl fun ⟨a0,a1,_⟩ r h=>(eq k a0 a1).trans h
end aq
namespace aj
def C (k:Nat):Cn:=⟨[.io true jd],[.str],true,false,fun x=>f k x.1⟩
def D (k:Nat):List Ce:=[q (aw.ctr k),q (aq.ctr k)]
def E (k:Nat):cC:=en (D k) [] 1 [] k
theorem eq (k:Nat) (a0:Ty.den jd):rn (E k) Tryz.f142 (C k) (a0,())=f k a0:=by kernel_rfl
theorem ctr (k:Nat):Cp 142 (C k):=rc rfl (D k) (by kernel_rfl) Tryz.func142 (by kernel_rfl) rfl fun ⟨a0,_⟩ r h=>(eq k a0).trans h
end aj
namespace fc
def C (k:Nat):Cn:=⟨[.val am],[.bool],true,false,fun x=>f k x.1⟩
def D (k:Nat):List Ce:=[q (fk.ctr k),q (ay.ctr k)]
def E (k:Nat):cC:=en (D k) [] 0 [] k
theorem eq (k:Nat) (a0:Ty.den am):rn (E k) Tryz.f92 (C k) (a0,())=f k a0:=by kernel_rfl
theorem ctr (k:Nat):Cp 92 (C k):=rc rfl (D k) (by kernel_rfl) Tryz.func92 (by kernel_rfl) rfl fun ⟨a0,_⟩ r h=>(eq k a0).trans h
end fc
namespace bh
def C (k:Nat):Cn:=⟨[.val .str,.val (.int .i64)],[(.int .i64),.bool],true,false,fun x=>f k x.1 x.2.1⟩
def D (k:Nat):List Ce:=[q (ay.ctr k)]
def E (k:Nat):cC:=en (D k) [(5,[0,6,17,18])] 0 [] k
section
variable (k:Nat) (a0:ByteArray) (a1:Int)
def K0:Ex→St→Rs:=cF (E k) (eK (E k) Tryz.f143 (C k) (a0,a1,())) [.blk 0,.code (at_ (bt 4 15) (body Tryz.f143))]
def V0 (n0:Nat):T0:=fun x0 x1 x2 x3=>ak (bf (E k) (at_ (bt 7 23) (body Tryz.f143))) (ai 0 [0,6,17,18]) (K0 k a0 a1) n0 (mk 30 0 [(0,.str x0),(6,.int .i64 x1),(17,.int .i64 x2),(18,.int .i64 x3)] [])
theorem s0 (n0:Nat):V0 k a0 a1 (n0+1)=b0 k (V0 k a0 a1 n0):=by kernel_rfl
theorem e0:V0 k a0 a1=l0 k:=aW rfl (s0 k a0 a1) fun _=>rfl
end
theorem eq (k:Nat) (a0:ByteArray) (a1:Int):rn (E k) Tryz.f143 (C k) (a0,a1,())=f k a0 a1:=(show _=t k (V0 k a0 a1 k) a0 a1 by kernel_rfl).trans (by rw [e0];rfl)
theorem ctr (k:Nat):Cp 143 (C k):=rc rfl (D k) (by kernel_rfl) Tryz.func143 (by kernel_rfl) rfl fun ⟨a0,a1,_⟩ r h=>(eq k a0 a1).trans h
end bh
namespace cW
def C (k:Nat):Cn:=⟨[.val .str],[am,.bool],true,false,fun x=>f k x.1⟩
def D (k:Nat):List Ce:=[q (aw.ctr k),q (aj.ctr k),q (fc.ctr k),q (aq.ctr k),q (bh.ctr k)]
def E (k:Nat):cC:=en (D k) [] 0 [] k
theorem eq (k:Nat) (a0:ByteArray):rn (E k) Tryz.f111 (C k) (a0,())=f k a0:=by kernel_rfl
theorem ctr (k:Nat):Cp 111 (C k):=rc rfl (D k) (by kernel_rfl) Tryz.func111 (by kernel_rfl) rfl fun ⟨a0,_⟩ r h=>(eq k a0).trans h
end cW
namespace eH
def C (k:Nat):Cn:=⟨[.val .str],[(.slice dD),(.int .i64)],true,false,fun x=>f k x.1⟩
def D (k:Nat):List Ce:=[q (eS.ctr k),q (cW.ctr k)]
def E (k:Nat):cC:=en (D k) [(3,[0,4,5])] 0 [] k
section
variable (k:Nat) (a0:ByteArray)
def K0:Ex→St→Rs:=cF (E k) (eK (E k) Tryz.f65 (C k) (a0,())) [.blk 0]
def V0 (n0:Nat):T0:=fun x0 x1 x2=>ak (bf (E k) (at_ (bt 5 7) (body Tryz.f65))) (ai 0 [0,4,5]) (K0 k a0) n0 (mk 40 1 [(0,.str x0),(4,.ref 0),(5,.int .i64 x1)] [(0,.own false dD x2)])
theorem s0 (n0:Nat):V0 k a0 (n0+1)=b0 k (V0 k a0 n0):=by kernel_rfl
theorem e0:V0 k a0=l0 k:=aW rfl (s0 k a0) fun _=>rfl
end
theorem eq (k:Nat) (a0:ByteArray):rn (E k) Tryz.f65 (C k) (a0,())=f k a0:=(show _=t k (V0 k a0 k) a0 by kernel_rfl).trans (by rw [e0];rfl)
theorem ctr (k:Nat):Cp 65 (C k):=rc rfl (D k) (by kernel_rfl) Tryz.func65 (by kernel_rfl) rfl fun ⟨a0,_⟩ r h=>(eq k a0).trans h
end eH
namespace iw
def C (k:Nat):Cn:=⟨[.val .str,.val (.int .i64),.val (.int .i64)],[am,.bool],true,false,fun x=>f k x.1 x.2.1 x.2.2.1⟩
def D (k:Nat):List Ce:=[q (ay.ctr k),q (eS.ctr k),q (cW.ctr k)]
def E (k:Nat):cC:=en (D k) [] 0 [] k
theorem eq (k:Nat) (a0:ByteArray) (a1:Int) (a2:Int):rn (E k) Tryz.f66 (C k) (a0,a1,a2,())=f k a0 a1 a2:=by kernel_rfl
theorem ctr (k:Nat):Cp 66 (C k):=rc rfl (D k) (by kernel_rfl) Tryz.func66 (by kernel_rfl) rfl fun ⟨a0,a1,a2,_⟩ r h=>(eq k a0 a1 a2).trans h
end iw
namespace cU
def C (k:Nat):Cn:=⟨[.val aC,.val a_],[.bool],true,false,fun x=>f k x.1 x.2.1⟩
def D (k:Nat):List Ce:=[q (bV.ctr k),q (dr.ctr k),q (fj.ctr k),q (ay.ctr k),q (dS.ctr k),q (fP.ctr k),q (eH.ctr k),q (iw.ctr k)]
def E (k:Nat):cC:=en (D k) [(4,[2,3,40,41,42]),(12,[2,3,84,85,86])] 0 [] k
section
variable (k:Nat) (a0:Ty.den aC) (a1:Ty.den a_)
def K0:Ex→St→Rs:=cF (E k) (eK (E k) Tryz.f24 (C k) (a0,a1,())) [.blk 0,.code (at_ (bt 3 7) (body Tryz.f24))]
def K1:Ex→St→Rs:=cF (E k) (eK (E k) Tryz.f24 (C k) (a0,a1,())) [.blk 2,.code (at_ (bt 4 15) (body Tryz.f24))]
def V0 (n0:Nat):T0:=fun x0 x1 x2 x3 x4 x5 x6 x7 x8 x9 x10 x11 x12=>ak (bf (E k) (at_ (bt 6 11) (body Tryz.f24))) (ai 0 [2,3,40,41,42]) (K0 k a0 a1) n0 (mk 141 2 [(2,.ptr 0 0 0),(3,.ptr 1 0 0),(40,.sl true (.int .i64) x0),(41,.int .i64 x1),(42,.int .i64 x2)] [(0,.box [.int .i64 x3,.sl true (.int .i64) x4,.sl true aA x5,.int .i64 x6,.int .i64 x7,.int .i64 x8]),(1,.box [.sl true aD x9,.int .i64 x10,.int .i64 x11,.bool x12])])
def V1 (n1:Nat):T1:=fun x0 x1 x2 x3 x4 x5 x6 x7 x8 x9 x10 x11 x12=>ak (bf (E k) (at_ (bt 7 23) (body Tryz.f24))) (ai 0 [2,3,84,85,86]) (K1 k a0 a1) n1 (mk 141 2 [(2,.ptr 0 0 0),(3,.ptr 1 0 0),(84,.sl true aA x0),(85,.int .i64 x1),(86,.int .i64 x2)] [(0,.box [.int .i64 x3,.sl true (.int .i64) x4,.sl true aA x5,.int .i64 x6,.int .i64 x7,.int .i64 x8]),(1,.box [.sl true aD x9,.int .i64 x10,.int .i64 x11,.bool x12])])
theorem s0 (n0:Nat):V0 k a0 a1 (n0+1)=b0 k (V1 k a0 a1 k) (V0 k a0 a1 n0):=by kernel_rfl
theorem s1 (n1:Nat):V1 k a0 a1 (n1+1)=b1 k (V1 k a0 a1 n1):=by kernel_rfl
theorem e1:V1 k a0 a1=l1 k:=aW rfl (s1 k a0 a1) fun _=>rfl
theorem e0 (n0:Nat):V0 k a0 a1 n0=l0 k n0:=by
 induction n0 with
 | zero=>rfl
 | succ n0 ih =>
  have h:V0 k a0 a1 (n0+1)=b0 k (V1 k a0 a1 k) (V0 k a0 a1 n0):=s0 k a0 a1 n0
  rw [h,e1,ih]
  rfl
end
theorem eq (k:Nat) (a0:Ty.den aC) (a1:Ty.den a_):rn (E k) Tryz.f24 (C k) (a0,a1,())=f k a0 a1:=(show _=t k (V0 k a0 a1 k) a0 a1 by kernel_rfl).trans (by rw [e0];rfl)
theorem ctr (k:Nat):Cp 24 (C k):=rc rfl (D k) (by kernel_rfl) Tryz.func24 (by kernel_rfl) rfl fun ⟨a0,a1,_⟩ r h=>(eq k a0 a1).trans h
end cU
namespace jw
def C (k:Nat):Cn:=⟨[.val af],[.bool],true,false,fun x=>f k x.1⟩
def D (k:Nat):List Ce:=[q (fk.ctr k)]
def E (k:Nat):cC:=en (D k) [] 0 [] k
theorem eq (k:Nat) (a0:Ty.den af):rn (E k) Tryz.f67 (C k) (a0,())=f k a0:=by kernel_rfl
theorem ctr (k:Nat):Cp 67 (C k):=rc rfl (D k) (by kernel_rfl) Tryz.func67 (by kernel_rfl) rfl fun ⟨a0,_⟩ r h=>(eq k a0).trans h
end jw
namespace dc
def C (k:Nat):Cn:=⟨[.val (.slice af)],[.bool],true,false,fun x=>f k x.1⟩
def D (k:Nat):List Ce:=[q (jw.ctr k)]
def E (k:Nat):cC:=en (D k) [(2,[0,5,6,7])] 0 [] k
section
variable (k:Nat) (a0:List (Ty.den af))
def K0:Ex→St→Rs:=cF (E k) (eK (E k) Tryz.f25 (C k) (a0,())) [.blk 0,.code (at_ (bt 2 3) (body Tryz.f25))]
def V0 (n0:Nat):T0:=fun x0 x1 x2 x3=>ak (bf (E k) (at_ (bt 5 5) (body Tryz.f25))) (ai 0 [0,5,6,7]) (K0 k a0) n0 (mk 18 0 [(0,.sl true af x0),(5,.sl true af x1),(6,.int .i64 x2),(7,.int .i64 x3)] [])
theorem s0 (n0:Nat):V0 k a0 (n0+1)=b0 k (V0 k a0 n0):=by kernel_rfl
theorem e0:V0 k a0=l0 k:=aW rfl (s0 k a0) fun _=>rfl
end
theorem eq (k:Nat) (a0:List (Ty.den af)):rn (E k) Tryz.f25 (C k) (a0,())=f k a0:=(show _=t k (V0 k a0 k) a0 by kernel_rfl).trans (by rw [e0];rfl)
theorem ctr (k:Nat):Cp 25 (C k):=rc rfl (D k) (by kernel_rfl) Tryz.func25 (by kernel_rfl) rfl fun ⟨a0,_⟩ r h=>(eq k a0).trans h
end dc
namespace c_
def C (k:Nat):Cn:=⟨[.val (.slice aA),.val .str],[(.slice aA)],true,false,fun x=>f k x.1 x.2.1⟩
def E (k:Nat):cC:=en [] [(3,[1,5,8,9,10])] 0 [] k
section
variable (k:Nat) (a0:List (Ty.den aA)) (a1:ByteArray)
def K0:Ex→St→Rs:=cF (E k) (eK (E k) Tryz.f112 (C k) (a0,a1,())) [.blk 0,.code (at_ (bt 3 7) (body Tryz.f112))]
def V0 (n0:Nat):T0:=fun x0 x1 x2 x3 x4=>ak (bf (E k) (at_ (bt 6 11) (body Tryz.f112))) (ai 0 [1,5,8,9,10]) (K0 k a0 a1) n0 (mk 24 1 [(1,.str x0),(5,.ref 0),(8,.sl true aA x1),(9,.int .i64 x2),(10,.int .i64 x3)] [(0,.own false aA x4)])
theorem s0 (n0:Nat):V0 k a0 a1 (n0+1)=b0 k (V0 k a0 a1 n0):=by kernel_rfl
theorem e0:V0 k a0 a1=l0 k:=aW rfl (s0 k a0 a1) fun _=>rfl
end
theorem eq (k:Nat) (a0:List (Ty.den aA)) (a1:ByteArray):rn (E k) Tryz.f112 (C k) (a0,a1,())=f k a0 a1:=(show _=t k (V0 k a0 a1 k) a0 a1 by kernel_rfl).trans (by rw [e0];rfl)
theorem ctr (k:Nat):Cp 112 (C k):=rc rfl [] (by kernel_rfl) Tryz.func112 (by kernel_rfl) rfl fun ⟨a0,a1,_⟩ r h=>(eq k a0 a1).trans h
end c_
namespace dH
def C (k:Nat):Cn:=⟨[.val (.slice aA),.val aA],[(.slice aA)],true,false,fun x=>f k x.1 x.2.1⟩
def D (k:Nat):List Ce:=[q (c_.ctr k),q (fD.ctr k)]
def E (k:Nat):cC:=en (D k) [(3,[3,5,6])] 0 [] k
section
variable (k:Nat) (a0:List (Ty.den aA)) (a1:Ty.den aA)
def K0:Ex→St→Rs:=cF (E k) (eK (E k) Tryz.f113 (C k) (a0,a1,())) [.blk 0,.code (at_ (bt 4 15) (body Tryz.f113))]
def V0 (n0:Nat):T0:=fun x0 x1 x2 x3 x4 x5 x6=>ak (bf (E k) (at_ (bt 6 7) (body Tryz.f113))) (ai 0 [3,5,6]) (K0 k a0 a1) n0 (mk 38 2 [(3,.ptr 0 0 0),(5,.ref 1),(6,.int .i64 x0)] [(0,.box [.str x1,.int .i64 x2,.int .i64 x3,.int .i64 x4,.int .i64 x5]),(1,.own false aA x6)])
theorem s0 (n0:Nat):V0 k a0 a1 (n0+1)=b0 k (V0 k a0 a1 n0):=by kernel_rfl
theorem e0:V0 k a0 a1=l0 k:=aW rfl (s0 k a0 a1) fun _=>rfl
end
theorem eq (k:Nat) (a0:List (Ty.den aA)) (a1:Ty.den aA):rn (E k) Tryz.f113 (C k) (a0,a1,())=f k a0 a1:=(show _=t k (V0 k a0 a1 k) a0 a1 by kernel_rfl).trans (by rw [e0];rfl)
theorem ctr (k:Nat):Cp 113 (C k):=rc rfl (D k) (by kernel_rfl) Tryz.func113 (by kernel_rfl) rfl fun ⟨a0,a1,_⟩ r h=>(eq k a0 a1).trans h
end dH
namespace fX
def C (k:Nat):Cn:=⟨[.val (.slice aA),.val (.slice af),.val (.slice aA)],[(.slice aA)],false,true,fun x=>f k x.1 x.2.1 x.2.2.1⟩
def D (k:Nat):List Ce:=[q (c_.ctr k),q (dH.ctr k)]
def E (k:Nat):cC:=en (D k) [(2,[0,2,9,10,11])] 0 [] k
section
variable (k:Nat) (a0:List (Ty.den aA)) (a1:List (Ty.den af)) (a2:List (Ty.den aA))
def K0:Ex→St→Rs:=cF (E k) (eK (E k) Tryz.f68 (C k) (a0,a1,a2,())) [.blk 0,.code (at_ (bt 2 3) (body Tryz.f68))]
def V0 (n0:Nat):T0:=fun x0 x1 x2 x3 x4=>ak (bf (E k) (at_ (bt 5 5) (body Tryz.f68))) (ai 0 [0,2,9,10,11]) (K0 k a0 a1 a2) n0 (mk 30 0 [(0,.sl true aA x0),(2,.sl true aA x1),(9,.sl true af x2),(10,.int .i64 x3),(11,.int .i64 x4)] [])
def V1 (n0:Nat):T1:=fun x0 x1 x2 x3 x4=>ak (bf (E k) (at_ (bt 5 5) (body Tryz.f68))) (ai 0 [0,2,9,10,11]) (K0 k a0 a1 a2) n0 (mk 30 1 [(0,.ref 0),(2,.sl true aA x0),(9,.sl true af x1),(10,.int .i64 x2),(11,.int .i64 x3)] [(0,.own false aA x4)])
theorem s0 (n0:Nat):V0 k a0 a1 a2 (n0+1)=b0 k (V1 k a0 a1 a2 n0):=by kernel_rfl
theorem s1 (n0:Nat):V1 k a0 a1 a2 (n0+1)=b1 k (V1 k a0 a1 a2 n0):=by kernel_rfl
theorem e1:V1 k a0 a1 a2=l1 k:=aW rfl (s1 k a0 a1 a2) fun _=>rfl
theorem e0 (n0:Nat):V0 k a0 a1 a2 n0=l0 k n0:=by
 induction n0 with
 | zero=>rfl
 | succ n0 ih =>
  have h:V0 k a0 a1 a2 (n0+1)=b0 k (V1 k a0 a1 a2 n0):=s0 k a0 a1 a2 n0
  rw [h,e1]
  rfl
end
theorem eq (k:Nat) (a0:List (Ty.den aA)) (a1:List (Ty.den af)) (a2:List (Ty.den aA)):rn (E k) Tryz.f68 (C k) (a0,a1,a2,())=f k a0 a1 a2:=(show _=t k (V0 k a0 a1 a2 k) a0 a1 a2 by kernel_rfl).trans (by rw [e0];rfl)
theorem ctr (k:Nat):Cp 68 (C k):=rc rfl (D k) (by kernel_rfl) Tryz.func68 (by kernel_rfl) rfl fun ⟨a0,a1,a2,_⟩ r h=>(eq k a0 a1 a2).trans h
end fX
namespace eI
def C (k:Nat):Cn:=⟨[.val (.slice aA),.val (.slice af)],[(.int .i64)],true,false,fun x=>f k x.1 x.2.1⟩
def D (k:Nat):List Ce:=[q (fX.ctr k)]
def E (k:Nat):cC:=en (D k) [(3,[0,1,5,8,9,10])] 0 [] k
section
variable (k:Nat) (a0:List (Ty.den aA)) (a1:List (Ty.den af))
def K0:Ex→St→Rs:=cF (E k) (eK (E k) Tryz.f26 (C k) (a0,a1,())) [.blk 0,.code (at_ (bt 3 7) (body Tryz.f26))]
def V0 (n0:Nat):T0:=fun x0 x1 x2 x3 x4 x5=>ak (bf (E k) (at_ (bt 6 11) (body Tryz.f26))) (ai 0 [0,1,5,8,9,10]) (K0 k a0 a1) n0 (mk 26 1 [(0,.sl true aA x0),(1,.sl true af x1),(5,.ref 0),(8,.sl true af x2),(9,.int .i64 x3),(10,.int .i64 x4)] [(0,.own false aA x5)])
theorem s0 (n0:Nat):V0 k a0 a1 (n0+1)=b0 k (V0 k a0 a1 n0):=by kernel_rfl
theorem e0:V0 k a0 a1=l0 k:=aW rfl (s0 k a0 a1) fun _=>rfl
end
theorem eq (k:Nat) (a0:List (Ty.den aA)) (a1:List (Ty.den af)):rn (E k) Tryz.f26 (C k) (a0,a1,())=f k a0 a1:=(show _=t k (V0 k a0 a1 k) a0 a1 by kernel_rfl).trans (by rw [e0];rfl)
theorem ctr (k:Nat):Cp 26 (C k):=rc rfl (D k) (by kernel_rfl) Tryz.func26 (by kernel_rfl) rfl fun ⟨a0,a1,_⟩ r h=>(eq k a0 a1).trans h
end eI
namespace du
def C (k:Nat):Cn:=⟨[.val (.slice (.int .i64))],[.str],true,false,fun x=>f k x.1⟩
def D (k:Nat):List Ce:=[q (fH.ctr k)]
def E (k:Nat):cC:=en (D k) [(3,[3,6,7,8])] 0 [] k
section
variable (k:Nat) (a0:List Int)
def K0:Ex→St→Rs:=cF (E k) (eK (E k) Tryz.f93 (C k) (a0,())) [.blk 0,.code (at_ (bt 3 7) (body Tryz.f93))]
def V0 (n0:Nat):T0:=fun x0 x1 x2 x3=>ak (bf (E k) (at_ (bt 6 11) (body Tryz.f93))) (ai 0 [3,6,7,8]) (K0 k a0) n0 (mk 18 0 [(3,.str x0),(6,.sl true (.int .i64) x1),(7,.int .i64 x2),(8,.int .i64 x3)] [])
theorem s0 (n0:Nat):V0 k a0 (n0+1)=b0 k (V0 k a0 n0):=by kernel_rfl
theorem e0:V0 k a0=l0 k:=aW rfl (s0 k a0) fun _=>rfl
end
theorem eq (k:Nat) (a0:List Int):rn (E k) Tryz.f93 (C k) (a0,())=f k a0:=(show _=t k (V0 k a0 k) a0 by kernel_rfl).trans (by rw [e0];rfl)
theorem ctr (k:Nat):Cp 93 (C k):=rc rfl (D k) (by kernel_rfl) Tryz.func93 (by kernel_rfl) rfl fun ⟨a0,_⟩ r h=>(eq k a0).trans h
end du
namespace fY
def C (k:Nat):Cn:=⟨[.val am],[.str],true,false,fun x=>f k x.1⟩
def D (k:Nat):List Ce:=[q (fc.ctr k),q (du.ctr k),q (ea.ctr k),q (fH.ctr k),q (dw.ctr k)]
def E (k:Nat):cC:=en (D k) [] 0 [] k
theorem eq (k:Nat) (a0:Ty.den am):rn (E k) Tryz.f48 (C k) (a0,())=f k a0:=by kernel_rfl
theorem ctr (k:Nat):Cp 48 (C k):=rc rfl (D k) (by kernel_rfl) Tryz.func48 (by kernel_rfl) rfl fun ⟨a0,_⟩ r h=>(eq k a0).trans h
end fY
namespace iQ
def C (k:Nat):Cn:=⟨[.val (.slice am)],[(.int .i64)],true,false,fun x=>f k x.1⟩
def D (k:Nat):List Ce:=[q (fY.ctr k),q (gQ.ctr k)]
def E (k:Nat):cC:=en (D k) [(3,[3,6,7,8])] 0 [] k
section
variable (k:Nat) (a0:List (Ty.den am))
def K0:Ex→St→Rs:=cF (E k) (eK (E k) Tryz.f88 (C k) (a0,())) [.blk 0,.code (at_ (bt 3 7) (body Tryz.f88))]
def V0 (n0:Nat):T0:=fun x0 x1 x2 x3=>ak (bf (E k) (at_ (bt 6 11) (body Tryz.f88))) (ai 0 [3,6,7,8]) (K0 k a0) n0 (mk 19 0 [(3,.str x0),(6,.sl true am x1),(7,.int .i64 x2),(8,.int .i64 x3)] [])
theorem s0 (n0:Nat):V0 k a0 (n0+1)=b0 k (V0 k a0 n0):=by kernel_rfl
theorem e0:V0 k a0=l0 k:=aW rfl (s0 k a0) fun _=>rfl
end
theorem eq (k:Nat) (a0:List (Ty.den am)):rn (E k) Tryz.f88 (C k) (a0,())=f k a0:=(show _=t k (V0 k a0 k) a0 by kernel_rfl).trans (by rw [e0];rfl)
theorem ctr (k:Nat):Cp 88 (C k):=rc rfl (D k) (by kernel_rfl) Tryz.func88 (by kernel_rfl) rfl fun ⟨a0,_⟩ r h=>(eq k a0).trans h
end iQ
namespace cm
def C (k:Nat):Cn:=⟨[.val (.slice af),.val (.int .i64)],[(.slice am)],true,false,fun x=>f k x.1 x.2.1⟩
def D (k:Nat):List Ce:=[q (iQ.ctr k)]
def E (k:Nat):cC:=en (D k) [(3,[0,1,5,8,9,10])] 0 [] k
section
variable (k:Nat) (a0:List (Ty.den af)) (a1:Int)
def K0:Ex→St→Rs:=cF (E k) (eK (E k) Tryz.f46 (C k) (a0,a1,())) [.blk 0,.code (at_ (bt 3 7) (body Tryz.f46))]
def V0 (n0:Nat):T0:=fun x0 x1 x2 x3 x4 x5=>ak (bf (E k) (at_ (bt 6 11) (body Tryz.f46))) (ai 0 [0,1,5,8,9,10]) (K0 k a0 a1) n0 (mk 42 1 [(0,.sl true af x0),(1,.int .i64 x1),(5,.ref 0),(8,.sl true af x2),(9,.int .i64 x3),(10,.int .i64 x4)] [(0,.own false am x5)])
theorem s0 (n0:Nat):V0 k a0 a1 (n0+1)=b0 k (V0 k a0 a1 n0):=by kernel_rfl
theorem e0:V0 k a0 a1=l0 k:=aW rfl (s0 k a0 a1) fun _=>rfl
end
theorem eq (k:Nat) (a0:List (Ty.den af)) (a1:Int):rn (E k) Tryz.f46 (C k) (a0,a1,())=f k a0 a1:=(show _=t k (V0 k a0 a1 k) a0 a1 by kernel_rfl).trans (by rw [e0];rfl)
theorem ctr (k:Nat):Cp 46 (C k):=rc rfl (D k) (by kernel_rfl) Tryz.func46 (by kernel_rfl) rfl fun ⟨a0,a1,_⟩ r h=>(eq k a0 a1).trans h
end cm
namespace bM
def C (k:Nat):Cn:=⟨[.io true aC],[.str],true,false,fun x=>f k x.1⟩
def D (k:Nat):List Ce:=[q (dS.ctr k)]
def E (k:Nat):cC:=en (D k) [] 1 [] k
theorem eq (k:Nat) (a0:Ty.den aC):rn (E k) Tryz.f71 (C k) (a0,())=f k a0:=by kernel_rfl
theorem ctr (k:Nat):Cp 71 (C k):=rc rfl (D k) (by kernel_rfl) Tryz.func71 (by kernel_rfl) rfl fun ⟨a0,_⟩ r h=>(eq k a0).trans h
end bM
namespace gh
def C (k:Nat):Cn:=⟨[.io true a_,.io true .str],[(.int .i64)],true,false,fun x=>f k x.1 x.2.1⟩
def D (k:Nat):List Ce:=[q (bT.ctr k)]
def E (k:Nat):cC:=en (D k) [] 2 [] k
theorem eq (k:Nat) (a0:Ty.den a_) (a1:ByteArray):rn (E k) Tryz.f151 (C k) (a0,a1,())=f k a0 a1:=by kernel_rfl
theorem ctr (k:Nat):Cp 151 (C k):=rc rfl (D k) (by kernel_rfl) Tryz.func151 (by kernel_rfl) rfl fun ⟨a0,a1,_⟩ r h=>(eq k a0 a1).trans h
end gh
namespace gW
def C (k:Nat):Cn:=⟨[.val a_,.fn 151 1,.io true .str],[a_,(.int .i64)],true,false,fun x=>f k x.1 x.2.1⟩
def D (k:Nat):List Ce:=[q (cH.ctr k),q (bV.ctr k),q (gh.ctr k)]
def E (k:Nat):cC:=en (D k) [] 1 [] k
theorem eq (k:Nat) (a0:Ty.den a_) (a1:ByteArray):rn (E k) Tryz.f150 (C k) (a0,a1,())=f k a0 a1:=by kernel_rfl
theorem ctr (k:Nat):Cp 150 (C k):=rc rfl (D k) (by kernel_rfl) Tryz.func150 (by kernel_rfl) rfl fun ⟨a0,a1,_⟩ r h=>(eq k a0 a1).trans h
end gW
namespace lG
def C (k:Nat):Cn:=⟨[.val a_,.val .str],[a_,(.int .i64)],true,false,fun x=>f k x.1 x.2.1⟩
def D (k:Nat):List Ce:=[q (gW.ctr k)]
def E (k:Nat):cC:=en (D k) [] 0 [] k
theorem eq (k:Nat) (a0:Ty.den a_) (a1:ByteArray):rn (E k) Tryz.f117 (C k) (a0,a1,())=f k a0 a1:=by kernel_rfl
theorem ctr (k:Nat):Cp 117 (C k):=rc rfl (D k) (by kernel_rfl) Tryz.func117 (by kernel_rfl) rfl fun ⟨a0,a1,_⟩ r h=>(eq k a0 a1).trans h
end lG
namespace lF
def C (k:Nat):Cn:=⟨[.val (.int .i64)],[(.int .i64)],true,false,fun x=>f k x.1⟩
def E (k:Nat):cC:=en [] [] 0 [] k
theorem eq (k:Nat) (a0:Int):rn (E k) Tryz.f149 (C k) (a0,())=f k a0:=by kernel_rfl
theorem ctr (k:Nat):Cp 149 (C k):=rc rfl [] (by kernel_rfl) Tryz.func149 (by kernel_rfl) rfl fun ⟨a0,_⟩ r h=>(eq k a0).trans h
end lF
namespace ar
def C (k:Nat):Cn:=⟨[.io true b8,.give a_,.val (.int .i64)],[],true,false,fun x=>f k x.1 x.2.1 x.2.2.1⟩
def D (k:Nat):List Ce:=[q (lF.ctr k)]
def E (k:Nat):cC:=en (D k) [] 1 [] k
theorem eq (k:Nat) (a0:Ty.den b8) (a1:Ty.den a_) (a2:Int):rn (E k) Tryz.f116 (C k) (a0,a1,a2,())=f k a0 a1 a2:=by kernel_rfl
theorem ctr (k:Nat):Cp 116 (C k):=rc rfl (D k) (by kernel_rfl) Tryz.func116 (by kernel_rfl) rfl fun ⟨a0,a1,a2,_⟩ r h=>(eq k a0 a1 a2).trans h
end ar
namespace ch
def C (k:Nat):Cn:=⟨[.io true b8,.val .str],[],true,false,fun x=>f k x.1 x.2.1⟩
def D (k:Nat):List Ce:=[q (lG.ctr k),q (ar.ctr k)]
def E (k:Nat):cC:=en (D k) [] 1 [] k
theorem eq (k:Nat) (a0:Ty.den b8) (a1:ByteArray):rn (E k) Tryz.f70 (C k) (a0,a1,())=f k a0 a1:=by kernel_rfl
theorem ctr (k:Nat):Cp 70 (C k):=rc rfl (D k) (by kernel_rfl) Tryz.func70 (by kernel_rfl) rfl fun ⟨a0,a1,_⟩ r h=>(eq k a0 a1).trans h
end ch
namespace eE
def C (k:Nat):Cn:=⟨[.io true a_,.val .str],[],true,false,fun x=>f k x.1 x.2.1⟩
def D (k:Nat):List Ce:=[q (bT.ctr k)]
def E (k:Nat):cC:=en (D k) [] 1 [] k
theorem eq (k:Nat) (a0:Ty.den a_) (a1:ByteArray):rn (E k) Tryz.f189 (C k) (a0,a1,())=f k a0 a1:=by kernel_rfl
theorem ctr (k:Nat):Cp 189 (C k):=rc rfl (D k) (by kernel_rfl) Tryz.func189 (by kernel_rfl) rfl fun ⟨a0,a1,_⟩ r h=>(eq k a0 a1).trans h
end eE
namespace fU
def C (k:Nat):Cn:=⟨[.io true a_,.io true .str],[(.int .i64)],true,false,fun x=>f k x.1 x.2.1⟩
def D (k:Nat):List Ce:=[q (bT.ctr k),q (eE.ctr k)]
def E (k:Nat):cC:=en (D k) [] 2 [] k
theorem eq (k:Nat) (a0:Ty.den a_) (a1:ByteArray):rn (E k) Tryz.f188 (C k) (a0,a1,())=f k a0 a1:=by kernel_rfl
theorem ctr (k:Nat):Cp 188 (C k):=rc rfl (D k) (by kernel_rfl) Tryz.func188 (by kernel_rfl) rfl fun ⟨a0,a1,_⟩ r h=>(eq k a0 a1).trans h
end fU
namespace ff
def C (k:Nat):Cn:=⟨[.val a_,.fn 188 1,.io true .str],[a_,(.int .i64)],true,false,fun x=>f k x.1 x.2.1⟩
def D (k:Nat):List Ce:=[q (cH.ctr k),q (bV.ctr k),q (fU.ctr k)]
def E (k:Nat):cC:=en (D k) [] 1 [] k
theorem eq (k:Nat) (a0:Ty.den a_) (a1:ByteArray):rn (E k) Tryz.f150 (C k) (a0,a1,())=f k a0 a1:=by kernel_rfl
theorem ctr (k:Nat):Cp 150 (C k):=rc rfl (D k) (by kernel_rfl) Tryz.func150 (by kernel_rfl) rfl fun ⟨a0,a1,_⟩ r h=>(eq k a0 a1).trans h
end ff
namespace jP
def C (k:Nat):Cn:=⟨[.val a_,.val .str],[a_,(.int .i64)],true,false,fun x=>f k x.1 x.2.1⟩
def D (k:Nat):List Ce:=[q (ff.ctr k)]
def E (k:Nat):cC:=en (D k) [] 0 [] k
theorem eq (k:Nat) (a0:Ty.den a_) (a1:ByteArray):rn (E k) Tryz.f184 (C k) (a0,a1,())=f k a0 a1:=by kernel_rfl
theorem ctr (k:Nat):Cp 184 (C k):=rc rfl (D k) (by kernel_rfl) Tryz.func184 (by kernel_rfl) rfl fun ⟨a0,a1,_⟩ r h=>(eq k a0 a1).trans h
end jP
namespace cg
def C (k:Nat):Cn:=⟨[.io true b8,.val .str],[],true,false,fun x=>f k x.1 x.2.1⟩
def D (k:Nat):List Ce:=[q (bT.ctr k),q (jP.ctr k),q (ar.ctr k)]
def E (k:Nat):cC:=en (D k) [] 1 [] k
theorem eq (k:Nat) (a0:Ty.den b8) (a1:ByteArray):rn (E k) Tryz.f173 (C k) (a0,a1,())=f k a0 a1:=by kernel_rfl
theorem ctr (k:Nat):Cp 173 (C k):=rc rfl (D k) (by kernel_rfl) Tryz.func173 (by kernel_rfl) rfl fun ⟨a0,a1,_⟩ r h=>(eq k a0 a1).trans h
end cg
namespace co
def C (k:Nat):Cn:=⟨[.io true a_,.val aD],[],true,false,fun x=>f k x.1 x.2.1⟩
def E (k:Nat):cC:=en [] [(2,[0,3,4])] 1 [] k
section
variable (k:Nat) (a0:Ty.den a_) (a1:Ty.den aD)
def K0:Ex→St→Rs:=cF (E k) (eK (E k) Tryz.f191 (C k) (a0,a1,())) [.blk 0,.code (at_ (bt 3 7) (body Tryz.f191))]
def V0 (n0:Nat):T0:=fun x0 x1 x2 x3 x4 x5 x6 x7=>ak (bf (E k) (at_ (bt 5 3) (body Tryz.f191))) (ai 1 [0,3,4]) (K0 k a0 a1) n0 (mk 47 3 [(0,.ptr 0 0 0),(3,.ptr 2 0 0),(4,.int .i64 x0)] [(1,.own false aD x1),(0,.box [.ref 1,.int .i64 x2,.int .i64 x3,.bool x4]),(2,.box [.str x5,.str x6,.int .i64 x7])])
theorem s0 (n0:Nat):V0 k a0 a1 (n0+1)=b0 k (V0 k a0 a1 n0):=by kernel_rfl
theorem e0:V0 k a0 a1=l0 k:=aW rfl (s0 k a0 a1) fun _=>rfl
end
theorem eq (k:Nat) (a0:Ty.den a_) (a1:Ty.den aD):rn (E k) Tryz.f191 (C k) (a0,a1,())=f k a0 a1:=(show _=t k (V0 k a0 a1 k) a0 a1 by kernel_rfl).trans (by rw [e0];rfl)
theorem ctr (k:Nat):Cp 191 (C k):=rc rfl [] (by kernel_rfl) Tryz.func191 (by kernel_rfl) rfl fun ⟨a0,a1,_⟩ r h=>(eq k a0 a1).trans h
end co
namespace fS
def C (k:Nat):Cn:=⟨[.io true a_,.io true .str],[(.int .i64)],true,false,fun x=>f k x.1 x.2.1⟩
def D (k:Nat):List Ce:=[q (dk.ctr k),q (bT.ctr k),q (co.ctr k)]
def E (k:Nat):cC:=en (D k) [] 2 [] k
theorem eq (k:Nat) (a0:Ty.den a_) (a1:ByteArray):rn (E k) Tryz.f190 (C k) (a0,a1,())=f k a0 a1:=by kernel_rfl
theorem ctr (k:Nat):Cp 190 (C k):=rc rfl (D k) (by kernel_rfl) Tryz.func190 (by kernel_rfl) rfl fun ⟨a0,a1,_⟩ r h=>(eq k a0 a1).trans h
end fS
namespace fe
def C (k:Nat):Cn:=⟨[.val a_,.fn 190 1,.io true .str],[a_,(.int .i64)],true,false,fun x=>f k x.1 x.2.1⟩
def D (k:Nat):List Ce:=[q (cH.ctr k),q (bV.ctr k),q (fS.ctr k)]
def E (k:Nat):cC:=en (D k) [] 1 [] k
theorem eq (k:Nat) (a0:Ty.den a_) (a1:ByteArray):rn (E k) Tryz.f150 (C k) (a0,a1,())=f k a0 a1:=by kernel_rfl
theorem ctr (k:Nat):Cp 150 (C k):=rc rfl (D k) (by kernel_rfl) Tryz.func150 (by kernel_rfl) rfl fun ⟨a0,a1,_⟩ r h=>(eq k a0 a1).trans h
end fe
namespace jQ
def C (k:Nat):Cn:=⟨[.val a_,.val .str],[a_,(.int .i64)],true,false,fun x=>f k x.1 x.2.1⟩
def D (k:Nat):List Ce:=[q (fe.ctr k)]
def E (k:Nat):cC:=en (D k) [] 0 [] k
theorem eq (k:Nat) (a0:Ty.den a_) (a1:ByteArray):rn (E k) Tryz.f185 (C k) (a0,a1,())=f k a0 a1:=by kernel_rfl
theorem ctr (k:Nat):Cp 185 (C k):=rc rfl (D k) (by kernel_rfl) Tryz.func185 (by kernel_rfl) rfl fun ⟨a0,a1,_⟩ r h=>(eq k a0 a1).trans h
end jQ
namespace eL
def C (k:Nat):Cn:=⟨[.io true b8,.val .str],[],true,false,fun x=>f k x.1 x.2.1⟩
def D (k:Nat):List Ce:=[q (jQ.ctr k),q (ar.ctr k)]
def E (k:Nat):cC:=en (D k) [] 1 [] k
theorem eq (k:Nat) (a0:Ty.den b8) (a1:ByteArray):rn (E k) Tryz.f174 (C k) (a0,a1,())=f k a0 a1:=by kernel_rfl
theorem ctr (k:Nat):Cp 174 (C k):=rc rfl (D k) (by kernel_rfl) Tryz.func174 (by kernel_rfl) rfl fun ⟨a0,a1,_⟩ r h=>(eq k a0 a1).trans h
end eL
namespace dZ
def C (k:Nat):Cn:=⟨[.io true b8,.val .str],[],true,false,fun x=>f k x.1 x.2.1⟩
def D (k:Nat):List Ce:=[q (cg.ctr k),q (eL.ctr k)]
def E (k:Nat):cC:=en (D k) [] 1 [] k
theorem eq (k:Nat) (a0:Ty.den b8) (a1:ByteArray):rn (E k) Tryz.f145 (C k) (a0,a1,())=f k a0 a1:=by kernel_rfl
theorem ctr (k:Nat):Cp 145 (C k):=rc rfl (D k) (by kernel_rfl) Tryz.func145 (by kernel_rfl) rfl fun ⟨a0,a1,_⟩ r h=>(eq k a0 a1).trans h
end dZ
namespace iA
def C (k:Nat):Cn:=⟨[.val bj],[.str],true,false,fun x=>f k x.1⟩
def D (k:Nat):List Ce:=[q (dr.ctr k),q (du.ctr k),q (gA.ctr k)]
def E (k:Nat):cC:=en (D k) [] 0 [] k
theorem eq (k:Nat) (a0:Ty.den bj):rn (E k) Tryz.f176 (C k) (a0,())=f k a0:=by kernel_rfl
theorem ctr (k:Nat):Cp 176 (C k):=rc rfl (D k) (by kernel_rfl) Tryz.func176 (by kernel_rfl) rfl fun ⟨a0,_⟩ r h=>(eq k a0).trans h
end iA
namespace iJ
def C (k:Nat):Cn:=⟨[.val a_],[(.int .i64)],true,false,fun x=>f k x.1⟩
def E (k:Nat):cC:=en [] [(3,[3,7,8,9])] 0 [] k
section
variable (k:Nat) (a0:Ty.den a_)
def K0:Ex→St→Rs:=cF (E k) (eK (E k) Tryz.f179 (C k) (a0,())) [.blk 0,.code (at_ (bt 3 7) (body Tryz.f179))]
def V0 (n0:Nat):T0:=fun x0 x1 x2 x3=>ak (bf (E k) (at_ (bt 6 11) (body Tryz.f179))) (ai 0 [3,7,8,9]) (K0 k a0) n0 (mk 20 0 [(3,.int .i64 x0),(7,.sl true aD x1),(8,.int .i64 x2),(9,.int .i64 x3)] [])
theorem s0 (n0:Nat):V0 k a0 (n0+1)=b0 k (V0 k a0 n0):=by kernel_rfl
theorem e0:V0 k a0=l0 k:=aW rfl (s0 k a0) fun _=>rfl
end
theorem eq (k:Nat) (a0:Ty.den a_):rn (E k) Tryz.f179 (C k) (a0,())=f k a0:=(show _=t k (V0 k a0 k) a0 by kernel_rfl).trans (by rw [e0];rfl)
theorem ctr (k:Nat):Cp 179 (C k):=rc rfl [] (by kernel_rfl) Tryz.func179 (by kernel_rfl) rfl fun ⟨a0,_⟩ r h=>(eq k a0).trans h
end iJ
namespace fQ
def C (k:Nat):Cn:=⟨[.io true a_,.io true .str,.io true .str],[(.int .i64)],true,false,fun x=>f k x.1 x.2.1 x.2.2.1⟩
def D (k:Nat):List Ce:=[q (bT.ctr k),q (iJ.ctr k)]
def E (k:Nat):cC:=en (D k) [] 3 [] k
theorem eq (k:Nat) (a0:Ty.den a_) (a1:ByteArray) (a2:ByteArray):rn (E k) Tryz.f178 (C k) (a0,a1,a2,())=f k a0 a1 a2:=by kernel_rfl
theorem ctr (k:Nat):Cp 178 (C k):=rc rfl (D k) (by kernel_rfl) Tryz.func178 (by kernel_rfl) rfl fun ⟨a0,a1,a2,_⟩ r h=>(eq k a0 a1 a2).trans h
end fQ
namespace fi
def C (k:Nat):Cn:=⟨[.val a_,.fn 178 2,.io true .str,.io true .str],[a_,(.int .i64)],true,false,fun x=>f k x.1 x.2.1 x.2.2.1⟩
def D (k:Nat):List Ce:=[q (cH.ctr k),q (bV.ctr k),q (fQ.ctr k)]
def E (k:Nat):cC:=en (D k) [] 2 [] k
theorem eq (k:Nat) (a0:Ty.den a_) (a1:ByteArray) (a2:ByteArray):rn (E k) Tryz.f150 (C k) (a0,a1,a2,())=f k a0 a1 a2:=by kernel_rfl
theorem ctr (k:Nat):Cp 150 (C k):=rc rfl (D k) (by kernel_rfl) Tryz.func150 (by kernel_rfl) rfl fun ⟨a0,a1,a2,_⟩ r h=>(eq k a0 a1 a2).trans h
end fi
namespace jJ
def C (k:Nat):Cn:=⟨[.val a_,.val .str,.val .str],[a_,(.int .i64)],true,false,fun x=>f k x.1 x.2.1 x.2.2.1⟩
def D (k:Nat):List Ce:=[q (fi.ctr k)]
def E (k:Nat):cC:=en (D k) [] 0 [] k
theorem eq (k:Nat) (a0:Ty.den a_) (a1:ByteArray) (a2:ByteArray):rn (E k) Tryz.f148 (C k) (a0,a1,a2,())=f k a0 a1 a2:=by kernel_rfl
theorem ctr (k:Nat):Cp 148 (C k):=rc rfl (D k) (by kernel_rfl) Tryz.func148 (by kernel_rfl) rfl fun ⟨a0,a1,a2,_⟩ r h=>(eq k a0 a1 a2).trans h
end jJ
namespace cZ
def C (k:Nat):Cn:=⟨[.io true b8,.val .str,.val .str],[],true,false,fun x=>f k x.1 x.2.1 x.2.2.1⟩
def D (k:Nat):List Ce:=[q (jJ.ctr k),q (ar.ctr k)]
def E (k:Nat):cC:=en (D k) [] 1 [] k
theorem eq (k:Nat) (a0:Ty.den b8) (a1:ByteArray) (a2:ByteArray):rn (E k) Tryz.f115 (C k) (a0,a1,a2,())=f k a0 a1 a2:=by kernel_rfl
theorem ctr (k:Nat):Cp 115 (C k):=rc rfl (D k) (by kernel_rfl) Tryz.func115 (by kernel_rfl) rfl fun ⟨a0,a1,a2,_⟩ r h=>(eq k a0 a1 a2).trans h
end cZ
namespace eN
def C (k:Nat):Cn:=⟨[.io true b8,.val .str,.val .str],[],true,false,fun x=>f k x.1 x.2.1 x.2.2.1⟩
def D (k:Nat):List Ce:=[q (dZ.ctr k),q (cZ.ctr k),q (ch.ctr k)]
def E (k:Nat):cC:=en (D k) [] 1 [] k
theorem eq (k:Nat) (a0:Ty.den b8) (a1:ByteArray) (a2:ByteArray):rn (E k) Tryz.f175 (C k) (a0,a1,a2,())=f k a0 a1 a2:=by kernel_rfl
theorem ctr (k:Nat):Cp 175 (C k):=rc rfl (D k) (by kernel_rfl) Tryz.func175 (by kernel_rfl) rfl fun ⟨a0,a1,a2,_⟩ r h=>(eq k a0 a1 a2).trans h
end eN
namespace fR
def C (k:Nat):Cn:=⟨[.io true a_,.io true .str,.io true .str],[(.int .i64)],true,false,fun x=>f k x.1 x.2.1 x.2.2.1⟩
def D (k:Nat):List Ce:=[q (bT.ctr k),q (dk.ctr k),q (eE.ctr k),q (co.ctr k)]
def E (k:Nat):cC:=en (D k) [] 3 [] k
theorem eq (k:Nat) (a0:Ty.den a_) (a1:ByteArray) (a2:ByteArray):rn (E k) Tryz.f192 (C k) (a0,a1,a2,())=f k a0 a1 a2:=by kernel_rfl
theorem ctr (k:Nat):Cp 192 (C k):=rc rfl (D k) (by kernel_rfl) Tryz.func192 (by kernel_rfl) rfl fun ⟨a0,a1,a2,_⟩ r h=>(eq k a0 a1 a2).trans h
end fR
namespace fg
def C (k:Nat):Cn:=⟨[.val a_,.fn 192 2,.io true .str,.io true .str],[a_,(.int .i64)],true,false,fun x=>f k x.1 x.2.1 x.2.2.1⟩
def D (k:Nat):List Ce:=[q (cH.ctr k),q (bV.ctr k),q (fR.ctr k)]
def E (k:Nat):cC:=en (D k) [] 2 [] k
theorem eq (k:Nat) (a0:Ty.den a_) (a1:ByteArray) (a2:ByteArray):rn (E k) Tryz.f150 (C k) (a0,a1,a2,())=f k a0 a1 a2:=by kernel_rfl
theorem ctr (k:Nat):Cp 150 (C k):=rc rfl (D k) (by kernel_rfl) Tryz.func150 (by kernel_rfl) rfl fun ⟨a0,a1,a2,_⟩ r h=>(eq k a0 a1 a2).trans h
end fg
namespace jL
def C (k:Nat):Cn:=⟨[.val a_,.val .str,.val .str],[a_,(.int .i64)],true,false,fun x=>f k x.1 x.2.1 x.2.2.1⟩
def D (k:Nat):List Ce:=[q (fg.ctr k)]
def E (k:Nat):cC:=en (D k) [] 0 [] k
theorem eq (k:Nat) (a0:Ty.den a_) (a1:ByteArray) (a2:ByteArray):rn (E k) Tryz.f186 (C k) (a0,a1,a2,())=f k a0 a1 a2:=by kernel_rfl
theorem ctr (k:Nat):Cp 186 (C k):=rc rfl (D k) (by kernel_rfl) Tryz.func186 (by kernel_rfl) rfl fun ⟨a0,a1,a2,_⟩ r h=>(eq k a0 a1 a2).trans h
end jL
namespace eM
def C (k:Nat):Cn:=⟨[.io true b8,.val .str,.val .str],[],true,false,fun x=>f k x.1 x.2.1 x.2.2.1⟩
def D (k:Nat):List Ce:=[q (jL.ctr k),q (ar.ctr k)]
def E (k:Nat):cC:=en (D k) [] 1 [] k
theorem eq (k:Nat) (a0:Ty.den b8) (a1:ByteArray) (a2:ByteArray):rn (E k) Tryz.f177 (C k) (a0,a1,a2,())=f k a0 a1 a2:=by kernel_rfl
theorem ctr (k:Nat):Cp 177 (C k):=rc rfl (D k) (by kernel_rfl) Tryz.func177 (by kernel_rfl) rfl fun ⟨a0,a1,a2,_⟩ r h=>(eq k a0 a1 a2).trans h
end eM
namespace dh
def C (k:Nat):Cn:=⟨[.io true b8,.val bj],[],true,false,fun x=>f k x.1 x.2.1⟩
def D (k:Nat):List Ce:=[q (iA.ctr k),q (eN.ctr k),q (eM.ctr k)]
def E (k:Nat):cC:=en (D k) [] 1 [] k
theorem eq (k:Nat) (a0:Ty.den b8) (a1:Ty.den bj):rn (E k) Tryz.f146 (C k) (a0,a1,())=f k a0 a1:=by kernel_rfl
theorem ctr (k:Nat):Cp 146 (C k):=rc rfl (D k) (by kernel_rfl) Tryz.func146 (by kernel_rfl) rfl fun ⟨a0,a1,_⟩ r h=>(eq k a0 a1).trans h
end dh
namespace ac
def C (k:Nat):Cn:=⟨[.io true b8,.val (.slice .str)],[],true,false,fun x=>f k x.1 x.2.1⟩
def D (k:Nat):List Ce:=[q (cg.ctr k)]
def E (k:Nat):cC:=en (D k) [(3,[0,4,18,19,20])] 1 [] k
section
variable (k:Nat) (a0:Ty.den b8) (a1:List ByteArray)
def K0:Ex→St→Rs:=cF (E k) (eK (E k) Tryz.f147 (C k) (a0,a1,())) [.blk 0,.code (at_ (bt 3 7) (body Tryz.f147))]
def V0 (n0:Nat):T0:=fun x0 x1 x2 x3 x4 x5 x6 x7 x8 x9 x10 x11=>ak (bf (E k) (at_ (bt 6 11) (body Tryz.f147))) (ai 1 [0,4,18,19,20]) (K0 k a0 a1) n0 (mk 47 3 [(0,.ptr 0 0 0),(4,.ptr 2 0 0),(18,.sl true .str x0),(19,.int .i64 x1),(20,.int .i64 x2)] [(1,.own false aD x3),(0,.box [.ref 1,.int .i64 x4,.int .i64 x5,.bool x6,.int .i64 x7]),(2,.box [.ref 1,.int .i64 x8,.int .i64 x9,.bool x10,.int .i64 x11])])
def V1 (n0:Nat):T1:=fun x0 x1 x2 x3 x4 x5 x6 x7 x8 x9 x10 x11=>ak (bf (E k) (at_ (bt 6 11) (body Tryz.f147))) (ai 1 [0,4,18,19,20]) (K0 k a0 a1) n0 (mk 47 3 [(0,.ptr 0 0 0),(4,.ptr 1 0 0),(18,.sl true .str x0),(19,.int .i64 x1),(20,.int .i64 x2)] [(0,.box [.junk,.int .i64 x3,.int .i64 x4,.bool x5,.int .i64 x6]),(2,.own false aD x7),(1,.box [.ref 2,.int .i64 x8,.int .i64 x9,.bool x10,.int .i64 x11])])
theorem s0 (n0:Nat):V0 k a0 a1 (n0+1)=b0 k (V1 k a0 a1 n0):=by kernel_rfl
theorem s1 (n0:Nat):V1 k a0 a1 (n0+1)=b1 k (V1 k a0 a1 n0):=by kernel_rfl
theorem e1:V1 k a0 a1=l1 k:=aW rfl (s1 k a0 a1) fun _=>rfl
theorem e0 (n0:Nat):V0 k a0 a1 n0=l0 k n0:=by
 induction n0 with
 | zero=>rfl
 | succ n0 ih =>
  have h:V0 k a0 a1 (n0+1)=b0 k (V1 k a0 a1 n0):=s0 k a0 a1 n0
  rw [h,e1]
  rfl
end
theorem eq (k:Nat) (a0:Ty.den b8) (a1:List ByteArray):rn (E k) Tryz.f147 (C k) (a0,a1,())=f k a0 a1:=(show _=t k (V0 k a0 a1 k) a0 a1 by kernel_rfl).trans (by rw [e0];rfl)
theorem ctr (k:Nat):Cp 147 (C k):=rc rfl (D k) (by kernel_rfl) Tryz.func147 (by kernel_rfl) rfl fun ⟨a0,a1,_⟩ r h=>(eq k a0 a1).trans h
end ac
namespace eh
def C (k:Nat):Cn:=⟨[.io true aC,.io true b8],[],true,false,fun x=>f k x.1 x.2.1⟩
def D (k:Nat):List Ce:=[q (bM.ctr k),q (ch.ctr k),q (dS.ctr k),q (dZ.ctr k),q (f_.ctr k),q (dh.ctr k),q (ac.ctr k)]
def E (k:Nat):cC:=en (D k) [] 2 [] k
theorem eq (k:Nat) (a0:Ty.den aC) (a1:Ty.den b8):rn (E k) Tryz.f114 (C k) (a0,a1,())=f k a0 a1:=by kernel_rfl
theorem ctr (k:Nat):Cp 114 (C k):=rc rfl (D k) (by kernel_rfl) Tryz.func114 (by kernel_rfl) rfl fun ⟨a0,a1,_⟩ r h=>(eq k a0 a1).trans h
end eh
namespace fW
def C (k:Nat):Cn:=⟨[.io true aC,.io true b8,.val am],[aA],true,false,fun x=>f k x.1 x.2.1 x.2.2.1⟩
def D (k:Nat):List Ce:=[q (fY.ctr k),q (gA.ctr k),q (eh.ctr k),q (bM.ctr k),q (cZ.ctr k)]
def E (k:Nat):cC:=en (D k) [] 2 [] k
theorem eq (k:Nat) (a0:Ty.den aC) (a1:Ty.den b8) (a2:Ty.den am):rn (E k) Tryz.f69 (C k) (a0,a1,a2,())=f k a0 a1 a2:=by kernel_rfl
theorem ctr (k:Nat):Cp 69 (C k):=rc rfl (D k) (by kernel_rfl) Tryz.func69 (by kernel_rfl) rfl fun ⟨a0,a1,a2,_⟩ r h=>(eq k a0 a1 a2).trans h
end fW
namespace gE
def C (k:Nat):Cn:=⟨[.give (.slice aA),.val (.slice af),.val (.slice aA)],[(.slice aA)],true,false,fun x=>f k x.1 x.2.1 x.2.2.1⟩
def D (k:Nat):List Ce:=[q (c_.ctr k),q (dH.ctr k)]
def E (k:Nat):cC:=en (D k) [(2,[0,2,9,10,11])] 0 [] k
section
variable (k:Nat) (a0:List (Ty.den aA)) (a1:List (Ty.den af)) (a2:List (Ty.den aA))
def K0:Ex→St→Rs:=cF (E k) (eK (E k) Tryz.f68 (C k) (a0,a1,a2,())) [.blk 0,.code (at_ (bt 2 3) (body Tryz.f68))]
def V0 (n0:Nat):T0:=fun x0 x1 x2 x3 x4=>ak (bf (E k) (at_ (bt 5 5) (body Tryz.f68))) (ai 0 [0,2,9,10,11]) (K0 k a0 a1 a2) n0 (mk 30 1 [(0,.ref 0),(2,.sl true aA x0),(9,.sl true af x1),(10,.int .i64 x2),(11,.int .i64 x3)] [(0,.own false aA x4)])
theorem s0 (n0:Nat):V0 k a0 a1 a2 (n0+1)=b0 k (V0 k a0 a1 a2 n0):=by kernel_rfl
theorem e0:V0 k a0 a1 a2=l0 k:=aW rfl (s0 k a0 a1 a2) fun _=>rfl
end
theorem eq (k:Nat) (a0:List (Ty.den aA)) (a1:List (Ty.den af)) (a2:List (Ty.den aA)):rn (E k) Tryz.f68 (C k) (a0,a1,a2,())=f k a0 a1 a2:=(show _=t k (V0 k a0 a1 a2 k) a0 a1 a2 by kernel_rfl).trans (by rw [e0];rfl)
theorem ctr (k:Nat):Cp 68 (C k):=rc rfl (D k) (by kernel_rfl) Tryz.func68 (by kernel_rfl) rfl fun ⟨a0,a1,a2,_⟩ r h=>(eq k a0 a1 a2).trans h
end gE
namespace bg
def C (k:Nat):Cn:=⟨[.io true aC,.io true b8,.val (.slice af)],[],true,false,fun x=>f k x.1 x.2.1 x.2.2.1⟩
def D (k:Nat):List Ce:=[q (cm.ctr k),q (fW.ctr k),q (bM.ctr k),q (ch.ctr k),q (gE.ctr k)]
def E (k:Nat):cC:=en (D k) [(4,[0,1,2,7,24,25,26])] 2 [] k
section
variable (k:Nat) (a0:Ty.den aC) (a1:Ty.den b8) (a2:List (Ty.den af))
def K0:Ex→St→Rs:=cF (E k) (eK (E k) Tryz.f27 (C k) (a0,a1,a2,())) [.blk 0,.code (at_ (bt 4 15) (body Tryz.f27))]
def V0 (n0:Nat):T0:=fun x0 x1 x2 x3 x4 x5 x6 x7 x8 x9 x10 x11 x12 x13 x14 x15=>ak (bf (E k) (at_ (bt 7 23) (body Tryz.f27))) (ai 2 [0,1,2,7,24,25,26]) (K0 k a0 a1 a2) n0 (mk 63 7 [(0,.ptr 0 0 0),(1,.ptr 1 0 0),(2,.sl true af x0),(7,.ref 5),(24,.ref 6),(25,.int .i64 x1),(26,.int .i64 x2)] [(2,.own false (.int .i64) x3),(3,.own false aA x4),(0,.box [.int .i64 x5,.ref 2,.ref 3,.int .i64 x6,.int .i64 x7,.int .i64 x8]),(4,.own false aD x9),(1,.box [.ref 4,.int .i64 x10,.int .i64 x11,.bool x12,.int .i64 x13]),(5,.own false aA x14),(6,.own false am x15)])
theorem s0 (n0:Nat):V0 k a0 a1 a2 (n0+1)=b0 k (V0 k a0 a1 a2 n0):=by kernel_rfl
theorem e0:V0 k a0 a1 a2=l0 k:=aW rfl (s0 k a0 a1 a2) fun _=>rfl
end
theorem eq (k:Nat) (a0:Ty.den aC) (a1:Ty.den b8) (a2:List (Ty.den af)):rn (E k) Tryz.f27 (C k) (a0,a1,a2,())=f k a0 a1 a2:=(show _=t k (V0 k a0 a1 a2 k) a0 a1 a2 by kernel_rfl).trans (by rw [e0];rfl)
theorem ctr (k:Nat):Cp 27 (C k):=rc rfl (D k) (by kernel_rfl) Tryz.func27 (by kernel_rfl) rfl fun ⟨a0,a1,a2,_⟩ r h=>(eq k a0 a1 a2).trans h
end bg
namespace jK
def C (k:Nat):Cn:=⟨[.val aC,.val a_,.val (.slice af)],[aC,a_,(.int .i64)],true,false,fun x=>f k x.1 x.2.1 x.2.2.1⟩
def D (k:Nat):List Ce:=[q (gp.ctr k),q (cH.ctr k),q (cU.ctr k),q (dc.ctr k),q (eI.ctr k),q (bg.ctr k)]
def E (k:Nat):cC:=en (D k) [] 0 [] k
theorem eq (k:Nat) (a0:Ty.den aC) (a1:Ty.den a_) (a2:List (Ty.den af)):rn (E k) Tryz.f6 (C k) (a0,a1,a2,())=f k a0 a1 a2:=by kernel_rfl
theorem ctr (k:Nat):Cp 6 (C k):=rc rfl (D k) (by kernel_rfl) Tryz.func6 (by kernel_rfl) rfl fun ⟨a0,a1,a2,_⟩ r h=>(eq k a0 a1 a2).trans h
end jK
namespace an
def C (k:Nat):Cn:=⟨[.val aC,.val aC],[.bool],true,false,fun x=>f k x.1 x.2.1⟩
def D (k:Nat):List Ce:=[q (cT.ctr k)]
def E (k:Nat):cC:=en (D k) [(4,[2,3,5])] 0 [] k
section
variable (k:Nat) (a0:Ty.den aC) (a1:Ty.den aC)
def K0:Ex→St→Rs:=cF (E k) (eK (E k) Tryz.f8 (C k) (a0,a1,())) [.blk 0,.code (at_ (bt 3 7) (body Tryz.f8))]
def V0 (n0:Nat):T0:=fun x0 x1 x2 x3 x4 x5 x6 x7 x8 x9 x10 x11 x12=>ak (bf (E k) (at_ (bt 6 11) (body Tryz.f8))) (ai 0 [2,3,5]) (K0 k a0 a1) n0 (mk 71 2 [(2,.ptr 0 0 0),(3,.ptr 1 0 0),(5,.int .i64 x0)] [(0,.box [.int .i64 x1,.sl true (.int .i64) x2,.sl true aA x3,.int .i64 x4,.int .i64 x5,.int .i64 x6]),(1,.box [.int .i64 x7,.sl true (.int .i64) x8,.sl true aA x9,.int .i64 x10,.int .i64 x11,.int .i64 x12])])
theorem s0 (n0:Nat):V0 k a0 a1 (n0+1)=b0 k (V0 k a0 a1 n0):=by kernel_rfl
theorem e0:V0 k a0 a1=l0 k:=aW rfl (s0 k a0 a1) fun _=>rfl
end
theorem eq (k:Nat) (a0:Ty.den aC) (a1:Ty.den aC):rn (E k) Tryz.f8 (C k) (a0,a1,())=f k a0 a1:=(show _=t k (V0 k a0 a1 k) a0 a1 by kernel_rfl).trans (by rw [e0];rfl)
theorem ctr (k:Nat):Cp 8 (C k):=rc rfl (D k) (by kernel_rfl) Tryz.func8 (by kernel_rfl) rfl fun ⟨a0,a1,_⟩ r h=>(eq k a0 a1).trans h
end an
namespace dY
def C (k:Nat):Cn:=⟨[.val a_,.val a_],[.bool],true,false,fun x=>f k x.1 x.2.1⟩
def E (k:Nat):cC:=en [] [(4,[2,3,5])] 0 [] k
section
variable (k:Nat) (a0:Ty.den a_) (a1:Ty.den a_)
def K0:Ex→St→Rs:=cF (E k) (eK (E k) Tryz.f9 (C k) (a0,a1,())) [.blk 0,.code (at_ (bt 3 7) (body Tryz.f9))]
def V0 (n0:Nat):T0:=fun x0 x1 x2 x3 x4 x5 x6 x7 x8=>ak (bf (E k) (at_ (bt 6 11) (body Tryz.f9))) (ai 0 [2,3,5]) (K0 k a0 a1) n0 (mk 52 2 [(2,.ptr 0 0 0),(3,.ptr 1 0 0),(5,.int .i64 x0)] [(0,.box [.sl true aD x1,.int .i64 x2,.int .i64 x3,.bool x4]),(1,.box [.sl true aD x5,.int .i64 x6,.int .i64 x7,.bool x8])])
theorem s0 (n0:Nat):V0 k a0 a1 (n0+1)=b0 k (V0 k a0 a1 n0):=by kernel_rfl
theorem e0:V0 k a0 a1=l0 k:=aW rfl (s0 k a0 a1) fun _=>rfl
end
theorem eq (k:Nat) (a0:Ty.den a_) (a1:Ty.den a_):rn (E k) Tryz.f9 (C k) (a0,a1,())=f k a0 a1:=(show _=t k (V0 k a0 a1 k) a0 a1 by kernel_rfl).trans (by rw [e0];rfl)
theorem ctr (k:Nat):Cp 9 (C k):=rc rfl [] (by kernel_rfl) Tryz.func9 (by kernel_rfl) rfl fun ⟨a0,a1,_⟩ r h=>(eq k a0 a1).trans h
end dY
namespace fC
def C (k:Nat):Cn:=⟨[.val (.slice aA)],[(.slice .str)],true,false,fun x=>f k x.1⟩
def E (k:Nat):cC:=en [] [(3,[3,6,7,8])] 0 [] k
section
variable (k:Nat) (a0:List (Ty.den aA))
def K0:Ex→St→Rs:=cF (E k) (eK (E k) Tryz.f34 (C k) (a0,())) [.blk 0,.code (at_ (bt 3 7) (body Tryz.f34))]
def V0 (n0:Nat):T0:=fun x0 x1 x2 x3=>ak (bf (E k) (at_ (bt 6 11) (body Tryz.f34))) (ai 0 [3,6,7,8]) (K0 k a0) n0 (mk 19 1 [(3,.ref 0),(6,.sl true aA x0),(7,.int .i64 x1),(8,.int .i64 x2)] [(0,.own false .str x3)])
theorem s0 (n0:Nat):V0 k a0 (n0+1)=b0 k (V0 k a0 n0):=by kernel_rfl
theorem e0:V0 k a0=l0 k:=aW rfl (s0 k a0) fun _=>rfl
end
theorem eq (k:Nat) (a0:List (Ty.den aA)):rn (E k) Tryz.f34 (C k) (a0,())=f k a0:=(show _=t k (V0 k a0 k) a0 by kernel_rfl).trans (by rw [e0];rfl)
theorem ctr (k:Nat):Cp 34 (C k):=rc rfl [] (by kernel_rfl) Tryz.func34 (by kernel_rfl) rfl fun ⟨a0,_⟩ r h=>(eq k a0).trans h
end fC
namespace fv
def C (k:Nat):Cn:=⟨[.val (.slice aA),.val .str],[aA,.bool],true,false,fun x=>f k x.1 x.2.1⟩
def E (k:Nat):cC:=en [] [(2,[1,4,8,9,10])] 0 [] k
section
variable (k:Nat) (a0:List (Ty.den aA)) (a1:ByteArray)
def K0:Ex→St→Rs:=cF (E k) (eK (E k) Tryz.f82 (C k) (a0,a1,())) [.blk 0,.code (at_ (bt 2 3) (body Tryz.f82))]
def V0 (n0:Nat):T0:=fun x0 x1 x2 x3 x4 x5 x6 x7 x8=>ak (bf (E k) (at_ (bt 5 5) (body Tryz.f82))) (ai 0 [1,4,8,9,10]) (K0 k a0 a1) n0 (mk 21 1 [(1,.str x0),(4,.ptr 0 0 0),(8,.sl true aA x1),(9,.int .i64 x2),(10,.int .i64 x3)] [(0,.box [.str x4,.int .i64 x5,.int .i64 x6,.int .i64 x7,.int .i64 x8])])
theorem s0 (n0:Nat):V0 k a0 a1 (n0+1)=b0 k (V0 k a0 a1 n0):=by kernel_rfl
theorem e0:V0 k a0 a1=l0 k:=aW rfl (s0 k a0 a1) fun _=>rfl
end
theorem eq (k:Nat) (a0:List (Ty.den aA)) (a1:ByteArray):rn (E k) Tryz.f82 (C k) (a0,a1,())=f k a0 a1:=(show _=t k (V0 k a0 a1 k) a0 a1 by kernel_rfl).trans (by rw [e0];rfl)
theorem ctr (k:Nat):Cp 82 (C k):=rc rfl [] (by kernel_rfl) Tryz.func82 (by kernel_rfl) rfl fun ⟨a0,a1,_⟩ r h=>(eq k a0 a1).trans h
end fv
namespace mK
def C (k:Nat):Cn:=⟨[.val aC,.val a_,.val .str],[aD,(.int .i64)],true,false,fun x=>f k x.1 x.2.1 x.2.2.1⟩
def D (k:Nat):List Ce:=[q (fv.ctr k),q (dS.ctr k),q (fP.ctr k),q (iw.ctr k)]
def E (k:Nat):cC:=en (D k) [] 0 [] k
theorem eq (k:Nat) (a0:Ty.den aC) (a1:Ty.den a_) (a2:ByteArray):rn (E k) Tryz.f35 (C k) (a0,a1,a2,())=f k a0 a1 a2:=by kernel_rfl
theorem ctr (k:Nat):Cp 35 (C k):=rc rfl (D k) (by kernel_rfl) Tryz.func35 (by kernel_rfl) rfl fun ⟨a0,a1,a2,_⟩ r h=>(eq k a0 a1 a2).trans h
end mK
namespace gw
def C (k:Nat):Cn:=⟨[.val aC,.val a_],[(.slice aD),(.int .i64)],true,false,fun x=>f k x.1 x.2.1⟩
def D (k:Nat):List Ce:=[q (fC.ctr k),q (mK.ctr k)]
def E (k:Nat):cC:=en (D k) [(3,[2,3,6,13,14,15])] 0 [] k
section
variable (k:Nat) (a0:Ty.den aC) (a1:Ty.den a_)
def K0:Ex→St→Rs:=cF (E k) (eK (E k) Tryz.f12 (C k) (a0,a1,())) [.blk 0,.code (at_ (bt 3 7) (body Tryz.f12))]
def V0 (n0:Nat):T0:=fun x0 x1 x2 x3 x4 x5 x6 x7 x8 x9 x10 x11 x12 x13=>ak (bf (E k) (at_ (bt 6 11) (body Tryz.f12))) (ai 0 [2,3,6,13,14,15]) (K0 k a0 a1) n0 (mk 35 4 [(2,.ptr 0 0 0),(3,.ptr 1 0 0),(6,.ref 2),(13,.ref 3),(14,.int .i64 x0),(15,.int .i64 x1)] [(0,.box [.int .i64 x2,.sl true (.int .i64) x3,.sl true aA x4,.int .i64 x5,.int .i64 x6,.int .i64 x7]),(1,.box [.sl true aD x8,.int .i64 x9,.int .i64 x10,.bool x11]),(2,.own false aD x12),(3,.own false .str x13)])
theorem s0 (n0:Nat):V0 k a0 a1 (n0+1)=b0 k (V0 k a0 a1 n0):=by kernel_rfl
theorem e0:V0 k a0 a1=l0 k:=aW rfl (s0 k a0 a1) fun _=>rfl
end
theorem eq (k:Nat) (a0:Ty.den aC) (a1:Ty.den a_):rn (E k) Tryz.f12 (C k) (a0,a1,())=f k a0 a1:=(show _=t k (V0 k a0 a1 k) a0 a1 by kernel_rfl).trans (by rw [e0];rfl)
theorem ctr (k:Nat):Cp 12 (C k):=rc rfl (D k) (by kernel_rfl) Tryz.func12 (by kernel_rfl) rfl fun ⟨a0,a1,_⟩ r h=>(eq k a0 a1).trans h
end gw
namespace ft
def C (k:Nat):Cn:=⟨[.val (.slice aD),.val aD,.val .bool],[(.slice aD)],true,false,fun x=>f k x.1 x.2.1 x.2.2.1⟩
def E (k:Nat):cC:=en [] [(4,[0,4,7,8,9])] 0 [] k
section
variable (k:Nat) (a0:List (Ty.den aD)) (a1:Ty.den aD) (a2:Bool)
def K0:Ex→St→Rs:=cF (E k) (eK (E k) Tryz.f36 (C k) (a0,a1,a2,())) [.blk 0,.code (at_ (bt 4 15) (body Tryz.f36))]
def V0 (n0:Nat):T0:=fun x0 x1 x2 x3 x4 x5 x6=>ak (bf (E k) (at_ (bt 7 23) (body Tryz.f36))) (ai 0 [0,4,7,8,9]) (K0 k a0 a1 a2) n0 (mk 56 2 [(0,.sl true aD x0),(4,.ptr 0 0 0),(7,.ref 1),(8,.bool x1),(9,.int .i64 x2)] [(0,.box [.str x3,.str x4,.int .i64 x5]),(1,.own false aD x6)])
theorem s0 (n0:Nat):V0 k a0 a1 a2 (n0+1)=b0 k (V0 k a0 a1 a2 n0):=by kernel_rfl
theorem e0:V0 k a0 a1 a2=l0 k:=aW rfl (s0 k a0 a1 a2) fun _=>rfl
end
theorem eq (k:Nat) (a0:List (Ty.den aD)) (a1:Ty.den aD) (a2:Bool):rn (E k) Tryz.f36 (C k) (a0,a1,a2,())=f k a0 a1 a2:=(show _=t k (V0 k a0 a1 a2 k) a0 a1 a2 by kernel_rfl).trans (by rw [e0];rfl)
theorem ctr (k:Nat):Cp 36 (C k):=rc rfl [] (by kernel_rfl) Tryz.func36 (by kernel_rfl) rfl fun ⟨a0,a1,a2,_⟩ r h=>(eq k a0 a1 a2).trans h
end ft
namespace gz
def C (k:Nat):Cn:=⟨[.val (.slice aD),.val (.slice af),.val (.int .i64)],[(.slice aD)],true,false,fun x=>f k x.1 x.2.1 x.2.2.1⟩
def D (k:Nat):List Ce:=[q (ft.ctr k)]
def E (k:Nat):cC:=en (D k) [(3,[1,2,7,8])] 0 [] k
section
variable (k:Nat) (a0:List (Ty.den aD)) (a1:List (Ty.den af)) (a2:Int)
def K0:Ex→St→Rs:=cF (E k) (eK (E k) Tryz.f14 (C k) (a0,a1,a2,())) [.blk 0,.code (at_ (bt 3 7) (body Tryz.f14))]
def V0 (n0:Nat):T0:=fun x0 x1 x2 x3=>ak (bf (E k) (at_ (bt 6 11) (body Tryz.f14))) (ai 0 [1,2,7,8]) (K0 k a0 a1 a2) n0 (mk 38 1 [(1,.sl true af x0),(2,.int .i64 x1),(7,.ref 0),(8,.int .i64 x2)] [(0,.own false aD x3)])
theorem s0 (n0:Nat):V0 k a0 a1 a2 (n0+1)=b0 k (V0 k a0 a1 a2 n0):=by kernel_rfl
theorem e0:V0 k a0 a1 a2=l0 k:=aW rfl (s0 k a0 a1 a2) fun _=>rfl
end
theorem eq (k:Nat) (a0:List (Ty.den aD)) (a1:List (Ty.den af)) (a2:Int):rn (E k) Tryz.f14 (C k) (a0,a1,a2,())=f k a0 a1 a2:=(show _=t k (V0 k a0 a1 a2 k) a0 a1 a2 by kernel_rfl).trans (by rw [e0];rfl)
theorem ctr (k:Nat):Cp 14 (C k):=rc rfl (D k) (by kernel_rfl) Tryz.func14 (by kernel_rfl) rfl fun ⟨a0,a1,a2,_⟩ r h=>(eq k a0 a1 a2).trans h
end gz
namespace cj
def C (k:Nat):Cn:=⟨[.val (.slice aD),.val (.slice aD)],[.bool],true,false,fun x=>f k x.1 x.2.1⟩
def E (k:Nat):cC:=en [] [(4,[0,1,5])] 0 [] k
section
variable (k:Nat) (a0:List (Ty.den aD)) (a1:List (Ty.den aD))
def K0:Ex→St→Rs:=cF (E k) (eK (E k) Tryz.f13 (C k) (a0,a1,())) [.blk 0,.code (at_ (bt 3 7) (body Tryz.f13))]
def V0 (n0:Nat):T0:=fun x0 x1 x2=>ak (bf (E k) (at_ (bt 6 11) (body Tryz.f13))) (ai 0 [0,1,5]) (K0 k a0 a1) n0 (mk 26 0 [(0,.sl true aD x0),(1,.sl true aD x1),(5,.int .i64 x2)] [])
theorem s0 (n0:Nat):V0 k a0 a1 (n0+1)=b0 k (V0 k a0 a1 n0):=by kernel_rfl
theorem e0:V0 k a0 a1=l0 k:=aW rfl (s0 k a0 a1) fun _=>rfl
end
theorem eq (k:Nat) (a0:List (Ty.den aD)) (a1:List (Ty.den aD)):rn (E k) Tryz.f13 (C k) (a0,a1,())=f k a0 a1:=(show _=t k (V0 k a0 a1 k) a0 a1 by kernel_rfl).trans (by rw [e0];rfl)
theorem ctr (k:Nat):Cp 13 (C k):=rc rfl [] (by kernel_rfl) Tryz.func13 (by kernel_rfl) rfl fun ⟨a0,a1,_⟩ r h=>(eq k a0 a1).trans h
end cj
namespace cI
def C (k:Nat):Cn:=⟨[.val aC,.val (.slice af)],[G2],true,false,fun x=>f k x.1 x.2.1⟩
def D (k:Nat):List Ce:=[q (dc.ctr k),q (ay.ctr k),q (cm.ctr k),q (fY.ctr k),q (gA.ctr k)]
def E (k:Nat):cC:=en (D k) [(6,[4,5,6,36,37,38])] 0 [] k
section
variable (k:Nat) (a0:Ty.den aC) (a1:List (Ty.den af))
def K0:Ex→St→Rs:=cF (E k) (eK (E k) Tryz.f16 (C k) (a0,a1,())) [.blk 0,.code (at_ (bt 5 31) (body Tryz.f16))]
def V0 (n0:Nat):T0:=fun x0 x1 x2 x3 x4 x5 x6 x7=>ak (bf (E k) (at_ (bt 8 47) (body Tryz.f16))) (ai 0 [4,5,6,36,37,38]) (K0 k a0 a1) n0 (mk 72 3 [(4,.ptr 0 0 0),(5,.ptr 1 0 0),(6,.int .i64 x0),(36,.ref 2),(37,.int .i64 x1),(38,.int .i64 x2)] [(0,.box [.int .i64 x3,.int .i64 x4]),(1,.box [.int .i64 x5,.int .i64 x6]),(2,.own false am x7)])
theorem s0 (n0:Nat):V0 k a0 a1 (n0+1)=b0 k (V0 k a0 a1 n0):=by kernel_rfl
theorem e0:V0 k a0 a1=l0 k:=aW rfl (s0 k a0 a1) fun _=>rfl
end
theorem eq (k:Nat) (a0:Ty.den aC) (a1:List (Ty.den af)):rn (E k) Tryz.f16 (C k) (a0,a1,())=f k a0 a1:=(show _=t k (V0 k a0 a1 k) a0 a1 by kernel_rfl).trans (by rw [e0];rfl)
theorem ctr (k:Nat):Cp 16 (C k):=rc rfl (D k) (by kernel_rfl) Tryz.func16 (by kernel_rfl) rfl fun ⟨a0,a1,_⟩ r h=>(eq k a0 a1).trans h
end cI
namespace aZ
def C (k:Nat):Cn:=⟨[.val aC,.val a_],[(.int .i64)],true,false,fun x=>f k x.1 x.2.1⟩
def D (k:Nat):List Ce:=[q (aS.ctr k),q (bJ.ctr k)]
def E (k:Nat):cC:=en (D k) [(3,[2,3,5,6])] 0 [] k
section
variable (k:Nat) (a0:Ty.den aC) (a1:Ty.den a_)
def K0:Ex→St→Rs:=cF (E k) (eK (E k) Tryz.f18 (C k) (a0,a1,())) [.blk 0,.code (at_ (bt 3 7) (body Tryz.f18))]
def V0 (n0:Nat):T0:=fun x0 x1 x2 x3 x4 x5 x6 x7 x8 x9 x10 x11=>ak (bf (E k) (at_ (bt 6 11) (body Tryz.f18))) (ai 0 [2,3,5,6]) (K0 k a0 a1) n0 (mk 38 2 [(2,.ptr 0 0 0),(3,.ptr 1 0 0),(5,.int .i64 x0),(6,.int .i64 x1)] [(0,.box [.int .i64 x2,.sl true (.int .i64) x3,.sl true aA x4,.int .i64 x5,.int .i64 x6,.int .i64 x7]),(1,.box [.sl true aD x8,.int .i64 x9,.int .i64 x10,.bool x11])])
theorem s0 (n0:Nat):V0 k a0 a1 (n0+1)=b0 k (V0 k a0 a1 n0):=by kernel_rfl
theorem e0:V0 k a0 a1=l0 k:=aW rfl (s0 k a0 a1) fun _=>rfl
end
theorem eq (k:Nat) (a0:Ty.den aC) (a1:Ty.den a_):rn (E k) Tryz.f18 (C k) (a0,a1,())=f k a0 a1:=(show _=t k (V0 k a0 a1 k) a0 a1 by kernel_rfl).trans (by rw [e0];rfl)
theorem ctr (k:Nat):Cp 18 (C k):=rc rfl (D k) (by kernel_rfl) Tryz.func18 (by kernel_rfl) rfl fun ⟨a0,a1,_⟩ r h=>(eq k a0 a1).trans h
end aZ
namespace fV
def C (k:Nat):Cn:=⟨[.val (.slice (.int .u8))],[.bool],true,false,fun x=>f k x.1⟩
def D (k:Nat):List Ce:=[q (od.ctr k),q (gL.ctr k),q (jK.ctr k),q (jS.ctr k),q (an.ctr k),q (dY.ctr k),q (cT.ctr k),q (gF.ctr k),q (gw.ctr k),q (gz.ctr k),q (cj.ctr k),q (bF.ctr k),q (cI.ctr k),q (b9.ctr k),q (aZ.ctr k)]
def E (k:Nat):cC:=en (D k) [] 0 [] k
theorem eq (k:Nat) (a0:List Int):rn (E k) Tryz.f3 (C k) (a0,())=f k a0:=by kernel_rfl
theorem ctr (k:Nat):Cp 3 (C k):=rc rfl (D k) (by kernel_rfl) Tryz.func3 (by kernel_rfl) rfl fun ⟨a0,_⟩ r h=>(eq k a0).trans h
end fV
end
end Go.Proofs.YtdbekilnpjmeaaaGreatDoor.G

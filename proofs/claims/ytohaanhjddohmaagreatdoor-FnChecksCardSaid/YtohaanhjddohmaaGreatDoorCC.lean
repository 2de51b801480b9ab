/- Functions keep their contracts. -/
import Derived.Test.YtohaanhjddohmaaGreatDoorVTab
import Derived.Test.YtohaanhjddohmaaGreatDoorFC
import Derived.Test.YtohaanhjddohmaaGreatDoorCLib
set_option linter.unusedVariables false
set_option maxRecDepth 100000
namespace Go.Proofs.YtohaanhjddohmaaGreatDoor.G
open Go.V
noncomputable section
namespace p6
def C (k:Nat):Cn:=⟨[.val (.slice (.int .u8))],[.bool],true,false,fun x=>f k x.1⟩
def E (k:Nat):cL:=en [] [] 0 [] k
theorem eq (k:Nat) (a0:List Int):rn (E k) Tryz.f5 (C k) (a0,())=f k a0:=by kernel_rfl
theorem ctr (k:Nat):Cp 5 (C k):=rc rfl [] (by kernel_rfl) Tryz.func5 (by kernel_rfl) rfl fun ⟨a0,_⟩ r h=>(eq k a0).trans h
end p6
namespace gO
def C (k:Nat):Cn:=⟨[.val (.slice (.int .u8))],[.opq,ai],false,true,fun x=>f k x.1⟩
def E (k:Nat):cL:=en [] [(3,[0,3,4])] 0 [] k
section
variable (k:Nat) (a0:List Int)
def K0:Ex→St→Rs:=bv (E k) (eB (E k) Tryz.f18 (C k) (a0,())) [.blk 0,.code (at_ (bt 3 7) (body Tryz.f18))]
def V0 (n0:Nat):T0:=fun x0 x1 x2=>ar (bY (E k) (at_ (bt 6 11) (body Tryz.f18))) (am 0 [0,3,4]) (K0 k a0) n0 (mk 32 0 [(0,.sl true (.int .u8) x0),(3,.int .i64 x1),(4,.int .i64 x2)] [])
theorem s0 (n0:Nat):V0 k a0 (n0+1)=b0 k (V0 k a0 n0):=by kernel_rfl
theorem e0:V0 k a0=l0 k:=aW rfl (s0 k a0) fun _=>rfl
end
theorem eq (k:Nat) (a0:List Int):rb (E k) Tryz.f18 (C k) (a0,())=f k a0:=(show _=t k (V0 k a0 k) a0 by kernel_rfl).trans (by rw [e0];rfl)
theorem ctr (k:Nat):Cp 18 (C k):=Kl rfl rfl rfl [] (by kernel_rfl) Tryz.func18 (by kernel_rfl) rfl fun ⟨a0,_⟩ r h=>(eq k a0).trans h
end gO
namespace aX
def C (k:Nat):Cn:=⟨[.val (.int .i64),.val (.int .i64),.val (.int .i64)],[.bool],true,false,fun x=>f k x.1 x.2.1 x.2.2.1⟩
def E (k:Nat):cL:=en [] [] 0 [] k
theorem eq (k:Nat) (a0:Int) (a1:Int) (a2:Int):rn (E k) Tryz.f49 (C k) (a0,a1,a2,())=f k a0 a1 a2:=by kernel_rfl
theorem ctr (k:Nat):Cp 49 (C k):=rc rfl [] (by kernel_rfl) Tryz.func49 (by kernel_rfl) rfl fun ⟨a0,a1,a2,_⟩ r h=>(eq k a0 a1 a2).trans h
end aX
namespace eM
def C (k:Nat):Cn:=⟨[.val (.int .i64)],[a_],true,false,fun x=>f k x.1⟩
def D (k:Nat):List Ce:=[q (aX.ctr k)]
def E (k:Nat):cL:=en (D k) [] 0 [] k
theorem eq (k:Nat) (a0:Int):rn (E k) Tryz.f84 (C k) (a0,())=f k a0:=by kernel_rfl
theorem ctr (k:Nat):Cp 84 (C k):=rc rfl (D k) (by kernel_rfl) Tryz.func84 (by kernel_rfl) rfl fun ⟨a0,_⟩ r h=>(eq k a0).trans h
end eM
namespace df
def C (k:Nat):Cn:=⟨[.io false ai],[(.int .i64)],true,true,fun x=>f k x.1⟩
def E (k:Nat):cL:=en [] [] 1 [] k
theorem eq (k:Nat) (a0:Ty.den ai):rn (E k) Tryz.f117 (C k) (a0,())=f k a0:=by kernel_rfl
theorem ctr (k:Nat):Cp 117 (C k):=rc rfl [] (by kernel_rfl) Tryz.func117 (by kernel_rfl) rfl fun ⟨a0,_⟩ r h=>(eq k a0).trans h
end df
namespace aH
def C (k:Nat):Cn:=⟨[.io false ai,.val (.int .i64)],[(.int .i64)],true,true,fun x=>f k x.1 x.2.1⟩
def D (k:Nat):List Ce:=[q (df.ctr k)]
def E (k:Nat):cL:=en (D k) [] 1 [] k
theorem eq (k:Nat) (a0:Ty.den ai) (a1:Int):rn (E k) Tryz.f53 (C k) (a0,a1,())=f k a0 a1:=by kernel_rfl
theorem ctr (k:Nat):Cp 53 (C k):=rc rfl (D k) (by kernel_rfl) Tryz.func53 (by kernel_rfl) rfl fun ⟨a0,a1,_⟩ r h=>(eq k a0 a1).trans h
end aH
namespace gJ
def C (k:Nat):Cn:=⟨[.io false ai],[bA],true,true,fun x=>f k x.1⟩
def D (k:Nat):List Ce:=[q (aH.ctr k)]
def E (k:Nat):cL:=en (D k) [(4,[0,2,3,4,5])] 1 [] k
section
variable (k:Nat) (a0:Ty.den ai)
def K0:Ex→St→Rs:=bv (E k) (eK (E k) Tryz.f85 (C k) (a0,())) [.blk 0,.code (at_ (bt 4 15) (body Tryz.f85))]
def V0 (n0:Nat):T0:=fun x0 x1 x2 x3 x4 x5 x6 x7 x8=>ar (bY (E k) (at_ (bt 7 23) (body Tryz.f85))) (am 1 [0,2,3,4,5]) (K0 k a0) n0 (mk 32 5 [(0,.ptr 0 0 0),(2,.ptr 1 0 0),(3,.ptr 3 0 0),(4,.int .i64 x0),(5,.int .i64 x1)] [(0,.box [.sl true (.int .u8) x2,.int .i64 x3,.int .i64 x4]),(2,.own false (.int .i64) x5),(1,.box [.int .i64 x6,.ref 2]),(4,.own false (.int .i64) x7),(3,.box [.int .i64 x8,.ref 4])])
theorem s0 (n0:Nat):V0 k a0 (n0+1)=b0 k (V0 k a0 n0):=by kernel_rfl
theorem e0:V0 k a0=l0 k:=aW rfl (s0 k a0) fun _=>rfl
end
theorem eq (k:Nat) (a0:Ty.den ai):rn (E k) Tryz.f85 (C k) (a0,())=f k a0:=(show _=t k (V0 k a0 k) a0 by kernel_rfl).trans (by rw [e0];rfl)
theorem ctr (k:Nat):Cp 85 (C k):=rc rfl (D k) (by kernel_rfl) Tryz.func85 (by kernel_rfl) rfl fun ⟨a0,_⟩ r h=>(eq k a0).trans h
end gJ
namespace bB
def C (k:Nat):Cn:=⟨[.io false ai,.val (.int .i64)],[.bool],true,true,fun x=>f k x.1 x.2.1⟩
def D (k:Nat):List Ce:=[q (aH.ctr k)]
def E (k:Nat):cL:=en (D k) [] 1 [] k
theorem eq (k:Nat) (a0:Ty.den ai) (a1:Int):rn (E k) Tryz.f38 (C k) (a0,a1,())=f k a0 a1:=by kernel_rfl
theorem ctr (k:Nat):Cp 38 (C k):=rc rfl (D k) (by kernel_rfl) Tryz.func38 (by kernel_rfl) rfl fun ⟨a0,a1,_⟩ r h=>(eq k a0 a1).trans h
end bB
namespace eI
def C (k:Nat):Cn:=⟨[.io false ai,.val (.slice .str)],[.str],true,true,fun x=>f k x.1 x.2.1⟩
def D (k:Nat):List Ce:=[q (aH.ctr k)]
def E (k:Nat):cL:=en (D k) [] 1 [] k
theorem eq (k:Nat) (a0:Ty.den ai) (a1:List ByteArray):rn (E k) Tryz.f120 (C k) (a0,a1,())=f k a0 a1:=by kernel_rfl
theorem ctr (k:Nat):Cp 120 (C k):=rc rfl (D k) (by kernel_rfl) Tryz.func120 (by kernel_rfl) rfl fun ⟨a0,a1,_⟩ r h=>(eq k a0 a1).trans h
end eI
namespace eP
def C (k:Nat):Cn:=⟨[.io false ai],[.str],true,true,fun x=>f k x.1⟩
def D (k:Nat):List Ce:=[q (eI.ctr k)]
def E (k:Nat):cL:=en (D k) [] 1 [] k
theorem eq (k:Nat) (a0:Ty.den ai):rn (E k) Tryz.f148 (C k) (a0,())=f k a0:=by kernel_rfl
theorem ctr (k:Nat):Cp 148 (C k):=rc rfl (D k) (by kernel_rfl) Tryz.func148 (by kernel_rfl) rfl fun ⟨a0,_⟩ r h=>(eq k a0).trans h
end eP
namespace b9
def C (k:Nat):Cn:=⟨[.io false ai,.val (.int .i64)],[.str],true,true,fun x=>f k x.1 x.2.1⟩
def D (k:Nat):List Ce:=[q (aH.ctr k),q (df.ctr k)]
def E (k:Nat):cL:=en (D k) [(4,[0,5,6,7])] 1 [] k
section
variable (k:Nat) (a0:Ty.den ai) (a1:Int)
def K0:Ex→St→Rs:=bv (E k) (eK (E k) Tryz.f149 (C k) (a0,a1,())) [.blk 0,.code (at_ (bt 4 15) (body Tryz.f149))]
def V0 (n0:Nat):T0:=fun x0 x1 x2 x3 x4 x5=>ar (bY (E k) (at_ (bt 7 23) (body Tryz.f149))) (am 1 [0,5,6,7]) (K0 k a0 a1) n0 (mk 38 2 [(0,.ptr 0 0 0),(5,.ref 1),(6,.int .i64 x0),(7,.int .i64 x1)] [(0,.box [.sl true (.int .u8) x2,.int .i64 x3,.int .i64 x4]),(1,.own false (.int .u8) x5)])
theorem s0 (n0:Nat):V0 k a0 a1 (n0+1)=b0 k (V0 k a0 a1 n0):=by kernel_rfl
theorem e0:V0 k a0 a1=l0 k:=aW rfl (s0 k a0 a1) fun _=>rfl
end
theorem eq (k:Nat) (a0:Ty.den ai) (a1:Int):rn (E k) Tryz.f149 (C k) (a0,a1,())=f k a0 a1:=(show _=t k (V0 k a0 a1 k) a0 a1 by kernel_rfl).trans (by rw [e0];rfl)
theorem ctr (k:Nat):Cp 149 (C k):=rc rfl (D k) (by kernel_rfl) Tryz.func149 (by kernel_rfl) rfl fun ⟨a0,a1,_⟩ r h=>(eq k a0 a1).trans h
end b9
namespace eO
def C (k:Nat):Cn:=⟨[.val .str],[.bool],true,false,fun x=>f k x.1⟩
def D (k:Nat):List Ce:=[q (aX.ctr k)]
def E (k:Nat):cL:=en (D k) [] 0 [] k
theorem eq (k:Nat) (a0:ByteArray):rn (E k) Tryz.f197 (C k) (a0,())=f k a0:=by kernel_rfl
theorem ctr (k:Nat):Cp 197 (C k):=rc rfl (D k) (by kernel_rfl) Tryz.func197 (by kernel_rfl) rfl fun ⟨a0,_⟩ r h=>(eq k a0).trans h
end eO
namespace kM
def C (k:Nat):Cn:=⟨[.val bU],[.bool],true,false,fun x=>f k x.1⟩
def D (k:Nat):List Ce:=[q (aX.ctr k),q (eO.ctr k)]
def E (k:Nat):cL:=en (D k) [] 0 [] k
theorem eq (k:Nat) (a0:Ty.den bU):rn (E k) Tryz.f154 (C k) (a0,())=f k a0:=by kernel_rfl
theorem ctr (k:Nat):Cp 154 (C k):=rc rfl (D k) (by kernel_rfl) Tryz.func154 (by kernel_rfl) rfl fun ⟨a0,_⟩ r h=>(eq k a0).trans h
end kM
namespace bi
def C (k:Nat):Cn:=⟨[.val (.int .i64)],[.str],true,false,fun x=>f k x.1⟩
def D (k:Nat):List Ce:=[q (aX.ctr k)]
def E (k:Nat):cL:=en (D k) [(4,[0,3])] 0 [] k
section
variable (k:Nat) (a0:Int)
def K0:Ex→St→Rs:=bv (E k) (eK (E k) Tryz.f151 (C k) (a0,())) [.blk 0,.code (at_ (bt 4 15) (body Tryz.f151))]
def V0 (n0:Nat):T0:=fun x0 x1=>ar (bY (E k) (at_ (bt 6 7) (body Tryz.f151))) (am 0 [0,3]) (K0 k a0) n0 (mk 25 1 [(0,.int .i64 x0),(3,.ref 0)] [(0,.own false (.int .u8) x1)])
theorem s0 (n0:Nat):V0 k a0 (n0+1)=b0 k (V0 k a0 n0):=by kernel_rfl
theorem e0:V0 k a0=l0 k:=aW rfl (s0 k a0) fun _=>rfl
end
theorem eq (k:Nat) (a0:Int):rn (E k) Tryz.f151 (C k) (a0,())=f k a0:=(show _=t k (V0 k a0 k) a0 by kernel_rfl).trans (by rw [e0];rfl)
theorem ctr (k:Nat):Cp 151 (C k):=rc rfl (D k) (by kernel_rfl) Tryz.func151 (by kernel_rfl) rfl fun ⟨a0,_⟩ r h=>(eq k a0).trans h
end bi
namespace dU
def C (k:Nat):Cn:=⟨[.val (.int .i64),.val (.int .i64)],[.str],true,false,fun x=>f k x.1 x.2.1⟩
def D (k:Nat):List Ce:=[q (aX.ctr k)]
def E (k:Nat):cL:=en (D k) [(5,[0,1,5,6])] 0 [] k
section
variable (k:Nat) (a0:Int) (a1:Int)
def K0:Ex→St→Rs:=bv (E k) (eK (E k) Tryz.f152 (C k) (a0,a1,())) [.blk 0,.code (at_ (bt 4 15) (body Tryz.f152))]
def V0 (n0:Nat):T0:=fun x0 x1 x2 x3=>ar (bY (E k) (at_ (bt 7 23) (body Tryz.f152))) (am 0 [0,1,5,6]) (K0 k a0 a1) n0 (mk 31 0 [(0,.int .i64 x0),(1,.int .i64 x1),(5,.str x2),(6,.int .i64 x3)] [])
theorem s0 (n0:Nat):V0 k a0 a1 (n0+1)=b0 k (V0 k a0 a1 n0):=by kernel_rfl
theorem e0:V0 k a0 a1=l0 k:=aW rfl (s0 k a0 a1) fun _=>rfl
end
theorem eq (k:Nat) (a0:Int) (a1:Int):rn (E k) Tryz.f152 (C k) (a0,a1,())=f k a0 a1:=(show _=t k (V0 k a0 a1 k) a0 a1 by kernel_rfl).trans (by rw [e0];rfl)
theorem ctr (k:Nat):Cp 152 (C k):=rc rfl (D k) (by kernel_rfl) Tryz.func152 (by kernel_rfl) rfl fun ⟨a0,a1,_⟩ r h=>(eq k a0 a1).trans h
end dU
namespace bL
def C (k:Nat):Cn:=⟨[.val bU],[.str],true,false,fun x=>f k x.1⟩
def D (k:Nat):List Ce:=[q (kM.ctr k),q (bi.ctr k),q (dU.ctr k)]
def E (k:Nat):cL:=en (D k) [] 0 [] k
theorem eq (k:Nat) (a0:Ty.den bU):rn (E k) Tryz.f89 (C k) (a0,())=f k a0:=by kernel_rfl
theorem ctr (k:Nat):Cp 89 (C k):=rc rfl (D k) (by kernel_rfl) Tryz.func89 (by kernel_rfl) rfl fun ⟨a0,_⟩ r h=>(eq k a0).trans h
end bL
namespace gE
def C (k:Nat):Cn:=⟨[.val .str],[(.int .i64)],true,false,fun x=>f k x.1⟩
def E (k:Nat):cL:=en [] [(3,[0,3,4]),(7,[0,3,4,5])] 0 [] k
section
variable (k:Nat) (a0:ByteArray)
def K0:Ex→St→Rs:=bv (E k) (eK (E k) Tryz.f153 (C k) (a0,())) [.blk 0,.code (at_ (bt 3 7) (body Tryz.f153))]
def B0 (n0:Nat):Ex→St→Rs:=JY (E k) (at_ (bt 6 11) (body Tryz.f153)) 0 [0,3,4] (K0 k a0) n0
def K1 (n0:Nat):Ex→St→Rs:=bv (E k) (B0 k a0 n0) [.blk 2,.blk 1,.code (at_ (bt 8 203) (body Tryz.f153))]
def V0 (n0:Nat):T0:=fun x0 x1 x2=>ar (bY (E k) (at_ (bt 6 11) (body Tryz.f153))) (am 0 [0,3,4]) (K0 k a0) n0 (mk 33 0 [(0,.str x0),(3,.int .i64 x1),(4,.int .i64 x2)] [])
def V1 (n0 n1:Nat):T1:=fun x0 x1 x2 x3=>ar (bY (E k) (at_ (bt 13 1611) (body Tryz.f153))) (am 0 [0,3,4,5]) (K1 k a0 n0) n1 (mk 33 0 [(0,.str x0),(3,.int .i64 x1),(4,.int .i64 x2),(5,.int .i64 x3)] [])
theorem s0 (n0:Nat):V0 k a0 (n0+1)=b0 k (V1 k a0 n0 k) (V0 k a0 n0):=by kernel_rfl
theorem s1 (n0 n1:Nat):V1 k a0 n0 (n1+1)=b1 k (V0 k a0 n0) (V1 k a0 n0 n1):=by kernel_rfl
theorem e1 (n0:Nat):V1 k a0 n0=l1 k (V0 k a0 n0):=aW rfl (s1 k a0 n0) fun _=>rfl
theorem e0 (n0:Nat):V0 k a0 n0=l0 k n0:=by
 induction n0 with
 | zero=>rfl
 | succ n0 ih =>
  have h:V0 k a0 (n0+1)=b0 k (V1 k a0 n0 k) (V0 k a0 n0):=s0 k a0 n0
  rw [h,e1,ih]
  rfl
end
theorem eq (k:Nat) (a0:ByteArray):rn (E k) Tryz.f153 (C k) (a0,())=f k a0:=(show _=t k (V0 k a0 k) a0 by kernel_rfl).trans (by rw [e0];rfl)
theorem ctr (k:Nat):Cp 153 (C k):=rc rfl [] (by kernel_rfl) Tryz.func153 (by kernel_rfl) rfl fun ⟨a0,_⟩ r h=>(eq k a0).trans h
end gE
namespace g9
def C (k:Nat):Cn:=⟨[.val (.slice bU)],[(.int .i64)],true,false,fun x=>f k x.1⟩
def D (k:Nat):List Ce:=[q (bL.ctr k),q (gE.ctr k)]
def E (k:Nat):cL:=en (D k) [(3,[0,3,4])] 0 [] k
section
variable (k:Nat) (a0:List (Ty.den bU))
def K0:Ex→St→Rs:=bv (E k) (eK (E k) Tryz.f155 (C k) (a0,())) [.blk 0,.code (at_ (bt 3 7) (body Tryz.f155))]
def V0 (n0:Nat):T0:=fun x0 x1 x2=>ar (bY (E k) (at_ (bt 6 11) (body Tryz.f155))) (am 0 [0,3,4]) (K0 k a0) n0 (mk 20 0 [(0,.sl true bU x0),(3,.str x1),(4,.int .i64 x2)] [])
theorem s0 (n0:Nat):V0 k a0 (n0+1)=b0 k (V0 k a0 n0):=by kernel_rfl
theorem e0:V0 k a0=l0 k:=aW rfl (s0 k a0) fun _=>rfl
end
theorem eq (k:Nat) (a0:List (Ty.den bU)):rn (E k) Tryz.f155 (C k) (a0,())=f k a0:=(show _=t k (V0 k a0 k) a0 by kernel_rfl).trans (by rw [e0];rfl)
theorem ctr (k:Nat):Cp 155 (C k):=rc rfl (D k) (by kernel_rfl) Tryz.func155 (by kernel_rfl) rfl fun ⟨a0,_⟩ r h=>(eq k a0).trans h
end g9
namespace eo
def C (k:Nat):Cn:=⟨[.val (.slice bU),.val (.int .i64),.val (.int .i64)],[bU],true,false,fun x=>f k x.1 x.2.1 x.2.2.1⟩
def D (k:Nat):List Ce:=[q (g9.ctr k)]
def E (k:Nat):cL:=en (D k) [] 0 [] k
theorem eq (k:Nat) (a0:List (Ty.den bU)) (a1:Int) (a2:Int):rn (E k) Tryz.f150 (C k) (a0,a1,a2,())=f k a0 a1 a2:=by kernel_rfl
theorem ctr (k:Nat):Cp 150 (C k):=rc rfl (D k) (by kernel_rfl) Tryz.func150 (by kernel_rfl) rfl fun ⟨a0,a1,a2,_⟩ r h=>(eq k a0 a1 a2).trans h
end eo
namespace ab
def C (k:Nat):Cn:=⟨[.io false ai],[(.slice aC)],true,true,fun x=>f k x.1⟩
def D (k:Nat):List Ce:=[q (bB.ctr k),q (aH.ctr k),q (eP.ctr k),q (b9.ctr k),q (eo.ctr k)]
def E (k:Nat):cL:=en (D k) [(7,[0,3,4,5,6,7]),(12,[0,3,4,5,6,8]),(19,[0,3,4,5,9]),(24,[0,3,4,5,9,10,11]),(31,[0,3,4,5,9,10,13])] 1 [] k
section
variable (k:Nat) (a0:Ty.den ai)
def K0:Ex→St→Rs:=bv (E k) (eK (E k) Tryz.f86 (C k) (a0,())) [.blk 0,.code (at_ (bt 9 431) (body Tryz.f86)),.code (at_ (bt 5 31) (body Tryz.f86))]
def K1:Ex→St→Rs:=bv (E k) (eK (E k) Tryz.f86 (C k) (a0,())) [.blk 2,.code (at_ (bt 10 943) (body Tryz.f86)),.code (at_ (bt 5 31) (body Tryz.f86))]
def K2:Ex→St→Rs:=bv (E k) (eK (E k) Tryz.f86 (C k) (a0,())) [.blk 4,.code (at_ (bt 6 63) (body Tryz.f86))]
def B2 (n2:Nat):Ex→St→Rs:=JY (E k) (at_ (bt 9 95) (body Tryz.f86)) 1 [0,3,4,5,9] (K2 k a0) n2
def K3 (n2:Nat):Ex→St→Rs:=bv (E k) (B2 k a0 n2) [.blk 6,.code (at_ (bt 15 29279) (body Tryz.f86)),.blk 5,.code (at_ (bt 11 1631) (body Tryz.f86))]
def K4 (n2:Nat):Ex→St→Rs:=bv (E k) (B2 k a0 n2) [.blk 8,.code (at_ (bt 16 62047) (body Tryz.f86)),.blk 5,.code (at_ (bt 11 1631) (body Tryz.f86))]
def V0 (n0:Nat):T0:=fun x0 x1 x2 x3 x4 x5 x6 x7=>ar (bY (E k) (at_ (bt 12 687) (body Tryz.f86))) (am 1 [0,3,4,5,6,7]) (K0 k a0) n0 (mk 144 3 [(0,.ptr 0 0 0),(3,.ref 1),(4,.int .i64 x0),(5,.int .i64 x1),(6,.ref 2),(7,.int .i64 x2)] [(0,.box [.sl true (.int .u8) x3,.int .i64 x4,.int .i64 x5]),(1,.own false aC x6),(2,.own false bU x7)])
def V1 (n1:Nat):T1:=fun x0 x1 x2 x3 x4 x5 x6 x7=>ar (bY (E k) (at_ (bt 13 1455) (body Tryz.f86))) (am 1 [0,3,4,5,6,8]) (K1 k a0) n1 (mk 144 3 [(0,.ptr 0 0 0),(3,.ref 1),(4,.int .i64 x0),(5,.int .i64 x1),(6,.ref 2),(8,.int .i64 x2)] [(0,.box [.sl true (.int .u8) x3,.int .i64 x4,.int .i64 x5]),(1,.own false aC x6),(2,.own false bU x7)])
def V2 (n2:Nat):T2:=fun x0 x1 x2 x3 x4 x5 x6=>ar (bY (E k) (at_ (bt 9 95) (body Tryz.f86))) (am 1 [0,3,4,5,9]) (K2 k a0) n2 (mk 144 2 [(0,.ptr 0 0 0),(3,.ref 1),(4,.int .i64 x0),(5,.int .i64 x1),(9,.int .i64 x2)] [(0,.box [.sl true (.int .u8) x3,.int .i64 x4,.int .i64 x5]),(1,.own false aC x6)])
def V3 (n2 n3:Nat):T3:=fun x0 x1 x2 x3 x4 x5 x6 x7 x8=>ar (bY (E k) (at_ (bt 18 45663) (body Tryz.f86))) (am 1 [0,3,4,5,9,10,11]) (K3 k a0 n2) n3 (mk 144 3 [(0,.ptr 0 0 0),(3,.ref 1),(4,.int .i64 x0),(5,.int .i64 x1),(9,.int .i64 x2),(10,.ref 2),(11,.int .i64 x3)] [(0,.box [.sl true (.int .u8) x4,.int .i64 x5,.int .i64 x6]),(1,.own false aC x7),(2,.own false bU x8)])
def V4 (n2 n4:Nat):T4:=fun x0 x1 x2 x3 x4 x5 x6 x7 x8=>ar (bY (E k) (at_ (bt 19 94815) (body Tryz.f86))) (am 1 [0,3,4,5,9,10,13]) (K4 k a0 n2) n4 (mk 144 3 [(0,.ptr 0 0 0),(3,.ref 1),(4,.int .i64 x0),(5,.int .i64 x1),(9,.int .i64 x2),(10,.ref 2),(13,.int .i64 x3)] [(0,.box [.sl true (.int .u8) x4,.int .i64 x5,.int .i64 x6]),(1,.own false aC x7),(2,.own false bU x8)])
theorem s0 (n0:Nat):V0 k a0 (n0+1)=b0 k (V1 k a0 k) (V0 k a0 n0):=by kernel_rfl
theorem s1 (n1:Nat):V1 k a0 (n1+1)=b1 k (V2 k a0 k) (V1 k a0 n1):=by kernel_rfl
theorem s2 (n2:Nat):V2 k a0 (n2+1)=b2 k (V3 k a0 n2 k) (V2 k a0 n2):=by kernel_rfl
theorem s3 (n2 n3:Nat):V3 k a0 n2 (n3+1)=b3 k (V4 k a0 n2 k) (V2 k a0 n2) (V3 k a0 n2 n3):=by kernel_rfl
theorem s4 (n2 n4:Nat):V4 k a0 n2 (n4+1)=b4 k (V2 k a0 n2) (V4 k a0 n2 n4):=by kernel_rfl
theorem e4 (n2:Nat):V4 k a0 n2=l4 k (V2 k a0 n2):=aW rfl (s4 k a0 n2) fun _=>rfl
theorem e3 (n2 n3:Nat):V3 k a0 n2 n3=l3 k (V2 k a0 n2) n3:=by
 induction n3 with
 | zero=>rfl
 | succ n3 ih =>
  have h:V3 k a0 n2 (n3+1)=b3 k (V4 k a0 n2 k) (V2 k a0 n2) (V3 k a0 n2 n3):=s3 k a0 n2 n3
  rw [h,e4,ih]
  rfl
theorem e2 (n2:Nat):V2 k a0 n2=l2 k n2:=by
 induction n2 with
 | zero=>rfl
 | succ n2 ih =>
  have h:V2 k a0 (n2+1)=b2 k (V3 k a0 n2 k) (V2 k a0 n2):=s2 k a0 n2
  rw [h,e3,ih]
  rfl
theorem e1 (n1:Nat):V1 k a0 n1=l1 k n1:=by
 induction n1 with
 | zero=>rfl
 | succ n1 ih =>
  have h:V1 k a0 (n1+1)=b1 k (V2 k a0 k) (V1 k a0 n1):=s1 k a0 n1
  rw [h,e2,ih]
  rfl
theorem e0 (n0:Nat):V0 k a0 n0=l0 k n0:=by
 induction n0 with
 | zero=>rfl
 | succ n0 ih =>
  have h:V0 k a0 (n0+1)=b0 k (V1 k a0 k) (V0 k a0 n0):=s0 k a0 n0
  rw [h,e1,ih]
  rfl
end
theorem eq (k:Nat) (a0:Ty.den ai):rn (E k) Tryz.f86 (C k) (a0,())=f k a0:=(show _=t k (V0 k a0 k) (V2 k a0 k) a0 by kernel_rfl).trans (by rw [e0,e2];rfl)
theorem ctr (k:Nat):Cp 86 (C k):=rc rfl (D k) (by kernel_rfl) Tryz.func86 (by kernel_rfl) rfl fun ⟨a0,_⟩ r h=>(eq k a0).trans h
end ab
namespace d9
def C (k:Nat):Cn:=⟨[.val .str],[.str],true,false,fun x=>f k x.1⟩
def D (k:Nat):List Ce:=[q (bi.ctr k),q (gE.ctr k),q (dU.ctr k)]
def E (k:Nat):cL:=en (D k) [] 0 [] k
theorem eq (k:Nat) (a0:ByteArray):rn (E k) Tryz.f88 (C k) (a0,())=f k a0:=by kernel_rfl
theorem ctr (k:Nat):Cp 88 (C k):=rc rfl (D k) (by kernel_rfl) Tryz.func88 (by kernel_rfl) rfl fun ⟨a0,_⟩ r h=>(eq k a0).trans h
end d9
namespace fS
def C (k:Nat):Cn:=⟨[.io false ai,.val .str],[.str],true,true,fun x=>f k x.1 x.2.1⟩
def D (k:Nat):List Ce:=[q (b9.ctr k),q (aH.ctr k),q (df.ctr k)]
def E (k:Nat):cL:=en (D k) [] 1 [] k
theorem eq (k:Nat) (a0:Ty.den ai) (a1:ByteArray):rn (E k) Tryz.f90 (C k) (a0,a1,())=f k a0 a1:=by kernel_rfl
theorem ctr (k:Nat):Cp 90 (C k):=rc rfl (D k) (by kernel_rfl) Tryz.func90 (by kernel_rfl) rfl fun ⟨a0,a1,_⟩ r h=>(eq k a0 a1).trans h
end fS
namespace dl
def C (k:Nat):Cn:=⟨[.io false ai],[.str],true,true,fun x=>f k x.1⟩
def D (k:Nat):List Ce:=[q (bB.ctr k),q (aH.ctr k),q (b9.ctr k),q (bL.ctr k),q (d9.ctr k),q (eo.ctr k),q (fS.ctr k)]
def E (k:Nat):cL:=en (D k) [(5,[0,3,4,5,6])] 1 [] k
section
variable (k:Nat) (a0:Ty.den ai)
def K0:Ex→St→Rs:=bv (E k) (eK (E k) Tryz.f87 (C k) (a0,())) [.blk 0,.code (at_ (bt 5 31) (body Tryz.f87))]
def V0 (n0:Nat):T0:=fun x0 x1 x2 x3 x4 x5 x6=>ar (bY (E k) (at_ (bt 8 47) (body Tryz.f87))) (am 1 [0,3,4,5,6]) (K0 k a0) n0 (mk 57 3 [(0,.ptr 0 0 0),(3,.str x0),(4,.ref 1),(5,.ref 2),(6,.int .i64 x1)] [(0,.box [.sl true (.int .u8) x2,.int .i64 x3,.int .i64 x4]),(1,.own false bU x5),(2,.own false .str x6)])
theorem s0 (n0:Nat):V0 k a0 (n0+1)=b0 k (V0 k a0 n0):=by kernel_rfl
theorem e0:V0 k a0=l0 k:=aW rfl (s0 k a0) fun _=>rfl
end
theorem eq (k:Nat) (a0:Ty.den ai):rn (E k) Tryz.f87 (C k) (a0,())=f k a0:=(show _=t k (V0 k a0 k) a0 by kernel_rfl).trans (by rw [e0];rfl)
theorem ctr (k:Nat):Cp 87 (C k):=rc rfl (D k) (by kernel_rfl) Tryz.func87 (by kernel_rfl) rfl fun ⟨a0,_⟩ r h=>(eq k a0).trans h
end dl
namespace dZ
def C (k:Nat):Cn:=⟨[.val (.int .i64)],[.str],true,false,fun x=>f k x.1⟩
def E (k:Nat):cL:=en [] [(5,[0,3,4])] 0 [] k
section
variable (k:Nat) (a0:Int)
def K0:Ex→St→Rs:=bv (E k) (eK (E k) Tryz.f73 (C k) (a0,())) [.blk 0,.code (at_ (bt 5 31) (body Tryz.f73))]
def V0 (n0:Nat):T0:=fun x0 x1 x2=>ar (bY (E k) (at_ (bt 7 15) (body Tryz.f73))) (am 0 [0,3,4]) (K0 k a0) n0 (mk 31 0 [(0,.int .i64 x0),(3,.str x1),(4,.bool x2)] [])
theorem s0 (n0:Nat):V0 k a0 (n0+1)=b0 k (V0 k a0 n0):=by kernel_rfl
theorem e0:V0 k a0=l0 k:=aW rfl (s0 k a0) fun _=>rfl
end
theorem eq (k:Nat) (a0:Int):rn (E k) Tryz.f73 (C k) (a0,())=f k a0:=(show _=t k (V0 k a0 k) a0 by kernel_rfl).trans (by rw [e0];rfl)
theorem ctr (k:Nat):Cp 73 (C k):=rc rfl [] (by kernel_rfl) Tryz.func73 (by kernel_rfl) rfl fun ⟨a0,_⟩ r h=>(eq k a0).trans h
end dZ
namespace aT
def C (k:Nat):Cn:=⟨[.val (.int .i64)],[.str],true,false,fun x=>f k x.1⟩
def D (k:Nat):List Ce:=[q (aX.ctr k),q (dZ.ctr k)]
def E (k:Nat):cL:=en (D k) [] 0 [] k
theorem eq (k:Nat) (a0:Int):rn (E k) Tryz.f26 (C k) (a0,())=f k a0:=by kernel_rfl
theorem ctr (k:Nat):Cp 26 (C k):=rc rfl (D k) (by kernel_rfl) Tryz.func26 (by kernel_rfl) rfl fun ⟨a0,_⟩ r h=>(eq k a0).trans h
end aT
namespace b7
def C (k:Nat):Cn:=⟨[.val (.slice aE),.val aE],[(.slice aE)],true,false,fun x=>f k x.1 x.2.1⟩
def E (k:Nat):cL:=en [] [(4,[0,3,5,6,7])] 0 [] k
section
variable (k:Nat) (a0:List (Ty.den aE)) (a1:Ty.den aE)
def K0:Ex→St→Rs:=bv (E k) (eK (E k) Tryz.f91 (C k) (a0,a1,())) [.blk 0,.code (at_ (bt 4 15) (body Tryz.f91))]
def V0 (n0:Nat):T0:=fun x0 x1 x2 x3 x4 x5 x6=>ar (bY (E k) (at_ (bt 7 23) (body Tryz.f91))) (am 0 [0,3,5,6,7]) (K0 k a0 a1) n0 (mk 45 2 [(0,.sl true aE x0),(3,.ptr 0 0 0),(5,.ref 1),(6,.bool x1),(7,.int .i64 x2)] [(0,.box [.str x3,.str x4,.int .i64 x5]),(1,.own false aE x6)])
theorem s0 (n0:Nat):V0 k a0 a1 (n0+1)=b0 k (V0 k a0 a1 n0):=by kernel_rfl
theorem e0:V0 k a0 a1=l0 k:=aW rfl (s0 k a0 a1) fun _=>rfl
end
theorem eq (k:Nat) (a0:List (Ty.den aE)) (a1:Ty.den aE):rn (E k) Tryz.f91 (C k) (a0,a1,())=f k a0 a1:=(show _=t k (V0 k a0 a1 k) a0 a1 by kernel_rfl).trans (by rw [e0];rfl)
theorem ctr (k:Nat):Cp 91 (C k):=rc rfl [] (by kernel_rfl) Tryz.func91 (by kernel_rfl) rfl fun ⟨a0,a1,_⟩ r h=>(eq k a0 a1).trans h
end b7
namespace aj
def C (k:Nat):Cn:=⟨[.val .str],[(.int .i64),(.int .i64)],true,false,fun x=>f k x.1⟩
def D (k:Nat):List Ce:=[q (bi.ctr k)]
def E (k:Nat):cL:=en (D k) [(2,[0,4]),(6,[0,4,5,6])] 0 [] k
section
variable (k:Nat) (a0:ByteArray)
def K0:Ex→St→Rs:=bv (E k) (eK (E k) Tryz.f108 (C k) (a0,())) [.blk 0,.code (at_ (bt 2 3) (body Tryz.f108))]
def B0 (n0:Nat):Ex→St→Rs:=JY (E k) (at_ (bt 5 5) (body Tryz.f108)) 0 [0,4] (K0 k a0) n0
def K1 (n0:Nat):Ex→St→Rs:=bv (E k) (B0 k a0 n0) [.blk 2,.code (at_ (bt 10 805) (body Tryz.f108)),.blk 1,.code (at_ (bt 7 101) (body Tryz.f108))]
def V0 (n0:Nat):T0:=fun x0 x1=>ar (bY (E k) (at_ (bt 5 5) (body Tryz.f108))) (am 0 [0,4]) (K0 k a0) n0 (mk 39 0 [(0,.str x0),(4,.int .i64 x1)] [])
def V1 (n0 n1:Nat):T1:=fun x0 x1 x2 x3=>ar (bY (E k) (at_ (bt 13 1317) (body Tryz.f108))) (am 0 [0,4,5,6]) (K1 k a0 n0) n1 (mk 39 0 [(0,.str x0),(4,.int .i64 x1),(5,.int .i64 x2),(6,.int .i64 x3)] [])
theorem s0 (n0:Nat):V0 k a0 (n0+1)=b0 k (V1 k a0 n0 k) (V0 k a0 n0):=by kernel_rfl
theorem s1 (n0 n1:Nat):V1 k a0 n0 (n1+1)=b1 k (V0 k a0 n0) (V1 k a0 n0 n1):=by kernel_rfl
theorem e1 (n0:Nat):V1 k a0 n0=l1 k (V0 k a0 n0):=aW rfl (s1 k a0 n0) fun _=>rfl
theorem e0 (n0:Nat):V0 k a0 n0=l0 k n0:=by
 induction n0 with
 | zero=>rfl
 | succ n0 ih =>
  have h:V0 k a0 (n0+1)=b0 k (V1 k a0 n0 k) (V0 k a0 n0):=s0 k a0 n0
  rw [h,e1,ih]
  rfl
end
theorem eq (k:Nat) (a0:ByteArray):rn (E k) Tryz.f108 (C k) (a0,())=f k a0:=(show _=t k (V0 k a0 k) a0 by kernel_rfl).trans (by rw [e0];rfl)
theorem ctr (k:Nat):Cp 108 (C k):=rc rfl (D k) (by kernel_rfl) Tryz.func108 (by kernel_rfl) rfl fun ⟨a0,_⟩ r h=>(eq k a0).trans h
end aj
namespace dh
def C (k:Nat):Cn:=⟨[.val .str],[.str,(.int .i64)],true,false,fun x=>f k x.1⟩
def D (k:Nat):List Ce:=[q (aj.ctr k),q (d9.ctr k)]
def E (k:Nat):cL:=en (D k) [] 0 [] k
theorem eq (k:Nat) (a0:ByteArray):rn (E k) Tryz.f107 (C k) (a0,())=f k a0:=by kernel_rfl
theorem ctr (k:Nat):Cp 107 (C k):=rc rfl (D k) (by kernel_rfl) Tryz.func107 (by kernel_rfl) rfl fun ⟨a0,_⟩ r h=>(eq k a0).trans h
end dh
namespace cV
def C (k:Nat):Cn:=⟨[.val .str],[.str,.str,.bool],true,false,fun x=>f k x.1⟩
def D (k:Nat):List Ce:=[q (aj.ctr k)]
def E (k:Nat):cL:=en (D k) [] 0 [] k
theorem eq (k:Nat) (a0:ByteArray):rn (E k) Tryz.f168 (C k) (a0,())=f k a0:=by kernel_rfl
theorem ctr (k:Nat):Cp 168 (C k):=rc rfl (D k) (by kernel_rfl) Tryz.func168 (by kernel_rfl) rfl fun ⟨a0,_⟩ r h=>(eq k a0).trans h
end cV
namespace bh
def C (k:Nat):Cn:=⟨[.val .str,.val (.int .i64)],[(.int .i64),.bool],true,false,fun x=>f k x.1 x.2.1⟩
def D (k:Nat):List Ce:=[q (aX.ctr k)]
def E (k:Nat):cL:=en (D k) [(5,[0,1,6,7])] 0 [] k
section
variable (k:Nat) (a0:ByteArray) (a1:Int)
def K0:Ex→St→Rs:=bv (E k) (eK (E k) Tryz.f169 (C k) (a0,a1,())) [.blk 0,.code (at_ (bt 4 15) (body Tryz.f169))]
def V0 (n0:Nat):T0:=fun x0 x1 x2 x3=>ar (bY (E k) (at_ (bt 7 23) (body Tryz.f169))) (am 0 [0,1,6,7]) (K0 k a0 a1) n0 (mk 30 0 [(0,.str x0),(1,.int .i64 x1),(6,.int .i64 x2),(7,.int .i64 x3)] [])
theorem s0 (n0:Nat):V0 k a0 a1 (n0+1)=b0 k (V0 k a0 a1 n0):=by kernel_rfl
theorem e0:V0 k a0 a1=l0 k:=aW rfl (s0 k a0 a1) fun _=>rfl
end
theorem eq (k:Nat) (a0:ByteArray) (a1:Int):rn (E k) Tryz.f169 (C k) (a0,a1,())=f k a0 a1:=(show _=t k (V0 k a0 a1 k) a0 a1 by kernel_rfl).trans (by rw [e0];rfl)
theorem ctr (k:Nat):Cp 169 (C k):=rc rfl (D k) (by kernel_rfl) Tryz.func169 (by kernel_rfl) rfl fun ⟨a0,a1,_⟩ r h=>(eq k a0 a1).trans h
end bh
namespace eN
def C (k:Nat):Cn:=⟨[.val .str],[bU,.bool],true,false,fun x=>f k x.1⟩
def D (k:Nat):List Ce:=[q (aj.ctr k),q (cV.ctr k),q (bL.ctr k),q (bh.ctr k)]
def E (k:Nat):cL:=en (D k) [] 0 [] k
theorem eq (k:Nat) (a0:ByteArray):rn (E k) Tryz.f110 (C k) (a0,())=f k a0:=by kernel_rfl
theorem ctr (k:Nat):Cp 110 (C k):=rc rfl (D k) (by kernel_rfl) Tryz.func110 (by kernel_rfl) rfl fun ⟨a0,_⟩ r h=>(eq k a0).trans h
end eN
namespace bW
def C (k:Nat):Cn:=⟨[.val .str],[(.slice bM),(.int .i64)],true,false,fun x=>f k x.1⟩
def D (k:Nat):List Ce:=[q (dh.ctr k),q (eN.ctr k)]
def E (k:Nat):cL:=en (D k) [(3,[0,4,5])] 0 [] k
section
variable (k:Nat) (a0:ByteArray)
def K0:Ex→St→Rs:=bv (E k) (eK (E k) Tryz.f45 (C k) (a0,())) [.blk 0,.code (at_ (bt 4 15) (body Tryz.f45))]
def V0 (n0:Nat):T0:=fun x0 x1 x2=>ar (bY (E k) (at_ (bt 6 7) (body Tryz.f45))) (am 0 [0,4,5]) (K0 k a0) n0 (mk 47 1 [(0,.str x0),(4,.ref 0),(5,.int .i64 x1)] [(0,.own false bM x2)])
theorem s0 (n0:Nat):V0 k a0 (n0+1)=b0 k (V0 k a0 n0):=by kernel_rfl
theorem e0:V0 k a0=l0 k:=aW rfl (s0 k a0) fun _=>rfl
end
theorem eq (k:Nat) (a0:ByteArray):rn (E k) Tryz.f45 (C k) (a0,())=f k a0:=(show _=t k (V0 k a0 k) a0 by kernel_rfl).trans (by rw [e0];rfl)
theorem ctr (k:Nat):Cp 45 (C k):=rc rfl (D k) (by kernel_rfl) Tryz.func45 (by kernel_rfl) rfl fun ⟨a0,_⟩ r h=>(eq k a0).trans h
end bW
namespace cv
def C (k:Nat):Cn:=⟨[.val (.int .i64),.val .str],[dc,.bool],true,false,fun x=>f k x.1 x.2.1⟩
def D (k:Nat):List Ce:=[q (bW.ctr k),q (aT.ctr k),q (g9.ctr k)]
def E (k:Nat):cL:=en (D k) [(7,[0,4,6,8,9,10])] 0 [] k
section
variable (k:Nat) (a0:Int) (a1:ByteArray)
def K0:Ex→St→Rs:=bv (E k) (eK (E k) Tryz.f92 (C k) (a0,a1,())) [.blk 0,.code (at_ (bt 6 63) (body Tryz.f92))]
def V0 (n0:Nat):T0:=fun x0 x1 x2 x3 x4 x5 x6 x7 x8 x9=>ar (bY (E k) (at_ (bt 9 95) (body Tryz.f92))) (am 0 [0,4,6,8,9,10]) (K0 k a0 a1) n0 (mk 141 6 [(0,.int .i64 x0),(4,.ptr 0 0 0),(6,.ref 2),(8,.ptr 3 0 0),(9,.ref 5),(10,.int .i64 x1)] [(1,.own false aA x2),(0,.box [.int .i64 x3,.int .i64 x4,.ref 1]),(2,.own false bM x5),(4,.own false aA x6),(3,.box [.int .i64 x7,.int .i64 x8,.ref 4]),(5,.own false bU x9)])
theorem s0 (n0:Nat):V0 k a0 a1 (n0+1)=b0 k (V0 k a0 a1 n0):=by kernel_rfl
theorem e0:V0 k a0 a1=l0 k:=aW rfl (s0 k a0 a1) fun _=>rfl
end
theorem eq (k:Nat) (a0:Int) (a1:ByteArray):rn (E k) Tryz.f92 (C k) (a0,a1,())=f k a0 a1:=(show _=t k (V0 k a0 a1 k) a0 a1 by kernel_rfl).trans (by rw [e0];rfl)
theorem ctr (k:Nat):Cp 92 (C k):=rc rfl (D k) (by kernel_rfl) Tryz.func92 (by kernel_rfl) rfl fun ⟨a0,a1,_⟩ r h=>(eq k a0 a1).trans h
end cv
namespace fC
def C (k:Nat):Cn:=⟨[.val (.slice aA)],[.bool],true,false,fun x=>f k x.1⟩
def D (k:Nat):List Ce:=[q (eO.ctr k),q (aX.ctr k)]
def E (k:Nat):cL:=en (D k) [(4,[0,3])] 0 [] k
section
variable (k:Nat) (a0:List (Ty.den aA))
def K0:Ex→St→Rs:=bv (E k) (eK (E k) Tryz.f198 (C k) (a0,())) [.blk 0,.code (at_ (bt 3 7) (body Tryz.f198))]
def V0 (n0:Nat):T0:=fun x0 x1=>ar (bY (E k) (at_ (bt 6 11) (body Tryz.f198))) (am 0 [0,3]) (K0 k a0) n0 (mk 60 0 [(0,.sl true aA x0),(3,.int .i64 x1)] [])
theorem s0 (n0:Nat):V0 k a0 (n0+1)=b0 k (V0 k a0 n0):=by kernel_rfl
theorem e0:V0 k a0=l0 k:=aW rfl (s0 k a0) fun _=>rfl
end
theorem eq (k:Nat) (a0:List (Ty.den aA)):rn (E k) Tryz.f198 (C k) (a0,())=f k a0:=(show _=t k (V0 k a0 k) a0 by kernel_rfl).trans (by rw [e0];rfl)
theorem ctr (k:Nat):Cp 198 (C k):=rc rfl (D k) (by kernel_rfl) Tryz.func198 (by kernel_rfl) rfl fun ⟨a0,_⟩ r h=>(eq k a0).trans h
end fC
namespace gi
def C (k:Nat):Cn:=⟨[.val dc],[.bool],true,false,fun x=>f k x.1⟩
def D (k:Nat):List Ce:=[q (aX.ctr k),q (fC.ctr k)]
def E (k:Nat):cL:=en (D k) [(4,[1,3])] 0 [] k
section
variable (k:Nat) (a0:Ty.den dc)
def K0:Ex→St→Rs:=bv (E k) (eK (E k) Tryz.f156 (C k) (a0,())) [.blk 0,.code (at_ (bt 3 7) (body Tryz.f156))]
def V0 (n0:Nat):T0:=fun x0 x1 x2 x3=>ar (bY (E k) (at_ (bt 6 11) (body Tryz.f156))) (am 0 [1,3]) (K0 k a0) n0 (mk 48 1 [(1,.ptr 0 0 0),(3,.int .i64 x0)] [(0,.box [.int .i64 x1,.int .i64 x2,.sl true aA x3])])
theorem s0 (n0:Nat):V0 k a0 (n0+1)=b0 k (V0 k a0 n0):=by kernel_rfl
theorem e0:V0 k a0=l0 k:=aW rfl (s0 k a0) fun _=>rfl
end
theorem eq (k:Nat) (a0:Ty.den dc):rn (E k) Tryz.f156 (C k) (a0,())=f k a0:=(show _=t k (V0 k a0 k) a0 by kernel_rfl).trans (by rw [e0];rfl)
theorem ctr (k:Nat):Cp 156 (C k):=rc rfl (D k) (by kernel_rfl) Tryz.func156 (by kernel_rfl) rfl fun ⟨a0,_⟩ r h=>(eq k a0).trans h
end gi
namespace cH
def C (k:Nat):Cn:=⟨[.val dc],[.str],true,false,fun x=>f k x.1⟩
def D (k:Nat):List Ce:=[q (gi.ctr k),q (bi.ctr k),q (gE.ctr k),q (dU.ctr k)]
def E (k:Nat):cL:=en (D k) [(5,[1,3,4])] 0 [] k
section
variable (k:Nat) (a0:Ty.den dc)
def K0:Ex→St→Rs:=bv (E k) (eK (E k) Tryz.f93 (C k) (a0,())) [.blk 0,.code (at_ (bt 4 15) (body Tryz.f93))]
def V0 (n0:Nat):T0:=fun x0 x1 x2 x3 x4=>ar (bY (E k) (at_ (bt 7 23) (body Tryz.f93))) (am 0 [1,3,4]) (K0 k a0) n0 (mk 63 1 [(1,.ptr 0 0 0),(3,.str x0),(4,.int .i64 x1)] [(0,.box [.int .i64 x2,.int .i64 x3,.sl true aA x4])])
theorem s0 (n0:Nat):V0 k a0 (n0+1)=b0 k (V0 k a0 n0):=by kernel_rfl
theorem e0:V0 k a0=l0 k:=aW rfl (s0 k a0) fun _=>rfl
end
theorem eq (k:Nat) (a0:Ty.den dc):rn (E k) Tryz.f93 (C k) (a0,())=f k a0:=(show _=t k (V0 k a0 k) a0 by kernel_rfl).trans (by rw [e0];rfl)
theorem ctr (k:Nat):Cp 93 (C k):=rc rfl (D k) (by kernel_rfl) Tryz.func93 (by kernel_rfl) rfl fun ⟨a0,_⟩ r h=>(eq k a0).trans h
end cH
namespace bo
def C (k:Nat):Cn:=⟨[.val (.int .i64)],[.str],true,false,fun x=>f k x.1⟩
def D (k:Nat):List Ce:=[q (aX.ctr k),q (dZ.ctr k)]
def E (k:Nat):cL:=en (D k) [] 0 [] k
theorem eq (k:Nat) (a0:Int):rn (E k) Tryz.f94 (C k) (a0,())=f k a0:=by kernel_rfl
theorem ctr (k:Nat):Cp 94 (C k):=rc rfl (D k) (by kernel_rfl) Tryz.func94 (by kernel_rfl) rfl fun ⟨a0,_⟩ r h=>(eq k a0).trans h
end bo
namespace dK
def C (k:Nat):Cn:=⟨[.val bA],[.bool],true,false,fun x=>f k x.1⟩
def D (k:Nat):List Ce:=[q (aX.ctr k)]
def E (k:Nat):cL:=en (D k) [(4,[1,3])] 0 [] k
section
variable (k:Nat) (a0:Ty.den bA)
def K0:Ex→St→Rs:=bv (E k) (eK (E k) Tryz.f157 (C k) (a0,())) [.blk 0,.code (at_ (bt 3 7) (body Tryz.f157))]
def V0 (n0:Nat):T0:=fun x0 x1 x2=>ar (bY (E k) (at_ (bt 6 11) (body Tryz.f157))) (am 0 [1,3]) (K0 k a0) n0 (mk 50 1 [(1,.ptr 0 0 0),(3,.int .i64 x0)] [(0,.box [.int .i64 x1,.sl true (.int .i64) x2])])
theorem s0 (n0:Nat):V0 k a0 (n0+1)=b0 k (V0 k a0 n0):=by kernel_rfl
theorem e0:V0 k a0=l0 k:=aW rfl (s0 k a0) fun _=>rfl
end
theorem eq (k:Nat) (a0:Ty.den bA):rn (E k) Tryz.f157 (C k) (a0,())=f k a0:=(show _=t k (V0 k a0 k) a0 by kernel_rfl).trans (by rw [e0];rfl)
theorem ctr (k:Nat):Cp 157 (C k):=rc rfl (D k) (by kernel_rfl) Tryz.func157 (by kernel_rfl) rfl fun ⟨a0,_⟩ r h=>(eq k a0).trans h
end dK
namespace cR
def C (k:Nat):Cn:=⟨[.val bA],[.str],true,false,fun x=>f k x.1⟩
def D (k:Nat):List Ce:=[q (dK.ctr k),q (bi.ctr k),q (d9.ctr k)]
def E (k:Nat):cL:=en (D k) [(5,[1,3,4])] 0 [] k
section
variable (k:Nat) (a0:Ty.den bA)
def K0:Ex→St→Rs:=bv (E k) (eK (E k) Tryz.f95 (C k) (a0,())) [.blk 0,.code (at_ (bt 4 15) (body Tryz.f95))]
def V0 (n0:Nat):T0:=fun x0 x1 x2 x3=>ar (bY (E k) (at_ (bt 7 23) (body Tryz.f95))) (am 0 [1,3,4]) (K0 k a0) n0 (mk 33 1 [(1,.ptr 0 0 0),(3,.str x0),(4,.int .i64 x1)] [(0,.box [.int .i64 x2,.sl true (.int .i64) x3])])
theorem s0 (n0:Nat):V0 k a0 (n0+1)=b0 k (V0 k a0 n0):=by kernel_rfl
theorem e0:V0 k a0=l0 k:=aW rfl (s0 k a0) fun _=>rfl
end
theorem eq (k:Nat) (a0:Ty.den bA):rn (E k) Tryz.f95 (C k) (a0,())=f k a0:=(show _=t k (V0 k a0 k) a0 by kernel_rfl).trans (by rw [e0];rfl)
theorem ctr (k:Nat):Cp 95 (C k):=rc rfl (D k) (by kernel_rfl) Tryz.func95 (by kernel_rfl) rfl fun ⟨a0,_⟩ r h=>(eq k a0).trans h
end cR
namespace dk
def C (k:Nat):Cn:=⟨[.val (.slice aE),.val (.int .i64)],[(.slice aE)],true,false,fun x=>f k x.1 x.2.1⟩
def E (k:Nat):cL:=en [] [] 0 [] k
theorem eq (k:Nat) (a0:List (Ty.den aE)) (a1:Int):rn (E k) Tryz.f96 (C k) (a0,a1,())=f k a0 a1:=by kernel_rfl
theorem ctr (k:Nat):Cp 96 (C k):=rc rfl [] (by kernel_rfl) Tryz.func96 (by kernel_rfl) rfl fun ⟨a0,a1,_⟩ r h=>(eq k a0 a1).trans h
end dk
namespace cU
def C (k:Nat):Cn:=⟨[.val a_],[a_],true,false,fun x=>f k x.1⟩
def E (k:Nat):cL:=en [] [] 0 [] k
theorem eq (k:Nat) (a0:Ty.den a_):rn (E k) Tryz.f171 (C k) (a0,())=f k a0:=by kernel_rfl
theorem ctr (k:Nat):Cp 171 (C k):=rc rfl [] (by kernel_rfl) Tryz.func171 (by kernel_rfl) rfl fun ⟨a0,_⟩ r h=>(eq k a0).trans h
end cU
namespace db
def C (k:Nat):Cn:=⟨[.val a_],[(.int .i64)],true,false,fun x=>f k x.1⟩
def E (k:Nat):cL:=en [] [(3,[1,3,4])] 0 [] k
section
variable (k:Nat) (a0:Ty.den a_)
def K0:Ex→St→Rs:=bv (E k) (eK (E k) Tryz.f50 (C k) (a0,())) [.blk 0,.code (at_ (bt 3 7) (body Tryz.f50))]
def V0 (n0:Nat):T0:=fun x0 x1 x2 x3 x4 x5=>ar (bY (E k) (at_ (bt 6 11) (body Tryz.f50))) (am 0 [1,3,4]) (K0 k a0) n0 (mk 22 1 [(1,.ptr 0 0 0),(3,.int .i64 x0),(4,.int .i64 x1)] [(0,.box [.sl true aE x2,.int .i64 x3,.int .i64 x4,.bool x5])])
theorem s0 (n0:Nat):V0 k a0 (n0+1)=b0 k (V0 k a0 n0):=by kernel_rfl
theorem e0:V0 k a0=l0 k:=aW rfl (s0 k a0) fun _=>rfl
end
theorem eq (k:Nat) (a0:Ty.den a_):rn (E k) Tryz.f50 (C k) (a0,())=f k a0:=(show _=t k (V0 k a0 k) a0 by kernel_rfl).trans (by rw [e0];rfl)
theorem ctr (k:Nat):Cp 50 (C k):=rc rfl [] (by kernel_rfl) Tryz.func50 (by kernel_rfl) rfl fun ⟨a0,_⟩ r h=>(eq k a0).trans h
end db
namespace eE
def C (k:Nat):Cn:=⟨[.val .str],[.bool],true,false,fun x=>f k x.1⟩
def D (k:Nat):List Ce:=[q (aX.ctr k)]
def E (k:Nat):cL:=en (D k) [(2,[0,3])] 0 [] k
section
variable (k:Nat) (a0:ByteArray)
def K0:Ex→St→Rs:=bv (E k) (eK (E k) Tryz.f51 (C k) (a0,())) [.blk 0,.code (at_ (bt 2 3) (body Tryz.f51))]
def V0 (n0:Nat):T0:=fun x0 x1=>ar (bY (E k) (at_ (bt 5 5) (body Tryz.f51))) (am 0 [0,3]) (K0 k a0) n0 (mk 36 0 [(0,.str x0),(3,.int .i64 x1)] [])
theorem s0 (n0:Nat):V0 k a0 (n0+1)=b0 k (V0 k a0 n0):=by kernel_rfl
theorem e0:V0 k a0=l0 k:=aW rfl (s0 k a0) fun _=>rfl
end
theorem eq (k:Nat) (a0:ByteArray):rn (E k) Tryz.f51 (C k) (a0,())=f k a0:=(show _=t k (V0 k a0 k) a0 by kernel_rfl).trans (by rw [e0];rfl)
theorem ctr (k:Nat):Cp 51 (C k):=rc rfl (D k) (by kernel_rfl) Tryz.func51 (by kernel_rfl) rfl fun ⟨a0,_⟩ r h=>(eq k a0).trans h
end eE
namespace bH
def C (k:Nat):Cn:=⟨[.val a_],[.bool],true,false,fun x=>f k x.1⟩
def D (k:Nat):List Ce:=[q (aX.ctr k),q (db.ctr k),q (eE.ctr k)]
def E (k:Nat):cL:=en (D k) [(4,[1,3])] 0 [] k
section
variable (k:Nat) (a0:Ty.den a_)
def K0:Ex→St→Rs:=bv (E k) (eK (E k) Tryz.f17 (C k) (a0,())) [.blk 0,.code (at_ (bt 3 7) (body Tryz.f17))]
def V0 (n0:Nat):T0:=fun x0 x1 x2 x3 x4=>ar (bY (E k) (at_ (bt 6 11) (body Tryz.f17))) (am 0 [1,3]) (K0 k a0) n0 (mk 79 1 [(1,.ptr 0 0 0),(3,.int .i64 x0)] [(0,.box [.sl true aE x1,.int .i64 x2,.int .i64 x3,.bool x4])])
theorem s0 (n0:Nat):V0 k a0 (n0+1)=b0 k (V0 k a0 n0):=by kernel_rfl
theorem e0:V0 k a0=l0 k:=aW rfl (s0 k a0) fun _=>rfl
end
theorem eq (k:Nat) (a0:Ty.den a_):rn (E k) Tryz.f17 (C k) (a0,())=f k a0:=(show _=t k (V0 k a0 k) a0 by kernel_rfl).trans (by rw [e0];rfl)
theorem ctr (k:Nat):Cp 17 (C k):=rc rfl (D k) (by kernel_rfl) Tryz.func17 (by kernel_rfl) rfl fun ⟨a0,_⟩ r h=>(eq k a0).trans h
end bH
namespace d_
def C (k:Nat):Cn:=⟨[.val a_],[a_,(.int .i64)],true,false,fun x=>f k x.1⟩
def D (k:Nat):List Ce:=[q (cU.ctr k),q (bH.ctr k)]
def E (k:Nat):cL:=en (D k) [] 0 [] k
theorem eq (k:Nat) (a0:Ty.den a_):rn (E k) Tryz.f158 (C k) (a0,())=f k a0:=by kernel_rfl
theorem ctr (k:Nat):Cp 158 (C k):=rc rfl (D k) (by kernel_rfl) Tryz.func158 (by kernel_rfl) rfl fun ⟨a0,_⟩ r h=>(eq k a0).trans h
end d_
namespace bT
def C (k:Nat):Cn:=⟨[.val a_,.val .str],[(.int .i64)],true,false,fun x=>f k x.1 x.2.1⟩
def E (k:Nat):cL:=en [] [(2,[1,2,5])] 0 [] k
section
variable (k:Nat) (a0:Ty.den a_) (a1:ByteArray)
def K0:Ex→St→Rs:=bv (E k) (eK (E k) Tryz.f42 (C k) (a0,a1,())) [.blk 0,.code (at_ (bt 2 3) (body Tryz.f42))]
def V0 (n0:Nat):T0:=fun x0 x1 x2 x3 x4 x5=>ar (bY (E k) (at_ (bt 5 5) (body Tryz.f42))) (am 0 [1,2,5]) (K0 k a0 a1) n0 (mk 22 1 [(1,.str x0),(2,.ptr 0 0 0),(5,.int .i64 x1)] [(0,.box [.sl true aE x2,.int .i64 x3,.int .i64 x4,.bool x5])])
theorem s0 (n0:Nat):V0 k a0 a1 (n0+1)=b0 k (V0 k a0 a1 n0):=by kernel_rfl
theorem e0:V0 k a0 a1=l0 k:=aW rfl (s0 k a0 a1) fun _=>rfl
end
theorem eq (k:Nat) (a0:Ty.den a_) (a1:ByteArray):rn (E k) Tryz.f42 (C k) (a0,a1,())=f k a0 a1:=(show _=t k (V0 k a0 a1 k) a0 a1 by kernel_rfl).trans (by rw [e0];rfl)
theorem ctr (k:Nat):Cp 42 (C k):=rc rfl [] (by kernel_rfl) Tryz.func42 (by kernel_rfl) rfl fun ⟨a0,a1,_⟩ r h=>(eq k a0 a1).trans h
end bT
namespace eG
def C (k:Nat):Cn:=⟨[.val a_,.val .str],[a_,(.int .i64)],true,false,fun x=>f k x.1 x.2.1⟩
def D (k:Nat):List Ce:=[q (d_.ctr k),q (eE.ctr k),q (bT.ctr k),q (b7.ctr k)]
def E (k:Nat):cL:=en (D k) [] 0 [] k
theorem eq (k:Nat) (a0:Ty.den a_) (a1:ByteArray):rn (E k) Tryz.f97 (C k) (a0,a1,())=f k a0 a1:=by kernel_rfl
theorem ctr (k:Nat):Cp 97 (C k):=rc rfl (D k) (by kernel_rfl) Tryz.func97 (by kernel_rfl) rfl fun ⟨a0,a1,_⟩ r h=>(eq k a0 a1).trans h
end eG
namespace bq
def C (k:Nat):Cn:=⟨[.io false ai],[a_],true,true,fun x=>f k x.1⟩
def D (k:Nat):List Ce:=[q (eM.ctr k),q (gJ.ctr k),q (ab.ctr k),q (bB.ctr k),q (dl.ctr k),q (bL.ctr k),q (d9.ctr k),q (fS.ctr k),q (aT.ctr k),q (b7.ctr k),q (cv.ctr k),q (cH.ctr k),q (bo.ctr k),q (cR.ctr k),q (aH.ctr k),q (dk.ctr k),q (eG.ctr k)]
def E (k:Nat):cL:=en (D k) [(4,[0,2,3,4,5]),(12,[0,2,3,4,5,6,7,8])] 1 [] k
section
variable (k:Nat) (a0:Ty.den ai)
def K0:Ex→St→Rs:=bv (E k) (eK (E k) Tryz.f37 (C k) (a0,())) [.blk 0,.code (at_ (bt 4 15) (body Tryz.f37))]
def B0 (n0:Nat):Ex→St→Rs:=JY (E k) (at_ (bt 7 23) (body Tryz.f37)) 1 [0,2,3,4,5] (K0 k a0) n0
def K1 (n0:Nat):Ex→St→Rs:=bv (E k) (B0 k a0 n0) [.blk 2,.code (at_ (bt 14 15511) (body Tryz.f37)),.blk 1,.code (at_ (bt 9 407) (body Tryz.f37))]
def V0 (n0:Nat):T0:=fun x0 x1 x2 x3 x4 x5 x6 x7 x8 x9 x10 x11 x12 x13=>ar (bY (E k) (at_ (bt 7 23) (body Tryz.f37))) (am 1 [0,2,3,4,5]) (K0 k a0) n0 (mk 146 7 [(0,.ptr 0 0 0),(2,.ptr 1 0 0),(3,.ptr 3 0 0),(4,.ptr 5 0 0),(5,.int .i64 x0)] [(0,.box [.sl true (.int .u8) x1,.int .i64 x2,.int .i64 x3]),(2,.own false aE x4),(1,.box [.ref 2,.int .i64 x5,.int .i64 x6,.bool x7]),(4,.own false aE x8),(3,.box [.ref 4,.int .i64 x9,.int .i64 x10,.bool x11]),(6,.own false (.int .i64) x12),(5,.box [.int .i64 x13,.ref 6])])
def V1 (n0 n1:Nat):T1:=fun x0 x1 x2 x3 x4 x5 x6 x7 x8 x9 x10 x11 x12 x13 x14 x15 x16=>ar (bY (E k) (at_ (bt 17 23703) (body Tryz.f37))) (am 1 [0,2,3,4,5,6,7,8]) (K1 k a0 n0) n1 (mk 146 8 [(0,.ptr 0 0 0),(2,.ptr 1 0 0),(3,.ptr 3 0 0),(4,.ptr 5 0 0),(5,.int .i64 x0),(6,.str x1),(7,.ref 7),(8,.int .i64 x2)] [(0,.box [.sl true (.int .u8) x3,.int .i64 x4,.int .i64 x5]),(2,.own false aE x6),(1,.box [.ref 2,.int .i64 x7,.int .i64 x8,.bool x9]),(4,.own false aE x10),(3,.box [.ref 4,.int .i64 x11,.int .i64 x12,.bool x13]),(6,.own false (.int .i64) x14),(5,.box [.int .i64 x15,.ref 6]),(7,.own false aC x16)])
theorem s0 (n0:Nat):V0 k a0 (n0+1)=b0 k (V1 k a0 n0 k) (V0 k a0 n0):=by kernel_rfl
theorem s1 (n0 n1:Nat):V1 k a0 n0 (n1+1)=b1 k (V0 k a0 n0) (V1 k a0 n0 n1):=by kernel_rfl
theorem e1 (n0:Nat):V1 k a0 n0=l1 k (V0 k a0 n0):=aW rfl (s1 k a0 n0) fun _=>rfl
theorem e0 (n0:Nat):V0 k a0 n0=l0 k n0:=by
 induction n0 with
 | zero=>rfl
 | succ n0 ih =>
  have h:V0 k a0 (n0+1)=b0 k (V1 k a0 n0 k) (V0 k a0 n0):=s0 k a0 n0
  rw [h,e1,ih]
  rfl
end
theorem eq (k:Nat) (a0:Ty.den ai):rn (E k) Tryz.f37 (C k) (a0,())=f k a0:=(show _=t k (V0 k a0 k) a0 by kernel_rfl).trans (by rw [e0];rfl)
theorem ctr (k:Nat):Cp 37 (C k):=rc rfl (D k) (by kernel_rfl) Tryz.func37 (by kernel_rfl) rfl fun ⟨a0,_⟩ r h=>(eq k a0).trans h
end bq
namespace ch
def C (k:Nat):Cn:=⟨[.io false ai,.val (.slice (.int .i64))],[(.int .i64)],true,true,fun x=>f k x.1 x.2.1⟩
def D (k:Nat):List Ce:=[q (aH.ctr k)]
def E (k:Nat):cL:=en (D k) [] 1 [] k
theorem eq (k:Nat) (a0:Ty.den ai) (a1:List Int):rn (E k) Tryz.f55 (C k) (a0,a1,())=f k a0 a1:=by kernel_rfl
theorem ctr (k:Nat):Cp 55 (C k):=rc rfl (D k) (by kernel_rfl) Tryz.func55 (by kernel_rfl) rfl fun ⟨a0,a1,_⟩ r h=>(eq k a0 a1).trans h
end ch
namespace bI
def C (k:Nat):Cn:=⟨[.val a_,.val .str],[.str,.bool],true,false,fun x=>f k x.1 x.2.1⟩
def D (k:Nat):List Ce:=[q (bH.ctr k),q (bT.ctr k)]
def E (k:Nat):cL:=en (D k) [] 0 [] k
theorem eq (k:Nat) (a0:Ty.den a_) (a1:ByteArray):rn (E k) Tryz.f15 (C k) (a0,a1,())=f k a0 a1:=by kernel_rfl
theorem ctr (k:Nat):Cp 15 (C k):=rc rfl (D k) (by kernel_rfl) Tryz.func15 (by kernel_rfl) rfl fun ⟨a0,a1,_⟩ r h=>(eq k a0 a1).trans h
end bI
namespace f_
def C (k:Nat):Cn:=⟨[.val .str],[(.int .i64),.bool],true,false,fun x=>f k x.1⟩
def D (k:Nat):List Ce:=[q (dZ.ctr k)]
def E (k:Nat):cL:=en (D k) [(4,[0,4,5,6])] 0 [] k
section
variable (k:Nat) (a0:ByteArray)
def K0:Ex→St→Rs:=bv (E k) (eK (E k) Tryz.f167 (C k) (a0,())) [.blk 0,.code (at_ (bt 4 15) (body Tryz.f167))]
def V0 (n0:Nat):T0:=fun x0 x1 x2 x3=>ar (bY (E k) (at_ (bt 7 23) (body Tryz.f167))) (am 0 [0,4,5,6]) (K0 k a0) n0 (mk 61 0 [(0,.str x0),(4,.int .i64 x1),(5,.int .i64 x2),(6,.int .i64 x3)] [])
theorem s0 (n0:Nat):V0 k a0 (n0+1)=b0 k (V0 k a0 n0):=by kernel_rfl
theorem e0:V0 k a0=l0 k:=aW rfl (s0 k a0) fun _=>rfl
end
theorem eq (k:Nat) (a0:ByteArray):rn (E k) Tryz.f167 (C k) (a0,())=f k a0:=(show _=t k (V0 k a0 k) a0 by kernel_rfl).trans (by rw [e0];rfl)
theorem ctr (k:Nat):Cp 167 (C k):=rc rfl (D k) (by kernel_rfl) Tryz.func167 (by kernel_rfl) rfl fun ⟨a0,_⟩ r h=>(eq k a0).trans h
end f_
namespace iB
def C (k:Nat):Cn:=⟨[.val .str],[(.int .i64),.bool],true,false,fun x=>f k x.1⟩
def D (k:Nat):List Ce:=[q (f_.ctr k),q (aT.ctr k),q (bo.ctr k)]
def E (k:Nat):cL:=en (D k) [(2,[0,4])] 0 [] k
section
variable (k:Nat) (a0:ByteArray)
def K0:Ex→St→Rs:=bv (E k) (eK (E k) Tryz.f109 (C k) (a0,())) [.blk 0,.code (at_ (bt 2 3) (body Tryz.f109))]
def V0 (n0:Nat):T0:=fun x0 x1=>ar (bY (E k) (at_ (bt 5 5) (body Tryz.f109))) (am 0 [0,4]) (K0 k a0) n0 (mk 40 0 [(0,.str x0),(4,.int .i64 x1)] [])
theorem s0 (n0:Nat):V0 k a0 (n0+1)=b0 k (V0 k a0 n0):=by kernel_rfl
theorem e0:V0 k a0=l0 k:=aW rfl (s0 k a0) fun _=>rfl
end
theorem eq (k:Nat) (a0:ByteArray):rn (E k) Tryz.f109 (C k) (a0,())=f k a0:=(show _=t k (V0 k a0 k) a0 by kernel_rfl).trans (by rw [e0];rfl)
theorem ctr (k:Nat):Cp 109 (C k):=rc rfl (D k) (by kernel_rfl) Tryz.func109 (by kernel_rfl) rfl fun ⟨a0,_⟩ r h=>(eq k a0).trans h
end iB
namespace bS
def C (k:Nat):Cn:=⟨[.val a_,.val bA],[(.slice .str)],true,false,fun x=>f k x.1 x.2.1⟩
def D (k:Nat):List Ce:=[q (bH.ctr k),q (iB.ctr k)]
def E (k:Nat):cL:=en (D k) [(5,[2,3,5,6]),(10,[2,3,5,6,7,8,9,10])] 0 [] k
section
variable (k:Nat) (a0:Ty.den a_) (a1:Ty.den bA)
def K0:Ex→St→Rs:=bv (E k) (eK (E k) Tryz.f44 (C k) (a0,a1,())) [.blk 0,.code (at_ (bt 4 15) (body Tryz.f44))]
def B0 (n0:Nat):Ex→St→Rs:=JY (E k) (at_ (bt 7 23) (body Tryz.f44)) 0 [2,3,5,6] (K0 k a0 a1) n0
def K1 (n0:Nat):Ex→St→Rs:=bv (E k) (B0 k a0 a1 n0) [.blk 2,.code (at_ (bt 13 7319) (body Tryz.f44)),.blk 1,.code (at_ (bt 9 407) (body Tryz.f44))]
def V0 (n0:Nat):T0:=fun x0 x1 x2 x3 x4 x5 x6 x7=>ar (bY (E k) (at_ (bt 7 23) (body Tryz.f44))) (am 0 [2,3,5,6]) (K0 k a0 a1) n0 (mk 74 3 [(2,.ptr 0 0 0),(3,.ptr 1 0 0),(5,.ref 2),(6,.int .i64 x0)] [(0,.box [.sl true aE x1,.int .i64 x2,.int .i64 x3,.bool x4]),(1,.box [.int .i64 x5,.sl true (.int .i64) x6]),(2,.own false .str x7)])
def V1 (n0 n1:Nat):T1:=fun x0 x1 x2 x3 x4 x5 x6 x7 x8 x9 x10 x11=>ar (bY (E k) (at_ (bt 16 11415) (body Tryz.f44))) (am 0 [2,3,5,6,7,8,9,10]) (K1 k a0 a1 n0) n1 (mk 74 3 [(2,.ptr 0 0 0),(3,.ptr 1 0 0),(5,.ref 2),(6,.int .i64 x0),(7,.int .i64 x1),(8,.bool x2),(9,.bool x3),(10,.int .i64 x4)] [(0,.box [.sl true aE x5,.int .i64 x6,.int .i64 x7,.bool x8]),(1,.box [.int .i64 x9,.sl true (.int .i64) x10]),(2,.own false .str x11)])
theorem s0 (n0:Nat):V0 k a0 a1 (n0+1)=b0 k (V1 k a0 a1 n0 k) (V0 k a0 a1 n0):=by kernel_rfl
theorem s1 (n0 n1:Nat):V1 k a0 a1 n0 (n1+1)=b1 k (V0 k a0 a1 n0) (V1 k a0 a1 n0 n1):=by kernel_rfl
theorem e1 (n0:Nat):V1 k a0 a1 n0=l1 k (V0 k a0 a1 n0):=aW rfl (s1 k a0 a1 n0) fun _=>rfl
theorem e0 (n0:Nat):V0 k a0 a1 n0=l0 k n0:=by
 induction n0 with
 | zero=>rfl
 | succ n0 ih =>
  have h:V0 k a0 a1 (n0+1)=b0 k (V1 k a0 a1 n0 k) (V0 k a0 a1 n0):=s0 k a0 a1 n0
  rw [h,e1,ih]
  rfl
end
theorem eq (k:Nat) (a0:Ty.den a_) (a1:Ty.den bA):rn (E k) Tryz.f44 (C k) (a0,a1,())=f k a0 a1:=(show _=t k (V0 k a0 a1 k) a0 a1 by kernel_rfl).trans (by rw [e0];rfl)
theorem ctr (k:Nat):Cp 44 (C k):=rc rfl (D k) (by kernel_rfl) Tryz.func44 (by kernel_rfl) rfl fun ⟨a0,a1,_⟩ r h=>(eq k a0 a1).trans h
end bS
namespace gW
def C (k:Nat):Cn:=⟨[.val a_,.val .str],[a_,(.int .i64)],true,false,fun x=>f k x.1 x.2.1⟩
def D (k:Nat):List Ce:=[q (d_.ctr k),q (bT.ctr k),q (dk.ctr k)]
def E (k:Nat):cL:=en (D k) [] 0 [] k
theorem eq (k:Nat) (a0:Ty.den a_) (a1:ByteArray):rn (E k) Tryz.f210 (C k) (a0,a1,())=f k a0 a1:=by kernel_rfl
theorem ctr (k:Nat):Cp 210 (C k):=rc rfl (D k) (by kernel_rfl) Tryz.func210 (by kernel_rfl) rfl fun ⟨a0,a1,_⟩ r h=>(eq k a0 a1).trans h
end gW
namespace aY
def C (k:Nat):Cn:=⟨[.val (.int .i64)],[(.int .i64)],true,false,fun x=>f k x.1⟩
def E (k:Nat):cL:=en [] [] 0 [] k
theorem eq (k:Nat) (a0:Int):rn (E k) Tryz.f174 (C k) (a0,())=f k a0:=by kernel_rfl
theorem ctr (k:Nat):Cp 174 (C k):=rc rfl [] (by kernel_rfl) Tryz.func174 (by kernel_rfl) rfl fun ⟨a0,_⟩ r h=>(eq k a0).trans h
end aY
namespace dr
def C (k:Nat):Cn:=⟨[.val a_,.val .str],[a_,(.int .i64)],true,false,fun x=>f k x.1 x.2.1⟩
def D (k:Nat):List Ce:=[q (bT.ctr k),q (gW.ctr k),q (eG.ctr k)]
def E (k:Nat):cL:=en (D k) [] 0 [] k
theorem eq (k:Nat) (a0:Ty.den a_) (a1:ByteArray):rn (E k) Tryz.f213 (C k) (a0,a1,())=f k a0 a1:=by kernel_rfl
theorem ctr (k:Nat):Cp 213 (C k):=rc rfl (D k) (by kernel_rfl) Tryz.func213 (by kernel_rfl) rfl fun ⟨a0,a1,_⟩ r h=>(eq k a0 a1).trans h
end dr
namespace cI
def C (k:Nat):Cn:=⟨[.val a_,.val .str,.val .str],[a_,(.int .i64)],true,false,fun x=>f k x.1 x.2.1 x.2.2.1⟩
def D (k:Nat):List Ce:=[q (d_.ctr k),q (bT.ctr k),q (db.ctr k)]
def E (k:Nat):cL:=en (D k) [] 0 [] k
theorem eq (k:Nat) (a0:Ty.den a_) (a1:ByteArray) (a2:ByteArray):rn (E k) Tryz.f187 (C k) (a0,a1,a2,())=f k a0 a1 a2:=by kernel_rfl
theorem ctr (k:Nat):Cp 187 (C k):=rc rfl (D k) (by kernel_rfl) Tryz.func187 (by kernel_rfl) rfl fun ⟨a0,a1,a2,_⟩ r h=>(eq k a0 a1 a2).trans h
end cI
namespace cy
def C (k:Nat):Cn:=⟨[.val a_,.val .str],[a_,(.int .i64)],true,false,fun x=>f k x.1 x.2.1⟩
def D (k:Nat):List Ce:=[q (d_.ctr k),q (bT.ctr k)]
def E (k:Nat):cL:=en (D k) [] 0 [] k
theorem eq (k:Nat) (a0:Ty.den a_) (a1:ByteArray):rn (E k) Tryz.f175 (C k) (a0,a1,())=f k a0 a1:=by kernel_rfl
theorem ctr (k:Nat):Cp 175 (C k):=rc rfl (D k) (by kernel_rfl) Tryz.func175 (by kernel_rfl) rfl fun ⟨a0,a1,_⟩ r h=>(eq k a0 a1).trans h
end cy
namespace h_
def C (k:Nat):Cn:=⟨[.val a_,.val .str,.val .str],[a_,(.int .i64)],true,false,fun x=>f k x.1 x.2.1 x.2.2.1⟩
def D (k:Nat):List Ce:=[q (dr.ctr k),q (cI.ctr k),q (cy.ctr k)]
def E (k:Nat):cL:=en (D k) [] 0 [] k
theorem eq (k:Nat) (a0:Ty.den a_) (a1:ByteArray) (a2:ByteArray):rn (E k) Tryz.f214 (C k) (a0,a1,a2,())=f k a0 a1 a2:=by kernel_rfl
theorem ctr (k:Nat):Cp 214 (C k):=rc rfl (D k) (by kernel_rfl) Tryz.func214 (by kernel_rfl) rfl fun ⟨a0,a1,a2,_⟩ r h=>(eq k a0 a1 a2).trans h
end h_
namespace fb
def C (k:Nat):Cn:=⟨[.val a_,.val .str,.val .str],[a_,(.int .i64)],true,false,fun x=>f k x.1 x.2.1 x.2.2.1⟩
def D (k:Nat):List Ce:=[q (d_.ctr k),q (eE.ctr k),q (bT.ctr k),q (dk.ctr k),q (b7.ctr k)]
def E (k:Nat):cL:=en (D k) [] 0 [] k
theorem eq (k:Nat) (a0:Ty.den a_) (a1:ByteArray) (a2:ByteArray):rn (E k) Tryz.f188 (C k) (a0,a1,a2,())=f k a0 a1 a2:=by kernel_rfl
theorem ctr (k:Nat):Cp 188 (C k):=rc rfl (D k) (by kernel_rfl) Tryz.func188 (by kernel_rfl) rfl fun ⟨a0,a1,a2,_⟩ r h=>(eq k a0 a1 a2).trans h
end fb
namespace f8
def C (k:Nat):Cn:=⟨[.val a_,.val bA],[a_,(.int .i64)],true,false,fun x=>f k x.1 x.2.1⟩
def D (k:Nat):List Ce:=[q (bH.ctr k),q (cU.ctr k),q (dK.ctr k),q (cR.ctr k),q (h_.ctr k),q (fb.ctr k),q (aY.ctr k)]
def E (k:Nat):cL:=en (D k) [] 0 [] k
theorem eq (k:Nat) (a0:Ty.den a_) (a1:Ty.den bA):rn (E k) Tryz.f205 (C k) (a0,a1,())=f k a0 a1:=by kernel_rfl
theorem ctr (k:Nat):Cp 205 (C k):=rc rfl (D k) (by kernel_rfl) Tryz.func205 (by kernel_rfl) rfl fun ⟨a0,a1,_⟩ r h=>(eq k a0 a1).trans h
end f8
namespace bQ
def C (k:Nat):Cn:=⟨[.val .str],[bA,.bool],true,false,fun x=>f k x.1⟩
def D (k:Nat):List Ce:=[q (dh.ctr k),q (aj.ctr k),q (cR.ctr k)]
def E (k:Nat):cL:=en (D k) [(9,[0,2,4,8,10,11,12])] 0 [] k
section
variable (k:Nat) (a0:ByteArray)
def K0:Ex→St→Rs:=bv (E k) (eK (E k) Tryz.f43 (C k) (a0,())) [.blk 0,.code (at_ (bt 8 255) (body Tryz.f43))]
def V0 (n0:Nat):T0:=fun x0 x1 x2 x3 x4 x5 x6 x7 x8=>ar (bY (E k) (at_ (bt 11 383) (body Tryz.f43))) (am 0 [0,2,4,8,10,11,12]) (K0 k a0) n0 (mk 81 4 [(0,.str x0),(2,.ptr 0 0 0),(4,.str x1),(8,.int .i64 x2),(10,.ptr 2 0 0),(11,.int .i64 x3),(12,.int .i64 x4)] [(1,.own false (.int .i64) x5),(0,.box [.int .i64 x6,.ref 1]),(3,.own false (.int .i64) x7),(2,.box [.int .i64 x8,.ref 3])])
theorem s0 (n0:Nat):V0 k a0 (n0+1)=b0 k (V0 k a0 n0):=by kernel_rfl
theorem e0:V0 k a0=l0 k:=aW rfl (s0 k a0) fun _=>rfl
end
theorem eq (k:Nat) (a0:ByteArray):rn (E k) Tryz.f43 (C k) (a0,())=f k a0:=(show _=t k (V0 k a0 k) a0 by kernel_rfl).trans (by rw [e0];rfl)
theorem ctr (k:Nat):Cp 43 (C k):=rc rfl (D k) (by kernel_rfl) Tryz.func43 (by kernel_rfl) rfl fun ⟨a0,_⟩ r h=>(eq k a0).trans h
end bQ
namespace iU
def C (k:Nat):Cn:=⟨[.val a_,.val .str,.val (.int .i64)],[a_,(.int .i64)],true,false,fun x=>f k x.1 x.2.1 x.2.2.1⟩
def D (k:Nat):List Ce:=[q (d_.ctr k),q (bT.ctr k),q (aX.ctr k)]
def E (k:Nat):cL:=en (D k) [] 0 [] k
theorem eq (k:Nat) (a0:Ty.den a_) (a1:ByteArray) (a2:Int):rn (E k) Tryz.f173 (C k) (a0,a1,a2,())=f k a0 a1 a2:=by kernel_rfl
theorem ctr (k:Nat):Cp 173 (C k):=rc rfl (D k) (by kernel_rfl) Tryz.func173 (by kernel_rfl) rfl fun ⟨a0,a1,a2,_⟩ r h=>(eq k a0 a1 a2).trans h
end iU
namespace bm
def C (k:Nat):Cn:=⟨[.val .str,.val (.int .i64),.val (.int .i64)],[(.slice (.int .i64)),(.int .i64)],true,false,fun x=>f k x.1 x.2.1 x.2.2.1⟩
def D (k:Nat):List Ce:=[q (aj.ctr k)]
def E (k:Nat):cL:=en (D k) [(3,[0,1,2,8,9])] 0 [] k
section
variable (k:Nat) (a0:ByteArray) (a1:Int) (a2:Int)
def K0:Ex→St→Rs:=bv (E k) (eK (E k) Tryz.f206 (C k) (a0,a1,a2,())) [.blk 0,.code (at_ (bt 3 7) (body Tryz.f206))]
def V0 (n0:Nat):T0:=fun x0 x1 x2 x3 x4=>ar (bY (E k) (at_ (bt 6 11) (body Tryz.f206))) (am 0 [0,1,2,8,9]) (K0 k a0 a1 a2) n0 (mk 38 1 [(0,.str x0),(1,.int .i64 x1),(2,.int .i64 x2),(8,.ref 0),(9,.int .i64 x3)] [(0,.own false (.int .i64) x4)])
theorem s0 (n0:Nat):V0 k a0 a1 a2 (n0+1)=b0 k (V0 k a0 a1 a2 n0):=by kernel_rfl
theorem e0:V0 k a0 a1 a2=l0 k:=aW rfl (s0 k a0 a1 a2) fun _=>rfl
end
theorem eq (k:Nat) (a0:ByteArray) (a1:Int) (a2:Int):rn (E k) Tryz.f206 (C k) (a0,a1,a2,())=f k a0 a1 a2:=(show _=t k (V0 k a0 a1 a2 k) a0 a1 a2 by kernel_rfl).trans (by rw [e0];rfl)
theorem ctr (k:Nat):Cp 206 (C k):=rc rfl (D k) (by kernel_rfl) Tryz.func206 (by kernel_rfl) rfl fun ⟨a0,a1,a2,_⟩ r h=>(eq k a0 a1 a2).trans h
end bm
namespace bZ
def C (k:Nat):Cn:=⟨[.val .str],[dc,.bool],true,false,fun x=>f k x.1⟩
def D (k:Nat):List Ce:=[q (bm.ctr k),q (cV.ctr k),q (cH.ctr k)]
def E (k:Nat):cL:=en (D k) [(8,[0,2,4,5,6,7])] 0 [] k
section
variable (k:Nat) (a0:ByteArray)
def K0:Ex→St→Rs:=bv (E k) (eK (E k) Tryz.f176 (C k) (a0,())) [.blk 0,.code (at_ (bt 6 63) (body Tryz.f176))]
def V0 (n0:Nat):T0:=fun x0 x1 x2 x3 x4 x5 x6 x7 x8 x9=>ar (bY (E k) (at_ (bt 9 95) (body Tryz.f176))) (am 0 [0,2,4,5,6,7]) (K0 k a0) n0 (mk 97 5 [(0,.str x0),(2,.ptr 0 0 0),(4,.ref 2),(5,.int .i64 x1),(6,.ptr 3 0 0),(7,.int .i64 x2)] [(1,.own false aA x3),(0,.box [.int .i64 x4,.int .i64 x5,.ref 1]),(2,.own false (.int .i64) x6),(4,.own false aA x7),(3,.box [.int .i64 x8,.int .i64 x9,.ref 4])])
theorem s0 (n0:Nat):V0 k a0 (n0+1)=b0 k (V0 k a0 n0):=by kernel_rfl
theorem e0:V0 k a0=l0 k:=aW rfl (s0 k a0) fun _=>rfl
end
theorem eq (k:Nat) (a0:ByteArray):rn (E k) Tryz.f176 (C k) (a0,())=f k a0:=(show _=t k (V0 k a0 k) a0 by kernel_rfl).trans (by rw [e0];rfl)
theorem ctr (k:Nat):Cp 176 (C k):=rc rfl (D k) (by kernel_rfl) Tryz.func176 (by kernel_rfl) rfl fun ⟨a0,_⟩ r h=>(eq k a0).trans h
end bZ
namespace fP
def C (k:Nat):Cn:=⟨[.val (.slice aA),.val (.slice aA)],[.bool],true,false,fun x=>f k x.1 x.2.1⟩
def E (k:Nat):cL:=en [] [(4,[0,1,5])] 0 [] k
section
variable (k:Nat) (a0:List (Ty.den aA)) (a1:List (Ty.den aA))
def K0:Ex→St→Rs:=bv (E k) (eK (E k) Tryz.f207 (C k) (a0,a1,())) [.blk 0,.code (at_ (bt 3 7) (body Tryz.f207))]
def V0 (n0:Nat):T0:=fun x0 x1 x2=>ar (bY (E k) (at_ (bt 6 11) (body Tryz.f207))) (am 0 [0,1,5]) (K0 k a0 a1) n0 (mk 26 0 [(0,.sl true aA x0),(1,.sl true aA x1),(5,.int .i64 x2)] [])
theorem s0 (n0:Nat):V0 k a0 a1 (n0+1)=b0 k (V0 k a0 a1 n0):=by kernel_rfl
theorem e0:V0 k a0 a1=l0 k:=aW rfl (s0 k a0 a1) fun _=>rfl
end
theorem eq (k:Nat) (a0:List (Ty.den aA)) (a1:List (Ty.den aA)):rn (E k) Tryz.f207 (C k) (a0,a1,())=f k a0 a1:=(show _=t k (V0 k a0 a1 k) a0 a1 by kernel_rfl).trans (by rw [e0];rfl)
theorem ctr (k:Nat):Cp 207 (C k):=rc rfl [] (by kernel_rfl) Tryz.func207 (by kernel_rfl) rfl fun ⟨a0,a1,_⟩ r h=>(eq k a0 a1).trans h
end fP
namespace gu
def C (k:Nat):Cn:=⟨[.val (.int .i64),.val .str,.val dc],[.bool],true,false,fun x=>f k x.1 x.2.1 x.2.2.1⟩
def D (k:Nat):List Ce:=[q (cv.ctr k),q (fP.ctr k)]
def E (k:Nat):cL:=en (D k) [] 0 [] k
theorem eq (k:Nat) (a0:Int) (a1:ByteArray) (a2:Ty.den dc):rn (E k) Tryz.f177 (C k) (a0,a1,a2,())=f k a0 a1 a2:=by kernel_rfl
theorem ctr (k:Nat):Cp 177 (C k):=rc rfl (D k) (by kernel_rfl) Tryz.func177 (by kernel_rfl) rfl fun ⟨a0,a1,a2,_⟩ r h=>(eq k a0 a1 a2).trans h
end gu
namespace bD
def C (k:Nat):Cn:=⟨[.val (.int .i64),.val .str],[(.slice aC)],true,false,fun x=>f k x.1 x.2.1⟩
def D (k:Nat):List Ce:=[q (bW.ctr k)]
def E (k:Nat):cL:=en (D k) [(4,[0,5,6,8])] 0 [] k
section
variable (k:Nat) (a0:Int) (a1:ByteArray)
def K0:Ex→St→Rs:=bv (E k) (eK (E k) Tryz.f46 (C k) (a0,a1,())) [.blk 0,.code (at_ (bt 4 15) (body Tryz.f46))]
def V0 (n0:Nat):T0:=fun x0 x1 x2 x3=>ar (bY (E k) (at_ (bt 7 23) (body Tryz.f46))) (am 0 [0,5,6,8]) (K0 k a0 a1) n0 (mk 42 2 [(0,.int .i64 x0),(5,.ref 0),(6,.ref 1),(8,.int .i64 x1)] [(0,.own false aC x2),(1,.own false bM x3)])
theorem s0 (n0:Nat):V0 k a0 a1 (n0+1)=b0 k (V0 k a0 a1 n0):=by kernel_rfl
theorem e0:V0 k a0 a1=l0 k:=aW rfl (s0 k a0 a1) fun _=>rfl
end
theorem eq (k:Nat) (a0:Int) (a1:ByteArray):rn (E k) Tryz.f46 (C k) (a0,a1,())=f k a0 a1:=(show _=t k (V0 k a0 a1 k) a0 a1 by kernel_rfl).trans (by rw [e0];rfl)
theorem ctr (k:Nat):Cp 46 (C k):=rc rfl (D k) (by kernel_rfl) Tryz.func46 (by kernel_rfl) rfl fun ⟨a0,a1,_⟩ r h=>(eq k a0 a1).trans h
end bD
namespace gj
def C (k:Nat):Cn:=⟨[.val (.slice aC),.val (.int .i64),.val (.int .i64)],[(.slice aC)],true,false,fun x=>f k x.1 x.2.1 x.2.2.1⟩
def E (k:Nat):cL:=en [] [(3,[0,1,2,7,8])] 0 [] k
section
variable (k:Nat) (a0:List (Ty.den aC)) (a1:Int) (a2:Int)
def K0:Ex→St→Rs:=bv (E k) (eK (E k) Tryz.f112 (C k) (a0,a1,a2,())) [.blk 0,.code (at_ (bt 3 7) (body Tryz.f112))]
def V0 (n0:Nat):T0:=fun x0 x1 x2 x3 x4=>ar (bY (E k) (at_ (bt 6 11) (body Tryz.f112))) (am 0 [0,1,2,7,8]) (K0 k a0 a1 a2) n0 (mk 53 1 [(0,.sl true aC x0),(1,.int .i64 x1),(2,.int .i64 x2),(7,.ref 0),(8,.int .i64 x3)] [(0,.own false aC x4)])
theorem s0 (n0:Nat):V0 k a0 a1 a2 (n0+1)=b0 k (V0 k a0 a1 a2 n0):=by kernel_rfl
theorem e0:V0 k a0 a1 a2=l0 k:=aW rfl (s0 k a0 a1 a2) fun _=>rfl
end
theorem eq (k:Nat) (a0:List (Ty.den aC)) (a1:Int) (a2:Int):rn (E k) Tryz.f112 (C k) (a0,a1,a2,())=f k a0 a1 a2:=(show _=t k (V0 k a0 a1 a2 k) a0 a1 a2 by kernel_rfl).trans (by rw [e0];rfl)
theorem ctr (k:Nat):Cp 112 (C k):=rc rfl [] (by kernel_rfl) Tryz.func112 (by kernel_rfl) rfl fun ⟨a0,a1,a2,_⟩ r h=>(eq k a0 a1 a2).trans h
end gj
namespace gI
def C (k:Nat):Cn:=⟨[.val (.slice aC)],[(.slice bU)],true,false,fun x=>f k x.1⟩
def E (k:Nat):cL:=en [] [(3,[0,3,4])] 0 [] k
section
variable (k:Nat) (a0:List (Ty.den aC))
def K0:Ex→St→Rs:=bv (E k) (eK (E k) Tryz.f170 (C k) (a0,())) [.blk 0,.code (at_ (bt 3 7) (body Tryz.f170))]
def V0 (n0:Nat):T0:=fun x0 x1 x2=>ar (bY (E k) (at_ (bt 6 11) (body Tryz.f170))) (am 0 [0,3,4]) (K0 k a0) n0 (mk 21 1 [(0,.sl true aC x0),(3,.ref 0),(4,.int .i64 x1)] [(0,.own false bU x2)])
theorem s0 (n0:Nat):V0 k a0 (n0+1)=b0 k (V0 k a0 n0):=by kernel_rfl
theorem e0:V0 k a0=l0 k:=aW rfl (s0 k a0) fun _=>rfl
end
theorem eq (k:Nat) (a0:List (Ty.den aC)):rn (E k) Tryz.f170 (C k) (a0,())=f k a0:=(show _=t k (V0 k a0 k) a0 by kernel_rfl).trans (by rw [e0];rfl)
theorem ctr (k:Nat):Cp 170 (C k):=rc rfl [] (by kernel_rfl) Tryz.func170 (by kernel_rfl) rfl fun ⟨a0,_⟩ r h=>(eq k a0).trans h
end gI
namespace i6
def C (k:Nat):Cn:=⟨[.val bU,.val (.slice aC)],[.bool],true,false,fun x=>f k x.1 x.2.1⟩
def D (k:Nat):List Ce:=[q (gI.ctr k),q (g9.ctr k)]
def E (k:Nat):cL:=en (D k) [] 0 [] k
theorem eq (k:Nat) (a0:Ty.den bU) (a1:List (Ty.den aC)):rn (E k) Tryz.f111 (C k) (a0,a1,())=f k a0 a1:=by kernel_rfl
theorem ctr (k:Nat):Cp 111 (C k):=rc rfl (D k) (by kernel_rfl) Tryz.func111 (by kernel_rfl) rfl fun ⟨a0,a1,_⟩ r h=>(eq k a0 a1).trans h
end i6
namespace dA
def C (k:Nat):Cn:=⟨[.val (.slice aA),.val .str],[(.slice aA)],true,false,fun x=>f k x.1 x.2.1⟩
def E (k:Nat):cL:=en [] [(3,[0,1,5,6])] 0 [] k
section
variable (k:Nat) (a0:List (Ty.den aA)) (a1:ByteArray)
def K0:Ex→St→Rs:=bv (E k) (eK (E k) Tryz.f216 (C k) (a0,a1,())) [.blk 0,.code (at_ (bt 3 7) (body Tryz.f216))]
def V0 (n0:Nat):T0:=fun x0 x1 x2 x3=>ar (bY (E k) (at_ (bt 6 11) (body Tryz.f216))) (am 0 [0,1,5,6]) (K0 k a0 a1) n0 (mk 29 1 [(0,.sl true aA x0),(1,.str x1),(5,.ref 0),(6,.int .i64 x2)] [(0,.own false aA x3)])
theorem s0 (n0:Nat):V0 k a0 a1 (n0+1)=b0 k (V0 k a0 a1 n0):=by kernel_rfl
theorem e0:V0 k a0 a1=l0 k:=aW rfl (s0 k a0 a1) fun _=>rfl
end
theorem eq (k:Nat) (a0:List (Ty.den aA)) (a1:ByteArray):rn (E k) Tryz.f216 (C k) (a0,a1,())=f k a0 a1:=(show _=t k (V0 k a0 a1 k) a0 a1 by kernel_rfl).trans (by rw [e0];rfl)
theorem ctr (k:Nat):Cp 216 (C k):=rc rfl [] (by kernel_rfl) Tryz.func216 (by kernel_rfl) rfl fun ⟨a0,a1,_⟩ r h=>(eq k a0 a1).trans h
end dA
namespace bn
def C (k:Nat):Cn:=⟨[.val (.slice aA),.val aA],[(.slice aA)],true,false,fun x=>f k x.1 x.2.1⟩
def E (k:Nat):cL:=en [] [(4,[0,3,5,6,7])] 0 [] k
section
variable (k:Nat) (a0:List (Ty.den aA)) (a1:Ty.den aA)
def K0:Ex→St→Rs:=bv (E k) (eK (E k) Tryz.f118 (C k) (a0,a1,())) [.blk 0,.code (at_ (bt 4 15) (body Tryz.f118))]
def V0 (n0:Nat):T0:=fun x0 x1 x2 x3 x4 x5 x6 x7 x8=>ar (bY (E k) (at_ (bt 7 23) (body Tryz.f118))) (am 0 [0,3,5,6,7]) (K0 k a0 a1) n0 (mk 53 2 [(0,.sl true aA x0),(3,.ptr 0 0 0),(5,.ref 1),(6,.bool x1),(7,.int .i64 x2)] [(0,.box [.str x3,.int .i64 x4,.int .i64 x5,.int .i64 x6,.int .i64 x7]),(1,.own false aA x8)])
theorem s0 (n0:Nat):V0 k a0 a1 (n0+1)=b0 k (V0 k a0 a1 n0):=by kernel_rfl
theorem e0:V0 k a0 a1=l0 k:=aW rfl (s0 k a0 a1) fun _=>rfl
end
theorem eq (k:Nat) (a0:List (Ty.den aA)) (a1:Ty.den aA):rn (E k) Tryz.f118 (C k) (a0,a1,())=f k a0 a1:=(show _=t k (V0 k a0 a1 k) a0 a1 by kernel_rfl).trans (by rw [e0];rfl)
theorem ctr (k:Nat):Cp 118 (C k):=rc rfl [] (by kernel_rfl) Tryz.func118 (by kernel_rfl) rfl fun ⟨a0,a1,_⟩ r h=>(eq k a0 a1).trans h
end bn
namespace iF
def C (k:Nat):Cn:=⟨[.val (.slice aA),.val aC],[(.slice aA)],true,false,fun x=>f k x.1 x.2.1⟩
def D (k:Nat):List Ce:=[q (dA.ctr k),q (bn.ctr k)]
def E (k:Nat):cL:=en (D k) [] 0 [] k
theorem eq (k:Nat) (a0:List (Ty.den aA)) (a1:Ty.den aC):rn (E k) Tryz.f209 (C k) (a0,a1,())=f k a0 a1:=by kernel_rfl
theorem ctr (k:Nat):Cp 209 (C k):=rc rfl (D k) (by kernel_rfl) Tryz.func209 (by kernel_rfl) rfl fun ⟨a0,a1,_⟩ r h=>(eq k a0 a1).trans h
end iF
namespace fD
def C (k:Nat):Cn:=⟨[.val (.slice aC),.val (.int .i64)],[(.slice aC)],true,false,fun x=>f k x.1 x.2.1⟩
def E (k:Nat):cL:=en [] [(3,[0,1,5,6])] 0 [] k
section
variable (k:Nat) (a0:List (Ty.den aC)) (a1:Int)
def K0:Ex→St→Rs:=bv (E k) (eK (E k) Tryz.f208 (C k) (a0,a1,())) [.blk 0,.code (at_ (bt 3 7) (body Tryz.f208))]
def V0 (n0:Nat):T0:=fun x0 x1 x2 x3=>ar (bY (E k) (at_ (bt 6 11) (body Tryz.f208))) (am 0 [0,1,5,6]) (K0 k a0 a1) n0 (mk 36 1 [(0,.sl true aC x0),(1,.int .i64 x1),(5,.ref 0),(6,.int .i64 x2)] [(0,.own false aC x3)])
theorem s0 (n0:Nat):V0 k a0 a1 (n0+1)=b0 k (V0 k a0 a1 n0):=by kernel_rfl
theorem e0:V0 k a0 a1=l0 k:=aW rfl (s0 k a0 a1) fun _=>rfl
end
theorem eq (k:Nat) (a0:List (Ty.den aC)) (a1:Int):rn (E k) Tryz.f208 (C k) (a0,a1,())=f k a0 a1:=(show _=t k (V0 k a0 a1 k) a0 a1 by kernel_rfl).trans (by rw [e0];rfl)
theorem ctr (k:Nat):Cp 208 (C k):=rc rfl [] (by kernel_rfl) Tryz.func208 (by kernel_rfl) rfl fun ⟨a0,a1,_⟩ r h=>(eq k a0 a1).trans h
end fD
namespace cF
def C (k:Nat):Cn:=⟨[.val g_,.val (.slice aC)],[g_],true,false,fun x=>f k x.1 x.2.1⟩
def D (k:Nat):List Ce:=[q (gj.ctr k),q (i6.ctr k),q (iF.ctr k),q (fD.ctr k)]
def E (k:Nat):cL:=en (D k) [(3,[1,4,5,6]),(17,[1,4,5,6,8,9])] 0 [] k
section
variable (k:Nat) (a0:Ty.den g_) (a1:List (Ty.den aC))
def K0:Ex→St→Rs:=bv (E k) (eK (E k) Tryz.f178 (C k) (a0,a1,())) [.blk 0,.code (at_ (bt 3 7) (body Tryz.f178))]
def B0 (n0:Nat):Ex→St→Rs:=JY (E k) (at_ (bt 6 11) (body Tryz.f178)) 0 [1,4,5,6] (K0 k a0 a1) n0
def K1 (n0:Nat):Ex→St→Rs:=bv (E k) (B0 k a0 a1 n0) [.blk 3,.code (at_ (bt 14 15947) (body Tryz.f178)),.blk 1,.code (at_ (bt 8 203) (body Tryz.f178))]
def V0 (n0:Nat):T0:=fun x0 x1 x2 x3 x4 x5 x6 x7=>ar (bY (E k) (at_ (bt 6 11) (body Tryz.f178))) (am 0 [1,4,5,6]) (K0 k a0 a1) n0 (mk 97 4 [(1,.sl true aC x0),(4,.ptr 0 0 0),(5,.ptr 2 0 0),(6,.int .i64 x1)] [(1,.own false aA x2),(0,.box [.ref 1,.int .i64 x3,.int .i64 x4]),(3,.own false aA x5),(2,.box [.ref 3,.int .i64 x6,.int .i64 x7])])
def V1 (n0 n1:Nat):T1:=fun x0 x1 x2 x3 x4 x5 x6 x7 x8 x9=>ar (bY (E k) (at_ (bt 17 24139) (body Tryz.f178))) (am 0 [1,4,5,6,8,9]) (K1 k a0 a1 n0) n1 (mk 97 5 [(1,.sl true aC x0),(4,.ptr 0 0 0),(5,.ptr 2 0 0),(6,.int .i64 x1),(8,.ref 4),(9,.int .i64 x2)] [(1,.own false aA x3),(0,.box [.ref 1,.int .i64 x4,.int .i64 x5]),(3,.own false aA x6),(2,.box [.ref 3,.int .i64 x7,.int .i64 x8]),(4,.own false aC x9)])
theorem s0 (n0:Nat):V0 k a0 a1 (n0+1)=b0 k (V1 k a0 a1 n0 k) (V0 k a0 a1 n0):=by kernel_rfl
theorem s1 (n0 n1:Nat):V1 k a0 a1 n0 (n1+1)=b1 k (V0 k a0 a1 n0) (V1 k a0 a1 n0 n1):=by kernel_rfl
theorem e1 (n0:Nat):V1 k a0 a1 n0=l1 k (V0 k a0 a1 n0):=aW rfl (s1 k a0 a1 n0) fun _=>rfl
theorem e0 (n0:Nat):V0 k a0 a1 n0=l0 k n0:=by
 induction n0 with
 | zero=>rfl
 | succ n0 ih =>
  have h:V0 k a0 a1 (n0+1)=b0 k (V1 k a0 a1 n0 k) (V0 k a0 a1 n0):=s0 k a0 a1 n0
  rw [h,e1,ih]
  rfl
end
theorem eq (k:Nat) (a0:Ty.den g_) (a1:List (Ty.den aC)):rn (E k) Tryz.f178 (C k) (a0,a1,())=f k a0 a1:=(show _=t k (V0 k a0 a1 k) a0 a1 by kernel_rfl).trans (by rw [e0];rfl)
theorem ctr (k:Nat):Cp 178 (C k):=rc rfl (D k) (by kernel_rfl) Tryz.func178 (by kernel_rfl) rfl fun ⟨a0,a1,_⟩ r h=>(eq k a0 a1).trans h
end cF
namespace bx
def C (k:Nat):Cn:=⟨[.give a_,.val bA],[a_,(.int .i64)],true,false,fun x=>f k x.1 x.2.1⟩
def D (k:Nat):List Ce:=[q (bS.ctr k),q (gW.ctr k),q (aY.ctr k)]
def E (k:Nat):cL:=en (D k) [(3,[2,4,6,7])] 0 [] k
section
variable (k:Nat) (a0:Ty.den a_) (a1:Ty.den bA)
def K0:Ex→St→Rs:=bv (E k) (eK (E k) Tryz.f179 (C k) (a0,a1,())) [.blk 0,.code (at_ (bt 3 7) (body Tryz.f179))]
def V0 (n0:Nat):T0:=fun x0 x1 x2 x3 x4 x5 x6 x7 x8 x9=>ar (bY (E k) (at_ (bt 6 11) (body Tryz.f179))) (am 0 [2,4,6,7]) (K0 k a0 a1) n0 (mk 35 5 [(2,.ptr 0 0 0),(4,.ptr 2 0 0),(6,.ref 4),(7,.int .i64 x0)] [(1,.own false aE x1),(0,.box [.ref 1,.int .i64 x2,.int .i64 x3,.bool x4]),(3,.own false aE x5),(2,.box [.ref 3,.int .i64 x6,.int .i64 x7,.bool x8]),(4,.own false .str x9)])
theorem s0 (n0:Nat):V0 k a0 a1 (n0+1)=b0 k (V0 k a0 a1 n0):=by kernel_rfl
theorem e0:V0 k a0 a1=l0 k:=aW rfl (s0 k a0 a1) fun _=>rfl
end
theorem eq (k:Nat) (a0:Ty.den a_) (a1:Ty.den bA):rn (E k) Tryz.f179 (C k) (a0,a1,())=f k a0 a1:=(show _=t k (V0 k a0 a1 k) a0 a1 by kernel_rfl).trans (by rw [e0];rfl)
theorem ctr (k:Nat):Cp 179 (C k):=rc rfl (D k) (by kernel_rfl) Tryz.func179 (by kernel_rfl) rfl fun ⟨a0,a1,_⟩ r h=>(eq k a0 a1).trans h
end bx
namespace gV
def C (k:Nat):Cn:=⟨[.give a_],[aI,a_,(.int .i64)],true,false,fun x=>f k x.1⟩
def D (k:Nat):List Ce:=[q (bx.ctr k),q (aT.ctr k),q (eG.ctr k),q (aY.ctr k),q (f8.ctr k)]
def E (k:Nat):cL:=en (D k) [] 0 [] k
theorem eq (k:Nat) (a0:Ty.den a_):rn (E k) Tryz.f172 (C k) (a0,())=f k a0:=by kernel_rfl
theorem ctr (k:Nat):Cp 172 (C k):=rc rfl (D k) (by kernel_rfl) Tryz.func172 (by kernel_rfl) rfl fun ⟨a0,_⟩ r h=>(eq k a0).trans h
end gV
namespace bG
def C (k:Nat):Cn:=⟨[.give a_],[aI,a_,(.int .i64)],true,false,fun x=>f k x.1⟩
def D (k:Nat):List Ce:=[q (bH.ctr k),q (cU.ctr k),q (bI.ctr k),q (gV.ctr k),q (bQ.ctr k),q (aT.ctr k),q (bW.ctr k),q (iU.ctr k),q (aY.ctr k),q (cy.ctr k),q (bo.ctr k),q (bZ.ctr k),q (gu.ctr k),q (bD.ctr k),q (cF.ctr k),q (bx.ctr k)]
def E (k:Nat):cL:=en (D k) [(14,[1,2,3,5,8,9,10]),(35,[2,3,5,8,19,23,24,25,26])] 0 [] k
section
variable (k:Nat) (a0:Ty.den a_)
def K0:Ex→St→Rs:=bv (E k) (eK (E k) Tryz.f113 (C k) (a0,())) [.blk 0,.code (at_ (bt 10 1023) (body Tryz.f113))]
def K1:Ex→St→Rs:=bv (E k) (eK (E k) Tryz.f113 (C k) (a0,())) [.blk 2,.code (at_ (bt 20 1048575) (body Tryz.f113))]
def V0 (n0:Nat):T0:=fun x0 x1 x2 x3 x4 x5 x6 x7 x8 x9 x10 x11 x12 x13 x14 x15 x16 x17 x18 x19 x20 x21 x22 x23=>ar (bY (E k) (at_ (bt 13 1535) (body Tryz.f113))) (am 0 [1,2,3,5,8,9,10]) (K0 k a0) n0 (mk 268 12 [(1,.ptr 0 0 0),(2,.ptr 2 0 0),(3,.ptr 5 0 0),(5,.ptr 7 0 0),(8,.ptr 10 0 0),(9,.int .i64 x0),(10,.int .i64 x1)] [(1,.own false aE x2),(0,.box [.ref 1,.int .i64 x3,.int .i64 x4,.bool x5]),(3,.own false (.int .i64) x6),(4,.own false aA x7),(2,.box [.int .i64 x8,.ref 3,.ref 4,.int .i64 x9,.int .i64 x10,.int .i64 x11]),(6,.own false aE x12),(5,.box [.ref 6,.int .i64 x13,.int .i64 x14,.bool x15]),(8,.own false (.int .i64) x16),(9,.own false aA x17),(7,.box [.int .i64 x18,.ref 8,.ref 9,.int .i64 x19,.int .i64 x20,.int .i64 x21]),(11,.own false (.int .i64) x22),(10,.box [.int .i64 x23,.ref 11])])
def V1 (n1:Nat):T1:=fun x0 x1 x2 x3 x4 x5 x6 x7 x8 x9 x10 x11 x12 x13 x14 x15 x16 x17 x18 x19 x20 x21 x22 x23 x24 x25 x26 x27 x28 x29 x30 x31=>ar (bY (E k) (at_ (bt 23 1572863) (body Tryz.f113))) (am 0 [2,3,5,8,19,23,24,25,26]) (K1 k a0) n1 (mk 268 17 [(2,.ptr 0 0 0),(3,.ptr 3 0 0),(5,.ptr 5 0 0),(8,.ptr 8 0 0),(19,.ptr 10 0 0),(23,.ptr 12 0 0),(24,.ptr 14 0 0),(25,.ref 16),(26,.int .i64 x0)] [(1,.own false (.int .i64) x1),(2,.own false aA x2),(0,.box [.int .i64 x3,.ref 1,.ref 2,.int .i64 x4,.int .i64 x5,.int .i64 x6]),(4,.own false aE x7),(3,.box [.ref 4,.int .i64 x8,.int .i64 x9,.bool x10]),(6,.own false (.int .i64) x11),(7,.own false aA x12),(5,.box [.int .i64 x13,.ref 6,.ref 7,.int .i64 x14,.int .i64 x15,.int .i64 x16]),(9,.own false (.int .i64) x17),(8,.box [.int .i64 x18,.ref 9]),(11,.own false aE x19),(10,.box [.ref 11,.int .i64 x20,.int .i64 x21,.bool x22]),(13,.own false aA x23),(12,.box [.int .i64 x24,.ref 9,.ref 13,.int .i64 x25,.int .i64 x26,.int .i64 x27]),(15,.own false aA x28),(14,.box [.ref 15,.int .i64 x29,.int .i64 x30]),(16,.own false aC x31)])
def V2 (n1:Nat):T2:=fun x0 x1 x2 x3 x4 x5 x6 x7 x8 x9 x10 x11 x12 x13 x14 x15 x16 x17 x18 x19 x20 x21 x22 x23 x24 x25 x26 x27 x28 x29 x30 x31=>ar (bY (E k) (at_ (bt 23 1572863) (body Tryz.f113))) (am 0 [2,3,5,8,19,23,24,25,26]) (K1 k a0) n1 (mk 268 17 [(2,.ptr 0 0 0),(3,.ptr 3 0 0),(5,.ptr 5 0 0),(8,.ptr 8 0 0),(19,.ptr 10 0 0),(23,.ptr 12 0 0),(24,.ptr 14 0 0),(25,.ref 16),(26,.int .i64 x0)] [(1,.own false (.int .i64) x1),(2,.own false aA x2),(0,.box [.int .i64 x3,.ref 1,.ref 2,.int .i64 x4,.int .i64 x5,.int .i64 x6]),(4,.own false aE x7),(3,.box [.ref 4,.int .i64 x8,.int .i64 x9,.bool x10]),(6,.own false (.int .i64) x11),(7,.own false aA x12),(5,.box [.int .i64 x13,.ref 6,.ref 7,.int .i64 x14,.int .i64 x15,.int .i64 x16]),(9,.own false (.int .i64) x17),(8,.box [.int .i64 x18,.ref 9]),(11,.own false aE x19),(10,.box [.ref 11,.int .i64 x20,.int .i64 x21,.bool x22]),(13,.own false aA x23),(12,.box [.int .i64 x24,.ref 9,.ref 13,.int .i64 x25,.int .i64 x26,.int .i64 x27]),(15,.own false aA x28),(14,.box [.ref 15,.int .i64 x29,.int .i64 x30]),(16,.own false aC x31)])
theorem s0 (n0:Nat):V0 k a0 (n0+1)=b0 k (V1 k a0 k) (V2 k a0 k) (V0 k a0 n0):=by kernel_rfl
theorem s1 (n1:Nat):V1 k a0 (n1+1)=b1 k (V1 k a0 n1):=by kernel_rfl
theorem s2 (n1:Nat):V2 k a0 (n1+1)=b2 k (V2 k a0 n1):=by kernel_rfl
theorem e1:V1 k a0=l1 k:=aW rfl (s1 k a0) fun _=>rfl
theorem e2:V2 k a0=l2 k:=aW rfl (s2 k a0) fun _=>rfl
theorem e0 (n0:Nat):V0 k a0 n0=l0 k n0:=by
 induction n0 with
 | zero=>rfl
 | succ n0 ih =>
  have h:V0 k a0 (n0+1)=b0 k (V1 k a0 k) (V2 k a0 k) (V0 k a0 n0):=s0 k a0 n0
  rw [h,e1,e2,ih]
  rfl
end
theorem eq (k:Nat) (a0:Ty.den a_):rn (E k) Tryz.f113 (C k) (a0,())=f k a0:=(show _=t k (V0 k a0 k) a0 by kernel_rfl).trans (by rw [e0];rfl)
theorem ctr (k:Nat):Cp 113 (C k):=rc rfl (D k) (by kernel_rfl) Tryz.func113 (by kernel_rfl) rfl fun ⟨a0,_⟩ r h=>(eq k a0).trans h
end bG
namespace fO
def C (k:Nat):Cn:=⟨[.val aI],[aI],true,false,fun x=>f k x.1⟩
def E (k:Nat):cL:=en [] [] 0 [] k
theorem eq (k:Nat) (a0:Ty.den aI):rn (E k) Tryz.f180 (C k) (a0,())=f k a0:=by kernel_rfl
theorem ctr (k:Nat):Cp 180 (C k):=rc rfl [] (by kernel_rfl) Tryz.func180 (by kernel_rfl) rfl fun ⟨a0,_⟩ r h=>(eq k a0).trans h
end fO
namespace jF
def C (k:Nat):Cn:=⟨[.val .str,.val (.int .i64),.val (.int .i64)],[bU,.bool],true,false,fun x=>f k x.1 x.2.1 x.2.2.1⟩
def D (k:Nat):List Ce:=[q (aX.ctr k),q (dh.ctr k),q (eN.ctr k)]
def E (k:Nat):cL:=en (D k) [] 0 [] k
theorem eq (k:Nat) (a0:ByteArray) (a1:Int) (a2:Int):rn (E k) Tryz.f134 (C k) (a0,a1,a2,())=f k a0 a1 a2:=by kernel_rfl
theorem ctr (k:Nat):Cp 134 (C k):=rc rfl (D k) (by kernel_rfl) Tryz.func134 (by kernel_rfl) rfl fun ⟨a0,a1,a2,_⟩ r h=>(eq k a0 a1 a2).trans h
end jF
namespace cG
def C (k:Nat):Cn:=⟨[.val aI,.val a_],[.bool],true,false,fun x=>f k x.1 x.2.1⟩
def D (k:Nat):List Ce:=[q (bH.ctr k),q (dK.ctr k),q (fC.ctr k),q (aX.ctr k),q (aT.ctr k),q (bI.ctr k),q (bW.ctr k),q (jF.ctr k)]
def E (k:Nat):cL:=en (D k) [(4,[2,3,5]),(11,[2,3,10])] 0 [] k
section
variable (k:Nat) (a0:Ty.den aI) (a1:Ty.den a_)
def K0:Ex→St→Rs:=bv (E k) (eK (E k) Tryz.f181 (C k) (a0,a1,())) [.blk 0,.code (at_ (bt 3 7) (body Tryz.f181))]
def K1:Ex→St→Rs:=bv (E k) (eK (E k) Tryz.f181 (C k) (a0,a1,())) [.blk 2,.code (at_ (bt 4 15) (body Tryz.f181))]
def V0 (n0:Nat):T0:=fun x0 x1 x2 x3 x4 x5 x6 x7 x8 x9 x10=>ar (bY (E k) (at_ (bt 6 11) (body Tryz.f181))) (am 0 [2,3,5]) (K0 k a0 a1) n0 (mk 148 2 [(2,.ptr 0 0 0),(3,.ptr 1 0 0),(5,.int .i64 x0)] [(0,.box [.int .i64 x1,.sl true (.int .i64) x2,.sl true aA x3,.int .i64 x4,.int .i64 x5,.int .i64 x6]),(1,.box [.sl true aE x7,.int .i64 x8,.int .i64 x9,.bool x10])])
def V1 (n1:Nat):T1:=fun x0 x1 x2 x3 x4 x5 x6 x7 x8 x9 x10=>ar (bY (E k) (at_ (bt 7 23) (body Tryz.f181))) (am 0 [2,3,10]) (K1 k a0 a1) n1 (mk 148 2 [(2,.ptr 0 0 0),(3,.ptr 1 0 0),(10,.int .i64 x0)] [(0,.box [.int .i64 x1,.sl true (.int .i64) x2,.sl true aA x3,.int .i64 x4,.int .i64 x5,.int .i64 x6]),(1,.box [.sl true aE x7,.int .i64 x8,.int .i64 x9,.bool x10])])
theorem s0 (n0:Nat):V0 k a0 a1 (n0+1)=b0 k (V1 k a0 a1 k) (V0 k a0 a1 n0):=by kernel_rfl
theorem s1 (n1:Nat):V1 k a0 a1 (n1+1)=b1 k (V1 k a0 a1 n1):=by kernel_rfl
theorem e1:V1 k a0 a1=l1 k:=aW rfl (s1 k a0 a1) fun _=>rfl
theorem e0 (n0:Nat):V0 k a0 a1 n0=l0 k n0:=by
 induction n0 with
 | zero=>rfl
 | succ n0 ih =>
  have h:V0 k a0 a1 (n0+1)=b0 k (V1 k a0 a1 k) (V0 k a0 a1 n0):=s0 k a0 a1 n0
  rw [h,e1,ih]
  rfl
end
theorem eq (k:Nat) (a0:Ty.den aI) (a1:Ty.den a_):rn (E k) Tryz.f181 (C k) (a0,a1,())=f k a0 a1:=(show _=t k (V0 k a0 a1 k) a0 a1 by kernel_rfl).trans (by rw [e0];rfl)
theorem ctr (k:Nat):Cp 181 (C k):=rc rfl (D k) (by kernel_rfl) Tryz.func181 (by kernel_rfl) rfl fun ⟨a0,a1,_⟩ r h=>(eq k a0 a1).trans h
end cG
namespace gF
def C (k:Nat):Cn:=⟨[.val (.slice aA),.val .str],[aA,.bool],true,false,fun x=>f k x.1 x.2.1⟩
def E (k:Nat):cL:=en [] [(2,[0,1,4,6])] 0 [] k
section
variable (k:Nat) (a0:List (Ty.den aA)) (a1:ByteArray)
def K0:Ex→St→Rs:=bv (E k) (eK (E k) Tryz.f133 (C k) (a0,a1,())) [.blk 0,.code (at_ (bt 2 3) (body Tryz.f133))]
def V0 (n0:Nat):T0:=fun x0 x1 x2 x3 x4 x5 x6 x7=>ar (bY (E k) (at_ (bt 5 5) (body Tryz.f133))) (am 0 [0,1,4,6]) (K0 k a0 a1) n0 (mk 25 1 [(0,.sl true aA x0),(1,.str x1),(4,.ptr 0 0 0),(6,.int .i64 x2)] [(0,.box [.str x3,.int .i64 x4,.int .i64 x5,.int .i64 x6,.int .i64 x7])])
theorem s0 (n0:Nat):V0 k a0 a1 (n0+1)=b0 k (V0 k a0 a1 n0):=by kernel_rfl
theorem e0:V0 k a0 a1=l0 k:=aW rfl (s0 k a0 a1) fun _=>rfl
end
theorem eq (k:Nat) (a0:List (Ty.den aA)) (a1:ByteArray):rn (E k) Tryz.f133 (C k) (a0,a1,())=f k a0 a1:=(show _=t k (V0 k a0 a1 k) a0 a1 by kernel_rfl).trans (by rw [e0];rfl)
theorem ctr (k:Nat):Cp 133 (C k):=rc rfl [] (by kernel_rfl) Tryz.func133 (by kernel_rfl) rfl fun ⟨a0,a1,_⟩ r h=>(eq k a0 a1).trans h
end gF
namespace mQ
def C (k:Nat):Cn:=⟨[.val aI,.val a_,.val .str],[aE,(.int .i64)],true,false,fun x=>f k x.1 x.2.1 x.2.2.1⟩
def D (k:Nat):List Ce:=[q (gF.ctr k),q (aT.ctr k),q (bI.ctr k),q (jF.ctr k)]
def E (k:Nat):cL:=en (D k) [] 0 [] k
theorem eq (k:Nat) (a0:Ty.den aI) (a1:Ty.den a_) (a2:ByteArray):rn (E k) Tryz.f72 (C k) (a0,a1,a2,())=f k a0 a1 a2:=by kernel_rfl
theorem ctr (k:Nat):Cp 72 (C k):=rc rfl (D k) (by kernel_rfl) Tryz.func72 (by kernel_rfl) rfl fun ⟨a0,a1,a2,_⟩ r h=>(eq k a0 a1 a2).trans h
end mQ
namespace iZ
def C (k:Nat):Cn:=⟨[.val aI,.val a_],[(.slice aE),(.int .i64)],true,false,fun x=>f k x.1 x.2.1⟩
def D (k:Nat):List Ce:=[q (mQ.ctr k)]
def E (k:Nat):cL:=en (D k) [(3,[2,3,6,7])] 0 [] k
section
variable (k:Nat) (a0:Ty.den aI) (a1:Ty.den a_)
def K0:Ex→St→Rs:=bv (E k) (eK (E k) Tryz.f25 (C k) (a0,a1,())) [.blk 0,.code (at_ (bt 3 7) (body Tryz.f25))]
def V0 (n0:Nat):T0:=fun x0 x1 x2 x3 x4 x5 x6 x7 x8 x9 x10 x11=>ar (bY (E k) (at_ (bt 6 11) (body Tryz.f25))) (am 0 [2,3,6,7]) (K0 k a0 a1) n0 (mk 39 3 [(2,.ptr 0 0 0),(3,.ptr 1 0 0),(6,.ref 2),(7,.int .i64 x0)] [(0,.box [.int .i64 x1,.sl true (.int .i64) x2,.sl true aA x3,.int .i64 x4,.int .i64 x5,.int .i64 x6]),(1,.box [.sl true aE x7,.int .i64 x8,.int .i64 x9,.bool x10]),(2,.own false aE x11)])
theorem s0 (n0:Nat):V0 k a0 a1 (n0+1)=b0 k (V0 k a0 a1 n0):=by kernel_rfl
theorem e0:V0 k a0 a1=l0 k:=aW rfl (s0 k a0 a1) fun _=>rfl
end
theorem eq (k:Nat) (a0:Ty.den aI) (a1:Ty.den a_):rn (E k) Tryz.f25 (C k) (a0,a1,())=f k a0 a1:=(show _=t k (V0 k a0 a1 k) a0 a1 by kernel_rfl).trans (by rw [e0];rfl)
theorem ctr (k:Nat):Cp 25 (C k):=rc rfl (D k) (by kernel_rfl) Tryz.func25 (by kernel_rfl) rfl fun ⟨a0,a1,_⟩ r h=>(eq k a0 a1).trans h
end iZ
namespace kg
def C (k:Nat):Cn:=⟨[.val aE],[bU],true,false,fun x=>f k x.1⟩
def E (k:Nat):cL:=en [] [] 0 [] k
theorem eq (k:Nat) (a0:Ty.den aE):rn (E k) Tryz.f226 (C k) (a0,())=f k a0:=by kernel_rfl
theorem ctr (k:Nat):Cp 226 (C k):=rc rfl [] (by kernel_rfl) Tryz.func226 (by kernel_rfl) rfl fun ⟨a0,_⟩ r h=>(eq k a0).trans h
end kg
namespace dy
def C (k:Nat):Cn:=⟨[.val a_,.val (.int .i64),.val (.slice aE),.val (.int .i64)],[a_,(.slice aA),(.int .i64)],true,false,fun x=>f k x.1 x.2.1 x.2.2.1 x.2.2.2.1⟩
def D (k:Nat):List Ce:=[q (aT.ctr k),q (dr.ctr k),q (kg.ctr k),q (bL.ctr k),q (d9.ctr k),q (cI.ctr k),q (eo.ctr k),q (cy.ctr k),q (aY.ctr k)]
def E (k:Nat):cL:=en (D k) [(6,[1,2,3,8,11,12,13,14,15,16])] 0 [] k
section
variable (k:Nat) (a0:Ty.den a_) (a1:Int) (a2:List (Ty.den aE)) (a3:Int)
def K0:Ex→St→Rs:=bv (E k) (eK (E k) Tryz.f211 (C k) (a0,a1,a2,a3,())) [.blk 0,.code (at_ (bt 6 63) (body Tryz.f211))]
def V0 (n0:Nat):T0:=fun x0 x1 x2 x3 x4 x5 x6 x7 x8 x9 x10 x11 x12 x13 x14 x15=>ar (bY (E k) (at_ (bt 9 95) (body Tryz.f211))) (am 0 [1,2,3,8,11,12,13,14,15,16]) (K0 k a0 a1 a2 a3) n0 (mk 101 6 [(1,.int .i64 x0),(2,.sl true aE x1),(3,.int .i64 x2),(8,.ptr 0 0 0),(11,.ref 2),(12,.ptr 3 0 0),(13,.int .i64 x3),(14,.ref 5),(15,.int .i64 x4),(16,.int .i64 x5)] [(1,.own false aE x6),(0,.box [.ref 1,.int .i64 x7,.int .i64 x8,.bool x9]),(2,.own false aA x10),(4,.own false aE x11),(3,.box [.ref 4,.int .i64 x12,.int .i64 x13,.bool x14]),(5,.own false bU x15)])
theorem s0 (n0:Nat):V0 k a0 a1 a2 a3 (n0+1)=b0 k (V0 k a0 a1 a2 a3 n0):=by kernel_rfl
theorem e0:V0 k a0 a1 a2 a3=l0 k:=aW rfl (s0 k a0 a1 a2 a3) fun _=>rfl
end
theorem eq (k:Nat) (a0:Ty.den a_) (a1:Int) (a2:List (Ty.den aE)) (a3:Int):rn (E k) Tryz.f211 (C k) (a0,a1,a2,a3,())=f k a0 a1 a2 a3:=(show _=t k (V0 k a0 a1 a2 a3 k) a0 a1 a2 a3 by kernel_rfl).trans (by rw [e0];rfl)
theorem ctr (k:Nat):Cp 211 (C k):=rc rfl (D k) (by kernel_rfl) Tryz.func211 (by kernel_rfl) rfl fun ⟨a0,a1,a2,a3,_⟩ r h=>(eq k a0 a1 a2 a3).trans h
end dy
namespace cA
def C (k:Nat):Cn:=⟨[.give a_,.val (.slice .str)],[a_,(.int .i64)],true,false,fun x=>f k x.1 x.2.1⟩
def D (k:Nat):List Ce:=[q (bT.ctr k),q (gW.ctr k)]
def E (k:Nat):cL:=en (D k) [(2,[1,2,4,6])] 0 [] k
section
variable (k:Nat) (a0:Ty.den a_) (a1:List ByteArray)
def K0:Ex→St→Rs:=bv (E k) (eK (E k) Tryz.f215 (C k) (a0,a1,())) [.blk 0,.code (at_ (bt 2 3) (body Tryz.f215))]
def V0 (n0:Nat):T0:=fun x0 x1 x2 x3 x4 x5 x6 x7 x8 x9=>ar (bY (E k) (at_ (bt 5 5) (body Tryz.f215))) (am 0 [1,2,4,6]) (K0 k a0 a1) n0 (mk 37 4 [(1,.sl true .str x0),(2,.ptr 0 0 0),(4,.ptr 2 0 0),(6,.int .i64 x1)] [(1,.own false aE x2),(0,.box [.ref 1,.int .i64 x3,.int .i64 x4,.bool x5]),(3,.own false aE x6),(2,.box [.ref 3,.int .i64 x7,.int .i64 x8,.bool x9])])
theorem s0 (n0:Nat):V0 k a0 a1 (n0+1)=b0 k (V0 k a0 a1 n0):=by kernel_rfl
theorem e0:V0 k a0 a1=l0 k:=aW rfl (s0 k a0 a1) fun _=>rfl
end
theorem eq (k:Nat) (a0:Ty.den a_) (a1:List ByteArray):rn (E k) Tryz.f215 (C k) (a0,a1,())=f k a0 a1:=(show _=t k (V0 k a0 a1 k) a0 a1 by kernel_rfl).trans (by rw [e0];rfl)
theorem ctr (k:Nat):Cp 215 (C k):=rc rfl (D k) (by kernel_rfl) Tryz.func215 (by kernel_rfl) rfl fun ⟨a0,a1,_⟩ r h=>(eq k a0 a1).trans h
end cA
namespace dj
def C (k:Nat):Cn:=⟨[.give aI,.give a_,.val (.int .i64),.val (.int .i64)],[aI,a_,(.int .i64)],true,false,fun x=>f k x.1 x.2.1 x.2.2.1 x.2.2.2.1⟩
def D (k:Nat):List Ce:=[q (aT.ctr k),q (bo.ctr k),q (cA.ctr k),q (aY.ctr k)]
def E (k:Nat):cL:=en (D k) [] 0 [] k
theorem eq (k:Nat) (a0:Ty.den aI) (a1:Ty.den a_) (a2:Int) (a3:Int):rn (E k) Tryz.f212 (C k) (a0,a1,a2,a3,())=f k a0 a1 a2 a3:=by kernel_rfl
theorem ctr (k:Nat):Cp 212 (C k):=rc rfl (D k) (by kernel_rfl) Tryz.func212 (by kernel_rfl) rfl fun ⟨a0,a1,a2,a3,_⟩ r h=>(eq k a0 a1 a2 a3).trans h
end dj
namespace bw
def C (k:Nat):Cn:=⟨[.give aI,.val a_,.val (.slice aE)],[aI,a_,(.int .i64)],true,false,fun x=>f k x.1 x.2.1 x.2.2.1⟩
def D (k:Nat):List Ce:=[q (dy.ctr k),q (dj.ctr k),q (aT.ctr k),q (dr.ctr k),q (aY.ctr k),q (bI.ctr k),q (cv.ctr k),q (bo.ctr k),q (cH.ctr k),q (h_.ctr k),q (cA.ctr k),q (f8.ctr k)]
def E (k:Nat):cL:=en (D k) [(26,[3,6,7,10,18,20])] 0 [] k
section
variable (k:Nat) (a0:Ty.den aI) (a1:Ty.den a_) (a2:List (Ty.den aE))
def K0:Ex→St→Rs:=bv (E k) (eK (E k) Tryz.f182 (C k) (a0,a1,a2,())) [.blk 0,.code (at_ (bt 21 2097151) (body Tryz.f182))]
def V0 (n0:Nat):T0:=fun x0 x1 x2 x3 x4 x5 x6 x7 x8 x9 x10 x11 x12 x13 x14 x15 x16 x17 x18 x19 x20 x21=>ar (bY (E k) (at_ (bt 24 3145727) (body Tryz.f182))) (am 0 [3,6,7,10,18,20]) (K0 k a0 a1 a2) n0 (mk 170 11 [(3,.ptr 0 0 0),(6,.ptr 3 0 0),(7,.ptr 6 0 0),(10,.ptr 8 0 0),(18,.ref 10),(20,.int .i64 x0)] [(1,.own false (.int .i64) x1),(2,.own false aA x2),(0,.box [.int .i64 x3,.ref 1,.ref 2,.int .i64 x4,.int .i64 x5,.int .i64 x6]),(4,.own false (.int .i64) x7),(5,.own false aA x8),(3,.box [.int .i64 x9,.ref 4,.ref 5,.int .i64 x10,.int .i64 x11,.int .i64 x12]),(7,.own false aE x13),(6,.box [.ref 7,.int .i64 x14,.int .i64 x15,.bool x16]),(9,.own false aE x17),(8,.box [.ref 9,.int .i64 x18,.int .i64 x19,.bool x20]),(10,.own false (.int .i64) x21)])
theorem s0 (n0:Nat):V0 k a0 a1 a2 (n0+1)=b0 k (V0 k a0 a1 a2 n0):=by kernel_rfl
theorem e0:V0 k a0 a1 a2=l0 k:=aW rfl (s0 k a0 a1 a2) fun _=>rfl
end
theorem eq (k:Nat) (a0:Ty.den aI) (a1:Ty.den a_) (a2:List (Ty.den aE)):rn (E k) Tryz.f182 (C k) (a0,a1,a2,())=f k a0 a1 a2:=(show _=t k (V0 k a0 a1 a2 k) a0 a1 a2 by kernel_rfl).trans (by rw [e0];rfl)
theorem ctr (k:Nat):Cp 182 (C k):=rc rfl (D k) (by kernel_rfl) Tryz.func182 (by kernel_rfl) rfl fun ⟨a0,a1,a2,_⟩ r h=>(eq k a0 a1 a2).trans h
end bw
namespace kD
def C (k:Nat):Cn:=⟨[.val aI,.val a_],[aI,a_,(.int .i64)],true,false,fun x=>f k x.1 x.2.1⟩
def D (k:Nat):List Ce:=[q (fO.ctr k),q (cU.ctr k),q (cG.ctr k),q (iZ.ctr k),q (bw.ctr k)]
def E (k:Nat):cL:=en (D k) [] 0 [] k
theorem eq (k:Nat) (a0:Ty.den aI) (a1:Ty.den a_):rn (E k) Tryz.f114 (C k) (a0,a1,())=f k a0 a1:=by kernel_rfl
theorem ctr (k:Nat):Cp 114 (C k):=rc rfl (D k) (by kernel_rfl) Tryz.func114 (by kernel_rfl) rfl fun ⟨a0,a1,_⟩ r h=>(eq k a0 a1).trans h
end kD
namespace fM
def C (k:Nat):Cn:=⟨[.io false ai],[(.slice gT)],true,true,fun x=>f k x.1⟩
def D (k:Nat):List Ce:=[q (aH.ctr k),q (eP.ctr k),q (b9.ctr k),q (bB.ctr k)]
def E (k:Nat):cL:=en (D k) [(3,[0,3,4])] 1 [] k
section
variable (k:Nat) (a0:Ty.den ai)
def K0:Ex→St→Rs:=bv (E k) (eK (E k) Tryz.f116 (C k) (a0,())) [.blk 0,.code (at_ (bt 3 7) (body Tryz.f116))]
def V0 (n0:Nat):T0:=fun x0 x1 x2 x3 x4=>ar (bY (E k) (at_ (bt 6 11) (body Tryz.f116))) (am 1 [0,3,4]) (K0 k a0) n0 (mk 28 2 [(0,.ptr 0 0 0),(3,.ref 1),(4,.int .i64 x0)] [(0,.box [.sl true (.int .u8) x1,.int .i64 x2,.int .i64 x3]),(1,.own false gT x4)])
theorem s0 (n0:Nat):V0 k a0 (n0+1)=b0 k (V0 k a0 n0):=by kernel_rfl
theorem e0:V0 k a0=l0 k:=aW rfl (s0 k a0) fun _=>rfl
end
theorem eq (k:Nat) (a0:Ty.den ai):rn (E k) Tryz.f116 (C k) (a0,())=f k a0:=(show _=t k (V0 k a0 k) a0 by kernel_rfl).trans (by rw [e0];rfl)
theorem ctr (k:Nat):Cp 116 (C k):=rc rfl (D k) (by kernel_rfl) Tryz.func116 (by kernel_rfl) rfl fun ⟨a0,_⟩ r h=>(eq k a0).trans h
end fM
namespace fK
def C (k:Nat):Cn:=⟨[.val (.slice gT)],[.bool],true,false,fun x=>f k x.1⟩
def D (k:Nat):List Ce:=[q (eO.ctr k)]
def E (k:Nat):cL:=en (D k) [(4,[0,3])] 0 [] k
section
variable (k:Nat) (a0:List (Ty.den gT))
def K0:Ex→St→Rs:=bv (E k) (eK (E k) Tryz.f183 (C k) (a0,())) [.blk 0,.code (at_ (bt 3 7) (body Tryz.f183))]
def V0 (n0:Nat):T0:=fun x0 x1=>ar (bY (E k) (at_ (bt 6 11) (body Tryz.f183))) (am 0 [0,3]) (K0 k a0) n0 (mk 44 0 [(0,.sl true gT x0),(3,.int .i64 x1)] [])
theorem s0 (n0:Nat):V0 k a0 (n0+1)=b0 k (V0 k a0 n0):=by kernel_rfl
theorem e0:V0 k a0=l0 k:=aW rfl (s0 k a0) fun _=>rfl
end
theorem eq (k:Nat) (a0:List (Ty.den gT)):rn (E k) Tryz.f183 (C k) (a0,())=f k a0:=(show _=t k (V0 k a0 k) a0 by kernel_rfl).trans (by rw [e0];rfl)
theorem ctr (k:Nat):Cp 183 (C k):=rc rfl (D k) (by kernel_rfl) Tryz.func183 (by kernel_rfl) rfl fun ⟨a0,_⟩ r h=>(eq k a0).trans h
end fK
namespace dE
def C (k:Nat):Cn:=⟨[.val (.slice aA),.val (.slice gT)],[(.int .i64)],true,false,fun x=>f k x.1 x.2.1⟩
def D (k:Nat):List Ce:=[q (dA.ctr k),q (bn.ctr k)]
def E (k:Nat):cL:=en (D k) [(2,[0,1,5])] 0 [] k
section
variable (k:Nat) (a0:List (Ty.den aA)) (a1:List (Ty.den gT))
def K0:Ex→St→Rs:=bv (E k) (eK (E k) Tryz.f184 (C k) (a0,a1,())) [.blk 0,.code (at_ (bt 2 3) (body Tryz.f184))]
def V0 (n0:Nat):T0:=fun x0 x1 x2=>ar (bY (E k) (at_ (bt 5 5) (body Tryz.f184))) (am 0 [0,1,5]) (K0 k a0 a1) n0 (mk 34 0 [(0,.sl true aA x0),(1,.sl true gT x1),(5,.int .i64 x2)] [])
def V1 (n0:Nat):T1:=fun x0 x1 x2=>ar (bY (E k) (at_ (bt 5 5) (body Tryz.f184))) (am 0 [0,1,5]) (K0 k a0 a1) n0 (mk 34 1 [(0,.ref 0),(1,.sl true gT x0),(5,.int .i64 x1)] [(0,.own false aA x2)])
theorem s0 (n0:Nat):V0 k a0 a1 (n0+1)=b0 k (V1 k a0 a1 n0):=by kernel_rfl
theorem s1 (n0:Nat):V1 k a0 a1 (n0+1)=b1 k (V1 k a0 a1 n0):=by kernel_rfl
theorem e1:V1 k a0 a1=l1 k:=aW rfl (s1 k a0 a1) fun _=>rfl
theorem e0 (n0:Nat):V0 k a0 a1 n0=l0 k n0:=by
 induction n0 with
 | zero=>rfl
 | succ n0 ih =>
  have h:V0 k a0 a1 (n0+1)=b0 k (V1 k a0 a1 n0):=s0 k a0 a1 n0
  rw [h,e1]
  rfl
end
theorem eq (k:Nat) (a0:List (Ty.den aA)) (a1:List (Ty.den gT)):rn (E k) Tryz.f184 (C k) (a0,a1,())=f k a0 a1:=(show _=t k (V0 k a0 a1 k) a0 a1 by kernel_rfl).trans (by rw [e0];rfl)
theorem ctr (k:Nat):Cp 184 (C k):=rc rfl (D k) (by kernel_rfl) Tryz.func184 (by kernel_rfl) rfl fun ⟨a0,a1,_⟩ r h=>(eq k a0 a1).trans h
end dE
namespace d7
def C (k:Nat):Cn:=⟨[.val aI],[.str],true,false,fun x=>f k x.1⟩
def D (k:Nat):List Ce:=[q (aT.ctr k)]
def E (k:Nat):cL:=en (D k) [] 0 [] k
theorem eq (k:Nat) (a0:Ty.den aI):rn (E k) Tryz.f218 (C k) (a0,())=f k a0:=by kernel_rfl
theorem ctr (k:Nat):Cp 218 (C k):=rc rfl (D k) (by kernel_rfl) Tryz.func218 (by kernel_rfl) rfl fun ⟨a0,_⟩ r h=>(eq k a0).trans h
end d7
namespace fe
def C (k:Nat):Cn:=⟨[.give aI,.give a_],[aI,a_,(.int .i64)],true,false,fun x=>f k x.1 x.2.1⟩
def D (k:Nat):List Ce:=[q (d7.ctr k),q (cy.ctr k),q (aY.ctr k),q (aT.ctr k),q (dr.ctr k),q (f8.ctr k),q (cA.ctr k)]
def E (k:Nat):cL:=en (D k) [] 0 [] k
theorem eq (k:Nat) (a0:Ty.den aI) (a1:Ty.den a_):rn (E k) Tryz.f227 (C k) (a0,a1,())=f k a0 a1:=by kernel_rfl
theorem ctr (k:Nat):Cp 227 (C k):=rc rfl (D k) (by kernel_rfl) Tryz.func227 (by kernel_rfl) rfl fun ⟨a0,a1,_⟩ r h=>(eq k a0 a1).trans h
end fe
namespace eR
def C (k:Nat):Cn:=⟨[.give aI,.give a_,.val bU],[aI,a_,aC,(.int .i64)],true,false,fun x=>f k x.1 x.2.1 x.2.2.1⟩
def D (k:Nat):List Ce:=[q (bL.ctr k),q (d9.ctr k),q (fe.ctr k),q (d7.ctr k),q (cI.ctr k),q (aY.ctr k)]
def E (k:Nat):cL:=en (D k) [] 0 [] k
theorem eq (k:Nat) (a0:Ty.den aI) (a1:Ty.den a_) (a2:Ty.den bU):rn (E k) Tryz.f217 (C k) (a0,a1,a2,())=f k a0 a1 a2:=by kernel_rfl
theorem ctr (k:Nat):Cp 217 (C k):=rc rfl (D k) (by kernel_rfl) Tryz.func217 (by kernel_rfl) rfl fun ⟨a0,a1,a2,_⟩ r h=>(eq k a0 a1 a2).trans h
end eR
namespace bd
def C (k:Nat):Cn:=⟨[.give aI,.give a_,.give (.slice gT)],[aI,a_,(.int .i64)],true,false,fun x=>f k x.1 x.2.1 x.2.2.1⟩
def D (k:Nat):List Ce:=[q (eR.ctr k),q (iF.ctr k),q (eo.ctr k),q (d7.ctr k),q (cy.ctr k),q (aY.ctr k)]
def E (k:Nat):cL:=en (D k) [(6,[2,3,4,6,7,9,10,11,12])] 0 [] k
section
variable (k:Nat) (a0:Ty.den aI) (a1:Ty.den a_) (a2:List (Ty.den gT))
def K0:Ex→St→Rs:=bv (E k) (eK (E k) Tryz.f185 (C k) (a0,a1,a2,())) [.blk 0,.code (at_ (bt 6 63) (body Tryz.f185))]
def V0 (n0:Nat):T0:=fun x0 x1 x2 x3 x4 x5 x6 x7 x8 x9 x10 x11 x12 x13 x14 x15 x16 x17 x18 x19 x20 x21 x22 x23 x24=>ar (bY (E k) (at_ (bt 9 95) (body Tryz.f185))) (am 0 [2,3,4,6,7,9,10,11,12]) (K0 k a0 a1 a2) n0 (mk 111 13 [(2,.ref 0),(3,.ptr 1 0 0),(4,.ptr 4 0 0),(6,.ptr 6 0 0),(7,.ptr 9 0 0),(9,.int .i64 x0),(10,.ref 11),(11,.ref 12),(12,.int .i64 x1)] [(0,.own false gT x2),(2,.own false (.int .i64) x3),(3,.own false aA x4),(1,.box [.int .i64 x5,.ref 2,.ref 3,.int .i64 x6,.int .i64 x7,.int .i64 x8]),(5,.own false aE x9),(4,.box [.ref 5,.int .i64 x10,.int .i64 x11,.bool x12]),(7,.own false (.int .i64) x13),(8,.own false aA x14),(6,.box [.int .i64 x15,.ref 7,.ref 8,.int .i64 x16,.int .i64 x17,.int .i64 x18]),(10,.own false aE x19),(9,.box [.ref 10,.int .i64 x20,.int .i64 x21,.bool x22]),(11,.own false bU x23),(12,.own false aA x24)])
theorem s0 (n0:Nat):V0 k a0 a1 a2 (n0+1)=b0 k (V0 k a0 a1 a2 n0):=by kernel_rfl
theorem e0:V0 k a0 a1 a2=l0 k:=aW rfl (s0 k a0 a1 a2) fun _=>rfl
end
theorem eq (k:Nat) (a0:Ty.den aI) (a1:Ty.den a_) (a2:List (Ty.den gT)):rn (E k) Tryz.f185 (C k) (a0,a1,a2,())=f k a0 a1 a2:=(show _=t k (V0 k a0 a1 a2 k) a0 a1 a2 by kernel_rfl).trans (by rw [e0];rfl)
theorem ctr (k:Nat):Cp 185 (C k):=rc rfl (D k) (by kernel_rfl) Tryz.func185 (by kernel_rfl) rfl fun ⟨a0,a1,a2,_⟩ r h=>(eq k a0 a1 a2).trans h
end bd
namespace i_
def C (k:Nat):Cn:=⟨[.val aI,.val a_,.give (.slice gT)],[aI,a_,(.int .i64)],true,false,fun x=>f k x.1 x.2.1 x.2.2.1⟩
def D (k:Nat):List Ce:=[q (fO.ctr k),q (cU.ctr k),q (cG.ctr k),q (fK.ctr k),q (dE.ctr k),q (bd.ctr k)]
def E (k:Nat):cL:=en (D k) [] 0 [] k
theorem eq (k:Nat) (a0:Ty.den aI) (a1:Ty.den a_) (a2:List (Ty.den gT)):rn (E k) Tryz.f115 (C k) (a0,a1,a2,())=f k a0 a1 a2:=by kernel_rfl
theorem ctr (k:Nat):Cp 115 (C k):=rc rfl (D k) (by kernel_rfl) Tryz.func115 (by kernel_rfl) rfl fun ⟨a0,a1,a2,_⟩ r h=>(eq k a0 a1 a2).trans h
end i_
namespace dx
def C (k:Nat):Cn:=⟨[.io false ai],[aI,a_],true,true,fun x=>f k x.1⟩
def D (k:Nat):List Ce:=[q (ch.ctr k),q (eM.ctr k),q (bG.ctr k),q (aH.ctr k),q (bB.ctr k),q (kD.ctr k),q (fM.ctr k),q (i_.ctr k)]
def E (k:Nat):cL:=en (D k) [(3,[0,2,3,4,5,7])] 1 [] k
section
variable (k:Nat) (a0:Ty.den ai)
def K0:Ex→St→Rs:=bv (E k) (eK (E k) Tryz.f52 (C k) (a0,())) [.blk 0,.code (at_ (bt 3 7) (body Tryz.f52))]
def V0 (n0:Nat):T0:=fun x0 x1 x2 x3 x4 x5 x6 x7 x8 x9 x10 x11 x12 x13 x14 x15 x16 x17 x18 x19 x20 x21 x22 x23=>ar (bY (E k) (at_ (bt 6 11) (body Tryz.f52))) (am 1 [0,2,3,4,5,7]) (K0 k a0) n0 (mk 60 11 [(0,.ptr 0 0 0),(2,.ptr 1 0 0),(3,.ptr 4 0 0),(4,.ptr 6 0 0),(5,.ptr 9 0 0),(7,.int .i64 x0)] [(0,.box [.sl true (.int .u8) x1,.int .i64 x2,.int .i64 x3]),(2,.own false (.int .i64) x4),(3,.own false aA x5),(1,.box [.int .i64 x6,.ref 2,.ref 3,.int .i64 x7,.int .i64 x8,.int .i64 x9]),(5,.own false aE x10),(4,.box [.ref 5,.int .i64 x11,.int .i64 x12,.bool x13]),(7,.own false (.int .i64) x14),(8,.own false aA x15),(6,.box [.int .i64 x16,.ref 7,.ref 8,.int .i64 x17,.int .i64 x18,.int .i64 x19]),(10,.own false aE x20),(9,.box [.ref 10,.int .i64 x21,.int .i64 x22,.bool x23])])
theorem s0 (n0:Nat):V0 k a0 (n0+1)=b0 k (V0 k a0 n0):=by kernel_rfl
theorem e0:V0 k a0=l0 k:=aW rfl (s0 k a0) fun _=>rfl
end
theorem eq (k:Nat) (a0:Ty.den ai):rn (E k) Tryz.f52 (C k) (a0,())=f k a0:=(show _=t k (V0 k a0 k) a0 by kernel_rfl).trans (by rw [e0];rfl)
theorem ctr (k:Nat):Cp 52 (C k):=rc rfl (D k) (by kernel_rfl) Tryz.func52 (by kernel_rfl) rfl fun ⟨a0,_⟩ r h=>(eq k a0).trans h
end dx
namespace j5
def C (k:Nat):Cn:=⟨[.io false ai],[aA],true,true,fun x=>f k x.1⟩
def D (k:Nat):List Ce:=[q (eP.ctr k),q (aH.ctr k)]
def E (k:Nat):cL:=en (D k) [] 1 [] k
theorem eq (k:Nat) (a0:Ty.den ai):rn (E k) Tryz.f119 (C k) (a0,())=f k a0:=by kernel_rfl
theorem ctr (k:Nat):Cp 119 (C k):=rc rfl (D k) (by kernel_rfl) Tryz.func119 (by kernel_rfl) rfl fun ⟨a0,_⟩ r h=>(eq k a0).trans h
end j5
namespace gd
def C (k:Nat):Cn:=⟨[.io false ai],[(.slice aA)],true,true,fun x=>f k x.1⟩
def D (k:Nat):List Ce:=[q (aH.ctr k),q (j5.ctr k),q (bn.ctr k),q (bB.ctr k),q (eI.ctr k),q (ch.ctr k)]
def E (k:Nat):cL:=en (D k) [(3,[0,3,4])] 1 [] k
section
variable (k:Nat) (a0:Ty.den ai)
def K0:Ex→St→Rs:=bv (E k) (eK (E k) Tryz.f54 (C k) (a0,())) [.blk 0,.code (at_ (bt 3 7) (body Tryz.f54))]
def V0 (n0:Nat):T0:=fun x0 x1 x2 x3 x4=>ar (bY (E k) (at_ (bt 6 11) (body Tryz.f54))) (am 1 [0,3,4]) (K0 k a0) n0 (mk 62 2 [(0,.ptr 0 0 0),(3,.ref 1),(4,.int .i64 x0)] [(0,.box [.sl true (.int .u8) x1,.int .i64 x2,.int .i64 x3]),(1,.own false aA x4)])
theorem s0 (n0:Nat):V0 k a0 (n0+1)=b0 k (V0 k a0 n0):=by kernel_rfl
theorem e0:V0 k a0=l0 k:=aW rfl (s0 k a0) fun _=>rfl
end
theorem eq (k:Nat) (a0:Ty.den ai):rn (E k) Tryz.f54 (C k) (a0,())=f k a0:=(show _=t k (V0 k a0 k) a0 by kernel_rfl).trans (by rw [e0];rfl)
theorem ctr (k:Nat):Cp 54 (C k):=rc rfl (D k) (by kernel_rfl) Tryz.func54 (by kernel_rfl) rfl fun ⟨a0,_⟩ r h=>(eq k a0).trans h
end gd
namespace gD
def C (k:Nat):Cn:=⟨[.io false ai],[.str],true,true,fun x=>f k x.1⟩
def D (k:Nat):List Ce:=[q (eI.ctr k)]
def E (k:Nat):cL:=en (D k) [] 1 [] k
theorem eq (k:Nat) (a0:Ty.den ai):rn (E k) Tryz.f186 (C k) (a0,())=f k a0:=by kernel_rfl
theorem ctr (k:Nat):Cp 186 (C k):=rc rfl (D k) (by kernel_rfl) Tryz.func186 (by kernel_rfl) rfl fun ⟨a0,_⟩ r h=>(eq k a0).trans h
end gD
namespace eC
def C (k:Nat):Cn:=⟨[.io false ai],[a_],true,true,fun x=>f k x.1⟩
def D (k:Nat):List Ce:=[q (eM.ctr k),q (aH.ctr k),q (gD.ctr k),q (eG.ctr k),q (b9.ctr k),q (cI.ctr k),q (cy.ctr k),q (fb.ctr k)]
def E (k:Nat):cL:=en (D k) [(3,[0,2,3,4])] 1 [] k
section
variable (k:Nat) (a0:Ty.den ai)
def K0:Ex→St→Rs:=bv (E k) (eK (E k) Tryz.f121 (C k) (a0,())) [.blk 0,.code (at_ (bt 3 7) (body Tryz.f121))]
def V0 (n0:Nat):T0:=fun x0 x1 x2 x3 x4 x5 x6 x7 x8 x9 x10 x11=>ar (bY (E k) (at_ (bt 6 11) (body Tryz.f121))) (am 1 [0,2,3,4]) (K0 k a0) n0 (mk 57 5 [(0,.ptr 0 0 0),(2,.ptr 1 0 0),(3,.ptr 3 0 0),(4,.int .i64 x0)] [(0,.box [.sl true (.int .u8) x1,.int .i64 x2,.int .i64 x3]),(2,.own false aE x4),(1,.box [.ref 2,.int .i64 x5,.int .i64 x6,.bool x7]),(4,.own false aE x8),(3,.box [.ref 4,.int .i64 x9,.int .i64 x10,.bool x11])])
theorem s0 (n0:Nat):V0 k a0 (n0+1)=b0 k (V0 k a0 n0):=by kernel_rfl
theorem e0:V0 k a0=l0 k:=aW rfl (s0 k a0) fun _=>rfl
end
theorem eq (k:Nat) (a0:Ty.den ai):rn (E k) Tryz.f121 (C k) (a0,())=f k a0:=(show _=t k (V0 k a0 k) a0 by kernel_rfl).trans (by rw [e0];rfl)
theorem ctr (k:Nat):Cp 121 (C k):=rc rfl (D k) (by kernel_rfl) Tryz.func121 (by kernel_rfl) rfl fun ⟨a0,_⟩ r h=>(eq k a0).trans h
end eC
namespace gn
def C (k:Nat):Cn:=⟨[.io false ai],[a_],true,true,fun x=>f k x.1⟩
def D (k:Nat):List Ce:=[q (eC.ctr k),q (aH.ctr k),q (ch.ctr k),q (db.ctr k),q (eI.ctr k),q (dZ.ctr k)]
def E (k:Nat):cL:=en (D k) [(17,[0,2,3,4])] 1 [] k
section
variable (k:Nat) (a0:Ty.den ai)
def K0:Ex→St→Rs:=bv (E k) (eK (E k) Tryz.f56 (C k) (a0,())) [.blk 1,.blk 0,.code (at_ (bt 3 7) (body Tryz.f56))]
def V0 (n0:Nat):T0:=fun x0 x1 x2 x3 x4 x5 x6 x7 x8 x9 x10 x11=>ar (bY (E k) (at_ (bt 20 196587) (body Tryz.f56))) (am 1 [0,2,3,4]) (K0 k a0) n0 (mk 81 5 [(0,.ptr 0 0 0),(2,.ptr 1 0 0),(3,.ptr 3 0 0),(4,.int .i64 x0)] [(0,.box [.sl true (.int .u8) x1,.int .i64 x2,.int .i64 x3]),(2,.own false aE x4),(1,.box [.ref 2,.int .i64 x5,.int .i64 x6,.bool x7]),(4,.own false aE x8),(3,.box [.ref 4,.int .i64 x9,.int .i64 x10,.bool x11])])
theorem s0 (n0:Nat):V0 k a0 (n0+1)=b0 k (V0 k a0 n0):=by kernel_rfl
theorem e0:V0 k a0=l0 k:=aW rfl (s0 k a0) fun _=>rfl
end
theorem eq (k:Nat) (a0:Ty.den ai):rn (E k) Tryz.f56 (C k) (a0,())=f k a0:=(show _=t k (V0 k a0 k) a0 by kernel_rfl).trans (by rw [e0];rfl)
theorem ctr (k:Nat):Cp 56 (C k):=rc rfl (D k) (by kernel_rfl) Tryz.func56 (by kernel_rfl) rfl fun ⟨a0,_⟩ r h=>(eq k a0).trans h
end gn
namespace jb
def C (k:Nat):Cn:=⟨[.io false ai],[aI,a_],true,true,fun x=>f k x.1⟩
def D (k:Nat):List Ce:=[q (dx.ctr k),q (aH.ctr k),q (gd.ctr k),q (ch.ctr k),q (gn.ctr k)]
def E (k:Nat):cL:=en (D k) [] 1 [] k
theorem eq (k:Nat) (a0:Ty.den ai):rn (E k) Tryz.f19 (C k) (a0,())=f k a0:=by kernel_rfl
theorem ctr (k:Nat):Cp 19 (C k):=rc rfl (D k) (by kernel_rfl) Tryz.func19 (by kernel_rfl) rfl fun ⟨a0,_⟩ r h=>(eq k a0).trans h
end jb
namespace i8
def C (k:Nat):Cn:=⟨[.val (.slice (.int .u8))],[a_],true,false,fun x=>f k x.1⟩
def D (k:Nat):List Ce:=[q (gO.ctr k),q (bq.ctr k),q (bB.ctr k),q (jb.ctr k)]
def E (k:Nat):cL:=en (D k) [] 0 [] k
theorem eq (k:Nat) (a0:List Int):rn (E k) Tryz.f13 (C k) (a0,())=f k a0:=by kernel_rfl
theorem ctr (k:Nat):Cp 13 (C k):=rc rfl (D k) (by kernel_rfl) Tryz.func13 (by kernel_rfl) rfl fun ⟨a0,_⟩ r h=>(eq k a0).trans h
end i8
namespace bX
def C (k:Nat):Cn:=⟨[.val a_,.val .str],[(.int .i64)],true,false,fun x=>f k x.1 x.2.1⟩
def E (k:Nat):cL:=en [] [(2,[1,8,9,10])] 0 [] k
section
variable (k:Nat) (a0:Ty.den a_) (a1:ByteArray)
def K0:Ex→St→Rs:=bv (E k) (eK (E k) Tryz.f76 (C k) (a0,a1,())) [.blk 0,.code (at_ (bt 2 3) (body Tryz.f76))]
def V0 (n0:Nat):T0:=fun x0 x1 x2 x3=>ar (bY (E k) (at_ (bt 5 5) (body Tryz.f76))) (am 0 [1,8,9,10]) (K0 k a0 a1) n0 (mk 21 0 [(1,.str x0),(8,.sl true aE x1),(9,.int .i64 x2),(10,.int .i64 x3)] [])
theorem s0 (n0:Nat):V0 k a0 a1 (n0+1)=b0 k (V0 k a0 a1 n0):=by kernel_rfl
theorem e0:V0 k a0 a1=l0 k:=aW rfl (s0 k a0 a1) fun _=>rfl
end
theorem eq (k:Nat) (a0:Ty.den a_) (a1:ByteArray):rn (E k) Tryz.f76 (C k) (a0,a1,())=f k a0 a1:=(show _=t k (V0 k a0 a1 k) a0 a1 by kernel_rfl).trans (by rw [e0];rfl)
theorem ctr (k:Nat):Cp 76 (C k):=rc rfl [] (by kernel_rfl) Tryz.func76 (by kernel_rfl) rfl fun ⟨a0,a1,_⟩ r h=>(eq k a0 a1).trans h
end bX
namespace az
def C (k:Nat):Cn:=⟨[.val (.int .i64),.val (.int .i64),.val (.int .i64)],[.bool],true,false,fun x=>f k x.1 x.2.1 x.2.2.1⟩
def E (k:Nat):cL:=en [] [] 0 [] k
theorem eq (k:Nat) (a0:Int) (a1:Int) (a2:Int):rn (E k) Tryz.f63 (C k) (a0,a1,a2,())=f k a0 a1 a2:=by kernel_rfl
theorem ctr (k:Nat):Cp 63 (C k):=rc rfl [] (by kernel_rfl) Tryz.func63 (by kernel_rfl) rfl fun ⟨a0,a1,a2,_⟩ r h=>(eq k a0 a1 a2).trans h
end az
namespace eD
def C (k:Nat):Cn:=⟨[.val .str],[.bool],true,false,fun x=>f k x.1⟩
def D (k:Nat):List Ce:=[q (az.ctr k)]
def E (k:Nat):cL:=en (D k) [(2,[0,3])] 0 [] k
section
variable (k:Nat) (a0:ByteArray)
def K0:Ex→St→Rs:=bv (E k) (eK (E k) Tryz.f98 (C k) (a0,())) [.blk 0,.code (at_ (bt 2 3) (body Tryz.f98))]
def V0 (n0:Nat):T0:=fun x0 x1=>ar (bY (E k) (at_ (bt 5 5) (body Tryz.f98))) (am 0 [0,3]) (K0 k a0) n0 (mk 37 0 [(0,.str x0),(3,.int .i64 x1)] [])
theorem s0 (n0:Nat):V0 k a0 (n0+1)=b0 k (V0 k a0 n0):=by kernel_rfl
theorem e0:V0 k a0=l0 k:=aW rfl (s0 k a0) fun _=>rfl
end
theorem eq (k:Nat) (a0:ByteArray):rn (E k) Tryz.f98 (C k) (a0,())=f k a0:=(show _=t k (V0 k a0 k) a0 by kernel_rfl).trans (by rw [e0];rfl)
theorem ctr (k:Nat):Cp 98 (C k):=rc rfl (D k) (by kernel_rfl) Tryz.func98 (by kernel_rfl) rfl fun ⟨a0,_⟩ r h=>(eq k a0).trans h
end eD
namespace bP
def C (k:Nat):Cn:=⟨[.val a_],[.bool],true,false,fun x=>f k x.1⟩
def D (k:Nat):List Ce:=[q (az.ctr k),q (eD.ctr k)]
def E (k:Nat):cL:=en (D k) [(5,[1,3,23,24,25])] 0 [] k
section
variable (k:Nat) (a0:Ty.den a_)
def K0:Ex→St→Rs:=bv (E k) (eK (E k) Tryz.f39 (C k) (a0,())) [.blk 0,.code (at_ (bt 4 15) (body Tryz.f39))]
def V0 (n0:Nat):T0:=fun x0 x1 x2 x3 x4 x5 x6 x7=>ar (bY (E k) (at_ (bt 7 23) (body Tryz.f39))) (am 0 [1,3,23,24,25]) (K0 k a0) n0 (mk 69 1 [(1,.ptr 0 0 0),(3,.int .i64 x0),(23,.sl true aE x1),(24,.int .i64 x2),(25,.int .i64 x3)] [(0,.box [.sl true aE x4,.int .i64 x5,.int .i64 x6,.bool x7])])
theorem s0 (n0:Nat):V0 k a0 (n0+1)=b0 k (V0 k a0 n0):=by kernel_rfl
theorem e0:V0 k a0=l0 k:=aW rfl (s0 k a0) fun _=>rfl
end
theorem eq (k:Nat) (a0:Ty.den a_):rn (E k) Tryz.f39 (C k) (a0,())=f k a0:=(show _=t k (V0 k a0 k) a0 by kernel_rfl).trans (by rw [e0];rfl)
theorem ctr (k:Nat):Cp 39 (C k):=rc rfl (D k) (by kernel_rfl) Tryz.func39 (by kernel_rfl) rfl fun ⟨a0,_⟩ r h=>(eq k a0).trans h
end bP
namespace cQ
def C (k:Nat):Cn:=⟨[.val a_,.val .str],[.str,.bool],true,false,fun x=>f k x.1 x.2.1⟩
def D (k:Nat):List Ce:=[q (bX.ctr k),q (bP.ctr k)]
def E (k:Nat):cL:=en (D k) [] 0 [] k
theorem eq (k:Nat) (a0:Ty.den a_) (a1:ByteArray):rn (E k) Tryz.f29 (C k) (a0,a1,())=f k a0 a1:=by kernel_rfl
theorem ctr (k:Nat):Cp 29 (C k):=rc rfl (D k) (by kernel_rfl) Tryz.func29 (by kernel_rfl) rfl fun ⟨a0,a1,_⟩ r h=>(eq k a0 a1).trans h
end cQ
namespace cr
def C (k:Nat):Cn:=⟨[.val .str],[(.int .i64),(.int .i64)],true,false,fun x=>f k x.1⟩
def E (k:Nat):cL:=en [] [(3,[0,4,5])] 0 [] k
section
variable (k:Nat) (a0:ByteArray)
def K0:Ex→St→Rs:=bv (E k) (eK (E k) Tryz.f141 (C k) (a0,())) [.blk 0,.code (at_ (bt 3 7) (body Tryz.f141))]
def V0 (n0:Nat):T0:=fun x0 x1 x2=>ar (bY (E k) (at_ (bt 6 11) (body Tryz.f141))) (am 0 [0,4,5]) (K0 k a0) n0 (mk 39 0 [(0,.str x0),(4,.int .i64 x1),(5,.int .i64 x2)] [])
theorem s0 (n0:Nat):V0 k a0 (n0+1)=b0 k (V0 k a0 n0):=by kernel_rfl
theorem e0:V0 k a0=l0 k:=aW rfl (s0 k a0) fun _=>rfl
end
theorem eq (k:Nat) (a0:ByteArray):rn (E k) Tryz.f141 (C k) (a0,())=f k a0:=(show _=t k (V0 k a0 k) a0 by kernel_rfl).trans (by rw [e0];rfl)
theorem ctr (k:Nat):Cp 141 (C k):=rc rfl [] (by kernel_rfl) Tryz.func141 (by kernel_rfl) rfl fun ⟨a0,_⟩ r h=>(eq k a0).trans h
end cr
namespace fX
def C (k:Nat):Cn:=⟨[.val (.int .i64)],[.str],true,false,fun x=>f k x.1⟩
def D (k:Nat):List Ce:=[q (az.ctr k)]
def E (k:Nat):cL:=en (D k) [(4,[0,3])] 0 [] k
section
variable (k:Nat) (a0:Int)
def K0:Ex→St→Rs:=bv (E k) (eK (E k) Tryz.f140 (C k) (a0,())) [.blk 0,.code (at_ (bt 4 15) (body Tryz.f140))]
def V0 (n0:Nat):T0:=fun x0 x1=>ar (bY (E k) (at_ (bt 6 7) (body Tryz.f140))) (am 0 [0,3]) (K0 k a0) n0 (mk 24 1 [(0,.int .i64 x0),(3,.ref 0)] [(0,.own false (.int .u8) x1)])
theorem s0 (n0:Nat):V0 k a0 (n0+1)=b0 k (V0 k a0 n0):=by kernel_rfl
theorem e0:V0 k a0=l0 k:=aW rfl (s0 k a0) fun _=>rfl
end
theorem eq (k:Nat) (a0:Int):rn (E k) Tryz.f140 (C k) (a0,())=f k a0:=(show _=t k (V0 k a0 k) a0 by kernel_rfl).trans (by rw [e0];rfl)
theorem ctr (k:Nat):Cp 140 (C k):=rc rfl (D k) (by kernel_rfl) Tryz.func140 (by kernel_rfl) rfl fun ⟨a0,_⟩ r h=>(eq k a0).trans h
end fX
namespace eF
def C (k:Nat):Cn:=⟨[.val .str],[.str],true,false,fun x=>f k x.1⟩
def D (k:Nat):List Ce:=[q (fX.ctr k)]
def E (k:Nat):cL:=en (D k) [] 0 [] k
theorem eq (k:Nat) (a0:ByteArray):rn (E k) Tryz.f135 (C k) (a0,())=f k a0:=by kernel_rfl
theorem ctr (k:Nat):Cp 135 (C k):=rc rfl (D k) (by kernel_rfl) Tryz.func135 (by kernel_rfl) rfl fun ⟨a0,_⟩ r h=>(eq k a0).trans h
end eF
namespace gG
def C (k:Nat):Cn:=⟨[.val .str],[(.int .i64)],true,false,fun x=>f k x.1⟩
def E (k:Nat):cL:=en [] [(3,[0,3,4]),(7,[0,3,4,18])] 0 [] k
section
variable (k:Nat) (a0:ByteArray)
def K0:Ex→St→Rs:=bv (E k) (eK (E k) Tryz.f137 (C k) (a0,())) [.blk 0,.code (at_ (bt 3 7) (body Tryz.f137))]
def B0 (n0:Nat):Ex→St→Rs:=JY (E k) (at_ (bt 6 11) (body Tryz.f137)) 0 [0,3,4] (K0 k a0) n0
def K1 (n0:Nat):Ex→St→Rs:=bv (E k) (B0 k a0 n0) [.blk 2,.blk 1,.code (at_ (bt 8 203) (body Tryz.f137))]
def V0 (n0:Nat):T0:=fun x0 x1 x2=>ar (bY (E k) (at_ (bt 6 11) (body Tryz.f137))) (am 0 [0,3,4]) (K0 k a0) n0 (mk 32 0 [(0,.str x0),(3,.int .u32 x1),(4,.int .i64 x2)] [])
def V1 (n0 n1:Nat):T1:=fun x0 x1 x2 x3=>ar (bY (E k) (at_ (bt 13 1611) (body Tryz.f137))) (am 0 [0,3,4,18]) (K1 k a0 n0) n1 (mk 32 0 [(0,.str x0),(3,.int .u32 x1),(4,.int .i64 x2),(18,.int .i64 x3)] [])
theorem s0 (n0:Nat):V0 k a0 (n0+1)=b0 k (V1 k a0 n0 k) (V0 k a0 n0):=by kernel_rfl
theorem s1 (n0 n1:Nat):V1 k a0 n0 (n1+1)=b1 k (V0 k a0 n0) (V1 k a0 n0 n1):=by kernel_rfl
theorem e1 (n0:Nat):V1 k a0 n0=l1 k (V0 k a0 n0):=aW rfl (s1 k a0 n0) fun _=>rfl
theorem e0 (n0:Nat):V0 k a0 n0=l0 k n0:=by
 induction n0 with
 | zero=>rfl
 | succ n0 ih =>
  have h:V0 k a0 (n0+1)=b0 k (V1 k a0 n0 k) (V0 k a0 n0):=s0 k a0 n0
  rw [h,e1,ih]
  rfl
end
theorem eq (k:Nat) (a0:ByteArray):rn (E k) Tryz.f137 (C k) (a0,())=f k a0:=(show _=t k (V0 k a0 k) a0 by kernel_rfl).trans (by rw [e0];rfl)
theorem ctr (k:Nat):Cp 137 (C k):=rc rfl [] (by kernel_rfl) Tryz.func137 (by kernel_rfl) rfl fun ⟨a0,_⟩ r h=>(eq k a0).trans h
end gG
namespace dT
def C (k:Nat):Cn:=⟨[.val (.int .i64),.val (.int .i64)],[.str],true,false,fun x=>f k x.1 x.2.1⟩
def D (k:Nat):List Ce:=[q (az.ctr k)]
def E (k:Nat):cL:=en (D k) [(5,[0,5,6])] 0 [] k
section
variable (k:Nat) (a0:Int) (a1:Int)
def K0:Ex→St→Rs:=bv (E k) (eK (E k) Tryz.f136 (C k) (a0,a1,())) [.blk 0,.code (at_ (bt 4 15) (body Tryz.f136))]
def V0 (n0:Nat):T0:=fun x0 x1 x2=>ar (bY (E k) (at_ (bt 7 23) (body Tryz.f136))) (am 0 [0,5,6]) (K0 k a0 a1) n0 (mk 35 1 [(0,.int .i64 x0),(5,.ref 0),(6,.int .i64 x1)] [(0,.own false (.int .u8) x2)])
theorem s0 (n0:Nat):V0 k a0 a1 (n0+1)=b0 k (V0 k a0 a1 n0):=by kernel_rfl
theorem e0:V0 k a0 a1=l0 k:=aW rfl (s0 k a0 a1) fun _=>rfl
end
theorem eq (k:Nat) (a0:Int) (a1:Int):rn (E k) Tryz.f136 (C k) (a0,a1,())=f k a0 a1:=(show _=t k (V0 k a0 a1 k) a0 a1 by kernel_rfl).trans (by rw [e0];rfl)
theorem ctr (k:Nat):Cp 136 (C k):=rc rfl (D k) (by kernel_rfl) Tryz.func136 (by kernel_rfl) rfl fun ⟨a0,a1,_⟩ r h=>(eq k a0 a1).trans h
end dT
namespace jE
def C (k:Nat):Cn:=⟨[.val .str],[.str],true,false,fun x=>f k x.1⟩
def D (k:Nat):List Ce:=[q (eF.ctr k),q (gG.ctr k),q (dT.ctr k)]
def E (k:Nat):cL:=en (D k) [] 0 [] k
theorem eq (k:Nat) (a0:ByteArray):rn (E k) Tryz.f74 (C k) (a0,())=f k a0:=by kernel_rfl
theorem ctr (k:Nat):Cp 74 (C k):=rc rfl (D k) (by kernel_rfl) Tryz.func74 (by kernel_rfl) rfl fun ⟨a0,_⟩ r h=>(eq k a0).trans h
end jE
namespace f9
def C (k:Nat):Cn:=⟨[.val .str],[.str,(.int .i64)],true,false,fun x=>f k x.1⟩
def D (k:Nat):List Ce:=[q (cr.ctr k),q (jE.ctr k)]
def E (k:Nat):cL:=en (D k) [] 0 [] k
theorem eq (k:Nat) (a0:ByteArray):rn (E k) Tryz.f77 (C k) (a0,())=f k a0:=by kernel_rfl
theorem ctr (k:Nat):Cp 77 (C k):=rc rfl (D k) (by kernel_rfl) Tryz.func77 (by kernel_rfl) rfl fun ⟨a0,_⟩ r h=>(eq k a0).trans h
end f9
namespace aJ
def C (k:Nat):Cn:=⟨[.io true jq],[(.int .i64)],true,false,fun x=>f k x.1⟩
def D (k:Nat):List Ce:=[q (cr.ctr k)]
def E (k:Nat):cL:=en (D k) [] 1 [] k
theorem eq (k:Nat) (a0:Ty.den jq):rn (E k) Tryz.f78 (C k) (a0,())=f k a0:=by kernel_rfl
theorem ctr (k:Nat):Cp 78 (C k):=rc rfl (D k) (by kernel_rfl) Tryz.func78 (by kernel_rfl) rfl fun ⟨a0,_⟩ r h=>(eq k a0).trans h
end aJ
namespace dN
def C (k:Nat):Cn:=⟨[.val bA],[.bool],true,false,fun x=>f k x.1⟩
def D (k:Nat):List Ce:=[q (az.ctr k)]
def E (k:Nat):cL:=en (D k) [(2,[1,6,7,8])] 0 [] k
section
variable (k:Nat) (a0:Ty.den bA)
def K0:Ex→St→Rs:=bv (E k) (eK (E k) Tryz.f61 (C k) (a0,())) [.blk 0,.code (at_ (bt 2 3) (body Tryz.f61))]
def V0 (n0:Nat):T0:=fun x0 x1 x2 x3 x4=>ar (bY (E k) (at_ (bt 5 5) (body Tryz.f61))) (am 0 [1,6,7,8]) (K0 k a0) n0 (mk 43 1 [(1,.ptr 0 0 0),(6,.sl true (.int .i64) x0),(7,.int .i64 x1),(8,.int .i64 x2)] [(0,.box [.int .i64 x3,.sl true (.int .i64) x4])])
theorem s0 (n0:Nat):V0 k a0 (n0+1)=b0 k (V0 k a0 n0):=by kernel_rfl
theorem e0:V0 k a0=l0 k:=aW rfl (s0 k a0) fun _=>rfl
end
theorem eq (k:Nat) (a0:Ty.den bA):rn (E k) Tryz.f61 (C k) (a0,())=f k a0:=(show _=t k (V0 k a0 k) a0 by kernel_rfl).trans (by rw [e0];rfl)
theorem ctr (k:Nat):Cp 61 (C k):=rc rfl (D k) (by kernel_rfl) Tryz.func61 (by kernel_rfl) rfl fun ⟨a0,_⟩ r h=>(eq k a0).trans h
end dN
namespace aq
def C (k:Nat):Cn:=⟨[.val .str],[bA,.bool],true,false,fun x=>f k x.1⟩
def D (k:Nat):List Ce:=[q (f9.ctr k),q (aJ.ctr k),q (dN.ctr k)]
def E (k:Nat):cL:=en (D k) [(6,[0,2,5,6,7,8,9])] 0 [] k
section
variable (k:Nat) (a0:ByteArray)
def K0:Ex→St→Rs:=bv (E k) (eK (E k) Tryz.f30 (C k) (a0,())) [.blk 0,.code (at_ (bt 6 63) (body Tryz.f30))]
def V0 (n0:Nat):T0:=fun x0 x1 x2 x3 x4 x5 x6 x7 x8 x9=>ar (bY (E k) (at_ (bt 9 95) (body Tryz.f30))) (am 0 [0,2,5,6,7,8,9]) (K0 k a0) n0 (mk 72 5 [(0,.str x0),(2,.ptr 0 0 0),(5,.int .i64 x1),(6,.ptr 2 0 0),(7,.ptr 3 0 0),(8,.int .i64 x2),(9,.int .i64 x3)] [(1,.own false (.int .i64) x4),(0,.box [.int .i64 x5,.ref 1]),(2,.box [.str x6,.bool x7]),(4,.own false (.int .i64) x8),(3,.box [.int .i64 x9,.ref 4])])
theorem s0 (n0:Nat):V0 k a0 (n0+1)=b0 k (V0 k a0 n0):=by kernel_rfl
theorem e0:V0 k a0=l0 k:=aW rfl (s0 k a0) fun _=>rfl
end
theorem eq (k:Nat) (a0:ByteArray):rn (E k) Tryz.f30 (C k) (a0,())=f k a0:=(show _=t k (V0 k a0 k) a0 by kernel_rfl).trans (by rw [e0];rfl)
theorem ctr (k:Nat):Cp 30 (C k):=rc rfl (D k) (by kernel_rfl) Tryz.func30 (by kernel_rfl) rfl fun ⟨a0,_⟩ r h=>(eq k a0).trans h
end aq
namespace kn
def C (k:Nat):Cn:=⟨[.val .str],[(.int .i64),.bool],true,false,fun x=>f k x.1⟩
def D (k:Nat):List Ce:=[q (gq.ctr k),q (cN.ctr k),q (az.ctr k)]
def E (k:Nat):cL:=en (D k) [] 0 [] k
theorem eq (k:Nat) (a0:ByteArray):rn (E k) Tryz.f79 (C k) (a0,())=f k a0:=by kernel_rfl
theorem ctr (k:Nat):Cp 79 (C k):=rc rfl (D k) (by kernel_rfl) Tryz.func79 (by kernel_rfl) rfl fun ⟨a0,_⟩ r h=>(eq k a0).trans h
end kn
namespace ek
def C (k:Nat):Cn:=⟨[.val (.slice (.int .i64)),.val (.int .i64)],[.bool],true,false,fun x=>f k x.1 x.2.1⟩
def E (k:Nat):cL:=en [] [(2,[1,7,8,9])] 0 [] k
section
variable (k:Nat) (a0:List Int) (a1:Int)
def K0:Ex→St→Rs:=bv (E k) (eK (E k) Tryz.f36 (C k) (a0,a1,())) [.blk 0,.code (at_ (bt 2 3) (body Tryz.f36))]
def V0 (n0:Nat):T0:=fun x0 x1 x2 x3=>ar (bY (E k) (at_ (bt 5 5) (body Tryz.f36))) (am 0 [1,7,8,9]) (K0 k a0 a1) n0 (mk 17 0 [(1,.int .i64 x0),(7,.sl true (.int .i64) x1),(8,.int .i64 x2),(9,.int .i64 x3)] [])
theorem s0 (n0:Nat):V0 k a0 a1 (n0+1)=b0 k (V0 k a0 a1 n0):=by kernel_rfl
theorem e0:V0 k a0 a1=l0 k:=aW rfl (s0 k a0 a1) fun _=>rfl
end
theorem eq (k:Nat) (a0:List Int) (a1:Int):rn (E k) Tryz.f36 (C k) (a0,a1,())=f k a0 a1:=(show _=t k (V0 k a0 a1 k) a0 a1 by kernel_rfl).trans (by rw [e0];rfl)
theorem ctr (k:Nat):Cp 36 (C k):=rc rfl [] (by kernel_rfl) Tryz.func36 (by kernel_rfl) rfl fun ⟨a0,a1,_⟩ r h=>(eq k a0 a1).trans h
end ek
namespace eJ
def C (k:Nat):Cn:=⟨[.val a_,.val bA],[(.slice .str)],true,false,fun x=>f k x.1 x.2.1⟩
def D (k:Nat):List Ce:=[q (bP.ctr k),q (kn.ctr k),q (ek.ctr k)]
def E (k:Nat):cL:=en (D k) [(5,[3,5,14,15,16])] 0 [] k
section
variable (k:Nat) (a0:Ty.den a_) (a1:Ty.den bA)
def K0:Ex→St→Rs:=bv (E k) (eK (E k) Tryz.f31 (C k) (a0,a1,())) [.blk 0,.code (at_ (bt 4 15) (body Tryz.f31))]
def V0 (n0:Nat):T0:=fun x0 x1 x2 x3 x4 x5=>ar (bY (E k) (at_ (bt 7 23) (body Tryz.f31))) (am 0 [3,5,14,15,16]) (K0 k a0 a1) n0 (mk 46 2 [(3,.ptr 0 0 0),(5,.ref 1),(14,.sl true aE x0),(15,.int .i64 x1),(16,.int .i64 x2)] [(0,.box [.int .i64 x3,.sl true (.int .i64) x4]),(1,.own false .str x5)])
theorem s0 (n0:Nat):V0 k a0 a1 (n0+1)=b0 k (V0 k a0 a1 n0):=by kernel_rfl
theorem e0:V0 k a0 a1=l0 k:=aW rfl (s0 k a0 a1) fun _=>rfl
end
theorem eq (k:Nat) (a0:Ty.den a_) (a1:Ty.den bA):rn (E k) Tryz.f31 (C k) (a0,a1,())=f k a0 a1:=(show _=t k (V0 k a0 a1 k) a0 a1 by kernel_rfl).trans (by rw [e0];rfl)
theorem ctr (k:Nat):Cp 31 (C k):=rc rfl (D k) (by kernel_rfl) Tryz.func31 (by kernel_rfl) rfl fun ⟨a0,a1,_⟩ r h=>(eq k a0 a1).trans h
end eJ
namespace mg
def C (k:Nat):Cn:=⟨[.val (.int .i64)],[.str],true,false,fun x=>f k x.1⟩
def D (k:Nat):List Ce:=[q (mZ.ctr k)]
def E (k:Nat):cL:=en (D k) [] 0 [] k
theorem eq (k:Nat) (a0:Int):rn (E k) Tryz.f144 (C k) (a0,())=f k a0:=by kernel_rfl
theorem ctr (k:Nat):Cp 144 (C k):=rc rfl (D k) (by kernel_rfl) Tryz.func144 (by kernel_rfl) rfl fun ⟨a0,_⟩ r h=>(eq k a0).trans h
end mg
namespace jB
def C (k:Nat):Cn:=⟨[.val .str,.val (.int .i64)],[.str],true,false,fun x=>f k x.1 x.2.1⟩
def D (k:Nat):List Ce:=[q (az.ctr k),q (mg.ctr k)]
def E (k:Nat):cL:=en (D k) [] 0 [] k
theorem eq (k:Nat) (a0:ByteArray) (a1:Int):rn (E k) Tryz.f80 (C k) (a0,a1,())=f k a0 a1:=by kernel_rfl
theorem ctr (k:Nat):Cp 80 (C k):=rc rfl (D k) (by kernel_rfl) Tryz.func80 (by kernel_rfl) rfl fun ⟨a0,a1,_⟩ r h=>(eq k a0 a1).trans h
end jB
namespace di
def C (k:Nat):Cn:=⟨[.val (.int .i64)],[.str],true,false,fun x=>f k x.1⟩
def D (k:Nat):List Ce:=[q (jB.ctr k)]
def E (k:Nat):cL:=en (D k) [] 0 [] k
theorem eq (k:Nat) (a0:Int):rn (E k) Tryz.f32 (C k) (a0,())=f k a0:=by kernel_rfl
theorem ctr (k:Nat):Cp 32 (C k):=rc rfl (D k) (by kernel_rfl) Tryz.func32 (by kernel_rfl) rfl fun ⟨a0,_⟩ r h=>(eq k a0).trans h
end di
namespace ak
def C (k:Nat):Cn:=⟨[.io true jq,.val (.int .i64)],[.str],true,false,fun x=>f k x.1 x.2.1⟩
def E (k:Nat):cL:=en [] [] 1 [] k
theorem eq (k:Nat) (a0:Ty.den jq) (a1:Int):rn (E k) Tryz.f147 (C k) (a0,a1,())=f k a0 a1:=by kernel_rfl
theorem ctr (k:Nat):Cp 147 (C k):=rc rfl [] (by kernel_rfl) Tryz.func147 (by kernel_rfl) rfl fun ⟨a0,a1,_⟩ r h=>(eq k a0 a1).trans h
end ak
namespace ag
def C (k:Nat):Cn:=⟨[.io true jq],[.str],true,false,fun x=>f k x.1⟩
def D (k:Nat):List Ce:=[q (aJ.ctr k),q (ak.ctr k)]
def E (k:Nat):cL:=en (D k) [] 1 [] k
theorem eq (k:Nat) (a0:Ty.den jq):rn (E k) Tryz.f145 (C k) (a0,())=f k a0:=by kernel_rfl
theorem ctr (k:Nat):Cp 145 (C k):=rc rfl (D k) (by kernel_rfl) Tryz.func145 (by kernel_rfl) rfl fun ⟨a0,_⟩ r h=>(eq k a0).trans h
end ag
namespace gm
def C (k:Nat):Cn:=⟨[.val .str],[.bool],true,false,fun x=>f k x.1⟩
def D (k:Nat):List Ce:=[q (az.ctr k)]
def E (k:Nat):cL:=en (D k) [] 0 [] k
theorem eq (k:Nat) (a0:ByteArray):rn (E k) Tryz.f123 (C k) (a0,())=f k a0:=by kernel_rfl
theorem ctr (k:Nat):Cp 123 (C k):=rc rfl (D k) (by kernel_rfl) Tryz.func123 (by kernel_rfl) rfl fun ⟨a0,_⟩ r h=>(eq k a0).trans h
end gm
namespace g7
def C (k:Nat):Cn:=⟨[.val bU],[.bool],true,false,fun x=>f k x.1⟩
def D (k:Nat):List Ce:=[q (gm.ctr k),q (az.ctr k)]
def E (k:Nat):cL:=en (D k) [] 0 [] k
theorem eq (k:Nat) (a0:Ty.den bU):rn (E k) Tryz.f138 (C k) (a0,())=f k a0:=by kernel_rfl
theorem ctr (k:Nat):Cp 138 (C k):=rc rfl (D k) (by kernel_rfl) Tryz.func138 (by kernel_rfl) rfl fun ⟨a0,_⟩ r h=>(eq k a0).trans h
end g7
namespace bp
def C (k:Nat):Cn:=⟨[.val .str,.val (.int .i64)],[(.int .i64),.bool],true,false,fun x=>f k x.1 x.2.1⟩
def D (k:Nat):List Ce:=[q (az.ctr k)]
def E (k:Nat):cL:=en (D k) [(5,[0,6,17,18])] 0 [] k
section
variable (k:Nat) (a0:ByteArray) (a1:Int)
def K0:Ex→St→Rs:=bv (E k) (eK (E k) Tryz.f146 (C k) (a0,a1,())) [.blk 0,.code (at_ (bt 4 15) (body Tryz.f146))]
def V0 (n0:Nat):T0:=fun x0 x1 x2 x3=>ar (bY (E k) (at_ (bt 7 23) (body Tryz.f146))) (am 0 [0,6,17,18]) (K0 k a0 a1) n0 (mk 30 0 [(0,.str x0),(6,.int .i64 x1),(17,.int .i64 x2),(18,.int .i64 x3)] [])
theorem s0 (n0:Nat):V0 k a0 a1 (n0+1)=b0 k (V0 k a0 a1 n0):=by kernel_rfl
theorem e0:V0 k a0 a1=l0 k:=aW rfl (s0 k a0 a1) fun _=>rfl
end
theorem eq (k:Nat) (a0:ByteArray) (a1:Int):rn (E k) Tryz.f146 (C k) (a0,a1,())=f k a0 a1:=(show _=t k (V0 k a0 a1 k) a0 a1 by kernel_rfl).trans (by rw [e0];rfl)
theorem ctr (k:Nat):Cp 146 (C k):=rc rfl (D k) (by kernel_rfl) Tryz.func146 (by kernel_rfl) rfl fun ⟨a0,a1,_⟩ r h=>(eq k a0 a1).trans h
end bp
namespace dP
def C (k:Nat):Cn:=⟨[.val .str],[bU,.bool],true,false,fun x=>f k x.1⟩
def D (k:Nat):List Ce:=[q (aJ.ctr k),q (ag.ctr k),q (g7.ctr k),q (ak.ctr k),q (bp.ctr k)]
def E (k:Nat):cL:=en (D k) [] 0 [] k
theorem eq (k:Nat) (a0:ByteArray):rn (E k) Tryz.f81 (C k) (a0,())=f k a0:=by kernel_rfl
theorem ctr (k:Nat):Cp 81 (C k):=rc rfl (D k) (by kernel_rfl) Tryz.func81 (by kernel_rfl) rfl fun ⟨a0,_⟩ r h=>(eq k a0).trans h
end dP
namespace cw
def C (k:Nat):Cn:=⟨[.val .str],[(.slice bM),(.int .i64)],true,false,fun x=>f k x.1⟩
def D (k:Nat):List Ce:=[q (f9.ctr k),q (dP.ctr k)]
def E (k:Nat):cL:=en (D k) [(3,[0,4,5])] 0 [] k
section
variable (k:Nat) (a0:ByteArray)
def K0:Ex→St→Rs:=bv (E k) (eK (E k) Tryz.f33 (C k) (a0,())) [.blk 0]
def V0 (n0:Nat):T0:=fun x0 x1 x2=>ar (bY (E k) (at_ (bt 5 7) (body Tryz.f33))) (am 0 [0,4,5]) (K0 k a0) n0 (mk 40 1 [(0,.str x0),(4,.ref 0),(5,.int .i64 x1)] [(0,.own false bM x2)])
theorem s0 (n0:Nat):V0 k a0 (n0+1)=b0 k (V0 k a0 n0):=by kernel_rfl
theorem e0:V0 k a0=l0 k:=aW rfl (s0 k a0) fun _=>rfl
end
theorem eq (k:Nat) (a0:ByteArray):rn (E k) Tryz.f33 (C k) (a0,())=f k a0:=(show _=t k (V0 k a0 k) a0 by kernel_rfl).trans (by rw [e0];rfl)
theorem ctr (k:Nat):Cp 33 (C k):=rc rfl (D k) (by kernel_rfl) Tryz.func33 (by kernel_rfl) rfl fun ⟨a0,_⟩ r h=>(eq k a0).trans h
end cw
namespace dO
def C (k:Nat):Cn:=⟨[.val (.int .i64),.val (.slice bM)],[(.slice aC)],true,false,fun x=>f k x.1 x.2.1⟩
def E (k:Nat):cL:=en [] [(3,[0,5,8,9,10])] 0 [] k
section
variable (k:Nat) (a0:Int) (a1:List (Ty.den bM))
def K0:Ex→St→Rs:=bv (E k) (eK (E k) Tryz.f34 (C k) (a0,a1,())) [.blk 0,.code (at_ (bt 3 7) (body Tryz.f34))]
def V0 (n0:Nat):T0:=fun x0 x1 x2 x3 x4=>ar (bY (E k) (at_ (bt 6 11) (body Tryz.f34))) (am 0 [0,5,8,9,10]) (K0 k a0 a1) n0 (mk 27 1 [(0,.int .i64 x0),(5,.ref 0),(8,.sl true bM x1),(9,.int .i64 x2),(10,.int .i64 x3)] [(0,.own false aC x4)])
theorem s0 (n0:Nat):V0 k a0 a1 (n0+1)=b0 k (V0 k a0 a1 n0):=by kernel_rfl
theorem e0:V0 k a0 a1=l0 k:=aW rfl (s0 k a0 a1) fun _=>rfl
end
theorem eq (k:Nat) (a0:Int) (a1:List (Ty.den bM)):rn (E k) Tryz.f34 (C k) (a0,a1,())=f k a0 a1:=(show _=t k (V0 k a0 a1 k) a0 a1 by kernel_rfl).trans (by rw [e0];rfl)
theorem ctr (k:Nat):Cp 34 (C k):=rc rfl [] (by kernel_rfl) Tryz.func34 (by kernel_rfl) rfl fun ⟨a0,a1,_⟩ r h=>(eq k a0 a1).trans h
end dO
namespace cS
def C (k:Nat):Cn:=⟨[.val (.slice aC),.val bU],[(.slice aC)],true,false,fun x=>f k x.1 x.2.1⟩
def E (k:Nat):cL:=en [] [(3,[3,5,9,10,11])] 0 [] k
section
variable (k:Nat) (a0:List (Ty.den aC)) (a1:Ty.den bU)
def K0:Ex→St→Rs:=bv (E k) (eK (E k) Tryz.f83 (C k) (a0,a1,())) [.blk 0,.code (at_ (bt 3 7) (body Tryz.f83))]
def V0 (n0:Nat):T0:=fun x0 x1 x2 x3 x4 x5 x6 x7 x8 x9=>ar (bY (E k) (at_ (bt 6 11) (body Tryz.f83))) (am 0 [3,5,9,10,11]) (K0 k a0 a1) n0 (mk 62 2 [(3,.ptr 0 0 0),(5,.ref 1),(9,.sl true aC x0),(10,.int .i64 x1),(11,.int .i64 x2)] [(0,.box [.int .i64 x3,.int .i64 x4,.str x5,.str x6,.int .i64 x7,.int .i64 x8]),(1,.own false aC x9)])
theorem s0 (n0:Nat):V0 k a0 a1 (n0+1)=b0 k (V0 k a0 a1 n0):=by kernel_rfl
theorem e0:V0 k a0 a1=l0 k:=aW rfl (s0 k a0 a1) fun _=>rfl
end
theorem eq (k:Nat) (a0:List (Ty.den aC)) (a1:Ty.den bU):rn (E k) Tryz.f83 (C k) (a0,a1,())=f k a0 a1:=(show _=t k (V0 k a0 a1 k) a0 a1 by kernel_rfl).trans (by rw [e0];rfl)
theorem ctr (k:Nat):Cp 83 (C k):=rc rfl [] (by kernel_rfl) Tryz.func83 (by kernel_rfl) rfl fun ⟨a0,a1,_⟩ r h=>(eq k a0 a1).trans h
end cS
namespace dI
def C (k:Nat):Cn:=⟨[.val (.slice (.int .i64))],[.str],true,false,fun x=>f k x.1⟩
def D (k:Nat):List Ce:=[q (fX.ctr k)]
def E (k:Nat):cL:=en (D k) [(3,[3,6,7,8])] 0 [] k
section
variable (k:Nat) (a0:List Int)
def K0:Ex→St→Rs:=bv (E k) (eK (E k) Tryz.f139 (C k) (a0,())) [.blk 0,.code (at_ (bt 3 7) (body Tryz.f139))]
def V0 (n0:Nat):T0:=fun x0 x1 x2 x3=>ar (bY (E k) (at_ (bt 6 11) (body Tryz.f139))) (am 0 [3,6,7,8]) (K0 k a0) n0 (mk 18 0 [(3,.str x0),(6,.sl true (.int .i64) x1),(7,.int .i64 x2),(8,.int .i64 x3)] [])
theorem s0 (n0:Nat):V0 k a0 (n0+1)=b0 k (V0 k a0 n0):=by kernel_rfl
theorem e0:V0 k a0=l0 k:=aW rfl (s0 k a0) fun _=>rfl
end
theorem eq (k:Nat) (a0:List Int):rn (E k) Tryz.f139 (C k) (a0,())=f k a0:=(show _=t k (V0 k a0 k) a0 by kernel_rfl).trans (by rw [e0];rfl)
theorem ctr (k:Nat):Cp 139 (C k):=rc rfl (D k) (by kernel_rfl) Tryz.func139 (by kernel_rfl) rfl fun ⟨a0,_⟩ r h=>(eq k a0).trans h
end dI
namespace j4
def C (k:Nat):Cn:=⟨[.val bU],[.str],true,false,fun x=>f k x.1⟩
def D (k:Nat):List Ce:=[q (g7.ctr k),q (dI.ctr k),q (eF.ctr k),q (fX.ctr k),q (dT.ctr k)]
def E (k:Nat):cL:=en (D k) [] 0 [] k
theorem eq (k:Nat) (a0:Ty.den bU):rn (E k) Tryz.f75 (C k) (a0,())=f k a0:=by kernel_rfl
theorem ctr (k:Nat):Cp 75 (C k):=rc rfl (D k) (by kernel_rfl) Tryz.func75 (by kernel_rfl) rfl fun ⟨a0,_⟩ r h=>(eq k a0).trans h
end j4
namespace ig
def C (k:Nat):Cn:=⟨[.val (.slice bU)],[(.int .i64)],true,false,fun x=>f k x.1⟩
def D (k:Nat):List Ce:=[q (j4.ctr k),q (gG.ctr k)]
def E (k:Nat):cL:=en (D k) [(3,[3,6,7,8])] 0 [] k
section
variable (k:Nat) (a0:List (Ty.den bU))
def K0:Ex→St→Rs:=bv (E k) (eK (E k) Tryz.f126 (C k) (a0,())) [.blk 0,.code (at_ (bt 3 7) (body Tryz.f126))]
def V0 (n0:Nat):T0:=fun x0 x1 x2 x3=>ar (bY (E k) (at_ (bt 6 11) (body Tryz.f126))) (am 0 [3,6,7,8]) (K0 k a0) n0 (mk 19 0 [(3,.str x0),(6,.sl true bU x1),(7,.int .i64 x2),(8,.int .i64 x3)] [])
theorem s0 (n0:Nat):V0 k a0 (n0+1)=b0 k (V0 k a0 n0):=by kernel_rfl
theorem e0:V0 k a0=l0 k:=aW rfl (s0 k a0) fun _=>rfl
end
theorem eq (k:Nat) (a0:List (Ty.den bU)):rn (E k) Tryz.f126 (C k) (a0,())=f k a0:=(show _=t k (V0 k a0 k) a0 by kernel_rfl).trans (by rw [e0];rfl)
theorem ctr (k:Nat):Cp 126 (C k):=rc rfl (D k) (by kernel_rfl) Tryz.func126 (by kernel_rfl) rfl fun ⟨a0,_⟩ r h=>(eq k a0).trans h
end ig
namespace fg
def C (k:Nat):Cn:=⟨[.val bU,.val (.slice aC)],[.bool],true,false,fun x=>f k x.1 x.2.1⟩
def D (k:Nat):List Ce:=[q (ig.ctr k)]
def E (k:Nat):cL:=en (D k) [(3,[2,5,8,9,10])] 0 [] k
section
variable (k:Nat) (a0:Ty.den bU) (a1:List (Ty.den aC))
def K0:Ex→St→Rs:=bv (E k) (eK (E k) Tryz.f82 (C k) (a0,a1,())) [.blk 0,.code (at_ (bt 3 7) (body Tryz.f82))]
def V0 (n0:Nat):T0:=fun x0 x1 x2 x3 x4 x5 x6 x7 x8 x9=>ar (bY (E k) (at_ (bt 6 11) (body Tryz.f82))) (am 0 [2,5,8,9,10]) (K0 k a0 a1) n0 (mk 32 2 [(2,.ptr 0 0 0),(5,.ref 1),(8,.sl true aC x0),(9,.int .i64 x1),(10,.int .i64 x2)] [(0,.box [.int .i64 x3,.int .i64 x4,.str x5,.str x6,.int .i64 x7,.int .i64 x8]),(1,.own false bU x9)])
theorem s0 (n0:Nat):V0 k a0 a1 (n0+1)=b0 k (V0 k a0 a1 n0):=by kernel_rfl
theorem e0:V0 k a0 a1=l0 k:=aW rfl (s0 k a0 a1) fun _=>rfl
end
theorem eq (k:Nat) (a0:Ty.den bU) (a1:List (Ty.den aC)):rn (E k) Tryz.f82 (C k) (a0,a1,())=f k a0 a1:=(show _=t k (V0 k a0 a1 k) a0 a1 by kernel_rfl).trans (by rw [e0];rfl)
theorem ctr (k:Nat):Cp 82 (C k):=rc rfl (D k) (by kernel_rfl) Tryz.func82 (by kernel_rfl) rfl fun ⟨a0,a1,_⟩ r h=>(eq k a0 a1).trans h
end fg
namespace gH
def C (k:Nat):Cn:=⟨[.val (.slice aC)],[(.slice (.int .i64))],true,false,fun x=>f k x.1⟩
def D (k:Nat):List Ce:=[q (cS.ctr k),q (fg.ctr k)]
def E (k:Nat):cL:=en (D k) [(3,[0,3,6,7,8])] 0 [] k
section
variable (k:Nat) (a0:List (Ty.den aC))
def K0:Ex→St→Rs:=bv (E k) (eK (E k) Tryz.f35 (C k) (a0,())) [.blk 0,.code (at_ (bt 3 7) (body Tryz.f35))]
def V0 (n0:Nat):T0:=fun x0 x1 x2 x3 x4=>ar (bY (E k) (at_ (bt 6 11) (body Tryz.f35))) (am 0 [0,3,6,7,8]) (K0 k a0) n0 (mk 36 1 [(0,.sl true aC x0),(3,.ref 0),(6,.sl true aC x1),(7,.int .i64 x2),(8,.int .i64 x3)] [(0,.own false (.int .i64) x4)])
theorem s0 (n0:Nat):V0 k a0 (n0+1)=b0 k (V0 k a0 n0):=by kernel_rfl
theorem e0:V0 k a0=l0 k:=aW rfl (s0 k a0) fun _=>rfl
end
theorem eq (k:Nat) (a0:List (Ty.den aC)):rn (E k) Tryz.f35 (C k) (a0,())=f k a0:=(show _=t k (V0 k a0 k) a0 by kernel_rfl).trans (by rw [e0];rfl)
theorem ctr (k:Nat):Cp 35 (C k):=rc rfl (D k) (by kernel_rfl) Tryz.func35 (by kernel_rfl) rfl fun ⟨a0,_⟩ r h=>(eq k a0).trans h
end gH
namespace dV
def C (k:Nat):Cn:=⟨[.val a_],[rr],true,false,fun x=>f k x.1⟩
def D (k:Nat):List Ce:=[q (cQ.ctr k),q (aq.ctr k),q (eJ.ctr k),q (di.ctr k),q (cw.ctr k),q (dO.ctr k),q (gH.ctr k),q (ek.ctr k)]
def E (k:Nat):cL:=en (D k) [(6,[1,2,7,8,35,36,37]),(20,[2,7,15,86,87,88])] 0 [] k
section
variable (k:Nat) (a0:Ty.den a_)
def K0:Ex→St→Rs:=bv (E k) (eK (E k) Tryz.f12 (C k) (a0,())) [.blk 0,.code (at_ (bt 6 63) (body Tryz.f12))]
def K1:Ex→St→Rs:=bv (E k) (eK (E k) Tryz.f12 (C k) (a0,())) [.blk 2,.code (at_ (bt 9 511) (body Tryz.f12))]
def V0 (n0:Nat):T0:=fun x0 x1 x2 x3 x4 x5 x6 x7 x8 x9 x10 x11 x12 x13 x14 x15 x16 x17 x18 x19 x20 x21=>ar (bY (E k) (at_ (bt 9 95) (body Tryz.f12))) (am 0 [1,2,7,8,35,36,37]) (K0 k a0) n0 (mk 116 5 [(1,.ptr 0 0 0),(2,.ptr 1 0 0),(7,.ptr 2 0 0),(8,.ref 3),(35,.ref 4),(36,.int .i64 x0),(37,.int .i64 x1)] [(0,.box [.sl true aE x2,.int .i64 x3,.int .i64 x4,.bool x5]),(1,.box [.bool x6,.int .i64 x7,.int .i64 x8,.int .i64 x9,.int .i64 x10,.int .i64 x11,.int .i64 x12]),(2,.box [.bool x13,.int .i64 x14,.int .i64 x15,.int .i64 x16,.int .i64 x17,.int .i64 x18,.int .i64 x19]),(3,.own false aC x20),(4,.own false (.int .i64) x21)])
def V1 (n1:Nat):T1:=fun x0 x1 x2 x3 x4 x5 x6 x7 x8 x9 x10 x11 x12 x13 x14 x15 x16 x17=>ar (bY (E k) (at_ (bt 12 767) (body Tryz.f12))) (am 0 [2,7,15,86,87,88]) (K1 k a0) n1 (mk 116 4 [(2,.ptr 0 0 0),(7,.ptr 1 0 0),(15,.ref 2),(86,.ref 3),(87,.int .i64 x0),(88,.int .i64 x1)] [(0,.box [.bool x2,.int .i64 x3,.int .i64 x4,.int .i64 x5,.int .i64 x6,.int .i64 x7,.int .i64 x8]),(1,.box [.bool x9,.int .i64 x10,.int .i64 x11,.int .i64 x12,.int .i64 x13,.int .i64 x14,.int .i64 x15]),(2,.own false (.int .i64) x16),(3,.own false aC x17)])
theorem s0 (n0:Nat):V0 k a0 (n0+1)=b0 k (V1 k a0 k) (V0 k a0 n0):=by kernel_rfl
theorem s1 (n1:Nat):V1 k a0 (n1+1)=b1 k (V1 k a0 n1):=by kernel_rfl
theorem e1:V1 k a0=l1 k:=aW rfl (s1 k a0) fun _=>rfl
theorem e0 (n0:Nat):V0 k a0 n0=l0 k n0:=by
 induction n0 with
 | zero=>rfl
 | succ n0 ih =>
  have h:V0 k a0 (n0+1)=b0 k (V1 k a0 k) (V0 k a0 n0):=s0 k a0 n0
  rw [h,e1,ih]
  rfl
end
theorem eq (k:Nat) (a0:Ty.den a_):rn (E k) Tryz.f12 (C k) (a0,())=f k a0:=(show _=t k (V0 k a0 k) a0 by kernel_rfl).trans (by rw [e0];rfl)
theorem ctr (k:Nat):Cp 12 (C k):=rc rfl (D k) (by kernel_rfl) Tryz.func12 (by kernel_rfl) rfl fun ⟨a0,_⟩ r h=>(eq k a0).trans h
end dV
namespace c8
def C (k:Nat):Cn:=⟨[.val a_],[a_],true,false,fun x=>f k x.1⟩
def E (k:Nat):cL:=en [] [] 0 [] k
theorem eq (k:Nat) (a0:Ty.den a_):rn (E k) Tryz.f21 (C k) (a0,())=f k a0:=by kernel_rfl
theorem ctr (k:Nat):Cp 21 (C k):=rc rfl [] (by kernel_rfl) Tryz.func21 (by kernel_rfl) rfl fun ⟨a0,_⟩ r h=>(eq k a0).trans h
end c8
namespace bN
def C (k:Nat):Cn:=⟨[.io true b8,.val bA],[(.slice (.slice aC)),(.int .i64),.bool],true,false,fun x=>f k x.1 x.2.1⟩
def D (k:Nat):List Ce:=[q (di.ctr k),q (cQ.ctr k),q (cw.ctr k),q (dO.ctr k)]
def E (k:Nat):cL:=en (D k) [(4,[0,3,7,8,16,17,18])] 1 [] k
section
variable (k:Nat) (a0:Ty.den b8) (a1:Ty.den bA)
def K0:Ex→St→Rs:=bv (E k) (eK (E k) Tryz.f99 (C k) (a0,a1,())) [.blk 0,.code (at_ (bt 4 15) (body Tryz.f99))]
def V0 (n0:Nat):T0:=fun x0 x1 x2 x3 x4 x5 x6 x7 x8 x9 x10 x11=>ar (bY (E k) (at_ (bt 7 23) (body Tryz.f99))) (am 1 [0,3,7,8,16,17,18]) (K0 k a0 a1) n0 (mk 64 4 [(0,.ptr 0 0 0),(3,.ptr 2 0 0),(7,.ref 3),(8,.int .i64 x0),(16,.sl true (.int .i64) x1),(17,.int .i64 x2),(18,.int .i64 x3)] [(1,.own false aE x4),(0,.box [.ref 1,.int .i64 x5,.int .i64 x6,.bool x7,.int .i64 x8]),(2,.box [.int .i64 x9,.sl true (.int .i64) x10]),(3,.own false (.slice aC) x11)])
theorem s0 (n0:Nat):V0 k a0 a1 (n0+1)=b0 k (V0 k a0 a1 n0):=by kernel_rfl
theorem e0:V0 k a0 a1=l0 k:=aW rfl (s0 k a0 a1) fun _=>rfl
end
theorem eq (k:Nat) (a0:Ty.den b8) (a1:Ty.den bA):rn (E k) Tryz.f99 (C k) (a0,a1,())=f k a0 a1:=(show _=t k (V0 k a0 a1 k) a0 a1 by kernel_rfl).trans (by rw [e0];rfl)
theorem ctr (k:Nat):Cp 99 (C k):=rc rfl (D k) (by kernel_rfl) Tryz.func99 (by kernel_rfl) rfl fun ⟨a0,a1,_⟩ r h=>(eq k a0 a1).trans h
end bN
namespace eW
def C (k:Nat):Cn:=⟨[.io true a_,.io true .str,.io true (.int .i64)],[(.int .i64)],true,false,fun x=>f k x.1 x.2.1 x.2.2.1⟩
def D (k:Nat):List Ce:=[q (bX.ctr k),q (az.ctr k)]
def E (k:Nat):cL:=en (D k) [] 3 [] k
theorem eq (k:Nat) (a0:Ty.den a_) (a1:ByteArray) (a2:Int):rn (E k) Tryz.f161 (C k) (a0,a1,a2,())=f k a0 a1 a2:=by kernel_rfl
theorem ctr (k:Nat):Cp 161 (C k):=rc rfl (D k) (by kernel_rfl) Tryz.func161 (by kernel_rfl) rfl fun ⟨a0,a1,a2,_⟩ r h=>(eq k a0 a1 a2).trans h
end eW
namespace fE
def C (k:Nat):Cn:=⟨[.val a_,.fn 161 2,.io true .str,.io true (.int .i64)],[a_,(.int .i64)],true,false,fun x=>f k x.1 x.2.1 x.2.2.1⟩
def D (k:Nat):List Ce:=[q (c8.ctr k),q (bP.ctr k),q (eW.ctr k)]
def E (k:Nat):cL:=en (D k) [] 2 [] k
theorem eq (k:Nat) (a0:Ty.den a_) (a1:ByteArray) (a2:Int):rn (E k) Tryz.f160 (C k) (a0,a1,a2,())=f k a0 a1 a2:=by kernel_rfl
theorem ctr (k:Nat):Cp 160 (C k):=rc rfl (D k) (by kernel_rfl) Tryz.func160 (by kernel_rfl) rfl fun ⟨a0,a1,a2,_⟩ r h=>(eq k a0 a1 a2).trans h
end fE
namespace iW
def C (k:Nat):Cn:=⟨[.val a_,.val .str,.val (.int .i64)],[a_,(.int .i64)],true,false,fun x=>f k x.1 x.2.1 x.2.2.1⟩
def D (k:Nat):List Ce:=[q (fE.ctr k)]
def E (k:Nat):cL:=en (D k) [] 0 [] k
theorem eq (k:Nat) (a0:Ty.den a_) (a1:ByteArray) (a2:Int):rn (E k) Tryz.f101 (C k) (a0,a1,a2,())=f k a0 a1 a2:=by kernel_rfl
theorem ctr (k:Nat):Cp 101 (C k):=rc rfl (D k) (by kernel_rfl) Tryz.func101 (by kernel_rfl) rfl fun ⟨a0,a1,a2,_⟩ r h=>(eq k a0 a1 a2).trans h
end iW
namespace lR
def C (k:Nat):Cn:=⟨[.val (.int .i64)],[(.int .i64)],true,false,fun x=>f k x.1⟩
def E (k:Nat):cL:=en [] [] 0 [] k
theorem eq (k:Nat) (a0:Int):rn (E k) Tryz.f159 (C k) (a0,())=f k a0:=by kernel_rfl
theorem ctr (k:Nat):Cp 159 (C k):=rc rfl [] (by kernel_rfl) Tryz.func159 (by kernel_rfl) rfl fun ⟨a0,_⟩ r h=>(eq k a0).trans h
end lR
namespace aw
def C (k:Nat):Cn:=⟨[.io true b8,.give a_,.val (.int .i64)],[],true,false,fun x=>f k x.1 x.2.1 x.2.2.1⟩
def D (k:Nat):List Ce:=[q (lR.ctr k)]
def E (k:Nat):cL:=en (D k) [] 1 [] k
theorem eq (k:Nat) (a0:Ty.den b8) (a1:Ty.den a_) (a2:Int):rn (E k) Tryz.f100 (C k) (a0,a1,a2,())=f k a0 a1 a2:=by kernel_rfl
theorem ctr (k:Nat):Cp 100 (C k):=rc rfl (D k) (by kernel_rfl) Tryz.func100 (by kernel_rfl) rfl fun ⟨a0,a1,a2,_⟩ r h=>(eq k a0 a1 a2).trans h
end aw
namespace hZ
def C (k:Nat):Cn:=⟨[.io true a_,.io true .str],[(.int .i64)],true,false,fun x=>f k x.1 x.2.1⟩
def D (k:Nat):List Ce:=[q (bX.ctr k)]
def E (k:Nat):cL:=en (D k) [] 2 [] k
theorem eq (k:Nat) (a0:Ty.den a_) (a1:ByteArray):rn (E k) Tryz.f199 (C k) (a0,a1,())=f k a0 a1:=by kernel_rfl
theorem ctr (k:Nat):Cp 199 (C k):=rc rfl (D k) (by kernel_rfl) Tryz.func199 (by kernel_rfl) rfl fun ⟨a0,a1,_⟩ r h=>(eq k a0 a1).trans h
end hZ
namespace gf
def C (k:Nat):Cn:=⟨[.val a_,.fn 199 1,.io true .str],[a_,(.int .i64)],true,false,fun x=>f k x.1 x.2.1⟩
def D (k:Nat):List Ce:=[q (c8.ctr k),q (bP.ctr k),q (hZ.ctr k)]
def E (k:Nat):cL:=en (D k) [] 1 [] k
theorem eq (k:Nat) (a0:Ty.den a_) (a1:ByteArray):rn (E k) Tryz.f160 (C k) (a0,a1,())=f k a0 a1:=by kernel_rfl
theorem ctr (k:Nat):Cp 160 (C k):=rc rfl (D k) (by kernel_rfl) Tryz.func160 (by kernel_rfl) rfl fun ⟨a0,a1,_⟩ r h=>(eq k a0 a1).trans h
end gf
namespace lQ
def C (k:Nat):Cn:=⟨[.val a_,.val .str],[a_,(.int .i64)],true,false,fun x=>f k x.1 x.2.1⟩
def D (k:Nat):List Ce:=[q (gf.ctr k)]
def E (k:Nat):cL:=en (D k) [] 0 [] k
theorem eq (k:Nat) (a0:Ty.den a_) (a1:ByteArray):rn (E k) Tryz.f162 (C k) (a0,a1,())=f k a0 a1:=by kernel_rfl
theorem ctr (k:Nat):Cp 162 (C k):=rc rfl (D k) (by kernel_rfl) Tryz.func162 (by kernel_rfl) rfl fun ⟨a0,a1,_⟩ r h=>(eq k a0 a1).trans h
end lQ
namespace d6
def C (k:Nat):Cn:=⟨[.io true b8,.val .str],[],true,false,fun x=>f k x.1 x.2.1⟩
def D (k:Nat):List Ce:=[q (lQ.ctr k),q (aw.ctr k)]
def E (k:Nat):cL:=en (D k) [] 1 [] k
theorem eq (k:Nat) (a0:Ty.den b8) (a1:ByteArray):rn (E k) Tryz.f102 (C k) (a0,a1,())=f k a0 a1:=by kernel_rfl
theorem ctr (k:Nat):Cp 102 (C k):=rc rfl (D k) (by kernel_rfl) Tryz.func102 (by kernel_rfl) rfl fun ⟨a0,a1,_⟩ r h=>(eq k a0 a1).trans h
end d6
namespace iR
def C (k:Nat):Cn:=⟨[.val (.int .i64)],[.str],true,false,fun x=>f k x.1⟩
def D (k:Nat):List Ce:=[q (jB.ctr k)]
def E (k:Nat):cL:=en (D k) [] 0 [] k
theorem eq (k:Nat) (a0:Int):rn (E k) Tryz.f70 (C k) (a0,())=f k a0:=by kernel_rfl
theorem ctr (k:Nat):Cp 70 (C k):=rc rfl (D k) (by kernel_rfl) Tryz.func70 (by kernel_rfl) rfl fun ⟨a0,_⟩ r h=>(eq k a0).trans h
end iR
namespace fJ
def C (k:Nat):Cn:=⟨[.val (.slice aA)],[.bool],true,false,fun x=>f k x.1⟩
def D (k:Nat):List Ce:=[q (gm.ctr k),q (az.ctr k)]
def E (k:Nat):cL:=en (D k) [(2,[0,5,6,7])] 0 [] k
section
variable (k:Nat) (a0:List (Ty.den aA))
def K0:Ex→St→Rs:=bv (E k) (eK (E k) Tryz.f62 (C k) (a0,())) [.blk 0,.code (at_ (bt 2 3) (body Tryz.f62))]
def V0 (n0:Nat):T0:=fun x0 x1 x2 x3=>ar (bY (E k) (at_ (bt 5 5) (body Tryz.f62))) (am 0 [0,5,6,7]) (K0 k a0) n0 (mk 58 0 [(0,.sl true aA x0),(5,.sl true aA x1),(6,.int .i64 x2),(7,.int .i64 x3)] [])
theorem s0 (n0:Nat):V0 k a0 (n0+1)=b0 k (V0 k a0 n0):=by kernel_rfl
theorem e0:V0 k a0=l0 k:=aW rfl (s0 k a0) fun _=>rfl
end
theorem eq (k:Nat) (a0:List (Ty.den aA)):rn (E k) Tryz.f62 (C k) (a0,())=f k a0:=(show _=t k (V0 k a0 k) a0 by kernel_rfl).trans (by rw [e0];rfl)
theorem ctr (k:Nat):Cp 62 (C k):=rc rfl (D k) (by kernel_rfl) Tryz.func62 (by kernel_rfl) rfl fun ⟨a0,_⟩ r h=>(eq k a0).trans h
end fJ
namespace e_
def C (k:Nat):Cn:=⟨[.val dc],[.bool],true,false,fun x=>f k x.1⟩
def D (k:Nat):List Ce:=[q (az.ctr k),q (fJ.ctr k)]
def E (k:Nat):cL:=en (D k) [(2,[1,6,7,8])] 0 [] k
section
variable (k:Nat) (a0:Ty.den dc)
def K0:Ex→St→Rs:=bv (E k) (eK (E k) Tryz.f190 (C k) (a0,())) [.blk 0,.code (at_ (bt 2 3) (body Tryz.f190))]
def V0 (n0:Nat):T0:=fun x0 x1 x2 x3 x4 x5=>ar (bY (E k) (at_ (bt 5 5) (body Tryz.f190))) (am 0 [1,6,7,8]) (K0 k a0) n0 (mk 39 1 [(1,.ptr 0 0 0),(6,.sl true aA x0),(7,.int .i64 x1),(8,.int .i64 x2)] [(0,.box [.int .i64 x3,.int .i64 x4,.sl true aA x5])])
theorem s0 (n0:Nat):V0 k a0 (n0+1)=b0 k (V0 k a0 n0):=by kernel_rfl
theorem e0:V0 k a0=l0 k:=aW rfl (s0 k a0) fun _=>rfl
end
theorem eq (k:Nat) (a0:Ty.den dc):rn (E k) Tryz.f190 (C k) (a0,())=f k a0:=(show _=t k (V0 k a0 k) a0 by kernel_rfl).trans (by rw [e0];rfl)
theorem ctr (k:Nat):Cp 190 (C k):=rc rfl (D k) (by kernel_rfl) Tryz.func190 (by kernel_rfl) rfl fun ⟨a0,_⟩ r h=>(eq k a0).trans h
end e_
namespace dX
def C (k:Nat):Cn:=⟨[.val dc],[.str],true,false,fun x=>f k x.1⟩
def D (k:Nat):List Ce:=[q (e_.ctr k),q (dI.ctr k),q (eF.ctr k),q (gG.ctr k),q (dT.ctr k)]
def E (k:Nat):cL:=en (D k) [(5,[3,19,20,21])] 0 [] k
section
variable (k:Nat) (a0:Ty.den dc)
def K0:Ex→St→Rs:=bv (E k) (eK (E k) Tryz.f129 (C k) (a0,())) [.blk 0,.code (at_ (bt 4 15) (body Tryz.f129))]
def V0 (n0:Nat):T0:=fun x0 x1 x2 x3=>ar (bY (E k) (at_ (bt 7 23) (body Tryz.f129))) (am 0 [3,19,20,21]) (K0 k a0) n0 (mk 47 0 [(3,.str x0),(19,.sl true aA x1),(20,.int .i64 x2),(21,.int .i64 x3)] [])
theorem s0 (n0:Nat):V0 k a0 (n0+1)=b0 k (V0 k a0 n0):=by kernel_rfl
theorem e0:V0 k a0=l0 k:=aW rfl (s0 k a0) fun _=>rfl
end
theorem eq (k:Nat) (a0:Ty.den dc):rn (E k) Tryz.f129 (C k) (a0,())=f k a0:=(show _=t k (V0 k a0 k) a0 by kernel_rfl).trans (by rw [e0];rfl)
theorem ctr (k:Nat):Cp 129 (C k):=rc rfl (D k) (by kernel_rfl) Tryz.func129 (by kernel_rfl) rfl fun ⟨a0,_⟩ r h=>(eq k a0).trans h
end dX
namespace b_
def C (k:Nat):Cn:=⟨[.val .str],[dc,.bool],true,false,fun x=>f k x.1⟩
def D (k:Nat):List Ce:=[q (ak.ctr k),q (aJ.ctr k),q (ag.ctr k),q (e_.ctr k),q (dX.ctr k)]
def E (k:Nat):cL:=en (D k) [(8,[0,2,4,5,6,7])] 0 [] k
section
variable (k:Nat) (a0:ByteArray)
def K0:Ex→St→Rs:=bv (E k) (eK (E k) Tryz.f163 (C k) (a0,())) [.blk 0,.code (at_ (bt 8 255) (body Tryz.f163))]
def V0 (n0:Nat):T0:=fun x0 x1 x2 x3 x4 x5 x6 x7 x8 x9 x10=>ar (bY (E k) (at_ (bt 11 383) (body Tryz.f163))) (am 0 [0,2,4,5,6,7]) (K0 k a0) n0 (mk 72 5 [(0,.str x0),(2,.ptr 0 0 0),(4,.ptr 2 0 0),(5,.ptr 3 0 0),(6,.int .i64 x1),(7,.int .i64 x2)] [(1,.own false aA x3),(0,.box [.int .i64 x4,.int .i64 x5,.ref 1]),(2,.box [.str x6,.bool x7]),(4,.own false aA x8),(3,.box [.int .i64 x9,.int .i64 x10,.ref 4])])
theorem s0 (n0:Nat):V0 k a0 (n0+1)=b0 k (V0 k a0 n0):=by kernel_rfl
theorem e0:V0 k a0=l0 k:=aW rfl (s0 k a0) fun _=>rfl
end
theorem eq (k:Nat) (a0:ByteArray):rn (E k) Tryz.f163 (C k) (a0,())=f k a0:=(show _=t k (V0 k a0 k) a0 by kernel_rfl).trans (by rw [e0];rfl)
theorem ctr (k:Nat):Cp 163 (C k):=rc rfl (D k) (by kernel_rfl) Tryz.func163 (by kernel_rfl) rfl fun ⟨a0,_⟩ r h=>(eq k a0).trans h
end b_
namespace fF
def C (k:Nat):Cn:=⟨[.val (.int .i64),.val .str],[dc,.bool],true,false,fun x=>f k x.1 x.2.1⟩
def D (k:Nat):List Ce:=[q (cw.ctr k),q (az.ctr k),q (dO.ctr k),q (fg.ctr k)]
def E (k:Nat):cL:=en (D k) [(7,[0,4,6,9,67,68,69])] 0 [] k
section
variable (k:Nat) (a0:Int) (a1:ByteArray)
def K0:Ex→St→Rs:=bv (E k) (eK (E k) Tryz.f127 (C k) (a0,a1,())) [.blk 0,.code (at_ (bt 6 63) (body Tryz.f127))]
def V0 (n0:Nat):T0:=fun x0 x1 x2 x3 x4 x5 x6 x7 x8 x9 x10=>ar (bY (E k) (at_ (bt 9 95) (body Tryz.f127))) (am 0 [0,4,6,9,67,68,69]) (K0 k a0 a1) n0 (mk 123 4 [(0,.int .i64 x0),(4,.ptr 0 0 0),(6,.sl false bM x1),(9,.ptr 2 0 0),(67,.sl false bM x2),(68,.int .i64 x3),(69,.int .i64 x4)] [(1,.own false aA x5),(0,.box [.int .i64 x6,.int .i64 x7,.ref 1]),(3,.own false aA x8),(2,.box [.int .i64 x9,.int .i64 x10,.ref 3])])
theorem s0 (n0:Nat):V0 k a0 a1 (n0+1)=b0 k (V0 k a0 a1 n0):=by kernel_rfl
theorem e0:V0 k a0 a1=l0 k:=aW rfl (s0 k a0 a1) fun _=>rfl
end
theorem eq (k:Nat) (a0:Int) (a1:ByteArray):rn (E k) Tryz.f127 (C k) (a0,a1,())=f k a0 a1:=(show _=t k (V0 k a0 a1 k) a0 a1 by kernel_rfl).trans (by rw [e0];rfl)
theorem ctr (k:Nat):Cp 127 (C k):=rc rfl (D k) (by kernel_rfl) Tryz.func127 (by kernel_rfl) rfl fun ⟨a0,a1,_⟩ r h=>(eq k a0 a1).trans h
end fF
namespace fR
def C (k:Nat):Cn:=⟨[.val (.slice aA),.val (.slice aA)],[.bool],true,false,fun x=>f k x.1 x.2.1⟩
def E (k:Nat):cL:=en [] [(4,[0,1,12,13])] 0 [] k
section
variable (k:Nat) (a0:List (Ty.den aA)) (a1:List (Ty.den aA))
def K0:Ex→St→Rs:=bv (E k) (eK (E k) Tryz.f200 (C k) (a0,a1,())) [.blk 0,.code (at_ (bt 3 7) (body Tryz.f200))]
def V0 (n0:Nat):T0:=fun x0 x1 x2 x3=>ar (bY (E k) (at_ (bt 6 11) (body Tryz.f200))) (am 0 [0,1,12,13]) (K0 k a0 a1) n0 (mk 26 0 [(0,.sl true aA x0),(1,.sl true aA x1),(12,.int .i64 x2),(13,.int .i64 x3)] [])
theorem s0 (n0:Nat):V0 k a0 a1 (n0+1)=b0 k (V0 k a0 a1 n0):=by kernel_rfl
theorem e0:V0 k a0 a1=l0 k:=aW rfl (s0 k a0 a1) fun _=>rfl
end
theorem eq (k:Nat) (a0:List (Ty.den aA)) (a1:List (Ty.den aA)):rn (E k) Tryz.f200 (C k) (a0,a1,())=f k a0 a1:=(show _=t k (V0 k a0 a1 k) a0 a1 by kernel_rfl).trans (by rw [e0];rfl)
theorem ctr (k:Nat):Cp 200 (C k):=rc rfl [] (by kernel_rfl) Tryz.func200 (by kernel_rfl) rfl fun ⟨a0,a1,_⟩ r h=>(eq k a0 a1).trans h
end fR
namespace iT
def C (k:Nat):Cn:=⟨[.val (.int .i64),.val .str,.val dc],[.bool],true,false,fun x=>f k x.1 x.2.1 x.2.2.1⟩
def D (k:Nat):List Ce:=[q (fF.ctr k),q (fR.ctr k)]
def E (k:Nat):cL:=en (D k) [] 0 [] k
theorem eq (k:Nat) (a0:Int) (a1:ByteArray) (a2:Ty.den dc):rn (E k) Tryz.f164 (C k) (a0,a1,a2,())=f k a0 a1 a2:=by kernel_rfl
theorem ctr (k:Nat):Cp 164 (C k):=rc rfl (D k) (by kernel_rfl) Tryz.func164 (by kernel_rfl) rfl fun ⟨a0,a1,a2,_⟩ r h=>(eq k a0 a1 a2).trans h
end iT
namespace ck
def C (k:Nat):Cn:=⟨[.io true b8,.val (.int .i64)],[g_,.bool],true,false,fun x=>f k x.1 x.2.1⟩
def D (k:Nat):List Ce:=[q (iR.ctr k),q (cQ.ctr k),q (b_.ctr k),q (di.ctr k),q (iT.ctr k)]
def E (k:Nat):cL:=en (D k) [] 1 [] k
theorem eq (k:Nat) (a0:Ty.den b8) (a1:Int):rn (E k) Tryz.f103 (C k) (a0,a1,())=f k a0 a1:=by kernel_rfl
theorem ctr (k:Nat):Cp 103 (C k):=rc rfl (D k) (by kernel_rfl) Tryz.func103 (by kernel_rfl) rfl fun ⟨a0,a1,_⟩ r h=>(eq k a0 a1).trans h
end ck
namespace fA
def C (k:Nat):Cn:=⟨[.val (.slice aA)],[(.slice aA)],true,false,fun x=>f k x.1⟩
def E (k:Nat):cL:=en [] [] 0 [] k
theorem eq (k:Nat) (a0:List (Ty.den aA)):rn (E k) Tryz.f58 (C k) (a0,())=f k a0:=by kernel_rfl
theorem ctr (k:Nat):Cp 58 (C k):=rc rfl [] (by kernel_rfl) Tryz.func58 (by kernel_rfl) rfl fun ⟨a0,_⟩ r h=>(eq k a0).trans h
end fA
namespace dQ
def C (k:Nat):Cn:=⟨[.val (.slice aA),.val .str],[(.slice aA)],true,false,fun x=>f k x.1 x.2.1⟩
def E (k:Nat):cL:=en [] [(3,[1,5,8,9,10])] 0 [] k
section
variable (k:Nat) (a0:List (Ty.den aA)) (a1:ByteArray)
def K0:Ex→St→Rs:=bv (E k) (eK (E k) Tryz.f201 (C k) (a0,a1,())) [.blk 0,.code (at_ (bt 3 7) (body Tryz.f201))]
def V0 (n0:Nat):T0:=fun x0 x1 x2 x3 x4=>ar (bY (E k) (at_ (bt 6 11) (body Tryz.f201))) (am 0 [1,5,8,9,10]) (K0 k a0 a1) n0 (mk 24 1 [(1,.str x0),(5,.ref 0),(8,.sl true aA x1),(9,.int .i64 x2),(10,.int .i64 x3)] [(0,.own false aA x4)])
theorem s0 (n0:Nat):V0 k a0 a1 (n0+1)=b0 k (V0 k a0 a1 n0):=by kernel_rfl
theorem e0:V0 k a0 a1=l0 k:=aW rfl (s0 k a0 a1) fun _=>rfl
end
theorem eq (k:Nat) (a0:List (Ty.den aA)) (a1:ByteArray):rn (E k) Tryz.f201 (C k) (a0,a1,())=f k a0 a1:=(show _=t k (V0 k a0 a1 k) a0 a1 by kernel_rfl).trans (by rw [e0];rfl)
theorem ctr (k:Nat):Cp 201 (C k):=rc rfl [] (by kernel_rfl) Tryz.func201 (by kernel_rfl) rfl fun ⟨a0,a1,_⟩ r h=>(eq k a0 a1).trans h
end dQ
namespace fG
def C (k:Nat):Cn:=⟨[.val (.slice aA),.val aA],[(.slice aA)],true,false,fun x=>f k x.1 x.2.1⟩
def D (k:Nat):List Ce:=[q (dQ.ctr k),q (fA.ctr k)]
def E (k:Nat):cL:=en (D k) [(3,[3,5,6])] 0 [] k
section
variable (k:Nat) (a0:List (Ty.den aA)) (a1:Ty.den aA)
def K0:Ex→St→Rs:=bv (E k) (eK (E k) Tryz.f202 (C k) (a0,a1,())) [.blk 0,.code (at_ (bt 4 15) (body Tryz.f202))]
def V0 (n0:Nat):T0:=fun x0 x1 x2 x3 x4 x5 x6=>ar (bY (E k) (at_ (bt 6 7) (body Tryz.f202))) (am 0 [3,5,6]) (K0 k a0 a1) n0 (mk 38 2 [(3,.ptr 0 0 0),(5,.ref 1),(6,.int .i64 x0)] [(0,.box [.str x1,.int .i64 x2,.int .i64 x3,.int .i64 x4,.int .i64 x5]),(1,.own false aA x6)])
theorem s0 (n0:Nat):V0 k a0 a1 (n0+1)=b0 k (V0 k a0 a1 n0):=by kernel_rfl
theorem e0:V0 k a0 a1=l0 k:=aW rfl (s0 k a0 a1) fun _=>rfl
end
theorem eq (k:Nat) (a0:List (Ty.den aA)) (a1:Ty.den aA):rn (E k) Tryz.f202 (C k) (a0,a1,())=f k a0 a1:=(show _=t k (V0 k a0 a1 k) a0 a1 by kernel_rfl).trans (by rw [e0];rfl)
theorem ctr (k:Nat):Cp 202 (C k):=rc rfl (D k) (by kernel_rfl) Tryz.func202 (by kernel_rfl) rfl fun ⟨a0,a1,_⟩ r h=>(eq k a0 a1).trans h
end fG
namespace cC
def C (k:Nat):Cn:=⟨[.io true g_,.val (.slice aC)],[],true,false,fun x=>f k x.1 x.2.1⟩
def D (k:Nat):List Ce:=[q (dQ.ctr k),q (fG.ctr k)]
def E (k:Nat):cL:=en (D k) [(1,[0,6,7,8])] 1 [] k
section
variable (k:Nat) (a0:Ty.den g_) (a1:List (Ty.den aC))
def K0:Ex→St→Rs:=bv (E k) (eK (E k) Tryz.f165 (C k) (a0,a1,())) [.blk 0,.code (at_ (bt 1 1) (body Tryz.f165))]
def V0 (n0:Nat):T0:=fun x0 x1 x2 x3 x4 x5=>ar (bY (E k) (at_ (bt 4 2) (body Tryz.f165))) (am 1 [0,6,7,8]) (K0 k a0 a1) n0 (mk 58 2 [(0,.ptr 0 0 0),(6,.sl true aC x0),(7,.int .i64 x1),(8,.int .i64 x2)] [(1,.own false aA x3),(0,.box [.ref 1,.int .i64 x4,.int .i64 x5])])
theorem s0 (n0:Nat):V0 k a0 a1 (n0+1)=b0 k (V0 k a0 a1 n0):=by kernel_rfl
theorem e0:V0 k a0 a1=l0 k:=aW rfl (s0 k a0 a1) fun _=>rfl
end
theorem eq (k:Nat) (a0:Ty.den g_) (a1:List (Ty.den aC)):rn (E k) Tryz.f165 (C k) (a0,a1,())=f k a0 a1:=(show _=t k (V0 k a0 a1 k) a0 a1 by kernel_rfl).trans (by rw [e0];rfl)
theorem ctr (k:Nat):Cp 165 (C k):=rc rfl (D k) (by kernel_rfl) Tryz.func165 (by kernel_rfl) rfl fun ⟨a0,a1,_⟩ r h=>(eq k a0 a1).trans h
end cC
namespace dM
def C (k:Nat):Cn:=⟨[.val g_,.val (.slice aC)],[g_],true,false,fun x=>f k x.1 x.2.1⟩
def D (k:Nat):List Ce:=[q (fA.ctr k),q (cS.ctr k),q (fg.ctr k),q (cC.ctr k)]
def E (k:Nat):cL:=en (D k) [(3,[1,4,5,17,18,19])] 0 [] k
section
variable (k:Nat) (a0:Ty.den g_) (a1:List (Ty.den aC))
def K0:Ex→St→Rs:=bv (E k) (eK (E k) Tryz.f104 (C k) (a0,a1,())) [.blk 0,.code (at_ (bt 3 7) (body Tryz.f104))]
def V0 (n0:Nat):T0:=fun x0 x1 x2 x3 x4 x5 x6 x7 x8 x9=>ar (bY (E k) (at_ (bt 6 11) (body Tryz.f104))) (am 0 [1,4,5,17,18,19]) (K0 k a0 a1) n0 (mk 77 4 [(1,.sl true aC x0),(4,.ptr 0 0 0),(5,.ptr 2 0 0),(17,.sl true aC x1),(18,.int .i64 x2),(19,.int .i64 x3)] [(1,.own false aA x4),(0,.box [.ref 1,.int .i64 x5,.int .i64 x6]),(3,.own false aA x7),(2,.box [.ref 3,.int .i64 x8,.int .i64 x9])])
theorem s0 (n0:Nat):V0 k a0 a1 (n0+1)=b0 k (V0 k a0 a1 n0):=by kernel_rfl
theorem e0:V0 k a0 a1=l0 k:=aW rfl (s0 k a0 a1) fun _=>rfl
end
theorem eq (k:Nat) (a0:Ty.den g_) (a1:List (Ty.den aC)):rn (E k) Tryz.f104 (C k) (a0,a1,())=f k a0 a1:=(show _=t k (V0 k a0 a1 k) a0 a1 by kernel_rfl).trans (by rw [e0];rfl)
theorem ctr (k:Nat):Cp 104 (C k):=rc rfl (D k) (by kernel_rfl) Tryz.func104 (by kernel_rfl) rfl fun ⟨a0,a1,_⟩ r h=>(eq k a0 a1).trans h
end dM
namespace eX
def C (k:Nat):Cn:=⟨[.io true a_,.val .str],[],true,false,fun x=>f k x.1 x.2.1⟩
def D (k:Nat):List Ce:=[q (bX.ctr k)]
def E (k:Nat):cL:=en (D k) [] 1 [] k
theorem eq (k:Nat) (a0:Ty.den a_) (a1:ByteArray):rn (E k) Tryz.f193 (C k) (a0,a1,())=f k a0 a1:=by kernel_rfl
theorem ctr (k:Nat):Cp 193 (C k):=rc rfl (D k) (by kernel_rfl) Tryz.func193 (by kernel_rfl) rfl fun ⟨a0,a1,_⟩ r h=>(eq k a0 a1).trans h
end eX
namespace fo
def C (k:Nat):Cn:=⟨[.io true a_,.io true .str],[(.int .i64)],true,false,fun x=>f k x.1 x.2.1⟩
def D (k:Nat):List Ce:=[q (bX.ctr k),q (eX.ctr k)]
def E (k:Nat):cL:=en (D k) [] 2 [] k
theorem eq (k:Nat) (a0:Ty.den a_) (a1:ByteArray):rn (E k) Tryz.f192 (C k) (a0,a1,())=f k a0 a1:=by kernel_rfl
theorem ctr (k:Nat):Cp 192 (C k):=rc rfl (D k) (by kernel_rfl) Tryz.func192 (by kernel_rfl) rfl fun ⟨a0,a1,_⟩ r h=>(eq k a0 a1).trans h
end fo
namespace fv
def C (k:Nat):Cn:=⟨[.val a_,.fn 192 1,.io true .str],[a_,(.int .i64)],true,false,fun x=>f k x.1 x.2.1⟩
def D (k:Nat):List Ce:=[q (c8.ctr k),q (bP.ctr k),q (fo.ctr k)]
def E (k:Nat):cL:=en (D k) [] 1 [] k
theorem eq (k:Nat) (a0:Ty.den a_) (a1:ByteArray):rn (E k) Tryz.f160 (C k) (a0,a1,())=f k a0 a1:=by kernel_rfl
theorem ctr (k:Nat):Cp 160 (C k):=rc rfl (D k) (by kernel_rfl) Tryz.func160 (by kernel_rfl) rfl fun ⟨a0,a1,_⟩ r h=>(eq k a0 a1).trans h
end fv
namespace jh
def C (k:Nat):Cn:=⟨[.val a_,.val .str],[a_,(.int .i64)],true,false,fun x=>f k x.1 x.2.1⟩
def D (k:Nat):List Ce:=[q (fv.ctr k)]
def E (k:Nat):cL:=en (D k) [] 0 [] k
theorem eq (k:Nat) (a0:Ty.den a_) (a1:ByteArray):rn (E k) Tryz.f132 (C k) (a0,a1,())=f k a0 a1:=by kernel_rfl
theorem ctr (k:Nat):Cp 132 (C k):=rc rfl (D k) (by kernel_rfl) Tryz.func132 (by kernel_rfl) rfl fun ⟨a0,a1,_⟩ r h=>(eq k a0 a1).trans h
end jh
namespace dt
def C (k:Nat):Cn:=⟨[.io true b8,.val .str],[],true,false,fun x=>f k x.1 x.2.1⟩
def D (k:Nat):List Ce:=[q (bX.ctr k),q (jh.ctr k),q (aw.ctr k)]
def E (k:Nat):cL:=en (D k) [] 1 [] k
theorem eq (k:Nat) (a0:Ty.den b8) (a1:ByteArray):rn (E k) Tryz.f71 (C k) (a0,a1,())=f k a0 a1:=by kernel_rfl
theorem ctr (k:Nat):Cp 71 (C k):=rc rfl (D k) (by kernel_rfl) Tryz.func71 (by kernel_rfl) rfl fun ⟨a0,a1,_⟩ r h=>(eq k a0 a1).trans h
end dt
namespace ae
def C (k:Nat):Cn:=⟨[.io true b8,.val bA],[],true,false,fun x=>f k x.1 x.2.1⟩
def D (k:Nat):List Ce:=[q (eJ.ctr k),q (dt.ctr k)]
def E (k:Nat):cL:=en (D k) [(2,[0,11,12,13])] 1 [] k
section
variable (k:Nat) (a0:Ty.den b8) (a1:Ty.den bA)
def K0:Ex→St→Rs:=bv (E k) (eK (E k) Tryz.f105 (C k) (a0,a1,())) [.blk 0]
def V0 (n0:Nat):T0:=fun x0 x1 x2 x3 x4 x5 x6 x7=>ar (bY (E k) (at_ (bt 4 3) (body Tryz.f105))) (am 1 [0,11,12,13]) (K0 k a0 a1) n0 (mk 21 3 [(0,.ptr 0 0 0),(11,.ref 2),(12,.int .i64 x0),(13,.int .i64 x1)] [(1,.own false aE x2),(0,.box [.ref 1,.int .i64 x3,.int .i64 x4,.bool x5,.int .i64 x6]),(2,.own false .str x7)])
theorem s0 (n0:Nat):V0 k a0 a1 (n0+1)=b0 k (V0 k a0 a1 n0):=by kernel_rfl
theorem e0:V0 k a0 a1=l0 k:=aW rfl (s0 k a0 a1) fun _=>rfl
end
theorem eq (k:Nat) (a0:Ty.den b8) (a1:Ty.den bA):rn (E k) Tryz.f105 (C k) (a0,a1,())=f k a0 a1:=(show _=t k (V0 k a0 a1 k) a0 a1 by kernel_rfl).trans (by rw [e0];rfl)
theorem ctr (k:Nat):Cp 105 (C k):=rc rfl (D k) (by kernel_rfl) Tryz.func105 (by kernel_rfl) rfl fun ⟨a0,a1,_⟩ r h=>(eq k a0 a1).trans h
end ae
namespace aR
def C (k:Nat):Cn:=⟨[.io true b8,.val .str],[aI],true,false,fun x=>f k x.1 x.2.1⟩
def D (k:Nat):List Ce:=[q (aq.ctr k),q (bN.ctr k),q (di.ctr k),q (cQ.ctr k),q (iW.ctr k),q (aw.ctr k),q (d6.ctr k),q (ck.ctr k),q (dM.ctr k),q (ae.ctr k)]
def E (k:Nat):cL:=en (D k) [(20,[0,4,5,13,14,16,103,104,105])] 1 [] k
section
variable (k:Nat) (a0:Ty.den b8) (a1:ByteArray)
def K0:Ex→St→Rs:=bv (E k) (eK (E k) Tryz.f40 (C k) (a0,a1,())) [.blk 0,.code (at_ (bt 13 8191) (body Tryz.f40))]
def V0 (n0:Nat):T0:=fun x0 x1 x2 x3 x4 x5 x6 x7 x8 x9 x10 x11 x12 x13 x14 x15 x16 x17 x18 x19 x20 x21 x22 x23 x24=>ar (bY (E k) (at_ (bt 16 12287) (body Tryz.f40))) (am 1 [0,4,5,13,14,16,103,104,105]) (K0 k a0 a1) n0 (mk 134 12 [(0,.ptr 0 0 0),(4,.ptr 2 0 0),(5,.ptr 5 0 0),(13,.ptr 7 0 0),(14,.ptr 9 0 0),(16,.ref 11),(103,.sl false (.slice aC) x0),(104,.int .i64 x1),(105,.int .i64 x2)] [(1,.own false aE x3),(0,.box [.ref 1,.int .i64 x4,.int .i64 x5,.bool x6,.int .i64 x7]),(3,.own false (.int .i64) x8),(4,.own false aA x9),(2,.box [.int .i64 x10,.ref 3,.ref 4,.int .i64 x11,.int .i64 x12,.int .i64 x13]),(6,.own false (.int .i64) x14),(5,.box [.int .i64 x15,.ref 6]),(8,.own false aA x16),(7,.box [.int .i64 x17,.ref 6,.ref 8,.int .i64 x18,.int .i64 x19,.int .i64 x20]),(10,.own false aA x21),(9,.box [.ref 10,.int .i64 x22,.int .i64 x23]),(11,.own false aC x24)])
def V1 (n0:Nat):T1:=fun x0 x1 x2 x3 x4 x5 x6 x7 x8 x9 x10 x11 x12 x13 x14 x15 x16 x17 x18 x19 x20 x21 x22 x23 x24=>ar (bY (E k) (at_ (bt 16 12287) (body Tryz.f40))) (am 1 [0,4,5,13,14,16,103,104,105]) (K0 k a0 a1) n0 (mk 134 13 [(0,.ptr 0 0 0),(4,.ptr 2 0 0),(5,.ptr 5 0 0),(13,.ptr 7 0 0),(14,.ptr 9 0 0),(16,.ref 11),(103,.ref 12),(104,.int .i64 x0),(105,.int .i64 x1)] [(1,.own false aE x2),(0,.box [.ref 1,.int .i64 x3,.int .i64 x4,.bool x5,.int .i64 x6]),(3,.own false (.int .i64) x7),(4,.own false aA x8),(2,.box [.int .i64 x9,.ref 3,.ref 4,.int .i64 x10,.int .i64 x11,.int .i64 x12]),(6,.own false (.int .i64) x13),(5,.box [.int .i64 x14,.ref 6]),(8,.own false aA x15),(7,.box [.int .i64 x16,.ref 6,.ref 8,.int .i64 x17,.int .i64 x18,.int .i64 x19]),(10,.own false aA x20),(9,.box [.ref 10,.int .i64 x21,.int .i64 x22]),(11,.own false aC x23),(12,.own false (.slice aC) x24)])
def V2 (n0:Nat):T2:=fun x0 x1 x2 x3 x4 x5 x6 x7 x8 x9 x10 x11 x12 x13 x14 x15 x16 x17 x18 x19 x20 x21 x22 x23 x24=>ar (bY (E k) (at_ (bt 16 12287) (body Tryz.f40))) (am 1 [0,4,5,13,14,16,103,104,105]) (K0 k a0 a1) n0 (mk 134 12 [(0,.ptr 0 0 0),(4,.ptr 2 0 0),(5,.ptr 5 0 0),(13,.ptr 7 0 0),(14,.ptr 9 0 0),(16,.ref 11),(103,.sl false (.slice aC) x0),(104,.int .i64 x1),(105,.int .i64 x2)] [(1,.own false aE x3),(0,.box [.ref 1,.int .i64 x4,.int .i64 x5,.bool x6,.int .i64 x7]),(3,.own false (.int .i64) x8),(4,.own false aA x9),(2,.box [.int .i64 x10,.ref 3,.ref 4,.int .i64 x11,.int .i64 x12,.int .i64 x13]),(6,.own false (.int .i64) x14),(5,.box [.int .i64 x15,.ref 6]),(8,.own false aA x16),(7,.box [.int .i64 x17,.ref 6,.ref 8,.int .i64 x18,.int .i64 x19,.int .i64 x20]),(10,.own false aA x21),(9,.box [.ref 10,.int .i64 x22,.int .i64 x23]),(11,.own false aC x24)])
def V3 (n0:Nat):T3:=fun x0 x1 x2 x3 x4 x5 x6 x7 x8 x9 x10 x11 x12 x13 x14 x15 x16 x17 x18 x19 x20 x21 x22 x23 x24=>ar (bY (E k) (at_ (bt 16 12287) (body Tryz.f40))) (am 1 [0,4,5,13,14,16,103,104,105]) (K0 k a0 a1) n0 (mk 134 13 [(0,.ptr 0 0 0),(4,.ptr 2 0 0),(5,.ptr 5 0 0),(13,.ptr 7 0 0),(14,.ptr 9 0 0),(16,.ref 11),(103,.ref 12),(104,.int .i64 x0),(105,.int .i64 x1)] [(1,.own false aE x2),(0,.box [.ref 1,.int .i64 x3,.int .i64 x4,.bool x5,.int .i64 x6]),(3,.own false (.int .i64) x7),(4,.own false aA x8),(2,.box [.int .i64 x9,.ref 3,.ref 4,.int .i64 x10,.int .i64 x11,.int .i64 x12]),(6,.own false (.int .i64) x13),(5,.box [.int .i64 x14,.ref 6]),(8,.own false aA x15),(7,.box [.int .i64 x16,.ref 6,.ref 8,.int .i64 x17,.int .i64 x18,.int .i64 x19]),(10,.own false aA x20),(9,.box [.ref 10,.int .i64 x21,.int .i64 x22]),(11,.own false aC x23),(12,.own false (.slice aC) x24)])
theorem s0 (n0:Nat):V0 k a0 a1 (n0+1)=b0 k (V0 k a0 a1 n0):=by kernel_rfl
theorem s1 (n0:Nat):V1 k a0 a1 (n0+1)=b1 k (V1 k a0 a1 n0):=by kernel_rfl
theorem s2 (n0:Nat):V2 k a0 a1 (n0+1)=b2 k (V2 k a0 a1 n0):=by kernel_rfl
theorem s3 (n0:Nat):V3 k a0 a1 (n0+1)=b3 k (V3 k a0 a1 n0):=by kernel_rfl
theorem e0:V0 k a0 a1=l0 k:=aW rfl (s0 k a0 a1) fun _=>rfl
theorem e1:V1 k a0 a1=l1 k:=aW rfl (s1 k a0 a1) fun _=>rfl
theorem e2:V2 k a0 a1=l2 k:=aW rfl (s2 k a0 a1) fun _=>rfl
theorem e3:V3 k a0 a1=l3 k:=aW rfl (s3 k a0 a1) fun _=>rfl
end
theorem eq (k:Nat) (a0:Ty.den b8) (a1:ByteArray):rn (E k) Tryz.f40 (C k) (a0,a1,())=f k a0 a1:=(show _=t k (V0 k a0 a1 k) (V1 k a0 a1 k) (V2 k a0 a1 k) (V3 k a0 a1 k) a0 a1 by kernel_rfl).trans (by rw [e0,e1,e2,e3];rfl)
theorem ctr (k:Nat):Cp 40 (C k):=rc rfl (D k) (by kernel_rfl) Tryz.func40 (by kernel_rfl) rfl fun ⟨a0,a1,_⟩ r h=>(eq k a0 a1).trans h
end aR
namespace d8
def C (k:Nat):Cn:=⟨[.io true a_,.val aE],[],true,false,fun x=>f k x.1 x.2.1⟩
def E (k:Nat):cL:=en [] [(2,[0,3,4])] 1 [] k
section
variable (k:Nat) (a0:Ty.den a_) (a1:Ty.den aE)
def K0:Ex→St→Rs:=bv (E k) (eK (E k) Tryz.f204 (C k) (a0,a1,())) [.blk 0,.code (at_ (bt 3 7) (body Tryz.f204))]
def V0 (n0:Nat):T0:=fun x0 x1 x2 x3 x4 x5 x6 x7=>ar (bY (E k) (at_ (bt 5 3) (body Tryz.f204))) (am 1 [0,3,4]) (K0 k a0 a1) n0 (mk 47 3 [(0,.ptr 0 0 0),(3,.ptr 2 0 0),(4,.int .i64 x0)] [(1,.own false aE x1),(0,.box [.ref 1,.int .i64 x2,.int .i64 x3,.bool x4]),(2,.box [.str x5,.str x6,.int .i64 x7])])
theorem s0 (n0:Nat):V0 k a0 a1 (n0+1)=b0 k (V0 k a0 a1 n0):=by kernel_rfl
theorem e0:V0 k a0 a1=l0 k:=aW rfl (s0 k a0 a1) fun _=>rfl
end
theorem eq (k:Nat) (a0:Ty.den a_) (a1:Ty.den aE):rn (E k) Tryz.f204 (C k) (a0,a1,())=f k a0 a1:=(show _=t k (V0 k a0 a1 k) a0 a1 by kernel_rfl).trans (by rw [e0];rfl)
theorem ctr (k:Nat):Cp 204 (C k):=rc rfl [] (by kernel_rfl) Tryz.func204 (by kernel_rfl) rfl fun ⟨a0,a1,_⟩ r h=>(eq k a0 a1).trans h
end d8
namespace fk
def C (k:Nat):Cn:=⟨[.io true a_,.io true .str],[(.int .i64)],true,false,fun x=>f k x.1 x.2.1⟩
def D (k:Nat):List Ce:=[q (eD.ctr k),q (bX.ctr k),q (d8.ctr k)]
def E (k:Nat):cL:=en (D k) [] 2 [] k
theorem eq (k:Nat) (a0:Ty.den a_) (a1:ByteArray):rn (E k) Tryz.f203 (C k) (a0,a1,())=f k a0 a1:=by kernel_rfl
theorem ctr (k:Nat):Cp 203 (C k):=rc rfl (D k) (by kernel_rfl) Tryz.func203 (by kernel_rfl) rfl fun ⟨a0,a1,_⟩ r h=>(eq k a0 a1).trans h
end fk
namespace g8
def C (k:Nat):Cn:=⟨[.val a_,.fn 203 1,.io true .str],[a_,(.int .i64)],true,false,fun x=>f k x.1 x.2.1⟩
def D (k:Nat):List Ce:=[q (c8.ctr k),q (bP.ctr k),q (fk.ctr k)]
def E (k:Nat):cL:=en (D k) [] 1 [] k
theorem eq (k:Nat) (a0:Ty.den a_) (a1:ByteArray):rn (E k) Tryz.f160 (C k) (a0,a1,())=f k a0 a1:=by kernel_rfl
theorem ctr (k:Nat):Cp 160 (C k):=rc rfl (D k) (by kernel_rfl) Tryz.func160 (by kernel_rfl) rfl fun ⟨a0,a1,_⟩ r h=>(eq k a0 a1).trans h
end g8
namespace jd
def C (k:Nat):Cn:=⟨[.val a_,.val .str],[a_,(.int .i64)],true,false,fun x=>f k x.1 x.2.1⟩
def D (k:Nat):List Ce:=[q (g8.ctr k)]
def E (k:Nat):cL:=en (D k) [] 0 [] k
theorem eq (k:Nat) (a0:Ty.den a_) (a1:ByteArray):rn (E k) Tryz.f166 (C k) (a0,a1,())=f k a0 a1:=by kernel_rfl
theorem ctr (k:Nat):Cp 166 (C k):=rc rfl (D k) (by kernel_rfl) Tryz.func166 (by kernel_rfl) rfl fun ⟨a0,a1,_⟩ r h=>(eq k a0 a1).trans h
end jd
namespace dF
def C (k:Nat):Cn:=⟨[.io true b8,.val .str],[],true,false,fun x=>f k x.1 x.2.1⟩
def D (k:Nat):List Ce:=[q (jd.ctr k),q (aw.ctr k)]
def E (k:Nat):cL:=en (D k) [] 1 [] k
theorem eq (k:Nat) (a0:Ty.den b8) (a1:ByteArray):rn (E k) Tryz.f106 (C k) (a0,a1,())=f k a0 a1:=by kernel_rfl
theorem ctr (k:Nat):Cp 106 (C k):=rc rfl (D k) (by kernel_rfl) Tryz.func106 (by kernel_rfl) rfl fun ⟨a0,a1,_⟩ r h=>(eq k a0 a1).trans h
end dF
namespace iQ
def C (k:Nat):Cn:=⟨[.val bA],[.str],true,false,fun x=>f k x.1⟩
def D (k:Nat):List Ce:=[q (dN.ctr k),q (dI.ctr k),q (jE.ctr k)]
def E (k:Nat):cL:=en (D k) [] 0 [] k
theorem eq (k:Nat) (a0:Ty.den bA):rn (E k) Tryz.f130 (C k) (a0,())=f k a0:=by kernel_rfl
theorem ctr (k:Nat):Cp 130 (C k):=rc rfl (D k) (by kernel_rfl) Tryz.func130 (by kernel_rfl) rfl fun ⟨a0,_⟩ r h=>(eq k a0).trans h
end iQ
namespace fc
def C (k:Nat):Cn:=⟨[.io true b8,.val .str],[],true,false,fun x=>f k x.1 x.2.1⟩
def D (k:Nat):List Ce:=[q (dt.ctr k),q (dF.ctr k)]
def E (k:Nat):cL:=en (D k) [] 1 [] k
theorem eq (k:Nat) (a0:Ty.den b8) (a1:ByteArray):rn (E k) Tryz.f124 (C k) (a0,a1,())=f k a0 a1:=by kernel_rfl
theorem ctr (k:Nat):Cp 124 (C k):=rc rfl (D k) (by kernel_rfl) Tryz.func124 (by kernel_rfl) rfl fun ⟨a0,a1,_⟩ r h=>(eq k a0 a1).trans h
end fc
namespace iX
def C (k:Nat):Cn:=⟨[.val a_],[(.int .i64)],true,false,fun x=>f k x.1⟩
def E (k:Nat):cL:=en [] [(3,[3,7,8,9])] 0 [] k
section
variable (k:Nat) (a0:Ty.den a_)
def K0:Ex→St→Rs:=bv (E k) (eK (E k) Tryz.f220 (C k) (a0,())) [.blk 0,.code (at_ (bt 3 7) (body Tryz.f220))]
def V0 (n0:Nat):T0:=fun x0 x1 x2 x3=>ar (bY (E k) (at_ (bt 6 11) (body Tryz.f220))) (am 0 [3,7,8,9]) (K0 k a0) n0 (mk 20 0 [(3,.int .i64 x0),(7,.sl true aE x1),(8,.int .i64 x2),(9,.int .i64 x3)] [])
theorem s0 (n0:Nat):V0 k a0 (n0+1)=b0 k (V0 k a0 n0):=by kernel_rfl
theorem e0:V0 k a0=l0 k:=aW rfl (s0 k a0) fun _=>rfl
end
theorem eq (k:Nat) (a0:Ty.den a_):rn (E k) Tryz.f220 (C k) (a0,())=f k a0:=(show _=t k (V0 k a0 k) a0 by kernel_rfl).trans (by rw [e0];rfl)
theorem ctr (k:Nat):Cp 220 (C k):=rc rfl [] (by kernel_rfl) Tryz.func220 (by kernel_rfl) rfl fun ⟨a0,_⟩ r h=>(eq k a0).trans h
end iX
namespace fi
def C (k:Nat):Cn:=⟨[.io true a_,.io true .str,.io true .str],[(.int .i64)],true,false,fun x=>f k x.1 x.2.1 x.2.2.1⟩
def D (k:Nat):List Ce:=[q (bX.ctr k),q (iX.ctr k)]
def E (k:Nat):cL:=en (D k) [] 3 [] k
theorem eq (k:Nat) (a0:Ty.den a_) (a1:ByteArray) (a2:ByteArray):rn (E k) Tryz.f219 (C k) (a0,a1,a2,())=f k a0 a1 a2:=by kernel_rfl
theorem ctr (k:Nat):Cp 219 (C k):=rc rfl (D k) (by kernel_rfl) Tryz.func219 (by kernel_rfl) rfl fun ⟨a0,a1,a2,_⟩ r h=>(eq k a0 a1 a2).trans h
end fi
namespace fw
def C (k:Nat):Cn:=⟨[.val a_,.fn 219 2,.io true .str,.io true .str],[a_,(.int .i64)],true,false,fun x=>f k x.1 x.2.1 x.2.2.1⟩
def D (k:Nat):List Ce:=[q (c8.ctr k),q (bP.ctr k),q (fi.ctr k)]
def E (k:Nat):cL:=en (D k) [] 2 [] k
theorem eq (k:Nat) (a0:Ty.den a_) (a1:ByteArray) (a2:ByteArray):rn (E k) Tryz.f160 (C k) (a0,a1,a2,())=f k a0 a1 a2:=by kernel_rfl
theorem ctr (k:Nat):Cp 160 (C k):=rc rfl (D k) (by kernel_rfl) Tryz.func160 (by kernel_rfl) rfl fun ⟨a0,a1,a2,_⟩ r h=>(eq k a0 a1 a2).trans h
end fw
namespace jf
def C (k:Nat):Cn:=⟨[.val a_,.val .str,.val .str],[a_,(.int .i64)],true,false,fun x=>f k x.1 x.2.1 x.2.2.1⟩
def D (k:Nat):List Ce:=[q (fw.ctr k)]
def E (k:Nat):cL:=en (D k) [] 0 [] k
theorem eq (k:Nat) (a0:Ty.den a_) (a1:ByteArray) (a2:ByteArray):rn (E k) Tryz.f189 (C k) (a0,a1,a2,())=f k a0 a1 a2:=by kernel_rfl
theorem ctr (k:Nat):Cp 189 (C k):=rc rfl (D k) (by kernel_rfl) Tryz.func189 (by kernel_rfl) rfl fun ⟨a0,a1,a2,_⟩ r h=>(eq k a0 a1 a2).trans h
end jf
namespace gK
def C (k:Nat):Cn:=⟨[.io true b8,.val .str,.val .str],[],true,false,fun x=>f k x.1 x.2.1 x.2.2.1⟩
def D (k:Nat):List Ce:=[q (jf.ctr k),q (aw.ctr k)]
def E (k:Nat):cL:=en (D k) [] 1 [] k
theorem eq (k:Nat) (a0:Ty.den b8) (a1:ByteArray) (a2:ByteArray):rn (E k) Tryz.f125 (C k) (a0,a1,a2,())=f k a0 a1 a2:=by kernel_rfl
theorem ctr (k:Nat):Cp 125 (C k):=rc rfl (D k) (by kernel_rfl) Tryz.func125 (by kernel_rfl) rfl fun ⟨a0,a1,a2,_⟩ r h=>(eq k a0 a1 a2).trans h
end gK
namespace eh
def C (k:Nat):Cn:=⟨[.io true b8,.val .str,.val .str],[],true,false,fun x=>f k x.1 x.2.1 x.2.2.1⟩
def D (k:Nat):List Ce:=[q (fc.ctr k),q (gK.ctr k),q (d6.ctr k)]
def E (k:Nat):cL:=en (D k) [] 1 [] k
theorem eq (k:Nat) (a0:Ty.den b8) (a1:ByteArray) (a2:ByteArray):rn (E k) Tryz.f128 (C k) (a0,a1,a2,())=f k a0 a1 a2:=by kernel_rfl
theorem ctr (k:Nat):Cp 128 (C k):=rc rfl (D k) (by kernel_rfl) Tryz.func128 (by kernel_rfl) rfl fun ⟨a0,a1,a2,_⟩ r h=>(eq k a0 a1 a2).trans h
end eh
namespace fj
def C (k:Nat):Cn:=⟨[.io true a_,.io true .str,.io true .str],[(.int .i64)],true,false,fun x=>f k x.1 x.2.1 x.2.2.1⟩
def D (k:Nat):List Ce:=[q (bX.ctr k),q (eD.ctr k),q (eX.ctr k),q (d8.ctr k)]
def E (k:Nat):cL:=en (D k) [] 3 [] k
theorem eq (k:Nat) (a0:Ty.den a_) (a1:ByteArray) (a2:ByteArray):rn (E k) Tryz.f221 (C k) (a0,a1,a2,())=f k a0 a1 a2:=by kernel_rfl
theorem ctr (k:Nat):Cp 221 (C k):=rc rfl (D k) (by kernel_rfl) Tryz.func221 (by kernel_rfl) rfl fun ⟨a0,a1,a2,_⟩ r h=>(eq k a0 a1 a2).trans h
end fj
namespace gA
def C (k:Nat):Cn:=⟨[.val a_,.fn 221 2,.io true .str,.io true .str],[a_,(.int .i64)],true,false,fun x=>f k x.1 x.2.1 x.2.2.1⟩
def D (k:Nat):List Ce:=[q (c8.ctr k),q (bP.ctr k),q (fj.ctr k)]
def E (k:Nat):cL:=en (D k) [] 2 [] k
theorem eq (k:Nat) (a0:Ty.den a_) (a1:ByteArray) (a2:ByteArray):rn (E k) Tryz.f160 (C k) (a0,a1,a2,())=f k a0 a1 a2:=by kernel_rfl
theorem ctr (k:Nat):Cp 160 (C k):=rc rfl (D k) (by kernel_rfl) Tryz.func160 (by kernel_rfl) rfl fun ⟨a0,a1,a2,_⟩ r h=>(eq k a0 a1 a2).trans h
end gA
namespace jg
def C (k:Nat):Cn:=⟨[.val a_,.val .str,.val .str],[a_,(.int .i64)],true,false,fun x=>f k x.1 x.2.1 x.2.2.1⟩
def D (k:Nat):List Ce:=[q (gA.ctr k)]
def E (k:Nat):cL:=en (D k) [] 0 [] k
theorem eq (k:Nat) (a0:Ty.den a_) (a1:ByteArray) (a2:ByteArray):rn (E k) Tryz.f191 (C k) (a0,a1,a2,())=f k a0 a1 a2:=by kernel_rfl
theorem ctr (k:Nat):Cp 191 (C k):=rc rfl (D k) (by kernel_rfl) Tryz.func191 (by kernel_rfl) rfl fun ⟨a0,a1,a2,_⟩ r h=>(eq k a0 a1 a2).trans h
end jg
namespace eg
def C (k:Nat):Cn:=⟨[.io true b8,.val .str,.val .str],[],true,false,fun x=>f k x.1 x.2.1 x.2.2.1⟩
def D (k:Nat):List Ce:=[q (jg.ctr k),q (aw.ctr k)]
def E (k:Nat):cL:=en (D k) [] 1 [] k
theorem eq (k:Nat) (a0:Ty.den b8) (a1:ByteArray) (a2:ByteArray):rn (E k) Tryz.f131 (C k) (a0,a1,a2,())=f k a0 a1 a2:=by kernel_rfl
theorem ctr (k:Nat):Cp 131 (C k):=rc rfl (D k) (by kernel_rfl) Tryz.func131 (by kernel_rfl) rfl fun ⟨a0,a1,a2,_⟩ r h=>(eq k a0 a1 a2).trans h
end eg
namespace eA
def C (k:Nat):Cn:=⟨[.io true b8,.val bA],[],true,false,fun x=>f k x.1 x.2.1⟩
def D (k:Nat):List Ce:=[q (iQ.ctr k),q (eh.ctr k),q (eg.ctr k)]
def E (k:Nat):cL:=en (D k) [] 1 [] k
theorem eq (k:Nat) (a0:Ty.den b8) (a1:Ty.den bA):rn (E k) Tryz.f68 (C k) (a0,a1,())=f k a0 a1:=by kernel_rfl
theorem ctr (k:Nat):Cp 68 (C k):=rc rfl (D k) (by kernel_rfl) Tryz.func68 (by kernel_rfl) rfl fun ⟨a0,a1,_⟩ r h=>(eq k a0 a1).trans h
end eA
namespace fI
def C (k:Nat):Cn:=⟨[.io true b8],[aI],true,false,fun x=>f k x.1⟩
def D (k:Nat):List Ce:=[q (ae.ctr k),q (di.ctr k),q (dF.ctr k),q (eA.ctr k)]
def E (k:Nat):cL:=en (D k) [] 1 [] k
theorem eq (k:Nat) (a0:Ty.den b8):rn (E k) Tryz.f41 (C k) (a0,())=f k a0:=by kernel_rfl
theorem ctr (k:Nat):Cp 41 (C k):=rc rfl (D k) (by kernel_rfl) Tryz.func41 (by kernel_rfl) rfl fun ⟨a0,_⟩ r h=>(eq k a0).trans h
end fI
namespace lU
def C (k:Nat):Cn:=⟨[.val a_],[aI,a_,(.int .i64)],true,false,fun x=>f k x.1⟩
def D (k:Nat):List Ce:=[q (c8.ctr k),q (bP.ctr k),q (cQ.ctr k),q (aR.ctr k),q (fI.ctr k)]
def E (k:Nat):cL:=en (D k) [] 0 [] k
theorem eq (k:Nat) (a0:Ty.den a_):rn (E k) Tryz.f14 (C k) (a0,())=f k a0:=by kernel_rfl
theorem ctr (k:Nat):Cp 14 (C k):=rc rfl (D k) (by kernel_rfl) Tryz.func14 (by kernel_rfl) rfl fun ⟨a0,_⟩ r h=>(eq k a0).trans h
end lU
namespace gB
def C (k:Nat):Cn:=⟨[.val (.slice aC)],[(.slice (.int .i64))],true,false,fun x=>f k x.1⟩
def D (k:Nat):List Ce:=[q (gj.ctr k),q (i6.ctr k)]
def E (k:Nat):cL:=en (D k) [(3,[0,3,4])] 0 [] k
section
variable (k:Nat) (a0:List (Ty.den aC))
def K0:Ex→St→Rs:=bv (E k) (eK (E k) Tryz.f47 (C k) (a0,())) [.blk 0,.code (at_ (bt 3 7) (body Tryz.f47))]
def V0 (n0:Nat):T0:=fun x0 x1 x2=>ar (bY (E k) (at_ (bt 6 11) (body Tryz.f47))) (am 0 [0,3,4]) (K0 k a0) n0 (mk 46 1 [(0,.sl true aC x0),(3,.ref 0),(4,.int .i64 x1)] [(0,.own false (.int .i64) x2)])
theorem s0 (n0:Nat):V0 k a0 (n0+1)=b0 k (V0 k a0 n0):=by kernel_rfl
theorem e0:V0 k a0=l0 k:=aW rfl (s0 k a0) fun _=>rfl
end
theorem eq (k:Nat) (a0:List (Ty.den aC)):rn (E k) Tryz.f47 (C k) (a0,())=f k a0:=(show _=t k (V0 k a0 k) a0 by kernel_rfl).trans (by rw [e0];rfl)
theorem ctr (k:Nat):Cp 47 (C k):=rc rfl (D k) (by kernel_rfl) Tryz.func47 (by kernel_rfl) rfl fun ⟨a0,_⟩ r h=>(eq k a0).trans h
end gB
namespace gR
def C (k:Nat):Cn:=⟨[.val (.slice (.int .i64)),.val (.int .i64)],[.bool],true,false,fun x=>f k x.1 x.2.1⟩
def E (k:Nat):cL:=en [] [(2,[0,1,5])] 0 [] k
section
variable (k:Nat) (a0:List Int) (a1:Int)
def K0:Ex→St→Rs:=bv (E k) (eK (E k) Tryz.f48 (C k) (a0,a1,())) [.blk 0,.code (at_ (bt 2 3) (body Tryz.f48))]
def V0 (n0:Nat):T0:=fun x0 x1 x2=>ar (bY (E k) (at_ (bt 5 5) (body Tryz.f48))) (am 0 [0,1,5]) (K0 k a0 a1) n0 (mk 18 0 [(0,.sl true (.int .i64) x0),(1,.int .i64 x1),(5,.int .i64 x2)] [])
theorem s0 (n0:Nat):V0 k a0 a1 (n0+1)=b0 k (V0 k a0 a1 n0):=by kernel_rfl
theorem e0:V0 k a0 a1=l0 k:=aW rfl (s0 k a0 a1) fun _=>rfl
end
theorem eq (k:Nat) (a0:List Int) (a1:Int):rn (E k) Tryz.f48 (C k) (a0,a1,())=f k a0 a1:=(show _=t k (V0 k a0 a1 k) a0 a1 by kernel_rfl).trans (by rw [e0];rfl)
theorem ctr (k:Nat):Cp 48 (C k):=rc rfl [] (by kernel_rfl) Tryz.func48 (by kernel_rfl) rfl fun ⟨a0,a1,_⟩ r h=>(eq k a0 a1).trans h
end gR
namespace er
def C (k:Nat):Cn:=⟨[.val a_],[rr],true,false,fun x=>f k x.1⟩
def D (k:Nat):List Ce:=[q (bI.ctr k),q (bQ.ctr k),q (bS.ctr k),q (aT.ctr k),q (bW.ctr k),q (bD.ctr k),q (gB.ctr k),q (gR.ctr k)]
def E (k:Nat):cL:=en (D k) [(8,[1,2,3,6,8,9]),(21,[2,3,8,14,15])] 0 [] k
section
variable (k:Nat) (a0:Ty.den a_)
def K0:Ex→St→Rs:=bv (E k) (eK (E k) Tryz.f16 (C k) (a0,())) [.blk 0,.code (at_ (bt 8 255) (body Tryz.f16))]
def K1:Ex→St→Rs:=bv (E k) (eK (E k) Tryz.f16 (C k) (a0,())) [.blk 2,.code (at_ (bt 11 2047) (body Tryz.f16))]
def V0 (n0:Nat):T0:=fun x0 x1 x2 x3 x4 x5 x6 x7 x8 x9 x10 x11 x12 x13 x14 x15 x16 x17 x18 x19 x20 x21=>ar (bY (E k) (at_ (bt 11 383) (body Tryz.f16))) (am 0 [1,2,3,6,8,9]) (K0 k a0) n0 (mk 126 6 [(1,.ptr 0 0 0),(2,.ptr 1 0 0),(3,.ptr 2 0 0),(6,.ptr 3 0 0),(8,.ref 5),(9,.int .i64 x0)] [(0,.box [.sl true aE x1,.int .i64 x2,.int .i64 x3,.bool x4]),(1,.box [.bool x5,.int .i64 x6,.int .i64 x7,.int .i64 x8,.int .i64 x9,.int .i64 x10,.int .i64 x11]),(2,.box [.bool x12,.int .i64 x13,.int .i64 x14,.int .i64 x15,.int .i64 x16,.int .i64 x17,.int .i64 x18]),(4,.own false (.int .i64) x19),(3,.box [.int .i64 x20,.ref 4]),(5,.own false aC x21)])
def V1 (n1:Nat):T1:=fun x0 x1 x2 x3 x4 x5 x6 x7 x8 x9 x10 x11 x12 x13 x14 x15 x16=>ar (bY (E k) (at_ (bt 14 3071) (body Tryz.f16))) (am 0 [2,3,8,14,15]) (K1 k a0) n1 (mk 126 4 [(2,.ptr 0 0 0),(3,.ptr 1 0 0),(8,.ref 2),(14,.ref 3),(15,.int .i64 x0)] [(0,.box [.bool x1,.int .i64 x2,.int .i64 x3,.int .i64 x4,.int .i64 x5,.int .i64 x6,.int .i64 x7]),(1,.box [.bool x8,.int .i64 x9,.int .i64 x10,.int .i64 x11,.int .i64 x12,.int .i64 x13,.int .i64 x14]),(2,.own false aC x15),(3,.own false (.int .i64) x16)])
theorem s0 (n0:Nat):V0 k a0 (n0+1)=b0 k (V1 k a0 k) (V0 k a0 n0):=by kernel_rfl
theorem s1 (n1:Nat):V1 k a0 (n1+1)=b1 k (V1 k a0 n1):=by kernel_rfl
theorem e1:V1 k a0=l1 k:=aW rfl (s1 k a0) fun _=>rfl
theorem e0 (n0:Nat):V0 k a0 n0=l0 k n0:=by
 induction n0 with
 | zero=>rfl
 | succ n0 ih =>
  have h:V0 k a0 (n0+1)=b0 k (V1 k a0 k) (V0 k a0 n0):=s0 k a0 n0
  rw [h,e1,ih]
  rfl
end
theorem eq (k:Nat) (a0:Ty.den a_):rn (E k) Tryz.f16 (C k) (a0,())=f k a0:=(show _=t k (V0 k a0 k) a0 by kernel_rfl).trans (by rw [e0];rfl)
theorem ctr (k:Nat):Cp 16 (C k):=rc rfl (D k) (by kernel_rfl) Tryz.func16 (by kernel_rfl) rfl fun ⟨a0,_⟩ r h=>(eq k a0).trans h
end er
namespace ea
def C (k:Nat):Cn:=⟨[.val (.slice (.int .u8))],[.bool],true,false,fun x=>f k x.1⟩
def D (k:Nat):List Ce:=[q (p6.ctr k),q (i8.ctr k),q (dV.ctr k),q (lU.ctr k),q (bI.ctr k),q (er.ctr k),q (bH.ctr k)]
def E (k:Nat):cL:=en (D k) [] 0 [(9,[4,6,7,9])] k
section
variable (k:Nat) (a0:List Int)
def K0:Ex→St→Rs:=bv (E k) (eK (E k) Tryz.f4 (C k) (a0,())) []
def V0 (n0:Nat):T0:=fun x0 x1 x2 x3 x4 x5 x6 x7 x8 x9 x10 x11 x12=>EM (bY (E k) (at_ (bt 7 127) (body Tryz.f4))) (K0 k a0) n0 (mk 113 3 [(4,.ptr 0 0 0),(6,.ptr 1 0 0),(7,.int .i64 x0),(9,.bool x1)] [(0,.box [.bool x2,.int .i64 x3,.int .i64 x4,.int .i64 x5,.int .i64 x6,.int .i64 x7,.int .i64 x8]),(2,.own false aE x9),(1,.box [.ref 2,.int .i64 x10,.int .i64 x11,.bool x12])])
theorem s0 (n0:Nat):V0 k a0 (n0+1)=b0 k:=by kernel_rfl
theorem e0 (n0:Nat):V0 k a0 n0=l0 k n0:=by
 induction n0 with
 | zero=>rfl
 | succ n0 ih =>
  have h:V0 k a0 (n0+1)=b0 k:=s0 k a0 n0
  rw [h]
  rfl
end
theorem eq (k:Nat) (a0:List Int):rn (E k) Tryz.f4 (C k) (a0,())=f k a0:=(show _=t k (V0 k a0 k) a0 by kernel_rfl).trans (by rw [e0];rfl)
theorem ctr (k:Nat):Cp 4 (C k):=rc rfl (D k) (by kernel_rfl) Tryz.func4 (by kernel_rfl) rfl fun ⟨a0,_⟩ r h=>(eq k a0).trans h
end ea
end
end Go.Proofs.YtohaanhjddohmaaGreatDoor.G

/- Functions, as V runs them. -/
import Derived.Test.YtohaanhjddohmaaGreatDoorVWords
import Derived.Test.YtohaanhjddohmaaGreatDoorXLib
set_option linter.unusedVariables false
namespace Go.Proofs.YtohaanhjddohmaaGreatDoor.G
open Go.V
abbrev aF:Ty := .pair .str (.pair .str (.pair (.int .i64) .unit))
abbrev a_:Ty := .pair (.slice aF) (.pair (.int .i64) (.pair (.int .i64) (.pair .bool .unit)))
abbrev aB:Ty := .pair .str (.pair (.int .i64) (.pair (.int .i64) (.pair (.int .i64) (.pair (.int .i64) .unit))))
abbrev kO:Ty := .pair (.slice aB) (.pair (.int .i64) (.pair (.int .i64) .unit))
abbrev eh:Ty := .pair (.int .i64) (.pair (.int .i64) (.pair (.slice aB) .unit))
abbrev bE:Ty := .pair (.int .i64) (.pair (.slice (.int .i64)) .unit)
abbrev ax:Ty := .pair (.int .i64) (.pair (.int .i64) (.pair .str (.pair .str (.pair (.int .i64) (.pair (.int .i64) .unit)))))
abbrev aD:Ty := .pair (.int .i64) (.pair (.int .i64) (.pair (.int .i64) (.pair ax .unit)))
abbrev g8:Ty := .pair .str (.pair .bool (.pair .str .unit))
abbrev v_:Ty := .pair .bool (.pair (.int .i64) (.pair (.int .i64) (.pair (.int .i64) (.pair (.int .i64) (.pair (.int .i64) (.pair (.int .i64) .unit))))))
abbrev b9:Ty := .pair (.int .i64) (.pair (.int .i64) (.pair ax .unit))
abbrev aE:Ty := .pair bE (.pair (.slice aB) (.pair (.int .i64) (.pair (.int .i64) (.pair (.int .i64) .unit))))
abbrev b8:Ty := .pair (.slice (.int .u8)) (.pair (.int .i64) (.pair (.int .i64) .unit))
abbrev jP:Ty := .pair .str (.pair .bool .unit)
abbrev az:Ty := .pair a_ (.pair (.int .i64) .unit)
abbrev bp:Ty:=aF
namespace oN
abbrev Rs:Type:=Option (Bool × Unit)
def t (k:Nat) (a0:List Int):Rs :=
 (some ((decide ((List.length a0:Int) > 1048576)),()))
def f (k:Nat):=t k
end oN
namespace fu
abbrev Rs:Type:=Option (Unit × (Ty.den b8) × Unit)
abbrev T0:Type:=List Int→Int→Int→Rs
def b0 (k:Nat) (L0:T0):T0:=fun x0 x1 x2 =>
 (bif (decide (x2<(x0.length:Int))) then
 (bif (decide (x2<4000)) then
 (bi x2 (x0.length:Int)
 (L0 x0 (aH (((BitVec.ofInt (IntKind.bits .i64) (aH ((aH ((aH (x1*131))+(aH (List.getD x0 (Int.toNat x2) (Ty.dflt (.int .u8))))))+7)) &&& BitVec.ofInt (IntKind.bits .i64) 1073741823).toNat:Int))) (aH (x2+1))))
 else
 (some ((),((x0,(0,(x1,()))),()))))
 else
 (some ((),((x0,(0,(x1,()))),()))))
def l0 (k:Nat):Nat→T0
 | 0=>fun _ _ _=>none
 | n+1=>b0 k (l0 k n)
def t (k:Nat) (L0:T0) (a0:List Int):Rs :=
 (L0 a0 (aH (10101+(List.length a0:Int))) 0)
def f (k:Nat):=t k (l0 k k)
end fu
namespace eX
abbrev Rs:Type:=Option ((Ty.den b8) × Int × Unit)
def t (k:Nat) (a0:Ty.den b8):Rs :=
 (bif (decide (a0.2.1<(List.length a0.1:Int))) then
 (bi a0.2.1 (List.length a0.1:Int)
 (some ((a0.1,((aH (a0.2.1+1)),((aH ((aH (a0.2.2.1*6364136223846793005))+1442695040888963407)),()))),((aH (((BitVec.ofInt (IntKind.bits .i64) (aH ((aH (((BitVec.ofInt (IntKind.bits .i64) (aH (((BitVec.ofInt (IntKind.bits .i64) (Int.fdiv (aH ((aH (a0.2.2.1*6364136223846793005))+1442695040888963407)) (2 ^ (Int.toNat 33))) ^^^ BitVec.ofInt (IntKind.bits .i64) (Int.fdiv (aH ((aH (a0.2.2.1*6364136223846793005))+1442695040888963407)) (2 ^ (Int.toNat 45)))).toNat:Int))) &&& BitVec.ofInt (IntKind.bits .i64) 255).toNat:Int)))+(aH (List.getD a0.1 (Int.toNat a0.2.1) (Ty.dflt (.int .u8)))))) &&& BitVec.ofInt (IntKind.bits .i64) 255).toNat:Int))),()))))
 else
 (some ((a0.1,(a0.2.1,((aH ((aH (a0.2.2.1*6364136223846793005))+1442695040888963407)),()))),((aH (((BitVec.ofInt (IntKind.bits .i64) (aH (((BitVec.ofInt (IntKind.bits .i64) (Int.fdiv (aH ((aH (a0.2.2.1*6364136223846793005))+1442695040888963407)) (2 ^ (Int.toNat 33))) ^^^ BitVec.ofInt (IntKind.bits .i64) (Int.fdiv (aH ((aH (a0.2.2.1*6364136223846793005))+1442695040888963407)) (2 ^ (Int.toNat 45)))).toNat:Int))) &&& BitVec.ofInt (IntKind.bits .i64) 255).toNat:Int))),()))))
def f (k:Nat):=t k
end eX
namespace aW
abbrev Rs:Type:=Option ((Ty.den b8) × Int × Unit)
def t (k:Nat) (a0:Ty.den b8) (a1:Int):Rs :=
 (bif (decide (a1≤0)) then
 (some (a0,(0,())))
 else
 (bif (decide (a1≤256)) then
 ((eX.f k a0).bind fun r1 =>
 (bif (decide (a1=0)) then none else
 (some (r1.1,((Int.tmod r1.2.1 a1),())))))
 else
 ((eX.f k a0).bind fun r2 =>
 ((eX.f k r2.1).bind fun r3 =>
 ((eX.f k r3.1).bind fun r4 =>
 ((eX.f k r4.1).bind fun r5 =>
 (bif (decide (a1=0)) then none else
 (some (r5.1,((Int.tmod (aH ((aH ((aH ((aH (r2.2.1*16777216))+(aH (r3.2.1*65536))))+(aH (r4.2.1*256))))+r5.2.1)) a1),()))))))))))
def f (k:Nat):=t k
end aW
namespace cO
abbrev Rs:Type:=Option ((Ty.den b8) × Int × Unit)
def t (k:Nat) (a0:Ty.den b8) (a1:List Int):Rs :=
 ((aW.f k a0 (List.length a1:Int)).bind fun r1 =>
 (bi r1.2.1 (List.length a1:Int)
 (some (r1.1,((List.getD a1 (Int.toNat r1.2.1) (Ty.dflt (.int .i64))),())))))
def f (k:Nat):=t k
end cO
namespace aR
abbrev Rs:Type:=Option (Bool × Unit)
def t (k:Nat) (a0:Int) (a1:Int) (a2:Int):Rs :=
 (bif (decide (a0≥a1)) then
 (some ((decide (a0≤a2)),()))
 else
 (some (false,())))
def f (k:Nat):=t k
end aR
namespace er
abbrev Rs:Type:=Option ((Ty.den a_) × Unit)
def t (k:Nat) (a0:Int):Rs :=
 ((aR.f k a0 0 100000).bind fun r1 =>
 (bif (!r1.1) then
 (some (([],(0,(0,(false,())))),()))
 else
 (some (([],(a0,((-1),(false,())))),()))))
def f (k:Nat):=t k
end er
namespace dP
abbrev Rs:Type:=Option (Int × Unit)
abbrev T0:Type:=Int→Int→List (Ty.den aF)→Int→Int→Bool→Rs
def b0 (k:Nat) (L0:T0):T0:=fun x0 x1 x2 x3 x4 x5 =>
 (bif (decide (x1<(x2.length:Int))) then
 (bi x1 (x2.length:Int)
 (L0 (aH (x0+(ByteArray.size (List.getD x2 (Int.toNat x1) (Ty.dflt aF)).2.1:Int))) (aH (x1+1)) x2 x3 x4 x5))
 else
 (some (x0,())))
def l0 (k:Nat):Nat→T0
 | 0=>fun _ _ _ _ _ _=>none
 | n+1=>b0 k (l0 k n)
def t (k:Nat) (L0:T0) (a0:Ty.den a_):Rs :=
 (L0 0 0 a0.1 a0.2.1 a0.2.2.1 a0.2.2.2.1)
def f (k:Nat):=t k (l0 k k)
end dP
namespace dq
abbrev Rs:Type:=Option (Bool × Unit)
abbrev T0:Type:=ByteArray→Int→Rs
def b0 (k:Nat) (L0:T0):T0:=fun x0 x1 =>
 (bif (decide (x1<(ByteArray.size x0:Int))) then
 (bi x1 (ByteArray.size x0:Int)
 (bif (decide ((dr x0 x1)≥97)) then
 (bi x1 (ByteArray.size x0:Int)
 (bif (decide ((dr x0 x1)≤122)) then
 (L0 x0 (aH (x1+1)))
 else
 (bi x1 (ByteArray.size x0:Int)
 (bif (decide ((dr x0 x1)≥48)) then
 (bi x1 (ByteArray.size x0:Int)
 (bif (!(decide ((dr x0 x1)≤57))) then
 (some (false,()))
 else
 (L0 x0 (aH (x1+1)))))
 else
 (some (false,()))))))
 else
 (bi x1 (ByteArray.size x0:Int)
 (bif (decide ((dr x0 x1)≥48)) then
 (bi x1 (ByteArray.size x0:Int)
 (bif (!(decide ((dr x0 x1)≤57))) then
 (some (false,()))
 else
 (L0 x0 (aH (x1+1)))))
 else
 (some (false,()))))))
 else
 ((aR.f k (ByteArray.size x0:Int) 1 12).bind fun r1 =>
 (some r1)))
def l0 (k:Nat):Nat→T0
 | 0=>fun _ _=>none
 | n+1=>b0 k (l0 k n)
def t (k:Nat) (L0:T0) (a0:ByteArray):Rs :=
 (L0 a0 0)
def f (k:Nat):=t k (l0 k k)
end dq
namespace bd
abbrev Rs:Type:=Option (Bool × Unit)
abbrev T0:Type:=Int→List (Ty.den aF)→Int→Int→Bool→Rs
def b0 (k:Nat) (L0:T0):T0:=fun x0 x1 x2 x3 x4 =>
 (bif (decide (x0<(x1.length:Int))) then
 (bi x0 (x1.length:Int)
 ((dq.f k (List.getD x1 (Int.toNat x0) (Ty.dflt aF)).1).bind fun r4 =>
 (bif (!r4.1) then
 (some (false,()))
 else
 (bi x0 (x1.length:Int)
 (bi x0 (x1.length:Int)
 ((aR.f k (List.getD x1 (Int.toNat x0) (Ty.dflt aF)).2.2.1 0 (ByteArray.size (List.getD x1 (Int.toNat x0) (Ty.dflt aF)).2.1:Int)).bind fun r5 =>
 (bif (!r5.1) then
 (some (false,()))
 else
 (bif (decide (x0 > 0)) then
 (bi x0 (x1.length:Int)
 (bi (aH (x0-1)) (x1.length:Int)
 (bif ((mN (List.getD x1 (Int.toNat x0) (Ty.dflt aF)).1 (List.getD x1 (Int.toNat (aH (x0-1))) (Ty.dflt aF)).1)||(seq (List.getD x1 (Int.toNat x0) (Ty.dflt aF)).1 (List.getD x1 (Int.toNat (aH (x0-1))) (Ty.dflt aF)).1)) then
 (some (false,()))
 else
 (L0 (aH (x0+1)) x1 x2 x3 x4))))
 else
 (L0 (aH (x0+1)) x1 x2 x3 x4)))))))))
 else
 (some (true,())))
def l0 (k:Nat):Nat→T0
 | 0=>fun _ _ _ _ _=>none
 | n+1=>b0 k (l0 k n)
def t (k:Nat) (L0:T0) (a0:Ty.den a_):Rs :=
 (bif (decide ((List.length a0.1:Int) > 130)) then
 (some (false,()))
 else
 ((aR.f k a0.2.1 0 100000).bind fun r1 =>
 (bif (!r1.1) then
 (some (false,()))
 else
 ((aR.f k a0.2.2.1 (-1) 100000).bind fun r2 =>
 (bif (!r2.1) then
 (some (false,()))
 else
 ((dP.f k a0).bind fun r3 =>
 (bif (decide (r3.1 > a0.2.1)) then
 (some (false,()))
 else
 (L0 0 a0.1 a0.2.1 a0.2.2.1 a0.2.2.2.1))))))))
def f (k:Nat):=t k (l0 k k)
end bd
namespace cL
abbrev Rs:Type:=Option ((Ty.den a_) × Unit)
def t (k:Nat) (a0:Ty.den a_):Rs :=
 (rm (Ty.bytes aF) (0+List.length a0.1)
 (some ((([]++a0.1),a0.2),())))
def f (k:Nat):=t k
end cL
namespace bA
abbrev Rs:Type:=Option (Int × Unit)
abbrev T0:Type:=ByteArray→Int→List (Ty.den aF)→Int→Int→Bool→Rs
def b0 (k:Nat) (L0:T0):T0:=fun x0 x1 x2 x3 x4 x5 =>
 (bif (decide (x1<(x2.length:Int))) then
 (bi x1 (x2.length:Int)
 (bif (seq (List.getD x2 (Int.toNat x1) (Ty.dflt aF)).1 x0) then
 (some (x1,()))
 else
 (L0 x0 (aH (x1+1)) x2 x3 x4 x5)))
 else
 (some ((-1),())))
def l0 (k:Nat):Nat→T0
 | 0=>fun _ _ _ _ _ _=>none
 | n+1=>b0 k (l0 k n)
def t (k:Nat) (L0:T0) (a0:Ty.den a_) (a1:ByteArray):Rs :=
 (L0 a1 0 a0.1 a0.2.1 a0.2.2.1 a0.2.2.2.1)
def f (k:Nat):=t k (l0 k k)
end bA
namespace bF
abbrev Rs:Type:=Option (ByteArray × Bool × Unit)
def t (k:Nat) (a0:Ty.den a_) (a1:ByteArray):Rs :=
 ((bd.f k a0).bind fun r1 =>
 (bif (!r1.1) then
 (some ((⟨#[]⟩:ByteArray),(false,())))
 else
 ((bA.f k a0 a1).bind fun r2 =>
 (bif (decide (r2.1<0)) then
 (some ((⟨#[]⟩:ByteArray),(false,())))
 else
 (bi r2.1 (List.length a0.1:Int)
 (some ((List.getD a0.1 (Int.toNat r2.1) (Ty.dflt aF)).2.1,(true,()))))))))
def f (k:Nat):=t k
end bF
namespace dO
abbrev Rs:Type:=Option (ByteArray × Unit)
abbrev T0:Type:=Int→ByteArray→Bool→Rs
def b0 (k:Nat) (L0:T0):T0:=fun x0 x1 x2 =>
 (bif (x0 != 0) then
 (bif (decide ((Int.tmod x0 10)<0)) then
 (k_ (bytesOf [(IntKind.wrap .u8 (aH (48+(aH (0-(Int.tmod x0 10))))))]) x1
 (L0 (aH (Int.tdiv x0 10)) ((bytesOf [(IntKind.wrap .u8 (aH (48+(aH (0-(Int.tmod x0 10))))))])++x1) x2))
 else
 (k_ (bytesOf [(IntKind.wrap .u8 (aH (48+(Int.tmod x0 10))))]) x1
 (L0 (aH (Int.tdiv x0 10)) ((bytesOf [(IntKind.wrap .u8 (aH (48+(Int.tmod x0 10))))])++x1) x2)))
 else
 (bif x2 then
 (k_ (⟨#[45]⟩:ByteArray) x1
 (some (((⟨#[45]⟩:ByteArray)++x1),())))
 else
 (some (x1,()))))
def l0 (k:Nat):Nat→T0
 | 0=>fun _ _ _=>none
 | n+1=>b0 k (l0 k n)
def t (k:Nat) (L0:T0) (a0:Int):Rs :=
 (bif (a0==0) then
 (some ((⟨#[48]⟩:ByteArray),()))
 else
 (L0 a0 (⟨#[]⟩:ByteArray) (decide (a0<0))))
def f (k:Nat):=t k (l0 k k)
end dO
namespace eO
abbrev Rs:Type:=Option (Int × Bool × Unit)
abbrev T0:Type:=ByteArray→Int→Int→Int→Rs
def b0 (k:Nat) (L0:T0):T0:=fun x0 x1 x2 x3 =>
 (bif (decide (x3<(ByteArray.size x0:Int))) then
 (bif (decide (x3<11)) then
 (bi x3 (ByteArray.size x0:Int)
 (bif (decide ((dr x0 x3)≥48)) then
 (bi x3 (ByteArray.size x0:Int)
 (bif (decide ((dr x0 x3)≤57)) then
 (bi x3 (ByteArray.size x0:Int)
 (L0 x0 (aH ((aH (x1*10))+(aH (IntKind.wrap .u8 ((dr x0 x3)-48))))) (aH (x2+1)) (aH (x3+1))))
 else
 (L0 x0 x1 x2 (aH (x3+1)))))
 else
 (L0 x0 x1 x2 (aH (x3+1)))))
 else
 (bif (decide ((ByteArray.size x0:Int) > 0)) then
 (bi 0 (ByteArray.size x0:Int)
 (bif ((dr x0 0)==45) then
 (bif (decide (x2 > 9)) then
 (some (0,(false,())))
 else
 (bif (decide ((ByteArray.size x0:Int) > 10)) then
 (some (0,(false,())))
 else
 ((dO.f k (aH (0-x1))).bind fun r1 =>
 (bif (!(seq r1.1 x0)) then
 (some (0,(false,())))
 else
 (some ((aH (0-x1)),(true,())))))))
 else
 (bif (decide (x2 > 9)) then
 (some (0,(false,())))
 else
 (bif (decide ((ByteArray.size x0:Int) > 10)) then
 (some (0,(false,())))
 else
 ((dO.f k x1).bind fun r2 =>
 (bif (!(seq r2.1 x0)) then
 (some (0,(false,())))
 else
 (some (x1,(true,())))))))))
 else
 (bif (decide (x2 > 9)) then
 (some (0,(false,())))
 else
 (bif (decide ((ByteArray.size x0:Int) > 10)) then
 (some (0,(false,())))
 else
 ((dO.f k x1).bind fun r3 =>
 (bif (!(seq r3.1 x0)) then
 (some (0,(false,())))
 else
 (some (x1,(true,())))))))))
 else
 (bif (decide ((ByteArray.size x0:Int) > 0)) then
 (bi 0 (ByteArray.size x0:Int)
 (bif ((dr x0 0)==45) then
 (bif (decide (x2 > 9)) then
 (some (0,(false,())))
 else
 (bif (decide ((ByteArray.size x0:Int) > 10)) then
 (some (0,(false,())))
 else
 ((dO.f k (aH (0-x1))).bind fun r4 =>
 (bif (!(seq r4.1 x0)) then
 (some (0,(false,())))
 else
 (some ((aH (0-x1)),(true,())))))))
 else
 (bif (decide (x2 > 9)) then
 (some (0,(false,())))
 else
 (bif (decide ((ByteArray.size x0:Int) > 10)) then
 (some (0,(false,())))
 else
 ((dO.f k x1).bind fun r5 =>
 (bif (!(seq r5.1 x0)) then
 (some (0,(false,())))
 else
 (some (x1,(true,())))))))))
 else
 (bif (decide (x2 > 9)) then
 (some (0,(false,())))
 else
 (bif (decide ((ByteArray.size x0:Int) > 10)) then
 (some (0,(false,())))
 else
 ((dO.f k x1).bind fun r6 =>
 (bif (!(seq r6.1 x0)) then
 (some (0,(false,())))
 else
 (some (x1,(true,())))))))))
def l0 (k:Nat):Nat→T0
 | 0=>fun _ _ _ _=>none
 | n+1=>b0 k (l0 k n)
def t (k:Nat) (L0:T0) (a0:ByteArray):Rs :=
 (L0 a0 0 0 0)
def f (k:Nat):=t k (l0 k k)
end eO
namespace aQ
abbrev Rs:Type:=Option (ByteArray × Unit)
def t (k:Nat) (a0:Int):Rs :=
 ((aR.f k a0 1 100000).bind fun r1 =>
 (bif (!r1.1) then
 (some ((⟨#[]⟩:ByteArray),()))
 else
 ((dO.f k a0).bind fun r2 =>
 (k_ (⟨#[115,101,103]⟩:ByteArray) r2.1
 (some (((⟨#[115,101,103]⟩:ByteArray)++r2.1),()))))))
def f (k:Nat):=t k
end aQ
namespace cZ
abbrev Rs:Type:=Option (ByteArray × Unit)
def t (k:Nat) (a0:Int):Rs :=
 ((aR.f k a0 1 100000).bind fun r1 =>
 (bif (!r1.1) then
 (some ((⟨#[]⟩:ByteArray),()))
 else
 ((dO.f k a0).bind fun r2 =>
 (k_ (⟨#[104,105,110,116]⟩:ByteArray) r2.1
 (some (((⟨#[104,105,110,116]⟩:ByteArray)++r2.1),()))))))
def f (k:Nat):=t k
end cZ
namespace gl
abbrev Rs:Type:=Option (Int × Bool × Unit)
abbrev T0:Type:=ByteArray→Int→Rs
def b0 (k:Nat) (L0:T0):T0:=fun x0 x1 =>
 (bif (decide (x1≤4)) then
 (bif (decide ((ByteArray.size x0:Int) > x1)) then
 (pV x1 (ByteArray.size x0:Int)
 ((eO.f k (ByteArray.extract x0 (Int.toNat x1) (ByteArray.size x0))).bind fun r1 =>
 (bif r1.2.1 then
 (bif (decide (r1.1≥1)) then
 ((aQ.f k r1.1).bind fun r2 =>
 (bif (seq r2.1 x0) then
 (some (r1.1,(true,())))
 else
 ((cZ.f k r1.1).bind fun r3 =>
 (bif (seq r3.1 x0) then
 (some (r1.1,(true,())))
 else
 (L0 x0 (aH (x1+1)))))))
 else
 (L0 x0 (aH (x1+1))))
 else
 (L0 x0 (aH (x1+1))))))
 else
 (L0 x0 (aH (x1+1))))
 else
 (some (0,(false,()))))
def l0 (k:Nat):Nat→T0
 | 0=>fun _ _=>none
 | n+1=>b0 k (l0 k n)
def t (k:Nat) (L0:T0) (a0:ByteArray):Rs :=
 (L0 a0 3)
def f (k:Nat):=t k (l0 k k)
end gl
namespace bK
abbrev Rs:Type:=Option ((List ByteArray) × Unit)
abbrev T1:Type:=Int→Int→Bool→Bool→Int→List (Ty.den aF)→Int→Int→Bool→Int→List Int→List ByteArray→Rs
abbrev T0:Type:=Int→List (Ty.den aF)→Int→Int→Bool→Int→List Int→List ByteArray→Rs
def b1 (k:Nat) (L0:T0) (L1:T1):T1:=fun x0 x1 x2 x3 x4 x5 x6 x7 x8 x9 x10 x11 =>
 (bif (decide (x4<(x10.length:Int))) then
 (bif x3 then
 (L1 x0 x1 x2 true (aH (x4+1)) x5 x6 x7 x8 x9 x10 x11)
 else
 (bi x4 (x10.length:Int)
 (L1 x0 x1 x2 ((List.getD x10 (Int.toNat x4) (Ty.dflt (.int .i64)))==x1) (aH (x4+1)) x5 x6 x7 x8 x9 x10 x11)))
 else
 (bif x2 then
 (bif (!x3) then
 (bi x0 (x5.length:Int)
 (rm (Ty.bytes .str) (List.length x11+1)
 (L0 (aH (x0+1)) x5 x6 x7 x8 x9 x10 (x11++[(List.getD x5 (Int.toNat x0) (Ty.dflt aF)).1]))))
 else
 (bi x0 (x5.length:Int)
 (bif (seq (List.getD x5 (Int.toNat x0) (Ty.dflt aF)).1 (⟨#[116,101,109,112]⟩:ByteArray)) then
 (bi x0 (x5.length:Int)
 (rm (Ty.bytes .str) (List.length x11+1)
 (L0 (aH (x0+1)) x5 x6 x7 x8 x9 x10 (x11++[(List.getD x5 (Int.toNat x0) (Ty.dflt aF)).1]))))
 else
 (L0 (aH (x0+1)) x5 x6 x7 x8 x9 x10 x11))))
 else
 (bi x0 (x5.length:Int)
 (bif (seq (List.getD x5 (Int.toNat x0) (Ty.dflt aF)).1 (⟨#[116,101,109,112]⟩:ByteArray)) then
 (bi x0 (x5.length:Int)
 (rm (Ty.bytes .str) (List.length x11+1)
 (L0 (aH (x0+1)) x5 x6 x7 x8 x9 x10 (x11++[(List.getD x5 (Int.toNat x0) (Ty.dflt aF)).1]))))
 else
 (L0 (aH (x0+1)) x5 x6 x7 x8 x9 x10 x11)))))
def l1 (k:Nat) (L0:T0):Nat→T1
 | 0=>fun _ _ _ _ _ _ _ _ _ _ _ _=>none
 | n+1=>b1 k L0 (l1 k L0 n)
def b0 (k:Nat) (L1:T1) (L0:T0):T0:=fun x0 x1 x2 x3 x4 x5 x6 x7 =>
 (bif (decide (x0<(x1.length:Int))) then
 (bi x0 (x1.length:Int)
 ((gl.f k (List.getD x1 (Int.toNat x0) (Ty.dflt aF)).1).bind fun r2 =>
 (L1 x0 r2.1 r2.2.1 false 0 x1 x2 x3 x4 x5 x6 x7)))
 else
 (some (x7,())))
def l0 (k:Nat):Nat→T0
 | 0=>fun _ _ _ _ _ _ _ _=>none
 | n+1=>b0 k (l1 k (l0 k n) k) (l0 k n)
def t (k:Nat) (L0:T0) (a0:Ty.den a_) (a1:Ty.den bE):Rs :=
 ((bd.f k a0).bind fun r1 =>
 (bif (!r1.1) then
 (some ([],()))
 else
 (L0 0 a0.1 a0.2.1 a0.2.2.1 a0.2.2.2.1 a1.1 a1.2.1 [])))
def f (k:Nat):=t k (l0 k k)
end bK
namespace cm
abbrev Rs:Type:=Option ((Ty.den a_) × Int × Unit)
def t (k:Nat) (a0:Ty.den a_):Rs :=
 ((cL.f k a0).bind fun r1 =>
 ((bd.f k a0).bind fun r2 =>
 (bif (!r2.1) then
 (some (r1.1,(5,())))
 else
 (bif a0.2.2.2.1 then
 (some ((r1.1.1,(r1.1.2.1,(r1.1.2.2.1,(true,())))),(1,())))
 else
 (bif (a0.2.2.1==0) then
 (some ((r1.1.1,(r1.1.2.1,(r1.1.2.2.1,(true,())))),(1,())))
 else
 (bif (decide (a0.2.2.1 > 0)) then
 (some ((r1.1.1,(r1.1.2.1,((aH (a0.2.2.1-1)),r1.1.2.2.2))),(0,())))
 else
 (some (r1.1,(0,())))))))))
def f (k:Nat):=t k
end cm
namespace eV
abbrev Rs:Type:=Option ((List (Ty.den aF)) × Unit)
def t (k:Nat) (a0:List (Ty.den aF)) (a1:Int):Rs :=
 (pV a1 (List.length a0:Int)
 (rm (Ty.bytes aF) (0+List.length (List.take (Int.toNat a1) a0))
 (pV (aH (a1+1)) (List.length a0:Int)
 (rm (Ty.bytes aF) (List.length ([]++(List.take (Int.toNat a1) a0))+List.length (List.drop (Int.toNat (aH (a1+1))) a0))
 (some ((([]++(List.take (Int.toNat a1) a0))++(List.drop (Int.toNat (aH (a1+1))) a0)),()))))))
def f (k:Nat):=t k
end eV
namespace g_
abbrev Rs:Type:=Option ((Ty.den a_) × Int × Unit)
def t (k:Nat) (a0:Ty.den a_) (a1:ByteArray):Rs :=
 ((cm.f k a0).bind fun r1 =>
 (bif (r1.2.1 != 0) then
 (some r1)
 else
 ((bA.f k a0 a1).bind fun r2 =>
 (bif (decide (r2.1<0)) then
 (some (r1.1,(3,())))
 else
 ((eV.f k r1.1.1 r2.1).bind fun r3 =>
 (some ((r3.1,r1.1.2),(0,()))))))))
def f (k:Nat):=t k
end g_
namespace aU
abbrev Rs:Type:=Option (Int × Unit)
def t (k:Nat) (a0:Int):Rs :=
 (bif (a0==0) then
 (some (0,()))
 else
 (bif (a0==1) then
 (some (1,()))
 else
 (bif (a0==2) then
 (some (2,()))
 else
 (some (3,())))))
def f (k:Nat):=t k
end aU
namespace cy
abbrev Rs:Type:=Option ((List (Ty.den aF)) × Unit)
abbrev T0:Type:=List (Ty.den aF)→Bool→Int→ByteArray→ByteArray→Int→List (Ty.den aF)→Rs
def b0 (k:Nat) (L0:T0):T0:=fun x0 x1 x2 x3 x4 x5 x6 =>
 (bif (decide (x2<(x0.length:Int))) then
 (bif (!x1) then
 (bi x2 (x0.length:Int)
 (bif (!((mN (List.getD x0 (Int.toNat x2) (Ty.dflt aF)).1 x3)||(seq (List.getD x0 (Int.toNat x2) (Ty.dflt aF)).1 x3))) then
 (rm (Ty.bytes aF) (List.length x6+1)
 (bi x2 (x0.length:Int)
 (rm (Ty.bytes aF) (List.length (x6++[(x3,(x4,(x5,())))])+1)
 (L0 x0 true (aH (x2+1)) x3 x4 x5 ((x6++[(x3,(x4,(x5,())))])++[(List.getD x0 (Int.toNat x2) (Ty.dflt aF))])))))
 else
 (bi x2 (x0.length:Int)
 (rm (Ty.bytes aF) (List.length x6+1)
 (L0 x0 x1 (aH (x2+1)) x3 x4 x5 (x6++[(List.getD x0 (Int.toNat x2) (Ty.dflt aF))]))))))
 else
 (bi x2 (x0.length:Int)
 (rm (Ty.bytes aF) (List.length x6+1)
 (L0 x0 x1 (aH (x2+1)) x3 x4 x5 (x6++[(List.getD x0 (Int.toNat x2) (Ty.dflt aF))])))))
 else
 (bif (!x1) then
 (rm (Ty.bytes aF) (List.length x6+1)
 (some ((x6++[(x3,(x4,(x5,())))]),())))
 else
 (some (x6,()))))
def l0 (k:Nat):Nat→T0
 | 0=>fun _ _ _ _ _ _ _=>none
 | n+1=>b0 k (l0 k n)
def t (k:Nat) (L0:T0) (a0:List (Ty.den aF)) (a1:Ty.den aF):Rs :=
 (L0 a0 false 0 a1.1 a1.2.1 a1.2.2.1 [])
def f (k:Nat):=t k (l0 k k)
end cy
namespace eY
abbrev Rs:Type:=Option ((Ty.den a_) × Int × Unit)
def t (k:Nat) (a0:Ty.den a_) (a1:ByteArray):Rs :=
 ((cm.f k a0).bind fun r1 =>
 (bif (r1.2.1 != 0) then
 (some r1)
 else
 ((dq.f k a1).bind fun r2 =>
 (bif (!r2.1) then
 (some (r1.1,(5,())))
 else
 ((bA.f k a0 a1).bind fun r3 =>
 (bif (decide (r3.1≥0)) then
 (some (r1.1,(4,())))
 else
 (bif (decide ((List.length a0.1:Int)≥130)) then
 (some (r1.1,(2,())))
 else
 ((cy.f k r1.1.1 (a1,(ByteArray.empty,(0,())))).bind fun r4 =>
 (some ((r4.1,r1.1.2),(0,())))))))))))
def f (k:Nat):=t k
end eY
namespace dC
abbrev Rs:Type:=Option (Bool × Unit)
abbrev T0:Type:=Int→Int→List Int→Rs
def b0 (k:Nat) (L0:T0):T0:=fun x0 x1 x2 =>
 (bif (decide (x0<(x2.length:Int))) then
 (bi x0 (x2.length:Int)
 ((aR.f k (List.getD x2 (Int.toNat x0) (Ty.dflt (.int .i64))) 1 (aH (x1-1))).bind fun r3 =>
 (bif (!r3.1) then
 (some (false,()))
 else
 (bif (decide (x0 > 0)) then
 (bi x0 (x2.length:Int)
 (bi (aH (x0-1)) (x2.length:Int)
 (bif (decide ((List.getD x2 (Int.toNat x0) (Ty.dflt (.int .i64)))≤(List.getD x2 (Int.toNat (aH (x0-1))) (Ty.dflt (.int .i64))))) then
 (some (false,()))
 else
 (L0 (aH (x0+1)) x1 x2))))
 else
 (L0 (aH (x0+1)) x1 x2)))))
 else
 (some (true,())))
def l0 (k:Nat):Nat→T0
 | 0=>fun _ _ _=>none
 | n+1=>b0 k (l0 k n)
def t (k:Nat) (L0:T0) (a0:Ty.den bE):Rs :=
 ((aR.f k a0.1 1 100000).bind fun r1 =>
 (bif (!r1.1) then
 (some (false,()))
 else
 ((aR.f k (List.length a0.2.1:Int) 1 60).bind fun r2 =>
 (bif (!r2.1) then
 (some (false,()))
 else
 (L0 0 a0.1 a0.2.1)))))
def f (k:Nat):=t k (l0 k k)
end dC
namespace bP
abbrev Rs:Type:=Option (ByteArray × Unit)
abbrev T0:Type:=Int→List Int→Rs
def b0 (k:Nat) (L0:T0):T0:=fun x0 x1 =>
 (bif (decide (x0≥128)) then
 (rm (Ty.bytes (.int .u8)) (List.length x1+1)
 (L0 (aH (Int.tdiv x0 128)) (x1++[(IntKind.wrap .u8 (aH (128+(Int.tmod x0 128))))])))
 else
 (rm (Ty.bytes (.int .u8)) (List.length x1+1)
 (some ((bytesOf (x1++[(IntKind.wrap .u8 x0)])),()))))
def l0 (k:Nat):Nat→T0
 | 0=>fun _ _=>none
 | n+1=>b0 k (l0 k n)
def t (k:Nat) (L0:T0) (a0:Int):Rs :=
 ((aR.f k a0 0 562949953421311).bind fun r1 =>
 (bif (!r1.1) then
 (some ((⟨#[]⟩:ByteArray),()))
 else
 (L0 a0 [])))
def f (k:Nat):=t k (l0 k k)
end bP
namespace fg
abbrev Rs:Type:=Option (Int × Unit)
abbrev T1:Type:=ByteArray→Int→Int→Int→Rs
abbrev T0:Type:=ByteArray→Int→Int→Rs
def b1 (k:Nat) (L0:T0) (L1:T1):T1:=fun x0 x1 x2 x3 =>
 (bif (decide (x3<8)) then
 (bif ((Int.tmod x1 2)==1) then
 (L1 x0 (aH (((BitVec.ofInt (IntKind.bits .i64) (aH (Int.tdiv x1 2)) ^^^ BitVec.ofInt (IntKind.bits .i64) 2197175160).toNat:Int))) x2 (aH (x3+1)))
 else
 (L1 x0 (aH (Int.tdiv x1 2)) x2 (aH (x3+1))))
 else
 (L0 x0 x1 (aH (x2+1))))
def l1 (k:Nat) (L0:T0):Nat→T1
 | 0=>fun _ _ _ _=>none
 | n+1=>b1 k L0 (l1 k L0 n)
def b0 (k:Nat) (L1:T1) (L0:T0):T0:=fun x0 x1 x2 =>
 (bif (decide (x2<(ByteArray.size x0:Int))) then
 (bi x2 (ByteArray.size x0:Int)
 (L1 x0 (aH (((BitVec.ofInt (IntKind.bits .i64) x1 ^^^ BitVec.ofInt (IntKind.bits .i64) (aH (dr x0 x2))).toNat:Int))) x2 0))
 else
 (some ((aH (4294967295-x1)),())))
def l0 (k:Nat):Nat→T0
 | 0=>fun _ _ _=>none
 | n+1=>b0 k (l1 k (l0 k n) k) (l0 k n)
def t (k:Nat) (L0:T0) (a0:ByteArray):Rs :=
 (L0 a0 4294967295 0)
def f (k:Nat):=t k (l0 k k)
end fg
namespace dI
abbrev Rs:Type:=Option (ByteArray × Unit)
abbrev T0:Type:=Int→Int→ByteArray→Int→Rs
def b0 (k:Nat) (L0:T0):T0:=fun x0 x1 x2 x3 =>
 (bif (decide (x3<x1)) then
 (k_ (bytesOf [(IntKind.wrap .u8 (Int.tmod x0 256))]) x2
 (L0 (aH (Int.tdiv x0 256)) x1 ((bytesOf [(IntKind.wrap .u8 (Int.tmod x0 256))])++x2) (aH (x3+1))))
 else
 (bif (decide (x0 > 0)) then
 (some ((⟨#[]⟩:ByteArray),()))
 else
 (some (x2,()))))
def l0 (k:Nat):Nat→T0
 | 0=>fun _ _ _ _=>none
 | n+1=>b0 k (l0 k n)
def t (k:Nat) (L0:T0) (a0:Int) (a1:Int):Rs :=
 ((aR.f k a1 1 7).bind fun r1 =>
 (bif (!r1.1) then
 (some ((⟨#[]⟩:ByteArray),()))
 else
 (bif (decide (a0<0)) then
 (some ((⟨#[]⟩:ByteArray),()))
 else
 (L0 a0 a1 (⟨#[]⟩:ByteArray) 0))))
def f (k:Nat):=t k (l0 k k)
end dI
namespace fG
abbrev Rs:Type:=Option (ByteArray × Unit)
def t (k:Nat) (a0:ByteArray):Rs :=
 (bif (decide ((ByteArray.size a0:Int) > 200)) then
 (some ((⟨#[]⟩:ByteArray),()))
 else
 ((bP.f k (ByteArray.size a0:Int)).bind fun r1 =>
 (k_ r1.1 a0
 ((fg.f k (r1.1++a0)).bind fun r2 =>
 ((dI.f k r2.1 4).bind fun r3 =>
 (k_ r3.1 (r1.1++a0)
 (some ((r3.1++(r1.1++a0)),()))))))))
def f (k:Nat):=t k
end fG
namespace cr
abbrev Rs:Type:=Option (ByteArray × Unit)
abbrev T0:Type:=ByteArray→Int→Int→List Int→Rs
def b0 (k:Nat) (L0:T0):T0:=fun x0 x1 x2 x3 =>
 (bif (decide (x1<(x3.length:Int))) then
 (bi x1 (x3.length:Int)
 ((bP.f k (List.getD x3 (Int.toNat x1) (Ty.dflt (.int .i64)))).bind fun r4 =>
 (k_ x0 r4.1
 (L0 (x0++r4.1) (aH (x1+1)) x2 x3))))
 else
 ((fG.f k x0).bind fun r5 =>
 (some r5)))
def l0 (k:Nat):Nat→T0
 | 0=>fun _ _ _ _=>none
 | n+1=>b0 k (l0 k n)
def t (k:Nat) (L0:T0) (a0:Ty.den bE):Rs :=
 ((dC.f k a0).bind fun r1 =>
 (bif (!r1.1) then
 (some ((⟨#[]⟩:ByteArray),()))
 else
 ((bP.f k a0.1).bind fun r2 =>
 ((bP.f k (List.length a0.2.1:Int)).bind fun r3 =>
 (k_ r2.1 r3.1
 (L0 (r2.1++r3.1) 0 a0.1 a0.2.1))))))
def f (k:Nat):=t k (l0 k k)
end cr
namespace da
abbrev Rs:Type:=Option ((Ty.den a_) × Int × Unit)
def t (k:Nat) (a0:Ty.den a_) (a1:ByteArray):Rs :=
 ((bA.f k a0 a1).bind fun r1 =>
 (bif (decide (r1.1≥0)) then
 ((g_.f k a0 a1).bind fun r2 =>
 (bif (r2.2.1 != 0) then
 (some r2)
 else
 ((eY.f k r2.1 a1).bind fun r3 =>
 (some r3))))
 else
 ((eY.f k a0 a1).bind fun r4 =>
 (some r4))))
def f (k:Nat):=t k
end da
namespace cA
abbrev Rs:Type:=Option ((Ty.den a_) × Int × Unit)
def t (k:Nat) (a0:Ty.den a_) (a1:ByteArray) (a2:ByteArray):Rs :=
 ((cm.f k a0).bind fun r1 =>
 (bif (r1.2.1 != 0) then
 (some r1)
 else
 ((bA.f k a0 a1).bind fun r2 =>
 (bif (decide (r2.1<0)) then
 (some (r1.1,(3,())))
 else
 ((dP.f k a0).bind fun r3 =>
 (bif (decide ((ByteArray.size a2:Int) > (aH (a0.2.1-r3.1)))) then
 (some (r1.1,(2,())))
 else
 (bi r2.1 (List.length a0.1:Int)
 (k_ (List.getD a0.1 (Int.toNat r2.1) (Ty.dflt aF)).2.1 a2
 (bi r2.1 (List.length r1.1.1:Int)
 (let l4:=(List.set r1.1.1 (Int.toNat r2.1) ((List.getD r1.1.1 (Int.toNat r2.1) (Ty.dflt aF)).1,(((List.getD a0.1 (Int.toNat r2.1) (Ty.dflt aF)).2.1++a2),(List.getD r1.1.1 (Int.toNat r2.1) (Ty.dflt aF)).2.2)));
 (some ((l4,r1.1.2),(0,())))))))))))))
def f (k:Nat):=t k
end cA
namespace cg
abbrev Rs:Type:=Option ((Ty.den a_) × Int × Unit)
def t (k:Nat) (a0:Ty.den a_) (a1:ByteArray):Rs :=
 ((cm.f k a0).bind fun r1 =>
 (bif (r1.2.1 != 0) then
 (some r1)
 else
 ((bA.f k a0 a1).bind fun r2 =>
 (bif (decide (r2.1<0)) then
 (some (r1.1,(3,())))
 else
 (bi r2.1 (List.length a0.1:Int)
 (bi r2.1 (List.length r1.1.1:Int)
 (let l3:=(List.set r1.1.1 (Int.toNat r2.1) ((List.getD r1.1.1 (Int.toNat r2.1) (Ty.dflt aF)).1,((List.getD r1.1.1 (Int.toNat r2.1) (Ty.dflt aF)).2.1,((ByteArray.size (List.getD a0.1 (Int.toNat r2.1) (Ty.dflt aF)).2.1:Int),(List.getD r1.1.1 (Int.toNat r2.1) (Ty.dflt aF)).2.2.2))));
 (some ((l3,r1.1.2),(0,()))))))))))
def f (k:Nat):=t k
end cg
namespace gZ
abbrev Rs:Type:=Option ((Ty.den a_) × Int × Unit)
def t (k:Nat) (a0:Ty.den a_) (a1:ByteArray) (a2:ByteArray):Rs :=
 ((da.f k a0 a1).bind fun r1 =>
 (bif (r1.2.1==0) then
 ((cA.f k r1.1 a1 a2).bind fun r2 =>
 (bif (r2.2.1==0) then
 ((cg.f k r2.1 a1).bind fun r3 =>
 (some r3))
 else
 (some r2)))
 else
 (bif (r1.2.1==0) then
 ((cg.f k r1.1 a1).bind fun r4 =>
 (some r4))
 else
 (some r1))))
def f (k:Nat):=t k
end gZ
namespace fJ
abbrev Rs:Type:=Option ((Ty.den a_) × Int × Unit)
def t (k:Nat) (a0:Ty.den a_) (a1:ByteArray) (a2:ByteArray):Rs :=
 ((cm.f k a0).bind fun r1 =>
 (bif (r1.2.1 != 0) then
 (some r1)
 else
 ((dq.f k a2).bind fun r2 =>
 (bif (!r2.1) then
 (some (r1.1,(5,())))
 else
 ((bA.f k a0 a1).bind fun r3 =>
 (bif (decide (r3.1<0)) then
 (some (r1.1,(3,())))
 else
 (bif (seq a1 a2) then
 (some (r1.1,(0,())))
 else
 (bi r3.1 (List.length a0.1:Int)
 ((eV.f k r1.1.1 r3.1).bind fun r4 =>
 ((bA.f k (r4.1,r1.1.2) a2).bind fun r5 =>
 (bif (decide (r5.1≥0)) then
 ((eV.f k r4.1 r5.1).bind fun r6 =>
 ((cy.f k r6.1 (a2,(List.getD a0.1 (Int.toNat r3.1) (Ty.dflt aF)).2)).bind fun r7 =>
 (some ((r7.1,r1.1.2),(0,())))))
 else
 ((cy.f k r4.1 (a2,(List.getD a0.1 (Int.toNat r3.1) (Ty.dflt aF)).2)).bind fun r8 =>
 (some ((r8.1,r1.1.2),(0,())))))))))))))))
def f (k:Nat):=t k
end fJ
namespace eQ
abbrev Rs:Type:=Option ((Ty.den a_) × Int × Unit)
def t (k:Nat) (a0:Ty.den a_) (a1:Ty.den bE):Rs :=
 ((bd.f k a0).bind fun r1 =>
 (bif (!r1.1) then
 ((cL.f k a0).bind fun r2 =>
 (some (r2.1,(4,()))))
 else
 ((dC.f k a1).bind fun r3 =>
 (bif (!r3.1) then
 ((cL.f k a0).bind fun r4 =>
 (some (r4.1,(4,()))))
 else
 ((cr.f k a1).bind fun r5 =>
 ((gZ.f k a0 (⟨#[116,101,109,112]⟩:ByteArray) r5.1).bind fun r6 =>
 (bif (r6.2.1==0) then
 ((fJ.f k r6.1 (⟨#[116,101,109,112]⟩:ByteArray) (⟨#[108,105,118,101]⟩:ByteArray)).bind fun r7 =>
 ((aU.f k r7.2.1).bind fun r8 =>
 (some (r7.1,r8))))
 else
 ((aU.f k r6.2.1).bind fun r9 =>
 (some (r6.1,r9))))))))))
def f (k:Nat):=t k
end eQ
namespace ab
abbrev Rs:Type:=Option (Int × Int × Unit)
abbrev T1:Type:=ByteArray→Int→Int→Int→Rs
abbrev T0:Type:=ByteArray→Int→Rs
def b1 (k:Nat) (L0:T0) (L1:T1):T1:=fun x0 x1 x2 x3 =>
 (bif (decide (x3≥0)) then
 (bi x3 (ByteArray.size x0:Int)
 (L1 x0 x1 (aH ((aH (x2*128))+(Int.tmod (aH (dr x0 x3)) 128))) (aH (x3-1))))
 else
 ((bP.f k x2).bind fun r1 =>
 (pV x1 (ByteArray.size x0:Int)
 (bif (seq r1.1 (ByteArray.extract x0 0 (Int.toNat x1))) then
 (some (x2,(x1,())))
 else
 (L0 x0 (aH (x1+1)))))))
def l1 (k:Nat) (L0:T0):Nat→T1
 | 0=>fun _ _ _ _=>none
 | n+1=>b1 k L0 (l1 k L0 n)
def b0 (k:Nat) (L1:T1) (L0:T0):T0:=fun x0 x1 =>
 (bif (decide (x1≤7)) then
 (bif (decide (x1≤(ByteArray.size x0:Int))) then
 (L1 x0 x1 0 (aH (x1-1)))
 else
 (some (0,(0,()))))
 else
 (some (0,(0,()))))
def l0 (k:Nat):Nat→T0
 | 0=>fun _ _=>none
 | n+1=>b0 k (l1 k (l0 k n) k) (l0 k n)
def t (k:Nat) (L0:T0) (a0:ByteArray):Rs :=
 (L0 a0 1)
def f (k:Nat):=t k (l0 k k)
end ab
namespace dT
abbrev Rs:Type:=Option (ByteArray × Int × Unit)
def t (k:Nat) (a0:ByteArray):Rs :=
 (bif (decide ((ByteArray.size a0:Int)<5)) then
 (some ((⟨#[]⟩:ByteArray),(0,())))
 else
 (pV 4 (ByteArray.size a0:Int)
 ((ab.f k (ByteArray.extract a0 4 (ByteArray.size a0))).bind fun r1 =>
 (bif (r1.2.1==0) then
 (some ((⟨#[]⟩:ByteArray),(0,())))
 else
 (bif (decide (r1.1 > 200)) then
 (some ((⟨#[]⟩:ByteArray),(0,())))
 else
 (bif (decide (r1.1 > (aH ((aH ((ByteArray.size a0:Int)-4))-r1.2.1)))) then
 (some ((⟨#[]⟩:ByteArray),(0,())))
 else
 (DC (aH (4+r1.2.1)) (aH ((aH (4+r1.2.1))+r1.1)) (ByteArray.size a0:Int)
 (pV (aH ((aH (4+r1.2.1))+r1.1)) (ByteArray.size a0:Int)
 ((fG.f k (ByteArray.extract a0 (Int.toNat (aH (4+r1.2.1))) (Int.toNat (aH ((aH (4+r1.2.1))+r1.1))))).bind fun r2 =>
 (bif (!(seq (ByteArray.extract a0 0 (Int.toNat (aH ((aH (4+r1.2.1))+r1.1)))) r2.1)) then
 (some ((⟨#[]⟩:ByteArray),(0,())))
 else
 (some ((ByteArray.extract a0 (Int.toNat (aH (4+r1.2.1))) (Int.toNat (aH ((aH (4+r1.2.1))+r1.1)))),((aH ((aH (4+r1.2.1))+r1.1)),())))))))))))))
def f (k:Nat):=t k
end dT
namespace bI
abbrev Rs:Type:=Option ((Ty.den bE) × Bool × Unit)
abbrev T0:Type:=ByteArray→ByteArray→Int→Int→Int→List Int→Int→List Int→Int→Rs
def b0 (k:Nat) (L0:T0):T0:=fun x0 x1 x2 x3 x4 x5 x6 x7 x8 =>
 (bif (decide (x4<x2)) then
 (bif (decide (x4<60)) then
 (pV x3 (ByteArray.size x1:Int)
 ((ab.f k (ByteArray.extract x1 (Int.toNat x3) (ByteArray.size x1))).bind fun r4 =>
 (rm (Ty.bytes (.int .i64)) (List.length x7+1)
 (L0 x0 x1 x2 (aH (x3+r4.2.1)) (aH (x4+1)) x5 x6 (x7++[r4.1]) x8))))
 else
 ((cr.f k (x8,(x7,()))).bind fun r5 =>
 (bif (!(seq r5.1 x0)) then
 (some ((0,([],())),(false,())))
 else
 (some ((x8,(x7,())),(true,()))))))
 else
 ((cr.f k (x8,(x7,()))).bind fun r6 =>
 (bif (!(seq r6.1 x0)) then
 (some ((0,([],())),(false,())))
 else
 (some ((x8,(x7,())),(true,()))))))
def l0 (k:Nat):Nat→T0
 | 0=>fun _ _ _ _ _ _ _ _ _=>none
 | n+1=>b0 k (l0 k n)
def t (k:Nat) (L0:T0) (a0:ByteArray):Rs :=
 ((dT.f k a0).bind fun r1 =>
 ((ab.f k r1.1).bind fun r2 =>
 (bif (r1.2.1 != (ByteArray.size a0:Int)) then
 (some ((0,([],())),(false,())))
 else
 (bif (r1.2.1==0) then
 (some ((0,([],())),(false,())))
 else
 (bif (r2.2.1==0) then
 (some ((0,([],())),(false,())))
 else
 (pV r2.2.1 (ByteArray.size r1.1:Int)
 ((ab.f k (ByteArray.extract r1.1 (Int.toNat r2.2.1) (ByteArray.size r1.1))).bind fun r3 =>
 (L0 a0 r1.1 r3.1 (aH (r2.2.1+r3.2.1)) 0 [] 0 [] r2.1))))))))
def f (k:Nat):=t k (l0 k k)
end bI
namespace cK
abbrev Rs:Type:=Option (ByteArray × ByteArray × Bool × Unit)
def t (k:Nat) (a0:ByteArray):Rs :=
 ((ab.f k a0).bind fun r1 =>
 (bif (r1.2.1==0) then
 (some ((⟨#[]⟩:ByteArray),((⟨#[]⟩:ByteArray),(false,()))))
 else
 (bif (decide (r1.1 > (aH ((ByteArray.size a0:Int)-r1.2.1)))) then
 (some ((⟨#[]⟩:ByteArray),((⟨#[]⟩:ByteArray),(false,()))))
 else
 (DC r1.2.1 (aH (r1.2.1+r1.1)) (ByteArray.size a0:Int)
 (pV (aH (r1.2.1+r1.1)) (ByteArray.size a0:Int)
 (some ((ByteArray.extract a0 (Int.toNat r1.2.1) (Int.toNat (aH (r1.2.1+r1.1)))),((ByteArray.extract a0 (Int.toNat (aH (r1.2.1+r1.1))) (ByteArray.size a0)),(true,())))))))))
def f (k:Nat):=t k
end cK
namespace dt
abbrev Rs:Type:=Option (Bool × Unit)
def t (k:Nat) (a0:ByteArray):Rs :=
 ((aR.f k (ByteArray.size a0:Int) 1 8).bind fun r1 =>
 (some r1))
def f (k:Nat):=t k
end dt
namespace jg
abbrev Rs:Type:=Option (Bool × Unit)
def t (k:Nat) (a0:Ty.den ax):Rs :=
 ((aR.f k a0.2.1 0 1000000).bind fun r1 =>
 (bif (!r1.1) then
 (some (false,()))
 else
 (bif (a0.2.1==0) then
 (bif (a0.1 != 5) then
 (some (false,()))
 else
 (bif (a0.1==1) then
 (bif (a0.1==1) then
 ((dt.f k a0.2.2.1).bind fun r2 =>
 (bif r2.1 then
 (bif (decide ((ByteArray.size a0.2.2.2.1:Int)≤24)) then
 (bif (a0.2.2.2.2.1==0) then
 (some ((a0.2.2.2.2.2.1==0),()))
 else
 (some (false,())))
 else
 (some (false,())))
 else
 (some (false,()))))
 else
 (bif (a0.1==2) then
 ((dt.f k a0.2.2.1).bind fun r3 =>
 (bif r3.1 then
 (bif (seq a0.2.2.2.1 (⟨#[]⟩:ByteArray)) then
 (bif (a0.2.2.2.2.1==0) then
 (some ((a0.2.2.2.2.2.1==0),()))
 else
 (some (false,())))
 else
 (some (false,())))
 else
 (some (false,()))))
 else
 (bif (a0.1==3) then
 (bif (seq a0.2.2.1 (⟨#[]⟩:ByteArray)) then
 (bif (seq a0.2.2.2.1 (⟨#[]⟩:ByteArray)) then
 ((aR.f k a0.2.2.2.2.1 0 8).bind fun r4 =>
 (bif r4.1 then
 ((aR.f k a0.2.2.2.2.2.1 0 4294967295).bind fun r5 =>
 (some r5))
 else
 (some (false,()))))
 else
 (some (false,())))
 else
 (some (false,())))
 else
 (bif (a0.1==5) then
 (bif (seq a0.2.2.1 (⟨#[]⟩:ByteArray)) then
 (bif (seq a0.2.2.2.1 (⟨#[]⟩:ByteArray)) then
 ((aR.f k a0.2.2.2.2.1 0 20).bind fun r6 =>
 (bif r6.1 then
 ((aR.f k a0.2.2.2.2.2.1 0 4294967295).bind fun r7 =>
 (some r7))
 else
 (some (false,()))))
 else
 (some (false,())))
 else
 (some (false,())))
 else
 (some (false,()))))))
 else
 (bif (a0.1==4) then
 ((dt.f k a0.2.2.1).bind fun r8 =>
 (bif r8.1 then
 (bif (decide ((ByteArray.size a0.2.2.2.1:Int)≤24)) then
 (bif (a0.2.2.2.2.1==0) then
 (some ((a0.2.2.2.2.2.1==0),()))
 else
 (some (false,())))
 else
 (some (false,())))
 else
 (some (false,()))))
 else
 (bif (a0.1==2) then
 ((dt.f k a0.2.2.1).bind fun r9 =>
 (bif r9.1 then
 (bif (seq a0.2.2.2.1 (⟨#[]⟩:ByteArray)) then
 (bif (a0.2.2.2.2.1==0) then
 (some ((a0.2.2.2.2.2.1==0),()))
 else
 (some (false,())))
 else
 (some (false,())))
 else
 (some (false,()))))
 else
 (bif (a0.1==3) then
 (bif (seq a0.2.2.1 (⟨#[]⟩:ByteArray)) then
 (bif (seq a0.2.2.2.1 (⟨#[]⟩:ByteArray)) then
 ((aR.f k a0.2.2.2.2.1 0 8).bind fun r10 =>
 (bif r10.1 then
 ((aR.f k a0.2.2.2.2.2.1 0 4294967295).bind fun r11 =>
 (some r11))
 else
 (some (false,()))))
 else
 (some (false,())))
 else
 (some (false,())))
 else
 (bif (a0.1==5) then
 (bif (seq a0.2.2.1 (⟨#[]⟩:ByteArray)) then
 (bif (seq a0.2.2.2.1 (⟨#[]⟩:ByteArray)) then
 ((aR.f k a0.2.2.2.2.1 0 20).bind fun r12 =>
 (bif r12.1 then
 ((aR.f k a0.2.2.2.2.2.1 0 4294967295).bind fun r13 =>
 (some r13))
 else
 (some (false,()))))
 else
 (some (false,())))
 else
 (some (false,())))
 else
 (some (false,()))))))))
 else
 (bif (a0.1==1) then
 (bif (a0.1==1) then
 ((dt.f k a0.2.2.1).bind fun r14 =>
 (bif r14.1 then
 (bif (decide ((ByteArray.size a0.2.2.2.1:Int)≤24)) then
 (bif (a0.2.2.2.2.1==0) then
 (some ((a0.2.2.2.2.2.1==0),()))
 else
 (some (false,())))
 else
 (some (false,())))
 else
 (some (false,()))))
 else
 (bif (a0.1==2) then
 ((dt.f k a0.2.2.1).bind fun r15 =>
 (bif r15.1 then
 (bif (seq a0.2.2.2.1 (⟨#[]⟩:ByteArray)) then
 (bif (a0.2.2.2.2.1==0) then
 (some ((a0.2.2.2.2.2.1==0),()))
 else
 (some (false,())))
 else
 (some (false,())))
 else
 (some (false,()))))
 else
 (bif (a0.1==3) then
 (bif (seq a0.2.2.1 (⟨#[]⟩:ByteArray)) then
 (bif (seq a0.2.2.2.1 (⟨#[]⟩:ByteArray)) then
 ((aR.f k a0.2.2.2.2.1 0 8).bind fun r16 =>
 (bif r16.1 then
 ((aR.f k a0.2.2.2.2.2.1 0 4294967295).bind fun r17 =>
 (some r17))
 else
 (some (false,()))))
 else
 (some (false,())))
 else
 (some (false,())))
 else
 (bif (a0.1==5) then
 (bif (seq a0.2.2.1 (⟨#[]⟩:ByteArray)) then
 (bif (seq a0.2.2.2.1 (⟨#[]⟩:ByteArray)) then
 ((aR.f k a0.2.2.2.2.1 0 20).bind fun r18 =>
 (bif r18.1 then
 ((aR.f k a0.2.2.2.2.2.1 0 4294967295).bind fun r19 =>
 (some r19))
 else
 (some (false,()))))
 else
 (some (false,())))
 else
 (some (false,())))
 else
 (some (false,()))))))
 else
 (bif (a0.1==4) then
 ((dt.f k a0.2.2.1).bind fun r20 =>
 (bif r20.1 then
 (bif (decide ((ByteArray.size a0.2.2.2.1:Int)≤24)) then
 (bif (a0.2.2.2.2.1==0) then
 (some ((a0.2.2.2.2.2.1==0),()))
 else
 (some (false,())))
 else
 (some (false,())))
 else
 (some (false,()))))
 else
 (bif (a0.1==2) then
 ((dt.f k a0.2.2.1).bind fun r21 =>
 (bif r21.1 then
 (bif (seq a0.2.2.2.1 (⟨#[]⟩:ByteArray)) then
 (bif (a0.2.2.2.2.1==0) then
 (some ((a0.2.2.2.2.2.1==0),()))
 else
 (some (false,())))
 else
 (some (false,())))
 else
 (some (false,()))))
 else
 (bif (a0.1==3) then
 (bif (seq a0.2.2.1 (⟨#[]⟩:ByteArray)) then
 (bif (seq a0.2.2.2.1 (⟨#[]⟩:ByteArray)) then
 ((aR.f k a0.2.2.2.2.1 0 8).bind fun r22 =>
 (bif r22.1 then
 ((aR.f k a0.2.2.2.2.2.1 0 4294967295).bind fun r23 =>
 (some r23))
 else
 (some (false,()))))
 else
 (some (false,())))
 else
 (some (false,())))
 else
 (bif (a0.1==5) then
 (bif (seq a0.2.2.1 (⟨#[]⟩:ByteArray)) then
 (bif (seq a0.2.2.2.1 (⟨#[]⟩:ByteArray)) then
 ((aR.f k a0.2.2.2.2.1 0 20).bind fun r24 =>
 (bif r24.1 then
 ((aR.f k a0.2.2.2.2.2.1 0 4294967295).bind fun r25 =>
 (some r25))
 else
 (some (false,()))))
 else
 (some (false,())))
 else
 (some (false,())))
 else
 (some (false,()))))))))))
def f (k:Nat):=t k
end jg
namespace c8
abbrev Rs:Type:=Option (ByteArray × Unit)
def t (k:Nat) (a0:Ty.den ax):Rs :=
 ((jg.f k a0).bind fun r1 =>
 (bif (!r1.1) then
 (some ((⟨#[]⟩:ByteArray),()))
 else
 ((bP.f k a0.1).bind fun r2 =>
 ((bP.f k a0.2.1).bind fun r3 =>
 (k_ r2.1 r3.1
 (bif (a0.1==1) then
 (bif (a0.1==1) then
 ((bP.f k (ByteArray.size a0.2.2.1:Int)).bind fun r4 =>
 (k_ (r2.1++r3.1) r4.1
 (k_ ((r2.1++r3.1)++r4.1) a0.2.2.1
 ((bP.f k (ByteArray.size a0.2.2.2.1:Int)).bind fun r5 =>
 (k_ (((r2.1++r3.1)++r4.1)++a0.2.2.1) r5.1
 (k_ ((((r2.1++r3.1)++r4.1)++a0.2.2.1)++r5.1) a0.2.2.2.1
 (some ((((((r2.1++r3.1)++r4.1)++a0.2.2.1)++r5.1)++a0.2.2.2.1),()))))))))
 else
 (bif (a0.1==2) then
 ((bP.f k (ByteArray.size a0.2.2.1:Int)).bind fun r6 =>
 (k_ (r2.1++r3.1) r6.1
 (k_ ((r2.1++r3.1)++r6.1) a0.2.2.1
 (some ((((r2.1++r3.1)++r6.1)++a0.2.2.1),())))))
 else
 ((bP.f k a0.2.2.2.2.1).bind fun r7 =>
 (k_ (r2.1++r3.1) r7.1
 ((dI.f k a0.2.2.2.2.2.1 4).bind fun r8 =>
 (k_ ((r2.1++r3.1)++r7.1) r8.1
 (some ((((r2.1++r3.1)++r7.1)++r8.1),()))))))))
 else
 (bif (a0.1==4) then
 ((bP.f k (ByteArray.size a0.2.2.1:Int)).bind fun r9 =>
 (k_ (r2.1++r3.1) r9.1
 (k_ ((r2.1++r3.1)++r9.1) a0.2.2.1
 ((bP.f k (ByteArray.size a0.2.2.2.1:Int)).bind fun r10 =>
 (k_ (((r2.1++r3.1)++r9.1)++a0.2.2.1) r10.1
 (k_ ((((r2.1++r3.1)++r9.1)++a0.2.2.1)++r10.1) a0.2.2.2.1
 (some ((((((r2.1++r3.1)++r9.1)++a0.2.2.1)++r10.1)++a0.2.2.2.1),()))))))))
 else
 (bif (a0.1==2) then
 ((bP.f k (ByteArray.size a0.2.2.1:Int)).bind fun r11 =>
 (k_ (r2.1++r3.1) r11.1
 (k_ ((r2.1++r3.1)++r11.1) a0.2.2.1
 (some ((((r2.1++r3.1)++r11.1)++a0.2.2.1),())))))
 else
 ((bP.f k a0.2.2.2.2.1).bind fun r12 =>
 (k_ (r2.1++r3.1) r12.1
 ((dI.f k a0.2.2.2.2.2.1 4).bind fun r13 =>
 (k_ ((r2.1++r3.1)++r12.1) r13.1
 (some ((((r2.1++r3.1)++r12.1)++r13.1),()))))))))))))))
def f (k:Nat):=t k
end c8
namespace bR
abbrev Rs:Type:=Option (Int × Bool × Unit)
abbrev T0:Type:=ByteArray→Int→Int→Int→Rs
def b0 (k:Nat) (L0:T0):T0:=fun x0 x1 x2 x3 =>
 (bif (decide (x3<x1)) then
 (bi x3 (ByteArray.size x0:Int)
 (L0 x0 x1 (aH ((aH (x2*256))+(aH (dr x0 x3)))) (aH (x3+1))))
 else
 (some (x2,(true,()))))
def l0 (k:Nat):Nat→T0
 | 0=>fun _ _ _ _=>none
 | n+1=>b0 k (l0 k n)
def t (k:Nat) (L0:T0) (a0:ByteArray) (a1:Int):Rs :=
 ((aR.f k a1 1 7).bind fun r1 =>
 (bif (!r1.1) then
 (some (0,(false,())))
 else
 (bif (decide ((ByteArray.size a0:Int)<a1)) then
 (some (0,(false,())))
 else
 (L0 a0 a1 0 0))))
def f (k:Nat):=t k (l0 k k)
end bR
namespace du
abbrev Rs:Type:=Option ((Ty.den ax) × Bool × Unit)
def t (k:Nat) (a0:ByteArray):Rs :=
 ((ab.f k a0).bind fun r1 =>
 (pV r1.2.1 (ByteArray.size a0:Int)
 ((ab.f k (ByteArray.extract a0 (Int.toNat r1.2.1) (ByteArray.size a0))).bind fun r2 =>
 (bif (r1.2.1==0) then
 (some ((0,(0,(ByteArray.empty,(ByteArray.empty,(0,(0,())))))),(false,())))
 else
 (bif (r2.2.1==0) then
 (some ((0,(0,(ByteArray.empty,(ByteArray.empty,(0,(0,())))))),(false,())))
 else
 (pV (aH (r1.2.1+r2.2.1)) (ByteArray.size a0:Int)
 (bif (r1.1==1) then
 (bif (r1.1==1) then
 ((cK.f k (ByteArray.extract a0 (Int.toNat (aH (r1.2.1+r2.2.1))) (ByteArray.size a0))).bind fun r3 =>
 ((cK.f k r3.2.1).bind fun r4 =>
 ((c8.f k (r1.1,(r2.1,(r3.1,(r4.1,(0,(0,()))))))).bind fun r5 =>
 (bif (!(seq r5.1 a0)) then
 (some ((0,(0,(ByteArray.empty,(ByteArray.empty,(0,(0,())))))),(false,())))
 else
 (bif (seq a0 (⟨#[]⟩:ByteArray)) then
 (some ((0,(0,(ByteArray.empty,(ByteArray.empty,(0,(0,())))))),(false,())))
 else
 (some ((r1.1,(r2.1,(r3.1,(r4.1,(0,(0,())))))),(true,()))))))))
 else
 (bif (r1.1==2) then
 ((cK.f k (ByteArray.extract a0 (Int.toNat (aH (r1.2.1+r2.2.1))) (ByteArray.size a0))).bind fun r6 =>
 ((c8.f k (r1.1,(r2.1,(r6.1,(ByteArray.empty,(0,(0,()))))))).bind fun r7 =>
 (bif (!(seq r7.1 a0)) then
 (some ((0,(0,(ByteArray.empty,(ByteArray.empty,(0,(0,())))))),(false,())))
 else
 (bif (seq a0 (⟨#[]⟩:ByteArray)) then
 (some ((0,(0,(ByteArray.empty,(ByteArray.empty,(0,(0,())))))),(false,())))
 else
 (some ((r1.1,(r2.1,(r6.1,(ByteArray.empty,(0,(0,())))))),(true,())))))))
 else
 ((ab.f k (ByteArray.extract a0 (Int.toNat (aH (r1.2.1+r2.2.1))) (ByteArray.size a0))).bind fun r8 =>
 (pV r8.2.1 (ByteArray.size (ByteArray.extract a0 (Int.toNat (aH (r1.2.1+r2.2.1))) (ByteArray.size a0)):Int)
 ((bR.f k (ByteArray.extract (ByteArray.extract a0 (Int.toNat (aH (r1.2.1+r2.2.1))) (ByteArray.size a0)) (Int.toNat r8.2.1) (ByteArray.size (ByteArray.extract a0 (Int.toNat (aH (r1.2.1+r2.2.1))) (ByteArray.size a0)))) 4).bind fun r9 =>
 ((c8.f k (r1.1,(r2.1,(ByteArray.empty,(ByteArray.empty,(r8.1,(r9.1,()))))))).bind fun r10 =>
 (bif (!(seq r10.1 a0)) then
 (some ((0,(0,(ByteArray.empty,(ByteArray.empty,(0,(0,())))))),(false,())))
 else
 (bif (seq a0 (⟨#[]⟩:ByteArray)) then
 (some ((0,(0,(ByteArray.empty,(ByteArray.empty,(0,(0,())))))),(false,())))
 else
 (some ((r1.1,(r2.1,(ByteArray.empty,(ByteArray.empty,(r8.1,(r9.1,())))))),(true,())))))))))))
 else
 (bif (r1.1==4) then
 ((cK.f k (ByteArray.extract a0 (Int.toNat (aH (r1.2.1+r2.2.1))) (ByteArray.size a0))).bind fun r11 =>
 ((cK.f k r11.2.1).bind fun r12 =>
 ((c8.f k (r1.1,(r2.1,(r11.1,(r12.1,(0,(0,()))))))).bind fun r13 =>
 (bif (!(seq r13.1 a0)) then
 (some ((0,(0,(ByteArray.empty,(ByteArray.empty,(0,(0,())))))),(false,())))
 else
 (bif (seq a0 (⟨#[]⟩:ByteArray)) then
 (some ((0,(0,(ByteArray.empty,(ByteArray.empty,(0,(0,())))))),(false,())))
 else
 (some ((r1.1,(r2.1,(r11.1,(r12.1,(0,(0,())))))),(true,()))))))))
 else
 (bif (r1.1==2) then
 ((cK.f k (ByteArray.extract a0 (Int.toNat (aH (r1.2.1+r2.2.1))) (ByteArray.size a0))).bind fun r14 =>
 ((c8.f k (r1.1,(r2.1,(r14.1,(ByteArray.empty,(0,(0,()))))))).bind fun r15 =>
 (bif (!(seq r15.1 a0)) then
 (some ((0,(0,(ByteArray.empty,(ByteArray.empty,(0,(0,())))))),(false,())))
 else
 (bif (seq a0 (⟨#[]⟩:ByteArray)) then
 (some ((0,(0,(ByteArray.empty,(ByteArray.empty,(0,(0,())))))),(false,())))
 else
 (some ((r1.1,(r2.1,(r14.1,(ByteArray.empty,(0,(0,())))))),(true,())))))))
 else
 ((ab.f k (ByteArray.extract a0 (Int.toNat (aH (r1.2.1+r2.2.1))) (ByteArray.size a0))).bind fun r16 =>
 (pV r16.2.1 (ByteArray.size (ByteArray.extract a0 (Int.toNat (aH (r1.2.1+r2.2.1))) (ByteArray.size a0)):Int)
 ((bR.f k (ByteArray.extract (ByteArray.extract a0 (Int.toNat (aH (r1.2.1+r2.2.1))) (ByteArray.size a0)) (Int.toNat r16.2.1) (ByteArray.size (ByteArray.extract a0 (Int.toNat (aH (r1.2.1+r2.2.1))) (ByteArray.size a0)))) 4).bind fun r17 =>
 ((c8.f k (r1.1,(r2.1,(ByteArray.empty,(ByteArray.empty,(r16.1,(r17.1,()))))))).bind fun r18 =>
 (bif (!(seq r18.1 a0)) then
 (some ((0,(0,(ByteArray.empty,(ByteArray.empty,(0,(0,())))))),(false,())))
 else
 (bif (seq a0 (⟨#[]⟩:ByteArray)) then
 (some ((0,(0,(ByteArray.empty,(ByteArray.empty,(0,(0,())))))),(false,())))
 else
 (some ((r1.1,(r2.1,(ByteArray.empty,(ByteArray.empty,(r16.1,(r17.1,())))))),(true,()))))))))))))))))))
def f (k:Nat):=t k
end du
namespace bN
abbrev Rs:Type:=Option ((List (Ty.den b9)) × Int × Unit)
abbrev T0:Type:=ByteArray→Int→List (Ty.den b9)→Rs
def b0 (k:Nat) (L0:T0):T0:=fun x0 x1 x2 =>
 (bif (decide (x1<(ByteArray.size x0:Int))) then
 (pV x1 (ByteArray.size x0:Int)
 ((dT.f k (ByteArray.extract x0 (Int.toNat x1) (ByteArray.size x0))).bind fun r1 =>
 ((du.f k r1.1).bind fun r2 =>
 (bif (r1.2.1==0) then
 (some (x2,(x1,())))
 else
 (bif (!r2.2.1) then
 (some (x2,(x1,())))
 else
 (rm (Ty.bytes b9) (List.length x2+1)
 (L0 x0 (aH (x1+r1.2.1)) (x2++[(x1,(r1.2.1,(r2.1,())))]))))))))
 else
 (some (x2,(x1,()))))
def l0 (k:Nat):Nat→T0
 | 0=>fun _ _ _=>none
 | n+1=>b0 k (l0 k n)
def t (k:Nat) (L0:T0) (a0:ByteArray):Rs :=
 (L0 a0 0 [])
def f (k:Nat):=t k (l0 k k)
end bN
namespace i_
abbrev Rs:Type:=Option ((Ty.den a_) × Int × Unit)
def t (k:Nat) (a0:Ty.den a_) (a1:ByteArray) (a2:Int):Rs :=
 ((cm.f k a0).bind fun r1 =>
 (bif (r1.2.1 != 0) then
 (some r1)
 else
 ((bA.f k a0 a1).bind fun r2 =>
 (bif (decide (r2.1<0)) then
 (some (r1.1,(3,())))
 else
 (bi r2.1 (List.length a0.1:Int)
 ((aR.f k a2 0 (ByteArray.size (List.getD a0.1 (Int.toNat r2.1) (Ty.dflt aF)).2.1:Int)).bind fun r3 =>
 (bif (!r3.1) then
 (some (r1.1,(5,())))
 else
 (bi r2.1 (List.length a0.1:Int)
 (pV a2 (ByteArray.size (List.getD a0.1 (Int.toNat r2.1) (Ty.dflt aF)).2.1:Int)
 (bi r2.1 (List.length r1.1.1:Int)
 (let l4:=(List.set r1.1.1 (Int.toNat r2.1) ((List.getD r1.1.1 (Int.toNat r2.1) (Ty.dflt aF)).1,((ByteArray.extract (List.getD a0.1 (Int.toNat r2.1) (Ty.dflt aF)).2.1 0 (Int.toNat a2)),(List.getD r1.1.1 (Int.toNat r2.1) (Ty.dflt aF)).2.2)));
 (bi r2.1 (List.length a0.1:Int)
 (bi r2.1 (List.length l4:Int)
 (let l5:=(List.set l4 (Int.toNat r2.1) ((List.getD l4 (Int.toNat r2.1) (Ty.dflt aF)).1,((List.getD l4 (Int.toNat r2.1) (Ty.dflt aF)).2.1,((if a2<(List.getD a0.1 (Int.toNat r2.1) (Ty.dflt aF)).2.2.1 then a2 else (List.getD a0.1 (Int.toNat r2.1) (Ty.dflt aF)).2.2.1),(List.getD l4 (Int.toNat r2.1) (Ty.dflt aF)).2.2.2))));
 (some ((l5,r1.1.2),(0,())))))))))))))))))
def f (k:Nat):=t k
end i_
namespace bT
abbrev Rs:Type:=Option ((List Int) × Int × Unit)
abbrev T0:Type:=ByteArray→Int→Int→Int→List Int→Rs
def b0 (k:Nat) (L0:T0):T0:=fun x0 x1 x2 x3 x4 =>
 (bif (decide (x3<x2)) then
 (pV x1 (ByteArray.size x0:Int)
 ((ab.f k (ByteArray.extract x0 (Int.toNat x1) (ByteArray.size x0))).bind fun r1 =>
 (bif (r1.2.1==0) then
 (JU (Ty.bytes (.int .i64)) x2
 (some ((List.replicate (Int.toNat x2) (Ty.dflt (.int .i64))),((-1),()))))
 else
 (rm (Ty.bytes (.int .i64)) (List.length x4+1)
 (L0 x0 (aH (x1+r1.2.1)) x2 (aH (x3+1)) (x4++[r1.1]))))))
 else
 (some (x4,(x1,()))))
def l0 (k:Nat):Nat→T0
 | 0=>fun _ _ _ _ _=>none
 | n+1=>b0 k (l0 k n)
def t (k:Nat) (L0:T0) (a0:ByteArray) (a1:Int) (a2:Int):Rs :=
 (L0 a0 a1 a2 0 [])
def f (k:Nat):=t k (l0 k k)
end bT
namespace eZ
abbrev Rs:Type:=Option (Bool × Unit)
abbrev T0:Type:=List (Ty.den aB)→Int→Rs
def b0 (k:Nat) (L0:T0):T0:=fun x0 x1 =>
 (bif (decide (x1<(x0.length:Int))) then
 (bi x1 (x0.length:Int)
 ((dt.f k (List.getD x0 (Int.toNat x1) (Ty.dflt aB)).1).bind fun r1 =>
 (bif (!r1.1) then
 (some (false,()))
 else
 ((aR.f k (List.getD x0 (Int.toNat x1) (Ty.dflt aB)).2.1 1 100000).bind fun r2 =>
 (bif (!r2.1) then
 (some (false,()))
 else
 (bif (decide ((List.getD x0 (Int.toNat x1) (Ty.dflt aB)).2.2.1<0)) then
 (some (false,()))
 else
 ((aR.f k (List.getD x0 (Int.toNat x1) (Ty.dflt aB)).2.2.2.1 1 210).bind fun r3 =>
 (bif (!r3.1) then
 (some (false,()))
 else
 ((aR.f k (List.getD x0 (Int.toNat x1) (Ty.dflt aB)).2.2.2.2.1 1 1000000).bind fun r4 =>
 (bif (!r4.1) then
 (some (false,()))
 else
 (bif (decide (x1 > 0)) then
 (bi (aH (x1-1)) (x0.length:Int)
 (bif ((mN (List.getD x0 (Int.toNat x1) (Ty.dflt aB)).1 (List.getD x0 (Int.toNat (aH (x1-1))) (Ty.dflt aB)).1)||(seq (List.getD x0 (Int.toNat x1) (Ty.dflt aB)).1 (List.getD x0 (Int.toNat (aH (x1-1))) (Ty.dflt aB)).1)) then
 (some (false,()))
 else
 (L0 x0 (aH (x1+1)))))
 else
 (L0 x0 (aH (x1+1))))))))))))))
 else
 (some (true,())))
def l0 (k:Nat):Nat→T0
 | 0=>fun _ _=>none
 | n+1=>b0 k (l0 k n)
def t (k:Nat) (L0:T0) (a0:List (Ty.den aB)):Rs :=
 (bif (decide ((List.length a0:Int) > 20)) then
 (some (false,()))
 else
 (L0 a0 0))
def f (k:Nat):=t k (l0 k k)
end eZ
namespace gQ
abbrev Rs:Type:=Option (Bool × Unit)
abbrev T0:Type:=Int→Int→Int→List (Ty.den aB)→Rs
def b0 (k:Nat) (L0:T0):T0:=fun x0 x1 x2 x3 =>
 (bif (decide (x0<(x3.length:Int))) then
 (bi x0 (x3.length:Int)
 (bi 0 (x3.length:Int)
 (bif ((List.getD x3 (Int.toNat x0) (Ty.dflt aB)).2.1 != (List.getD x3 0 (Ty.dflt aB)).2.1) then
 (some (false,()))
 else
 (bi x0 (x3.length:Int)
 (bif (decide ((List.getD x3 (Int.toNat x0) (Ty.dflt aB)).2.2.1 > 100000)) then
 (some (false,()))
 else
 (L0 (aH (x0+1)) x1 x2 x3))))))
 else
 (some (true,())))
def l0 (k:Nat):Nat→T0
 | 0=>fun _ _ _ _=>none
 | n+1=>b0 k (l0 k n)
def t (k:Nat) (L0:T0) (a0:Ty.den eh):Rs :=
 ((aR.f k a0.1 0 100000).bind fun r1 =>
 (bif (!r1.1) then
 (some (false,()))
 else
 ((aR.f k a0.2.1 0 1000000).bind fun r2 =>
 (bif (!r2.1) then
 (some (false,()))
 else
 ((eZ.f k a0.2.2.1).bind fun r3 =>
 (bif (!r3.1) then
 (some (false,()))
 else
 (L0 0 a0.1 a0.2.1 a0.2.2.1)))))))
def f (k:Nat):=t k (l0 k k)
end gQ
namespace dN
abbrev Rs:Type:=Option (ByteArray × Unit)
abbrev T0:Type:=ByteArray→Int→Int→Int→List (Ty.den aB)→Rs
def b0 (k:Nat) (L0:T0):T0:=fun x0 x1 x2 x3 x4 =>
 (bif (decide (x1<(x4.length:Int))) then
 (bi x1 (x4.length:Int)
 ((bP.f k (ByteArray.size (List.getD x4 (Int.toNat x1) (Ty.dflt aB)).1:Int)).bind fun r5 =>
 (k_ x0 r5.1
 (k_ (x0++r5.1) (List.getD x4 (Int.toNat x1) (Ty.dflt aB)).1
 ((bP.f k (List.getD x4 (Int.toNat x1) (Ty.dflt aB)).2.1).bind fun r6 =>
 (k_ ((x0++r5.1)++(List.getD x4 (Int.toNat x1) (Ty.dflt aB)).1) r6.1
 ((bP.f k (List.getD x4 (Int.toNat x1) (Ty.dflt aB)).2.2.1).bind fun r7 =>
 (k_ (((x0++r5.1)++(List.getD x4 (Int.toNat x1) (Ty.dflt aB)).1)++r6.1) r7.1
 ((bP.f k (List.getD x4 (Int.toNat x1) (Ty.dflt aB)).2.2.2.1).bind fun r8 =>
 (k_ ((((x0++r5.1)++(List.getD x4 (Int.toNat x1) (Ty.dflt aB)).1)++r6.1)++r7.1) r8.1
 ((bP.f k (List.getD x4 (Int.toNat x1) (Ty.dflt aB)).2.2.2.2.1).bind fun r9 =>
 (k_ (((((x0++r5.1)++(List.getD x4 (Int.toNat x1) (Ty.dflt aB)).1)++r6.1)++r7.1)++r8.1) r9.1
 (L0 ((((((x0++r5.1)++(List.getD x4 (Int.toNat x1) (Ty.dflt aB)).1)++r6.1)++r7.1)++r8.1)++r9.1) (aH (x1+1)) x2 x3 x4)))))))))))))
 else
 ((fg.f k x0).bind fun r10 =>
 ((dI.f k r10.1 4).bind fun r11 =>
 (k_ r11.1 x0
 (some ((r11.1++x0),()))))))
def l0 (k:Nat):Nat→T0
 | 0=>fun _ _ _ _ _=>none
 | n+1=>b0 k (l0 k n)
def t (k:Nat) (L0:T0) (a0:Ty.den eh):Rs :=
 ((gQ.f k a0).bind fun r1 =>
 (bif (!r1.1) then
 (some ((⟨#[]⟩:ByteArray),()))
 else
 ((bP.f k a0.1).bind fun r2 =>
 ((bP.f k a0.2.1).bind fun r3 =>
 (k_ r2.1 r3.1
 ((bP.f k (List.length a0.2.2.1:Int)).bind fun r4 =>
 (k_ (r2.1++r3.1) r4.1
 (L0 ((r2.1++r3.1)++r4.1) 0 a0.1 a0.2.1 a0.2.2.1))))))))
def f (k:Nat):=t k (l0 k k)
end dN
namespace bJ
abbrev Rs:Type:=Option ((Ty.den eh) × Bool × Unit)
abbrev T0:Type:=ByteArray→Int→Int→List (Ty.den aB)→Int→Int→List Int→List (Ty.den aB)→Int→Int→Rs
def b0 (k:Nat) (L0:T0):T0:=fun x0 x1 x2 x3 x4 x5 x6 x7 x8 x9 =>
 (bi 2 (x6.length:Int)
 (bif (decide (x2<(List.getD x6 2 (Ty.dflt (.int .i64))))) then
 (pV x1 (ByteArray.size x0:Int)
 ((cK.f k (ByteArray.extract x0 (Int.toNat x1) (ByteArray.size x0))).bind fun r2 =>
 ((bT.f k r2.2.1 0 4).bind fun r3 =>
 (bif (!r2.2.2.1) then
 (some ((0,(0,([],()))),(false,())))
 else
 (bif (decide (r3.2.1<0)) then
 (some ((0,(0,([],()))),(false,())))
 else
 (bi 0 (List.length r3.1:Int)
 (bi 1 (List.length r3.1:Int)
 (bi 2 (List.length r3.1:Int)
 (bi 3 (List.length r3.1:Int)
 (rm (Ty.bytes aB) (List.length x7+1)
 (L0 x0 (aH ((aH ((ByteArray.size x0:Int)-(ByteArray.size r2.2.1:Int)))+r3.2.1)) (aH (x2+1)) x3 x4 x5 x6 (x7++[(r2.1,((List.getD r3.1 0 (Ty.dflt (.int .i64))),((List.getD r3.1 1 (Ty.dflt (.int .i64))),((List.getD r3.1 2 (Ty.dflt (.int .i64))),((List.getD r3.1 3 (Ty.dflt (.int .i64))),())))))]) x8 x9)))))))))))
 else
 ((dN.f k (x8,(x9,(x7,())))).bind fun r4 =>
 (bif (!(seq r4.1 x0)) then
 (some ((0,(0,([],()))),(false,())))
 else
 (some ((x8,(x9,(x7,()))),(true,())))))))
def l0 (k:Nat):Nat→T0
 | 0=>fun _ _ _ _ _ _ _ _ _ _=>none
 | n+1=>b0 k (l0 k n)
def t (k:Nat) (L0:T0) (a0:ByteArray):Rs :=
 (bif (decide ((ByteArray.size a0:Int)<4)) then
 (some ((0,(0,([],()))),(false,())))
 else
 ((bT.f k a0 4 3).bind fun r1 =>
 (bif (decide (r1.2.1<0)) then
 (some ((0,(0,([],()))),(false,())))
 else
 (bi 2 (List.length r1.1:Int)
 (bif (decide ((List.getD r1.1 2 (Ty.dflt (.int .i64))) > 20)) then
 (some ((0,(0,([],()))),(false,())))
 else
 (bi 0 (List.length r1.1:Int)
 (bi 1 (List.length r1.1:Int)
 (L0 a0 r1.2.1 0 [] 0 0 r1.1 [] (List.getD r1.1 0 (Ty.dflt (.int .i64))) (List.getD r1.1 1 (Ty.dflt (.int .i64)))))))))))
def f (k:Nat):=t k (l0 k k)
end bJ
namespace fY
abbrev Rs:Type:=Option (Int × Unit)
abbrev T0:Type:=List (Ty.den ax)→ByteArray→Int→Rs
def b0 (k:Nat) (L0:T0):T0:=fun x0 x1 x2 =>
 (bif (decide (x2<(x0.length:Int))) then
 (bi x2 (x0.length:Int)
 ((c8.f k (List.getD x0 (Int.toNat x2) (Ty.dflt ax))).bind fun r1 =>
 (k_ x1 r1.1
 (L0 x0 (x1++r1.1) (aH (x2+1))))))
 else
 ((fg.f k x1).bind fun r2 =>
 (some r2)))
def l0 (k:Nat):Nat→T0
 | 0=>fun _ _ _=>none
 | n+1=>b0 k (l0 k n)
def t (k:Nat) (L0:T0) (a0:List (Ty.den ax)):Rs :=
 (L0 a0 (⟨#[]⟩:ByteArray) 0)
def f (k:Nat):=t k (l0 k k)
end fY
namespace di
abbrev Rs:Type:=Option ((Ty.den eh) × Bool × Unit)
abbrev T0:Type:=Int→Int→List (Ty.den aB)→Int→Int→List (Ty.den b9)→List (Ty.den aB)→Int→Int→List (Ty.den ax)→Rs
def b0 (k:Nat) (L0:T0):T0:=fun x0 x1 x2 x3 x4 x5 x6 x7 x8 x9 =>
 (bif (decide ((aH (x1+1))<(x5.length:Int))) then
 (bi x1 (x5.length:Int)
 (bif ((List.getD x5 (Int.toNat x1) (Ty.dflt b9)).2.2.1.1 != 4) then
 (some ((0,(0,([],()))),(false,())))
 else
 (bif (decide ((List.getD x5 (Int.toNat x1) (Ty.dflt b9)).2.2.1.2.1 > x8)) then
 (some ((0,(0,([],()))),(false,())))
 else
 (bif (decide (x1 > 0)) then
 (bi (aH (x1-1)) (x5.length:Int)
 (bif ((mN (List.getD x5 (Int.toNat x1) (Ty.dflt b9)).2.2.1.2.2.1 (List.getD x5 (Int.toNat (aH (x1-1))) (Ty.dflt b9)).2.2.1.2.2.1)||(seq (List.getD x5 (Int.toNat x1) (Ty.dflt b9)).2.2.1.2.2.1 (List.getD x5 (Int.toNat (aH (x1-1))) (Ty.dflt b9)).2.2.1.2.2.1)) then
 (some ((0,(0,([],()))),(false,())))
 else
 (rm (Ty.bytes ax) (List.length x9+1)
 (bi x1 (x5.length:Int)
 (bi x1 (x5.length:Int)
 (rm (Ty.bytes aB) (List.length x6+1)
 (L0 x0 (aH (x1+1)) x2 x3 x4 x5 (x6++[((List.getD x5 (Int.toNat x1) (Ty.dflt b9)).2.2.1.2.2.1,(x0,((List.getD x5 (Int.toNat x1) (Ty.dflt b9)).1,((List.getD x5 (Int.toNat x1) (Ty.dflt b9)).2.1,((List.getD x5 (Int.toNat x1) (Ty.dflt b9)).2.2.1.2.1,())))))]) x7 x8 (x9++[(List.getD x5 (Int.toNat x1) (Ty.dflt b9)).2.2.1]))))))))
 else
 (rm (Ty.bytes ax) (List.length x9+1)
 (bi x1 (x5.length:Int)
 (bi x1 (x5.length:Int)
 (rm (Ty.bytes aB) (List.length x6+1)
 (L0 x0 (aH (x1+1)) x2 x3 x4 x5 (x6++[((List.getD x5 (Int.toNat x1) (Ty.dflt b9)).2.2.1.2.2.1,(x0,((List.getD x5 (Int.toNat x1) (Ty.dflt b9)).1,((List.getD x5 (Int.toNat x1) (Ty.dflt b9)).2.1,((List.getD x5 (Int.toNat x1) (Ty.dflt b9)).2.2.1.2.1,())))))]) x7 x8 (x9++[(List.getD x5 (Int.toNat x1) (Ty.dflt b9)).2.2.1]))))))))))
 else
 (bi (aH ((x5.length:Int)-1)) (x5.length:Int)
 (bif ((List.getD x5 (Int.toNat (aH ((x5.length:Int)-1))) (Ty.dflt b9)).2.2.1.2.2.2.2.1 != (x9.length:Int)) then
 (some ((0,(0,([],()))),(false,())))
 else
 ((fY.f k x9).bind fun r3 =>
 (bif ((List.getD x5 (Int.toNat (aH ((x5.length:Int)-1))) (Ty.dflt b9)).2.2.1.2.2.2.2.2.1 != r3.1) then
 (some ((0,(0,([],()))),(false,())))
 else
 (some ((x7,(x8,(x6,()))),(true,()))))))))
def l0 (k:Nat):Nat→T0
 | 0=>fun _ _ _ _ _ _ _ _ _ _=>none
 | n+1=>b0 k (l0 k n)
def t (k:Nat) (L0:T0) (a0:Int) (a1:ByteArray):Rs :=
 ((bN.f k a1).bind fun r1 =>
 (bif (r1.2.1 != (ByteArray.size a1:Int)) then
 (some ((0,(0,([],()))),(false,())))
 else
 (bif ((List.length r1.1:Int)==0) then
 (some ((0,(0,([],()))),(false,())))
 else
 (bi (aH ((List.length r1.1:Int)-1)) (List.length r1.1:Int)
 (bif ((List.getD r1.1 (Int.toNat (aH ((List.length r1.1:Int)-1))) (Ty.dflt b9)).2.2.1.1 != 5) then
 (some ((0,(0,([],()))),(false,())))
 else
 ((aQ.f k a0).bind fun r2 =>
 (bif (seq r2.1 (⟨#[]⟩:ByteArray)) then
 (some ((0,(0,([],()))),(false,())))
 else
 (bi (aH ((List.length r1.1:Int)-1)) (List.length r1.1:Int)
 (L0 a0 0 [] 0 0 r1.1 [] (ByteArray.size a1:Int) (List.getD r1.1 (Int.toNat (aH ((List.length r1.1:Int)-1))) (Ty.dflt b9)).2.2.1.2.1 [])))))))))
def f (k:Nat):=t k (l0 k k)
end di
namespace fB
abbrev Rs:Type:=Option (Bool × Unit)
abbrev T0:Type:=List (Ty.den aB)→List (Ty.den aB)→Int→Rs
def b0 (k:Nat) (L0:T0):T0:=fun x0 x1 x2 =>
 (bif (decide (x2<(x0.length:Int))) then
 (bi x2 (x0.length:Int)
 (bi x2 (x1.length:Int)
 (bif (!((seq (List.getD x0 (Int.toNat x2) (Ty.dflt aB)).1 (List.getD x1 (Int.toNat x2) (Ty.dflt aB)).1)&&(((List.getD x0 (Int.toNat x2) (Ty.dflt aB)).2.1==(List.getD x1 (Int.toNat x2) (Ty.dflt aB)).2.1)&&(((List.getD x0 (Int.toNat x2) (Ty.dflt aB)).2.2.1==(List.getD x1 (Int.toNat x2) (Ty.dflt aB)).2.2.1)&&(((List.getD x0 (Int.toNat x2) (Ty.dflt aB)).2.2.2.1==(List.getD x1 (Int.toNat x2) (Ty.dflt aB)).2.2.2.1)&&((List.getD x0 (Int.toNat x2) (Ty.dflt aB)).2.2.2.2.1==(List.getD x1 (Int.toNat x2) (Ty.dflt aB)).2.2.2.2.1)))))) then
 (some (false,()))
 else
 (L0 x0 x1 (aH (x2+1))))))
 else
 (some (true,())))
def l0 (k:Nat):Nat→T0
 | 0=>fun _ _ _=>none
 | n+1=>b0 k (l0 k n)
def t (k:Nat) (L0:T0) (a0:List (Ty.den aB)) (a1:List (Ty.den aB)):Rs :=
 (bif ((List.length a0:Int) != (List.length a1:Int)) then
 (some (false,()))
 else
 (L0 a0 a1 0))
def f (k:Nat):=t k (l0 k k)
end fB
namespace gV
abbrev Rs:Type:=Option (Bool × Unit)
def t (k:Nat) (a0:Int) (a1:ByteArray) (a2:Ty.den eh):Rs :=
 ((di.f k a0 a1).bind fun r1 =>
 (bif r1.2.1 then
 (bif (r1.1.1==a2.1) then
 (bif (r1.1.2.1==a2.2.1) then
 ((fB.f k r1.1.2.2.1 a2.2.2.1).bind fun r2 =>
 (some r2))
 else
 (some (false,())))
 else
 (some (false,())))
 else
 (some (false,()))))
def f (k:Nat):=t k
end gV
namespace bQ
abbrev Rs:Type:=Option ((List (Ty.den aD)) × Unit)
abbrev T0:Type:=Int→Int→List (Ty.den aD)→List (Ty.den b9)→Rs
def b0 (k:Nat) (L0:T0):T0:=fun x0 x1 x2 x3 =>
 (bif (decide (x1<(x3.length:Int))) then
 (bi x1 (x3.length:Int)
 (bi x1 (x3.length:Int)
 (bi x1 (x3.length:Int)
 (rm (Ty.bytes aD) (List.length x2+1)
 (L0 x0 (aH (x1+1)) (x2++[(x0,((List.getD x3 (Int.toNat x1) (Ty.dflt b9)).1,((List.getD x3 (Int.toNat x1) (Ty.dflt b9)).2.1,(List.getD x3 (Int.toNat x1) (Ty.dflt b9)).2.2)))]) x3)))))
 else
 (some (x2,())))
def l0 (k:Nat):Nat→T0
 | 0=>fun _ _ _ _=>none
 | n+1=>b0 k (l0 k n)
def t (k:Nat) (L0:T0) (a0:Int) (a1:ByteArray):Rs :=
 ((bN.f k a1).bind fun r1 =>
 (L0 a0 0 [] r1.1))
def f (k:Nat):=t k (l0 k k)
end bQ
namespace iA
abbrev Rs:Type:=Option ((List (Ty.den aD)) × Unit)
abbrev T0:Type:=List (Ty.den aD)→Int→Int→Int→List (Ty.den aD)→Rs
def b0 (k:Nat) (L0:T0):T0:=fun x0 x1 x2 x3 x4 =>
 (bif (decide (x3<x1)) then
 (bi x3 (x0.length:Int)
 (bif ((List.getD x0 (Int.toNat x3) (Ty.dflt aD)).2.2.2.1.2.1==x2) then
 (bif ((List.getD x0 (Int.toNat x3) (Ty.dflt aD)).2.2.2.1.1==3) then
 (bif ((List.getD x0 (Int.toNat x3) (Ty.dflt aD)).2.2.2.1.2.1==x2) then
 (bif ((List.getD x0 (Int.toNat x3) (Ty.dflt aD)).2.2.2.1.1==1) then
 (bi x3 (x0.length:Int)
 (rm (Ty.bytes aD) (0+1)
 (L0 x0 x1 x2 (aH (x3+1)) ([]++[(List.getD x0 (Int.toNat x3) (Ty.dflt aD))]))))
 else
 (bif ((List.getD x0 (Int.toNat x3) (Ty.dflt aD)).2.2.2.1.1==2) then
 (bi x3 (x0.length:Int)
 (rm (Ty.bytes aD) (0+1)
 (L0 x0 x1 x2 (aH (x3+1)) ([]++[(List.getD x0 (Int.toNat x3) (Ty.dflt aD))]))))
 else
 (L0 x0 x1 x2 (aH (x3+1)) [])))
 else
 (L0 x0 x1 x2 (aH (x3+1)) []))
 else
 (bif ((List.getD x0 (Int.toNat x3) (Ty.dflt aD)).2.2.2.1.2.1==x2) then
 (bif ((List.getD x0 (Int.toNat x3) (Ty.dflt aD)).2.2.2.1.1==1) then
 (bi x3 (x0.length:Int)
 (rm (Ty.bytes aD) (List.length x4+1)
 (L0 x0 x1 x2 (aH (x3+1)) (x4++[(List.getD x0 (Int.toNat x3) (Ty.dflt aD))]))))
 else
 (bif ((List.getD x0 (Int.toNat x3) (Ty.dflt aD)).2.2.2.1.1==2) then
 (bi x3 (x0.length:Int)
 (rm (Ty.bytes aD) (List.length x4+1)
 (L0 x0 x1 x2 (aH (x3+1)) (x4++[(List.getD x0 (Int.toNat x3) (Ty.dflt aD))]))))
 else
 (L0 x0 x1 x2 (aH (x3+1)) x4)))
 else
 (L0 x0 x1 x2 (aH (x3+1)) x4)))
 else
 (bif ((List.getD x0 (Int.toNat x3) (Ty.dflt aD)).2.2.2.1.2.1==x2) then
 (bif ((List.getD x0 (Int.toNat x3) (Ty.dflt aD)).2.2.2.1.1==1) then
 (bi x3 (x0.length:Int)
 (rm (Ty.bytes aD) (List.length x4+1)
 (L0 x0 x1 x2 (aH (x3+1)) (x4++[(List.getD x0 (Int.toNat x3) (Ty.dflt aD))]))))
 else
 (bif ((List.getD x0 (Int.toNat x3) (Ty.dflt aD)).2.2.2.1.1==2) then
 (bi x3 (x0.length:Int)
 (rm (Ty.bytes aD) (List.length x4+1)
 (L0 x0 x1 x2 (aH (x3+1)) (x4++[(List.getD x0 (Int.toNat x3) (Ty.dflt aD))]))))
 else
 (L0 x0 x1 x2 (aH (x3+1)) x4)))
 else
 (L0 x0 x1 x2 (aH (x3+1)) x4))))
 else
 (some (x4,())))
def l0 (k:Nat):Nat→T0
 | 0=>fun _ _ _ _ _=>none
 | n+1=>b0 k (l0 k n)
def t (k:Nat) (L0:T0) (a0:List (Ty.den aD)) (a1:Int) (a2:Int):Rs :=
 (L0 a0 a1 a2 0 [])
def f (k:Nat):=t k (l0 k k)
end iA
namespace fc
abbrev Rs:Type:=Option ((List (Ty.den ax)) × Unit)
abbrev T0:Type:=List (Ty.den aD)→Int→List (Ty.den ax)→Rs
def b0 (k:Nat) (L0:T0):T0:=fun x0 x1 x2 =>
 (bif (decide (x1<(x0.length:Int))) then
 (bi x1 (x0.length:Int)
 (rm (Ty.bytes ax) (List.length x2+1)
 (L0 x0 (aH (x1+1)) (x2++[(List.getD x0 (Int.toNat x1) (Ty.dflt aD)).2.2.2.1]))))
 else
 (some (x2,())))
def l0 (k:Nat):Nat→T0
 | 0=>fun _ _ _=>none
 | n+1=>b0 k (l0 k n)
def t (k:Nat) (L0:T0) (a0:List (Ty.den aD)):Rs :=
 (L0 a0 0 [])
def f (k:Nat):=t k (l0 k k)
end fc
namespace iU
abbrev Rs:Type:=Option (Bool × Unit)
def t (k:Nat) (a0:Ty.den ax) (a1:List (Ty.den aD)):Rs :=
 (bif (a0.2.2.2.2.1==(List.length a1:Int)) then
 ((fc.f k a1).bind fun r1 =>
 ((fY.f k r1.1).bind fun r2 =>
 (some ((a0.2.2.2.2.2.1==r2.1),()))))
 else
 (some (false,())))
def f (k:Nat):=t k
end iU
namespace co
abbrev Rs:Type:=Option ((List (Ty.den aB)) × Unit)
abbrev T0:Type:=List (Ty.den aB)→ByteArray→Int→List (Ty.den aB)→Rs
def b0 (k:Nat) (L0:T0):T0:=fun x0 x1 x2 x3 =>
 (bif (decide (x2<(x0.length:Int))) then
 (bi x2 (x0.length:Int)
 (bif (!(seq (List.getD x0 (Int.toNat x2) (Ty.dflt aB)).1 x1)) then
 (bi x2 (x0.length:Int)
 (rm (Ty.bytes aB) (List.length x3+1)
 (L0 x0 x1 (aH (x2+1)) (x3++[(List.getD x0 (Int.toNat x2) (Ty.dflt aB))]))))
 else
 (L0 x0 x1 (aH (x2+1)) x3)))
 else
 (some (x3,())))
def l0 (k:Nat):Nat→T0
 | 0=>fun _ _ _ _=>none
 | n+1=>b0 k (l0 k n)
def t (k:Nat) (L0:T0) (a0:List (Ty.den aB)) (a1:ByteArray):Rs :=
 (L0 a0 a1 0 [])
def f (k:Nat):=t k (l0 k k)
end co
namespace bV
abbrev Rs:Type:=Option ((List (Ty.den aB)) × Unit)
abbrev T0:Type:=List (Ty.den aB)→Bool→Int→ByteArray→Int→Int→Int→Int→List (Ty.den aB)→Rs
def b0 (k:Nat) (L0:T0):T0:=fun x0 x1 x2 x3 x4 x5 x6 x7 x8 =>
 (bif (decide (x2<(x0.length:Int))) then
 (bi x2 (x0.length:Int)
 (bif (seq (List.getD x0 (Int.toNat x2) (Ty.dflt aB)).1 x3) then
 (L0 x0 x1 (aH (x2+1)) x3 x4 x5 x6 x7 x8)
 else
 (bif (!x1) then
 (bi x2 (x0.length:Int)
 (bif (!((mN (List.getD x0 (Int.toNat x2) (Ty.dflt aB)).1 x3)||(seq (List.getD x0 (Int.toNat x2) (Ty.dflt aB)).1 x3))) then
 (rm (Ty.bytes aB) (List.length x8+1)
 (bi x2 (x0.length:Int)
 (rm (Ty.bytes aB) (List.length (x8++[(x3,(x4,(x5,(x6,(x7,())))))])+1)
 (L0 x0 true (aH (x2+1)) x3 x4 x5 x6 x7 ((x8++[(x3,(x4,(x5,(x6,(x7,())))))])++[(List.getD x0 (Int.toNat x2) (Ty.dflt aB))])))))
 else
 (bi x2 (x0.length:Int)
 (rm (Ty.bytes aB) (List.length x8+1)
 (L0 x0 x1 (aH (x2+1)) x3 x4 x5 x6 x7 (x8++[(List.getD x0 (Int.toNat x2) (Ty.dflt aB))]))))))
 else
 (bi x2 (x0.length:Int)
 (rm (Ty.bytes aB) (List.length x8+1)
 (L0 x0 x1 (aH (x2+1)) x3 x4 x5 x6 x7 (x8++[(List.getD x0 (Int.toNat x2) (Ty.dflt aB))])))))))
 else
 (bif (!x1) then
 (rm (Ty.bytes aB) (List.length x8+1)
 (some ((x8++[(x3,(x4,(x5,(x6,(x7,())))))]),())))
 else
 (some (x8,()))))
def l0 (k:Nat):Nat→T0
 | 0=>fun _ _ _ _ _ _ _ _ _=>none
 | n+1=>b0 k (l0 k n)
def t (k:Nat) (L0:T0) (a0:List (Ty.den aB)) (a1:Ty.den aB):Rs :=
 (L0 a0 false 0 a1.1 a1.2.1 a1.2.2.1 a1.2.2.2.1 a1.2.2.2.2.1 [])
def f (k:Nat):=t k (l0 k k)
end bV
namespace gp
abbrev Rs:Type:=Option ((List (Ty.den aB)) × Unit)
def t (k:Nat) (a0:List (Ty.den aB)) (a1:Ty.den aD):Rs :=
 (bif (a1.2.2.2.1.1==2) then
 ((co.f k a0 a1.2.2.2.1.2.2.1).bind fun r1 =>
 (some r1))
 else
 ((bV.f k a0 (a1.2.2.2.1.2.2.1,(a1.1,(a1.2.1,(a1.2.2.1,(a1.2.2.2.1.2.1,())))))).bind fun r2 =>
 (some r2)))
def f (k:Nat):=t k
end gp
namespace eg
abbrev Rs:Type:=Option ((List (Ty.den aD)) × Unit)
abbrev T0:Type:=List (Ty.den aD)→Int→Int→List (Ty.den aD)→Rs
def b0 (k:Nat) (L0:T0):T0:=fun x0 x1 x2 x3 =>
 (bif (decide (x2<x1)) then
 (bi x2 (x0.length:Int)
 (bif ((List.getD x0 (Int.toNat x2) (Ty.dflt aD)).2.2.2.1.1==5) then
 (bi x2 (x0.length:Int)
 (bif ((List.getD x0 (Int.toNat x2) (Ty.dflt aD)).2.2.2.1.1==4) then
 (bi x2 (x0.length:Int)
 (rm (Ty.bytes aD) (0+1)
 (L0 x0 x1 (aH (x2+1)) ([]++[(List.getD x0 (Int.toNat x2) (Ty.dflt aD))]))))
 else
 (L0 x0 x1 (aH (x2+1)) [])))
 else
 (bi x2 (x0.length:Int)
 (bif ((List.getD x0 (Int.toNat x2) (Ty.dflt aD)).2.2.2.1.1==4) then
 (bi x2 (x0.length:Int)
 (rm (Ty.bytes aD) (List.length x3+1)
 (L0 x0 x1 (aH (x2+1)) (x3++[(List.getD x0 (Int.toNat x2) (Ty.dflt aD))]))))
 else
 (L0 x0 x1 (aH (x2+1)) x3)))))
 else
 (some (x3,())))
def l0 (k:Nat):Nat→T0
 | 0=>fun _ _ _ _=>none
 | n+1=>b0 k (l0 k n)
def t (k:Nat) (L0:T0) (a0:List (Ty.den aD)) (a1:Int):Rs :=
 (L0 a0 a1 0 [])
def f (k:Nat):=t k (l0 k k)
end eg
namespace bx
abbrev Rs:Type:=Option ((Ty.den kO) × Unit)
abbrev T1:Type:=List (Ty.den aD)→Int→Int→List (Ty.den aB)→Int→Int→List (Ty.den aB)→Int→Int→List (Ty.den aD)→Rs
abbrev T0:Type:=List (Ty.den aD)→Int→List (Ty.den aB)→Int→Int→List (Ty.den aB)→Int→Int→Rs
def b1 (k:Nat) (L0:T0) (L1:T1):T1:=fun x0 x1 x2 x3 x4 x5 x6 x7 x8 x9 =>
 (bif (decide (x2<(x9.length:Int))) then
 (bi x2 (x9.length:Int)
 ((gp.f k x6 (List.getD x9 (Int.toNat x2) (Ty.dflt aD))).bind fun r3 =>
 (L1 x0 x1 (aH (x2+1)) x3 x4 x5 r3.1 x7 x8 x9)))
 else
 (bif (decide ((x6.length:Int) > 20)) then
 (L0 x0 (aH (x1+1)) x3 x4 x5 x6 x7 2)
 else
 (L0 x0 (aH (x1+1)) x3 x4 x5 x6 x7 x8)))
def l1 (k:Nat) (L0:T0):Nat→T1
 | 0=>fun _ _ _ _ _ _ _ _ _ _=>none
 | n+1=>b1 k L0 (l1 k L0 n)
def b0 (k:Nat) (L1:T1) (L0:T0):T0:=fun x0 x1 x2 x3 x4 x5 x6 x7 =>
 (bif (decide (x1<(x0.length:Int))) then
 (bif (x7==0) then
 (bi x1 (x0.length:Int)
 (bif ((List.getD x0 (Int.toNat x1) (Ty.dflt aD)).2.2.2.1.1==3) then
 ((iA.f k x0 x1 (List.getD x0 (Int.toNat x1) (Ty.dflt aD)).2.2.2.1.2.1).bind fun r1 =>
 ((iU.f k (List.getD x0 (Int.toNat x1) (Ty.dflt aD)).2.2.2.1 r1.1).bind fun r2 =>
 (bif (!r2.1) then
 (L0 x0 (aH (x1+1)) x2 x3 x4 x5 (if (List.getD x0 (Int.toNat x1) (Ty.dflt aD)).2.2.2.1.2.1 > x6 then (List.getD x0 (Int.toNat x1) (Ty.dflt aD)).2.2.2.1.2.1 else x6) x7)
 else
 (L1 x0 x1 0 x2 x3 x4 x5 (if (List.getD x0 (Int.toNat x1) (Ty.dflt aD)).2.2.2.1.2.1 > x6 then (List.getD x0 (Int.toNat x1) (Ty.dflt aD)).2.2.2.1.2.1 else x6) x7 r1.1))))
 else
 (bif ((List.getD x0 (Int.toNat x1) (Ty.dflt aD)).2.2.2.1.1==5) then
 ((eg.f k x0 x1).bind fun r4 =>
 ((iU.f k (List.getD x0 (Int.toNat x1) (Ty.dflt aD)).2.2.2.1 r4.1).bind fun r5 =>
 (bif (!r5.1) then
 (L0 x0 (aH (x1+1)) x2 x3 x4 x5 (if (List.getD x0 (Int.toNat x1) (Ty.dflt aD)).2.2.2.1.2.1 > x6 then (List.getD x0 (Int.toNat x1) (Ty.dflt aD)).2.2.2.1.2.1 else x6) 1)
 else
 (L1 x0 x1 0 x2 x3 x4 x5 (if (List.getD x0 (Int.toNat x1) (Ty.dflt aD)).2.2.2.1.2.1 > x6 then (List.getD x0 (Int.toNat x1) (Ty.dflt aD)).2.2.2.1.2.1 else x6) x7 r4.1))))
 else
 (L0 x0 (aH (x1+1)) x2 x3 x4 x5 (if (List.getD x0 (Int.toNat x1) (Ty.dflt aD)).2.2.2.1.2.1 > x6 then (List.getD x0 (Int.toNat x1) (Ty.dflt aD)).2.2.2.1.2.1 else x6) x7))))
 else
 (bif (x7==0) then
 ((eg.f k x0 (x0.length:Int)).bind fun r6 =>
 (bif (decide ((List.length r6.1:Int) > 0)) then
 (some ((x5,(x6,(1,()))),()))
 else
 (some ((x5,(x6,(x7,()))),()))))
 else
 (some ((x5,(x6,(x7,()))),()))))
 else
 (bif (x7==0) then
 ((eg.f k x0 (x0.length:Int)).bind fun r7 =>
 (bif (decide ((List.length r7.1:Int) > 0)) then
 (some ((x5,(x6,(1,()))),()))
 else
 (some ((x5,(x6,(x7,()))),()))))
 else
 (some ((x5,(x6,(x7,()))),()))))
def l0 (k:Nat):Nat→T0
 | 0=>fun _ _ _ _ _ _ _ _=>none
 | n+1=>b0 k (l1 k (l0 k n) k) (l0 k n)
def t (k:Nat) (L0:T0) (a0:Ty.den kO) (a1:List (Ty.den aD)):Rs :=
 (rm (Ty.bytes aB) (0+List.length a0.1)
 (L0 a1 0 [] 0 0 ([]++a0.1) a0.2.1 a0.2.2.1))
def f (k:Nat):=t k (l0 k k)
end bx
namespace bh
abbrev Rs:Type:=Option ((Ty.den a_) × Int × Unit)
abbrev T0:Type:=Int→List (Ty.den aF)→Int→Int→Bool→List (Ty.den aF)→Int→Int→Bool→List ByteArray→Rs
def b0 (k:Nat) (L0:T0):T0:=fun x0 x1 x2 x3 x4 x5 x6 x7 x8 x9 =>
 (bif (decide (x0<(x9.length:Int))) then
 (bi x0 (x9.length:Int)
 ((g_.f k (x1,(x2,(x3,(x4,())))) (List.getD x9 (Int.toNat x0) (Ty.dflt .str))).bind fun r2 =>
 (bif (r2.2.1 != 0) then
 ((aU.f k r2.2.1).bind fun r3 =>
 (some (r2.1,r3)))
 else
 (L0 (aH (x0+1)) r2.1.1 r2.1.2.1 r2.1.2.2.1 r2.1.2.2.2.1 x5 x6 x7 x8 x9))))
 else
 (some ((x1,(x2,(x3,(x4,())))),(0,()))))
def l0 (k:Nat):Nat→T0
 | 0=>fun _ _ _ _ _ _ _ _ _ _=>none
 | n+1=>b0 k (l0 k n)
def t (k:Nat) (L0:T0) (a0:Ty.den a_) (a1:Ty.den bE):Rs :=
 ((bK.f k a0 a1).bind fun r1 =>
 (L0 0 a0.1 a0.2.1 a0.2.2.1 a0.2.2.2.1 [] 0 0 false r1.1))
def f (k:Nat):=t k (l0 k k)
end bh
namespace gC
abbrev Rs:Type:=Option ((Ty.den aE) × (Ty.den a_) × Int × Unit)
def t (k:Nat) (a0:Ty.den a_):Rs :=
 ((bh.f k a0 (0,([],()))).bind fun r1 =>
 (bif (r1.2.1 != 0) then
 (some (((0,([],())),([],(0,(0,(0,()))))),r1))
 else
 ((aQ.f k 1).bind fun r2 =>
 ((eY.f k r1.1 r2.1).bind fun r3 =>
 (bif (r3.2.1 != 0) then
 ((aU.f k r3.2.1).bind fun r4 =>
 (some (((0,([],())),([],(0,(0,(0,()))))),(r3.1,r4))))
 else
 ((eQ.f k r3.1 (2,([1],()))).bind fun r5 =>
 (bif (r5.2.1 != 0) then
 (some (((0,([],())),([],(0,(0,(0,()))))),r5))
 else
 (some (((2,([1],())),([],(1,(0,(0,()))))),(r5.1,(0,())))))))))))
def f (k:Nat):=t k
end gC
namespace b7
abbrev Rs:Type:=Option ((Ty.den aE) × (Ty.den a_) × Int × Unit)
abbrev T1:Type:=Int→List Int→List (Ty.den aB)→Int→Int→Int→Int→List (Ty.den aF)→Int→Int→Bool→List Int→List (Ty.den aB)→Int→Int→Int→Int→List Int→Int→List (Ty.den aF)→Int→Int→Bool→List (Ty.den aB)→Int→Int→Int→Int→List (Ty.den aB)→Int→Int→List (Ty.den aD)→Rs
abbrev T2:Type:=Int→List Int→List (Ty.den aB)→Int→Int→Int→Int→List (Ty.den aF)→Int→Int→Bool→List Int→List (Ty.den aB)→Int→Int→Int→Int→List Int→Int→List (Ty.den aF)→Int→Int→Bool→List (Ty.den aB)→Int→Int→Int→Int→List (Ty.den aB)→Int→Int→List (Ty.den aD)→Rs
abbrev T0:Type:=Int→Int→List (Ty.den aF)→Int→Int→Bool→List Int→List (Ty.den aB)→Int→Int→Int→Int→List (Ty.den aF)→Int→Int→Bool→List Int→List (Ty.den aB)→Int→Int→Int→Int→List Int→Int→Rs
def b1 (k:Nat) (L1:T1):T1:=fun x0 x1 x2 x3 x4 x5 x6 x7 x8 x9 x10 x11 x12 x13 x14 x15 x16 x17 x18 x19 x20 x21 x22 x23 x24 x25 x26 x27 x28 x29 x30 x31 =>
 (bif (decide (x0<(x17.length:Int))) then
 (bi x0 (x17.length:Int)
 ((aQ.f k (List.getD x17 (Int.toNat x0) (Ty.dflt (.int .i64)))).bind fun r23 =>
 ((bF.f k (x19,(x20,(x21,(x22,())))) r23.1).bind fun r24 =>
 (bi x0 (x17.length:Int)
 ((cZ.f k (List.getD x17 (Int.toNat x0) (Ty.dflt (.int .i64)))).bind fun r25 =>
 ((bF.f k (x19,(x20,(x21,(x22,())))) r25.1).bind fun r26 =>
 ((bJ.f k r26.1).bind fun r27 =>
 (bif (x0==0) then
 (bif r26.2.1 then
 (bif r27.2.1 then
 (bi 0 (x17.length:Int)
 ((gV.f k (List.getD x17 0 (Ty.dflt (.int .i64))) r24.1 r27.1).bind fun r28 =>
 (bif r28.1 then
 (bi 0 (x17.length:Int)
 (L1 (aH (x0+1)) x1 x2 x3 x4 x5 x6 x7 x8 x9 x10 x11 x12 x13 x14 x15 x16 x17 x18 x19 x20 x21 x22 x23 x24 x25 x26 (List.getD x17 0 (Ty.dflt (.int .i64))) r27.1.2.2.1 r27.1.2.1 x30 x31))
 else
 (bi x0 (x17.length:Int)
 ((bQ.f k (List.getD x17 (Int.toNat x0) (Ty.dflt (.int .i64))) r24.1).bind fun r29 =>
 (rm (Ty.bytes aD) (List.length x31+List.length r29.1)
 (L1 (aH (x0+1)) x1 x2 x3 x4 x5 x6 x7 x8 x9 x10 x11 x12 x13 x14 x15 x16 x17 x18 x19 x20 x21 x22 x23 x24 x25 x26 x27 x28 x29 x30 (x31++r29.1))))))))
 else
 (bi x0 (x17.length:Int)
 ((bQ.f k (List.getD x17 (Int.toNat x0) (Ty.dflt (.int .i64))) r24.1).bind fun r30 =>
 (rm (Ty.bytes aD) (List.length x31+List.length r30.1)
 (L1 (aH (x0+1)) x1 x2 x3 x4 x5 x6 x7 x8 x9 x10 x11 x12 x13 x14 x15 x16 x17 x18 x19 x20 x21 x22 x23 x24 x25 x26 x27 x28 x29 x30 (x31++r30.1))))))
 else
 (bi x0 (x17.length:Int)
 ((bQ.f k (List.getD x17 (Int.toNat x0) (Ty.dflt (.int .i64))) r24.1).bind fun r31 =>
 (rm (Ty.bytes aD) (List.length x31+List.length r31.1)
 (L1 (aH (x0+1)) x1 x2 x3 x4 x5 x6 x7 x8 x9 x10 x11 x12 x13 x14 x15 x16 x17 x18 x19 x20 x21 x22 x23 x24 x25 x26 x27 x28 x29 x30 (x31++r31.1))))))
 else
 (bi x0 (x17.length:Int)
 ((bQ.f k (List.getD x17 (Int.toNat x0) (Ty.dflt (.int .i64))) r24.1).bind fun r32 =>
 (rm (Ty.bytes aD) (List.length x31+List.length r32.1)
 (L1 (aH (x0+1)) x1 x2 x3 x4 x5 x6 x7 x8 x9 x10 x11 x12 x13 x14 x15 x16 x17 x18 x19 x20 x21 x22 x23 x24 x25 x26 x27 x28 x29 x30 (x31++r32.1)))))))))))))
 else
 ((bx.f k (x28,(x29,(x30,()))) x31).bind fun r33 =>
 (bif (r33.1.2.2.1 != 0) then
 (some (((x13,(x11,())),(x12,(x14,(x15,(x16,()))))),((x19,(x20,(x21,(x22,())))),(3,()))))
 else
 ((bh.f k (x19,(x20,(x21,(x22,())))) (x18,(x17,()))).bind fun r34 =>
 (bif (r34.2.1 != 0) then
 (some (((x13,(x11,())),(x12,(x14,(x15,(x16,()))))),r34))
 else
 (some (((x24,(x17,())),(r33.1.1,((aH (r33.1.2.1+1)),(x26,(x27,()))))),(r34.1,(0,())))))))))
def l1 (k:Nat):Nat→T1
 | 0=>fun _ _ _ _ _ _ _ _ _ _ _ _ _ _ _ _ _ _ _ _ _ _ _ _ _ _ _ _ _ _ _ _=>none
 | n+1=>b1 k (l1 k n)
def b2 (k:Nat) (L2:T2):T2:=fun x0 x1 x2 x3 x4 x5 x6 x7 x8 x9 x10 x11 x12 x13 x14 x15 x16 x17 x18 x19 x20 x21 x22 x23 x24 x25 x26 x27 x28 x29 x30 x31 =>
 (bif (decide (x0<(x17.length:Int))) then
 (bi x0 (x17.length:Int)
 ((aQ.f k (List.getD x17 (Int.toNat x0) (Ty.dflt (.int .i64)))).bind fun r38 =>
 ((bF.f k (x19,(x20,(x21,(x22,())))) r38.1).bind fun r39 =>
 (bi x0 (x17.length:Int)
 ((cZ.f k (List.getD x17 (Int.toNat x0) (Ty.dflt (.int .i64)))).bind fun r40 =>
 ((bF.f k (x19,(x20,(x21,(x22,())))) r40.1).bind fun r41 =>
 ((bJ.f k r41.1).bind fun r42 =>
 (bif (x0==0) then
 (bif r41.2.1 then
 (bif r42.2.1 then
 (bi 0 (x17.length:Int)
 ((gV.f k (List.getD x17 0 (Ty.dflt (.int .i64))) r39.1 r42.1).bind fun r43 =>
 (bif r43.1 then
 (bi 0 (x17.length:Int)
 (L2 (aH (x0+1)) x1 x2 x3 x4 x5 x6 x7 x8 x9 x10 x11 x12 x13 x14 x15 x16 x17 x18 x19 x20 x21 x22 x23 x24 x25 x26 (List.getD x17 0 (Ty.dflt (.int .i64))) r42.1.2.2.1 r42.1.2.1 x30 x31))
 else
 (bi x0 (x17.length:Int)
 ((bQ.f k (List.getD x17 (Int.toNat x0) (Ty.dflt (.int .i64))) r39.1).bind fun r44 =>
 (rm (Ty.bytes aD) (List.length x31+List.length r44.1)
 (L2 (aH (x0+1)) x1 x2 x3 x4 x5 x6 x7 x8 x9 x10 x11 x12 x13 x14 x15 x16 x17 x18 x19 x20 x21 x22 x23 x24 x25 x26 x27 x28 x29 x30 (x31++r44.1))))))))
 else
 (bi x0 (x17.length:Int)
 ((bQ.f k (List.getD x17 (Int.toNat x0) (Ty.dflt (.int .i64))) r39.1).bind fun r45 =>
 (rm (Ty.bytes aD) (List.length x31+List.length r45.1)
 (L2 (aH (x0+1)) x1 x2 x3 x4 x5 x6 x7 x8 x9 x10 x11 x12 x13 x14 x15 x16 x17 x18 x19 x20 x21 x22 x23 x24 x25 x26 x27 x28 x29 x30 (x31++r45.1))))))
 else
 (bi x0 (x17.length:Int)
 ((bQ.f k (List.getD x17 (Int.toNat x0) (Ty.dflt (.int .i64))) r39.1).bind fun r46 =>
 (rm (Ty.bytes aD) (List.length x31+List.length r46.1)
 (L2 (aH (x0+1)) x1 x2 x3 x4 x5 x6 x7 x8 x9 x10 x11 x12 x13 x14 x15 x16 x17 x18 x19 x20 x21 x22 x23 x24 x25 x26 x27 x28 x29 x30 (x31++r46.1))))))
 else
 (bi x0 (x17.length:Int)
 ((bQ.f k (List.getD x17 (Int.toNat x0) (Ty.dflt (.int .i64))) r39.1).bind fun r47 =>
 (rm (Ty.bytes aD) (List.length x31+List.length r47.1)
 (L2 (aH (x0+1)) x1 x2 x3 x4 x5 x6 x7 x8 x9 x10 x11 x12 x13 x14 x15 x16 x17 x18 x19 x20 x21 x22 x23 x24 x25 x26 x27 x28 x29 x30 (x31++r47.1)))))))))))))
 else
 ((bx.f k (x28,(x29,(x30,()))) x31).bind fun r48 =>
 (bif (r48.1.2.2.1 != 0) then
 (some (((x13,(x11,())),(x12,(x14,(x15,(x16,()))))),((x19,(x20,(x21,(x22,())))),(3,()))))
 else
 ((bh.f k (x19,(x20,(x21,(x22,())))) (x18,(x17,()))).bind fun r49 =>
 (bif (r49.2.1 != 0) then
 (some (((x13,(x11,())),(x12,(x14,(x15,(x16,()))))),r49))
 else
 (some (((x24,(x17,())),(r48.1.1,((aH (r48.1.2.1+1)),(x26,(x27,()))))),(r49.1,(0,())))))))))
def l2 (k:Nat):Nat→T2
 | 0=>fun _ _ _ _ _ _ _ _ _ _ _ _ _ _ _ _ _ _ _ _ _ _ _ _ _ _ _ _ _ _ _ _=>none
 | n+1=>b2 k (l2 k n)
def b0 (k:Nat) (L1:T1) (L2:T2) (L0:T0):T0:=fun x0 x1 x2 x3 x4 x5 x6 x7 x8 x9 x10 x11 x12 x13 x14 x15 x16 x17 x18 x19 x20 x21 x22 x23 =>
 (bif (decide (x1<(x22.length:Int))) then
 (bi x1 (x22.length:Int)
 ((aQ.f k (List.getD x22 (Int.toNat x1) (Ty.dflt (.int .i64)))).bind fun r8 =>
 ((bF.f k (x2,(x3,(x4,(x5,())))) r8.1).bind fun r9 =>
 ((bN.f k r9.1).bind fun r10 =>
 (bif (!r9.2.1) then
 ((cL.f k (x2,(x3,(x4,(x5,()))))).bind fun r11 =>
 (some (((x18,(x16,())),(x17,(x19,(x20,(x21,()))))),(r11.1,(3,())))))
 else
 (bi x1 (x22.length:Int)
 (bif ((List.getD x22 (Int.toNat x1) (Ty.dflt (.int .i64))) != x0) then
 (bif (decide (r10.2.1<(ByteArray.size r9.1:Int))) then
 ((cL.f k (x2,(x3,(x4,(x5,()))))).bind fun r12 =>
 (some (((x18,(x16,())),(x17,(x19,(x20,(x21,()))))),(r12.1,(3,())))))
 else
 (L0 x0 (aH (x1+1)) x2 x3 x4 x5 x6 x7 x8 x9 x10 x11 x12 x13 x14 x15 x16 x17 x18 x19 x20 x21 x22 x23))
 else
 (L0 x0 (aH (x1+1)) x2 x3 x4 x5 x6 x7 x8 x9 x10 x11 x12 x13 x14 x15 x16 x17 x18 x19 x20 x21 x22 x23))))))))
 else
 ((aQ.f k x0).bind fun r13 =>
 ((bF.f k (x2,(x3,(x4,(x5,())))) r13.1).bind fun r14 =>
 ((bN.f k r14.1).bind fun r15 =>
 ((cL.f k (x2,(x3,(x4,(x5,()))))).bind fun r16 =>
 (bif (decide (r15.2.1<(ByteArray.size r14.1:Int))) then
 ((aQ.f k x0).bind fun r17 =>
 ((i_.f k r16.1 r17.1 r15.2.1).bind fun r18 =>
 (bif (r18.2.1 != 0) then
 ((aU.f k r18.2.1).bind fun r19 =>
 (some (((x18,(x16,())),(x17,(x19,(x20,(x21,()))))),(r18.1,r19))))
 else
 ((aQ.f k x0).bind fun r20 =>
 ((cg.f k r18.1 r20.1).bind fun r21 =>
 (bif (r21.2.1 != 0) then
 ((aU.f k r21.2.1).bind fun r22 =>
 (some (((x18,(x16,())),(x17,(x19,(x20,(x21,()))))),(r21.1,r22))))
 else
 (L1 0 x6 x7 x8 x9 x10 x11 x12 x13 x14 x15 x16 x17 x18 x19 x20 x21 x22 x23 r21.1.1 r21.1.2.1 r21.1.2.2.1 r21.1.2.2.2.1 [] x23 0 r15.2.1 0 [] 0 0 [])))))))
 else
 ((aQ.f k x0).bind fun r35 =>
 ((cg.f k r16.1 r35.1).bind fun r36 =>
 (bif (r36.2.1 != 0) then
 ((aU.f k r36.2.1).bind fun r37 =>
 (some (((x18,(x16,())),(x17,(x19,(x20,(x21,()))))),(r36.1,r37))))
 else
 (L2 0 x6 x7 x8 x9 x10 x11 x12 x13 x14 x15 x16 x17 x18 x19 x20 x21 x22 x23 r36.1.1 r36.1.2.1 r36.1.2.2.1 r36.1.2.2.2.1 [] x23 0 r15.2.1 0 [] 0 0 []))))))))))
def l0 (k:Nat):Nat→T0
 | 0=>fun _ _ _ _ _ _ _ _ _ _ _ _ _ _ _ _ _ _ _ _ _ _ _ _=>none
 | n+1=>b0 k (l1 k k) (l2 k k) (l0 k n)
def t (k:Nat) (L0:T0) (a0:Ty.den a_):Rs :=
 ((bd.f k a0).bind fun r1 =>
 (bif (!r1.1) then
 ((cL.f k a0).bind fun r2 =>
 (some (((0,([],())),([],(0,(0,(0,()))))),(r2.1,(4,())))))
 else
 (bif a0.2.2.2.1 then
 ((cL.f k a0).bind fun r3 =>
 (some (((0,([],())),([],(0,(0,(0,()))))),(r3.1,(1,())))))
 else
 ((bF.f k a0 (⟨#[108,105,118,101]⟩:ByteArray)).bind fun r4 =>
 (bif (!r4.2.1) then
 ((gC.f k a0).bind fun r5 =>
 (some r5))
 else
 ((bI.f k r4.1).bind fun r6 =>
 (bif (!r6.2.1) then
 ((cL.f k a0).bind fun r7 =>
 (some (((0,([],())),([],(0,(0,(0,()))))),(r7.1,(3,())))))
 else
 (bi (aH ((List.length r6.1.2.1:Int)-1)) (List.length r6.1.2.1:Int)
 (L0 (List.getD r6.1.2.1 (Int.toNat (aH ((List.length r6.1.2.1:Int)-1))) (Ty.dflt (.int .i64))) 0 a0.1 a0.2.1 a0.2.2.1 a0.2.2.2.1 [] [] 0 0 0 0 [] 0 0 false [] [] 0 0 0 0 r6.1.2.1 r6.1.1)))))))))
def f (k:Nat):=t k (l0 k k)
end b7
namespace fj
abbrev Rs:Type:=Option ((Ty.den b8) × Bool × Unit)
def t (k:Nat) (a0:Ty.den b8) (a1:Int):Rs :=
 ((aW.f k a0 a1).bind fun r1 =>
 (some (r1.1,((r1.2.1==0),()))))
def f (k:Nat):=t k
end fj
namespace fD
abbrev Rs:Type:=Option ((Ty.den aE) × Unit)
def t (k:Nat) (a0:Ty.den aE):Rs :=
 (rm (Ty.bytes (.int .i64)) (0+List.length a0.1.2.1)
 (rm (Ty.bytes aB) (0+List.length a0.2.1)
 (some (((a0.1.1,(([]++a0.1.2.1),())),(([]++a0.2.1),a0.2.2)),()))))
def f (k:Nat):=t k
end fD
namespace iX
abbrev Rs:Type:=Option ((Ty.den ax) × Bool × Unit)
def t (k:Nat) (a0:ByteArray) (a1:Int) (a2:Int):Rs :=
 ((aR.f k a1 0 (ByteArray.size a0:Int)).bind fun r1 =>
 (bif (!r1.1) then
 (some ((0,(0,(ByteArray.empty,(ByteArray.empty,(0,(0,())))))),(false,())))
 else
 ((aR.f k a2 1 (aH ((ByteArray.size a0:Int)-a1))).bind fun r2 =>
 (bif (!r2.1) then
 (some ((0,(0,(ByteArray.empty,(ByteArray.empty,(0,(0,())))))),(false,())))
 else
 (DC a1 (aH (a1+a2)) (ByteArray.size a0:Int)
 ((dT.f k (ByteArray.extract a0 (Int.toNat a1) (Int.toNat (aH (a1+a2))))).bind fun r3 =>
 ((du.f k r3.1).bind fun r4 =>
 (bif (r3.2.1 != a2) then
 (some ((0,(0,(ByteArray.empty,(ByteArray.empty,(0,(0,())))))),(false,())))
 else
 (bif (!r4.2.1) then
 (some ((0,(0,(ByteArray.empty,(ByteArray.empty,(0,(0,())))))),(false,())))
 else
 (some (r4.1,(true,()))))))))))))
def f (k:Nat):=t k
end iX
namespace bw
abbrev Rs:Type:=Option (Bool × Unit)
abbrev T1:Type:=Int→Int→List Int→List (Ty.den aB)→Int→Int→Int→List (Ty.den aF)→Int→Int→Bool→Rs
abbrev T0:Type:=Int→Int→List Int→List (Ty.den aB)→Int→Int→Int→List (Ty.den aF)→Int→Int→Bool→Rs
def b1 (k:Nat) (L1:T1):T1:=fun x0 x1 x2 x3 x4 x5 x6 x7 x8 x9 x10 =>
 (bif (decide (x0<(x3.length:Int))) then
 (bi x0 (x3.length:Int)
 ((aQ.f k (List.getD x3 (Int.toNat x0) (Ty.dflt aB)).2.1).bind fun r8 =>
 ((bF.f k (x7,(x8,(x9,(x10,())))) r8.1).bind fun r9 =>
 ((iX.f k r9.1 (List.getD x3 (Int.toNat x0) (Ty.dflt aB)).2.2.1 (List.getD x3 (Int.toNat x0) (Ty.dflt aB)).2.2.2.1).bind fun r10 =>
 (bif (!r10.2.1) then
 (some (false,()))
 else
 (bif (!(seq r10.1.2.2.1 (List.getD x3 (Int.toNat x0) (Ty.dflt aB)).1)) then
 (some (false,()))
 else
 (bif (r10.1.2.1 != (List.getD x3 (Int.toNat x0) (Ty.dflt aB)).2.2.2.2.1) then
 (some (false,()))
 else
 (bif (r10.1.1 != 1) then
 (bif (r10.1.1 != 4) then
 (some (false,()))
 else
 (bif (decide ((List.getD x3 (Int.toNat x0) (Ty.dflt aB)).2.2.2.2.1≥x4)) then
 (some (false,()))
 else
 (L1 (aH (x0+1)) x1 x2 x3 x4 x5 x6 x7 x8 x9 x10)))
 else
 (bif (decide ((List.getD x3 (Int.toNat x0) (Ty.dflt aB)).2.2.2.2.1≥x4)) then
 (some (false,()))
 else
 (L1 (aH (x0+1)) x1 x2 x3 x4 x5 x6 x7 x8 x9 x10))))))))))
 else
 (some (true,())))
def l1 (k:Nat):Nat→T1
 | 0=>fun _ _ _ _ _ _ _ _ _ _ _=>none
 | n+1=>b1 k (l1 k n)
def b0 (k:Nat) (L1:T1) (L0:T0):T0:=fun x0 x1 x2 x3 x4 x5 x6 x7 x8 x9 x10 =>
 (bif (decide (x0<(x2.length:Int))) then
 (bi x0 (x2.length:Int)
 ((aQ.f k (List.getD x2 (Int.toNat x0) (Ty.dflt (.int .i64)))).bind fun r5 =>
 ((bF.f k (x7,(x8,(x9,(x10,())))) r5.1).bind fun r6 =>
 ((bN.f k r6.1).bind fun r7 =>
 (bif (!r6.2.1) then
 (some (false,()))
 else
 (bif (decide (r7.2.1<(ByteArray.size r6.1:Int))) then
 (some (false,()))
 else
 (bif ((aH (x0+1))==(x2.length:Int)) then
 (bif (x5 != (ByteArray.size r6.1:Int)) then
 (some (false,()))
 else
 (L0 (aH (x0+1)) x1 x2 x3 x4 x5 x6 x7 x8 x9 x10))
 else
 (L0 (aH (x0+1)) x1 x2 x3 x4 x5 x6 x7 x8 x9 x10))))))))
 else
 (L1 0 x1 x2 x3 x4 x5 x6 x7 x8 x9 x10))
def l0 (k:Nat):Nat→T0
 | 0=>fun _ _ _ _ _ _ _ _ _ _ _=>none
 | n+1=>b0 k (l1 k k) (l0 k n)
def t (k:Nat) (L0:T0) (a0:Ty.den aE) (a1:Ty.den a_):Rs :=
 ((bd.f k a1).bind fun r1 =>
 (bif (!r1.1) then
 (some (false,()))
 else
 ((dC.f k a0.1).bind fun r2 =>
 (bif (!r2.1) then
 (some (false,()))
 else
 ((eZ.f k a0.2.1).bind fun r3 =>
 (bif (!r3.1) then
 (some (false,()))
 else
 ((aR.f k a0.2.2.1 1 1000001).bind fun r4 =>
 (bif (!r4.1) then
 (some (false,()))
 else
 (L0 0 a0.1.1 a0.1.2.1 a0.2.1 a0.2.2.1 a0.2.2.2.1 a0.2.2.2.2.1 a1.1 a1.2.1 a1.2.2.1 a1.2.2.2.1)))))))))
def f (k:Nat):=t k (l0 k k)
end bw
namespace fk
abbrev Rs:Type:=Option ((Ty.den aB) × Bool × Unit)
abbrev T0:Type:=List (Ty.den aB)→ByteArray→Int→ByteArray→Int→Int→Int→Int→Rs
def b0 (k:Nat) (L0:T0):T0:=fun x0 x1 x2 x3 x4 x5 x6 x7 =>
 (bif (decide (x2<(x0.length:Int))) then
 (bi x2 (x0.length:Int)
 (bif (seq (List.getD x0 (Int.toNat x2) (Ty.dflt aB)).1 x1) then
 (bi x2 (x0.length:Int)
 (some ((List.getD x0 (Int.toNat x2) (Ty.dflt aB)),(true,()))))
 else
 (L0 x0 x1 (aH (x2+1)) x3 x4 x5 x6 x7)))
 else
 (some ((ByteArray.empty,(0,(0,(0,(0,()))))),(false,()))))
def l0 (k:Nat):Nat→T0
 | 0=>fun _ _ _ _ _ _ _ _=>none
 | n+1=>b0 k (l0 k n)
def t (k:Nat) (L0:T0) (a0:List (Ty.den aB)) (a1:ByteArray):Rs :=
 (L0 a0 a1 0 ByteArray.empty 0 0 0 0)
def f (k:Nat):=t k (l0 k k)
end fk
namespace m5
abbrev Rs:Type:=Option ((Ty.den aF) × Int × Unit)
def t (k:Nat) (a0:Ty.den aE) (a1:Ty.den a_) (a2:ByteArray):Rs :=
 ((fk.f k a0.2.1 a2).bind fun r1 =>
 (bif (!r1.2.1) then
 (some ((ByteArray.empty,(ByteArray.empty,(0,()))),(8,())))
 else
 ((aQ.f k r1.1.2.1).bind fun r2 =>
 ((bF.f k a1 r2.1).bind fun r3 =>
 ((iX.f k r3.1 r1.1.2.2.1 r1.1.2.2.2.1).bind fun r4 =>
 (bif (!r3.2.1) then
 (some ((ByteArray.empty,(ByteArray.empty,(0,()))),(3,())))
 else
 (bif (!r4.2.1) then
 (some ((ByteArray.empty,(ByteArray.empty,(0,()))),(3,())))
 else
 (bif (!(seq r4.1.2.2.1 a2)) then
 (some ((ByteArray.empty,(ByteArray.empty,(0,()))),(3,())))
 else
 (bif (r4.1.1 != 1) then
 (bif (r4.1.1 != 4) then
 (some ((ByteArray.empty,(ByteArray.empty,(0,()))),(3,())))
 else
 (some ((a2,(r4.1.2.2.2.1,(r4.1.2.1,()))),(0,()))))
 else
 (some ((a2,(r4.1.2.2.2.1,(r4.1.2.1,()))),(0,()))))))))))))
def f (k:Nat):=t k
end m5
namespace gS
abbrev Rs:Type:=Option ((List (Ty.den aF)) × Int × Unit)
abbrev T0:Type:=Int→Int→List Int→List (Ty.den aB)→Int→Int→Int→List (Ty.den aF)→Int→Int→Bool→List (Ty.den aF)→Rs
def b0 (k:Nat) (L0:T0):T0:=fun x0 x1 x2 x3 x4 x5 x6 x7 x8 x9 x10 x11 =>
 (bif (decide (x0<(x3.length:Int))) then
 (bi x0 (x3.length:Int)
 ((m5.f k ((x1,(x2,())),(x3,(x4,(x5,(x6,()))))) (x7,(x8,(x9,(x10,())))) (List.getD x3 (Int.toNat x0) (Ty.dflt aB)).1).bind fun r1 =>
 (bif (r1.2.1 != 0) then
 (some ([],r1.2))
 else
 (rm (Ty.bytes aF) (List.length x11+1)
 (L0 (aH (x0+1)) x1 x2 x3 x4 x5 x6 x7 x8 x9 x10 (x11++[r1.1]))))))
 else
 (some (x11,(0,()))))
def l0 (k:Nat):Nat→T0
 | 0=>fun _ _ _ _ _ _ _ _ _ _ _ _=>none
 | n+1=>b0 k (l0 k n)
def t (k:Nat) (L0:T0) (a0:Ty.den aE) (a1:Ty.den a_):Rs :=
 (L0 0 a0.1.1 a0.1.2.1 a0.2.1 a0.2.2.1 a0.2.2.2.1 a0.2.2.2.2.1 a1.1 a1.2.1 a1.2.2.1 a1.2.2.2.1 [])
def f (k:Nat):=t k (l0 k k)
end gS
namespace kD
abbrev Rs:Type:=Option ((Ty.den ax) × Unit)
def t (k:Nat) (a0:Ty.den aF):Rs :=
 (some ((4,(a0.2.2.1,(a0.1,(a0.2.1,(0,(0,())))))),()))
def f (k:Nat):=t k
end kD
namespace gd
abbrev Rs:Type:=Option ((Ty.den ax) × Unit)
def t (k:Nat) (a0:List (Ty.den ax)) (a1:Int) (a2:Int):Rs :=
 ((fY.f k a0).bind fun r1 =>
 (some ((a2,(a1,(ByteArray.empty,(ByteArray.empty,((List.length a0:Int),r1))))),())))
def f (k:Nat):=t k
end gd
namespace dc
abbrev Rs:Type:=Option ((Ty.den a_) × (List (Ty.den aB)) × Int × Unit)
abbrev T0:Type:=Int→List (Ty.den aF)→Int→Int→Int→Int→List (Ty.den aF)→Int→Int→Bool→List (Ty.den aB)→List (Ty.den aF)→Int→Int→Bool→List (Ty.den ax)→Rs
def b0 (k:Nat) (L0:T0):T0:=fun x0 x1 x2 x3 x4 x5 x6 x7 x8 x9 x10 x11 x12 x13 x14 x15 =>
 (bif (decide (x5<(x1.length:Int))) then
 (bif (x3==0) then
 (bi x5 (x1.length:Int)
 ((kD.f k (List.getD x1 (Int.toNat x5) (Ty.dflt aF))).bind fun r3 =>
 ((c8.f k r3.1).bind fun r4 =>
 ((fG.f k r4.1).bind fun r5 =>
 ((aQ.f k x0).bind fun r6 =>
 ((cA.f k (x11,(x12,(x13,(x14,())))) r6.1 r5.1).bind fun r7 =>
 (rm (Ty.bytes ax) (List.length x15+1)
 (rm (Ty.bytes aB) (List.length x10+1)
 (L0 x0 x1 x2 r7.2.1 (aH (x4+(ByteArray.size r5.1:Int))) (aH (x5+1)) x6 x7 x8 x9 (x10++[(r3.1.2.2.1,(x0,(x4,((ByteArray.size r5.1:Int),(r3.1.2.1,())))))]) r7.1.1 r7.1.2.1 r7.1.2.2.1 r7.1.2.2.2.1 (x15++[r3.1]))))))))))
 else
 (bif (x3==0) then
 ((aQ.f k x0).bind fun r8 =>
 ((gd.f k x15 x2 5).bind fun r9 =>
 ((c8.f k r9.1).bind fun r10 =>
 ((fG.f k r10.1).bind fun r11 =>
 ((cA.f k (x11,(x12,(x13,(x14,())))) r8.1 r11.1).bind fun r12 =>
 (bif (r12.2.1==0) then
 ((aQ.f k x0).bind fun r13 =>
 ((cg.f k r12.1 r13.1).bind fun r14 =>
 ((aU.f k r14.2.1).bind fun r15 =>
 (some (r14.1,(x10,r15))))))
 else
 ((aU.f k r12.2.1).bind fun r16 =>
 (some (r12.1,(x10,r16))))))))))
 else
 (bif (x3==0) then
 ((aQ.f k x0).bind fun r17 =>
 ((cg.f k (x11,(x12,(x13,(x14,())))) r17.1).bind fun r18 =>
 ((aU.f k r18.2.1).bind fun r19 =>
 (some (r18.1,(x10,r19))))))
 else
 ((aU.f k x3).bind fun r20 =>
 (some ((x11,(x12,(x13,(x14,())))),(x10,r20)))))))
 else
 (bif (x3==0) then
 ((aQ.f k x0).bind fun r21 =>
 ((gd.f k x15 x2 5).bind fun r22 =>
 ((c8.f k r22.1).bind fun r23 =>
 ((fG.f k r23.1).bind fun r24 =>
 ((cA.f k (x11,(x12,(x13,(x14,())))) r21.1 r24.1).bind fun r25 =>
 (bif (r25.2.1==0) then
 ((aQ.f k x0).bind fun r26 =>
 ((cg.f k r25.1 r26.1).bind fun r27 =>
 ((aU.f k r27.2.1).bind fun r28 =>
 (some (r27.1,(x10,r28))))))
 else
 ((aU.f k r25.2.1).bind fun r29 =>
 (some (r25.1,(x10,r29))))))))))
 else
 (bif (x3==0) then
 ((aQ.f k x0).bind fun r30 =>
 ((cg.f k (x11,(x12,(x13,(x14,())))) r30.1).bind fun r31 =>
 ((aU.f k r31.2.1).bind fun r32 =>
 (some (r31.1,(x10,r32))))))
 else
 ((aU.f k x3).bind fun r33 =>
 (some ((x11,(x12,(x13,(x14,())))),(x10,r33)))))))
def l0 (k:Nat):Nat→T0
 | 0=>fun _ _ _ _ _ _ _ _ _ _ _ _ _ _ _ _=>none
 | n+1=>b0 k (l0 k n)
def t (k:Nat) (L0:T0) (a0:Ty.den a_) (a1:Int) (a2:List (Ty.den aF)) (a3:Int):Rs :=
 ((aQ.f k a1).bind fun r1 =>
 ((da.f k a0 r1.1).bind fun r2 =>
 (L0 a1 a2 a3 r2.2.1 0 0 [] 0 0 false [] r2.1.1 r2.1.2.1 r2.1.2.2.1 r2.1.2.2.2.1 [])))
def f (k:Nat):=t k (l0 k k)
end dc
namespace bn
abbrev Rs:Type:=Option ((Ty.den a_) × Int × Unit)
abbrev T0:Type:=List ByteArray→Int→List (Ty.den aF)→Int→Int→Bool→List (Ty.den aF)→Int→Int→Bool→Rs
def b0 (k:Nat) (L0:T0):T0:=fun x0 x1 x2 x3 x4 x5 x6 x7 x8 x9 =>
 (bif (decide (x1<(x0.length:Int))) then
 (bi x1 (x0.length:Int)
 ((bA.f k (x2,(x3,(x4,(x5,())))) (List.getD x0 (Int.toNat x1) (Ty.dflt .str))).bind fun r1 =>
 (bif (decide (r1.1<0)) then
 (L0 x0 (aH (x1+1)) x2 x3 x4 x5 x6 x7 x8 x9)
 else
 (bi x1 (x0.length:Int)
 ((g_.f k (x2,(x3,(x4,(x5,())))) (List.getD x0 (Int.toNat x1) (Ty.dflt .str))).bind fun r2 =>
 (bif (r2.2.1 != 0) then
 (some r2)
 else
 (L0 x0 (aH (x1+1)) r2.1.1 r2.1.2.1 r2.1.2.2.1 r2.1.2.2.2.1 x6 x7 x8 x9)))))))
 else
 (some ((x2,(x3,(x4,(x5,())))),(0,()))))
def l0 (k:Nat):Nat→T0
 | 0=>fun _ _ _ _ _ _ _ _ _ _=>none
 | n+1=>b0 k (l0 k n)
def t (k:Nat) (L0:T0) (a0:Ty.den a_) (a1:List ByteArray):Rs :=
 (L0 a1 0 a0.1 a0.2.1 a0.2.2.1 a0.2.2.2.1 [] 0 0 false)
def f (k:Nat):=t k (l0 k k)
end bn
namespace dV
abbrev Rs:Type:=Option ((Ty.den aE) × (Ty.den a_) × Int × Unit)
def t (k:Nat) (a0:Ty.den aE) (a1:Ty.den a_) (a2:Int) (a3:Int):Rs :=
 (bif (a3 != 2) then
 (some (a0,(a1,(a3,()))))
 else
 ((aQ.f k a2).bind fun r1 =>
 ((aQ.f k (aH (a2+1))).bind fun r2 =>
 ((cZ.f k a2).bind fun r3 =>
 ((bn.f k a1 [(⟨#[116,101,109,112]⟩:ByteArray),r1.1,r2.1,r3.1]).bind fun r4 =>
 (bif (r4.2.1 != 0) then
 ((aU.f k r4.2.1).bind fun r5 =>
 (some (a0,(r4.1,r5))))
 else
 (some (a0,(r4.1,(a3,()))))))))))
def f (k:Nat):=t k
end dV
namespace bf
abbrev Rs:Type:=Option ((Ty.den aE) × (Ty.den a_) × Int × Unit)
abbrev T0:Type:=Int→List Int→List (Ty.den aB)→Int→Int→Int→Int→List Int→List (Ty.den aB)→Int→Int→Int→Int→List (Ty.den aF)→Int→Int→Bool→List (Ty.den aF)→Int→Int→Bool→List Int→Rs
def b0 (k:Nat) (L0:T0):T0:=fun x0 x1 x2 x3 x4 x5 x6 x7 x8 x9 x10 x11 x12 x13 x14 x15 x16 x17 x18 x19 x20 x21 =>
 (bif (decide (x0<(x21.length:Int))) then
 (bi x0 (x21.length:Int)
 ((aQ.f k (List.getD x21 (Int.toNat x0) (Ty.dflt (.int .i64)))).bind fun r18 =>
 (bi x0 (x21.length:Int)
 ((cZ.f k (List.getD x21 (Int.toNat x0) (Ty.dflt (.int .i64)))).bind fun r19 =>
 ((bn.f k (x17,(x18,(x19,(x20,())))) [r18.1,r19.1]).bind fun r20 =>
 (bif (r20.2.1 != 0) then
 ((aU.f k r20.2.1).bind fun r21 =>
 (some (((x3,(x1,())),(x2,(x4,(x5,(x6,()))))),(r20.1,r21))))
 else
 (L0 (aH (x0+1)) x1 x2 x3 x4 x5 x6 x7 x8 x9 x10 x11 x12 x13 x14 x15 x16 r20.1.1 r20.1.2.1 r20.1.2.2.1 r20.1.2.2.2.1 x21)))))))
 else
 (some (((x3,(x1,())),(x2,(x4,(x5,(x6,()))))),((x17,(x18,(x19,(x20,())))),(0,())))))
def l0 (k:Nat):Nat→T0
 | 0=>fun _ _ _ _ _ _ _ _ _ _ _ _ _ _ _ _ _ _ _ _ _ _=>none
 | n+1=>b0 k (l0 k n)
def t (k:Nat) (L0:T0) (a0:Ty.den aE) (a1:Ty.den a_) (a2:List (Ty.den aF)):Rs :=
 ((dc.f k a1 a0.1.1 a2 (aH (a0.2.2.1-1))).bind fun r1 =>
 (bif (r1.2.2.1 != 0) then
 ((dV.f k (((aH (a0.1.1+2)),a0.1.2),a0.2) r1.1 a0.1.1 r1.2.2.1).bind fun r2 =>
 (some r2))
 else
 ((aQ.f k (aH (a0.1.1+1))).bind fun r3 =>
 ((da.f k r1.1 r3.1).bind fun r4 =>
 (bif (r4.2.1 != 0) then
 ((aU.f k r4.2.1).bind fun r5 =>
 ((dV.f k (((aH (a0.1.1+2)),a0.1.2),a0.2) r4.1 a0.1.1 r5.1).bind fun r6 =>
 (some r6)))
 else
 ((aQ.f k a0.1.1).bind fun r7 =>
 ((bF.f k r4.1 r7.1).bind fun r8 =>
 ((di.f k a0.1.1 r8.1).bind fun r9 =>
 ((cZ.f k a0.1.1).bind fun r10 =>
 ((dN.f k r9.1).bind fun r11 =>
 ((gZ.f k r4.1 r10.1 r11.1).bind fun r12 =>
 (bif (r12.2.1==2) then
 ((cZ.f k a0.1.1).bind fun r13 =>
 ((bn.f k r12.1 [r13.1]).bind fun r14 =>
 (bif (r14.2.1 != 0) then
 ((aU.f k r14.2.1).bind fun r15 =>
 (some ((((aH (a0.1.1+2)),a0.1.2),a0.2),(r14.1,r15))))
 else
 (rm (Ty.bytes (.int .i64)) (0+List.length a0.1.2.1)
 ((eQ.f k r14.1 ((aH (a0.1.1+2)),([a0.1.1,(aH (a0.1.1+1))],()))).bind fun r16 =>
 (bif (r16.2.1 != 0) then
 ((dV.f k (((aH (a0.1.1+2)),a0.1.2),a0.2) r16.1 a0.1.1 r16.2.1).bind fun r17 =>
 (some r17))
 else
 (L0 0 [a0.1.1,(aH (a0.1.1+1))] r1.2.1 (aH (a0.1.1+2)) a0.2.2.1 0 0 [] [] 0 0 0 0 [] 0 0 false r16.1.1 r16.1.2.1 r16.1.2.2.1 r16.1.2.2.2.1 ([]++a0.1.2.1))))))))
 else
 (bif (r12.2.1 != 0) then
 ((aU.f k r12.2.1).bind fun r22 =>
 (some ((((aH (a0.1.1+2)),a0.1.2),a0.2),(r12.1,r22))))
 else
 (rm (Ty.bytes (.int .i64)) (0+List.length a0.1.2.1)
 ((eQ.f k r12.1 ((aH (a0.1.1+2)),([a0.1.1,(aH (a0.1.1+1))],()))).bind fun r23 =>
 (bif (r23.2.1 != 0) then
 ((dV.f k (((aH (a0.1.1+2)),a0.1.2),a0.2) r23.1 a0.1.1 r23.2.1).bind fun r24 =>
 (some r24))
 else
 (L0 0 [a0.1.1,(aH (a0.1.1+1))] r1.2.1 (aH (a0.1.1+2)) a0.2.2.1 0 0 [] [] 0 0 0 0 [] 0 0 false r23.1.1 r23.1.2.1 r23.1.2.2.1 r23.1.2.2.2.1 ([]++a0.1.2.1))))))))))))))))))
def f (k:Nat):=t k (l0 k k)
end bf
namespace jl
abbrev Rs:Type:=Option ((Ty.den aE) × (Ty.den a_) × Int × Unit)
def t (k:Nat) (a0:Ty.den aE) (a1:Ty.den a_):Rs :=
 ((fD.f k a0).bind fun r1 =>
 ((cL.f k a1).bind fun r2 =>
 ((bw.f k a0 a1).bind fun r3 =>
 (bif (!r3.1) then
 (some (r1.1,(r2.1,(4,()))))
 else
 (bif (decide ((aH (a0.1.1+2)) > 100000)) then
 (some (r1.1,(r2.1,(5,()))))
 else
 ((gS.f k a0 a1).bind fun r4 =>
 (bif (r4.2.1 != 0) then
 (some (r1.1,(r2.1,r4.2)))
 else
 ((bf.f k r1.1 r2.1 r4.1).bind fun r5 =>
 (some r5)))))))))
def f (k:Nat):=t k
end jl
namespace fI
abbrev Rs:Type:=Option ((Ty.den b8) × ByteArray × Unit)
def t (k:Nat) (a0:Ty.den b8) (a1:List ByteArray):Rs :=
 ((aW.f k a0 (List.length a1:Int)).bind fun r1 =>
 (bi r1.2.1 (List.length a1:Int)
 (some (r1.1,((List.getD a1 (Int.toNat r1.2.1) (Ty.dflt .str)),())))))
def f (k:Nat):=t k
end fI
namespace iW
abbrev Rs:Type:=Option ((Ty.den b8) × ByteArray × Unit)
def t (k:Nat) (a0:Ty.den b8):Rs :=
 ((fI.f k a0 [(⟨#[97]⟩:ByteArray),(⟨#[98]⟩:ByteArray),(⟨#[99]⟩:ByteArray),(⟨#[107,101,121]⟩:ByteArray),(⟨#[108,111,110,103,110,97,109,101]⟩:ByteArray)]).bind fun r1 =>
 (some r1))
def f (k:Nat):=t k
end iW
namespace d_
abbrev Rs:Type:=Option ((Ty.den b8) × ByteArray × Unit)
abbrev T0:Type:=Int→Int→List Int→Int→Int→List Int→Rs
def b0 (k:Nat) (L0:T0):T0:=fun x0 x1 x2 x3 x4 x5 =>
 (bif (decide (x1 > 0)) then
 ((eX.f k (x2,(x3,(x4,())))).bind fun r3 =>
 (bif (x0==1) then
 (bif (x0==2) then
 (rm (Ty.bytes (.int .u8)) (List.length x5+1)
 (L0 x0 (aH (x1-1)) r3.1.1 r3.1.2.1 r3.1.2.2.1 (x5++[(IntKind.wrap .u8 (aH (97+(Int.tmod (Int.tmod r3.2.1 2) 4))))])))
 else
 (rm (Ty.bytes (.int .u8)) (List.length x5+1)
 (L0 x0 (aH (x1-1)) r3.1.1 r3.1.2.1 r3.1.2.2.1 (x5++[(IntKind.wrap .u8 (Int.tmod r3.2.1 2))]))))
 else
 (bif (x0==2) then
 (rm (Ty.bytes (.int .u8)) (List.length x5+1)
 (L0 x0 (aH (x1-1)) r3.1.1 r3.1.2.1 r3.1.2.2.1 (x5++[(IntKind.wrap .u8 (aH (97+(Int.tmod r3.2.1 4))))])))
 else
 (rm (Ty.bytes (.int .u8)) (List.length x5+1)
 (L0 x0 (aH (x1-1)) r3.1.1 r3.1.2.1 r3.1.2.2.1 (x5++[(IntKind.wrap .u8 r3.2.1)]))))))
 else
 (some ((x2,(x3,(x4,()))),((bytesOf x5),()))))
def l0 (k:Nat):Nat→T0
 | 0=>fun _ _ _ _ _ _=>none
 | n+1=>b0 k (l0 k n)
def t (k:Nat) (L0:T0) (a0:Ty.den b8) (a1:Int):Rs :=
 ((aW.f k a0 4).bind fun r1 =>
 ((aW.f k r1.1 (aH (a1+1))).bind fun r2 =>
 (L0 r1.2.1 r2.2.1 r2.1.1 r2.1.2.1 r2.1.2.2.1 [])))
def f (k:Nat):=t k (l0 k k)
end d_
namespace eu
abbrev Rs:Type:=Option ((Ty.den b8) × (List (Ty.den g8)) × Unit)
abbrev T0:Type:=Int→List Int→Int→Int→List (Ty.den g8)→Rs
def b0 (k:Nat) (L0:T0):T0:=fun x0 x1 x2 x3 x4 =>
 (bif (decide (x0 > 0)) then
 ((iW.f k (x1,(x2,(x3,())))).bind fun r2 =>
 ((d_.f k r2.1 16).bind fun r3 =>
 ((fj.f k r3.1 4).bind fun r4 =>
 (bif r4.2.1 then
 (rm (Ty.bytes g8) (List.length x4+1)
 (L0 (aH (x0-1)) r4.1.1 r4.1.2.1 r4.1.2.2.1 (x4++[(r2.2.1,(true,(ByteArray.empty,())))])))
 else
 (rm (Ty.bytes g8) (List.length x4+1)
 (L0 (aH (x0-1)) r4.1.1 r4.1.2.1 r4.1.2.2.1 (x4++[(r2.2.1,(false,r3.2))])))))))
 else
 (some ((x1,(x2,(x3,()))),(x4,()))))
def l0 (k:Nat):Nat→T0
 | 0=>fun _ _ _ _ _=>none
 | n+1=>b0 k (l0 k n)
def t (k:Nat) (L0:T0) (a0:Ty.den b8):Rs :=
 ((aW.f k a0 4).bind fun r1 =>
 (L0 r1.2.1 r1.1.1 r1.1.2.1 r1.1.2.2.1 []))
def f (k:Nat):=t k (l0 k k)
end eu
namespace ek
abbrev Rs:Type:=Option (Bool × Unit)
abbrev T0:Type:=List (Ty.den g8)→Int→Rs
def b0 (k:Nat) (L0:T0):T0:=fun x0 x1 =>
 (bif (decide (x1<(x0.length:Int))) then
 (bi x1 (x0.length:Int)
 ((dt.f k (List.getD x0 (Int.toNat x1) (Ty.dflt g8)).1).bind fun r1 =>
 (bif (!r1.1) then
 (some (false,()))
 else
 (bi x1 (x0.length:Int)
 (bif (decide ((ByteArray.size (List.getD x0 (Int.toNat x1) (Ty.dflt g8)).2.2.1:Int) > 24)) then
 (some (false,()))
 else
 (bi x1 (x0.length:Int)
 (bif (List.getD x0 (Int.toNat x1) (Ty.dflt g8)).2.1 then
 (bi x1 (x0.length:Int)
 (bif (!(seq (List.getD x0 (Int.toNat x1) (Ty.dflt g8)).2.2.1 (⟨#[]⟩:ByteArray))) then
 (some (false,()))
 else
 (L0 x0 (aH (x1+1)))))
 else
 (L0 x0 (aH (x1+1))))))))))
 else
 (some (true,())))
def l0 (k:Nat):Nat→T0
 | 0=>fun _ _=>none
 | n+1=>b0 k (l0 k n)
def t (k:Nat) (L0:T0) (a0:List (Ty.den g8)):Rs :=
 (bif (decide ((List.length a0:Int) > 8)) then
 (some (false,()))
 else
 (L0 a0 0))
def f (k:Nat):=t k (l0 k k)
end ek
namespace cq
abbrev Rs:Type:=Option (Int × Unit)
abbrev T1:Type:=List (Ty.den g8)→Int→List (Ty.den aB)→Rs
abbrev T0:Type:=List (Ty.den aB)→List (Ty.den g8)→Int→Rs
def b1 (k:Nat) (L1:T1):T1:=fun x0 x1 x2 =>
 (bif (decide (x1<(x0.length:Int))) then
 (bi x1 (x0.length:Int)
 (bif (List.getD x0 (Int.toNat x1) (Ty.dflt g8)).2.1 then
 (bi x1 (x0.length:Int)
 ((co.f k x2 (List.getD x0 (Int.toNat x1) (Ty.dflt g8)).1).bind fun r2 =>
 (L1 x0 (aH (x1+1)) r2.1)))
 else
 (bi x1 (x0.length:Int)
 ((bV.f k x2 ((List.getD x0 (Int.toNat x1) (Ty.dflt g8)).1,(0,(0,(0,(0,())))))).bind fun r3 =>
 (L1 x0 (aH (x1+1)) r3.1)))))
 else
 (some ((x2.length:Int),())))
def l1 (k:Nat):Nat→T1
 | 0=>fun _ _ _=>none
 | n+1=>b1 k (l1 k n)
def b0 (k:Nat) (L1:T1):T0:=fun x0 x1 x2 =>
 (bif (decide (x2<(x1.length:Int))) then
 (bi x2 (x1.length:Int)
 (bif (List.getD x1 (Int.toNat x2) (Ty.dflt g8)).2.1 then
 (bi x2 (x1.length:Int)
 ((co.f k x0 (List.getD x1 (Int.toNat x2) (Ty.dflt g8)).1).bind fun r1 =>
 (L1 x1 (aH (x2+1)) r1.1)))
 else
 (bi x2 (x1.length:Int)
 ((bV.f k x0 ((List.getD x1 (Int.toNat x2) (Ty.dflt g8)).1,(0,(0,(0,(0,())))))).bind fun r4 =>
 (L1 x1 (aH (x2+1)) r4.1)))))
 else
 (some ((x0.length:Int),())))
def l0 (k:Nat):Nat→T0
 | 0=>fun _ _ _=>none
 | n+1=>b0 k (l1 k n)
def t (k:Nat) (L0:T0) (a0:List (Ty.den aB)) (a1:List (Ty.den g8)):Rs :=
 (L0 a0 a1 0)
def f (k:Nat):=t k (l0 k k)
end cq
namespace ch
abbrev Rs:Type:=Option (ByteArray × Unit)
def t (k:Nat) (a0:Ty.den aE):Rs :=
 (bi (aH ((List.length a0.1.2.1:Int)-1)) (List.length a0.1.2.1:Int)
 ((aQ.f k (List.getD a0.1.2.1 (Int.toNat (aH ((List.length a0.1.2.1:Int)-1))) (Ty.dflt (.int .i64)))).bind fun r1 =>
 (some r1)))
def f (k:Nat):=t k
end ch
namespace fH
abbrev Rs:Type:=Option ((Ty.den aE) × (Ty.den a_) × Int × Unit)
def t (k:Nat) (a0:Ty.den aE) (a1:Ty.den a_):Rs :=
 (bif (decide ((List.length a0.1.2.1:Int)≥60)) then
 (some (a0,(a1,(5,()))))
 else
 (bif (decide (a0.1.1≥100000)) then
 (some (a0,(a1,(5,()))))
 else
 ((ch.f k a0).bind fun r1 =>
 ((cg.f k a1 r1.1).bind fun r2 =>
 (bif (r2.2.1 != 0) then
 ((aU.f k r2.2.1).bind fun r3 =>
 (some (a0,(r2.1,r3))))
 else
 ((aQ.f k a0.1.1).bind fun r4 =>
 ((da.f k r2.1 r4.1).bind fun r5 =>
 (bif (r5.2.1 != 0) then
 ((aU.f k r5.2.1).bind fun r6 =>
 (some ((((aH (a0.1.1+1)),a0.1.2),a0.2),(r5.1,r6))))
 else
 (rm (Ty.bytes (.int .i64)) (0+List.length a0.1.2.1)
 (rm (Ty.bytes (.int .i64)) (List.length ([]++a0.1.2.1)+1)
 ((eQ.f k r5.1 ((aH (a0.1.1+1)),((([]++a0.1.2.1)++[a0.1.1]),()))).bind fun r7 =>
 (bif (r7.2.1==2) then
 ((aQ.f k a0.1.1).bind fun r8 =>
 ((bn.f k r7.1 [(⟨#[116,101,109,112]⟩:ByteArray),r8.1]).bind fun r9 =>
 (bif (r9.2.1 != 0) then
 ((aU.f k r9.2.1).bind fun r10 =>
 (some ((((aH (a0.1.1+1)),a0.1.2),a0.2),(r9.1,r10))))
 else
 (some ((((aH (a0.1.1+1)),a0.1.2),a0.2),(r9.1,r7.2))))))
 else
 (bif (r7.2.1 != 0) then
 (some ((((aH (a0.1.1+1)),a0.1.2),a0.2),r7))
 else
 (some ((((aH (a0.1.1+1)),((([]++a0.1.2.1)++[a0.1.1]),())),(a0.2.1,(a0.2.2.1,(0,a0.2.2.2.2)))),(r7.1,(0,())))))))))))))))))
def f (k:Nat):=t k
end fH
namespace e7
abbrev Rs:Type:=Option ((Ty.den aE) × (Ty.den a_) × (Ty.den aD) × Int × Unit)
def t (k:Nat) (a0:Ty.den aE) (a1:Ty.den a_) (a2:Ty.den ax):Rs :=
 ((c8.f k a2).bind fun r1 =>
 ((fG.f k r1.1).bind fun r2 =>
 (bif (decide (a0.2.2.2.1 > 0)) then
 (bif (decide ((aH (a0.2.2.2.1+(ByteArray.size r2.1:Int))) > 200)) then
 ((fH.f k a0 a1).bind fun r3 =>
 (bif (r3.2.2.1 != 0) then
 (some (r3.1,(r3.2.1,((0,(0,(0,((0,(0,(ByteArray.empty,(ByteArray.empty,(0,(0,())))))),())))),r3.2.2))))
 else
 ((ch.f k r3.1).bind fun r4 =>
 ((cA.f k r3.2.1 r4.1 r2.1).bind fun r5 =>
 (bif (r5.2.1 != 0) then
 ((aU.f k r5.2.1).bind fun r6 =>
 (some (r3.1,(r5.1,((0,(0,(0,((0,(0,(ByteArray.empty,(ByteArray.empty,(0,(0,())))))),())))),r6)))))
 else
 (bi (aH ((List.length r3.1.1.2.1:Int)-1)) (List.length r3.1.1.2.1:Int)
 (some ((r3.1.1,(r3.1.2.1,(r3.1.2.2.1,((aH (r3.1.2.2.2.1+(ByteArray.size r2.1:Int))),r3.1.2.2.2.2)))),(r5.1,(((List.getD r3.1.1.2.1 (Int.toNat (aH ((List.length r3.1.1.2.1:Int)-1))) (Ty.dflt (.int .i64))),(r3.1.2.2.2.1,((ByteArray.size r2.1:Int),(a2,())))),(0,())))))))))))
 else
 ((ch.f k a0).bind fun r7 =>
 ((cA.f k a1 r7.1 r2.1).bind fun r8 =>
 (bif (r8.2.1 != 0) then
 ((aU.f k r8.2.1).bind fun r9 =>
 (some (a0,(r8.1,((0,(0,(0,((0,(0,(ByteArray.empty,(ByteArray.empty,(0,(0,())))))),())))),r9)))))
 else
 (bi (aH ((List.length a0.1.2.1:Int)-1)) (List.length a0.1.2.1:Int)
 (some ((a0.1,(a0.2.1,(a0.2.2.1,((aH (a0.2.2.2.1+(ByteArray.size r2.1:Int))),a0.2.2.2.2)))),(r8.1,(((List.getD a0.1.2.1 (Int.toNat (aH ((List.length a0.1.2.1:Int)-1))) (Ty.dflt (.int .i64))),(a0.2.2.2.1,((ByteArray.size r2.1:Int),(a2,())))),(0,()))))))))))
 else
 ((ch.f k a0).bind fun r10 =>
 ((cA.f k a1 r10.1 r2.1).bind fun r11 =>
 (bif (r11.2.1 != 0) then
 ((aU.f k r11.2.1).bind fun r12 =>
 (some (a0,(r11.1,((0,(0,(0,((0,(0,(ByteArray.empty,(ByteArray.empty,(0,(0,())))))),())))),r12)))))
 else
 (bi (aH ((List.length a0.1.2.1:Int)-1)) (List.length a0.1.2.1:Int)
 (some ((a0.1,(a0.2.1,(a0.2.2.1,((aH (a0.2.2.2.1+(ByteArray.size r2.1:Int))),a0.2.2.2.2)))),(r11.1,(((List.getD a0.1.2.1 (Int.toNat (aH ((List.length a0.1.2.1:Int)-1))) (Ty.dflt (.int .i64))),(a0.2.2.2.1,((ByteArray.size r2.1:Int),(a2,())))),(0,()))))))))))))
def f (k:Nat):=t k
end e7
namespace bM
abbrev Rs:Type:=Option ((Ty.den aE) × (Ty.den a_) × Int × Unit)
abbrev T0:Type:=Int→Int→List (Ty.den g8)→List Int→List (Ty.den aB)→Int→Int→Int→Int→List (Ty.den aF)→Int→Int→Bool→List Int→List (Ty.den aB)→Int→Int→Int→Int→List (Ty.den aF)→Int→Int→Bool→List (Ty.den ax)→List (Ty.den aB)→Rs
def b0 (k:Nat) (L0:T0):T0:=fun x0 x1 x2 x3 x4 x5 x6 x7 x8 x9 x10 x11 x12 x13 x14 x15 x16 x17 x18 x19 x20 x21 x22 x23 x24 =>
 (bif (decide (x1<(x2.length:Int))) then
 (bi x1 (x2.length:Int)
 (bi x1 (x2.length:Int)
 (bi x1 (x2.length:Int)
 (bif (List.getD x2 (Int.toNat x1) (Ty.dflt g8)).2.1 then
 ((e7.f k ((x5,(x3,())),(x4,(x6,(x7,(x8,()))))) (x9,(x10,(x11,(x12,())))) (2,(x0,((List.getD x2 (Int.toNat x1) (Ty.dflt g8)).1,((List.getD x2 (Int.toNat x1) (Ty.dflt g8)).2.2.1,(0,(0,()))))))).bind fun r1 =>
 (bif (r1.2.2.2.1 != 0) then
 (some (r1.1,(r1.2.1,r1.2.2.2)))
 else
 ((gp.f k x24 r1.2.2.1).bind fun r2 =>
 (rm (Ty.bytes ax) (List.length x23+1)
 (L0 x0 (aH (x1+1)) x2 r1.1.1.2.1 r1.1.2.1 r1.1.1.1 r1.1.2.2.1 r1.1.2.2.2.1 r1.1.2.2.2.2.1 r1.2.1.1 r1.2.1.2.1 r1.2.1.2.2.1 r1.2.1.2.2.2.1 x13 x14 x15 x16 x17 x18 x19 x20 x21 x22 (x23++[(2,(x0,((List.getD x2 (Int.toNat x1) (Ty.dflt g8)).1,((List.getD x2 (Int.toNat x1) (Ty.dflt g8)).2.2.1,(0,(0,()))))))]) r2.1)))))
 else
 ((e7.f k ((x5,(x3,())),(x4,(x6,(x7,(x8,()))))) (x9,(x10,(x11,(x12,())))) (1,(x0,((List.getD x2 (Int.toNat x1) (Ty.dflt g8)).1,((List.getD x2 (Int.toNat x1) (Ty.dflt g8)).2.2.1,(0,(0,()))))))).bind fun r3 =>
 (bif (r3.2.2.2.1 != 0) then
 (some (r3.1,(r3.2.1,r3.2.2.2)))
 else
 ((gp.f k x24 r3.2.2.1).bind fun r4 =>
 (rm (Ty.bytes ax) (List.length x23+1)
 (L0 x0 (aH (x1+1)) x2 r3.1.1.2.1 r3.1.2.1 r3.1.1.1 r3.1.2.2.1 r3.1.2.2.2.1 r3.1.2.2.2.2.1 r3.2.1.1 r3.2.1.2.1 r3.2.1.2.2.1 r3.2.1.2.2.2.1 x13 x14 x15 x16 x17 x18 x19 x20 x21 x22 (x23++[(1,(x0,((List.getD x2 (Int.toNat x1) (Ty.dflt g8)).1,((List.getD x2 (Int.toNat x1) (Ty.dflt g8)).2.2.1,(0,(0,()))))))]) r4.1)))))))))
 else
 ((gd.f k x23 x0 3).bind fun r5 =>
 ((e7.f k ((x5,(x3,())),(x4,(x6,(x7,(x8,()))))) (x9,(x10,(x11,(x12,())))) r5.1).bind fun r6 =>
 (bif (r6.2.2.2.1 != 0) then
 (some (r6.1,(r6.2.1,r6.2.2.2)))
 else
 ((ch.f k r6.1).bind fun r7 =>
 ((cg.f k r6.2.1 r7.1).bind fun r8 =>
 (bif (r8.2.1 != 0) then
 ((aU.f k r8.2.1).bind fun r9 =>
 (some (r6.1,(r8.1,r9))))
 else
 (some ((r6.1.1,(x24,r6.1.2.2)),(r8.1,(0,())))))))))))
def l0 (k:Nat):Nat→T0
 | 0=>fun _ _ _ _ _ _ _ _ _ _ _ _ _ _ _ _ _ _ _ _ _ _ _ _ _=>none
 | n+1=>b0 k (l0 k n)
def t (k:Nat) (L0:T0) (a0:Ty.den aE) (a1:Ty.den a_) (a2:List (Ty.den g8)):Rs :=
 (rm (Ty.bytes aB) (0+List.length a0.2.1)
 (L0 a0.2.2.1 0 a2 a0.1.2.1 a0.2.1 a0.1.1 (aH (a0.2.2.1+1)) a0.2.2.2.1 a0.2.2.2.2.1 a1.1 a1.2.1 a1.2.2.1 a1.2.2.2.1 [] [] 0 0 0 0 [] 0 0 false [] ([]++a0.2.1)))
def f (k:Nat):=t k (l0 k k)
end bM
namespace gj
abbrev Rs:Type:=Option ((Ty.den aE) × (Ty.den a_) × Int × Unit)
def t (k:Nat) (a0:Ty.den aE) (a1:Ty.den a_) (a2:List (Ty.den g8)):Rs :=
 ((fD.f k a0).bind fun r1 =>
 ((cL.f k a1).bind fun r2 =>
 ((bw.f k a0 a1).bind fun r3 =>
 (bif (!r3.1) then
 (some (r1.1,(r2.1,(4,()))))
 else
 ((ek.f k a2).bind fun r4 =>
 (bif (!r4.1) then
 (some (r1.1,(r2.1,(4,()))))
 else
 (bif ((List.length a2:Int)==0) then
 (some (r1.1,(r2.1,(0,()))))
 else
 ((cq.f k a0.2.1 a2).bind fun r5 =>
 (bif (decide (r5.1 > 20)) then
 (some (r1.1,(r2.1,(5,()))))
 else
 (bif (decide (a0.2.2.1 > 1000000)) then
 (some (r1.1,(r2.1,(5,()))))
 else
 ((bM.f k r1.1 r2.1 a2).bind fun r6 =>
 (some r6))))))))))))
def f (k:Nat):=t k
end gj
namespace dh
abbrev Rs:Type:=Option ((Ty.den b8) × (Ty.den aE) × (Ty.den a_) × Unit)
abbrev T0:Type:=Int→List Int→Int→Int→List Int→List (Ty.den aB)→Int→Int→Int→Int→List (Ty.den aF)→Int→Int→Bool→List Int→List (Ty.den aB)→Int→Int→Int→Int→List (Ty.den aF)→Int→Int→Bool→Rs
def b0 (k:Nat) (L0:T0):T0:=fun x0 x1 x2 x3 x4 x5 x6 x7 x8 x9 x10 x11 x12 x13 x14 x15 x16 x17 x18 x19 x20 x21 x22 x23 =>
 (bif (decide (x0 > 0)) then
 (bif ((x14.length:Int)==0) then
 (some ((x1,(x2,(x3,()))),(((x16,(x14,())),(x15,(x17,(x18,(x19,()))))),((x20,(x21,(x22,(x23,())))),()))))
 else
 ((fj.f k (x1,(x2,(x3,()))) 6).bind fun r5 =>
 (bif r5.2.1 then
 ((jl.f k ((x16,(x14,())),(x15,(x17,(x18,(x19,()))))) (x20,(x21,(x22,(x23,()))))).bind fun r6 =>
 (L0 (aH (x0-1)) r5.1.1 r5.1.2.1 r5.1.2.2.1 x4 x5 x6 x7 x8 x9 x10 x11 x12 x13 r6.1.1.2.1 r6.1.2.1 r6.1.1.1 r6.1.2.2.1 r6.1.2.2.2.1 r6.1.2.2.2.2.1 r6.2.1.1 r6.2.1.2.1 r6.2.1.2.2.1 r6.2.1.2.2.2.1))
 else
 ((eu.f k r5.1).bind fun r7 =>
 ((gj.f k ((x16,(x14,())),(x15,(x17,(x18,(x19,()))))) (x20,(x21,(x22,(x23,())))) r7.2.1).bind fun r8 =>
 (L0 (aH (x0-1)) r7.1.1 r7.1.2.1 r7.1.2.2.1 x4 x5 x6 x7 x8 x9 x10 x11 x12 x13 r8.1.1.2.1 r8.1.2.1 r8.1.1.1 r8.1.2.2.1 r8.1.2.2.2.1 r8.1.2.2.2.2.1 r8.2.1.1 r8.2.1.2.1 r8.2.1.2.2.1 r8.2.1.2.2.2.1))))))
 else
 (some ((x1,(x2,(x3,()))),(((x16,(x14,())),(x15,(x17,(x18,(x19,()))))),((x20,(x21,(x22,(x23,())))),())))))
def l0 (k:Nat):Nat→T0
 | 0=>fun _ _ _ _ _ _ _ _ _ _ _ _ _ _ _ _ _ _ _ _ _ _ _ _=>none
 | n+1=>b0 k (l0 k n)
def t (k:Nat) (L0:T0) (a0:Ty.den b8):Rs :=
 ((cO.f k a0 [100000,100000,400,250]).bind fun r1 =>
 ((er.f k r1.2.1).bind fun r2 =>
 ((b7.f k r2.1).bind fun r3 =>
 ((aW.f k r1.1 7).bind fun r4 =>
 (L0 r4.2.1 r4.1.1 r4.1.2.1 r4.1.2.2.1 [] [] 0 0 0 0 [] 0 0 false r3.1.1.2.1 r3.1.2.1 r3.1.1.1 r3.1.2.2.1 r3.1.2.2.2.1 r3.1.2.2.2.2.1 r3.2.1.1 r3.2.1.2.1 r3.2.1.2.2.1 r3.2.1.2.2.2.1)))))
def f (k:Nat):=t k (l0 k k)
end dh
namespace iS
abbrev Rs:Type:=Option ((Ty.den b8) × (Ty.den aB) × Unit)
def t (k:Nat) (a0:Ty.den b8):Rs :=
 ((iW.f k a0).bind fun r1 =>
 ((aW.f k r1.1 4).bind fun r2 =>
 ((aW.f k r2.1 90).bind fun r3 =>
 ((aW.f k r3.1 30).bind fun r4 =>
 ((aW.f k r4.1 9).bind fun r5 =>
 (some (r5.1,((r1.2.1,((aH (1+r2.2.1)),(r3.2.1,((aH (8+r4.2.1)),((aH (1+r5.2.1)),()))))),()))))))))
def f (k:Nat):=t k
end iS
namespace gP
abbrev Rs:Type:=Option ((Ty.den b8) × (List (Ty.den aB)) × Unit)
abbrev T0:Type:=Int→List Int→Int→Int→List (Ty.den aB)→Rs
def b0 (k:Nat) (L0:T0):T0:=fun x0 x1 x2 x3 x4 =>
 (bif (decide (x0 > 0)) then
 ((iS.f k (x1,(x2,(x3,())))).bind fun r2 =>
 ((bV.f k x4 r2.2.1).bind fun r3 =>
 (L0 (aH (x0-1)) r2.1.1 r2.1.2.1 r2.1.2.2.1 r3.1)))
 else
 (bif (decide ((x4.length:Int) > 0)) then
 ((fj.f k (x1,(x2,(x3,()))) 8).bind fun r4 =>
 (bif r4.2.1 then
 ((aW.f k r4.1 (x4.length:Int)).bind fun r5 =>
 ((aW.f k r5.1 4).bind fun r6 =>
 (bif (r6.2.1==0) then
 ((fI.f k r6.1 [(⟨#[]⟩:ByteArray),(⟨#[122,122,122,122,122,122,122,122,122]⟩:ByteArray),(⟨#[97]⟩:ByteArray)]).bind fun r7 =>
 (bi r5.2.1 (x4.length:Int)
 (let l8:=(List.set x4 (Int.toNat r5.2.1) (r7.2.1,(List.getD x4 (Int.toNat r5.2.1) (Ty.dflt aB)).2));
 (some (r7.1,(l8,()))))))
 else
 (bif (r6.2.1==1) then
 (bi r5.2.1 (x4.length:Int)
 (let l9:=(List.set x4 (Int.toNat r5.2.1) ((List.getD x4 (Int.toNat r5.2.1) (Ty.dflt aB)).1,(0,(List.getD x4 (Int.toNat r5.2.1) (Ty.dflt aB)).2.2)));
 (some (r6.1,(l9,())))))
 else
 (bif (r6.2.1==2) then
 ((cO.f k r6.1 [0,210,211]).bind fun r10 =>
 (bi r5.2.1 (x4.length:Int)
 (let l11:=(List.set x4 (Int.toNat r5.2.1) ((List.getD x4 (Int.toNat r5.2.1) (Ty.dflt aB)).1,((List.getD x4 (Int.toNat r5.2.1) (Ty.dflt aB)).2.1,((List.getD x4 (Int.toNat r5.2.1) (Ty.dflt aB)).2.2.1,(r10.2.1,(List.getD x4 (Int.toNat r5.2.1) (Ty.dflt aB)).2.2.2.2)))));
 (some (r10.1,(l11,()))))))
 else
 ((cO.f k r6.1 [0,1000001]).bind fun r12 =>
 (bi r5.2.1 (x4.length:Int)
 (let l13:=(List.set x4 (Int.toNat r5.2.1) ((List.getD x4 (Int.toNat r5.2.1) (Ty.dflt aB)).1,((List.getD x4 (Int.toNat r5.2.1) (Ty.dflt aB)).2.1,((List.getD x4 (Int.toNat r5.2.1) (Ty.dflt aB)).2.2.1,((List.getD x4 (Int.toNat r5.2.1) (Ty.dflt aB)).2.2.2.1,r12.2)))));
 (some (r12.1,(l13,())))))))))))
 else
 (some (r4.1,(x4,())))))
 else
 (some ((x1,(x2,(x3,()))),(x4,())))))
def l0 (k:Nat):Nat→T0
 | 0=>fun _ _ _ _ _=>none
 | n+1=>b0 k (l0 k n)
def t (k:Nat) (L0:T0) (a0:Ty.den b8):Rs :=
 ((aW.f k a0 7).bind fun r1 =>
 (L0 r1.2.1 r1.1.1 r1.1.2.1 r1.1.2.2.1 []))
def f (k:Nat):=t k (l0 k k)
end gP
namespace fm
abbrev Rs:Type:=Option ((Ty.den b8) × ByteArray × Unit)
def t (k:Nat) (a0:Ty.den b8):Rs :=
 ((fI.f k a0 [(⟨#[108,105,118,101]⟩:ByteArray),(⟨#[115,101,103,49]⟩:ByteArray),(⟨#[115,101,103,50]⟩:ByteArray),(⟨#[115,101,103,51]⟩:ByteArray),(⟨#[116,101,109,112]⟩:ByteArray),(⟨#[104,105,110,116,49]⟩:ByteArray),(⟨#[120]⟩:ByteArray),(⟨#[97,57]⟩:ByteArray)]).bind fun r1 =>
 (some r1))
def f (k:Nat):=t k
end fm
namespace dk
abbrev Rs:Type:=Option ((Ty.den b8) × (Ty.den a_) × Unit)
abbrev T0:Type:=Int→List Int→Int→Int→List (Ty.den aF)→Int→Int→Bool→List (Ty.den aF)→Int→Int→Bool→Rs
def b0 (k:Nat) (L0:T0):T0:=fun x0 x1 x2 x3 x4 x5 x6 x7 x8 x9 x10 x11 =>
 (bif (decide (x0 > 0)) then
 ((fm.f k (x1,(x2,(x3,())))).bind fun r3 =>
 ((aW.f k r3.1 6).bind fun r4 =>
 (bif (r4.2.1==0) then
 (bif (r4.2.1==0) then
 ((eY.f k (x8,(x9,(x10,(x11,())))) r3.2.1).bind fun r5 =>
 (L0 (aH (x0-1)) r4.1.1 r4.1.2.1 r4.1.2.2.1 x4 x5 x6 x7 r5.1.1 r5.1.2.1 r5.1.2.2.1 r5.1.2.2.2.1))
 else
 (bif (r4.2.1==2) then
 (bif (r4.2.1==2) then
 ((d_.f k r4.1 9).bind fun r6 =>
 ((cA.f k (x8,(x9,(x10,(x11,())))) r3.2.1 r6.2.1).bind fun r7 =>
 (L0 (aH (x0-1)) r6.1.1 r6.1.2.1 r6.1.2.2.1 x4 x5 x6 x7 r7.1.1 r7.1.2.1 r7.1.2.2.1 r7.1.2.2.2.1)))
 else
 (bif (r4.2.1==4) then
 ((cg.f k (x8,(x9,(x10,(x11,())))) r3.2.1).bind fun r8 =>
 (L0 (aH (x0-1)) r4.1.1 r4.1.2.1 r4.1.2.2.1 x4 x5 x6 x7 r8.1.1 r8.1.2.1 r8.1.2.2.1 r8.1.2.2.2.1))
 else
 ((fm.f k r4.1).bind fun r9 =>
 ((fJ.f k (x8,(x9,(x10,(x11,())))) r3.2.1 r9.2.1).bind fun r10 =>
 (L0 (aH (x0-1)) r9.1.1 r9.1.2.1 r9.1.2.2.1 x4 x5 x6 x7 r10.1.1 r10.1.2.1 r10.1.2.2.1 r10.1.2.2.2.1)))))
 else
 (bif (r4.2.1==3) then
 ((d_.f k r4.1 9).bind fun r11 =>
 ((cA.f k (x8,(x9,(x10,(x11,())))) r3.2.1 r11.2.1).bind fun r12 =>
 (L0 (aH (x0-1)) r11.1.1 r11.1.2.1 r11.1.2.2.1 x4 x5 x6 x7 r12.1.1 r12.1.2.1 r12.1.2.2.1 r12.1.2.2.2.1)))
 else
 (bif (r4.2.1==4) then
 ((cg.f k (x8,(x9,(x10,(x11,())))) r3.2.1).bind fun r13 =>
 (L0 (aH (x0-1)) r4.1.1 r4.1.2.1 r4.1.2.2.1 x4 x5 x6 x7 r13.1.1 r13.1.2.1 r13.1.2.2.1 r13.1.2.2.2.1))
 else
 ((fm.f k r4.1).bind fun r14 =>
 ((fJ.f k (x8,(x9,(x10,(x11,())))) r3.2.1 r14.2.1).bind fun r15 =>
 (L0 (aH (x0-1)) r14.1.1 r14.1.2.1 r14.1.2.2.1 x4 x5 x6 x7 r15.1.1 r15.1.2.1 r15.1.2.2.1 r15.1.2.2.2.1)))))))
 else
 (bif (r4.2.1==1) then
 ((eY.f k (x8,(x9,(x10,(x11,())))) r3.2.1).bind fun r16 =>
 (L0 (aH (x0-1)) r4.1.1 r4.1.2.1 r4.1.2.2.1 x4 x5 x6 x7 r16.1.1 r16.1.2.1 r16.1.2.2.1 r16.1.2.2.2.1))
 else
 (bif (r4.2.1==2) then
 (bif (r4.2.1==2) then
 ((d_.f k r4.1 9).bind fun r17 =>
 ((cA.f k (x8,(x9,(x10,(x11,())))) r3.2.1 r17.2.1).bind fun r18 =>
 (L0 (aH (x0-1)) r17.1.1 r17.1.2.1 r17.1.2.2.1 x4 x5 x6 x7 r18.1.1 r18.1.2.1 r18.1.2.2.1 r18.1.2.2.2.1)))
 else
 (bif (r4.2.1==4) then
 ((cg.f k (x8,(x9,(x10,(x11,())))) r3.2.1).bind fun r19 =>
 (L0 (aH (x0-1)) r4.1.1 r4.1.2.1 r4.1.2.2.1 x4 x5 x6 x7 r19.1.1 r19.1.2.1 r19.1.2.2.1 r19.1.2.2.2.1))
 else
 ((fm.f k r4.1).bind fun r20 =>
 ((fJ.f k (x8,(x9,(x10,(x11,())))) r3.2.1 r20.2.1).bind fun r21 =>
 (L0 (aH (x0-1)) r20.1.1 r20.1.2.1 r20.1.2.2.1 x4 x5 x6 x7 r21.1.1 r21.1.2.1 r21.1.2.2.1 r21.1.2.2.2.1)))))
 else
 (bif (r4.2.1==3) then
 ((d_.f k r4.1 9).bind fun r22 =>
 ((cA.f k (x8,(x9,(x10,(x11,())))) r3.2.1 r22.2.1).bind fun r23 =>
 (L0 (aH (x0-1)) r22.1.1 r22.1.2.1 r22.1.2.2.1 x4 x5 x6 x7 r23.1.1 r23.1.2.1 r23.1.2.2.1 r23.1.2.2.2.1)))
 else
 (bif (r4.2.1==4) then
 ((cg.f k (x8,(x9,(x10,(x11,())))) r3.2.1).bind fun r24 =>
 (L0 (aH (x0-1)) r4.1.1 r4.1.2.1 r4.1.2.2.1 x4 x5 x6 x7 r24.1.1 r24.1.2.1 r24.1.2.2.1 r24.1.2.2.2.1))
 else
 ((fm.f k r4.1).bind fun r25 =>
 ((fJ.f k (x8,(x9,(x10,(x11,())))) r3.2.1 r25.2.1).bind fun r26 =>
 (L0 (aH (x0-1)) r25.1.1 r25.1.2.1 r25.1.2.2.1 x4 x5 x6 x7 r26.1.1 r26.1.2.1 r26.1.2.2.1 r26.1.2.2.2.1))))))))))
 else
 (some ((x1,(x2,(x3,()))),((x8,(x9,(x10,(x11,())))),()))))
def l0 (k:Nat):Nat→T0
 | 0=>fun _ _ _ _ _ _ _ _ _ _ _ _=>none
 | n+1=>b0 k (l0 k n)
def t (k:Nat) (L0:T0) (a0:Ty.den b8):Rs :=
 ((er.f k 200).bind fun r1 =>
 ((aW.f k a0 12).bind fun r2 =>
 (L0 r2.2.1 r2.1.1 r2.1.2.1 r2.1.2.2.1 [] 0 0 false r1.1.1 r1.1.2.1 r1.1.2.2.1 r1.1.2.2.2.1)))
def f (k:Nat):=t k (l0 k k)
end dk
namespace gO
abbrev Rs:Type:=Option ((Ty.den b8) × (Ty.den a_) × Unit)
abbrev T0:Type:=Int→List Int→Int→Int→List (Ty.den aF)→Int→Int→Bool→List (Ty.den aF)→Int→Int→Bool→Rs
def b0 (k:Nat) (L0:T0):T0:=fun x0 x1 x2 x3 x4 x5 x6 x7 x8 x9 x10 x11 =>
 ((aW.f k (x1,(x2,(x3,()))) 3).bind fun r11 =>
 (bif (decide (x0<(aH (129+r11.2.1)))) then
 (bif (decide ((x8.length:Int)<131)) then
 ((dO.f k (aH (100+x0))).bind fun r12 =>
 (k_ (⟨#[121]⟩:ByteArray) r12.1
 (rm (Ty.bytes aF) (List.length x8+1)
 (L0 (aH (x0+1)) r11.1.1 r11.1.2.1 r11.1.2.2.1 x4 x5 x6 x7 (x8++[(((⟨#[121]⟩:ByteArray)++r12.1),(ByteArray.empty,(0,())))]) x9 x10 x11))))
 else
 (some (r11.1,((x8,(x9,(x10,(x11,())))),()))))
 else
 (some (r11.1,((x8,(x9,(x10,(x11,())))),())))))
def l0 (k:Nat):Nat→T0
 | 0=>fun _ _ _ _ _ _ _ _ _ _ _ _=>none
 | n+1=>b0 k (l0 k n)
def t (k:Nat) (L0:T0) (a0:Ty.den b8):Rs :=
 ((dk.f k a0).bind fun r1 =>
 ((aW.f k r1.1 14).bind fun r2 =>
 (bif (r2.2.1==0) then
 ((cO.f k r2.1 [0,1,(-2),(-1)]).bind fun r3 =>
 (some (r3.1,((r1.2.1.1,(r1.2.1.2.1,(r3.2.1,r1.2.1.2.2.2))),()))))
 else
 (bif (r2.2.1==1) then
 (some (r2.1,((r1.2.1.1,(r1.2.1.2.1,(r1.2.1.2.2.1,(true,())))),())))
 else
 (bif (r2.2.1==2) then
 ((dP.f k r1.2.1).bind fun r4 =>
 ((dP.f k r1.2.1).bind fun r5 =>
 ((cO.f k r2.1 [(-1),5,r4.1,(aH (r5.1+3)),100000,100001]).bind fun r6 =>
 (some (r6.1,((r1.2.1.1,(r6.2.1,r1.2.1.2.2)),()))))))
 else
 (bif (r2.2.1==3) then
 (bif (decide ((List.length r1.2.1.1:Int) > 0)) then
 ((aW.f k r2.1 9).bind fun r7 =>
 (bi 0 (List.length r1.2.1.1:Int)
 (let l8:=(List.set r1.2.1.1 0 ((List.getD r1.2.1.1 0 (Ty.dflt aF)).1,((List.getD r1.2.1.1 0 (Ty.dflt aF)).2.1,((aH (r7.2.1-1)),(List.getD r1.2.1.1 0 (Ty.dflt aF)).2.2.2))));
 (some (r7.1,((l8,r1.2.1.2),()))))))
 else
 (some (r2.1,r1.2)))
 else
 (bif (r2.2.1==4) then
 (bif (decide ((List.length r1.2.1.1:Int) > 0)) then
 ((fI.f k r2.1 [(⟨#[]⟩:ByteArray),(⟨#[65]⟩:ByteArray),(⟨#[122,122]⟩:ByteArray),(⟨#[116,111,111,108,111,110,103,97,110,97,109,101,49]⟩:ByteArray)]).bind fun r9 =>
 (bi 0 (List.length r1.2.1.1:Int)
 (let l10:=(List.set r1.2.1.1 0 (r9.2.1,(List.getD r1.2.1.1 0 (Ty.dflt aF)).2));
 (some (r9.1,((l10,r1.2.1.2),()))))))
 else
 (some (r2.1,r1.2)))
 else
 (bif (r2.2.1==5) then
 (L0 0 r2.1.1 r2.1.2.1 r2.1.2.2.1 [] 0 0 false r1.2.1.1 r1.2.1.2.1 r1.2.1.2.2.1 r1.2.1.2.2.2.1)
 else
 (some (r2.1,r1.2))))))))))
def f (k:Nat):=t k (l0 k k)
end gO
namespace jB
abbrev Rs:Type:=Option ((Ty.den b8) × (Ty.den aE) × (Ty.den a_) × Unit)
def t (k:Nat) (a0:Ty.den b8):Rs :=
 ((dh.f k a0).bind fun r1 =>
 ((aW.f k r1.1 16).bind fun r2 =>
 (bif (r2.2.1==0) then
 (some (r2.1,((r1.2.1.1,(r1.2.1.2.1,(r1.2.1.2.2.1,((aH (r1.2.1.2.2.2.1+1)),r1.2.1.2.2.2.2)))),r1.2.2)))
 else
 (bif (r2.2.1==1) then
 ((gP.f k r2.1).bind fun r3 =>
 (some (r3.1,((r1.2.1.1,(r3.2.1,r1.2.1.2.2)),r1.2.2))))
 else
 (bif (r2.2.1==2) then
 ((cO.f k r2.1 [0,1000000,1000001,1000002,1]).bind fun r4 =>
 (some (r4.1,((r1.2.1.1,(r1.2.1.2.1,(r4.2.1,r1.2.1.2.2.2))),r1.2.2))))
 else
 (bif (r2.2.1==3) then
 ((gO.f k r2.1).bind fun r5 =>
 (some (r5.1,(r1.2.1,r5.2))))
 else
 (bif (r2.2.1==4) then
 (bif (r2.2.1==4) then
 ((aW.f k r2.1 12).bind fun r6 =>
 (some (r6.1,(r1.2.1,((r1.2.2.1.1,(r1.2.2.1.2.1,(r6.2.1,r1.2.2.1.2.2.2))),())))))
 else
 (bif (r2.2.1==6) then
 (some (r2.1,(((r1.2.1.1.1,([],())),r1.2.1.2),r1.2.2)))
 else
 (some (r2.1,r1.2))))
 else
 (bif (r2.2.1==5) then
 ((aW.f k r2.1 12).bind fun r7 =>
 (some (r7.1,(r1.2.1,((r1.2.2.1.1,(r1.2.2.1.2.1,(r7.2.1,r1.2.2.1.2.2.2))),())))))
 else
 (bif (r2.2.1==6) then
 (some (r2.1,(((r1.2.1.1.1,([],())),r1.2.1.2),r1.2.2)))
 else
 (some (r2.1,r1.2)))))))))))
def f (k:Nat):=t k
end jB
namespace gi
abbrev Rs:Type:=Option ((Ty.den aE) × (Ty.den a_) × Unit)
def t (k:Nat) (a0:List Int):Rs :=
 ((fu.f k a0).bind fun r1 =>
 ((jB.f k r1.2.1).bind fun r2 =>
 (some r2.2)))
def f (k:Nat):=t k
end gi
namespace ib
abbrev Rs:Type:=Option ((Ty.den bE) × Unit)
def t (k:Nat) (a0:Ty.den bE):Rs :=
 (rm (Ty.bytes (.int .i64)) (List.length a0.2.1)
 (some (a0,())))
def f (k:Nat):=t k
end ib
namespace jJ
abbrev Rs:Type:=Option ((List (Ty.den aB)) × Unit)
def t (k:Nat) (a0:List (Ty.den aB)):Rs :=
 (rm (Ty.bytes aB) (List.length a0)
 (some (a0,())))
def f (k:Nat):=t k
end jJ
namespace gf
abbrev Rs:Type:=Option ((Ty.den aE) × Unit)
def t (k:Nat) (a0:Ty.den aE):Rs :=
 ((ib.f k a0.1).bind fun r1 =>
 ((jJ.f k a0.2.1).bind fun r2 =>
 (some ((r1.1,(r2.1,a0.2.2)),()))))
def f (k:Nat):=t k
end gf
namespace cH
abbrev Rs:Type:=Option ((Ty.den a_) × Unit)
def t (k:Nat) (a0:Ty.den a_):Rs :=
 (rm (Ty.bytes aF) (List.length a0.1)
 (some (a0,())))
def f (k:Nat):=t k
end cH
namespace fA
abbrev Rs:Type:=Option ((List ByteArray) × Unit)
abbrev T0:Type:=List (Ty.den aB)→Int→Int→List ByteArray→Rs
def b0 (k:Nat) (L0:T0):T0:=fun x0 x1 x2 x3 =>
 (bif (decide (x2<x1)) then
 (bi x2 (x0.length:Int)
 (rm (Ty.bytes .str) (List.length x3+1)
 (L0 x0 x1 (aH (x2+1)) (x3++[(List.getD x0 (Int.toNat x2) (Ty.dflt aB)).1]))))
 else
 (some (x3,())))
def l0 (k:Nat):Nat→T0
 | 0=>fun _ _ _ _=>none
 | n+1=>b0 k (l0 k n)
def t (k:Nat) (L0:T0) (a0:List (Ty.den aB)):Rs :=
 (L0 a0 (List.length a0:Int) 0 [])
def f (k:Nat):=t k (l0 k k)
end fA
namespace ff
abbrev Rs:Type:=Option ((Ty.den aB) × Bool × Unit)
abbrev T0:Type:=ByteArray→List (Ty.den aB)→Int→Int→ByteArray→Int→Int→Int→Int→Rs
def b0 (k:Nat) (L0:T0):T0:=fun x0 x1 x2 x3 x4 x5 x6 x7 x8 =>
 (bif (decide (x3<x2)) then
 (bi x3 (x1.length:Int)
 (bif (seq (List.getD x1 (Int.toNat x3) (Ty.dflt aB)).1 x0) then
 (some ((List.getD x1 (Int.toNat x3) (Ty.dflt aB)),(true,())))
 else
 (L0 x0 x1 x2 (aH (x3+1)) x4 x5 x6 x7 x8)))
 else
 (some ((ByteArray.empty,(0,(0,(0,(0,()))))),(false,()))))
def l0 (k:Nat):Nat→T0
 | 0=>fun _ _ _ _ _ _ _ _ _=>none
 | n+1=>b0 k (l0 k n)
def t (k:Nat) (L0:T0) (a0:List (Ty.den aB)) (a1:ByteArray):Rs :=
 (L0 a1 a0 (List.length a0:Int) 0 ByteArray.empty 0 0 0 0)
def f (k:Nat):=t k (l0 k k)
end ff
namespace ah
abbrev Rs:Type:=Option (Bool × Unit)
def t (k:Nat) (a0:Int) (a1:Int) (a2:Int):Rs :=
 (bif (decide (a0≥a1)) then
 (some ((decide (a0≤a2)),()))
 else
 (some (false,())))
def f (k:Nat):=t k
end ah
namespace m4
abbrev Rs:Type:=Option (ByteArray × Unit)
def t (k:Nat) (a0:Int):Rs :=
 ((m6.f k a0).bind fun r1 =>
 (some r1))
def f (k:Nat):=t k
end m4
namespace ic
abbrev Rs:Type:=Option (ByteArray × Unit)
def t (k:Nat) (a0:ByteArray) (a1:Int):Rs :=
 ((ah.f k a1 1 100000).bind fun r1 =>
 (bif (!r1.1) then
 (some ((⟨#[]⟩:ByteArray),()))
 else
 ((m4.f k a1).bind fun r2 =>
 (k_ a0 r2.1
 (some ((a0++r2.1),()))))))
def f (k:Nat):=t k
end ic
namespace ao
abbrev Rs:Type:=Option (ByteArray × Unit)
def t (k:Nat) (a0:Int):Rs :=
 ((ic.f k (⟨#[115,101,103]⟩:ByteArray) a0).bind fun r1 =>
 (some r1))
def f (k:Nat):=t k
end ao
namespace bO
abbrev Rs:Type:=Option (Int × Unit)
abbrev T0:Type:=ByteArray→List (Ty.den aF)→Int→Int→Rs
def b0 (k:Nat) (L0:T0):T0:=fun x0 x1 x2 x3 =>
 (bif (decide (x3<x2)) then
 (bi x3 (x1.length:Int)
 (bif (seq (List.getD x1 (Int.toNat x3) (Ty.dflt aF)).1 x0) then
 (some (x3,()))
 else
 (L0 x0 x1 x2 (aH (x3+1)))))
 else
 (some ((-1),())))
def l0 (k:Nat):Nat→T0
 | 0=>fun _ _ _ _=>none
 | n+1=>b0 k (l0 k n)
def t (k:Nat) (L0:T0) (a0:Ty.den a_) (a1:ByteArray):Rs :=
 (L0 a1 a0.1 (List.length a0.1:Int) 0)
def f (k:Nat):=t k (l0 k k)
end bO
namespace dl
abbrev Rs:Type:=Option (Bool × Unit)
abbrev T0:Type:=ByteArray→Int→Rs
def b0 (k:Nat) (L0:T0):T0:=fun x0 x1 =>
 (bif (decide (x1<(ByteArray.size x0:Int))) then
 (bi x1 (ByteArray.size x0:Int)
 (bif (decide ((dr x0 x1)≥97)) then
 (bi x1 (ByteArray.size x0:Int)
 (bif (!(decide ((dr x0 x1)≤122))) then
 (bi x1 (ByteArray.size x0:Int)
 (bif (decide ((dr x0 x1)≥48)) then
 (bi x1 (ByteArray.size x0:Int)
 (bif (!(decide ((dr x0 x1)≤57))) then
 (some (false,()))
 else
 (L0 x0 (aH (x1+1)))))
 else
 (some (false,()))))
 else
 (L0 x0 (aH (x1+1)))))
 else
 (bi x1 (ByteArray.size x0:Int)
 (bif (decide ((dr x0 x1)≥48)) then
 (bi x1 (ByteArray.size x0:Int)
 (bif (!(decide ((dr x0 x1)≤57))) then
 (some (false,()))
 else
 (L0 x0 (aH (x1+1)))))
 else
 (some (false,()))))))
 else
 ((ah.f k (ByteArray.size x0:Int) 1 12).bind fun r1 =>
 (some r1)))
def l0 (k:Nat):Nat→T0
 | 0=>fun _ _=>none
 | n+1=>b0 k (l0 k n)
def t (k:Nat) (L0:T0) (a0:ByteArray):Rs :=
 (L0 a0 0)
def f (k:Nat):=t k (l0 k k)
end dl
namespace bC
abbrev Rs:Type:=Option (Bool × Unit)
abbrev T0:Type:=Int→List (Ty.den aF)→Int→Int→List (Ty.den aF)→Int→Int→Bool→Rs
def b0 (k:Nat) (L0:T0):T0:=fun x0 x1 x2 x3 x4 x5 x6 x7 =>
 (bif (decide (x3<x2)) then
 (bi x3 (x1.length:Int)
 ((dl.f k (List.getD x1 (Int.toNat x3) (Ty.dflt aF)).1).bind fun r3 =>
 (bif (!r3.1) then
 (some (false,()))
 else
 ((ah.f k (List.getD x1 (Int.toNat x3) (Ty.dflt aF)).2.2.1 0 (ByteArray.size (List.getD x1 (Int.toNat x3) (Ty.dflt aF)).2.1:Int)).bind fun r4 =>
 (bif (!r4.1) then
 (some (false,()))
 else
 (bif (decide (x3 > 0)) then
 (bi (aH (x3-1)) (x4.length:Int)
 (bif (!(mN (List.getD x4 (Int.toNat (aH (x3-1))) (Ty.dflt aF)).1 (List.getD x1 (Int.toNat x3) (Ty.dflt aF)).1)) then
 (some (false,()))
 else
 (L0 (aH (x0+(ByteArray.size (List.getD x1 (Int.toNat x3) (Ty.dflt aF)).2.1:Int))) x1 x2 (aH (x3+1)) x4 x5 x6 x7)))
 else
 (L0 (aH (x0+(ByteArray.size (List.getD x1 (Int.toNat x3) (Ty.dflt aF)).2.1:Int))) x1 x2 (aH (x3+1)) x4 x5 x6 x7)))))))
 else
 (some ((decide (x0≤x5)),())))
def l0 (k:Nat):Nat→T0
 | 0=>fun _ _ _ _ _ _ _ _=>none
 | n+1=>b0 k (l0 k n)
def t (k:Nat) (L0:T0) (a0:Ty.den a_):Rs :=
 (bif (decide ((List.length a0.1:Int) > 130)) then
 (some (false,()))
 else
 ((ah.f k a0.2.1 0 100000).bind fun r1 =>
 (bif (!r1.1) then
 (some (false,()))
 else
 ((ah.f k a0.2.2.1 (-1) 100000).bind fun r2 =>
 (bif (!r2.1) then
 (some (false,()))
 else
 (L0 0 a0.1 (List.length a0.1:Int) 0 a0.1 a0.2.1 a0.2.2.1 a0.2.2.2.1))))))
def f (k:Nat):=t k (l0 k k)
end bC
namespace cI
abbrev Rs:Type:=Option (ByteArray × Bool × Unit)
def t (k:Nat) (a0:Ty.den a_) (a1:ByteArray):Rs :=
 ((bO.f k a0 a1).bind fun r1 =>
 (bif (decide (r1.1<0)) then
 (some ((⟨#[]⟩:ByteArray),(false,())))
 else
 ((bC.f k a0).bind fun r2 =>
 (bif (!r2.1) then
 (some ((⟨#[]⟩:ByteArray),(false,())))
 else
 (bi r1.1 (List.length a0.1:Int)
 (some ((List.getD a0.1 (Int.toNat r1.1) (Ty.dflt aF)).2.1,(true,()))))))))
def f (k:Nat):=t k
end cI
namespace cS
abbrev Rs:Type:=Option (Int × Int × Unit)
abbrev T0:Type:=ByteArray→Int→Int→Rs
def b0 (k:Nat) (L0:T0):T0:=fun x0 x1 x2 =>
 (bif (decide (x2<7)) then
 (bif (decide (x2<(ByteArray.size x0:Int))) then
 (bi x2 (ByteArray.size x0:Int)
 (bif (decide ((aH (7*x2))<0)) then none else
 (bif (decide ((aH (dr x0 x2))≥128)) then
 (L0 x0 (aH (x1+(aH ((Int.tmod (aH (dr x0 x2)) 128)*2 ^ (min (Int.toNat (aH (7*x2))) (IntKind.bits .i64)))))) (aH (x2+1)))
 else
 (bif ((aH (dr x0 x2))==0) then
 (bif (decide (x2 > 0)) then
 (some (0,(0,())))
 else
 (some ((aH (x1+(aH ((Int.tmod (aH (dr x0 x2)) 128)*2 ^ (min (Int.toNat (aH (7*x2))) (IntKind.bits .i64)))))),((aH (x2+1)),()))))
 else
 (some ((aH (x1+(aH ((Int.tmod (aH (dr x0 x2)) 128)*2 ^ (min (Int.toNat (aH (7*x2))) (IntKind.bits .i64)))))),((aH (x2+1)),())))))))
 else
 (some (0,(0,()))))
 else
 (some (0,(0,()))))
def l0 (k:Nat):Nat→T0
 | 0=>fun _ _ _=>none
 | n+1=>b0 k (l0 k n)
def t (k:Nat) (L0:T0) (a0:ByteArray):Rs :=
 (L0 a0 0 0)
def f (k:Nat):=t k (l0 k k)
end cS
namespace fE
abbrev Rs:Type:=Option (ByteArray × Unit)
abbrev T0:Type:=Int→List Int→Rs
def b0 (k:Nat) (L0:T0):T0:=fun x0 x1 =>
 (bif (decide (x0 > 127)) then
 (rm (Ty.bytes (.int .u8)) (List.length x1+1)
 (L0 (aH (Int.tdiv x0 128)) (x1++[(IntKind.wrap .u8 (aH ((Int.tmod x0 128)+128)))])))
 else
 (rm (Ty.bytes (.int .u8)) (List.length x1+1)
 (some ((bytesOf (x1++[(IntKind.wrap .u8 x0)])),()))))
def l0 (k:Nat):Nat→T0
 | 0=>fun _ _=>none
 | n+1=>b0 k (l0 k n)
def t (k:Nat) (L0:T0) (a0:Int):Rs :=
 ((ah.f k a0 0 562949953421311).bind fun r1 =>
 (bif (!r1.1) then
 (some ((⟨#[]⟩:ByteArray),()))
 else
 (L0 a0 [])))
def f (k:Nat):=t k (l0 k k)
end fE
namespace dp
abbrev Rs:Type:=Option (ByteArray × Unit)
def t (k:Nat) (a0:ByteArray):Rs :=
 ((fE.f k (ByteArray.size a0:Int)).bind fun r1 =>
 (k_ r1.1 a0
 (some ((r1.1++a0),()))))
def f (k:Nat):=t k
end dp
namespace fe
abbrev Rs:Type:=Option (Int × Unit)
abbrev T1:Type:=ByteArray→Int→Int→Int→Rs
abbrev T0:Type:=ByteArray→Int→Int→Rs
def b1 (k:Nat) (L0:T0) (L1:T1):T1:=fun x0 x1 x2 x3 =>
 (bif (decide (x3<8)) then
 (bif ((IntKind.wrap .u32 (((BitVec.ofInt (IntKind.bits .u32) x1 &&& BitVec.ofInt (IntKind.bits .u32) 1).toNat:Int)))==1) then
 (L1 x0 (IntKind.wrap .u32 (((BitVec.ofInt (IntKind.bits .u32) (Int.fdiv x1 (2 ^ (Int.toNat 1))) ^^^ BitVec.ofInt (IntKind.bits .u32) 2197175160).toNat:Int))) x2 (aH (x3+1)))
 else
 (L1 x0 (Int.fdiv x1 (2 ^ (Int.toNat 1))) x2 (aH (x3+1))))
 else
 (L0 x0 x1 (aH (x2+1))))
def l1 (k:Nat) (L0:T0):Nat→T1
 | 0=>fun _ _ _ _=>none
 | n+1=>b1 k L0 (l1 k L0 n)
def b0 (k:Nat) (L1:T1) (L0:T0):T0:=fun x0 x1 x2 =>
 (bif (decide (x2<(ByteArray.size x0:Int))) then
 (bi x2 (ByteArray.size x0:Int)
 (L1 x0 (IntKind.wrap .u32 (((BitVec.ofInt (IntKind.bits .u32) x1 ^^^ BitVec.ofInt (IntKind.bits .u32) (IntKind.wrap .u32 (dr x0 x2))).toNat:Int))) x2 0))
 else
 (some ((aH (DU .u32 x1)),())))
def l0 (k:Nat):Nat→T0
 | 0=>fun _ _ _=>none
 | n+1=>b0 k (l1 k (l0 k n) k) (l0 k n)
def t (k:Nat) (L0:T0) (a0:ByteArray):Rs :=
 (L0 a0 4294967295 0)
def f (k:Nat):=t k (l0 k k)
end fe
namespace dJ
abbrev Rs:Type:=Option (ByteArray × Unit)
abbrev T0:Type:=Int→Int→List Int→Rs
def b0 (k:Nat) (L0:T0):T0:=fun x0 x1 x2 =>
 (bif (decide (x1≥0)) then
 (bif (decide ((aH (8*x1))<0)) then none else
 (rm (Ty.bytes (.int .u8)) (List.length x2+1)
 (L0 x0 (aH (x1-1)) (x2++[(IntKind.wrap .u8 (Int.fdiv x0 (2 ^ (min (Int.toNat (aH (8*x1))) (IntKind.bits .i64)))))]))))
 else
 (some ((bytesOf x2),())))
def l0 (k:Nat):Nat→T0
 | 0=>fun _ _ _=>none
 | n+1=>b0 k (l0 k n)
def t (k:Nat) (L0:T0) (a0:Int) (a1:Int):Rs :=
 ((ah.f k a1 1 7).bind fun r1 =>
 (bif (!r1.1) then
 (some ((⟨#[]⟩:ByteArray),()))
 else
 (bif (decide ((aH (8*a1))<0)) then none else
 ((ah.f k a0 0 (aH ((aH (1*2 ^ (min (Int.toNat (aH (8*a1))) (IntKind.bits .i64))))-1))).bind fun r2 =>
 (bif (!r2.1) then
 (some ((⟨#[]⟩:ByteArray),()))
 else
 (L0 a0 (aH (a1-1)) []))))))
def f (k:Nat):=t k (l0 k k)
end dJ
namespace fw
abbrev Rs:Type:=Option (ByteArray × Unit)
def t (k:Nat) (a0:ByteArray):Rs :=
 (bif (decide ((ByteArray.size a0:Int) > 200)) then
 (some ((⟨#[]⟩:ByteArray),()))
 else
 ((dp.f k a0).bind fun r1 =>
 ((fe.f k r1.1).bind fun r2 =>
 ((dJ.f k r2.1 4).bind fun r3 =>
 (k_ r3.1 r1.1
 (some ((r3.1++r1.1),())))))))
def f (k:Nat):=t k
end fw
namespace dU
abbrev Rs:Type:=Option (ByteArray × Int × Unit)
def t (k:Nat) (a0:ByteArray):Rs :=
 (bif (decide ((ByteArray.size a0:Int)<4)) then
 (some ((⟨#[]⟩:ByteArray),(0,())))
 else
 (pV 4 (ByteArray.size a0:Int)
 ((cS.f k (ByteArray.extract a0 4 (ByteArray.size a0))).bind fun r1 =>
 (bif (r1.2.1==0) then
 (some ((⟨#[]⟩:ByteArray),(0,())))
 else
 (bif (decide (r1.1 > 200)) then
 (some ((⟨#[]⟩:ByteArray),(0,())))
 else
 (bif (decide (r1.1 > (aH ((aH ((ByteArray.size a0:Int)-4))-r1.2.1)))) then
 (some ((⟨#[]⟩:ByteArray),(0,())))
 else
 (DC (aH (4+r1.2.1)) (aH ((aH (4+r1.2.1))+r1.1)) (ByteArray.size a0:Int)
 ((fw.f k (ByteArray.extract a0 (Int.toNat (aH (4+r1.2.1))) (Int.toNat (aH ((aH (4+r1.2.1))+r1.1))))).bind fun r2 =>
 (pV (aH ((aH (4+r1.2.1))+r1.1)) (ByteArray.size a0:Int)
 (bif (!(seq r2.1 (ByteArray.extract a0 0 (Int.toNat (aH ((aH (4+r1.2.1))+r1.1)))))) then
 (some ((⟨#[]⟩:ByteArray),(0,())))
 else
 (some ((ByteArray.extract a0 (Int.toNat (aH (4+r1.2.1))) (Int.toNat (aH ((aH (4+r1.2.1))+r1.1)))),((aH ((aH (4+r1.2.1))+r1.1)),())))))))))))))
def f (k:Nat):=t k
end dU
namespace aZ
abbrev Rs:Type:=Option ((Ty.den jP) × Int × Unit)
def t (k:Nat) (a0:Ty.den jP):Rs :=
 ((cS.f k a0.1).bind fun r1 =>
 (bif a0.2.1 then
 (some ((a0.1,(true,())),(0,())))
 else
 (bif (r1.2.1==0) then
 (some ((a0.1,(true,())),(0,())))
 else
 (pV r1.2.1 (ByteArray.size a0.1:Int)
 (some (((ByteArray.extract a0.1 (Int.toNat r1.2.1) (ByteArray.size a0.1)),a0.2),(r1.1,())))))))
def f (k:Nat):=t k
end aZ
namespace au
abbrev Rs:Type:=Option ((Ty.den jP) × ByteArray × Unit)
def t (k:Nat) (a0:Ty.den jP) (a1:Int):Rs :=
 (bif a0.2.1 then
 (some ((a0.1,(true,())),((⟨#[]⟩:ByteArray),())))
 else
 (bif (decide (a1 > (ByteArray.size a0.1:Int))) then
 (some ((a0.1,(true,())),((⟨#[]⟩:ByteArray),())))
 else
 (pV a1 (ByteArray.size a0.1:Int)
 (pV a1 (ByteArray.size a0.1:Int)
 (some (((ByteArray.extract a0.1 (Int.toNat a1) (ByteArray.size a0.1)),a0.2),((ByteArray.extract a0.1 0 (Int.toNat a1)),())))))))
def f (k:Nat):=t k
end au
namespace an
abbrev Rs:Type:=Option ((Ty.den jP) × ByteArray × Unit)
def t (k:Nat) (a0:Ty.den jP):Rs :=
 ((aZ.f k a0).bind fun r1 =>
 ((au.f k r1.1 r1.2.1).bind fun r2 =>
 (some r2)))
def f (k:Nat):=t k
end an
namespace gL
abbrev Rs:Type:=Option (Bool × Unit)
def t (k:Nat) (a0:ByteArray):Rs :=
 ((ah.f k (ByteArray.size a0:Int) 1 8).bind fun r1 =>
 (some r1))
def f (k:Nat):=t k
end gL
namespace fU
abbrev Rs:Type:=Option (Bool × Unit)
def t (k:Nat) (a0:Ty.den ax):Rs :=
 (bif (a0.1==1) then
 (bif (a0.1==1) then
 ((gL.f k a0.2.2.1).bind fun r1 =>
 (bif r1.1 then
 (bif (decide ((ByteArray.size a0.2.2.2.1:Int)≤24)) then
 ((ah.f k a0.2.1 1 1000000).bind fun r2 =>
 (bif r2.1 then
 (some (((a0.1==a0.1)&&((a0.2.1==a0.2.1)&&((seq a0.2.2.1 a0.2.2.1)&&((seq a0.2.2.2.1 a0.2.2.2.1)&&((a0.2.2.2.2.1==0)&&(a0.2.2.2.2.2.1==0)))))),()))
 else
 (some (false,()))))
 else
 (some (false,())))
 else
 (some (false,()))))
 else
 (bif (a0.1==2) then
 ((gL.f k a0.2.2.1).bind fun r3 =>
 (bif r3.1 then
 ((ah.f k a0.2.1 1 1000000).bind fun r4 =>
 (bif r4.1 then
 (some (((a0.1==a0.1)&&((a0.2.1==a0.2.1)&&((seq a0.2.2.1 a0.2.2.1)&&((seq a0.2.2.2.1 ByteArray.empty)&&((a0.2.2.2.2.1==0)&&(a0.2.2.2.2.2.1==0)))))),()))
 else
 (some (false,()))))
 else
 (some (false,()))))
 else
 (bif (a0.1==3) then
 ((ah.f k a0.2.2.2.2.1 0 8).bind fun r5 =>
 (bif r5.1 then
 ((ah.f k a0.2.2.2.2.2.1 0 4294967295).bind fun r6 =>
 (bif r6.1 then
 ((ah.f k a0.2.1 1 1000000).bind fun r7 =>
 (bif r7.1 then
 (some (((a0.1==a0.1)&&((a0.2.1==a0.2.1)&&((seq a0.2.2.1 ByteArray.empty)&&((seq a0.2.2.2.1 ByteArray.empty)&&((a0.2.2.2.2.1==a0.2.2.2.2.1)&&(a0.2.2.2.2.2.1==a0.2.2.2.2.2.1)))))),()))
 else
 (some (false,()))))
 else
 (some (false,()))))
 else
 (some (false,()))))
 else
 (bif (a0.1==5) then
 ((ah.f k a0.2.2.2.2.1 0 20).bind fun r8 =>
 (bif r8.1 then
 ((ah.f k a0.2.2.2.2.2.1 0 4294967295).bind fun r9 =>
 (bif r9.1 then
 ((ah.f k a0.2.1 0 1000000).bind fun r10 =>
 (bif r10.1 then
 (some (((a0.1==a0.1)&&((a0.2.1==a0.2.1)&&((seq a0.2.2.1 ByteArray.empty)&&((seq a0.2.2.2.1 ByteArray.empty)&&((a0.2.2.2.2.1==a0.2.2.2.2.1)&&(a0.2.2.2.2.2.1==a0.2.2.2.2.2.1)))))),()))
 else
 (some (false,()))))
 else
 (some (false,()))))
 else
 (some (false,()))))
 else
 (some (false,()))))))
 else
 (bif (a0.1==4) then
 ((gL.f k a0.2.2.1).bind fun r11 =>
 (bif r11.1 then
 (bif (decide ((ByteArray.size a0.2.2.2.1:Int)≤24)) then
 ((ah.f k a0.2.1 1 1000000).bind fun r12 =>
 (bif r12.1 then
 (some (((a0.1==a0.1)&&((a0.2.1==a0.2.1)&&((seq a0.2.2.1 a0.2.2.1)&&((seq a0.2.2.2.1 a0.2.2.2.1)&&((a0.2.2.2.2.1==0)&&(a0.2.2.2.2.2.1==0)))))),()))
 else
 (some (false,()))))
 else
 (some (false,())))
 else
 (some (false,()))))
 else
 (bif (a0.1==2) then
 ((gL.f k a0.2.2.1).bind fun r13 =>
 (bif r13.1 then
 ((ah.f k a0.2.1 1 1000000).bind fun r14 =>
 (bif r14.1 then
 (some (((a0.1==a0.1)&&((a0.2.1==a0.2.1)&&((seq a0.2.2.1 a0.2.2.1)&&((seq a0.2.2.2.1 ByteArray.empty)&&((a0.2.2.2.2.1==0)&&(a0.2.2.2.2.2.1==0)))))),()))
 else
 (some (false,()))))
 else
 (some (false,()))))
 else
 (bif (a0.1==3) then
 ((ah.f k a0.2.2.2.2.1 0 8).bind fun r15 =>
 (bif r15.1 then
 ((ah.f k a0.2.2.2.2.2.1 0 4294967295).bind fun r16 =>
 (bif r16.1 then
 ((ah.f k a0.2.1 1 1000000).bind fun r17 =>
 (bif r17.1 then
 (some (((a0.1==a0.1)&&((a0.2.1==a0.2.1)&&((seq a0.2.2.1 ByteArray.empty)&&((seq a0.2.2.2.1 ByteArray.empty)&&((a0.2.2.2.2.1==a0.2.2.2.2.1)&&(a0.2.2.2.2.2.1==a0.2.2.2.2.2.1)))))),()))
 else
 (some (false,()))))
 else
 (some (false,()))))
 else
 (some (false,()))))
 else
 (bif (a0.1==5) then
 ((ah.f k a0.2.2.2.2.1 0 20).bind fun r18 =>
 (bif r18.1 then
 ((ah.f k a0.2.2.2.2.2.1 0 4294967295).bind fun r19 =>
 (bif r19.1 then
 ((ah.f k a0.2.1 0 1000000).bind fun r20 =>
 (bif r20.1 then
 (some (((a0.1==a0.1)&&((a0.2.1==a0.2.1)&&((seq a0.2.2.1 ByteArray.empty)&&((seq a0.2.2.2.1 ByteArray.empty)&&((a0.2.2.2.2.1==a0.2.2.2.2.1)&&(a0.2.2.2.2.2.1==a0.2.2.2.2.2.1)))))),()))
 else
 (some (false,()))))
 else
 (some (false,()))))
 else
 (some (false,()))))
 else
 (some (false,())))))))
def f (k:Nat):=t k
end fU
namespace bZ
abbrev Rs:Type:=Option (Int × Bool × Unit)
abbrev T0:Type:=ByteArray→Int→Int→Int→Rs
def b0 (k:Nat) (L0:T0):T0:=fun x0 x1 x2 x3 =>
 (bif (decide (x3<x2)) then
 (bi x3 (ByteArray.size x0:Int)
 (L0 x0 (aH (((BitVec.ofInt (IntKind.bits .i64) (aH (x1*2 ^ (min (Int.toNat 8) (IntKind.bits .i64)))) ||| BitVec.ofInt (IntKind.bits .i64) (aH (dr x0 x3))).toNat:Int))) x2 (aH (x3+1))))
 else
 (some (x1,(true,()))))
def l0 (k:Nat):Nat→T0
 | 0=>fun _ _ _ _=>none
 | n+1=>b0 k (l0 k n)
def t (k:Nat) (L0:T0) (a0:ByteArray) (a1:Int):Rs :=
 ((ah.f k a1 1 7).bind fun r1 =>
 (bif (!r1.1) then
 (some (0,(false,())))
 else
 (bif (decide ((ByteArray.size a0:Int)<a1)) then
 (some (0,(false,())))
 else
 (L0 a0 0 a1 0))))
def f (k:Nat):=t k (l0 k k)
end bZ
namespace cT
abbrev Rs:Type:=Option ((Ty.den ax) × Bool × Unit)
def t (k:Nat) (a0:ByteArray):Rs :=
 ((aZ.f k (a0,(false,()))).bind fun r1 =>
 ((aZ.f k r1.1).bind fun r2 =>
 (bif (r1.2.1==1) then
 (bif (r1.2.1==1) then
 ((an.f k r2.1).bind fun r3 =>
 ((an.f k r3.1).bind fun r4 =>
 (bif r4.1.2.1 then
 (some ((0,(0,(ByteArray.empty,(ByteArray.empty,(0,(0,())))))),(false,())))
 else
 (bif (!(seq r4.1.1 (⟨#[]⟩:ByteArray))) then
 (some ((0,(0,(ByteArray.empty,(ByteArray.empty,(0,(0,())))))),(false,())))
 else
 ((fU.f k (r1.2.1,(r2.2.1,(r3.2.1,(r4.2.1,(0,(0,()))))))).bind fun r5 =>
 (bif (!r5.1) then
 (some ((0,(0,(ByteArray.empty,(ByteArray.empty,(0,(0,())))))),(false,())))
 else
 (some ((r1.2.1,(r2.2.1,(r3.2.1,(r4.2.1,(0,(0,())))))),(true,())))))))))
 else
 (bif (r1.2.1==2) then
 ((an.f k r2.1).bind fun r6 =>
 (bif r6.1.2.1 then
 (some ((0,(0,(ByteArray.empty,(ByteArray.empty,(0,(0,())))))),(false,())))
 else
 (bif (!(seq r6.1.1 (⟨#[]⟩:ByteArray))) then
 (some ((0,(0,(ByteArray.empty,(ByteArray.empty,(0,(0,())))))),(false,())))
 else
 ((fU.f k (r1.2.1,(r2.2.1,(r6.2.1,(ByteArray.empty,(0,(0,()))))))).bind fun r7 =>
 (bif (!r7.1) then
 (some ((0,(0,(ByteArray.empty,(ByteArray.empty,(0,(0,())))))),(false,())))
 else
 (some ((r1.2.1,(r2.2.1,(r6.2.1,(ByteArray.empty,(0,(0,())))))),(true,()))))))))
 else
 ((aZ.f k r2.1).bind fun r8 =>
 ((au.f k r8.1 4).bind fun r9 =>
 ((bZ.f k r9.2.1 4).bind fun r10 =>
 (bif r9.1.2.1 then
 (some ((0,(0,(ByteArray.empty,(ByteArray.empty,(0,(0,())))))),(false,())))
 else
 (bif (!(seq r9.1.1 (⟨#[]⟩:ByteArray))) then
 (some ((0,(0,(ByteArray.empty,(ByteArray.empty,(0,(0,())))))),(false,())))
 else
 ((fU.f k (r1.2.1,(r2.2.1,(ByteArray.empty,(ByteArray.empty,(r8.2.1,(r10.1,()))))))).bind fun r11 =>
 (bif (!r11.1) then
 (some ((0,(0,(ByteArray.empty,(ByteArray.empty,(0,(0,())))))),(false,())))
 else
 (some ((r1.2.1,(r2.2.1,(ByteArray.empty,(ByteArray.empty,(r8.2.1,(r10.1,())))))),(true,()))))))))))))
 else
 (bif (r1.2.1==4) then
 ((an.f k r2.1).bind fun r12 =>
 ((an.f k r12.1).bind fun r13 =>
 (bif r13.1.2.1 then
 (some ((0,(0,(ByteArray.empty,(ByteArray.empty,(0,(0,())))))),(false,())))
 else
 (bif (!(seq r13.1.1 (⟨#[]⟩:ByteArray))) then
 (some ((0,(0,(ByteArray.empty,(ByteArray.empty,(0,(0,())))))),(false,())))
 else
 ((fU.f k (r1.2.1,(r2.2.1,(r12.2.1,(r13.2.1,(0,(0,()))))))).bind fun r14 =>
 (bif (!r14.1) then
 (some ((0,(0,(ByteArray.empty,(ByteArray.empty,(0,(0,())))))),(false,())))
 else
 (some ((r1.2.1,(r2.2.1,(r12.2.1,(r13.2.1,(0,(0,())))))),(true,())))))))))
 else
 (bif (r1.2.1==2) then
 ((an.f k r2.1).bind fun r15 =>
 (bif r15.1.2.1 then
 (some ((0,(0,(ByteArray.empty,(ByteArray.empty,(0,(0,())))))),(false,())))
 else
 (bif (!(seq r15.1.1 (⟨#[]⟩:ByteArray))) then
 (some ((0,(0,(ByteArray.empty,(ByteArray.empty,(0,(0,())))))),(false,())))
 else
 ((fU.f k (r1.2.1,(r2.2.1,(r15.2.1,(ByteArray.empty,(0,(0,()))))))).bind fun r16 =>
 (bif (!r16.1) then
 (some ((0,(0,(ByteArray.empty,(ByteArray.empty,(0,(0,())))))),(false,())))
 else
 (some ((r1.2.1,(r2.2.1,(r15.2.1,(ByteArray.empty,(0,(0,())))))),(true,()))))))))
 else
 ((aZ.f k r2.1).bind fun r17 =>
 ((au.f k r17.1 4).bind fun r18 =>
 ((bZ.f k r18.2.1 4).bind fun r19 =>
 (bif r18.1.2.1 then
 (some ((0,(0,(ByteArray.empty,(ByteArray.empty,(0,(0,())))))),(false,())))
 else
 (bif (!(seq r18.1.1 (⟨#[]⟩:ByteArray))) then
 (some ((0,(0,(ByteArray.empty,(ByteArray.empty,(0,(0,())))))),(false,())))
 else
 ((fU.f k (r1.2.1,(r2.2.1,(ByteArray.empty,(ByteArray.empty,(r17.2.1,(r19.1,()))))))).bind fun r20 =>
 (bif (!r20.1) then
 (some ((0,(0,(ByteArray.empty,(ByteArray.empty,(0,(0,())))))),(false,())))
 else
 (some ((r1.2.1,(r2.2.1,(ByteArray.empty,(ByteArray.empty,(r17.2.1,(r19.1,())))))),(true,())))))))))))))))
def f (k:Nat):=t k
end cT
namespace ii
abbrev Rs:Type:=Option ((Ty.den ax) × Bool × Unit)
def t (k:Nat) (a0:ByteArray) (a1:Int) (a2:Int):Rs :=
 ((ah.f k a1 0 (ByteArray.size a0:Int)).bind fun r1 =>
 (bif (!r1.1) then
 (some ((0,(0,(ByteArray.empty,(ByteArray.empty,(0,(0,())))))),(false,())))
 else
 ((ah.f k a2 0 (aH ((ByteArray.size a0:Int)-a1))).bind fun r2 =>
 (bif (!r2.1) then
 (some ((0,(0,(ByteArray.empty,(ByteArray.empty,(0,(0,())))))),(false,())))
 else
 (DC a1 (aH (a1+a2)) (ByteArray.size a0:Int)
 ((dU.f k (ByteArray.extract a0 (Int.toNat a1) (Int.toNat (aH (a1+a2))))).bind fun r3 =>
 (bif (r3.2.1==0) then
 (some ((0,(0,(ByteArray.empty,(ByteArray.empty,(0,(0,())))))),(false,())))
 else
 (bif (r3.2.1 != a2) then
 (some ((0,(0,(ByteArray.empty,(ByteArray.empty,(0,(0,())))))),(false,())))
 else
 ((cT.f k r3.1).bind fun r4 =>
 (some r4))))))))))
def f (k:Nat):=t k
end ii
namespace mA
abbrev Rs:Type:=Option ((Ty.den aF) × Int × Unit)
def t (k:Nat) (a0:Ty.den aE) (a1:Ty.den a_) (a2:ByteArray):Rs :=
 ((ff.f k a0.2.1 a2).bind fun r1 =>
 (bif (!r1.2.1) then
 (some ((ByteArray.empty,(ByteArray.empty,(0,()))),(8,())))
 else
 ((ao.f k r1.1.2.1).bind fun r2 =>
 ((cI.f k a1 r2.1).bind fun r3 =>
 ((ii.f k r3.1 r1.1.2.2.1 r1.1.2.2.2.1).bind fun r4 =>
 (bif (!r4.2.1) then
 (some ((ByteArray.empty,(ByteArray.empty,(0,()))),(3,())))
 else
 (bif (r4.1.1 != 1) then
 (bif (r4.1.1 != 4) then
 (some ((ByteArray.empty,(ByteArray.empty,(0,()))),(3,())))
 else
 (bif (!(seq r4.1.2.2.1 a2)) then
 (some ((ByteArray.empty,(ByteArray.empty,(0,()))),(3,())))
 else
 (some ((r4.1.2.2.1,(r4.1.2.2.2.1,(r4.1.2.1,()))),(0,())))))
 else
 (bif (!(seq r4.1.2.2.1 a2)) then
 (some ((ByteArray.empty,(ByteArray.empty,(0,()))),(3,())))
 else
 (some ((r4.1.2.2.1,(r4.1.2.2.2.1,(r4.1.2.1,()))),(0,())))))))))))
def f (k:Nat):=t k
end mA
namespace gJ
abbrev Rs:Type:=Option ((List (Ty.den aF)) × Int × Unit)
abbrev T0:Type:=Int→Int→Int→List Int→List (Ty.den aB)→Int→Int→Int→List (Ty.den aF)→Int→Int→Bool→List (Ty.den aF)→List ByteArray→Rs
def b0 (k:Nat) (L0:T0):T0:=fun x0 x1 x2 x3 x4 x5 x6 x7 x8 x9 x10 x11 x12 x13 =>
 (bif (decide (x1<x0)) then
 (bi x1 (x13.length:Int)
 ((mA.f k ((x2,(x3,())),(x4,(x5,(x6,(x7,()))))) (x8,(x9,(x10,(x11,())))) (List.getD x13 (Int.toNat x1) (Ty.dflt .str))).bind fun r2 =>
 (bif (r2.2.1 != 0) then
 (some ([],r2.2))
 else
 (rm (Ty.bytes aF) (List.length x12+1)
 (L0 x0 (aH (x1+1)) x2 x3 x4 x5 x6 x7 x8 x9 x10 x11 (x12++[r2.1]) x13)))))
 else
 (some (x12,(0,()))))
def l0 (k:Nat):Nat→T0
 | 0=>fun _ _ _ _ _ _ _ _ _ _ _ _ _ _=>none
 | n+1=>b0 k (l0 k n)
def t (k:Nat) (L0:T0) (a0:Ty.den aE) (a1:Ty.den a_):Rs :=
 ((fA.f k a0.2.1).bind fun r1 =>
 (L0 (List.length r1.1:Int) 0 a0.1.1 a0.1.2.1 a0.2.1 a0.2.2.1 a0.2.2.2.1 a0.2.2.2.2.1 a1.1 a1.2.1 a1.2.2.1 a1.2.2.2.1 [] r1.1))
def f (k:Nat):=t k (l0 k k)
end gJ
namespace cU
abbrev Rs:Type:=Option (Bool × Unit)
abbrev T0:Type:=List Int→Int→Int→Int→List Int→Rs
def b0 (k:Nat) (L0:T0):T0:=fun x0 x1 x2 x3 x4 =>
 (bif (decide (x2<x1)) then
 (bi x2 (x0.length:Int)
 ((ah.f k (List.getD x0 (Int.toNat x2) (Ty.dflt (.int .i64))) 1 (aH (x3-1))).bind fun r1 =>
 (bif (!r1.1) then
 (some (false,()))
 else
 (bif (decide (x2 > 0)) then
 (bi (aH (x2-1)) (x4.length:Int)
 (bif (decide ((List.getD x4 (Int.toNat (aH (x2-1))) (Ty.dflt (.int .i64)))≥(List.getD x0 (Int.toNat x2) (Ty.dflt (.int .i64))))) then
 (some (false,()))
 else
 (L0 x0 x1 (aH (x2+1)) x3 x4)))
 else
 (L0 x0 x1 (aH (x2+1)) x3 x4)))))
 else
 ((ah.f k x3 1 100000).bind fun r2 =>
 (bif r2.1 then
 ((ah.f k (x4.length:Int) 1 60).bind fun r3 =>
 (some r3))
 else
 (some (false,())))))
def l0 (k:Nat):Nat→T0
 | 0=>fun _ _ _ _ _=>none
 | n+1=>b0 k (l0 k n)
def t (k:Nat) (L0:T0) (a0:Ty.den bE):Rs :=
 (L0 a0.2.1 (List.length a0.2.1:Int) 0 a0.1 a0.2.1)
def f (k:Nat):=t k (l0 k k)
end cU
namespace dw
abbrev Rs:Type:=Option (Bool × Unit)
abbrev T0:Type:=List (Ty.den aB)→List (Ty.den aB)→Int→Int→Rs
def b0 (k:Nat) (L0:T0):T0:=fun x0 x1 x2 x3 =>
 (bif (decide (x3<x2)) then
 (bi x3 (x1.length:Int)
 ((gL.f k (List.getD x1 (Int.toNat x3) (Ty.dflt aB)).1).bind fun r1 =>
 (bif (!r1.1) then
 (some (false,()))
 else
 ((ah.f k (List.getD x1 (Int.toNat x3) (Ty.dflt aB)).2.1 1 100000).bind fun r2 =>
 (bif (!r2.1) then
 (some (false,()))
 else
 (bif (decide ((List.getD x1 (Int.toNat x3) (Ty.dflt aB)).2.2.1<0)) then
 (some (false,()))
 else
 ((ah.f k (List.getD x1 (Int.toNat x3) (Ty.dflt aB)).2.2.2.1 1 210).bind fun r3 =>
 (bif (!r3.1) then
 (some (false,()))
 else
 ((ah.f k (List.getD x1 (Int.toNat x3) (Ty.dflt aB)).2.2.2.2.1 1 1000000).bind fun r4 =>
 (bif (!r4.1) then
 (some (false,()))
 else
 (bif (decide (x3 > 0)) then
 (bi (aH (x3-1)) (x0.length:Int)
 (bif (!(mN (List.getD x0 (Int.toNat (aH (x3-1))) (Ty.dflt aB)).1 (List.getD x1 (Int.toNat x3) (Ty.dflt aB)).1)) then
 (some (false,()))
 else
 (L0 x0 x1 x2 (aH (x3+1)))))
 else
 (L0 x0 x1 x2 (aH (x3+1))))))))))))))
 else
 (some ((decide ((x0.length:Int)≤20)),())))
def l0 (k:Nat):Nat→T0
 | 0=>fun _ _ _ _=>none
 | n+1=>b0 k (l0 k n)
def t (k:Nat) (L0:T0) (a0:List (Ty.den aB)):Rs :=
 (L0 a0 a0 (List.length a0:Int) 0)
def f (k:Nat):=t k (l0 k k)
end dw
namespace cX
abbrev Rs:Type:=Option ((List (Ty.den b9)) × Int × Unit)
abbrev T0:Type:=ByteArray→Int→List (Ty.den b9)→Rs
def b0 (k:Nat) (L0:T0):T0:=fun x0 x1 x2 =>
 (pV x1 (ByteArray.size x0:Int)
 ((dU.f k (ByteArray.extract x0 (Int.toNat x1) (ByteArray.size x0))).bind fun r1 =>
 ((cT.f k r1.1).bind fun r2 =>
 (bif (r1.2.1==0) then
 (some (x2,(x1,())))
 else
 (bif (!r2.2.1) then
 (some (x2,(x1,())))
 else
 (rm (Ty.bytes b9) (List.length x2+1)
 (L0 x0 (aH (x1+r1.2.1)) (x2++[(x1,(r1.2.1,(r2.1,())))]))))))))
def l0 (k:Nat):Nat→T0
 | 0=>fun _ _ _=>none
 | n+1=>b0 k (l0 k n)
def t (k:Nat) (L0:T0) (a0:ByteArray):Rs :=
 (L0 a0 0 [])
def f (k:Nat):=t k (l0 k k)
end cX
namespace bz
abbrev Rs:Type:=Option (Bool × Unit)
abbrev T1:Type:=List (Ty.den aB)→Int→Int→Int→List Int→List (Ty.den aB)→Int→Int→Int→List (Ty.den aF)→Int→Int→Bool→Rs
abbrev T0:Type:=List Int→Int→Int→Int→List Int→List (Ty.den aB)→Int→Int→Int→List (Ty.den aF)→Int→Int→Bool→Rs
def b1 (k:Nat) (L1:T1):T1:=fun x0 x1 x2 x3 x4 x5 x6 x7 x8 x9 x10 x11 x12 =>
 (bif (decide (x2<x1)) then
 (bi x2 (x0.length:Int)
 ((ao.f k (List.getD x0 (Int.toNat x2) (Ty.dflt aB)).2.1).bind fun r8 =>
 ((cI.f k (x9,(x10,(x11,(x12,())))) r8.1).bind fun r9 =>
 ((ii.f k r9.1 (List.getD x0 (Int.toNat x2) (Ty.dflt aB)).2.2.1 (List.getD x0 (Int.toNat x2) (Ty.dflt aB)).2.2.2.1).bind fun r10 =>
 (bif (!r10.2.1) then
 (some (false,()))
 else
 (bif (r10.1.1 != 1) then
 (bif (r10.1.1 != 4) then
 (some (false,()))
 else
 (bif (!(seq r10.1.2.2.1 (List.getD x0 (Int.toNat x2) (Ty.dflt aB)).1)) then
 (some (false,()))
 else
 (bif (r10.1.2.1 != (List.getD x0 (Int.toNat x2) (Ty.dflt aB)).2.2.2.2.1) then
 (some (false,()))
 else
 (bif (decide ((List.getD x0 (Int.toNat x2) (Ty.dflt aB)).2.2.2.2.1≥x6)) then
 (some (false,()))
 else
 (L1 x0 x1 (aH (x2+1)) x3 x4 x5 x6 x7 x8 x9 x10 x11 x12)))))
 else
 (bif (!(seq r10.1.2.2.1 (List.getD x0 (Int.toNat x2) (Ty.dflt aB)).1)) then
 (some (false,()))
 else
 (bif (r10.1.2.1 != (List.getD x0 (Int.toNat x2) (Ty.dflt aB)).2.2.2.2.1) then
 (some (false,()))
 else
 (bif (decide ((List.getD x0 (Int.toNat x2) (Ty.dflt aB)).2.2.2.2.1≥x6)) then
 (some (false,()))
 else
 (L1 x0 x1 (aH (x2+1)) x3 x4 x5 x6 x7 x8 x9 x10 x11 x12))))))))))
 else
 (some (true,())))
def l1 (k:Nat):Nat→T1
 | 0=>fun _ _ _ _ _ _ _ _ _ _ _ _ _=>none
 | n+1=>b1 k (l1 k n)
def b0 (k:Nat) (L1:T1) (L0:T0):T0:=fun x0 x1 x2 x3 x4 x5 x6 x7 x8 x9 x10 x11 x12 =>
 (bif (decide (x2<x1)) then
 (bi x2 (x0.length:Int)
 ((ao.f k (List.getD x0 (Int.toNat x2) (Ty.dflt (.int .i64)))).bind fun r5 =>
 ((cI.f k (x9,(x10,(x11,(x12,())))) r5.1).bind fun r6 =>
 ((cX.f k r6.1).bind fun r7 =>
 (bif (!r6.2.1) then
 (some (false,()))
 else
 (bif (r7.2.1 != (ByteArray.size r6.1:Int)) then
 (some (false,()))
 else
 (bif (x2==(aH ((x4.length:Int)-1))) then
 (bif (x7 != r7.2.1) then
 (some (false,()))
 else
 (L0 x0 x1 (aH (x2+1)) x3 x4 x5 x6 x7 x8 x9 x10 x11 x12))
 else
 (L0 x0 x1 (aH (x2+1)) x3 x4 x5 x6 x7 x8 x9 x10 x11 x12))))))))
 else
 (L1 x5 (x5.length:Int) 0 x3 x4 x5 x6 x7 x8 x9 x10 x11 x12))
def l0 (k:Nat):Nat→T0
 | 0=>fun _ _ _ _ _ _ _ _ _ _ _ _ _=>none
 | n+1=>b0 k (l1 k k) (l0 k n)
def t (k:Nat) (L0:T0) (a0:Ty.den aE) (a1:Ty.den a_):Rs :=
 ((bC.f k a1).bind fun r1 =>
 (bif (!r1.1) then
 (some (false,()))
 else
 ((cU.f k a0.1).bind fun r2 =>
 (bif (!r2.1) then
 (some (false,()))
 else
 ((dw.f k a0.2.1).bind fun r3 =>
 (bif (!r3.1) then
 (some (false,()))
 else
 ((ah.f k a0.2.2.1 1 1000001).bind fun r4 =>
 (bif (!r4.1) then
 (some (false,()))
 else
 (L0 a0.1.2.1 (List.length a0.1.2.1:Int) 0 a0.1.1 a0.1.2.1 a0.2.1 a0.2.2.1 a0.2.2.2.1 a0.2.2.2.2.1 a1.1 a1.2.1 a1.2.2.1 a1.2.2.2.1)))))))))
def f (k:Nat):=t k (l0 k k)
end bz
namespace d6
abbrev Rs:Type:=Option (ByteArray × Unit)
abbrev T0:Type:=ByteArray→List Int→Int→Int→Rs
def b0 (k:Nat) (L0:T0):T0:=fun x0 x1 x2 x3 =>
 (bif (decide (x3<x2)) then
 (bi x3 (x1.length:Int)
 ((fE.f k (List.getD x1 (Int.toNat x3) (Ty.dflt (.int .i64)))).bind fun r1 =>
 (k_ x0 r1.1
 (L0 (x0++r1.1) x1 x2 (aH (x3+1))))))
 else
 (some (x0,())))
def l0 (k:Nat):Nat→T0
 | 0=>fun _ _ _ _=>none
 | n+1=>b0 k (l0 k n)
def t (k:Nat) (L0:T0) (a0:List Int):Rs :=
 (L0 (⟨#[]⟩:ByteArray) a0 (List.length a0:Int) 0)
def f (k:Nat):=t k (l0 k k)
end d6
namespace fQ
abbrev Rs:Type:=Option (ByteArray × Unit)
def t (k:Nat) (a0:Ty.den ax):Rs :=
 ((fU.f k a0).bind fun r1 =>
 (bif (!r1.1) then
 (some ((⟨#[]⟩:ByteArray),()))
 else
 ((d6.f k [a0.1,a0.2.1]).bind fun r2 =>
 (bif (a0.1==1) then
 (bif (a0.1==1) then
 ((dp.f k a0.2.2.1).bind fun r3 =>
 (k_ r2.1 r3.1
 ((dp.f k a0.2.2.2.1).bind fun r4 =>
 (k_ (r2.1++r3.1) r4.1
 (some (((r2.1++r3.1)++r4.1),()))))))
 else
 (bif (a0.1==2) then
 ((dp.f k a0.2.2.1).bind fun r5 =>
 (k_ r2.1 r5.1
 (some ((r2.1++r5.1),()))))
 else
 ((fE.f k a0.2.2.2.2.1).bind fun r6 =>
 (k_ r2.1 r6.1
 ((dJ.f k a0.2.2.2.2.2.1 4).bind fun r7 =>
 (k_ (r2.1++r6.1) r7.1
 (some (((r2.1++r6.1)++r7.1),()))))))))
 else
 (bif (a0.1==4) then
 ((dp.f k a0.2.2.1).bind fun r8 =>
 (k_ r2.1 r8.1
 ((dp.f k a0.2.2.2.1).bind fun r9 =>
 (k_ (r2.1++r8.1) r9.1
 (some (((r2.1++r8.1)++r9.1),()))))))
 else
 (bif (a0.1==2) then
 ((dp.f k a0.2.2.1).bind fun r10 =>
 (k_ r2.1 r10.1
 (some ((r2.1++r10.1),()))))
 else
 ((fE.f k a0.2.2.2.2.1).bind fun r11 =>
 (k_ r2.1 r11.1
 ((dJ.f k a0.2.2.2.2.2.1 4).bind fun r12 =>
 (k_ (r2.1++r11.1) r12.1
 (some (((r2.1++r11.1)++r12.1),()))))))))))))
def f (k:Nat):=t k
end fQ
namespace gT
abbrev Rs:Type:=Option (Int × Unit)
abbrev T0:Type:=ByteArray→List (Ty.den ax)→Int→Int→Rs
def b0 (k:Nat) (L0:T0):T0:=fun x0 x1 x2 x3 =>
 (bif (decide (x3<x2)) then
 (bi x3 (x1.length:Int)
 ((fQ.f k (List.getD x1 (Int.toNat x3) (Ty.dflt ax))).bind fun r1 =>
 (k_ x0 r1.1
 (L0 (x0++r1.1) x1 x2 (aH (x3+1))))))
 else
 ((fe.f k x0).bind fun r2 =>
 (some r2)))
def l0 (k:Nat):Nat→T0
 | 0=>fun _ _ _ _=>none
 | n+1=>b0 k (l0 k n)
def t (k:Nat) (L0:T0) (a0:List (Ty.den ax)):Rs :=
 (L0 (⟨#[]⟩:ByteArray) a0 (List.length a0:Int) 0)
def f (k:Nat):=t k (l0 k k)
end gT
namespace fZ
abbrev Rs:Type:=Option ((List (Ty.den ax)) × Unit)
abbrev T0:Type:=List (Ty.den aF)→Int→List (Ty.den aF)→Int→Int→List (Ty.den ax)→Rs
def b0 (k:Nat) (L0:T0):T0:=fun x0 x1 x2 x3 x4 x5 =>
 (bif (decide (x4<x3)) then
 (bi x4 (x2.length:Int)
 (rm (Ty.bytes ax) (List.length x5+1)
 (L0 x0 x1 x2 x3 (aH (x4+1)) (x5++[(4,((List.getD x2 (Int.toNat x4) (Ty.dflt aF)).2.2.1,((List.getD x2 (Int.toNat x4) (Ty.dflt aF)).1,((List.getD x2 (Int.toNat x4) (Ty.dflt aF)).2.1,(0,(0,()))))))]))))
 else
 ((gT.f k x5).bind fun r1 =>
 (rm (Ty.bytes ax) (List.length x5+1)
 (some ((x5++[(5,(x1,(ByteArray.empty,(ByteArray.empty,((x0.length:Int),r1)))))]),())))))
def l0 (k:Nat):Nat→T0
 | 0=>fun _ _ _ _ _ _=>none
 | n+1=>b0 k (l0 k n)
def t (k:Nat) (L0:T0) (a0:List (Ty.den aF)) (a1:Int):Rs :=
 (L0 a0 a1 a0 (List.length a0:Int) 0 [])
def f (k:Nat):=t k (l0 k k)
end fZ
namespace e6
abbrev Rs:Type:=Option ((Ty.den a_) × Unit)
def t (k:Nat) (a0:Ty.den a_) (a1:ByteArray):Rs :=
 ((bO.f k a0 a1).bind fun r1 =>
 (bif (decide (r1.1≥0)) then
 (pV r1.1 (List.length a0.1:Int)
 (rm (Ty.bytes aF) (List.length (List.take (Int.toNat r1.1) a0.1))
 (pV (aH (r1.1+1)) (List.length a0.1:Int)
 (rm (Ty.bytes aF) (List.length (List.take (Int.toNat r1.1) a0.1)+List.length (List.drop (Int.toNat (aH (r1.1+1))) a0.1))
 (some ((((List.take (Int.toNat r1.1) a0.1)++(List.drop (Int.toNat (aH (r1.1+1))) a0.1)),a0.2),()))))))
 else
 (some (a0,()))))
def f (k:Nat):=t k
end e6
namespace fN
abbrev Rs:Type:=Option ((Ty.den a_) × ByteArray × Int × Unit)
def t (k:Nat) (a0:Ty.den a_) (a1:ByteArray):Rs :=
 ((bO.f k a0 a1).bind fun r1 =>
 (bif (decide (r1.1<0)) then
 (some (a0,(a1,(3,()))))
 else
 ((e6.f k a0 a1).bind fun r2 =>
 (some (r2.1,(a1,(0,())))))))
def f (k:Nat):=t k
end fN
namespace fS
abbrev Rs:Type:=Option (ByteArray × (Ty.den a_) × Int × Unit)
def t (k:Nat) (a0:Ty.den a_) (a1:ByteArray):Rs :=
 ((cH.f k a0).bind fun r1 =>
 ((bC.f k a0).bind fun r2 =>
 (bif (!r2.1) then
 (some (a1,(r1.1,(5,()))))
 else
 (bif a0.2.2.2.1 then
 (some (a1,((r1.1.1,(r1.1.2.1,(r1.1.2.2.1,(true,())))),(1,()))))
 else
 (bif (a0.2.2.1==0) then
 (some (a1,((r1.1.1,(r1.1.2.1,(r1.1.2.2.1,(true,())))),(1,()))))
 else
 (bif (decide (a0.2.2.1 > 0)) then
 ((fN.f k (r1.1.1,(r1.1.2.1,((aH (r1.1.2.2.1-1)),r1.1.2.2.2))) a1).bind fun r3 =>
 (some (r3.2.1,(r3.1,r3.2.2))))
 else
 ((fN.f k r1.1 a1).bind fun r4 =>
 (some (r4.2.1,(r4.1,r4.2.2))))))))))
def f (k:Nat):=t k
end fS
namespace jC
abbrev Rs:Type:=Option ((Ty.den a_) × Int × Unit)
def t (k:Nat) (a0:Ty.den a_) (a1:ByteArray):Rs :=
 ((fS.f k a0 a1).bind fun r1 =>
 (some r1.2))
def f (k:Nat):=t k
end jC
namespace l6
abbrev Rs:Type:=Option (Int × Unit)
def t (k:Nat) (a0:Int):Rs :=
 (bif (a0==0) then
 (some (0,()))
 else
 (bif (a0==1) then
 (some (1,()))
 else
 (bif (a0==2) then
 (some (2,()))
 else
 (some (3,())))))
def f (k:Nat):=t k
end l6
namespace ar
abbrev Rs:Type:=Option ((Ty.den az) × Unit)
def t (k:Nat) (a0:Ty.den az) (a1:Ty.den a_) (a2:Int):Rs :=
 ((l6.f k a2).bind fun r1 =>
 (some ((a1,r1),())))
def f (k:Nat):=t k
end ar
namespace bB
abbrev Rs:Type:=Option ((Ty.den az) × Unit)
def t (k:Nat) (a0:Ty.den az) (a1:ByteArray):Rs :=
 (bif (a0.2.1==0) then
 ((bO.f k a0.1 a1).bind fun r1 =>
 (bif (decide (r1.1≥0)) then
 ((jC.f k a0.1 a1).bind fun r2 =>
 ((ar.f k a0 r2.1 r2.2.1).bind fun r3 =>
 (some r3)))
 else
 (some (a0,()))))
 else
 (some (a0,())))
def f (k:Nat):=t k
end bB
namespace ck
abbrev Rs:Type:=Option ((Ty.den a_) × Unit)
abbrev T0:Type:=Int→List (Ty.den aF)→Int→Int→Bool→ByteArray→ByteArray→Int→Rs
def b0 (k:Nat) (L0:T0):T0:=fun x0 x1 x2 x3 x4 x5 x6 x7 =>
 (bif (decide (x0<(x1.length:Int))) then
 (bi x0 (x1.length:Int)
 (bif (mN (List.getD x1 (Int.toNat x0) (Ty.dflt aF)).1 x5) then
 (L0 (aH (x0+1)) x1 x2 x3 x4 x5 x6 x7)
 else
 (pV x0 (x1.length:Int)
 (rm (Ty.bytes aF) (List.length (List.take (Int.toNat x0) x1))
 (rm (Ty.bytes aF) (List.length (List.take (Int.toNat x0) x1)+1)
 (pV x0 (x1.length:Int)
 (rm (Ty.bytes aF) (List.length ((List.take (Int.toNat x0) x1)++[(x5,(x6,(x7,())))])+List.length (List.drop (Int.toNat x0) x1))
 (some (((((List.take (Int.toNat x0) x1)++[(x5,(x6,(x7,())))])++(List.drop (Int.toNat x0) x1)),(x2,(x3,(x4,())))),())))))))))
 else
 (pV x0 (x1.length:Int)
 (rm (Ty.bytes aF) (List.length (List.take (Int.toNat x0) x1))
 (rm (Ty.bytes aF) (List.length (List.take (Int.toNat x0) x1)+1)
 (pV x0 (x1.length:Int)
 (rm (Ty.bytes aF) (List.length ((List.take (Int.toNat x0) x1)++[(x5,(x6,(x7,())))])+List.length (List.drop (Int.toNat x0) x1))
 (some (((((List.take (Int.toNat x0) x1)++[(x5,(x6,(x7,())))])++(List.drop (Int.toNat x0) x1)),(x2,(x3,(x4,())))),()))))))))
def l0 (k:Nat):Nat→T0
 | 0=>fun _ _ _ _ _ _ _ _=>none
 | n+1=>b0 k (l0 k n)
def t (k:Nat) (L0:T0) (a0:Ty.den a_) (a1:Ty.den aF):Rs :=
 (L0 0 a0.1 a0.2.1 a0.2.2.1 a0.2.2.2.1 a1.1 a1.2.1 a1.2.2.1)
def f (k:Nat):=t k (l0 k k)
end ck
namespace fM
abbrev Rs:Type:=Option ((Ty.den a_) × ByteArray × Int × Unit)
def t (k:Nat) (a0:Ty.den a_) (a1:ByteArray):Rs :=
 ((dl.f k a1).bind fun r1 =>
 (bif (!r1.1) then
 (some (a0,(a1,(5,()))))
 else
 ((bO.f k a0 a1).bind fun r2 =>
 (bif (decide (r2.1≥0)) then
 (some (a0,(a1,(4,()))))
 else
 (bif (decide ((List.length a0.1:Int)≥130)) then
 (some (a0,(a1,(2,()))))
 else
 ((ck.f k a0 (a1,(ByteArray.empty,(0,())))).bind fun r3 =>
 (some (r3.1,(a1,(0,()))))))))))
def f (k:Nat):=t k
end fM
namespace fa
abbrev Rs:Type:=Option (ByteArray × (Ty.den a_) × Int × Unit)
def t (k:Nat) (a0:Ty.den a_) (a1:ByteArray):Rs :=
 ((cH.f k a0).bind fun r1 =>
 ((bC.f k a0).bind fun r2 =>
 (bif (!r2.1) then
 (some (a1,(r1.1,(5,()))))
 else
 (bif a0.2.2.2.1 then
 (some (a1,((r1.1.1,(r1.1.2.1,(r1.1.2.2.1,(true,())))),(1,()))))
 else
 (bif (a0.2.2.1==0) then
 (some (a1,((r1.1.1,(r1.1.2.1,(r1.1.2.2.1,(true,())))),(1,()))))
 else
 (bif (decide (a0.2.2.1 > 0)) then
 ((fM.f k (r1.1.1,(r1.1.2.1,((aH (r1.1.2.2.1-1)),r1.1.2.2.2))) a1).bind fun r3 =>
 (some (r3.2.1,(r3.1,r3.2.2))))
 else
 ((fM.f k r1.1 a1).bind fun r4 =>
 (some (r4.2.1,(r4.1,r4.2.2))))))))))
def f (k:Nat):=t k
end fa
namespace j7
abbrev Rs:Type:=Option ((Ty.den a_) × Int × Unit)
def t (k:Nat) (a0:Ty.den a_) (a1:ByteArray):Rs :=
 ((fa.f k a0 a1).bind fun r1 =>
 (some r1.2))
def f (k:Nat):=t k
end j7
namespace eJ
abbrev Rs:Type:=Option ((Ty.den az) × Unit)
def t (k:Nat) (a0:Ty.den az) (a1:ByteArray):Rs :=
 (bif (a0.2.1==0) then
 ((j7.f k a0.1 a1).bind fun r1 =>
 ((ar.f k a0 r1.1 r1.2.1).bind fun r2 =>
 (some r2)))
 else
 (some (a0,())))
def f (k:Nat):=t k
end eJ
namespace dF
abbrev Rs:Type:=Option ((Ty.den az) × Unit)
def t (k:Nat) (a0:Ty.den az) (a1:ByteArray):Rs :=
 ((bB.f k a0 a1).bind fun r1 =>
 ((eJ.f k r1.1 a1).bind fun r2 =>
 (some r2)))
def f (k:Nat):=t k
end dF
namespace iC
abbrev Rs:Type:=Option (Int × Unit)
abbrev T0:Type:=Int→List (Ty.den aF)→Int→Int→Rs
def b0 (k:Nat) (L0:T0):T0:=fun x0 x1 x2 x3 =>
 (bif (decide (x3<x2)) then
 (bi x3 (x1.length:Int)
 (L0 (aH (x0+(ByteArray.size (List.getD x1 (Int.toNat x3) (Ty.dflt aF)).2.1:Int))) x1 x2 (aH (x3+1))))
 else
 (some (x0,())))
def l0 (k:Nat):Nat→T0
 | 0=>fun _ _ _ _=>none
 | n+1=>b0 k (l0 k n)
def t (k:Nat) (L0:T0) (a0:Ty.den a_):Rs :=
 (L0 0 a0.1 (List.length a0.1:Int) 0)
def f (k:Nat):=t k (l0 k k)
end iC
namespace fL
abbrev Rs:Type:=Option ((Ty.den a_) × ByteArray × ByteArray × Int × Unit)
def t (k:Nat) (a0:Ty.den a_) (a1:ByteArray) (a2:ByteArray):Rs :=
 ((bO.f k a0 a1).bind fun r1 =>
 (bif (decide (r1.1<0)) then
 (some (a0,(a1,(a2,(3,())))))
 else
 ((iC.f k a0).bind fun r2 =>
 (bif (decide ((ByteArray.size a2:Int) > (aH (a0.2.1-r2.1)))) then
 (some (a0,(a1,(a2,(2,())))))
 else
 (bi r1.1 (List.length a0.1:Int)
 (k_ (List.getD a0.1 (Int.toNat r1.1) (Ty.dflt aF)).2.1 a2
 (bi r1.1 (List.length a0.1:Int)
 (let l3:=(List.set a0.1 (Int.toNat r1.1) ((List.getD a0.1 (Int.toNat r1.1) (Ty.dflt aF)).1,(((List.getD a0.1 (Int.toNat r1.1) (Ty.dflt aF)).2.1++a2),(List.getD a0.1 (Int.toNat r1.1) (Ty.dflt aF)).2.2)));
 (some ((l3,a0.2),(a1,(a2,(0,())))))))))))))
def f (k:Nat):=t k
end fL
namespace fV
abbrev Rs:Type:=Option (ByteArray × ByteArray × (Ty.den a_) × Int × Unit)
def t (k:Nat) (a0:Ty.den a_) (a1:ByteArray) (a2:ByteArray):Rs :=
 ((cH.f k a0).bind fun r1 =>
 ((bC.f k a0).bind fun r2 =>
 (bif (!r2.1) then
 (some (a1,(a2,(r1.1,(5,())))))
 else
 (bif a0.2.2.2.1 then
 (some (a1,(a2,((r1.1.1,(r1.1.2.1,(r1.1.2.2.1,(true,())))),(1,())))))
 else
 (bif (a0.2.2.1==0) then
 (some (a1,(a2,((r1.1.1,(r1.1.2.1,(r1.1.2.2.1,(true,())))),(1,())))))
 else
 (bif (decide (a0.2.2.1 > 0)) then
 ((fL.f k (r1.1.1,(r1.1.2.1,((aH (r1.1.2.2.1-1)),r1.1.2.2.2))) a1 a2).bind fun r3 =>
 (some (r3.2.1,(r3.2.2.1,(r3.1,r3.2.2.2)))))
 else
 ((fL.f k r1.1 a1 a2).bind fun r4 =>
 (some (r4.2.1,(r4.2.2.1,(r4.1,r4.2.2.2)))))))))))
def f (k:Nat):=t k
end fV
namespace jA
abbrev Rs:Type:=Option ((Ty.den a_) × Int × Unit)
def t (k:Nat) (a0:Ty.den a_) (a1:ByteArray) (a2:ByteArray):Rs :=
 ((fV.f k a0 a1 a2).bind fun r1 =>
 (some r1.2.2))
def f (k:Nat):=t k
end jA
namespace eF
abbrev Rs:Type:=Option ((Ty.den az) × Unit)
def t (k:Nat) (a0:Ty.den az) (a1:ByteArray) (a2:ByteArray):Rs :=
 (bif (a0.2.1==0) then
 ((jA.f k a0.1 a1 a2).bind fun r1 =>
 ((ar.f k a0 r1.1 r1.2.1).bind fun r2 =>
 (some r2)))
 else
 (some (a0,())))
def f (k:Nat):=t k
end eF
namespace gh
abbrev Rs:Type:=Option ((Ty.den a_) × ByteArray × Int × Unit)
def t (k:Nat) (a0:Ty.den a_) (a1:ByteArray):Rs :=
 ((bO.f k a0 a1).bind fun r1 =>
 (bif (decide (r1.1<0)) then
 (some (a0,(a1,(3,()))))
 else
 (bi r1.1 (List.length a0.1:Int)
 (bi r1.1 (List.length a0.1:Int)
 (let l2:=(List.set a0.1 (Int.toNat r1.1) ((List.getD a0.1 (Int.toNat r1.1) (Ty.dflt aF)).1,((List.getD a0.1 (Int.toNat r1.1) (Ty.dflt aF)).2.1,((ByteArray.size (List.getD a0.1 (Int.toNat r1.1) (Ty.dflt aF)).2.1:Int),(List.getD a0.1 (Int.toNat r1.1) (Ty.dflt aF)).2.2.2))));
 (some ((l2,a0.2),(a1,(0,())))))))))
def f (k:Nat):=t k
end gh
namespace gI
abbrev Rs:Type:=Option (ByteArray × (Ty.den a_) × Int × Unit)
def t (k:Nat) (a0:Ty.den a_) (a1:ByteArray):Rs :=
 ((cH.f k a0).bind fun r1 =>
 ((bC.f k a0).bind fun r2 =>
 (bif (!r2.1) then
 (some (a1,(r1.1,(5,()))))
 else
 (bif a0.2.2.2.1 then
 (some (a1,((r1.1.1,(r1.1.2.1,(r1.1.2.2.1,(true,())))),(1,()))))
 else
 (bif (a0.2.2.1==0) then
 (some (a1,((r1.1.1,(r1.1.2.1,(r1.1.2.2.1,(true,())))),(1,()))))
 else
 (bif (decide (a0.2.2.1 > 0)) then
 ((gh.f k (r1.1.1,(r1.1.2.1,((aH (r1.1.2.2.1-1)),r1.1.2.2.2))) a1).bind fun r3 =>
 (some (r3.2.1,(r3.1,r3.2.2))))
 else
 ((gh.f k r1.1 a1).bind fun r4 =>
 (some (r4.2.1,(r4.1,r4.2.2))))))))))
def f (k:Nat):=t k
end gI
namespace kt
abbrev Rs:Type:=Option ((Ty.den a_) × Int × Unit)
def t (k:Nat) (a0:Ty.den a_) (a1:ByteArray):Rs :=
 ((gI.f k a0 a1).bind fun r1 =>
 (some r1.2))
def f (k:Nat):=t k
end kt
namespace db
abbrev Rs:Type:=Option ((Ty.den az) × Unit)
def t (k:Nat) (a0:Ty.den az) (a1:ByteArray):Rs :=
 (bif (a0.2.1==0) then
 ((kt.f k a0.1 a1).bind fun r1 =>
 ((ar.f k a0 r1.1 r1.2.1).bind fun r2 =>
 (some r2)))
 else
 (some (a0,())))
def f (k:Nat):=t k
end db
namespace aq
abbrev Rs:Type:=Option ((Ty.den az) × (List (Ty.den aB)) × Unit)
abbrev T0:Type:=Int→Int→List (Ty.den ax)→Int→Int→List (Ty.den aF)→Int→Int→Bool→Int→List (Ty.den aB)→Rs
def b0 (k:Nat) (L0:T0):T0:=fun x0 x1 x2 x3 x4 x5 x6 x7 x8 x9 x10 =>
 (bif (decide (x4<x3)) then
 (bi x4 (x2.length:Int)
 ((fQ.f k (List.getD x2 (Int.toNat x4) (Ty.dflt ax))).bind fun r3 =>
 ((fw.f k r3.1).bind fun r4 =>
 ((ao.f k x0).bind fun r5 =>
 ((eF.f k ((x5,(x6,(x7,(x8,())))),(x9,())) r5.1 r4.1).bind fun r6 =>
 (bif ((List.getD x2 (Int.toNat x4) (Ty.dflt ax)).1==4) then
 (rm (Ty.bytes aB) (List.length x10+1)
 (L0 x0 (aH (x1+(ByteArray.size r4.1:Int))) x2 x3 (aH (x4+1)) r6.1.1.1 r6.1.1.2.1 r6.1.1.2.2.1 r6.1.1.2.2.2.1 r6.1.2.1 (x10++[((List.getD x2 (Int.toNat x4) (Ty.dflt ax)).2.2.1,(x0,(x1,((ByteArray.size r4.1:Int),((List.getD x2 (Int.toNat x4) (Ty.dflt ax)).2.1,())))))])))
 else
 (L0 x0 (aH (x1+(ByteArray.size r4.1:Int))) x2 x3 (aH (x4+1)) r6.1.1.1 r6.1.1.2.1 r6.1.1.2.2.1 r6.1.1.2.2.2.1 r6.1.2.1 x10)))))))
 else
 ((ao.f k x0).bind fun r7 =>
 ((db.f k ((x5,(x6,(x7,(x8,())))),(x9,())) r7.1).bind fun r8 =>
 ((ao.f k (aH (x0+1))).bind fun r9 =>
 ((dF.f k r8.1 r9.1).bind fun r10 =>
 (some (r10.1,(x10,()))))))))
def l0 (k:Nat):Nat→T0
 | 0=>fun _ _ _ _ _ _ _ _ _ _ _=>none
 | n+1=>b0 k (l0 k n)
def t (k:Nat) (L0:T0) (a0:Ty.den az) (a1:Int) (a2:List (Ty.den ax)):Rs :=
 ((ao.f k a1).bind fun r1 =>
 ((dF.f k a0 r1.1).bind fun r2 =>
 (L0 a1 0 a2 (List.length a2:Int) 0 r2.1.1.1 r2.1.1.2.1 r2.1.1.2.2.1 r2.1.1.2.2.2.1 r2.1.2.1 [])))
def f (k:Nat):=t k (l0 k k)
end aq
namespace eI
abbrev Rs:Type:=Option ((List (Ty.den aD)) × Unit)
abbrev T0:Type:=Int→List (Ty.den b9)→Int→Int→List (Ty.den aD)→Rs
def b0 (k:Nat) (L0:T0):T0:=fun x0 x1 x2 x3 x4 =>
 (bif (decide (x3<x2)) then
 (bi x3 (x1.length:Int)
 (rm (Ty.bytes aD) (List.length x4+1)
 (L0 x0 x1 x2 (aH (x3+1)) (x4++[(x0,(List.getD x1 (Int.toNat x3) (Ty.dflt b9)))]))))
 else
 (some (x4,())))
def l0 (k:Nat):Nat→T0
 | 0=>fun _ _ _ _ _=>none
 | n+1=>b0 k (l0 k n)
def t (k:Nat) (L0:T0) (a0:Int) (a1:List (Ty.den b9)):Rs :=
 (L0 a0 a1 (List.length a1:Int) 0 [])
def f (k:Nat):=t k (l0 k k)
end eI
namespace gM
abbrev Rs:Type:=Option (Bool × Unit)
abbrev T0:Type:=List (Ty.den aD)→Int→Int→Int→Int→ByteArray→ByteArray→Int→Int→List (Ty.den ax)→Rs
def b0 (k:Nat) (L0:T0):T0:=fun x0 x1 x2 x3 x4 x5 x6 x7 x8 x9 =>
 (bif (decide (x2<x1)) then
 (bi x2 (x0.length:Int)
 (rm (Ty.bytes ax) (List.length x9+1)
 (L0 x0 x1 (aH (x2+1)) x3 x4 x5 x6 x7 x8 (x9++[(List.getD x0 (Int.toNat x2) (Ty.dflt aD)).2.2.2.1]))))
 else
 (bif (x7==(x9.length:Int)) then
 ((gT.f k x9).bind fun r1 =>
 (some ((x8==r1.1),())))
 else
 (some (false,()))))
def l0 (k:Nat):Nat→T0
 | 0=>fun _ _ _ _ _ _ _ _ _ _=>none
 | n+1=>b0 k (l0 k n)
def t (k:Nat) (L0:T0) (a0:Ty.den ax) (a1:List (Ty.den aD)):Rs :=
 (L0 a1 (List.length a1:Int) 0 a0.1 a0.2.1 a0.2.2.1 a0.2.2.2.1 a0.2.2.2.2.1 a0.2.2.2.2.2.1 [])
def f (k:Nat):=t k (l0 k k)
end gM
namespace eW
abbrev Rs:Type:=Option ((Ty.den eh) × Bool × Unit)
abbrev T0:Type:=Int→List (Ty.den b9)→List (Ty.den b9)→Int→Int→List (Ty.den aB)→Int→Int→List (Ty.den aB)→Int→Int→Rs
def b0 (k:Nat) (L0:T0):T0:=fun x0 x1 x2 x3 x4 x5 x6 x7 x8 x9 x10 =>
 (bif (decide (x4<x3)) then
 (bi x4 (x2.length:Int)
 (bif ((List.getD x2 (Int.toNat x4) (Ty.dflt b9)).2.2.1.1 != 4) then
 (some ((0,(0,([],()))),(false,())))
 else
 (bif (decide ((List.getD x2 (Int.toNat x4) (Ty.dflt b9)).2.2.1.2.1 > x10)) then
 (some ((0,(0,([],()))),(false,())))
 else
 (bif (decide (x4 > 0)) then
 (bi (aH (x4-1)) (x1.length:Int)
 (bif (!(mN (List.getD x1 (Int.toNat (aH (x4-1))) (Ty.dflt b9)).2.2.1.2.2.1 (List.getD x2 (Int.toNat x4) (Ty.dflt b9)).2.2.1.2.2.1)) then
 (some ((0,(0,([],()))),(false,())))
 else
 (rm (Ty.bytes aB) (List.length x8+1)
 (L0 x0 x1 x2 x3 (aH (x4+1)) x5 x6 x7 (x8++[((List.getD x2 (Int.toNat x4) (Ty.dflt b9)).2.2.1.2.2.1,(x0,((List.getD x2 (Int.toNat x4) (Ty.dflt b9)).1,((List.getD x2 (Int.toNat x4) (Ty.dflt b9)).2.1,((List.getD x2 (Int.toNat x4) (Ty.dflt b9)).2.2.1.2.1,())))))]) x9 x10))))
 else
 (rm (Ty.bytes aB) (List.length x8+1)
 (L0 x0 x1 x2 x3 (aH (x4+1)) x5 x6 x7 (x8++[((List.getD x2 (Int.toNat x4) (Ty.dflt b9)).2.2.1.2.2.1,(x0,((List.getD x2 (Int.toNat x4) (Ty.dflt b9)).1,((List.getD x2 (Int.toNat x4) (Ty.dflt b9)).2.1,((List.getD x2 (Int.toNat x4) (Ty.dflt b9)).2.2.1.2.1,())))))]) x9 x10))))))
 else
 (some ((x9,(x10,(x8,()))),(true,()))))
def l0 (k:Nat):Nat→T0
 | 0=>fun _ _ _ _ _ _ _ _ _ _ _=>none
 | n+1=>b0 k (l0 k n)
def t (k:Nat) (L0:T0) (a0:Int) (a1:ByteArray):Rs :=
 ((cX.f k a1).bind fun r1 =>
 (bif (decide ((aH ((List.length r1.1:Int)-1))<0)) then
 (some ((0,(0,([],()))),(false,())))
 else
 (bif (r1.2.1 != (ByteArray.size a1:Int)) then
 (some ((0,(0,([],()))),(false,())))
 else
 ((ah.f k a0 1 100000).bind fun r2 =>
 (bif (!r2.1) then
 (some ((0,(0,([],()))),(false,())))
 else
 (bi (aH ((List.length r1.1:Int)-1)) (List.length r1.1:Int)
 (bif ((List.getD r1.1 (Int.toNat (aH ((List.length r1.1:Int)-1))) (Ty.dflt b9)).2.2.1.1 != 5) then
 (some ((0,(0,([],()))),(false,())))
 else
 (bi (aH ((List.length r1.1:Int)-1)) (List.length r1.1:Int)
 (pV (aH ((List.length r1.1:Int)-1)) (List.length r1.1:Int)
 ((eI.f k a0 (List.take (Int.toNat (aH ((List.length r1.1:Int)-1))) r1.1)).bind fun r3 =>
 ((gM.f k (List.getD r1.1 (Int.toNat (aH ((List.length r1.1:Int)-1))) (Ty.dflt b9)).2.2.1 r3.1).bind fun r4 =>
 (bif (!r4.1) then
 (some ((0,(0,([],()))),(false,())))
 else
 (bi (aH ((List.length r1.1:Int)-1)) (List.length r1.1:Int)
 (pV (aH ((List.length r1.1:Int)-1)) (List.length r1.1:Int)
 (L0 a0 r1.1 (List.take (Int.toNat (aH ((List.length r1.1:Int)-1))) r1.1) (List.length (List.take (Int.toNat (aH ((List.length r1.1:Int)-1))) r1.1):Int) 0 [] 0 0 [] r1.2.1 (List.getD r1.1 (Int.toNat (aH ((List.length r1.1:Int)-1))) (Ty.dflt b9)).2.2.1.2.1)))))))))))))))
def f (k:Nat):=t k (l0 k k)
end eW
namespace df
abbrev Rs:Type:=Option (ByteArray × Unit)
def t (k:Nat) (a0:Int):Rs :=
 ((ic.f k (⟨#[104,105,110,116]⟩:ByteArray) a0).bind fun r1 =>
 (some r1))
def f (k:Nat):=t k
end df
namespace fi
abbrev Rs:Type:=Option (Bool × Unit)
abbrev T0:Type:=List (Ty.den aB)→Int→Int→Int→Int→List (Ty.den aB)→Rs
def b0 (k:Nat) (L0:T0):T0:=fun x0 x1 x2 x3 x4 x5 =>
 (bif (decide (x2<x1)) then
 (bi x2 (x0.length:Int)
 (bi 0 (x5.length:Int)
 (bif ((List.getD x0 (Int.toNat x2) (Ty.dflt aB)).2.1 != (List.getD x5 0 (Ty.dflt aB)).2.1) then
 (some (false,()))
 else
 (bif (decide ((List.getD x0 (Int.toNat x2) (Ty.dflt aB)).2.2.1 > 100000)) then
 (some (false,()))
 else
 (L0 x0 x1 (aH (x2+1)) x3 x4 x5)))))
 else
 ((ah.f k x3 0 100000).bind fun r1 =>
 (bif r1.1 then
 ((ah.f k x4 0 1000000).bind fun r2 =>
 (bif r2.1 then
 ((dw.f k x5).bind fun r3 =>
 (some r3))
 else
 (some (false,()))))
 else
 (some (false,())))))
def l0 (k:Nat):Nat→T0
 | 0=>fun _ _ _ _ _ _=>none
 | n+1=>b0 k (l0 k n)
def t (k:Nat) (L0:T0) (a0:Ty.den eh):Rs :=
 (L0 a0.2.2.1 (List.length a0.2.2.1:Int) 0 a0.1 a0.2.1 a0.2.2.1)
def f (k:Nat):=t k (l0 k k)
end fi
namespace eD
abbrev Rs:Type:=Option (ByteArray × Unit)
abbrev T0:Type:=ByteArray→List (Ty.den aB)→Int→Int→Rs
def b0 (k:Nat) (L0:T0):T0:=fun x0 x1 x2 x3 =>
 (bif (decide (x3<x2)) then
 (bi x3 (x1.length:Int)
 ((dp.f k (List.getD x1 (Int.toNat x3) (Ty.dflt aB)).1).bind fun r3 =>
 ((d6.f k [(List.getD x1 (Int.toNat x3) (Ty.dflt aB)).2.1,(List.getD x1 (Int.toNat x3) (Ty.dflt aB)).2.2.1,(List.getD x1 (Int.toNat x3) (Ty.dflt aB)).2.2.2.1,(List.getD x1 (Int.toNat x3) (Ty.dflt aB)).2.2.2.2.1]).bind fun r4 =>
 (k_ r3.1 r4.1
 (k_ x0 (r3.1++r4.1)
 (L0 (x0++(r3.1++r4.1)) x1 x2 (aH (x3+1))))))))
 else
 ((fe.f k x0).bind fun r5 =>
 ((dJ.f k r5.1 4).bind fun r6 =>
 (k_ r6.1 x0
 (some ((r6.1++x0),()))))))
def l0 (k:Nat):Nat→T0
 | 0=>fun _ _ _ _=>none
 | n+1=>b0 k (l0 k n)
def t (k:Nat) (L0:T0) (a0:Ty.den eh):Rs :=
 ((fi.f k a0).bind fun r1 =>
 (bif (!r1.1) then
 (some ((⟨#[]⟩:ByteArray),()))
 else
 ((d6.f k [a0.1,a0.2.1,(List.length a0.2.2.1:Int)]).bind fun r2 =>
 (L0 r2.1 a0.2.2.1 (List.length a0.2.2.1:Int) 0))))
def f (k:Nat):=t k (l0 k k)
end eD
namespace cv
abbrev Rs:Type:=Option ((Ty.den az) × Unit)
def t (k:Nat) (a0:Ty.den az) (a1:ByteArray) (a2:ByteArray):Rs :=
 ((dF.f k a0 a1).bind fun r1 =>
 ((eF.f k r1.1 a1 a2).bind fun r2 =>
 ((db.f k r2.1 a1).bind fun r3 =>
 (some r3))))
def f (k:Nat):=t k
end cv
namespace dG
abbrev Rs:Type:=Option ((Ty.den az) × Unit)
def t (k:Nat) (a0:Ty.den az) (a1:Int):Rs :=
 (bif (a0.2.1 != 0) then
 (some (a0,()))
 else
 ((ao.f k a1).bind fun r1 =>
 ((cI.f k a0.1 r1.1).bind fun r2 =>
 ((eW.f k a1 r2.1).bind fun r3 =>
 ((df.f k a1).bind fun r4 =>
 ((eD.f k r3.1).bind fun r5 =>
 ((cv.f k a0 r4.1 r5.1).bind fun r6 =>
 (bif (r6.1.2.1==2) then
 ((df.f k a1).bind fun r7 =>
 ((bB.f k (r6.1.1,(0,())) r7.1).bind fun r8 =>
 (some r8)))
 else
 (some r6)))))))))
def f (k:Nat):=t k
end dG
namespace hF
abbrev Rs:Type:=Option (ByteArray × Unit)
def t (k:Nat) (a0:Ty.den bE):Rs :=
 ((cU.f k a0).bind fun r1 =>
 (bif (!r1.1) then
 (some ((⟨#[]⟩:ByteArray),()))
 else
 ((d6.f k [a0.1,(List.length a0.2.1:Int)]).bind fun r2 =>
 ((d6.f k a0.2.1).bind fun r3 =>
 (k_ r2.1 r3.1
 ((fw.f k (r2.1++r3.1)).bind fun r4 =>
 (some r4)))))))
def f (k:Nat):=t k
end hF
namespace fP
abbrev Rs:Type:=Option ((Ty.den a_) × ByteArray × ByteArray × Int × Unit)
def t (k:Nat) (a0:Ty.den a_) (a1:ByteArray) (a2:ByteArray):Rs :=
 ((bO.f k a0 a1).bind fun r1 =>
 ((dl.f k a2).bind fun r2 =>
 (bif (!r2.1) then
 (some (a0,(a1,(a2,(5,())))))
 else
 (bif (decide (r1.1<0)) then
 (some (a0,(a1,(a2,(3,())))))
 else
 (bi r1.1 (List.length a0.1:Int)
 ((e6.f k a0 a1).bind fun r3 =>
 ((e6.f k r3.1 a2).bind fun r4 =>
 ((ck.f k r4.1 (a2,(List.getD a0.1 (Int.toNat r1.1) (Ty.dflt aF)).2)).bind fun r5 =>
 (some (r5.1,(a1,(a2,(0,())))))))))))))
def f (k:Nat):=t k
end fP
namespace fX
abbrev Rs:Type:=Option (ByteArray × ByteArray × (Ty.den a_) × Int × Unit)
def t (k:Nat) (a0:Ty.den a_) (a1:ByteArray) (a2:ByteArray):Rs :=
 ((cH.f k a0).bind fun r1 =>
 ((bC.f k a0).bind fun r2 =>
 (bif (!r2.1) then
 (some (a1,(a2,(r1.1,(5,())))))
 else
 (bif a0.2.2.2.1 then
 (some (a1,(a2,((r1.1.1,(r1.1.2.1,(r1.1.2.2.1,(true,())))),(1,())))))
 else
 (bif (a0.2.2.1==0) then
 (some (a1,(a2,((r1.1.1,(r1.1.2.1,(r1.1.2.2.1,(true,())))),(1,())))))
 else
 (bif (decide (a0.2.2.1 > 0)) then
 ((fP.f k (r1.1.1,(r1.1.2.1,((aH (r1.1.2.2.1-1)),r1.1.2.2.2))) a1 a2).bind fun r3 =>
 (some (r3.2.1,(r3.2.2.1,(r3.1,r3.2.2.2)))))
 else
 ((fP.f k r1.1 a1 a2).bind fun r4 =>
 (some (r4.2.1,(r4.2.2.1,(r4.1,r4.2.2.2)))))))))))
def f (k:Nat):=t k
end fX
namespace j8
abbrev Rs:Type:=Option ((Ty.den a_) × Int × Unit)
def t (k:Nat) (a0:Ty.den a_) (a1:ByteArray) (a2:ByteArray):Rs :=
 ((fX.f k a0 a1 a2).bind fun r1 =>
 (some r1.2.2))
def f (k:Nat):=t k
end j8
namespace eH
abbrev Rs:Type:=Option ((Ty.den az) × Unit)
def t (k:Nat) (a0:Ty.den az) (a1:ByteArray) (a2:ByteArray):Rs :=
 (bif (a0.2.1==0) then
 ((j8.f k a0.1 a1 a2).bind fun r1 =>
 ((ar.f k a0 r1.1 r1.2.1).bind fun r2 =>
 (some r2)))
 else
 (some (a0,())))
def f (k:Nat):=t k
end eH
namespace dm
abbrev Rs:Type:=Option ((Ty.den az) × Unit)
def t (k:Nat) (a0:Ty.den az) (a1:Ty.den bE):Rs :=
 ((hF.f k a1).bind fun r1 =>
 ((cv.f k a0 (⟨#[116,101,109,112]⟩:ByteArray) r1.1).bind fun r2 =>
 ((eH.f k r2.1 (⟨#[116,101,109,112]⟩:ByteArray) (⟨#[108,105,118,101]⟩:ByteArray)).bind fun r3 =>
 (some r3))))
def f (k:Nat):=t k
end dm
namespace aa
abbrev Rs:Type:=Option ((Ty.den az) × Unit)
abbrev T1:Type:=List ByteArray→Int→Int→Int→Int→Bool→Int→List (Ty.den aF)→Int→Int→Bool→Int→Rs
abbrev T0:Type:=List ByteArray→Int→Int→List (Ty.den aF)→Int→Int→Bool→Int→Int→Int→Bool→Int→Rs
def b1 (k:Nat) (L1:T1):T1:=fun x0 x1 x2 x3 x4 x5 x6 x7 x8 x9 x10 x11 =>
 (bif (decide (x2<x1)) then
 (bi x2 (x0.length:Int)
 ((bB.f k ((x7,(x8,(x9,(x10,())))),(x11,())) (List.getD x0 (Int.toNat x2) (Ty.dflt .str))).bind fun r2 =>
 (L1 x0 x1 (aH (x2+1)) x3 x4 x5 x6 r2.1.1.1 r2.1.1.2.1 r2.1.1.2.2.1 r2.1.1.2.2.2.1 r2.1.2.1)))
 else
 (bif (x11 != 0) then
 (some (((x7,(x8,(x9,(x10,())))),(x11,())),()))
 else
 (some (((x7,(x8,(x9,(x10,())))),(x6,())),()))))
def l1 (k:Nat):Nat→T1
 | 0=>fun _ _ _ _ _ _ _ _ _ _ _ _=>none
 | n+1=>b1 k (l1 k n)
def b0 (k:Nat) (L1:T1):T0:=fun x0 x1 x2 x3 x4 x5 x6 x7 x8 x9 x10 x11 =>
 (bif (decide (x2<x1)) then
 (bi x2 (x0.length:Int)
 ((bB.f k ((x3,(x8,(x9,(x10,())))),(x11,())) (List.getD x0 (Int.toNat x2) (Ty.dflt .str))).bind fun r1 =>
 (L1 x0 x1 (aH (x2+1)) x4 x5 x6 x7 r1.1.1.1 r1.1.1.2.1 r1.1.1.2.2.1 r1.1.1.2.2.2.1 r1.1.2.1)))
 else
 (bif (x11 != 0) then
 (some (((x3,(x8,(x9,(x10,())))),(x11,())),()))
 else
 (some (((x3,(x8,(x9,(x10,())))),(x7,())),()))))
def l0 (k:Nat):Nat→T0
 | 0=>fun _ _ _ _ _ _ _ _ _ _ _ _=>none
 | n+1=>b0 k (l1 k n)
def t (k:Nat) (L0:T0) (a0:Ty.den az) (a1:List ByteArray):Rs :=
 (bif (a0.2.1 != 2) then
 (some (a0,()))
 else
 (L0 a1 (List.length a1:Int) 0 a0.1.1 a0.1.2.1 a0.1.2.2.1 a0.1.2.2.2.1 a0.2.1 a0.1.2.1 a0.1.2.2.1 a0.1.2.2.2.1 0))
def f (k:Nat):=t k (l0 k k)
end aa
namespace br
abbrev Rs:Type:=Option ((Ty.den aE) × (Ty.den az) × Unit)
abbrev T0:Type:=Int→Int→List Int→List (Ty.den aB)→Int→Int→Int→Int→List (Ty.den aF)→Int→Int→Bool→Int→List Int→Rs
def b0 (k:Nat) (L0:T0):T0:=fun x0 x1 x2 x3 x4 x5 x6 x7 x8 x9 x10 x11 x12 x13 =>
 (bif (decide (x1<x0)) then
 (bi x1 (x13.length:Int)
 ((ao.f k (List.getD x13 (Int.toNat x1) (Ty.dflt (.int .i64)))).bind fun r9 =>
 ((bB.f k ((x8,(x9,(x10,(x11,())))),(x12,())) r9.1).bind fun r10 =>
 ((df.f k (List.getD x13 (Int.toNat x1) (Ty.dflt (.int .i64)))).bind fun r11 =>
 ((bB.f k r10.1 r11.1).bind fun r12 =>
 (L0 x0 (aH (x1+1)) x2 x3 x4 x5 x6 x7 r12.1.1.1 r12.1.1.2.1 r12.1.1.2.2.1 r12.1.1.2.2.2.1 r12.1.2.1 x13))))))
 else
 (some (((x4,(x2,())),(x3,(x5,(x6,(x7,()))))),(((x8,(x9,(x10,(x11,())))),(x12,())),()))))
def l0 (k:Nat):Nat→T0
 | 0=>fun _ _ _ _ _ _ _ _ _ _ _ _ _ _=>none
 | n+1=>b0 k (l0 k n)
def t (k:Nat) (L0:T0) (a0:Ty.den aE) (a1:Ty.den az) (a2:List (Ty.den aF)):Rs :=
 ((fZ.f k a2 (aH (a0.2.2.1-1))).bind fun r1 =>
 ((aq.f k a1 a0.1.1 r1.1).bind fun r2 =>
 ((dG.f k r2.1 a0.1.1).bind fun r3 =>
 (bif (r3.1.2.1==0) then
 ((dm.f k r3.1 ((aH (a0.1.1+2)),([a0.1.1,(aH (a0.1.1+1))],()))).bind fun r4 =>
 (bif (r4.1.2.1 != 0) then
 ((ao.f k a0.1.1).bind fun r5 =>
 ((ao.f k (aH (a0.1.1+1))).bind fun r6 =>
 ((df.f k a0.1.1).bind fun r7 =>
 ((aa.f k r4.1 [(⟨#[116,101,109,112]⟩:ByteArray),r5.1,r6.1,r7.1]).bind fun r8 =>
 (some ((((aH (a0.1.1+2)),a0.1.2),a0.2),r8))))))
 else
 (L0 (List.length a0.1.2.1:Int) 0 [a0.1.1,(aH (a0.1.1+1))] r2.2.1 (aH (a0.1.1+2)) a0.2.2.1 0 0 r4.1.1.1 r4.1.1.2.1 r4.1.1.2.2.1 r4.1.1.2.2.2.1 r4.1.2.1 a0.1.2.1)))
 else
 (bif (r3.1.2.1 != 0) then
 ((ao.f k a0.1.1).bind fun r13 =>
 ((ao.f k (aH (a0.1.1+1))).bind fun r14 =>
 ((df.f k a0.1.1).bind fun r15 =>
 ((aa.f k r3.1 [(⟨#[116,101,109,112]⟩:ByteArray),r13.1,r14.1,r15.1]).bind fun r16 =>
 (some ((((aH (a0.1.1+2)),a0.1.2),a0.2),r16))))))
 else
 (L0 (List.length a0.1.2.1:Int) 0 [a0.1.1,(aH (a0.1.1+1))] r2.2.1 (aH (a0.1.1+2)) a0.2.2.1 0 0 r3.1.1.1 r3.1.1.2.1 r3.1.1.2.2.1 r3.1.1.2.2.2.1 r3.1.2.1 a0.1.2.1))))))
def f (k:Nat):=t k (l0 k k)
end br
namespace jH
abbrev Rs:Type:=Option ((Ty.den aE) × (Ty.den a_) × Int × Unit)
def t (k:Nat) (a0:Ty.den aE) (a1:Ty.den a_):Rs :=
 ((gf.f k a0).bind fun r1 =>
 ((cH.f k a1).bind fun r2 =>
 ((gJ.f k a0 a1).bind fun r3 =>
 ((bz.f k a0 a1).bind fun r4 =>
 (bif (!r4.1) then
 (some (r1.1,(r2.1,(4,()))))
 else
 (bif (decide ((aH (a0.1.1+2)) > 100000)) then
 (some (r1.1,(r2.1,(5,()))))
 else
 (bif (r3.2.1 != 0) then
 (some (r1.1,(r2.1,r3.2)))
 else
 ((br.f k r1.1 (r2.1,(0,())) r3.1).bind fun r5 =>
 (some (r5.1,r5.2.1))))))))))
def f (k:Nat):=t k
end jH
namespace k9
abbrev Rs:Type:=Option ((List (Ty.den aF)) × Unit)
def t (k:Nat) (a0:Ty.den aE) (a1:Ty.den a_):Rs :=
 ((gS.f k a0 a1).bind fun r1 =>
 (some (r1.1,())))
def f (k:Nat):=t k
end k9
namespace dA
abbrev Rs:Type:=Option (Bool × Unit)
abbrev T0:Type:=List (Ty.den aF)→List (Ty.den aF)→Int→Rs
def b0 (k:Nat) (L0:T0):T0:=fun x0 x1 x2 =>
 (bif (decide (x2<(x0.length:Int))) then
 (bi x2 (x0.length:Int)
 (bi x2 (x1.length:Int)
 (bif (!((seq (List.getD x0 (Int.toNat x2) (Ty.dflt aF)).1 (List.getD x1 (Int.toNat x2) (Ty.dflt aF)).1)&&((seq (List.getD x0 (Int.toNat x2) (Ty.dflt aF)).2.1 (List.getD x1 (Int.toNat x2) (Ty.dflt aF)).2.1)&&((List.getD x0 (Int.toNat x2) (Ty.dflt aF)).2.2.1==(List.getD x1 (Int.toNat x2) (Ty.dflt aF)).2.2.1)))) then
 (some (false,()))
 else
 (L0 x0 x1 (aH (x2+1))))))
 else
 (some (true,())))
def l0 (k:Nat):Nat→T0
 | 0=>fun _ _ _=>none
 | n+1=>b0 k (l0 k n)
def t (k:Nat) (L0:T0) (a0:List (Ty.den aF)) (a1:List (Ty.den aF)):Rs :=
 (bif ((List.length a0:Int) != (List.length a1:Int)) then
 (some (false,()))
 else
 (L0 a0 a1 0))
def f (k:Nat):=t k (l0 k k)
end dA
namespace cw
abbrev Rs:Type:=Option (Int × Unit)
abbrev T0:Type:=Int→Int→Int→List Int→List (Ty.den aB)→Int→Int→Int→List (Ty.den aF)→Int→Int→Bool→Rs
def b0 (k:Nat) (L0:T0):T0:=fun x0 x1 x2 x3 x4 x5 x6 x7 x8 x9 x10 x11 =>
 (bif (decide (x1<(x3.length:Int))) then
 (bif (decide (x1<60)) then
 (bi x1 (x3.length:Int)
 ((aQ.f k (List.getD x3 (Int.toNat x1) (Ty.dflt (.int .i64)))).bind fun r1 =>
 ((bF.f k (x8,(x9,(x10,(x11,())))) r1.1).bind fun r2 =>
 (L0 (aH (x0+(ByteArray.size r2.1:Int))) (aH (x1+1)) x2 x3 x4 x5 x6 x7 x8 x9 x10 x11))))
 else
 (some (x0,())))
 else
 (some (x0,())))
def l0 (k:Nat):Nat→T0
 | 0=>fun _ _ _ _ _ _ _ _ _ _ _ _=>none
 | n+1=>b0 k (l0 k n)
def t (k:Nat) (L0:T0) (a0:Ty.den aE) (a1:Ty.den a_):Rs :=
 (L0 0 0 a0.1.1 a0.1.2.1 a0.2.1 a0.2.2.1 a0.2.2.2.1 a0.2.2.2.2.1 a1.1 a1.2.1 a1.2.2.1 a1.2.2.2.1)
def f (k:Nat):=t k (l0 k k)
end cw
namespace dK
abbrev Rs:Type:=Option (Int × Unit)
abbrev T0:Type:=Int→List Int→Int→Int→List (Ty.den aF)→Int→Int→Bool→Rs
def b0 (k:Nat) (L0:T0):T0:=fun x0 x1 x2 x3 x4 x5 x6 x7 =>
 (bif (decide (x3<x2)) then
 (bi x3 (x1.length:Int)
 (bif (decide (x3<60)) then
 ((ao.f k (List.getD x1 (Int.toNat x3) (Ty.dflt (.int .i64)))).bind fun r1 =>
 ((cI.f k (x4,(x5,(x6,(x7,())))) r1.1).bind fun r2 =>
 (L0 (aH (x0+(ByteArray.size r2.1:Int))) x1 x2 (aH (x3+1)) x4 x5 x6 x7)))
 else
 (L0 x0 x1 x2 (aH (x3+1)) x4 x5 x6 x7)))
 else
 (some (x0,())))
def l0 (k:Nat):Nat→T0
 | 0=>fun _ _ _ _ _ _ _ _=>none
 | n+1=>b0 k (l0 k n)
def t (k:Nat) (L0:T0) (a0:Ty.den aE) (a1:Ty.den a_):Rs :=
 (L0 0 a0.1.2.1 (List.length a0.1.2.1:Int) 0 a1.1 a1.2.1 a1.2.2.1 a1.2.2.2.1)
def f (k:Nat):=t k (l0 k k)
end dK
namespace d8
abbrev Rs:Type:=Option (Int × Unit)
abbrev T0:Type:=Int→Int→Int→List (Ty.den ax)→Rs
def b0 (k:Nat) (L0:T0):T0:=fun x0 x1 x2 x3 =>
 (bif (decide (x2<x1)) then
 (bi x2 (x3.length:Int)
 ((fQ.f k (List.getD x3 (Int.toNat x2) (Ty.dflt ax))).bind fun r2 =>
 ((fw.f k r2.1).bind fun r3 =>
 (L0 (aH (x0+(ByteArray.size r3.1:Int))) x1 (aH (x2+1)) x3))))
 else
 (some (x0,())))
def l0 (k:Nat):Nat→T0
 | 0=>fun _ _ _ _=>none
 | n+1=>b0 k (l0 k n)
def t (k:Nat) (L0:T0) (a0:List (Ty.den aF)) (a1:Int):Rs :=
 ((fZ.f k a0 a1).bind fun r1 =>
 (L0 0 (List.length r1.1:Int) 0 r1.1))
def f (k:Nat):=t k (l0 k k)
end d8
namespace gg
abbrev Rs:Type:=Option (Int × Unit)
def t (k:Nat) (a0:Ty.den aE) (a1:Ty.den a_):Rs :=
 ((gJ.f k a0 a1).bind fun r1 =>
 (bif (r1.2.1 != 0) then
 (some (0,()))
 else
 ((bz.f k a0 a1).bind fun r2 =>
 (bif (!r2.1) then
 (some (0,()))
 else
 ((dK.f k a0 a1).bind fun r3 =>
 ((d8.f k r1.1 (aH (a0.2.2.1-1))).bind fun r4 =>
 (some ((aH (r3.1-r4.1)),()))))))))
def f (k:Nat):=t k
end gg
namespace aj
abbrev Rs:Type:=Option ((Ty.den bE) × Bool × Unit)
abbrev T0:Type:=ByteArray→Int→Int→Int→List Int→Int→ByteArray→Bool→List Int→Int→Rs
def b0 (k:Nat) (L0:T0):T0:=fun x0 x1 x2 x3 x4 x5 x6 x7 x8 x9 =>
 (bif (decide (x3<x2)) then
 (bif (!x7) then
 ((aZ.f k (x6,(x7,()))).bind fun r4 =>
 (rm (Ty.bytes (.int .i64)) (List.length x8+1)
 (L0 x0 x1 x2 (aH (x3+1)) x4 x5 r4.1.1 r4.1.2.1 (x8++[r4.2.1]) x9)))
 else
 (bif (x1==0) then
 (some ((0,([],())),(false,())))
 else
 (bif (x1 != (ByteArray.size x0:Int)) then
 (some ((0,([],())),(false,())))
 else
 (bif x7 then
 (some ((0,([],())),(false,())))
 else
 (bif (!(seq x6 (⟨#[]⟩:ByteArray))) then
 (some ((0,([],())),(false,())))
 else
 ((cU.f k (x9,(x8,()))).bind fun r5 =>
 (bif (!r5.1) then
 (some ((0,([],())),(false,())))
 else
 (some ((x9,(x8,())),(true,()))))))))))
 else
 (bif (x1==0) then
 (some ((0,([],())),(false,())))
 else
 (bif (x1 != (ByteArray.size x0:Int)) then
 (some ((0,([],())),(false,())))
 else
 (bif x7 then
 (some ((0,([],())),(false,())))
 else
 (bif (!(seq x6 (⟨#[]⟩:ByteArray))) then
 (some ((0,([],())),(false,())))
 else
 ((cU.f k (x9,(x8,()))).bind fun r6 =>
 (bif (!r6.1) then
 (some ((0,([],())),(false,())))
 else
 (some ((x9,(x8,())),(true,()))))))))))
def l0 (k:Nat):Nat→T0
 | 0=>fun _ _ _ _ _ _ _ _ _ _=>none
 | n+1=>b0 k (l0 k n)
def t (k:Nat) (L0:T0) (a0:ByteArray):Rs :=
 ((dU.f k a0).bind fun r1 =>
 ((aZ.f k (r1.1,(false,()))).bind fun r2 =>
 ((aZ.f k r2.1).bind fun r3 =>
 (L0 a0 r1.2.1 r3.2.1 0 [] 0 r3.1.1 r3.1.2.1 [] r2.2.1))))
def f (k:Nat):=t k (l0 k k)
end aj
namespace k8
abbrev Rs:Type:=Option (Int × Bool × Unit)
def t (k:Nat) (a0:ByteArray):Rs :=
 ((gW.f k a0 (⟨#[115,101,103]⟩:ByteArray)).bind fun r1 =>
 (bif (!r1.2.1) then
 ((gW.f k a0 (⟨#[104,105,110,116]⟩:ByteArray)).bind fun r2 =>
 ((cF.f k r2.1).bind fun r3 =>
 (bif (!r2.2.1) then
 (some (0,(false,())))
 else
 (bif (!r3.2.1) then
 (some (0,(false,())))
 else
 ((ah.f k r3.1 1 100000).bind fun r4 =>
 (bif (!r4.1) then
 (some (0,(false,())))
 else
 (some (r3.1,(true,())))))))))
 else
 ((cF.f k r1.1).bind fun r5 =>
 (bif (!r1.2.1) then
 (some (0,(false,())))
 else
 (bif (!r5.2.1) then
 (some (0,(false,())))
 else
 ((ah.f k r5.1 1 100000).bind fun r6 =>
 (bif (!r6.1) then
 (some (0,(false,())))
 else
 (some (r5.1,(true,()))))))))))
def f (k:Nat):=t k
end k8
namespace eG
abbrev Rs:Type:=Option (Bool × Unit)
abbrev T0:Type:=Int→List Int→Int→Int→Rs
def b0 (k:Nat) (L0:T0):T0:=fun x0 x1 x2 x3 =>
 (bif (decide (x3<x2)) then
 (bi x3 (x1.length:Int)
 (bif ((List.getD x1 (Int.toNat x3) (Ty.dflt (.int .i64)))==x0) then
 (some (true,()))
 else
 (L0 x0 x1 x2 (aH (x3+1)))))
 else
 (some (false,())))
def l0 (k:Nat):Nat→T0
 | 0=>fun _ _ _ _=>none
 | n+1=>b0 k (l0 k n)
def t (k:Nat) (L0:T0) (a0:List Int) (a1:Int):Rs :=
 (L0 a1 a0 (List.length a0:Int) 0)
def f (k:Nat):=t k (l0 k k)
end eG
namespace f_
abbrev Rs:Type:=Option ((List ByteArray) × Unit)
abbrev T0:Type:=List (Ty.den aF)→Int→Int→Int→List Int→List ByteArray→Rs
def b0 (k:Nat) (L0:T0):T0:=fun x0 x1 x2 x3 x4 x5 =>
 (bif (decide (x2<x1)) then
 (bi x2 (x0.length:Int)
 ((k8.f k (List.getD x0 (Int.toNat x2) (Ty.dflt aF)).1).bind fun r2 =>
 (bif (seq (List.getD x0 (Int.toNat x2) (Ty.dflt aF)).1 (⟨#[116,101,109,112]⟩:ByteArray)) then
 (rm (Ty.bytes .str) (List.length x5+1)
 (L0 x0 x1 (aH (x2+1)) x3 x4 (x5++[(List.getD x0 (Int.toNat x2) (Ty.dflt aF)).1])))
 else
 (bif r2.2.1 then
 ((eG.f k x4 r2.1).bind fun r3 =>
 (bif (!r3.1) then
 (rm (Ty.bytes .str) (List.length x5+1)
 (L0 x0 x1 (aH (x2+1)) x3 x4 (x5++[(List.getD x0 (Int.toNat x2) (Ty.dflt aF)).1])))
 else
 (L0 x0 x1 (aH (x2+1)) x3 x4 x5)))
 else
 (L0 x0 x1 (aH (x2+1)) x3 x4 x5)))))
 else
 (some (x5,())))
def l0 (k:Nat):Nat→T0
 | 0=>fun _ _ _ _ _ _=>none
 | n+1=>b0 k (l0 k n)
def t (k:Nat) (L0:T0) (a0:Ty.den a_) (a1:Ty.den bE):Rs :=
 ((bC.f k a0).bind fun r1 =>
 (bif (!r1.1) then
 (some ([],()))
 else
 (L0 a0.1 (List.length a0.1:Int) 0 a1.1 a1.2.1 [])))
def f (k:Nat):=t k (l0 k k)
end f_
namespace gN
abbrev Rs:Type:=Option ((List (Ty.den aD)) × Unit)
abbrev T0:Type:=List (Ty.den aD)→Int→Int→Int→Int→ByteArray→ByteArray→Int→Int→List (Ty.den aD)→Rs
def b0 (k:Nat) (L0:T0):T0:=fun x0 x1 x2 x3 x4 x5 x6 x7 x8 x9 =>
 (bif (decide (x2<x1)) then
 (bi x2 (x0.length:Int)
 (bif (x3==3) then
 (bif ((List.getD x0 (Int.toNat x2) (Ty.dflt aD)).2.2.2.1.2.1 != x4) then
 (L0 x0 x1 (aH (x2+1)) x3 x4 x5 x6 x7 x8 x9)
 else
 (bif ((List.getD x0 (Int.toNat x2) (Ty.dflt aD)).2.2.2.1.1==x3) then
 (L0 x0 x1 (aH (x2+1)) x3 x4 x5 x6 x7 x8 [])
 else
 (bif (x3==3) then
 (bif ((List.getD x0 (Int.toNat x2) (Ty.dflt aD)).2.2.2.1.1==1) then
 (rm (Ty.bytes aD) (List.length x9+1)
 (L0 x0 x1 (aH (x2+1)) x3 x4 x5 x6 x7 x8 (x9++[(List.getD x0 (Int.toNat x2) (Ty.dflt aD))])))
 else
 (bif ((List.getD x0 (Int.toNat x2) (Ty.dflt aD)).2.2.2.1.1==2) then
 (bif ((List.getD x0 (Int.toNat x2) (Ty.dflt aD)).2.2.2.1.1==2) then
 (rm (Ty.bytes aD) (List.length x9+1)
 (L0 x0 x1 (aH (x2+1)) x3 x4 x5 x6 x7 x8 (x9++[(List.getD x0 (Int.toNat x2) (Ty.dflt aD))])))
 else
 (L0 x0 x1 (aH (x2+1)) x3 x4 x5 x6 x7 x8 x9))
 else
 (bif (x3==5) then
 (bif ((List.getD x0 (Int.toNat x2) (Ty.dflt aD)).2.2.2.1.1==4) then
 (rm (Ty.bytes aD) (List.length x9+1)
 (L0 x0 x1 (aH (x2+1)) x3 x4 x5 x6 x7 x8 (x9++[(List.getD x0 (Int.toNat x2) (Ty.dflt aD))])))
 else
 (L0 x0 x1 (aH (x2+1)) x3 x4 x5 x6 x7 x8 x9))
 else
 (L0 x0 x1 (aH (x2+1)) x3 x4 x5 x6 x7 x8 x9))))
 else
 (bif (x3==5) then
 (bif ((List.getD x0 (Int.toNat x2) (Ty.dflt aD)).2.2.2.1.1==4) then
 (rm (Ty.bytes aD) (List.length x9+1)
 (L0 x0 x1 (aH (x2+1)) x3 x4 x5 x6 x7 x8 (x9++[(List.getD x0 (Int.toNat x2) (Ty.dflt aD))])))
 else
 (L0 x0 x1 (aH (x2+1)) x3 x4 x5 x6 x7 x8 x9))
 else
 (L0 x0 x1 (aH (x2+1)) x3 x4 x5 x6 x7 x8 x9)))))
 else
 (bif ((List.getD x0 (Int.toNat x2) (Ty.dflt aD)).2.2.2.1.1==x3) then
 (L0 x0 x1 (aH (x2+1)) x3 x4 x5 x6 x7 x8 [])
 else
 (bif (x3==3) then
 (bif ((List.getD x0 (Int.toNat x2) (Ty.dflt aD)).2.2.2.1.1==1) then
 (rm (Ty.bytes aD) (List.length x9+1)
 (L0 x0 x1 (aH (x2+1)) x3 x4 x5 x6 x7 x8 (x9++[(List.getD x0 (Int.toNat x2) (Ty.dflt aD))])))
 else
 (bif ((List.getD x0 (Int.toNat x2) (Ty.dflt aD)).2.2.2.1.1==2) then
 (bif ((List.getD x0 (Int.toNat x2) (Ty.dflt aD)).2.2.2.1.1==2) then
 (rm (Ty.bytes aD) (List.length x9+1)
 (L0 x0 x1 (aH (x2+1)) x3 x4 x5 x6 x7 x8 (x9++[(List.getD x0 (Int.toNat x2) (Ty.dflt aD))])))
 else
 (L0 x0 x1 (aH (x2+1)) x3 x4 x5 x6 x7 x8 x9))
 else
 (bif (x3==5) then
 (bif ((List.getD x0 (Int.toNat x2) (Ty.dflt aD)).2.2.2.1.1==4) then
 (rm (Ty.bytes aD) (List.length x9+1)
 (L0 x0 x1 (aH (x2+1)) x3 x4 x5 x6 x7 x8 (x9++[(List.getD x0 (Int.toNat x2) (Ty.dflt aD))])))
 else
 (L0 x0 x1 (aH (x2+1)) x3 x4 x5 x6 x7 x8 x9))
 else
 (L0 x0 x1 (aH (x2+1)) x3 x4 x5 x6 x7 x8 x9))))
 else
 (bif (x3==5) then
 (bif ((List.getD x0 (Int.toNat x2) (Ty.dflt aD)).2.2.2.1.1==4) then
 (rm (Ty.bytes aD) (List.length x9+1)
 (L0 x0 x1 (aH (x2+1)) x3 x4 x5 x6 x7 x8 (x9++[(List.getD x0 (Int.toNat x2) (Ty.dflt aD))])))
 else
 (L0 x0 x1 (aH (x2+1)) x3 x4 x5 x6 x7 x8 x9))
 else
 (L0 x0 x1 (aH (x2+1)) x3 x4 x5 x6 x7 x8 x9))))))
 else
 (some (x9,())))
def l0 (k:Nat):Nat→T0
 | 0=>fun _ _ _ _ _ _ _ _ _ _=>none
 | n+1=>b0 k (l0 k n)
def t (k:Nat) (L0:T0) (a0:List (Ty.den aD)) (a1:Ty.den ax):Rs :=
 (L0 a0 (List.length a0:Int) 0 a1.1 a1.2.1 a1.2.2.1 a1.2.2.2.1 a1.2.2.2.2.1 a1.2.2.2.2.2.1 [])
def f (k:Nat):=t k (l0 k k)
end gN
namespace fh
abbrev Rs:Type:=Option ((List Int) × Unit)
abbrev T0:Type:=List (Ty.den aD)→List (Ty.den aD)→Int→Int→List Int→Rs
def b0 (k:Nat) (L0:T0):T0:=fun x0 x1 x2 x3 x4 =>
 (bif (decide (x3<x2)) then
 (bi x3 (x1.length:Int)
 (bif ((List.getD x1 (Int.toNat x3) (Ty.dflt aD)).2.2.2.1.1==3) then
 (pV x3 (x0.length:Int)
 ((gN.f k (List.take (Int.toNat x3) x0) (List.getD x1 (Int.toNat x3) (Ty.dflt aD)).2.2.2.1).bind fun r1 =>
 ((gM.f k (List.getD x1 (Int.toNat x3) (Ty.dflt aD)).2.2.2.1 r1.1).bind fun r2 =>
 (bif r2.1 then
 (rm (Ty.bytes (.int .i64)) (List.length x4+1)
 (L0 x0 x1 x2 (aH (x3+1)) (x4++[(List.getD x1 (Int.toNat x3) (Ty.dflt aD)).2.2.2.1.2.1])))
 else
 (L0 x0 x1 x2 (aH (x3+1)) x4)))))
 else
 (L0 x0 x1 x2 (aH (x3+1)) x4)))
 else
 (some (x4,())))
def l0 (k:Nat):Nat→T0
 | 0=>fun _ _ _ _ _=>none
 | n+1=>b0 k (l0 k n)
def t (k:Nat) (L0:T0) (a0:List (Ty.den aD)):Rs :=
 (L0 a0 a0 (List.length a0:Int) 0 [])
def f (k:Nat):=t k (l0 k k)
end fh
namespace eN
abbrev Rs:Type:=Option ((Ty.den v_) × Unit)
abbrev T1:Type:=Int→Int→Bool→Int→Int→Int→Int→Int→Int→Bool→Int→Int→Int→Int→Int→Int→List Int→List (Ty.den aD)→Rs
abbrev T0:Type:=Int→Int→List (Ty.den aF)→Int→Int→Bool→Bool→Int→Int→Int→Int→Int→Int→Bool→Int→Int→Int→Int→Int→Int→List (Ty.den aD)→List Int→Rs
def b1 (k:Nat) (L1:T1):T1:=fun x0 x1 x2 x3 x4 x5 x6 x7 x8 x9 x10 x11 x12 x13 x14 x15 x16 x17 =>
 (bif (decide (x1<x0)) then
 (bi x1 (x17.length:Int)
 (bif ((List.getD x17 (Int.toNat x1) (Ty.dflt aD)).2.2.2.1.1==1) then
 ((eG.f k x16 (List.getD x17 (Int.toNat x1) (Ty.dflt aD)).2.2.2.1.2.1).bind fun r10 =>
 (bif (!r10.1) then
 (L1 x0 (aH (x1+1)) x2 x3 x4 x5 x6 x7 x8 x9 x10 x11 (aH (x12+1)) x13 x14 x15 x16 x17)
 else
 (L1 x0 (aH (x1+1)) x2 x3 x4 x5 x6 x7 x8 x9 x10 x11 x12 x13 x14 x15 x16 x17)))
 else
 (bif ((List.getD x17 (Int.toNat x1) (Ty.dflt aD)).2.2.2.1.1==2) then
 ((eG.f k x16 (List.getD x17 (Int.toNat x1) (Ty.dflt aD)).2.2.2.1.2.1).bind fun r11 =>
 (bif (!r11.1) then
 (L1 x0 (aH (x1+1)) x2 x3 x4 x5 x6 x7 x8 x9 x10 x11 (aH (x12+1)) x13 x14 x15 x16 x17)
 else
 (L1 x0 (aH (x1+1)) x2 x3 x4 x5 x6 x7 x8 x9 x10 x11 x12 x13 x14 x15 x16 x17)))
 else
 (L1 x0 (aH (x1+1)) x2 x3 x4 x5 x6 x7 x8 x9 x10 x11 x12 x13 x14 x15 x16 x17))))
 else
 (some ((x9,(x10,(x11,(x12,(x13,(x14,(x15,()))))))),())))
def l1 (k:Nat):Nat→T1
 | 0=>fun _ _ _ _ _ _ _ _ _ _ _ _ _ _ _ _ _ _=>none
 | n+1=>b1 k (l1 k n)
def b0 (k:Nat) (L1:T1) (L0:T0):T0:=fun x0 x1 x2 x3 x4 x5 x6 x7 x8 x9 x10 x11 x12 x13 x14 x15 x16 x17 x18 x19 x20 x21 =>
 (bif (decide (x1<x0)) then
 (bi x1 (x21.length:Int)
 ((ao.f k (List.getD x21 (Int.toNat x1) (Ty.dflt (.int .i64)))).bind fun r4 =>
 ((cI.f k (x2,(x3,(x4,(x5,())))) r4.1).bind fun r5 =>
 (bif (!r5.2.1) then
 (L0 x0 (aH (x1+1)) x2 x3 x4 x5 x6 x7 x8 x9 x10 x11 x12 x13 (aH (x14+1)) x15 x16 x17 x18 x19 x20 x21)
 else
 ((cX.f k r5.1).bind fun r6 =>
 (bif (decide (r6.2.1<(ByteArray.size r5.1:Int))) then
 ((eI.f k (List.getD x21 (Int.toNat x1) (Ty.dflt (.int .i64))) r6.1).bind fun r7 =>
 (rm (Ty.bytes aD) (List.length x20+List.length r7.1)
 (L0 x0 (aH (x1+1)) x2 x3 x4 x5 x6 x7 x8 x9 x10 x11 x12 x13 x14 (aH (x15+1)) x16 x17 x18 (aH (x19+(aH ((ByteArray.size r5.1:Int)-r6.2.1)))) (x20++r7.1) x21)))
 else
 ((eI.f k (List.getD x21 (Int.toNat x1) (Ty.dflt (.int .i64))) r6.1).bind fun r8 =>
 (rm (Ty.bytes aD) (List.length x20+List.length r8.1)
 (L0 x0 (aH (x1+1)) x2 x3 x4 x5 x6 x7 x8 x9 x10 x11 x12 x13 x14 x15 x16 x17 x18 x19 (x20++r8.1) x21)))))))))
 else
 ((fh.f k x20).bind fun r9 =>
 (L1 (x20.length:Int) 0 x6 x7 x8 x9 x10 x11 x12 x13 x14 x15 x16 x17 (x20.length:Int) x19 r9.1 x20)))
def l0 (k:Nat):Nat→T0
 | 0=>fun _ _ _ _ _ _ _ _ _ _ _ _ _ _ _ _ _ _ _ _ _ _=>none
 | n+1=>b0 k (l1 k k) (l0 k n)
def t (k:Nat) (L0:T0) (a0:Ty.den a_):Rs :=
 ((cI.f k a0 (⟨#[108,105,118,101]⟩:ByteArray)).bind fun r1 =>
 ((aj.f k r1.1).bind fun r2 =>
 ((f_.f k a0 r2.1).bind fun r3 =>
 (L0 (List.length r2.1.2.1:Int) 0 a0.1 a0.2.1 a0.2.2.1 a0.2.2.2.1 false 0 0 0 0 0 0 r2.2.1 0 0 0 (List.length r3.1:Int) 0 0 [] r2.1.2.1))))
def f (k:Nat):=t k (l0 k k)
end eN
namespace dM
abbrev Rs:Type:=Option (Bool × Unit)
def t (k:Nat) (a0:List Int):Rs :=
 ((oN.f k a0).bind fun r1 =>
 (bif r1.1 then
 (some (true,()))
 else
 ((gi.f k a0).bind fun r2 =>
 ((jH.f k r2.1 r2.2.1).bind fun r3 =>
 ((jH.f k r3.1 r3.2.1).bind fun r4 =>
 (bif (r3.2.2.1 != 0) then
 (some (true,()))
 else
 (bif (r4.2.2.1 != 0) then
 (some (true,()))
 else
 (bif (decide (r2.2.1.2.2.1≥0)) then
 (some (true,()))
 else
 ((k9.f k r4.1 r4.2.1).bind fun r5 =>
 ((k9.f k r3.1 r3.2.1).bind fun r6 =>
 ((dA.f k r5.1 r6.1).bind fun r7 =>
 (bif r7.1 then
 ((cw.f k r4.1 r4.2.1).bind fun r8 =>
 ((cw.f k r3.1 r3.2.1).bind fun r9 =>
 (bif (r8.1==r9.1) then
 (bif (r4.1.2.2.1==r3.1.2.2.1) then
 (bif (r4.1.1.1==(aH (r3.1.1.1+2))) then
 ((gg.f k r3.1 r3.2.1).bind fun r10 =>
 (bif (r10.1==0) then
 ((eN.f k r4.2.1).bind fun r11 =>
 (some ((r11.1.2.2.2.1==0),())))
 else
 (some (false,()))))
 else
 (some (false,())))
 else
 (some (false,())))
 else
 (some (false,())))))
 else
 (some (false,()))))))))))))))
def f (k:Nat):=t k
end dM
end Go.Proofs.YtohaanhjddohmaaGreatDoor.G

/- Functions, as V runs them. -/
import Derived.Test.YtdbekilnpjmeaaaGreatDoorVWords
import Derived.Test.YtdbekilnpjmeaaaGreatDoorXLib
set_option linter.unusedVariables false
namespace Go.Proofs.YtdbekilnpjmeaaaGreatDoor.G
open Go.V
abbrev G2:Ty := .pair (.int .i64) (.pair (.int .i64) .unit)
abbrev aD:Ty := .pair .str (.pair .str (.pair (.int .i64) .unit))
abbrev a_:Ty := .pair (.slice aD) (.pair (.int .i64) (.pair (.int .i64) (.pair .bool .unit)))
abbrev aA:Ty := .pair .str (.pair (.int .i64) (.pair (.int .i64) (.pair (.int .i64) (.pair (.int .i64) .unit))))
abbrev kY:Ty := .pair (.slice aA) (.pair (.int .i64) (.pair (.int .i64) .unit))
abbrev gl:Ty := .pair (.int .i64) (.pair (.int .i64) (.pair (.slice aA) .unit))
abbrev bj:Ty := .pair (.int .i64) (.pair (.slice (.int .i64)) .unit)
abbrev am:Ty := .pair (.int .i64) (.pair (.int .i64) (.pair .str (.pair .str (.pair (.int .i64) (.pair (.int .i64) .unit)))))
abbrev aL:Ty := .pair (.int .i64) (.pair (.int .i64) (.pair (.int .i64) (.pair am .unit)))
abbrev af:Ty := .pair .str (.pair .bool (.pair .str .unit))
abbrev dD:Ty := .pair (.int .i64) (.pair (.int .i64) (.pair am .unit))
abbrev aC:Ty := .pair bj (.pair (.slice aA) (.pair (.int .i64) (.pair (.int .i64) (.pair (.int .i64) .unit))))
abbrev ap:Ty := .pair (.slice (.int .u8)) (.pair (.int .i64) (.pair (.int .i64) .unit))
abbrev jd:Ty := .pair .str (.pair .bool .unit)
abbrev b8:Ty := .pair a_ (.pair (.int .i64) .unit)
abbrev kg:Ty:=aD
namespace od
abbrev Rs:Type:=Option (Bool × Unit)
def t (k:Nat) (a0:List Int):Rs :=
 (some ((decide ((List.length a0:Int) > 1048576)),()))
def f (k:Nat):=t k
end od
namespace gD
abbrev Rs:Type:=Option (Unit × (Ty.den ap) × Unit)
abbrev T0:Type:=List Int→Int→Int→Rs
def b0 (k:Nat) (L0:T0):T0:=fun x0 x1 x2 =>
 (bif (decide (x2<(x0.length:Int))) then
 (bif (decide (x2<4000)) then
 (bX x2 (x0.length:Int)
 (L0 x0 (aH (((BitVec.ofInt (IntKind.bits .i64) (aH ((aH ((aH (x1*131))+(aH (List.getD x0 (Int.toNat x2) (Ty.dflt (.int .u8))))))+7)) &&& BitVec.ofInt (IntKind.bits .i64) 1073741823).toNat:Int))) (aH (x2+1))))
 else
 (some ((),((x0,(0,(x1,()))),()))))
 else
 (some ((),((x0,(0,(x1,()))),()))))
def l0 (k:Nat):Nat→T0
 | 0=>fun _ _ _=>none
 | n+1=>b0 k (l0 k n)
def t (k:Nat) (L0:T0) (a0:List Int):Rs :=
 (L0 a0 (aH (10101+(List.length a0:Int))) 0)
def f (k:Nat):=t k (l0 k k)
end gD
namespace eu
abbrev Rs:Type:=Option ((Ty.den ap) × Int × Unit)
def t (k:Nat) (a0:Ty.den ap):Rs :=
 (bif (decide (a0.2.1<(List.length a0.1:Int))) then
 (bX a0.2.1 (List.length a0.1:Int)
 (some ((a0.1,((aH (a0.2.1+1)),((aH ((aH (a0.2.2.1*6364136223846793005))+1442695040888963407)),()))),((aH (((BitVec.ofInt (IntKind.bits .i64) (aH ((aH (((BitVec.ofInt (IntKind.bits .i64) (aH (((BitVec.ofInt (IntKind.bits .i64) (Int.fdiv (aH ((aH (a0.2.2.1*6364136223846793005))+1442695040888963407)) (2 ^ (Int.toNat 33))) ^^^ BitVec.ofInt (IntKind.bits .i64) (Int.fdiv (aH ((aH (a0.2.2.1*6364136223846793005))+1442695040888963407)) (2 ^ (Int.toNat 45)))).toNat:Int))) &&& BitVec.ofInt (IntKind.bits .i64) 255).toNat:Int)))+(aH (List.getD a0.1 (Int.toNat a0.2.1) (Ty.dflt (.int .u8)))))) &&& BitVec.ofInt (IntKind.bits .i64) 255).toNat:Int))),()))))
 else
 (some ((a0.1,(a0.2.1,((aH ((aH (a0.2.2.1*6364136223846793005))+1442695040888963407)),()))),((aH (((BitVec.ofInt (IntKind.bits .i64) (aH (((BitVec.ofInt (IntKind.bits .i64) (Int.fdiv (aH ((aH (a0.2.2.1*6364136223846793005))+1442695040888963407)) (2 ^ (Int.toNat 33))) ^^^ BitVec.ofInt (IntKind.bits .i64) (Int.fdiv (aH ((aH (a0.2.2.1*6364136223846793005))+1442695040888963407)) (2 ^ (Int.toNat 45)))).toNat:Int))) &&& BitVec.ofInt (IntKind.bits .i64) 255).toNat:Int))),()))))
def f (k:Nat):=t k
end eu
namespace aV
abbrev Rs:Type:=Option ((Ty.den ap) × Int × Unit)
def t (k:Nat) (a0:Ty.den ap) (a1:Int):Rs :=
 (bif (decide (a1≤0)) then
 (some (a0,(0,())))
 else
 (bif (decide (a1≤256)) then
 ((eu.f k a0).bind fun r1 =>
 (bif (decide (a1=0)) then none else
 (some (r1.1,((Int.tmod r1.2.1 a1),())))))
 else
 ((eu.f k a0).bind fun r2 =>
 ((eu.f k r2.1).bind fun r3 =>
 ((eu.f k r3.1).bind fun r4 =>
 ((eu.f k r4.1).bind fun r5 =>
 (bif (decide (a1=0)) then none else
 (some (r5.1,((Int.tmod (aH ((aH ((aH ((aH (r2.2.1*16777216))+(aH (r3.2.1*65536))))+(aH (r4.2.1*256))))+r5.2.1)) a1),()))))))))))
def f (k:Nat):=t k
end aV
namespace cO
abbrev Rs:Type:=Option ((Ty.den ap) × Int × Unit)
def t (k:Nat) (a0:Ty.den ap) (a1:List Int):Rs :=
 ((aV.f k a0 (List.length a1:Int)).bind fun r1 =>
 (bX r1.2.1 (List.length a1:Int)
 (some (r1.1,((List.getD a1 (Int.toNat r1.2.1) (Ty.dflt (.int .i64))),())))))
def f (k:Nat):=t k
end cO
namespace aU
abbrev Rs:Type:=Option (Bool × Unit)
def t (k:Nat) (a0:Int) (a1:Int) (a2:Int):Rs :=
 (bif (decide (a0≥a1)) then
 (some ((decide (a0≤a2)),()))
 else
 (some (false,())))
def f (k:Nat):=t k
end aU
namespace fE
abbrev Rs:Type:=Option ((Ty.den a_) × Unit)
def t (k:Nat) (a0:Int):Rs :=
 ((aU.f k a0 0 100000).bind fun r1 =>
 (bif (!r1.1) then
 (some (([],(0,(0,(false,())))),()))
 else
 (some (([],(a0,((-1),(false,())))),()))))
def f (k:Nat):=t k
end fE
namespace dQ
abbrev Rs:Type:=Option (Int × Unit)
abbrev T0:Type:=Int→Int→List (Ty.den aD)→Int→Int→Bool→Rs
def b0 (k:Nat) (L0:T0):T0:=fun x0 x1 x2 x3 x4 x5 =>
 (bif (decide (x1<(x2.length:Int))) then
 (bX x1 (x2.length:Int)
 (L0 (aH (x0+(ByteArray.size (List.getD x2 (Int.toNat x1) (Ty.dflt aD)).2.1:Int))) (aH (x1+1)) x2 x3 x4 x5))
 else
 (some (x0,())))
def l0 (k:Nat):Nat→T0
 | 0=>fun _ _ _ _ _ _=>none
 | n+1=>b0 k (l0 k n)
def t (k:Nat) (L0:T0) (a0:Ty.den a_):Rs :=
 (L0 0 0 a0.1 a0.2.1 a0.2.2.1 a0.2.2.2.1)
def f (k:Nat):=t k (l0 k k)
end dQ
namespace dt
abbrev Rs:Type:=Option (Bool × Unit)
abbrev T0:Type:=ByteArray→Int→Rs
def b0 (k:Nat) (L0:T0):T0:=fun x0 x1 =>
 (bif (decide (x1<(ByteArray.size x0:Int))) then
 (bX x1 (ByteArray.size x0:Int)
 (bif (decide ((e6 x0 x1)≥97)) then
 (bX x1 (ByteArray.size x0:Int)
 (bif (decide ((e6 x0 x1)≤122)) then
 (L0 x0 (aH (x1+1)))
 else
 (bX x1 (ByteArray.size x0:Int)
 (bif (decide ((e6 x0 x1)≥48)) then
 (bX x1 (ByteArray.size x0:Int)
 (bif (!(decide ((e6 x0 x1)≤57))) then
 (some (false,()))
 else
 (L0 x0 (aH (x1+1)))))
 else
 (some (false,()))))))
 else
 (bX x1 (ByteArray.size x0:Int)
 (bif (decide ((e6 x0 x1)≥48)) then
 (bX x1 (ByteArray.size x0:Int)
 (bif (!(decide ((e6 x0 x1)≤57))) then
 (some (false,()))
 else
 (L0 x0 (aH (x1+1)))))
 else
 (some (false,()))))))
 else
 ((aU.f k (ByteArray.size x0:Int) 1 12).bind fun r1 =>
 (some r1)))
def l0 (k:Nat):Nat→T0
 | 0=>fun _ _=>none
 | n+1=>b0 k (l0 k n)
def t (k:Nat) (L0:T0) (a0:ByteArray):Rs :=
 (L0 a0 0)
def f (k:Nat):=t k (l0 k k)
end dt
namespace bn
abbrev Rs:Type:=Option (Bool × Unit)
abbrev T0:Type:=Int→List (Ty.den aD)→Int→Int→Bool→Rs
def b0 (k:Nat) (L0:T0):T0:=fun x0 x1 x2 x3 x4 =>
 (bif (decide (x0<(x1.length:Int))) then
 (bX x0 (x1.length:Int)
 ((dt.f k (List.getD x1 (Int.toNat x0) (Ty.dflt aD)).1).bind fun r4 =>
 (bif (!r4.1) then
 (some (false,()))
 else
 (bX x0 (x1.length:Int)
 (bX x0 (x1.length:Int)
 ((aU.f k (List.getD x1 (Int.toNat x0) (Ty.dflt aD)).2.2.1 0 (ByteArray.size (List.getD x1 (Int.toNat x0) (Ty.dflt aD)).2.1:Int)).bind fun r5 =>
 (bif (!r5.1) then
 (some (false,()))
 else
 (bif (decide (x0 > 0)) then
 (bX x0 (x1.length:Int)
 (bX (aH (x0-1)) (x1.length:Int)
 (bif ((lZ (List.getD x1 (Int.toNat x0) (Ty.dflt aD)).1 (List.getD x1 (Int.toNat (aH (x0-1))) (Ty.dflt aD)).1)||(seq (List.getD x1 (Int.toNat x0) (Ty.dflt aD)).1 (List.getD x1 (Int.toNat (aH (x0-1))) (Ty.dflt aD)).1)) then
 (some (false,()))
 else
 (L0 (aH (x0+1)) x1 x2 x3 x4))))
 else
 (L0 (aH (x0+1)) x1 x2 x3 x4)))))))))
 else
 (some (true,())))
def l0 (k:Nat):Nat→T0
 | 0=>fun _ _ _ _ _=>none
 | n+1=>b0 k (l0 k n)
def t (k:Nat) (L0:T0) (a0:Ty.den a_):Rs :=
 (bif (decide ((List.length a0.1:Int) > 130)) then
 (some (false,()))
 else
 ((aU.f k a0.2.1 0 100000).bind fun r1 =>
 (bif (!r1.1) then
 (some (false,()))
 else
 ((aU.f k a0.2.2.1 (-1) 100000).bind fun r2 =>
 (bif (!r2.1) then
 (some (false,()))
 else
 ((dQ.f k a0).bind fun r3 =>
 (bif (decide (r3.1 > a0.2.1)) then
 (some (false,()))
 else
 (L0 0 a0.1 a0.2.1 a0.2.2.1 a0.2.2.2.1))))))))
def f (k:Nat):=t k (l0 k k)
end bn
namespace bv
abbrev Rs:Type:=Option ((Ty.den a_) × Unit)
def t (k:Nat) (a0:Ty.den a_):Rs :=
 (rm (Ty.bytes aD) (0+List.length a0.1)
 (some ((([]++a0.1),a0.2),())))
def f (k:Nat):=t k
end bv
namespace bD
abbrev Rs:Type:=Option (Int × Unit)
abbrev T0:Type:=ByteArray→Int→List (Ty.den aD)→Int→Int→Bool→Rs
def b0 (k:Nat) (L0:T0):T0:=fun x0 x1 x2 x3 x4 x5 =>
 (bif (decide (x1<(x2.length:Int))) then
 (bX x1 (x2.length:Int)
 (bif (seq (List.getD x2 (Int.toNat x1) (Ty.dflt aD)).1 x0) then
 (some (x1,()))
 else
 (L0 x0 (aH (x1+1)) x2 x3 x4 x5)))
 else
 (some ((-1),())))
def l0 (k:Nat):Nat→T0
 | 0=>fun _ _ _ _ _ _=>none
 | n+1=>b0 k (l0 k n)
def t (k:Nat) (L0:T0) (a0:Ty.den a_) (a1:ByteArray):Rs :=
 (L0 a1 0 a0.1 a0.2.1 a0.2.2.1 a0.2.2.2.1)
def f (k:Nat):=t k (l0 k k)
end bD
namespace bJ
abbrev Rs:Type:=Option (ByteArray × Bool × Unit)
def t (k:Nat) (a0:Ty.den a_) (a1:ByteArray):Rs :=
 ((bn.f k a0).bind fun r1 =>
 (bif (!r1.1) then
 (some ((⟨#[]⟩:ByteArray),(false,())))
 else
 ((bD.f k a0 a1).bind fun r2 =>
 (bif (decide (r2.1<0)) then
 (some ((⟨#[]⟩:ByteArray),(false,())))
 else
 (bX r2.1 (List.length a0.1:Int)
 (some ((List.getD a0.1 (Int.toNat r2.1) (Ty.dflt aD)).2.1,(true,()))))))))
def f (k:Nat):=t k
end bJ
namespace dA
abbrev Rs:Type:=Option (ByteArray × Unit)
abbrev T0:Type:=Int→ByteArray→Bool→Rs
def b0 (k:Nat) (L0:T0):T0:=fun x0 x1 x2 =>
 (bif (x0 != 0) then
 (bif (decide ((Int.tmod x0 10)<0)) then
 (kX (bytesOf [(IntKind.wrap .u8 (aH (48+(aH (0-(Int.tmod x0 10))))))]) x1
 (L0 (aH (Int.tdiv x0 10)) ((bytesOf [(IntKind.wrap .u8 (aH (48+(aH (0-(Int.tmod x0 10))))))])++x1) x2))
 else
 (kX (bytesOf [(IntKind.wrap .u8 (aH (48+(Int.tmod x0 10))))]) x1
 (L0 (aH (Int.tdiv x0 10)) ((bytesOf [(IntKind.wrap .u8 (aH (48+(Int.tmod x0 10))))])++x1) x2)))
 else
 (bif x2 then
 (kX (⟨#[45]⟩:ByteArray) x1
 (some (((⟨#[45]⟩:ByteArray)++x1),())))
 else
 (some (x1,()))))
def l0 (k:Nat):Nat→T0
 | 0=>fun _ _ _=>none
 | n+1=>b0 k (l0 k n)
def t (k:Nat) (L0:T0) (a0:Int):Rs :=
 (bif (a0==0) then
 (some ((⟨#[48]⟩:ByteArray),()))
 else
 (L0 a0 (⟨#[]⟩:ByteArray) (decide (a0<0))))
def f (k:Nat):=t k (l0 k k)
end dA
namespace eR
abbrev Rs:Type:=Option (Int × Bool × Unit)
abbrev T0:Type:=ByteArray→Int→Int→Int→Rs
def b0 (k:Nat) (L0:T0):T0:=fun x0 x1 x2 x3 =>
 (bif (decide (x3<(ByteArray.size x0:Int))) then
 (bif (decide (x3<11)) then
 (bX x3 (ByteArray.size x0:Int)
 (bif (decide ((e6 x0 x3)≥48)) then
 (bX x3 (ByteArray.size x0:Int)
 (bif (decide ((e6 x0 x3)≤57)) then
 (bX x3 (ByteArray.size x0:Int)
 (L0 x0 (aH ((aH (x1*10))+(aH (IntKind.wrap .u8 ((e6 x0 x3)-48))))) (aH (x2+1)) (aH (x3+1))))
 else
 (L0 x0 x1 x2 (aH (x3+1)))))
 else
 (L0 x0 x1 x2 (aH (x3+1)))))
 else
 (bif (decide ((ByteArray.size x0:Int) > 0)) then
 (bX 0 (ByteArray.size x0:Int)
 (bif ((e6 x0 0)==45) then
 (bif (decide (x2 > 9)) then
 (some (0,(false,())))
 else
 (bif (decide ((ByteArray.size x0:Int) > 10)) then
 (some (0,(false,())))
 else
 ((dA.f k (aH (0-x1))).bind fun r1 =>
 (bif (!(seq r1.1 x0)) then
 (some (0,(false,())))
 else
 (some ((aH (0-x1)),(true,())))))))
 else
 (bif (decide (x2 > 9)) then
 (some (0,(false,())))
 else
 (bif (decide ((ByteArray.size x0:Int) > 10)) then
 (some (0,(false,())))
 else
 ((dA.f k x1).bind fun r2 =>
 (bif (!(seq r2.1 x0)) then
 (some (0,(false,())))
 else
 (some (x1,(true,())))))))))
 else
 (bif (decide (x2 > 9)) then
 (some (0,(false,())))
 else
 (bif (decide ((ByteArray.size x0:Int) > 10)) then
 (some (0,(false,())))
 else
 ((dA.f k x1).bind fun r3 =>
 (bif (!(seq r3.1 x0)) then
 (some (0,(false,())))
 else
 (some (x1,(true,())))))))))
 else
 (bif (decide ((ByteArray.size x0:Int) > 0)) then
 (bX 0 (ByteArray.size x0:Int)
 (bif ((e6 x0 0)==45) then
 (bif (decide (x2 > 9)) then
 (some (0,(false,())))
 else
 (bif (decide ((ByteArray.size x0:Int) > 10)) then
 (some (0,(false,())))
 else
 ((dA.f k (aH (0-x1))).bind fun r4 =>
 (bif (!(seq r4.1 x0)) then
 (some (0,(false,())))
 else
 (some ((aH (0-x1)),(true,())))))))
 else
 (bif (decide (x2 > 9)) then
 (some (0,(false,())))
 else
 (bif (decide ((ByteArray.size x0:Int) > 10)) then
 (some (0,(false,())))
 else
 ((dA.f k x1).bind fun r5 =>
 (bif (!(seq r5.1 x0)) then
 (some (0,(false,())))
 else
 (some (x1,(true,())))))))))
 else
 (bif (decide (x2 > 9)) then
 (some (0,(false,())))
 else
 (bif (decide ((ByteArray.size x0:Int) > 10)) then
 (some (0,(false,())))
 else
 ((dA.f k x1).bind fun r6 =>
 (bif (!(seq r6.1 x0)) then
 (some (0,(false,())))
 else
 (some (x1,(true,())))))))))
def l0 (k:Nat):Nat→T0
 | 0=>fun _ _ _ _=>none
 | n+1=>b0 k (l0 k n)
def t (k:Nat) (L0:T0) (a0:ByteArray):Rs :=
 (L0 a0 0 0 0)
def f (k:Nat):=t k (l0 k k)
end eR
namespace aS
abbrev Rs:Type:=Option (ByteArray × Unit)
def t (k:Nat) (a0:Int):Rs :=
 ((aU.f k a0 1 100000).bind fun r1 =>
 (bif (!r1.1) then
 (some ((⟨#[]⟩:ByteArray),()))
 else
 ((dA.f k a0).bind fun r2 =>
 (kX (⟨#[115,101,103]⟩:ByteArray) r2.1
 (some (((⟨#[115,101,103]⟩:ByteArray)++r2.1),()))))))
def f (k:Nat):=t k
end aS
namespace cX
abbrev Rs:Type:=Option (ByteArray × Unit)
def t (k:Nat) (a0:Int):Rs :=
 ((aU.f k a0 1 100000).bind fun r1 =>
 (bif (!r1.1) then
 (some ((⟨#[]⟩:ByteArray),()))
 else
 ((dA.f k a0).bind fun r2 =>
 (kX (⟨#[104,105,110,116]⟩:ByteArray) r2.1
 (some (((⟨#[104,105,110,116]⟩:ByteArray)++r2.1),()))))))
def f (k:Nat):=t k
end cX
namespace gy
abbrev Rs:Type:=Option (Int × Bool × Unit)
abbrev T0:Type:=ByteArray→Int→Rs
def b0 (k:Nat) (L0:T0):T0:=fun x0 x1 =>
 (bif (decide (x1≤4)) then
 (bif (decide ((ByteArray.size x0:Int) > x1)) then
 (pr x1 (ByteArray.size x0:Int)
 ((eR.f k (ByteArray.extract x0 (Int.toNat x1) (ByteArray.size x0))).bind fun r1 =>
 (bif r1.2.1 then
 (bif (decide (r1.1≥1)) then
 ((aS.f k r1.1).bind fun r2 =>
 (bif (seq r2.1 x0) then
 (some (r1.1,(true,())))
 else
 ((cX.f k r1.1).bind fun r3 =>
 (bif (seq r3.1 x0) then
 (some (r1.1,(true,())))
 else
 (L0 x0 (aH (x1+1)))))))
 else
 (L0 x0 (aH (x1+1))))
 else
 (L0 x0 (aH (x1+1))))))
 else
 (L0 x0 (aH (x1+1))))
 else
 (some (0,(false,()))))
def l0 (k:Nat):Nat→T0
 | 0=>fun _ _=>none
 | n+1=>b0 k (l0 k n)
def t (k:Nat) (L0:T0) (a0:ByteArray):Rs :=
 (L0 a0 3)
def f (k:Nat):=t k (l0 k k)
end gy
namespace b9
abbrev Rs:Type:=Option ((List ByteArray) × Unit)
abbrev T1:Type:=Int→Int→Bool→Bool→Int→List (Ty.den aD)→Int→Int→Bool→Int→List Int→List ByteArray→Rs
abbrev T0:Type:=Int→List (Ty.den aD)→Int→Int→Bool→Int→List Int→List ByteArray→Rs
def b1 (k:Nat) (L0:T0) (L1:T1):T1:=fun x0 x1 x2 x3 x4 x5 x6 x7 x8 x9 x10 x11 =>
 (bif (decide (x4<(x10.length:Int))) then
 (bif x3 then
 (L1 x0 x1 x2 true (aH (x4+1)) x5 x6 x7 x8 x9 x10 x11)
 else
 (bX x4 (x10.length:Int)
 (L1 x0 x1 x2 ((List.getD x10 (Int.toNat x4) (Ty.dflt (.int .i64)))==x1) (aH (x4+1)) x5 x6 x7 x8 x9 x10 x11)))
 else
 (bif x2 then
 (bif (!x3) then
 (bX x0 (x5.length:Int)
 (rm (Ty.bytes .str) (List.length x11+1)
 (L0 (aH (x0+1)) x5 x6 x7 x8 x9 x10 (x11++[(List.getD x5 (Int.toNat x0) (Ty.dflt aD)).1]))))
 else
 (bX x0 (x5.length:Int)
 (bif (seq (List.getD x5 (Int.toNat x0) (Ty.dflt aD)).1 (⟨#[116,101,109,112]⟩:ByteArray)) then
 (bX x0 (x5.length:Int)
 (rm (Ty.bytes .str) (List.length x11+1)
 (L0 (aH (x0+1)) x5 x6 x7 x8 x9 x10 (x11++[(List.getD x5 (Int.toNat x0) (Ty.dflt aD)).1]))))
 else
 (L0 (aH (x0+1)) x5 x6 x7 x8 x9 x10 x11))))
 else
 (bX x0 (x5.length:Int)
 (bif (seq (List.getD x5 (Int.toNat x0) (Ty.dflt aD)).1 (⟨#[116,101,109,112]⟩:ByteArray)) then
 (bX x0 (x5.length:Int)
 (rm (Ty.bytes .str) (List.length x11+1)
 (L0 (aH (x0+1)) x5 x6 x7 x8 x9 x10 (x11++[(List.getD x5 (Int.toNat x0) (Ty.dflt aD)).1]))))
 else
 (L0 (aH (x0+1)) x5 x6 x7 x8 x9 x10 x11)))))
def l1 (k:Nat) (L0:T0):Nat→T1
 | 0=>fun _ _ _ _ _ _ _ _ _ _ _ _=>none
 | n+1=>b1 k L0 (l1 k L0 n)
def b0 (k:Nat) (L1:T1) (L0:T0):T0:=fun x0 x1 x2 x3 x4 x5 x6 x7 =>
 (bif (decide (x0<(x1.length:Int))) then
 (bX x0 (x1.length:Int)
 ((gy.f k (List.getD x1 (Int.toNat x0) (Ty.dflt aD)).1).bind fun r2 =>
 (L1 x0 r2.1 r2.2.1 false 0 x1 x2 x3 x4 x5 x6 x7)))
 else
 (some (x7,())))
def l0 (k:Nat):Nat→T0
 | 0=>fun _ _ _ _ _ _ _ _=>none
 | n+1=>b0 k (l1 k (l0 k n) k) (l0 k n)
def t (k:Nat) (L0:T0) (a0:Ty.den a_) (a1:Ty.den bj):Rs :=
 ((bn.f k a0).bind fun r1 =>
 (bif (!r1.1) then
 (some ([],()))
 else
 (L0 0 a0.1 a0.2.1 a0.2.2.1 a0.2.2.2.1 a1.1 a1.2.1 [])))
def f (k:Nat):=t k (l0 k k)
end b9
namespace cv
abbrev Rs:Type:=Option ((Ty.den a_) × Int × Unit)
def t (k:Nat) (a0:Ty.den a_):Rs :=
 ((bv.f k a0).bind fun r1 =>
 ((bn.f k a0).bind fun r2 =>
 (bif (!r2.1) then
 (some (r1.1,(5,())))
 else
 (bif a0.2.2.2.1 then
 (some ((r1.1.1,(r1.1.2.1,(r1.1.2.2.1,(true,())))),(1,())))
 else
 (bif (a0.2.2.1==0) then
 (some ((r1.1.1,(r1.1.2.1,(r1.1.2.2.1,(true,())))),(1,())))
 else
 (bif (decide (a0.2.2.1 > 0)) then
 (some ((r1.1.1,(r1.1.2.1,((aH (a0.2.2.1-1)),r1.1.2.2.2))),(0,())))
 else
 (some (r1.1,(0,())))))))))
def f (k:Nat):=t k
end cv
namespace er
abbrev Rs:Type:=Option ((List (Ty.den aD)) × Unit)
def t (k:Nat) (a0:List (Ty.den aD)) (a1:Int):Rs :=
 (pr a1 (List.length a0:Int)
 (rm (Ty.bytes aD) (0+List.length (List.take (Int.toNat a1) a0))
 (pr (aH (a1+1)) (List.length a0:Int)
 (rm (Ty.bytes aD) (List.length ([]++(List.take (Int.toNat a1) a0))+List.length (List.drop (Int.toNat (aH (a1+1))) a0))
 (some ((([]++(List.take (Int.toNat a1) a0))++(List.drop (Int.toNat (aH (a1+1))) a0)),()))))))
def f (k:Nat):=t k
end er
namespace gJ
abbrev Rs:Type:=Option ((Ty.den a_) × Int × Unit)
def t (k:Nat) (a0:Ty.den a_) (a1:ByteArray):Rs :=
 ((cv.f k a0).bind fun r1 =>
 (bif (r1.2.1 != 0) then
 (some r1)
 else
 ((bD.f k a0 a1).bind fun r2 =>
 (bif (decide (r2.1<0)) then
 (some (r1.1,(3,())))
 else
 ((er.f k r1.1.1 r2.1).bind fun r3 =>
 (some ((r3.1,r1.1.2),(0,()))))))))
def f (k:Nat):=t k
end gJ
namespace aP
abbrev Rs:Type:=Option (Int × Unit)
def t (k:Nat) (a0:Int):Rs :=
 (bif (a0==0) then
 (some (0,()))
 else
 (bif (a0==1) then
 (some (1,()))
 else
 (bif (a0==2) then
 (some (2,()))
 else
 (some (3,())))))
def f (k:Nat):=t k
end aP
namespace d8
abbrev Rs:Type:=Option ((List (Ty.den aD)) × Unit)
abbrev T0:Type:=List (Ty.den aD)→Bool→Int→ByteArray→ByteArray→Int→List (Ty.den aD)→Rs
def b0 (k:Nat) (L0:T0):T0:=fun x0 x1 x2 x3 x4 x5 x6 =>
 (bif (decide (x2<(x0.length:Int))) then
 (bif (!x1) then
 (bX x2 (x0.length:Int)
 (bif (!((lZ (List.getD x0 (Int.toNat x2) (Ty.dflt aD)).1 x3)||(seq (List.getD x0 (Int.toNat x2) (Ty.dflt aD)).1 x3))) then
 (rm (Ty.bytes aD) (List.length x6+1)
 (bX x2 (x0.length:Int)
 (rm (Ty.bytes aD) (List.length (x6++[(x3,(x4,(x5,())))])+1)
 (L0 x0 true (aH (x2+1)) x3 x4 x5 ((x6++[(x3,(x4,(x5,())))])++[(List.getD x0 (Int.toNat x2) (Ty.dflt aD))])))))
 else
 (bX x2 (x0.length:Int)
 (rm (Ty.bytes aD) (List.length x6+1)
 (L0 x0 x1 (aH (x2+1)) x3 x4 x5 (x6++[(List.getD x0 (Int.toNat x2) (Ty.dflt aD))]))))))
 else
 (bX x2 (x0.length:Int)
 (rm (Ty.bytes aD) (List.length x6+1)
 (L0 x0 x1 (aH (x2+1)) x3 x4 x5 (x6++[(List.getD x0 (Int.toNat x2) (Ty.dflt aD))])))))
 else
 (bif (!x1) then
 (rm (Ty.bytes aD) (List.length x6+1)
 (some ((x6++[(x3,(x4,(x5,())))]),())))
 else
 (some (x6,()))))
def l0 (k:Nat):Nat→T0
 | 0=>fun _ _ _ _ _ _ _=>none
 | n+1=>b0 k (l0 k n)
def t (k:Nat) (L0:T0) (a0:List (Ty.den aD)) (a1:Ty.den aD):Rs :=
 (L0 a0 false 0 a1.1 a1.2.1 a1.2.2.1 [])
def f (k:Nat):=t k (l0 k k)
end d8
namespace eg
abbrev Rs:Type:=Option ((Ty.den a_) × Int × Unit)
def t (k:Nat) (a0:Ty.den a_) (a1:ByteArray):Rs :=
 ((cv.f k a0).bind fun r1 =>
 (bif (r1.2.1 != 0) then
 (some r1)
 else
 ((dt.f k a1).bind fun r2 =>
 (bif (!r2.1) then
 (some (r1.1,(5,())))
 else
 ((bD.f k a0 a1).bind fun r3 =>
 (bif (decide (r3.1≥0)) then
 (some (r1.1,(4,())))
 else
 (bif (decide ((List.length a0.1:Int)≥130)) then
 (some (r1.1,(2,())))
 else
 ((d8.f k r1.1.1 (a1,(ByteArray.empty,(0,())))).bind fun r4 =>
 (some ((r4.1,r1.1.2),(0,())))))))))))
def f (k:Nat):=t k
end eg
namespace dK
abbrev Rs:Type:=Option (Bool × Unit)
abbrev T0:Type:=Int→Int→List Int→Rs
def b0 (k:Nat) (L0:T0):T0:=fun x0 x1 x2 =>
 (bif (decide (x0<(x2.length:Int))) then
 (bX x0 (x2.length:Int)
 ((aU.f k (List.getD x2 (Int.toNat x0) (Ty.dflt (.int .i64))) 1 (aH (x1-1))).bind fun r3 =>
 (bif (!r3.1) then
 (some (false,()))
 else
 (bif (decide (x0 > 0)) then
 (bX x0 (x2.length:Int)
 (bX (aH (x0-1)) (x2.length:Int)
 (bif (decide ((List.getD x2 (Int.toNat x0) (Ty.dflt (.int .i64)))≤(List.getD x2 (Int.toNat (aH (x0-1))) (Ty.dflt (.int .i64))))) then
 (some (false,()))
 else
 (L0 (aH (x0+1)) x1 x2))))
 else
 (L0 (aH (x0+1)) x1 x2)))))
 else
 (some (true,())))
def l0 (k:Nat):Nat→T0
 | 0=>fun _ _ _=>none
 | n+1=>b0 k (l0 k n)
def t (k:Nat) (L0:T0) (a0:Ty.den bj):Rs :=
 ((aU.f k a0.1 1 100000).bind fun r1 =>
 (bif (!r1.1) then
 (some (false,()))
 else
 ((aU.f k (List.length a0.2.1:Int) 1 60).bind fun r2 =>
 (bif (!r2.1) then
 (some (false,()))
 else
 (L0 0 a0.1 a0.2.1)))))
def f (k:Nat):=t k (l0 k k)
end dK
namespace bW
abbrev Rs:Type:=Option (ByteArray × Unit)
abbrev T0:Type:=Int→List Int→Rs
def b0 (k:Nat) (L0:T0):T0:=fun x0 x1 =>
 (bif (decide (x0≥128)) then
 (rm (Ty.bytes (.int .u8)) (List.length x1+1)
 (L0 (aH (Int.tdiv x0 128)) (x1++[(IntKind.wrap .u8 (aH (128+(Int.tmod x0 128))))])))
 else
 (rm (Ty.bytes (.int .u8)) (List.length x1+1)
 (some ((bytesOf (x1++[(IntKind.wrap .u8 x0)])),()))))
def l0 (k:Nat):Nat→T0
 | 0=>fun _ _=>none
 | n+1=>b0 k (l0 k n)
def t (k:Nat) (L0:T0) (a0:Int):Rs :=
 ((aU.f k a0 0 562949953421311).bind fun r1 =>
 (bif (!r1.1) then
 (some ((⟨#[]⟩:ByteArray),()))
 else
 (L0 a0 [])))
def f (k:Nat):=t k (l0 k k)
end bW
namespace g8
abbrev Rs:Type:=Option (Int × Unit)
abbrev T1:Type:=ByteArray→Int→Int→Int→Rs
abbrev T0:Type:=ByteArray→Int→Int→Rs
def b1 (k:Nat) (L0:T0) (L1:T1):T1:=fun x0 x1 x2 x3 =>
 (bif (decide (x3<8)) then
 (bif ((Int.tmod x1 2)==1) then
 (L1 x0 (aH (((BitVec.ofInt (IntKind.bits .i64) (aH (Int.tdiv x1 2)) ^^^ BitVec.ofInt (IntKind.bits .i64) 2197175160).toNat:Int))) x2 (aH (x3+1)))
 else
 (L1 x0 (aH (Int.tdiv x1 2)) x2 (aH (x3+1))))
 else
 (L0 x0 x1 (aH (x2+1))))
def l1 (k:Nat) (L0:T0):Nat→T1
 | 0=>fun _ _ _ _=>none
 | n+1=>b1 k L0 (l1 k L0 n)
def b0 (k:Nat) (L1:T1) (L0:T0):T0:=fun x0 x1 x2 =>
 (bif (decide (x2<(ByteArray.size x0:Int))) then
 (bX x2 (ByteArray.size x0:Int)
 (L1 x0 (aH (((BitVec.ofInt (IntKind.bits .i64) x1 ^^^ BitVec.ofInt (IntKind.bits .i64) (aH (e6 x0 x2))).toNat:Int))) x2 0))
 else
 (some ((aH (4294967295-x1)),())))
def l0 (k:Nat):Nat→T0
 | 0=>fun _ _ _=>none
 | n+1=>b0 k (l1 k (l0 k n) k) (l0 k n)
def t (k:Nat) (L0:T0) (a0:ByteArray):Rs :=
 (L0 a0 4294967295 0)
def f (k:Nat):=t k (l0 k k)
end g8
namespace dM
abbrev Rs:Type:=Option (ByteArray × Unit)
abbrev T0:Type:=Int→Int→ByteArray→Int→Rs
def b0 (k:Nat) (L0:T0):T0:=fun x0 x1 x2 x3 =>
 (bif (decide (x3<x1)) then
 (kX (bytesOf [(IntKind.wrap .u8 (Int.tmod x0 256))]) x2
 (L0 (aH (Int.tdiv x0 256)) x1 ((bytesOf [(IntKind.wrap .u8 (Int.tmod x0 256))])++x2) (aH (x3+1))))
 else
 (bif (decide (x0 > 0)) then
 (some ((⟨#[]⟩:ByteArray),()))
 else
 (some (x2,()))))
def l0 (k:Nat):Nat→T0
 | 0=>fun _ _ _ _=>none
 | n+1=>b0 k (l0 k n)
def t (k:Nat) (L0:T0) (a0:Int) (a1:Int):Rs :=
 ((aU.f k a1 1 7).bind fun r1 =>
 (bif (!r1.1) then
 (some ((⟨#[]⟩:ByteArray),()))
 else
 (bif (decide (a0<0)) then
 (some ((⟨#[]⟩:ByteArray),()))
 else
 (L0 a0 a1 (⟨#[]⟩:ByteArray) 0))))
def f (k:Nat):=t k (l0 k k)
end dM
namespace eP
abbrev Rs:Type:=Option (ByteArray × Unit)
def t (k:Nat) (a0:ByteArray):Rs :=
 (bif (decide ((ByteArray.size a0:Int) > 200)) then
 (some ((⟨#[]⟩:ByteArray),()))
 else
 ((bW.f k (ByteArray.size a0:Int)).bind fun r1 =>
 (kX r1.1 a0
 ((g8.f k (r1.1++a0)).bind fun r2 =>
 ((dM.f k r2.1 4).bind fun r3 =>
 (kX r3.1 (r1.1++a0)
 (some ((r3.1++(r1.1++a0)),()))))))))
def f (k:Nat):=t k
end eP
namespace d9
abbrev Rs:Type:=Option (ByteArray × Unit)
abbrev T0:Type:=ByteArray→Int→Int→List Int→Rs
def b0 (k:Nat) (L0:T0):T0:=fun x0 x1 x2 x3 =>
 (bif (decide (x1<(x3.length:Int))) then
 (bX x1 (x3.length:Int)
 ((bW.f k (List.getD x3 (Int.toNat x1) (Ty.dflt (.int .i64)))).bind fun r4 =>
 (kX x0 r4.1
 (L0 (x0++r4.1) (aH (x1+1)) x2 x3))))
 else
 ((eP.f k x0).bind fun r5 =>
 (some r5)))
def l0 (k:Nat):Nat→T0
 | 0=>fun _ _ _ _=>none
 | n+1=>b0 k (l0 k n)
def t (k:Nat) (L0:T0) (a0:Ty.den bj):Rs :=
 ((dK.f k a0).bind fun r1 =>
 (bif (!r1.1) then
 (some ((⟨#[]⟩:ByteArray),()))
 else
 ((bW.f k a0.1).bind fun r2 =>
 ((bW.f k (List.length a0.2.1:Int)).bind fun r3 =>
 (kX r2.1 r3.1
 (L0 (r2.1++r3.1) 0 a0.1 a0.2.1))))))
def f (k:Nat):=t k (l0 k k)
end d9
namespace d7
abbrev Rs:Type:=Option ((Ty.den a_) × Int × Unit)
def t (k:Nat) (a0:Ty.den a_) (a1:ByteArray):Rs :=
 ((bD.f k a0 a1).bind fun r1 =>
 (bif (decide (r1.1≥0)) then
 ((gJ.f k a0 a1).bind fun r2 =>
 (bif (r2.2.1 != 0) then
 (some r2)
 else
 ((eg.f k r2.1 a1).bind fun r3 =>
 (some r3))))
 else
 ((eg.f k a0 a1).bind fun r4 =>
 (some r4))))
def f (k:Nat):=t k
end d7
namespace bS
abbrev Rs:Type:=Option ((Ty.den a_) × Int × Unit)
def t (k:Nat) (a0:Ty.den a_) (a1:ByteArray) (a2:ByteArray):Rs :=
 ((cv.f k a0).bind fun r1 =>
 (bif (r1.2.1 != 0) then
 (some r1)
 else
 ((bD.f k a0 a1).bind fun r2 =>
 (bif (decide (r2.1<0)) then
 (some (r1.1,(3,())))
 else
 ((dQ.f k a0).bind fun r3 =>
 (bif (decide ((ByteArray.size a2:Int) > (aH (a0.2.1-r3.1)))) then
 (some (r1.1,(2,())))
 else
 (bX r2.1 (List.length a0.1:Int)
 (kX (List.getD a0.1 (Int.toNat r2.1) (Ty.dflt aD)).2.1 a2
 (bX r2.1 (List.length r1.1.1:Int)
 (let l4:=(List.set r1.1.1 (Int.toNat r2.1) ((List.getD r1.1.1 (Int.toNat r2.1) (Ty.dflt aD)).1,(((List.getD a0.1 (Int.toNat r2.1) (Ty.dflt aD)).2.1++a2),(List.getD r1.1.1 (Int.toNat r2.1) (Ty.dflt aD)).2.2)));
 (some ((l4,r1.1.2),(0,())))))))))))))
def f (k:Nat):=t k
end bS
namespace bx
abbrev Rs:Type:=Option ((Ty.den a_) × Int × Unit)
def t (k:Nat) (a0:Ty.den a_) (a1:ByteArray):Rs :=
 ((cv.f k a0).bind fun r1 =>
 (bif (r1.2.1 != 0) then
 (some r1)
 else
 ((bD.f k a0 a1).bind fun r2 =>
 (bif (decide (r2.1<0)) then
 (some (r1.1,(3,())))
 else
 (bX r2.1 (List.length a0.1:Int)
 (bX r2.1 (List.length r1.1.1:Int)
 (let l3:=(List.set r1.1.1 (Int.toNat r2.1) ((List.getD r1.1.1 (Int.toNat r2.1) (Ty.dflt aD)).1,((List.getD r1.1.1 (Int.toNat r2.1) (Ty.dflt aD)).2.1,((ByteArray.size (List.getD a0.1 (Int.toNat r2.1) (Ty.dflt aD)).2.1:Int),(List.getD r1.1.1 (Int.toNat r2.1) (Ty.dflt aD)).2.2.2))));
 (some ((l3,r1.1.2),(0,()))))))))))
def f (k:Nat):=t k
end bx
namespace gg
abbrev Rs:Type:=Option ((Ty.den a_) × Int × Unit)
def t (k:Nat) (a0:Ty.den a_) (a1:ByteArray) (a2:ByteArray):Rs :=
 ((d7.f k a0 a1).bind fun r1 =>
 (bif (r1.2.1==0) then
 ((bS.f k r1.1 a1 a2).bind fun r2 =>
 (bif (r2.2.1==0) then
 ((bx.f k r2.1 a1).bind fun r3 =>
 (some r3))
 else
 (some r2)))
 else
 (bif (r1.2.1==0) then
 ((bx.f k r1.1 a1).bind fun r4 =>
 (some r4))
 else
 (some r1))))
def f (k:Nat):=t k
end gg
namespace fL
abbrev Rs:Type:=Option ((Ty.den a_) × Int × Unit)
def t (k:Nat) (a0:Ty.den a_) (a1:ByteArray) (a2:ByteArray):Rs :=
 ((cv.f k a0).bind fun r1 =>
 (bif (r1.2.1 != 0) then
 (some r1)
 else
 ((dt.f k a2).bind fun r2 =>
 (bif (!r2.1) then
 (some (r1.1,(5,())))
 else
 ((bD.f k a0 a1).bind fun r3 =>
 (bif (decide (r3.1<0)) then
 (some (r1.1,(3,())))
 else
 (bif (seq a1 a2) then
 (some (r1.1,(0,())))
 else
 (bX r3.1 (List.length a0.1:Int)
 ((er.f k r1.1.1 r3.1).bind fun r4 =>
 ((bD.f k (r4.1,r1.1.2) a2).bind fun r5 =>
 (bif (decide (r5.1≥0)) then
 ((er.f k r4.1 r5.1).bind fun r6 =>
 ((d8.f k r6.1 (a2,(List.getD a0.1 (Int.toNat r3.1) (Ty.dflt aD)).2)).bind fun r7 =>
 (some ((r7.1,r1.1.2),(0,())))))
 else
 ((d8.f k r4.1 (a2,(List.getD a0.1 (Int.toNat r3.1) (Ty.dflt aD)).2)).bind fun r8 =>
 (some ((r8.1,r1.1.2),(0,())))))))))))))))
def f (k:Nat):=t k
end fL
namespace dT
abbrev Rs:Type:=Option ((Ty.den a_) × Int × Unit)
def t (k:Nat) (a0:Ty.den a_) (a1:Ty.den bj):Rs :=
 ((bn.f k a0).bind fun r1 =>
 (bif (!r1.1) then
 ((bv.f k a0).bind fun r2 =>
 (some (r2.1,(4,()))))
 else
 ((dK.f k a1).bind fun r3 =>
 (bif (!r3.1) then
 ((bv.f k a0).bind fun r4 =>
 (some (r4.1,(4,()))))
 else
 ((d9.f k a1).bind fun r5 =>
 ((gg.f k a0 (⟨#[116,101,109,112]⟩:ByteArray) r5.1).bind fun r6 =>
 (bif (r6.2.1==0) then
 ((fL.f k r6.1 (⟨#[116,101,109,112]⟩:ByteArray) (⟨#[108,105,118,101]⟩:ByteArray)).bind fun r7 =>
 ((aP.f k r7.2.1).bind fun r8 =>
 (some (r7.1,r8))))
 else
 ((aP.f k r6.2.1).bind fun r9 =>
 (some (r6.1,r9))))))))))
def f (k:Nat):=t k
end dT
namespace aa
abbrev Rs:Type:=Option (Int × Int × Unit)
abbrev T1:Type:=ByteArray→Int→Int→Int→Rs
abbrev T0:Type:=ByteArray→Int→Rs
def b1 (k:Nat) (L0:T0) (L1:T1):T1:=fun x0 x1 x2 x3 =>
 (bif (decide (x3≥0)) then
 (bX x3 (ByteArray.size x0:Int)
 (L1 x0 x1 (aH ((aH (x2*128))+(Int.tmod (aH (e6 x0 x3)) 128))) (aH (x3-1))))
 else
 ((bW.f k x2).bind fun r1 =>
 (pr x1 (ByteArray.size x0:Int)
 (bif (seq r1.1 (ByteArray.extract x0 0 (Int.toNat x1))) then
 (some (x2,(x1,())))
 else
 (L0 x0 (aH (x1+1)))))))
def l1 (k:Nat) (L0:T0):Nat→T1
 | 0=>fun _ _ _ _=>none
 | n+1=>b1 k L0 (l1 k L0 n)
def b0 (k:Nat) (L1:T1) (L0:T0):T0:=fun x0 x1 =>
 (bif (decide (x1≤7)) then
 (bif (decide (x1≤(ByteArray.size x0:Int))) then
 (L1 x0 x1 0 (aH (x1-1)))
 else
 (some (0,(0,()))))
 else
 (some (0,(0,()))))
def l0 (k:Nat):Nat→T0
 | 0=>fun _ _=>none
 | n+1=>b0 k (l1 k (l0 k n) k) (l0 k n)
def t (k:Nat) (L0:T0) (a0:ByteArray):Rs :=
 (L0 a0 1)
def f (k:Nat):=t k (l0 k k)
end aa
namespace dU
abbrev Rs:Type:=Option (ByteArray × Int × Unit)
def t (k:Nat) (a0:ByteArray):Rs :=
 (bif (decide ((ByteArray.size a0:Int)<5)) then
 (some ((⟨#[]⟩:ByteArray),(0,())))
 else
 (pr 4 (ByteArray.size a0:Int)
 ((aa.f k (ByteArray.extract a0 4 (ByteArray.size a0))).bind fun r1 =>
 (bif (r1.2.1==0) then
 (some ((⟨#[]⟩:ByteArray),(0,())))
 else
 (bif (decide (r1.1 > 200)) then
 (some ((⟨#[]⟩:ByteArray),(0,())))
 else
 (bif (decide (r1.1 > (aH ((aH ((ByteArray.size a0:Int)-4))-r1.2.1)))) then
 (some ((⟨#[]⟩:ByteArray),(0,())))
 else
 (D7 (aH (4+r1.2.1)) (aH ((aH (4+r1.2.1))+r1.1)) (ByteArray.size a0:Int)
 (pr (aH ((aH (4+r1.2.1))+r1.1)) (ByteArray.size a0:Int)
 ((eP.f k (ByteArray.extract a0 (Int.toNat (aH (4+r1.2.1))) (Int.toNat (aH ((aH (4+r1.2.1))+r1.1))))).bind fun r2 =>
 (bif (!(seq (ByteArray.extract a0 0 (Int.toNat (aH ((aH (4+r1.2.1))+r1.1)))) r2.1)) then
 (some ((⟨#[]⟩:ByteArray),(0,())))
 else
 (some ((ByteArray.extract a0 (Int.toNat (aH (4+r1.2.1))) (Int.toNat (aH ((aH (4+r1.2.1))+r1.1)))),((aH ((aH (4+r1.2.1))+r1.1)),())))))))))))))
def f (k:Nat):=t k
end dU
namespace bH
abbrev Rs:Type:=Option ((Ty.den bj) × Bool × Unit)
abbrev T0:Type:=ByteArray→ByteArray→Int→Int→Int→List Int→Int→List Int→Int→Rs
def b0 (k:Nat) (L0:T0):T0:=fun x0 x1 x2 x3 x4 x5 x6 x7 x8 =>
 (bif (decide (x4<x2)) then
 (bif (decide (x4<60)) then
 (pr x3 (ByteArray.size x1:Int)
 ((aa.f k (ByteArray.extract x1 (Int.toNat x3) (ByteArray.size x1))).bind fun r4 =>
 (rm (Ty.bytes (.int .i64)) (List.length x7+1)
 (L0 x0 x1 x2 (aH (x3+r4.2.1)) (aH (x4+1)) x5 x6 (x7++[r4.1]) x8))))
 else
 ((d9.f k (x8,(x7,()))).bind fun r5 =>
 (bif (!(seq r5.1 x0)) then
 (some ((0,([],())),(false,())))
 else
 (some ((x8,(x7,())),(true,()))))))
 else
 ((d9.f k (x8,(x7,()))).bind fun r6 =>
 (bif (!(seq r6.1 x0)) then
 (some ((0,([],())),(false,())))
 else
 (some ((x8,(x7,())),(true,()))))))
def l0 (k:Nat):Nat→T0
 | 0=>fun _ _ _ _ _ _ _ _ _=>none
 | n+1=>b0 k (l0 k n)
def t (k:Nat) (L0:T0) (a0:ByteArray):Rs :=
 ((dU.f k a0).bind fun r1 =>
 ((aa.f k r1.1).bind fun r2 =>
 (bif (r1.2.1 != (ByteArray.size a0:Int)) then
 (some ((0,([],())),(false,())))
 else
 (bif (r1.2.1==0) then
 (some ((0,([],())),(false,())))
 else
 (bif (r2.2.1==0) then
 (some ((0,([],())),(false,())))
 else
 (pr r2.2.1 (ByteArray.size r1.1:Int)
 ((aa.f k (ByteArray.extract r1.1 (Int.toNat r2.2.1) (ByteArray.size r1.1))).bind fun r3 =>
 (L0 a0 r1.1 r3.1 (aH (r2.2.1+r3.2.1)) 0 [] 0 [] r2.1))))))))
def f (k:Nat):=t k (l0 k k)
end bH
namespace cJ
abbrev Rs:Type:=Option (ByteArray × ByteArray × Bool × Unit)
def t (k:Nat) (a0:ByteArray):Rs :=
 ((aa.f k a0).bind fun r1 =>
 (bif (r1.2.1==0) then
 (some ((⟨#[]⟩:ByteArray),((⟨#[]⟩:ByteArray),(false,()))))
 else
 (bif (decide (r1.1 > (aH ((ByteArray.size a0:Int)-r1.2.1)))) then
 (some ((⟨#[]⟩:ByteArray),((⟨#[]⟩:ByteArray),(false,()))))
 else
 (D7 r1.2.1 (aH (r1.2.1+r1.1)) (ByteArray.size a0:Int)
 (pr (aH (r1.2.1+r1.1)) (ByteArray.size a0:Int)
 (some ((ByteArray.extract a0 (Int.toNat r1.2.1) (Int.toNat (aH (r1.2.1+r1.1)))),((ByteArray.extract a0 (Int.toNat (aH (r1.2.1+r1.1))) (ByteArray.size a0)),(true,())))))))))
def f (k:Nat):=t k
end cJ
namespace e7
abbrev Rs:Type:=Option (Bool × Unit)
def t (k:Nat) (a0:ByteArray):Rs :=
 ((aU.f k (ByteArray.size a0:Int) 1 8).bind fun r1 =>
 (some r1))
def f (k:Nat):=t k
end e7
namespace js
abbrev Rs:Type:=Option (Bool × Unit)
def t (k:Nat) (a0:Ty.den am):Rs :=
 ((aU.f k a0.2.1 0 1000000).bind fun r1 =>
 (bif (!r1.1) then
 (some (false,()))
 else
 (bif (a0.2.1==0) then
 (bif (a0.1 != 5) then
 (some (false,()))
 else
 (bif (a0.1==1) then
 (bif (a0.1==1) then
 ((e7.f k a0.2.2.1).bind fun r2 =>
 (bif r2.1 then
 (bif (decide ((ByteArray.size a0.2.2.2.1:Int)≤24)) then
 (bif (a0.2.2.2.2.1==0) then
 (some ((a0.2.2.2.2.2.1==0),()))
 else
 (some (false,())))
 else
 (some (false,())))
 else
 (some (false,()))))
 else
 (bif (a0.1==2) then
 ((e7.f k a0.2.2.1).bind fun r3 =>
 (bif r3.1 then
 (bif (seq a0.2.2.2.1 (⟨#[]⟩:ByteArray)) then
 (bif (a0.2.2.2.2.1==0) then
 (some ((a0.2.2.2.2.2.1==0),()))
 else
 (some (false,())))
 else
 (some (false,())))
 else
 (some (false,()))))
 else
 (bif (a0.1==3) then
 (bif (seq a0.2.2.1 (⟨#[]⟩:ByteArray)) then
 (bif (seq a0.2.2.2.1 (⟨#[]⟩:ByteArray)) then
 ((aU.f k a0.2.2.2.2.1 0 8).bind fun r4 =>
 (bif r4.1 then
 ((aU.f k a0.2.2.2.2.2.1 0 4294967295).bind fun r5 =>
 (some r5))
 else
 (some (false,()))))
 else
 (some (false,())))
 else
 (some (false,())))
 else
 (bif (a0.1==5) then
 (bif (seq a0.2.2.1 (⟨#[]⟩:ByteArray)) then
 (bif (seq a0.2.2.2.1 (⟨#[]⟩:ByteArray)) then
 ((aU.f k a0.2.2.2.2.1 0 20).bind fun r6 =>
 (bif r6.1 then
 ((aU.f k a0.2.2.2.2.2.1 0 4294967295).bind fun r7 =>
 (some r7))
 else
 (some (false,()))))
 else
 (some (false,())))
 else
 (some (false,())))
 else
 (some (false,()))))))
 else
 (bif (a0.1==4) then
 ((e7.f k a0.2.2.1).bind fun r8 =>
 (bif r8.1 then
 (bif (decide ((ByteArray.size a0.2.2.2.1:Int)≤24)) then
 (bif (a0.2.2.2.2.1==0) then
 (some ((a0.2.2.2.2.2.1==0),()))
 else
 (some (false,())))
 else
 (some (false,())))
 else
 (some (false,()))))
 else
 (bif (a0.1==2) then
 ((e7.f k a0.2.2.1).bind fun r9 =>
 (bif r9.1 then
 (bif (seq a0.2.2.2.1 (⟨#[]⟩:ByteArray)) then
 (bif (a0.2.2.2.2.1==0) then
 (some ((a0.2.2.2.2.2.1==0),()))
 else
 (some (false,())))
 else
 (some (false,())))
 else
 (some (false,()))))
 else
 (bif (a0.1==3) then
 (bif (seq a0.2.2.1 (⟨#[]⟩:ByteArray)) then
 (bif (seq a0.2.2.2.1 (⟨#[]⟩:ByteArray)) then
 ((aU.f k a0.2.2.2.2.1 0 8).bind fun r10 =>
 (bif r10.1 then
 ((aU.f k a0.2.2.2.2.2.1 0 4294967295).bind fun r11 =>
 (some r11))
 else
 (some (false,()))))
 else
 (some (false,())))
 else
 (some (false,())))
 else
 (bif (a0.1==5) then
 (bif (seq a0.2.2.1 (⟨#[]⟩:ByteArray)) then
 (bif (seq a0.2.2.2.1 (⟨#[]⟩:ByteArray)) then
 ((aU.f k a0.2.2.2.2.1 0 20).bind fun r12 =>
 (bif r12.1 then
 ((aU.f k a0.2.2.2.2.2.1 0 4294967295).bind fun r13 =>
 (some r13))
 else
 (some (false,()))))
 else
 (some (false,())))
 else
 (some (false,())))
 else
 (some (false,()))))))))
 else
 (bif (a0.1==1) then
 (bif (a0.1==1) then
 ((e7.f k a0.2.2.1).bind fun r14 =>
 (bif r14.1 then
 (bif (decide ((ByteArray.size a0.2.2.2.1:Int)≤24)) then
 (bif (a0.2.2.2.2.1==0) then
 (some ((a0.2.2.2.2.2.1==0),()))
 else
 (some (false,())))
 else
 (some (false,())))
 else
 (some (false,()))))
 else
 (bif (a0.1==2) then
 ((e7.f k a0.2.2.1).bind fun r15 =>
 (bif r15.1 then
 (bif (seq a0.2.2.2.1 (⟨#[]⟩:ByteArray)) then
 (bif (a0.2.2.2.2.1==0) then
 (some ((a0.2.2.2.2.2.1==0),()))
 else
 (some (false,())))
 else
 (some (false,())))
 else
 (some (false,()))))
 else
 (bif (a0.1==3) then
 (bif (seq a0.2.2.1 (⟨#[]⟩:ByteArray)) then
 (bif (seq a0.2.2.2.1 (⟨#[]⟩:ByteArray)) then
 ((aU.f k a0.2.2.2.2.1 0 8).bind fun r16 =>
 (bif r16.1 then
 ((aU.f k a0.2.2.2.2.2.1 0 4294967295).bind fun r17 =>
 (some r17))
 else
 (some (false,()))))
 else
 (some (false,())))
 else
 (some (false,())))
 else
 (bif (a0.1==5) then
 (bif (seq a0.2.2.1 (⟨#[]⟩:ByteArray)) then
 (bif (seq a0.2.2.2.1 (⟨#[]⟩:ByteArray)) then
 ((aU.f k a0.2.2.2.2.1 0 20).bind fun r18 =>
 (bif r18.1 then
 ((aU.f k a0.2.2.2.2.2.1 0 4294967295).bind fun r19 =>
 (some r19))
 else
 (some (false,()))))
 else
 (some (false,())))
 else
 (some (false,())))
 else
 (some (false,()))))))
 else
 (bif (a0.1==4) then
 ((e7.f k a0.2.2.1).bind fun r20 =>
 (bif r20.1 then
 (bif (decide ((ByteArray.size a0.2.2.2.1:Int)≤24)) then
 (bif (a0.2.2.2.2.1==0) then
 (some ((a0.2.2.2.2.2.1==0),()))
 else
 (some (false,())))
 else
 (some (false,())))
 else
 (some (false,()))))
 else
 (bif (a0.1==2) then
 ((e7.f k a0.2.2.1).bind fun r21 =>
 (bif r21.1 then
 (bif (seq a0.2.2.2.1 (⟨#[]⟩:ByteArray)) then
 (bif (a0.2.2.2.2.1==0) then
 (some ((a0.2.2.2.2.2.1==0),()))
 else
 (some (false,())))
 else
 (some (false,())))
 else
 (some (false,()))))
 else
 (bif (a0.1==3) then
 (bif (seq a0.2.2.1 (⟨#[]⟩:ByteArray)) then
 (bif (seq a0.2.2.2.1 (⟨#[]⟩:ByteArray)) then
 ((aU.f k a0.2.2.2.2.1 0 8).bind fun r22 =>
 (bif r22.1 then
 ((aU.f k a0.2.2.2.2.2.1 0 4294967295).bind fun r23 =>
 (some r23))
 else
 (some (false,()))))
 else
 (some (false,())))
 else
 (some (false,())))
 else
 (bif (a0.1==5) then
 (bif (seq a0.2.2.1 (⟨#[]⟩:ByteArray)) then
 (bif (seq a0.2.2.2.1 (⟨#[]⟩:ByteArray)) then
 ((aU.f k a0.2.2.2.2.1 0 20).bind fun r24 =>
 (bif r24.1 then
 ((aU.f k a0.2.2.2.2.2.1 0 4294967295).bind fun r25 =>
 (some r25))
 else
 (some (false,()))))
 else
 (some (false,())))
 else
 (some (false,())))
 else
 (some (false,()))))))))))
def f (k:Nat):=t k
end js
namespace bd
abbrev Rs:Type:=Option (ByteArray × Unit)
def t (k:Nat) (a0:Ty.den am):Rs :=
 ((js.f k a0).bind fun r1 =>
 (bif (!r1.1) then
 (some ((⟨#[]⟩:ByteArray),()))
 else
 ((bW.f k a0.1).bind fun r2 =>
 ((bW.f k a0.2.1).bind fun r3 =>
 (kX r2.1 r3.1
 (bif (a0.1==1) then
 (bif (a0.1==1) then
 ((bW.f k (ByteArray.size a0.2.2.1:Int)).bind fun r4 =>
 (kX (r2.1++r3.1) r4.1
 (kX ((r2.1++r3.1)++r4.1) a0.2.2.1
 ((bW.f k (ByteArray.size a0.2.2.2.1:Int)).bind fun r5 =>
 (kX (((r2.1++r3.1)++r4.1)++a0.2.2.1) r5.1
 (kX ((((r2.1++r3.1)++r4.1)++a0.2.2.1)++r5.1) a0.2.2.2.1
 (some ((((((r2.1++r3.1)++r4.1)++a0.2.2.1)++r5.1)++a0.2.2.2.1),()))))))))
 else
 (bif (a0.1==2) then
 ((bW.f k (ByteArray.size a0.2.2.1:Int)).bind fun r6 =>
 (kX (r2.1++r3.1) r6.1
 (kX ((r2.1++r3.1)++r6.1) a0.2.2.1
 (some ((((r2.1++r3.1)++r6.1)++a0.2.2.1),())))))
 else
 ((bW.f k a0.2.2.2.2.1).bind fun r7 =>
 (kX (r2.1++r3.1) r7.1
 ((dM.f k a0.2.2.2.2.2.1 4).bind fun r8 =>
 (kX ((r2.1++r3.1)++r7.1) r8.1
 (some ((((r2.1++r3.1)++r7.1)++r8.1),()))))))))
 else
 (bif (a0.1==4) then
 ((bW.f k (ByteArray.size a0.2.2.1:Int)).bind fun r9 =>
 (kX (r2.1++r3.1) r9.1
 (kX ((r2.1++r3.1)++r9.1) a0.2.2.1
 ((bW.f k (ByteArray.size a0.2.2.2.1:Int)).bind fun r10 =>
 (kX (((r2.1++r3.1)++r9.1)++a0.2.2.1) r10.1
 (kX ((((r2.1++r3.1)++r9.1)++a0.2.2.1)++r10.1) a0.2.2.2.1
 (some ((((((r2.1++r3.1)++r9.1)++a0.2.2.1)++r10.1)++a0.2.2.2.1),()))))))))
 else
 (bif (a0.1==2) then
 ((bW.f k (ByteArray.size a0.2.2.1:Int)).bind fun r11 =>
 (kX (r2.1++r3.1) r11.1
 (kX ((r2.1++r3.1)++r11.1) a0.2.2.1
 (some ((((r2.1++r3.1)++r11.1)++a0.2.2.1),())))))
 else
 ((bW.f k a0.2.2.2.2.1).bind fun r12 =>
 (kX (r2.1++r3.1) r12.1
 ((dM.f k a0.2.2.2.2.2.1 4).bind fun r13 =>
 (kX ((r2.1++r3.1)++r12.1) r13.1
 (some ((((r2.1++r3.1)++r12.1)++r13.1),()))))))))))))))
def f (k:Nat):=t k
end bd
namespace bP
abbrev Rs:Type:=Option (Int × Bool × Unit)
abbrev T0:Type:=ByteArray→Int→Int→Int→Rs
def b0 (k:Nat) (L0:T0):T0:=fun x0 x1 x2 x3 =>
 (bif (decide (x3<x1)) then
 (bX x3 (ByteArray.size x0:Int)
 (L0 x0 x1 (aH ((aH (x2*256))+(aH (e6 x0 x3)))) (aH (x3+1))))
 else
 (some (x2,(true,()))))
def l0 (k:Nat):Nat→T0
 | 0=>fun _ _ _ _=>none
 | n+1=>b0 k (l0 k n)
def t (k:Nat) (L0:T0) (a0:ByteArray) (a1:Int):Rs :=
 ((aU.f k a1 1 7).bind fun r1 =>
 (bif (!r1.1) then
 (some (0,(false,())))
 else
 (bif (decide ((ByteArray.size a0:Int)<a1)) then
 (some (0,(false,())))
 else
 (L0 a0 a1 0 0))))
def f (k:Nat):=t k (l0 k k)
end bP
namespace e9
abbrev Rs:Type:=Option ((Ty.den am) × Bool × Unit)
def t (k:Nat) (a0:ByteArray):Rs :=
 ((aa.f k a0).bind fun r1 =>
 (pr r1.2.1 (ByteArray.size a0:Int)
 ((aa.f k (ByteArray.extract a0 (Int.toNat r1.2.1) (ByteArray.size a0))).bind fun r2 =>
 (bif (r1.2.1==0) then
 (some ((0,(0,(ByteArray.empty,(ByteArray.empty,(0,(0,())))))),(false,())))
 else
 (bif (r2.2.1==0) then
 (some ((0,(0,(ByteArray.empty,(ByteArray.empty,(0,(0,())))))),(false,())))
 else
 (pr (aH (r1.2.1+r2.2.1)) (ByteArray.size a0:Int)
 (bif (r1.1==1) then
 (bif (r1.1==1) then
 ((cJ.f k (ByteArray.extract a0 (Int.toNat (aH (r1.2.1+r2.2.1))) (ByteArray.size a0))).bind fun r3 =>
 ((cJ.f k r3.2.1).bind fun r4 =>
 ((bd.f k (r1.1,(r2.1,(r3.1,(r4.1,(0,(0,()))))))).bind fun r5 =>
 (bif (!(seq r5.1 a0)) then
 (some ((0,(0,(ByteArray.empty,(ByteArray.empty,(0,(0,())))))),(false,())))
 else
 (bif (seq a0 (⟨#[]⟩:ByteArray)) then
 (some ((0,(0,(ByteArray.empty,(ByteArray.empty,(0,(0,())))))),(false,())))
 else
 (some ((r1.1,(r2.1,(r3.1,(r4.1,(0,(0,())))))),(true,()))))))))
 else
 (bif (r1.1==2) then
 ((cJ.f k (ByteArray.extract a0 (Int.toNat (aH (r1.2.1+r2.2.1))) (ByteArray.size a0))).bind fun r6 =>
 ((bd.f k (r1.1,(r2.1,(r6.1,(ByteArray.empty,(0,(0,()))))))).bind fun r7 =>
 (bif (!(seq r7.1 a0)) then
 (some ((0,(0,(ByteArray.empty,(ByteArray.empty,(0,(0,())))))),(false,())))
 else
 (bif (seq a0 (⟨#[]⟩:ByteArray)) then
 (some ((0,(0,(ByteArray.empty,(ByteArray.empty,(0,(0,())))))),(false,())))
 else
 (some ((r1.1,(r2.1,(r6.1,(ByteArray.empty,(0,(0,())))))),(true,())))))))
 else
 ((aa.f k (ByteArray.extract a0 (Int.toNat (aH (r1.2.1+r2.2.1))) (ByteArray.size a0))).bind fun r8 =>
 (pr r8.2.1 (ByteArray.size (ByteArray.extract a0 (Int.toNat (aH (r1.2.1+r2.2.1))) (ByteArray.size a0)):Int)
 ((bP.f k (ByteArray.extract (ByteArray.extract a0 (Int.toNat (aH (r1.2.1+r2.2.1))) (ByteArray.size a0)) (Int.toNat r8.2.1) (ByteArray.size (ByteArray.extract a0 (Int.toNat (aH (r1.2.1+r2.2.1))) (ByteArray.size a0)))) 4).bind fun r9 =>
 ((bd.f k (r1.1,(r2.1,(ByteArray.empty,(ByteArray.empty,(r8.1,(r9.1,()))))))).bind fun r10 =>
 (bif (!(seq r10.1 a0)) then
 (some ((0,(0,(ByteArray.empty,(ByteArray.empty,(0,(0,())))))),(false,())))
 else
 (bif (seq a0 (⟨#[]⟩:ByteArray)) then
 (some ((0,(0,(ByteArray.empty,(ByteArray.empty,(0,(0,())))))),(false,())))
 else
 (some ((r1.1,(r2.1,(ByteArray.empty,(ByteArray.empty,(r8.1,(r9.1,())))))),(true,())))))))))))
 else
 (bif (r1.1==4) then
 ((cJ.f k (ByteArray.extract a0 (Int.toNat (aH (r1.2.1+r2.2.1))) (ByteArray.size a0))).bind fun r11 =>
 ((cJ.f k r11.2.1).bind fun r12 =>
 ((bd.f k (r1.1,(r2.1,(r11.1,(r12.1,(0,(0,()))))))).bind fun r13 =>
 (bif (!(seq r13.1 a0)) then
 (some ((0,(0,(ByteArray.empty,(ByteArray.empty,(0,(0,())))))),(false,())))
 else
 (bif (seq a0 (⟨#[]⟩:ByteArray)) then
 (some ((0,(0,(ByteArray.empty,(ByteArray.empty,(0,(0,())))))),(false,())))
 else
 (some ((r1.1,(r2.1,(r11.1,(r12.1,(0,(0,())))))),(true,()))))))))
 else
 (bif (r1.1==2) then
 ((cJ.f k (ByteArray.extract a0 (Int.toNat (aH (r1.2.1+r2.2.1))) (ByteArray.size a0))).bind fun r14 =>
 ((bd.f k (r1.1,(r2.1,(r14.1,(ByteArray.empty,(0,(0,()))))))).bind fun r15 =>
 (bif (!(seq r15.1 a0)) then
 (some ((0,(0,(ByteArray.empty,(ByteArray.empty,(0,(0,())))))),(false,())))
 else
 (bif (seq a0 (⟨#[]⟩:ByteArray)) then
 (some ((0,(0,(ByteArray.empty,(ByteArray.empty,(0,(0,())))))),(false,())))
 else
 (some ((r1.1,(r2.1,(r14.1,(ByteArray.empty,(0,(0,())))))),(true,())))))))
 else
 ((aa.f k (ByteArray.extract a0 (Int.toNat (aH (r1.2.1+r2.2.1))) (ByteArray.size a0))).bind fun r16 =>
 (pr r16.2.1 (ByteArray.size (ByteArray.extract a0 (Int.toNat (aH (r1.2.1+r2.2.1))) (ByteArray.size a0)):Int)
 ((bP.f k (ByteArray.extract (ByteArray.extract a0 (Int.toNat (aH (r1.2.1+r2.2.1))) (ByteArray.size a0)) (Int.toNat r16.2.1) (ByteArray.size (ByteArray.extract a0 (Int.toNat (aH (r1.2.1+r2.2.1))) (ByteArray.size a0)))) 4).bind fun r17 =>
 ((bd.f k (r1.1,(r2.1,(ByteArray.empty,(ByteArray.empty,(r16.1,(r17.1,()))))))).bind fun r18 =>
 (bif (!(seq r18.1 a0)) then
 (some ((0,(0,(ByteArray.empty,(ByteArray.empty,(0,(0,())))))),(false,())))
 else
 (bif (seq a0 (⟨#[]⟩:ByteArray)) then
 (some ((0,(0,(ByteArray.empty,(ByteArray.empty,(0,(0,())))))),(false,())))
 else
 (some ((r1.1,(r2.1,(ByteArray.empty,(ByteArray.empty,(r16.1,(r17.1,())))))),(true,()))))))))))))))))))
def f (k:Nat):=t k
end e9
namespace bO
abbrev Rs:Type:=Option ((List (Ty.den dD)) × Int × Unit)
abbrev T0:Type:=ByteArray→Int→List (Ty.den dD)→Rs
def b0 (k:Nat) (L0:T0):T0:=fun x0 x1 x2 =>
 (bif (decide (x1<(ByteArray.size x0:Int))) then
 (pr x1 (ByteArray.size x0:Int)
 ((dU.f k (ByteArray.extract x0 (Int.toNat x1) (ByteArray.size x0))).bind fun r1 =>
 ((e9.f k r1.1).bind fun r2 =>
 (bif (r1.2.1==0) then
 (some (x2,(x1,())))
 else
 (bif (!r2.2.1) then
 (some (x2,(x1,())))
 else
 (rm (Ty.bytes dD) (List.length x2+1)
 (L0 x0 (aH (x1+r1.2.1)) (x2++[(x1,(r1.2.1,(r2.1,())))]))))))))
 else
 (some (x2,(x1,()))))
def l0 (k:Nat):Nat→T0
 | 0=>fun _ _ _=>none
 | n+1=>b0 k (l0 k n)
def t (k:Nat) (L0:T0) (a0:ByteArray):Rs :=
 (L0 a0 0 [])
def f (k:Nat):=t k (l0 k k)
end bO
namespace iF
abbrev Rs:Type:=Option ((Ty.den a_) × Int × Unit)
def t (k:Nat) (a0:Ty.den a_) (a1:ByteArray) (a2:Int):Rs :=
 ((cv.f k a0).bind fun r1 =>
 (bif (r1.2.1 != 0) then
 (some r1)
 else
 ((bD.f k a0 a1).bind fun r2 =>
 (bif (decide (r2.1<0)) then
 (some (r1.1,(3,())))
 else
 (bX r2.1 (List.length a0.1:Int)
 ((aU.f k a2 0 (ByteArray.size (List.getD a0.1 (Int.toNat r2.1) (Ty.dflt aD)).2.1:Int)).bind fun r3 =>
 (bif (!r3.1) then
 (some (r1.1,(5,())))
 else
 (bX r2.1 (List.length a0.1:Int)
 (pr a2 (ByteArray.size (List.getD a0.1 (Int.toNat r2.1) (Ty.dflt aD)).2.1:Int)
 (bX r2.1 (List.length r1.1.1:Int)
 (let l4:=(List.set r1.1.1 (Int.toNat r2.1) ((List.getD r1.1.1 (Int.toNat r2.1) (Ty.dflt aD)).1,((ByteArray.extract (List.getD a0.1 (Int.toNat r2.1) (Ty.dflt aD)).2.1 0 (Int.toNat a2)),(List.getD r1.1.1 (Int.toNat r2.1) (Ty.dflt aD)).2.2)));
 (bX r2.1 (List.length a0.1:Int)
 (bX r2.1 (List.length l4:Int)
 (let l5:=(List.set l4 (Int.toNat r2.1) ((List.getD l4 (Int.toNat r2.1) (Ty.dflt aD)).1,((List.getD l4 (Int.toNat r2.1) (Ty.dflt aD)).2.1,((if a2<(List.getD a0.1 (Int.toNat r2.1) (Ty.dflt aD)).2.2.1 then a2 else (List.getD a0.1 (Int.toNat r2.1) (Ty.dflt aD)).2.2.1),(List.getD l4 (Int.toNat r2.1) (Ty.dflt aD)).2.2.2))));
 (some ((l5,r1.1.2),(0,())))))))))))))))))
def f (k:Nat):=t k
end iF
namespace bY
abbrev Rs:Type:=Option ((List Int) × Int × Unit)
abbrev T0:Type:=ByteArray→Int→Int→Int→List Int→Rs
def b0 (k:Nat) (L0:T0):T0:=fun x0 x1 x2 x3 x4 =>
 (bif (decide (x3<x2)) then
 (pr x1 (ByteArray.size x0:Int)
 ((aa.f k (ByteArray.extract x0 (Int.toNat x1) (ByteArray.size x0))).bind fun r1 =>
 (bif (r1.2.1==0) then
 (KA (Ty.bytes (.int .i64)) x2
 (some ((List.replicate (Int.toNat x2) (Ty.dflt (.int .i64))),((-1),()))))
 else
 (rm (Ty.bytes (.int .i64)) (List.length x4+1)
 (L0 x0 (aH (x1+r1.2.1)) x2 (aH (x3+1)) (x4++[r1.1]))))))
 else
 (some (x4,(x1,()))))
def l0 (k:Nat):Nat→T0
 | 0=>fun _ _ _ _ _=>none
 | n+1=>b0 k (l0 k n)
def t (k:Nat) (L0:T0) (a0:ByteArray) (a1:Int) (a2:Int):Rs :=
 (L0 a0 a1 a2 0 [])
def f (k:Nat):=t k (l0 k k)
end bY
namespace ez
abbrev Rs:Type:=Option (Bool × Unit)
abbrev T0:Type:=List (Ty.den aA)→Int→Rs
def b0 (k:Nat) (L0:T0):T0:=fun x0 x1 =>
 (bif (decide (x1<(x0.length:Int))) then
 (bX x1 (x0.length:Int)
 ((e7.f k (List.getD x0 (Int.toNat x1) (Ty.dflt aA)).1).bind fun r1 =>
 (bif (!r1.1) then
 (some (false,()))
 else
 ((aU.f k (List.getD x0 (Int.toNat x1) (Ty.dflt aA)).2.1 1 100000).bind fun r2 =>
 (bif (!r2.1) then
 (some (false,()))
 else
 (bif (decide ((List.getD x0 (Int.toNat x1) (Ty.dflt aA)).2.2.1<0)) then
 (some (false,()))
 else
 ((aU.f k (List.getD x0 (Int.toNat x1) (Ty.dflt aA)).2.2.2.1 1 210).bind fun r3 =>
 (bif (!r3.1) then
 (some (false,()))
 else
 ((aU.f k (List.getD x0 (Int.toNat x1) (Ty.dflt aA)).2.2.2.2.1 1 1000000).bind fun r4 =>
 (bif (!r4.1) then
 (some (false,()))
 else
 (bif (decide (x1 > 0)) then
 (bX (aH (x1-1)) (x0.length:Int)
 (bif ((lZ (List.getD x0 (Int.toNat x1) (Ty.dflt aA)).1 (List.getD x0 (Int.toNat (aH (x1-1))) (Ty.dflt aA)).1)||(seq (List.getD x0 (Int.toNat x1) (Ty.dflt aA)).1 (List.getD x0 (Int.toNat (aH (x1-1))) (Ty.dflt aA)).1)) then
 (some (false,()))
 else
 (L0 x0 (aH (x1+1)))))
 else
 (L0 x0 (aH (x1+1))))))))))))))
 else
 (some (true,())))
def l0 (k:Nat):Nat→T0
 | 0=>fun _ _=>none
 | n+1=>b0 k (l0 k n)
def t (k:Nat) (L0:T0) (a0:List (Ty.den aA)):Rs :=
 (bif (decide ((List.length a0:Int) > 20)) then
 (some (false,()))
 else
 (L0 a0 0))
def f (k:Nat):=t k (l0 k k)
end ez
namespace gS
abbrev Rs:Type:=Option (Bool × Unit)
abbrev T0:Type:=Int→Int→Int→List (Ty.den aA)→Rs
def b0 (k:Nat) (L0:T0):T0:=fun x0 x1 x2 x3 =>
 (bif (decide (x0<(x3.length:Int))) then
 (bX x0 (x3.length:Int)
 (bX 0 (x3.length:Int)
 (bif ((List.getD x3 (Int.toNat x0) (Ty.dflt aA)).2.1 != (List.getD x3 0 (Ty.dflt aA)).2.1) then
 (some (false,()))
 else
 (bX x0 (x3.length:Int)
 (bif (decide ((List.getD x3 (Int.toNat x0) (Ty.dflt aA)).2.2.1 > 100000)) then
 (some (false,()))
 else
 (L0 (aH (x0+1)) x1 x2 x3))))))
 else
 (some (true,())))
def l0 (k:Nat):Nat→T0
 | 0=>fun _ _ _ _=>none
 | n+1=>b0 k (l0 k n)
def t (k:Nat) (L0:T0) (a0:Ty.den gl):Rs :=
 ((aU.f k a0.1 0 100000).bind fun r1 =>
 (bif (!r1.1) then
 (some (false,()))
 else
 ((aU.f k a0.2.1 0 1000000).bind fun r2 =>
 (bif (!r2.1) then
 (some (false,()))
 else
 ((ez.f k a0.2.2.1).bind fun r3 =>
 (bif (!r3.1) then
 (some (false,()))
 else
 (L0 0 a0.1 a0.2.1 a0.2.2.1)))))))
def f (k:Nat):=t k (l0 k k)
end gS
namespace dL
abbrev Rs:Type:=Option (ByteArray × Unit)
abbrev T0:Type:=ByteArray→Int→Int→Int→List (Ty.den aA)→Rs
def b0 (k:Nat) (L0:T0):T0:=fun x0 x1 x2 x3 x4 =>
 (bif (decide (x1<(x4.length:Int))) then
 (bX x1 (x4.length:Int)
 ((bW.f k (ByteArray.size (List.getD x4 (Int.toNat x1) (Ty.dflt aA)).1:Int)).bind fun r5 =>
 (kX x0 r5.1
 (kX (x0++r5.1) (List.getD x4 (Int.toNat x1) (Ty.dflt aA)).1
 ((bW.f k (List.getD x4 (Int.toNat x1) (Ty.dflt aA)).2.1).bind fun r6 =>
 (kX ((x0++r5.1)++(List.getD x4 (Int.toNat x1) (Ty.dflt aA)).1) r6.1
 ((bW.f k (List.getD x4 (Int.toNat x1) (Ty.dflt aA)).2.2.1).bind fun r7 =>
 (kX (((x0++r5.1)++(List.getD x4 (Int.toNat x1) (Ty.dflt aA)).1)++r6.1) r7.1
 ((bW.f k (List.getD x4 (Int.toNat x1) (Ty.dflt aA)).2.2.2.1).bind fun r8 =>
 (kX ((((x0++r5.1)++(List.getD x4 (Int.toNat x1) (Ty.dflt aA)).1)++r6.1)++r7.1) r8.1
 ((bW.f k (List.getD x4 (Int.toNat x1) (Ty.dflt aA)).2.2.2.2.1).bind fun r9 =>
 (kX (((((x0++r5.1)++(List.getD x4 (Int.toNat x1) (Ty.dflt aA)).1)++r6.1)++r7.1)++r8.1) r9.1
 (L0 ((((((x0++r5.1)++(List.getD x4 (Int.toNat x1) (Ty.dflt aA)).1)++r6.1)++r7.1)++r8.1)++r9.1) (aH (x1+1)) x2 x3 x4)))))))))))))
 else
 ((g8.f k x0).bind fun r10 =>
 ((dM.f k r10.1 4).bind fun r11 =>
 (kX r11.1 x0
 (some ((r11.1++x0),()))))))
def l0 (k:Nat):Nat→T0
 | 0=>fun _ _ _ _ _=>none
 | n+1=>b0 k (l0 k n)
def t (k:Nat) (L0:T0) (a0:Ty.den gl):Rs :=
 ((gS.f k a0).bind fun r1 =>
 (bif (!r1.1) then
 (some ((⟨#[]⟩:ByteArray),()))
 else
 ((bW.f k a0.1).bind fun r2 =>
 ((bW.f k a0.2.1).bind fun r3 =>
 (kX r2.1 r3.1
 ((bW.f k (List.length a0.2.2.1:Int)).bind fun r4 =>
 (kX (r2.1++r3.1) r4.1
 (L0 ((r2.1++r3.1)++r4.1) 0 a0.1 a0.2.1 a0.2.2.1))))))))
def f (k:Nat):=t k (l0 k k)
end dL
namespace bI
abbrev Rs:Type:=Option ((Ty.den gl) × Bool × Unit)
abbrev T0:Type:=ByteArray→Int→Int→List (Ty.den aA)→Int→Int→List Int→List (Ty.den aA)→Int→Int→Rs
def b0 (k:Nat) (L0:T0):T0:=fun x0 x1 x2 x3 x4 x5 x6 x7 x8 x9 =>
 (bX 2 (x6.length:Int)
 (bif (decide (x2<(List.getD x6 2 (Ty.dflt (.int .i64))))) then
 (pr x1 (ByteArray.size x0:Int)
 ((cJ.f k (ByteArray.extract x0 (Int.toNat x1) (ByteArray.size x0))).bind fun r2 =>
 ((bY.f k r2.2.1 0 4).bind fun r3 =>
 (bif (!r2.2.2.1) then
 (some ((0,(0,([],()))),(false,())))
 else
 (bif (decide (r3.2.1<0)) then
 (some ((0,(0,([],()))),(false,())))
 else
 (bX 0 (List.length r3.1:Int)
 (bX 1 (List.length r3.1:Int)
 (bX 2 (List.length r3.1:Int)
 (bX 3 (List.length r3.1:Int)
 (rm (Ty.bytes aA) (List.length x7+1)
 (L0 x0 (aH ((aH ((ByteArray.size x0:Int)-(ByteArray.size r2.2.1:Int)))+r3.2.1)) (aH (x2+1)) x3 x4 x5 x6 (x7++[(r2.1,((List.getD r3.1 0 (Ty.dflt (.int .i64))),((List.getD r3.1 1 (Ty.dflt (.int .i64))),((List.getD r3.1 2 (Ty.dflt (.int .i64))),((List.getD r3.1 3 (Ty.dflt (.int .i64))),())))))]) x8 x9)))))))))))
 else
 ((dL.f k (x8,(x9,(x7,())))).bind fun r4 =>
 (bif (!(seq r4.1 x0)) then
 (some ((0,(0,([],()))),(false,())))
 else
 (some ((x8,(x9,(x7,()))),(true,())))))))
def l0 (k:Nat):Nat→T0
 | 0=>fun _ _ _ _ _ _ _ _ _ _=>none
 | n+1=>b0 k (l0 k n)
def t (k:Nat) (L0:T0) (a0:ByteArray):Rs :=
 (bif (decide ((ByteArray.size a0:Int)<4)) then
 (some ((0,(0,([],()))),(false,())))
 else
 ((bY.f k a0 4 3).bind fun r1 =>
 (bif (decide (r1.2.1<0)) then
 (some ((0,(0,([],()))),(false,())))
 else
 (bX 2 (List.length r1.1:Int)
 (bif (decide ((List.getD r1.1 2 (Ty.dflt (.int .i64))) > 20)) then
 (some ((0,(0,([],()))),(false,())))
 else
 (bX 0 (List.length r1.1:Int)
 (bX 1 (List.length r1.1:Int)
 (L0 a0 r1.2.1 0 [] 0 0 r1.1 [] (List.getD r1.1 0 (Ty.dflt (.int .i64))) (List.getD r1.1 1 (Ty.dflt (.int .i64)))))))))))
def f (k:Nat):=t k (l0 k k)
end bI
namespace fh
abbrev Rs:Type:=Option (Int × Unit)
abbrev T0:Type:=List (Ty.den am)→ByteArray→Int→Rs
def b0 (k:Nat) (L0:T0):T0:=fun x0 x1 x2 =>
 (bif (decide (x2<(x0.length:Int))) then
 (bX x2 (x0.length:Int)
 ((bd.f k (List.getD x0 (Int.toNat x2) (Ty.dflt am))).bind fun r1 =>
 (kX x1 r1.1
 (L0 x0 (x1++r1.1) (aH (x2+1))))))
 else
 ((g8.f k x1).bind fun r2 =>
 (some r2)))
def l0 (k:Nat):Nat→T0
 | 0=>fun _ _ _=>none
 | n+1=>b0 k (l0 k n)
def t (k:Nat) (L0:T0) (a0:List (Ty.den am)):Rs :=
 (L0 a0 (⟨#[]⟩:ByteArray) 0)
def f (k:Nat):=t k (l0 k k)
end fh
namespace dj
abbrev Rs:Type:=Option ((Ty.den gl) × Bool × Unit)
abbrev T0:Type:=Int→Int→List (Ty.den aA)→Int→Int→List (Ty.den dD)→List (Ty.den aA)→Int→Int→List (Ty.den am)→Rs
def b0 (k:Nat) (L0:T0):T0:=fun x0 x1 x2 x3 x4 x5 x6 x7 x8 x9 =>
 (bif (decide ((aH (x1+1))<(x5.length:Int))) then
 (bX x1 (x5.length:Int)
 (bif ((List.getD x5 (Int.toNat x1) (Ty.dflt dD)).2.2.1.1 != 4) then
 (some ((0,(0,([],()))),(false,())))
 else
 (bif (decide ((List.getD x5 (Int.toNat x1) (Ty.dflt dD)).2.2.1.2.1 > x8)) then
 (some ((0,(0,([],()))),(false,())))
 else
 (bif (decide (x1 > 0)) then
 (bX (aH (x1-1)) (x5.length:Int)
 (bif ((lZ (List.getD x5 (Int.toNat x1) (Ty.dflt dD)).2.2.1.2.2.1 (List.getD x5 (Int.toNat (aH (x1-1))) (Ty.dflt dD)).2.2.1.2.2.1)||(seq (List.getD x5 (Int.toNat x1) (Ty.dflt dD)).2.2.1.2.2.1 (List.getD x5 (Int.toNat (aH (x1-1))) (Ty.dflt dD)).2.2.1.2.2.1)) then
 (some ((0,(0,([],()))),(false,())))
 else
 (rm (Ty.bytes am) (List.length x9+1)
 (bX x1 (x5.length:Int)
 (bX x1 (x5.length:Int)
 (rm (Ty.bytes aA) (List.length x6+1)
 (L0 x0 (aH (x1+1)) x2 x3 x4 x5 (x6++[((List.getD x5 (Int.toNat x1) (Ty.dflt dD)).2.2.1.2.2.1,(x0,((List.getD x5 (Int.toNat x1) (Ty.dflt dD)).1,((List.getD x5 (Int.toNat x1) (Ty.dflt dD)).2.1,((List.getD x5 (Int.toNat x1) (Ty.dflt dD)).2.2.1.2.1,())))))]) x7 x8 (x9++[(List.getD x5 (Int.toNat x1) (Ty.dflt dD)).2.2.1]))))))))
 else
 (rm (Ty.bytes am) (List.length x9+1)
 (bX x1 (x5.length:Int)
 (bX x1 (x5.length:Int)
 (rm (Ty.bytes aA) (List.length x6+1)
 (L0 x0 (aH (x1+1)) x2 x3 x4 x5 (x6++[((List.getD x5 (Int.toNat x1) (Ty.dflt dD)).2.2.1.2.2.1,(x0,((List.getD x5 (Int.toNat x1) (Ty.dflt dD)).1,((List.getD x5 (Int.toNat x1) (Ty.dflt dD)).2.1,((List.getD x5 (Int.toNat x1) (Ty.dflt dD)).2.2.1.2.1,())))))]) x7 x8 (x9++[(List.getD x5 (Int.toNat x1) (Ty.dflt dD)).2.2.1]))))))))))
 else
 (bX (aH ((x5.length:Int)-1)) (x5.length:Int)
 (bif ((List.getD x5 (Int.toNat (aH ((x5.length:Int)-1))) (Ty.dflt dD)).2.2.1.2.2.2.2.1 != (x9.length:Int)) then
 (some ((0,(0,([],()))),(false,())))
 else
 ((fh.f k x9).bind fun r3 =>
 (bif ((List.getD x5 (Int.toNat (aH ((x5.length:Int)-1))) (Ty.dflt dD)).2.2.1.2.2.2.2.2.1 != r3.1) then
 (some ((0,(0,([],()))),(false,())))
 else
 (some ((x7,(x8,(x6,()))),(true,()))))))))
def l0 (k:Nat):Nat→T0
 | 0=>fun _ _ _ _ _ _ _ _ _ _=>none
 | n+1=>b0 k (l0 k n)
def t (k:Nat) (L0:T0) (a0:Int) (a1:ByteArray):Rs :=
 ((bO.f k a1).bind fun r1 =>
 (bif (r1.2.1 != (ByteArray.size a1:Int)) then
 (some ((0,(0,([],()))),(false,())))
 else
 (bif ((List.length r1.1:Int)==0) then
 (some ((0,(0,([],()))),(false,())))
 else
 (bX (aH ((List.length r1.1:Int)-1)) (List.length r1.1:Int)
 (bif ((List.getD r1.1 (Int.toNat (aH ((List.length r1.1:Int)-1))) (Ty.dflt dD)).2.2.1.1 != 5) then
 (some ((0,(0,([],()))),(false,())))
 else
 ((aS.f k a0).bind fun r2 =>
 (bif (seq r2.1 (⟨#[]⟩:ByteArray)) then
 (some ((0,(0,([],()))),(false,())))
 else
 (bX (aH ((List.length r1.1:Int)-1)) (List.length r1.1:Int)
 (L0 a0 0 [] 0 0 r1.1 [] (ByteArray.size a1:Int) (List.getD r1.1 (Int.toNat (aH ((List.length r1.1:Int)-1))) (Ty.dflt dD)).2.2.1.2.1 [])))))))))
def f (k:Nat):=t k (l0 k k)
end dj
namespace cT
abbrev Rs:Type:=Option (Bool × Unit)
abbrev T0:Type:=List (Ty.den aA)→List (Ty.den aA)→Int→Rs
def b0 (k:Nat) (L0:T0):T0:=fun x0 x1 x2 =>
 (bif (decide (x2<(x0.length:Int))) then
 (bX x2 (x0.length:Int)
 (bX x2 (x1.length:Int)
 (bif (!((seq (List.getD x0 (Int.toNat x2) (Ty.dflt aA)).1 (List.getD x1 (Int.toNat x2) (Ty.dflt aA)).1)&&(((List.getD x0 (Int.toNat x2) (Ty.dflt aA)).2.1==(List.getD x1 (Int.toNat x2) (Ty.dflt aA)).2.1)&&(((List.getD x0 (Int.toNat x2) (Ty.dflt aA)).2.2.1==(List.getD x1 (Int.toNat x2) (Ty.dflt aA)).2.2.1)&&(((List.getD x0 (Int.toNat x2) (Ty.dflt aA)).2.2.2.1==(List.getD x1 (Int.toNat x2) (Ty.dflt aA)).2.2.2.1)&&((List.getD x0 (Int.toNat x2) (Ty.dflt aA)).2.2.2.2.1==(List.getD x1 (Int.toNat x2) (Ty.dflt aA)).2.2.2.2.1)))))) then
 (some (false,()))
 else
 (L0 x0 x1 (aH (x2+1))))))
 else
 (some (true,())))
def l0 (k:Nat):Nat→T0
 | 0=>fun _ _ _=>none
 | n+1=>b0 k (l0 k n)
def t (k:Nat) (L0:T0) (a0:List (Ty.den aA)) (a1:List (Ty.den aA)):Rs :=
 (bif ((List.length a0:Int) != (List.length a1:Int)) then
 (some (false,()))
 else
 (L0 a0 a1 0))
def f (k:Nat):=t k (l0 k k)
end cT
namespace gc
abbrev Rs:Type:=Option (Bool × Unit)
def t (k:Nat) (a0:Int) (a1:ByteArray) (a2:Ty.den gl):Rs :=
 ((dj.f k a0 a1).bind fun r1 =>
 (bif r1.2.1 then
 (bif (r1.1.1==a2.1) then
 (bif (r1.1.2.1==a2.2.1) then
 ((cT.f k r1.1.2.2.1 a2.2.2.1).bind fun r2 =>
 (some r2))
 else
 (some (false,())))
 else
 (some (false,())))
 else
 (some (false,()))))
def f (k:Nat):=t k
end gc
namespace bU
abbrev Rs:Type:=Option ((List (Ty.den aL)) × Unit)
abbrev T0:Type:=Int→Int→List (Ty.den aL)→List (Ty.den dD)→Rs
def b0 (k:Nat) (L0:T0):T0:=fun x0 x1 x2 x3 =>
 (bif (decide (x1<(x3.length:Int))) then
 (bX x1 (x3.length:Int)
 (bX x1 (x3.length:Int)
 (bX x1 (x3.length:Int)
 (rm (Ty.bytes aL) (List.length x2+1)
 (L0 x0 (aH (x1+1)) (x2++[(x0,((List.getD x3 (Int.toNat x1) (Ty.dflt dD)).1,((List.getD x3 (Int.toNat x1) (Ty.dflt dD)).2.1,(List.getD x3 (Int.toNat x1) (Ty.dflt dD)).2.2)))]) x3)))))
 else
 (some (x2,())))
def l0 (k:Nat):Nat→T0
 | 0=>fun _ _ _ _=>none
 | n+1=>b0 k (l0 k n)
def t (k:Nat) (L0:T0) (a0:Int) (a1:ByteArray):Rs :=
 ((bO.f k a1).bind fun r1 =>
 (L0 a0 0 [] r1.1))
def f (k:Nat):=t k (l0 k k)
end bU
namespace iH
abbrev Rs:Type:=Option ((List (Ty.den aL)) × Unit)
abbrev T0:Type:=List (Ty.den aL)→Int→Int→Int→List (Ty.den aL)→Rs
def b0 (k:Nat) (L0:T0):T0:=fun x0 x1 x2 x3 x4 =>
 (bif (decide (x3<x1)) then
 (bX x3 (x0.length:Int)
 (bif ((List.getD x0 (Int.toNat x3) (Ty.dflt aL)).2.2.2.1.2.1==x2) then
 (bif ((List.getD x0 (Int.toNat x3) (Ty.dflt aL)).2.2.2.1.1==3) then
 (bif ((List.getD x0 (Int.toNat x3) (Ty.dflt aL)).2.2.2.1.2.1==x2) then
 (bif ((List.getD x0 (Int.toNat x3) (Ty.dflt aL)).2.2.2.1.1==1) then
 (bX x3 (x0.length:Int)
 (rm (Ty.bytes aL) (0+1)
 (L0 x0 x1 x2 (aH (x3+1)) ([]++[(List.getD x0 (Int.toNat x3) (Ty.dflt aL))]))))
 else
 (bif ((List.getD x0 (Int.toNat x3) (Ty.dflt aL)).2.2.2.1.1==2) then
 (bX x3 (x0.length:Int)
 (rm (Ty.bytes aL) (0+1)
 (L0 x0 x1 x2 (aH (x3+1)) ([]++[(List.getD x0 (Int.toNat x3) (Ty.dflt aL))]))))
 else
 (L0 x0 x1 x2 (aH (x3+1)) [])))
 else
 (L0 x0 x1 x2 (aH (x3+1)) []))
 else
 (bif ((List.getD x0 (Int.toNat x3) (Ty.dflt aL)).2.2.2.1.2.1==x2) then
 (bif ((List.getD x0 (Int.toNat x3) (Ty.dflt aL)).2.2.2.1.1==1) then
 (bX x3 (x0.length:Int)
 (rm (Ty.bytes aL) (List.length x4+1)
 (L0 x0 x1 x2 (aH (x3+1)) (x4++[(List.getD x0 (Int.toNat x3) (Ty.dflt aL))]))))
 else
 (bif ((List.getD x0 (Int.toNat x3) (Ty.dflt aL)).2.2.2.1.1==2) then
 (bX x3 (x0.length:Int)
 (rm (Ty.bytes aL) (List.length x4+1)
 (L0 x0 x1 x2 (aH (x3+1)) (x4++[(List.getD x0 (Int.toNat x3) (Ty.dflt aL))]))))
 else
 (L0 x0 x1 x2 (aH (x3+1)) x4)))
 else
 (L0 x0 x1 x2 (aH (x3+1)) x4)))
 else
 (bif ((List.getD x0 (Int.toNat x3) (Ty.dflt aL)).2.2.2.1.2.1==x2) then
 (bif ((List.getD x0 (Int.toNat x3) (Ty.dflt aL)).2.2.2.1.1==1) then
 (bX x3 (x0.length:Int)
 (rm (Ty.bytes aL) (List.length x4+1)
 (L0 x0 x1 x2 (aH (x3+1)) (x4++[(List.getD x0 (Int.toNat x3) (Ty.dflt aL))]))))
 else
 (bif ((List.getD x0 (Int.toNat x3) (Ty.dflt aL)).2.2.2.1.1==2) then
 (bX x3 (x0.length:Int)
 (rm (Ty.bytes aL) (List.length x4+1)
 (L0 x0 x1 x2 (aH (x3+1)) (x4++[(List.getD x0 (Int.toNat x3) (Ty.dflt aL))]))))
 else
 (L0 x0 x1 x2 (aH (x3+1)) x4)))
 else
 (L0 x0 x1 x2 (aH (x3+1)) x4))))
 else
 (some (x4,())))
def l0 (k:Nat):Nat→T0
 | 0=>fun _ _ _ _ _=>none
 | n+1=>b0 k (l0 k n)
def t (k:Nat) (L0:T0) (a0:List (Ty.den aL)) (a1:Int) (a2:Int):Rs :=
 (L0 a0 a1 a2 0 [])
def f (k:Nat):=t k (l0 k k)
end iH
namespace fp
abbrev Rs:Type:=Option ((List (Ty.den am)) × Unit)
abbrev T0:Type:=List (Ty.den aL)→Int→List (Ty.den am)→Rs
def b0 (k:Nat) (L0:T0):T0:=fun x0 x1 x2 =>
 (bif (decide (x1<(x0.length:Int))) then
 (bX x1 (x0.length:Int)
 (rm (Ty.bytes am) (List.length x2+1)
 (L0 x0 (aH (x1+1)) (x2++[(List.getD x0 (Int.toNat x1) (Ty.dflt aL)).2.2.2.1]))))
 else
 (some (x2,())))
def l0 (k:Nat):Nat→T0
 | 0=>fun _ _ _=>none
 | n+1=>b0 k (l0 k n)
def t (k:Nat) (L0:T0) (a0:List (Ty.den aL)):Rs :=
 (L0 a0 0 [])
def f (k:Nat):=t k (l0 k k)
end fp
namespace iZ
abbrev Rs:Type:=Option (Bool × Unit)
def t (k:Nat) (a0:Ty.den am) (a1:List (Ty.den aL)):Rs :=
 (bif (a0.2.2.2.2.1==(List.length a1:Int)) then
 ((fp.f k a1).bind fun r1 =>
 ((fh.f k r1.1).bind fun r2 =>
 (some ((a0.2.2.2.2.2.1==r2.1),()))))
 else
 (some (false,())))
def f (k:Nat):=t k
end iZ
namespace cq
abbrev Rs:Type:=Option ((List (Ty.den aA)) × Unit)
abbrev T0:Type:=List (Ty.den aA)→ByteArray→Int→List (Ty.den aA)→Rs
def b0 (k:Nat) (L0:T0):T0:=fun x0 x1 x2 x3 =>
 (bif (decide (x2<(x0.length:Int))) then
 (bX x2 (x0.length:Int)
 (bif (!(seq (List.getD x0 (Int.toNat x2) (Ty.dflt aA)).1 x1)) then
 (bX x2 (x0.length:Int)
 (rm (Ty.bytes aA) (List.length x3+1)
 (L0 x0 x1 (aH (x2+1)) (x3++[(List.getD x0 (Int.toNat x2) (Ty.dflt aA))]))))
 else
 (L0 x0 x1 (aH (x2+1)) x3)))
 else
 (some (x3,())))
def l0 (k:Nat):Nat→T0
 | 0=>fun _ _ _ _=>none
 | n+1=>b0 k (l0 k n)
def t (k:Nat) (L0:T0) (a0:List (Ty.den aA)) (a1:ByteArray):Rs :=
 (L0 a0 a1 0 [])
def f (k:Nat):=t k (l0 k k)
end cq
namespace bZ
abbrev Rs:Type:=Option ((List (Ty.den aA)) × Unit)
abbrev T0:Type:=List (Ty.den aA)→Bool→Int→ByteArray→Int→Int→Int→Int→List (Ty.den aA)→Rs
def b0 (k:Nat) (L0:T0):T0:=fun x0 x1 x2 x3 x4 x5 x6 x7 x8 =>
 (bif (decide (x2<(x0.length:Int))) then
 (bX x2 (x0.length:Int)
 (bif (seq (List.getD x0 (Int.toNat x2) (Ty.dflt aA)).1 x3) then
 (L0 x0 x1 (aH (x2+1)) x3 x4 x5 x6 x7 x8)
 else
 (bif (!x1) then
 (bX x2 (x0.length:Int)
 (bif (!((lZ (List.getD x0 (Int.toNat x2) (Ty.dflt aA)).1 x3)||(seq (List.getD x0 (Int.toNat x2) (Ty.dflt aA)).1 x3))) then
 (rm (Ty.bytes aA) (List.length x8+1)
 (bX x2 (x0.length:Int)
 (rm (Ty.bytes aA) (List.length (x8++[(x3,(x4,(x5,(x6,(x7,())))))])+1)
 (L0 x0 true (aH (x2+1)) x3 x4 x5 x6 x7 ((x8++[(x3,(x4,(x5,(x6,(x7,())))))])++[(List.getD x0 (Int.toNat x2) (Ty.dflt aA))])))))
 else
 (bX x2 (x0.length:Int)
 (rm (Ty.bytes aA) (List.length x8+1)
 (L0 x0 x1 (aH (x2+1)) x3 x4 x5 x6 x7 (x8++[(List.getD x0 (Int.toNat x2) (Ty.dflt aA))]))))))
 else
 (bX x2 (x0.length:Int)
 (rm (Ty.bytes aA) (List.length x8+1)
 (L0 x0 x1 (aH (x2+1)) x3 x4 x5 x6 x7 (x8++[(List.getD x0 (Int.toNat x2) (Ty.dflt aA))])))))))
 else
 (bif (!x1) then
 (rm (Ty.bytes aA) (List.length x8+1)
 (some ((x8++[(x3,(x4,(x5,(x6,(x7,())))))]),())))
 else
 (some (x8,()))))
def l0 (k:Nat):Nat→T0
 | 0=>fun _ _ _ _ _ _ _ _ _=>none
 | n+1=>b0 k (l0 k n)
def t (k:Nat) (L0:T0) (a0:List (Ty.den aA)) (a1:Ty.den aA):Rs :=
 (L0 a0 false 0 a1.1 a1.2.1 a1.2.2.1 a1.2.2.2.1 a1.2.2.2.2.1 [])
def f (k:Nat):=t k (l0 k k)
end bZ
namespace fm
abbrev Rs:Type:=Option ((List (Ty.den aA)) × Unit)
def t (k:Nat) (a0:List (Ty.den aA)) (a1:Ty.den aL):Rs :=
 (bif (a1.2.2.2.1.1==2) then
 ((cq.f k a0 a1.2.2.2.1.2.2.1).bind fun r1 =>
 (some r1))
 else
 ((bZ.f k a0 (a1.2.2.2.1.2.2.1,(a1.1,(a1.2.1,(a1.2.2.1,(a1.2.2.2.1.2.1,())))))).bind fun r2 =>
 (some r2)))
def f (k:Nat):=t k
end fm
namespace ed
abbrev Rs:Type:=Option ((List (Ty.den aL)) × Unit)
abbrev T0:Type:=List (Ty.den aL)→Int→Int→List (Ty.den aL)→Rs
def b0 (k:Nat) (L0:T0):T0:=fun x0 x1 x2 x3 =>
 (bif (decide (x2<x1)) then
 (bX x2 (x0.length:Int)
 (bif ((List.getD x0 (Int.toNat x2) (Ty.dflt aL)).2.2.2.1.1==5) then
 (bX x2 (x0.length:Int)
 (bif ((List.getD x0 (Int.toNat x2) (Ty.dflt aL)).2.2.2.1.1==4) then
 (bX x2 (x0.length:Int)
 (rm (Ty.bytes aL) (0+1)
 (L0 x0 x1 (aH (x2+1)) ([]++[(List.getD x0 (Int.toNat x2) (Ty.dflt aL))]))))
 else
 (L0 x0 x1 (aH (x2+1)) [])))
 else
 (bX x2 (x0.length:Int)
 (bif ((List.getD x0 (Int.toNat x2) (Ty.dflt aL)).2.2.2.1.1==4) then
 (bX x2 (x0.length:Int)
 (rm (Ty.bytes aL) (List.length x3+1)
 (L0 x0 x1 (aH (x2+1)) (x3++[(List.getD x0 (Int.toNat x2) (Ty.dflt aL))]))))
 else
 (L0 x0 x1 (aH (x2+1)) x3)))))
 else
 (some (x3,())))
def l0 (k:Nat):Nat→T0
 | 0=>fun _ _ _ _=>none
 | n+1=>b0 k (l0 k n)
def t (k:Nat) (L0:T0) (a0:List (Ty.den aL)) (a1:Int):Rs :=
 (L0 a0 a1 0 [])
def f (k:Nat):=t k (l0 k k)
end ed
namespace cA
abbrev Rs:Type:=Option ((Ty.den kY) × Unit)
abbrev T1:Type:=List (Ty.den aL)→Int→Int→List (Ty.den aA)→Int→Int→List (Ty.den aA)→Int→Int→List (Ty.den aL)→Rs
abbrev T0:Type:=List (Ty.den aL)→Int→List (Ty.den aA)→Int→Int→List (Ty.den aA)→Int→Int→Rs
def b1 (k:Nat) (L0:T0) (L1:T1):T1:=fun x0 x1 x2 x3 x4 x5 x6 x7 x8 x9 =>
 (bif (decide (x2<(x9.length:Int))) then
 (bX x2 (x9.length:Int)
 ((fm.f k x6 (List.getD x9 (Int.toNat x2) (Ty.dflt aL))).bind fun r3 =>
 (L1 x0 x1 (aH (x2+1)) x3 x4 x5 r3.1 x7 x8 x9)))
 else
 (bif (decide ((x6.length:Int) > 20)) then
 (L0 x0 (aH (x1+1)) x3 x4 x5 x6 x7 2)
 else
 (L0 x0 (aH (x1+1)) x3 x4 x5 x6 x7 x8)))
def l1 (k:Nat) (L0:T0):Nat→T1
 | 0=>fun _ _ _ _ _ _ _ _ _ _=>none
 | n+1=>b1 k L0 (l1 k L0 n)
def b0 (k:Nat) (L1:T1) (L0:T0):T0:=fun x0 x1 x2 x3 x4 x5 x6 x7 =>
 (bif (decide (x1<(x0.length:Int))) then
 (bif (x7==0) then
 (bX x1 (x0.length:Int)
 (bif ((List.getD x0 (Int.toNat x1) (Ty.dflt aL)).2.2.2.1.1==3) then
 ((iH.f k x0 x1 (List.getD x0 (Int.toNat x1) (Ty.dflt aL)).2.2.2.1.2.1).bind fun r1 =>
 ((iZ.f k (List.getD x0 (Int.toNat x1) (Ty.dflt aL)).2.2.2.1 r1.1).bind fun r2 =>
 (bif (!r2.1) then
 (L0 x0 (aH (x1+1)) x2 x3 x4 x5 (if (List.getD x0 (Int.toNat x1) (Ty.dflt aL)).2.2.2.1.2.1 > x6 then (List.getD x0 (Int.toNat x1) (Ty.dflt aL)).2.2.2.1.2.1 else x6) x7)
 else
 (L1 x0 x1 0 x2 x3 x4 x5 (if (List.getD x0 (Int.toNat x1) (Ty.dflt aL)).2.2.2.1.2.1 > x6 then (List.getD x0 (Int.toNat x1) (Ty.dflt aL)).2.2.2.1.2.1 else x6) x7 r1.1))))
 else
 (bif ((List.getD x0 (Int.toNat x1) (Ty.dflt aL)).2.2.2.1.1==5) then
 ((ed.f k x0 x1).bind fun r4 =>
 ((iZ.f k (List.getD x0 (Int.toNat x1) (Ty.dflt aL)).2.2.2.1 r4.1).bind fun r5 =>
 (bif (!r5.1) then
 (L0 x0 (aH (x1+1)) x2 x3 x4 x5 (if (List.getD x0 (Int.toNat x1) (Ty.dflt aL)).2.2.2.1.2.1 > x6 then (List.getD x0 (Int.toNat x1) (Ty.dflt aL)).2.2.2.1.2.1 else x6) 1)
 else
 (L1 x0 x1 0 x2 x3 x4 x5 (if (List.getD x0 (Int.toNat x1) (Ty.dflt aL)).2.2.2.1.2.1 > x6 then (List.getD x0 (Int.toNat x1) (Ty.dflt aL)).2.2.2.1.2.1 else x6) x7 r4.1))))
 else
 (L0 x0 (aH (x1+1)) x2 x3 x4 x5 (if (List.getD x0 (Int.toNat x1) (Ty.dflt aL)).2.2.2.1.2.1 > x6 then (List.getD x0 (Int.toNat x1) (Ty.dflt aL)).2.2.2.1.2.1 else x6) x7))))
 else
 (bif (x7==0) then
 ((ed.f k x0 (x0.length:Int)).bind fun r6 =>
 (bif (decide ((List.length r6.1:Int) > 0)) then
 (some ((x5,(x6,(1,()))),()))
 else
 (some ((x5,(x6,(x7,()))),()))))
 else
 (some ((x5,(x6,(x7,()))),()))))
 else
 (bif (x7==0) then
 ((ed.f k x0 (x0.length:Int)).bind fun r7 =>
 (bif (decide ((List.length r7.1:Int) > 0)) then
 (some ((x5,(x6,(1,()))),()))
 else
 (some ((x5,(x6,(x7,()))),()))))
 else
 (some ((x5,(x6,(x7,()))),()))))
def l0 (k:Nat):Nat→T0
 | 0=>fun _ _ _ _ _ _ _ _=>none
 | n+1=>b0 k (l1 k (l0 k n) k) (l0 k n)
def t (k:Nat) (L0:T0) (a0:Ty.den kY) (a1:List (Ty.den aL)):Rs :=
 (rm (Ty.bytes aA) (0+List.length a0.1)
 (L0 a1 0 [] 0 0 ([]++a0.1) a0.2.1 a0.2.2.1))
def f (k:Nat):=t k (l0 k k)
end cA
namespace bo
abbrev Rs:Type:=Option ((Ty.den a_) × Int × Unit)
abbrev T0:Type:=Int→List (Ty.den aD)→Int→Int→Bool→List (Ty.den aD)→Int→Int→Bool→List ByteArray→Rs
def b0 (k:Nat) (L0:T0):T0:=fun x0 x1 x2 x3 x4 x5 x6 x7 x8 x9 =>
 (bif (decide (x0<(x9.length:Int))) then
 (bX x0 (x9.length:Int)
 ((gJ.f k (x1,(x2,(x3,(x4,())))) (List.getD x9 (Int.toNat x0) (Ty.dflt .str))).bind fun r2 =>
 (bif (r2.2.1 != 0) then
 ((aP.f k r2.2.1).bind fun r3 =>
 (some (r2.1,r3)))
 else
 (L0 (aH (x0+1)) r2.1.1 r2.1.2.1 r2.1.2.2.1 r2.1.2.2.2.1 x5 x6 x7 x8 x9))))
 else
 (some ((x1,(x2,(x3,(x4,())))),(0,()))))
def l0 (k:Nat):Nat→T0
 | 0=>fun _ _ _ _ _ _ _ _ _ _=>none
 | n+1=>b0 k (l0 k n)
def t (k:Nat) (L0:T0) (a0:Ty.den a_) (a1:Ty.den bj):Rs :=
 ((b9.f k a0 a1).bind fun r1 =>
 (L0 0 a0.1 a0.2.1 a0.2.2.1 a0.2.2.2.1 [] 0 0 false r1.1))
def f (k:Nat):=t k (l0 k k)
end bo
namespace gH
abbrev Rs:Type:=Option ((Ty.den aC) × (Ty.den a_) × Int × Unit)
def t (k:Nat) (a0:Ty.den a_):Rs :=
 ((bo.f k a0 (0,([],()))).bind fun r1 =>
 (bif (r1.2.1 != 0) then
 (some (((0,([],())),([],(0,(0,(0,()))))),r1))
 else
 ((aS.f k 1).bind fun r2 =>
 ((eg.f k r1.1 r2.1).bind fun r3 =>
 (bif (r3.2.1 != 0) then
 ((aP.f k r3.2.1).bind fun r4 =>
 (some (((0,([],())),([],(0,(0,(0,()))))),(r3.1,r4))))
 else
 ((dT.f k r3.1 (2,([1],()))).bind fun r5 =>
 (bif (r5.2.1 != 0) then
 (some (((0,([],())),([],(0,(0,(0,()))))),r5))
 else
 (some (((2,([1],())),([],(1,(0,(0,()))))),(r5.1,(0,())))))))))))
def f (k:Nat):=t k
end gH
namespace ax
abbrev Rs:Type:=Option ((Ty.den aC) × (Ty.den a_) × Int × Unit)
abbrev T1:Type:=Int→List Int→List (Ty.den aA)→Int→Int→Int→Int→List (Ty.den aD)→Int→Int→Bool→List Int→List (Ty.den aA)→Int→Int→Int→Int→List Int→Int→List (Ty.den aD)→Int→Int→Bool→List (Ty.den aA)→Int→Int→Int→Int→List (Ty.den aA)→Int→Int→List (Ty.den aL)→Rs
abbrev T2:Type:=Int→List Int→List (Ty.den aA)→Int→Int→Int→Int→List (Ty.den aD)→Int→Int→Bool→List Int→List (Ty.den aA)→Int→Int→Int→Int→List Int→Int→List (Ty.den aD)→Int→Int→Bool→List (Ty.den aA)→Int→Int→Int→Int→List (Ty.den aA)→Int→Int→List (Ty.den aL)→Rs
abbrev T0:Type:=Int→Int→List (Ty.den aD)→Int→Int→Bool→List Int→List (Ty.den aA)→Int→Int→Int→Int→List (Ty.den aD)→Int→Int→Bool→List Int→List (Ty.den aA)→Int→Int→Int→Int→List Int→Int→Rs
def b1 (k:Nat) (L1:T1):T1:=fun x0 x1 x2 x3 x4 x5 x6 x7 x8 x9 x10 x11 x12 x13 x14 x15 x16 x17 x18 x19 x20 x21 x22 x23 x24 x25 x26 x27 x28 x29 x30 x31 =>
 (bif (decide (x0<(x17.length:Int))) then
 (bX x0 (x17.length:Int)
 ((aS.f k (List.getD x17 (Int.toNat x0) (Ty.dflt (.int .i64)))).bind fun r23 =>
 ((bJ.f k (x19,(x20,(x21,(x22,())))) r23.1).bind fun r24 =>
 (bX x0 (x17.length:Int)
 ((cX.f k (List.getD x17 (Int.toNat x0) (Ty.dflt (.int .i64)))).bind fun r25 =>
 ((bJ.f k (x19,(x20,(x21,(x22,())))) r25.1).bind fun r26 =>
 ((bI.f k r26.1).bind fun r27 =>
 (bif (x0==0) then
 (bif r26.2.1 then
 (bif r27.2.1 then
 (bX 0 (x17.length:Int)
 ((gc.f k (List.getD x17 0 (Ty.dflt (.int .i64))) r24.1 r27.1).bind fun r28 =>
 (bif r28.1 then
 (bX 0 (x17.length:Int)
 (L1 (aH (x0+1)) x1 x2 x3 x4 x5 x6 x7 x8 x9 x10 x11 x12 x13 x14 x15 x16 x17 x18 x19 x20 x21 x22 x23 x24 x25 x26 (List.getD x17 0 (Ty.dflt (.int .i64))) r27.1.2.2.1 r27.1.2.1 x30 x31))
 else
 (bX x0 (x17.length:Int)
 ((bU.f k (List.getD x17 (Int.toNat x0) (Ty.dflt (.int .i64))) r24.1).bind fun r29 =>
 (rm (Ty.bytes aL) (List.length x31+List.length r29.1)
 (L1 (aH (x0+1)) x1 x2 x3 x4 x5 x6 x7 x8 x9 x10 x11 x12 x13 x14 x15 x16 x17 x18 x19 x20 x21 x22 x23 x24 x25 x26 x27 x28 x29 x30 (x31++r29.1))))))))
 else
 (bX x0 (x17.length:Int)
 ((bU.f k (List.getD x17 (Int.toNat x0) (Ty.dflt (.int .i64))) r24.1).bind fun r30 =>
 (rm (Ty.bytes aL) (List.length x31+List.length r30.1)
 (L1 (aH (x0+1)) x1 x2 x3 x4 x5 x6 x7 x8 x9 x10 x11 x12 x13 x14 x15 x16 x17 x18 x19 x20 x21 x22 x23 x24 x25 x26 x27 x28 x29 x30 (x31++r30.1))))))
 else
 (bX x0 (x17.length:Int)
 ((bU.f k (List.getD x17 (Int.toNat x0) (Ty.dflt (.int .i64))) r24.1).bind fun r31 =>
 (rm (Ty.bytes aL) (List.length x31+List.length r31.1)
 (L1 (aH (x0+1)) x1 x2 x3 x4 x5 x6 x7 x8 x9 x10 x11 x12 x13 x14 x15 x16 x17 x18 x19 x20 x21 x22 x23 x24 x25 x26 x27 x28 x29 x30 (x31++r31.1))))))
 else
 (bX x0 (x17.length:Int)
 ((bU.f k (List.getD x17 (Int.toNat x0) (Ty.dflt (.int .i64))) r24.1).bind fun r32 =>
 (rm (Ty.bytes aL) (List.length x31+List.length r32.1)
 (L1 (aH (x0+1)) x1 x2 x3 x4 x5 x6 x7 x8 x9 x10 x11 x12 x13 x14 x15 x16 x17 x18 x19 x20 x21 x22 x23 x24 x25 x26 x27 x28 x29 x30 (x31++r32.1)))))))))))))
 else
 ((cA.f k (x28,(x29,(x30,()))) x31).bind fun r33 =>
 (bif (r33.1.2.2.1 != 0) then
 (some (((x13,(x11,())),(x12,(x14,(x15,(x16,()))))),((x19,(x20,(x21,(x22,())))),(3,()))))
 else
 ((bo.f k (x19,(x20,(x21,(x22,())))) (x18,(x17,()))).bind fun r34 =>
 (bif (r34.2.1 != 0) then
 (some (((x13,(x11,())),(x12,(x14,(x15,(x16,()))))),r34))
 else
 (some (((x24,(x17,())),(r33.1.1,((aH (r33.1.2.1+1)),(x26,(x27,()))))),(r34.1,(0,())))))))))
def l1 (k:Nat):Nat→T1
 | 0=>fun _ _ _ _ _ _ _ _ _ _ _ _ _ _ _ _ _ _ _ _ _ _ _ _ _ _ _ _ _ _ _ _=>none
 | n+1=>b1 k (l1 k n)
def b2 (k:Nat) (L2:T2):T2:=fun x0 x1 x2 x3 x4 x5 x6 x7 x8 x9 x10 x11 x12 x13 x14 x15 x16 x17 x18 x19 x20 x21 x22 x23 x24 x25 x26 x27 x28 x29 x30 x31 =>
 (bif (decide (x0<(x17.length:Int))) then
 (bX x0 (x17.length:Int)
 ((aS.f k (List.getD x17 (Int.toNat x0) (Ty.dflt (.int .i64)))).bind fun r38 =>
 ((bJ.f k (x19,(x20,(x21,(x22,())))) r38.1).bind fun r39 =>
 (bX x0 (x17.length:Int)
 ((cX.f k (List.getD x17 (Int.toNat x0) (Ty.dflt (.int .i64)))).bind fun r40 =>
 ((bJ.f k (x19,(x20,(x21,(x22,())))) r40.1).bind fun r41 =>
 ((bI.f k r41.1).bind fun r42 =>
 (bif (x0==0) then
 (bif r41.2.1 then
 (bif r42.2.1 then
 (bX 0 (x17.length:Int)
 ((gc.f k (List.getD x17 0 (Ty.dflt (.int .i64))) r39.1 r42.1).bind fun r43 =>
 (bif r43.1 then
 (bX 0 (x17.length:Int)
 (L2 (aH (x0+1)) x1 x2 x3 x4 x5 x6 x7 x8 x9 x10 x11 x12 x13 x14 x15 x16 x17 x18 x19 x20 x21 x22 x23 x24 x25 x26 (List.getD x17 0 (Ty.dflt (.int .i64))) r42.1.2.2.1 r42.1.2.1 x30 x31))
 else
 (bX x0 (x17.length:Int)
 ((bU.f k (List.getD x17 (Int.toNat x0) (Ty.dflt (.int .i64))) r39.1).bind fun r44 =>
 (rm (Ty.bytes aL) (List.length x31+List.length r44.1)
 (L2 (aH (x0+1)) x1 x2 x3 x4 x5 x6 x7 x8 x9 x10 x11 x12 x13 x14 x15 x16 x17 x18 x19 x20 x21 x22 x23 x24 x25 x26 x27 x28 x29 x30 (x31++r44.1))))))))
 else
 (bX x0 (x17.length:Int)
 ((bU.f k (List.getD x17 (Int.toNat x0) (Ty.dflt (.int .i64))) r39.1).bind fun r45 =>
 (rm (Ty.bytes aL) (List.length x31+List.length r45.1)
 (L2 (aH (x0+1)) x1 x2 x3 x4 x5 x6 x7 x8 x9 x10 x11 x12 x13 x14 x15 x16 x17 x18 x19 x20 x21 x22 x23 x24 x25 x26 x27 x28 x29 x30 (x31++r45.1))))))
 else
 (bX x0 (x17.length:Int)
 ((bU.f k (List.getD x17 (Int.toNat x0) (Ty.dflt (.int .i64))) r39.1).bind fun r46 =>
 (rm (Ty.bytes aL) (List.length x31+List.length r46.1)
 (L2 (aH (x0+1)) x1 x2 x3 x4 x5 x6 x7 x8 x9 x10 x11 x12 x13 x14 x15 x16 x17 x18 x19 x20 x21 x22 x23 x24 x25 x26 x27 x28 x29 x30 (x31++r46.1))))))
 else
 (bX x0 (x17.length:Int)
 ((bU.f k (List.getD x17 (Int.toNat x0) (Ty.dflt (.int .i64))) r39.1).bind fun r47 =>
 (rm (Ty.bytes aL) (List.length x31+List.length r47.1)
 (L2 (aH (x0+1)) x1 x2 x3 x4 x5 x6 x7 x8 x9 x10 x11 x12 x13 x14 x15 x16 x17 x18 x19 x20 x21 x22 x23 x24 x25 x26 x27 x28 x29 x30 (x31++r47.1)))))))))))))
 else
 ((cA.f k (x28,(x29,(x30,()))) x31).bind fun r48 =>
 (bif (r48.1.2.2.1 != 0) then
 (some (((x13,(x11,())),(x12,(x14,(x15,(x16,()))))),((x19,(x20,(x21,(x22,())))),(3,()))))
 else
 ((bo.f k (x19,(x20,(x21,(x22,())))) (x18,(x17,()))).bind fun r49 =>
 (bif (r49.2.1 != 0) then
 (some (((x13,(x11,())),(x12,(x14,(x15,(x16,()))))),r49))
 else
 (some (((x24,(x17,())),(r48.1.1,((aH (r48.1.2.1+1)),(x26,(x27,()))))),(r49.1,(0,())))))))))
def l2 (k:Nat):Nat→T2
 | 0=>fun _ _ _ _ _ _ _ _ _ _ _ _ _ _ _ _ _ _ _ _ _ _ _ _ _ _ _ _ _ _ _ _=>none
 | n+1=>b2 k (l2 k n)
def b0 (k:Nat) (L1:T1) (L2:T2) (L0:T0):T0:=fun x0 x1 x2 x3 x4 x5 x6 x7 x8 x9 x10 x11 x12 x13 x14 x15 x16 x17 x18 x19 x20 x21 x22 x23 =>
 (bif (decide (x1<(x22.length:Int))) then
 (bX x1 (x22.length:Int)
 ((aS.f k (List.getD x22 (Int.toNat x1) (Ty.dflt (.int .i64)))).bind fun r8 =>
 ((bJ.f k (x2,(x3,(x4,(x5,())))) r8.1).bind fun r9 =>
 ((bO.f k r9.1).bind fun r10 =>
 (bif (!r9.2.1) then
 ((bv.f k (x2,(x3,(x4,(x5,()))))).bind fun r11 =>
 (some (((x18,(x16,())),(x17,(x19,(x20,(x21,()))))),(r11.1,(3,())))))
 else
 (bX x1 (x22.length:Int)
 (bif ((List.getD x22 (Int.toNat x1) (Ty.dflt (.int .i64))) != x0) then
 (bif (decide (r10.2.1<(ByteArray.size r9.1:Int))) then
 ((bv.f k (x2,(x3,(x4,(x5,()))))).bind fun r12 =>
 (some (((x18,(x16,())),(x17,(x19,(x20,(x21,()))))),(r12.1,(3,())))))
 else
 (L0 x0 (aH (x1+1)) x2 x3 x4 x5 x6 x7 x8 x9 x10 x11 x12 x13 x14 x15 x16 x17 x18 x19 x20 x21 x22 x23))
 else
 (L0 x0 (aH (x1+1)) x2 x3 x4 x5 x6 x7 x8 x9 x10 x11 x12 x13 x14 x15 x16 x17 x18 x19 x20 x21 x22 x23))))))))
 else
 ((aS.f k x0).bind fun r13 =>
 ((bJ.f k (x2,(x3,(x4,(x5,())))) r13.1).bind fun r14 =>
 ((bO.f k r14.1).bind fun r15 =>
 ((bv.f k (x2,(x3,(x4,(x5,()))))).bind fun r16 =>
 (bif (decide (r15.2.1<(ByteArray.size r14.1:Int))) then
 ((aS.f k x0).bind fun r17 =>
 ((iF.f k r16.1 r17.1 r15.2.1).bind fun r18 =>
 (bif (r18.2.1 != 0) then
 ((aP.f k r18.2.1).bind fun r19 =>
 (some (((x18,(x16,())),(x17,(x19,(x20,(x21,()))))),(r18.1,r19))))
 else
 ((aS.f k x0).bind fun r20 =>
 ((bx.f k r18.1 r20.1).bind fun r21 =>
 (bif (r21.2.1 != 0) then
 ((aP.f k r21.2.1).bind fun r22 =>
 (some (((x18,(x16,())),(x17,(x19,(x20,(x21,()))))),(r21.1,r22))))
 else
 (L1 0 x6 x7 x8 x9 x10 x11 x12 x13 x14 x15 x16 x17 x18 x19 x20 x21 x22 x23 r21.1.1 r21.1.2.1 r21.1.2.2.1 r21.1.2.2.2.1 [] x23 0 r15.2.1 0 [] 0 0 [])))))))
 else
 ((aS.f k x0).bind fun r35 =>
 ((bx.f k r16.1 r35.1).bind fun r36 =>
 (bif (r36.2.1 != 0) then
 ((aP.f k r36.2.1).bind fun r37 =>
 (some (((x18,(x16,())),(x17,(x19,(x20,(x21,()))))),(r36.1,r37))))
 else
 (L2 0 x6 x7 x8 x9 x10 x11 x12 x13 x14 x15 x16 x17 x18 x19 x20 x21 x22 x23 r36.1.1 r36.1.2.1 r36.1.2.2.1 r36.1.2.2.2.1 [] x23 0 r15.2.1 0 [] 0 0 []))))))))))
def l0 (k:Nat):Nat→T0
 | 0=>fun _ _ _ _ _ _ _ _ _ _ _ _ _ _ _ _ _ _ _ _ _ _ _ _=>none
 | n+1=>b0 k (l1 k k) (l2 k k) (l0 k n)
def t (k:Nat) (L0:T0) (a0:Ty.den a_):Rs :=
 ((bn.f k a0).bind fun r1 =>
 (bif (!r1.1) then
 ((bv.f k a0).bind fun r2 =>
 (some (((0,([],())),([],(0,(0,(0,()))))),(r2.1,(4,())))))
 else
 (bif a0.2.2.2.1 then
 ((bv.f k a0).bind fun r3 =>
 (some (((0,([],())),([],(0,(0,(0,()))))),(r3.1,(1,())))))
 else
 ((bJ.f k a0 (⟨#[108,105,118,101]⟩:ByteArray)).bind fun r4 =>
 (bif (!r4.2.1) then
 ((gH.f k a0).bind fun r5 =>
 (some r5))
 else
 ((bH.f k r4.1).bind fun r6 =>
 (bif (!r6.2.1) then
 ((bv.f k a0).bind fun r7 =>
 (some (((0,([],())),([],(0,(0,(0,()))))),(r7.1,(3,())))))
 else
 (bX (aH ((List.length r6.1.2.1:Int)-1)) (List.length r6.1.2.1:Int)
 (L0 (List.getD r6.1.2.1 (Int.toNat (aH ((List.length r6.1.2.1:Int)-1))) (Ty.dflt (.int .i64))) 0 a0.1 a0.2.1 a0.2.2.1 a0.2.2.2.1 [] [] 0 0 0 0 [] 0 0 false [] [] 0 0 0 0 r6.1.2.1 r6.1.1)))))))))
def f (k:Nat):=t k (l0 k k)
end ax
namespace g7
abbrev Rs:Type:=Option ((Ty.den ap) × Bool × Unit)
def t (k:Nat) (a0:Ty.den ap) (a1:Int):Rs :=
 ((aV.f k a0 a1).bind fun r1 =>
 (some (r1.1,((r1.2.1==0),()))))
def f (k:Nat):=t k
end g7
namespace dy
abbrev Rs:Type:=Option ((Ty.den aC) × Unit)
def t (k:Nat) (a0:Ty.den aC):Rs :=
 (rm (Ty.bytes (.int .i64)) (0+List.length a0.1.2.1)
 (rm (Ty.bytes aA) (0+List.length a0.2.1)
 (some (((a0.1.1,(([]++a0.1.2.1),())),(([]++a0.2.1),a0.2.2)),()))))
def f (k:Nat):=t k
end dy
namespace ip
abbrev Rs:Type:=Option ((Ty.den am) × Bool × Unit)
def t (k:Nat) (a0:ByteArray) (a1:Int) (a2:Int):Rs :=
 ((aU.f k a1 0 (ByteArray.size a0:Int)).bind fun r1 =>
 (bif (!r1.1) then
 (some ((0,(0,(ByteArray.empty,(ByteArray.empty,(0,(0,())))))),(false,())))
 else
 ((aU.f k a2 1 (aH ((ByteArray.size a0:Int)-a1))).bind fun r2 =>
 (bif (!r2.1) then
 (some ((0,(0,(ByteArray.empty,(ByteArray.empty,(0,(0,())))))),(false,())))
 else
 (D7 a1 (aH (a1+a2)) (ByteArray.size a0:Int)
 ((dU.f k (ByteArray.extract a0 (Int.toNat a1) (Int.toNat (aH (a1+a2))))).bind fun r3 =>
 ((e9.f k r3.1).bind fun r4 =>
 (bif (r3.2.1 != a2) then
 (some ((0,(0,(ByteArray.empty,(ByteArray.empty,(0,(0,())))))),(false,())))
 else
 (bif (!r4.2.1) then
 (some ((0,(0,(ByteArray.empty,(ByteArray.empty,(0,(0,())))))),(false,())))
 else
 (some (r4.1,(true,()))))))))))))
def f (k:Nat):=t k
end ip
namespace bF
abbrev Rs:Type:=Option (Bool × Unit)
abbrev T1:Type:=Int→Int→List Int→List (Ty.den aA)→Int→Int→Int→List (Ty.den aD)→Int→Int→Bool→Rs
abbrev T0:Type:=Int→Int→List Int→List (Ty.den aA)→Int→Int→Int→List (Ty.den aD)→Int→Int→Bool→Rs
def b1 (k:Nat) (L1:T1):T1:=fun x0 x1 x2 x3 x4 x5 x6 x7 x8 x9 x10 =>
 (bif (decide (x0<(x3.length:Int))) then
 (bX x0 (x3.length:Int)
 ((aS.f k (List.getD x3 (Int.toNat x0) (Ty.dflt aA)).2.1).bind fun r8 =>
 ((bJ.f k (x7,(x8,(x9,(x10,())))) r8.1).bind fun r9 =>
 ((ip.f k r9.1 (List.getD x3 (Int.toNat x0) (Ty.dflt aA)).2.2.1 (List.getD x3 (Int.toNat x0) (Ty.dflt aA)).2.2.2.1).bind fun r10 =>
 (bif (!r10.2.1) then
 (some (false,()))
 else
 (bif (!(seq r10.1.2.2.1 (List.getD x3 (Int.toNat x0) (Ty.dflt aA)).1)) then
 (some (false,()))
 else
 (bif (r10.1.2.1 != (List.getD x3 (Int.toNat x0) (Ty.dflt aA)).2.2.2.2.1) then
 (some (false,()))
 else
 (bif (r10.1.1 != 1) then
 (bif (r10.1.1 != 4) then
 (some (false,()))
 else
 (bif (decide ((List.getD x3 (Int.toNat x0) (Ty.dflt aA)).2.2.2.2.1≥x4)) then
 (some (false,()))
 else
 (L1 (aH (x0+1)) x1 x2 x3 x4 x5 x6 x7 x8 x9 x10)))
 else
 (bif (decide ((List.getD x3 (Int.toNat x0) (Ty.dflt aA)).2.2.2.2.1≥x4)) then
 (some (false,()))
 else
 (L1 (aH (x0+1)) x1 x2 x3 x4 x5 x6 x7 x8 x9 x10))))))))))
 else
 (some (true,())))
def l1 (k:Nat):Nat→T1
 | 0=>fun _ _ _ _ _ _ _ _ _ _ _=>none
 | n+1=>b1 k (l1 k n)
def b0 (k:Nat) (L1:T1) (L0:T0):T0:=fun x0 x1 x2 x3 x4 x5 x6 x7 x8 x9 x10 =>
 (bif (decide (x0<(x2.length:Int))) then
 (bX x0 (x2.length:Int)
 ((aS.f k (List.getD x2 (Int.toNat x0) (Ty.dflt (.int .i64)))).bind fun r5 =>
 ((bJ.f k (x7,(x8,(x9,(x10,())))) r5.1).bind fun r6 =>
 ((bO.f k r6.1).bind fun r7 =>
 (bif (!r6.2.1) then
 (some (false,()))
 else
 (bif (decide (r7.2.1<(ByteArray.size r6.1:Int))) then
 (some (false,()))
 else
 (bif ((aH (x0+1))==(x2.length:Int)) then
 (bif (x5 != (ByteArray.size r6.1:Int)) then
 (some (false,()))
 else
 (L0 (aH (x0+1)) x1 x2 x3 x4 x5 x6 x7 x8 x9 x10))
 else
 (L0 (aH (x0+1)) x1 x2 x3 x4 x5 x6 x7 x8 x9 x10))))))))
 else
 (L1 0 x1 x2 x3 x4 x5 x6 x7 x8 x9 x10))
def l0 (k:Nat):Nat→T0
 | 0=>fun _ _ _ _ _ _ _ _ _ _ _=>none
 | n+1=>b0 k (l1 k k) (l0 k n)
def t (k:Nat) (L0:T0) (a0:Ty.den aC) (a1:Ty.den a_):Rs :=
 ((bn.f k a1).bind fun r1 =>
 (bif (!r1.1) then
 (some (false,()))
 else
 ((dK.f k a0.1).bind fun r2 =>
 (bif (!r2.1) then
 (some (false,()))
 else
 ((ez.f k a0.2.1).bind fun r3 =>
 (bif (!r3.1) then
 (some (false,()))
 else
 ((aU.f k a0.2.2.1 1 1000001).bind fun r4 =>
 (bif (!r4.1) then
 (some (false,()))
 else
 (L0 0 a0.1.1 a0.1.2.1 a0.2.1 a0.2.2.1 a0.2.2.2.1 a0.2.2.2.2.1 a1.1 a1.2.1 a1.2.2.1 a1.2.2.2.1)))))))))
def f (k:Nat):=t k (l0 k k)
end bF
namespace fy
abbrev Rs:Type:=Option ((Ty.den aA) × Bool × Unit)
abbrev T0:Type:=List (Ty.den aA)→ByteArray→Int→ByteArray→Int→Int→Int→Int→Rs
def b0 (k:Nat) (L0:T0):T0:=fun x0 x1 x2 x3 x4 x5 x6 x7 =>
 (bif (decide (x2<(x0.length:Int))) then
 (bX x2 (x0.length:Int)
 (bif (seq (List.getD x0 (Int.toNat x2) (Ty.dflt aA)).1 x1) then
 (bX x2 (x0.length:Int)
 (some ((List.getD x0 (Int.toNat x2) (Ty.dflt aA)),(true,()))))
 else
 (L0 x0 x1 (aH (x2+1)) x3 x4 x5 x6 x7)))
 else
 (some ((ByteArray.empty,(0,(0,(0,(0,()))))),(false,()))))
def l0 (k:Nat):Nat→T0
 | 0=>fun _ _ _ _ _ _ _ _=>none
 | n+1=>b0 k (l0 k n)
def t (k:Nat) (L0:T0) (a0:List (Ty.den aA)) (a1:ByteArray):Rs :=
 (L0 a0 a1 0 ByteArray.empty 0 0 0 0)
def f (k:Nat):=t k (l0 k k)
end fy
namespace mS
abbrev Rs:Type:=Option ((Ty.den aD) × Int × Unit)
def t (k:Nat) (a0:Ty.den aC) (a1:Ty.den a_) (a2:ByteArray):Rs :=
 ((fy.f k a0.2.1 a2).bind fun r1 =>
 (bif (!r1.2.1) then
 (some ((ByteArray.empty,(ByteArray.empty,(0,()))),(8,())))
 else
 ((aS.f k r1.1.2.1).bind fun r2 =>
 ((bJ.f k a1 r2.1).bind fun r3 =>
 ((ip.f k r3.1 r1.1.2.2.1 r1.1.2.2.2.1).bind fun r4 =>
 (bif (!r3.2.1) then
 (some ((ByteArray.empty,(ByteArray.empty,(0,()))),(3,())))
 else
 (bif (!r4.2.1) then
 (some ((ByteArray.empty,(ByteArray.empty,(0,()))),(3,())))
 else
 (bif (!(seq r4.1.2.2.1 a2)) then
 (some ((ByteArray.empty,(ByteArray.empty,(0,()))),(3,())))
 else
 (bif (r4.1.1 != 1) then
 (bif (r4.1.1 != 4) then
 (some ((ByteArray.empty,(ByteArray.empty,(0,()))),(3,())))
 else
 (some ((a2,(r4.1.2.2.2.1,(r4.1.2.1,()))),(0,()))))
 else
 (some ((a2,(r4.1.2.2.2.1,(r4.1.2.1,()))),(0,()))))))))))))
def f (k:Nat):=t k
end mS
namespace gF
abbrev Rs:Type:=Option ((List (Ty.den aD)) × Int × Unit)
abbrev T0:Type:=Int→Int→List Int→List (Ty.den aA)→Int→Int→Int→List (Ty.den aD)→Int→Int→Bool→List (Ty.den aD)→Rs
def b0 (k:Nat) (L0:T0):T0:=fun x0 x1 x2 x3 x4 x5 x6 x7 x8 x9 x10 x11 =>
 (bif (decide (x0<(x3.length:Int))) then
 (bX x0 (x3.length:Int)
 ((mS.f k ((x1,(x2,())),(x3,(x4,(x5,(x6,()))))) (x7,(x8,(x9,(x10,())))) (List.getD x3 (Int.toNat x0) (Ty.dflt aA)).1).bind fun r1 =>
 (bif (r1.2.1 != 0) then
 (some ([],r1.2))
 else
 (rm (Ty.bytes aD) (List.length x11+1)
 (L0 (aH (x0+1)) x1 x2 x3 x4 x5 x6 x7 x8 x9 x10 (x11++[r1.1]))))))
 else
 (some (x11,(0,()))))
def l0 (k:Nat):Nat→T0
 | 0=>fun _ _ _ _ _ _ _ _ _ _ _ _=>none
 | n+1=>b0 k (l0 k n)
def t (k:Nat) (L0:T0) (a0:Ty.den aC) (a1:Ty.den a_):Rs :=
 (L0 0 a0.1.1 a0.1.2.1 a0.2.1 a0.2.2.1 a0.2.2.2.1 a0.2.2.2.2.1 a1.1 a1.2.1 a1.2.2.1 a1.2.2.2.1 [])
def f (k:Nat):=t k (l0 k k)
end gF
namespace kS
abbrev Rs:Type:=Option ((Ty.den am) × Unit)
def t (k:Nat) (a0:Ty.den aD):Rs :=
 (some ((4,(a0.2.2.1,(a0.1,(a0.2.1,(0,(0,())))))),()))
def f (k:Nat):=t k
end kS
namespace fu
abbrev Rs:Type:=Option ((Ty.den am) × Unit)
def t (k:Nat) (a0:List (Ty.den am)) (a1:Int) (a2:Int):Rs :=
 ((fh.f k a0).bind fun r1 =>
 (some ((a2,(a1,(ByteArray.empty,(ByteArray.empty,((List.length a0:Int),r1))))),())))
def f (k:Nat):=t k
end fu
namespace dX
abbrev Rs:Type:=Option ((Ty.den a_) × (List (Ty.den aA)) × Int × Unit)
abbrev T0:Type:=Int→List (Ty.den aD)→Int→Int→Int→Int→List (Ty.den aD)→Int→Int→Bool→List (Ty.den aA)→List (Ty.den aD)→Int→Int→Bool→List (Ty.den am)→Rs
def b0 (k:Nat) (L0:T0):T0:=fun x0 x1 x2 x3 x4 x5 x6 x7 x8 x9 x10 x11 x12 x13 x14 x15 =>
 (bif (decide (x5<(x1.length:Int))) then
 (bif (x3==0) then
 (bX x5 (x1.length:Int)
 ((kS.f k (List.getD x1 (Int.toNat x5) (Ty.dflt aD))).bind fun r3 =>
 ((bd.f k r3.1).bind fun r4 =>
 ((eP.f k r4.1).bind fun r5 =>
 ((aS.f k x0).bind fun r6 =>
 ((bS.f k (x11,(x12,(x13,(x14,())))) r6.1 r5.1).bind fun r7 =>
 (rm (Ty.bytes am) (List.length x15+1)
 (rm (Ty.bytes aA) (List.length x10+1)
 (L0 x0 x1 x2 r7.2.1 (aH (x4+(ByteArray.size r5.1:Int))) (aH (x5+1)) x6 x7 x8 x9 (x10++[(r3.1.2.2.1,(x0,(x4,((ByteArray.size r5.1:Int),(r3.1.2.1,())))))]) r7.1.1 r7.1.2.1 r7.1.2.2.1 r7.1.2.2.2.1 (x15++[r3.1]))))))))))
 else
 (bif (x3==0) then
 ((aS.f k x0).bind fun r8 =>
 ((fu.f k x15 x2 5).bind fun r9 =>
 ((bd.f k r9.1).bind fun r10 =>
 ((eP.f k r10.1).bind fun r11 =>
 ((bS.f k (x11,(x12,(x13,(x14,())))) r8.1 r11.1).bind fun r12 =>
 (bif (r12.2.1==0) then
 ((aS.f k x0).bind fun r13 =>
 ((bx.f k r12.1 r13.1).bind fun r14 =>
 ((aP.f k r14.2.1).bind fun r15 =>
 (some (r14.1,(x10,r15))))))
 else
 ((aP.f k r12.2.1).bind fun r16 =>
 (some (r12.1,(x10,r16))))))))))
 else
 (bif (x3==0) then
 ((aS.f k x0).bind fun r17 =>
 ((bx.f k (x11,(x12,(x13,(x14,())))) r17.1).bind fun r18 =>
 ((aP.f k r18.2.1).bind fun r19 =>
 (some (r18.1,(x10,r19))))))
 else
 ((aP.f k x3).bind fun r20 =>
 (some ((x11,(x12,(x13,(x14,())))),(x10,r20)))))))
 else
 (bif (x3==0) then
 ((aS.f k x0).bind fun r21 =>
 ((fu.f k x15 x2 5).bind fun r22 =>
 ((bd.f k r22.1).bind fun r23 =>
 ((eP.f k r23.1).bind fun r24 =>
 ((bS.f k (x11,(x12,(x13,(x14,())))) r21.1 r24.1).bind fun r25 =>
 (bif (r25.2.1==0) then
 ((aS.f k x0).bind fun r26 =>
 ((bx.f k r25.1 r26.1).bind fun r27 =>
 ((aP.f k r27.2.1).bind fun r28 =>
 (some (r27.1,(x10,r28))))))
 else
 ((aP.f k r25.2.1).bind fun r29 =>
 (some (r25.1,(x10,r29))))))))))
 else
 (bif (x3==0) then
 ((aS.f k x0).bind fun r30 =>
 ((bx.f k (x11,(x12,(x13,(x14,())))) r30.1).bind fun r31 =>
 ((aP.f k r31.2.1).bind fun r32 =>
 (some (r31.1,(x10,r32))))))
 else
 ((aP.f k x3).bind fun r33 =>
 (some ((x11,(x12,(x13,(x14,())))),(x10,r33)))))))
def l0 (k:Nat):Nat→T0
 | 0=>fun _ _ _ _ _ _ _ _ _ _ _ _ _ _ _ _=>none
 | n+1=>b0 k (l0 k n)
def t (k:Nat) (L0:T0) (a0:Ty.den a_) (a1:Int) (a2:List (Ty.den aD)) (a3:Int):Rs :=
 ((aS.f k a1).bind fun r1 =>
 ((d7.f k a0 r1.1).bind fun r2 =>
 (L0 a1 a2 a3 r2.2.1 0 0 [] 0 0 false [] r2.1.1 r2.1.2.1 r2.1.2.2.1 r2.1.2.2.2.1 [])))
def f (k:Nat):=t k (l0 k k)
end dX
namespace bR
abbrev Rs:Type:=Option ((Ty.den a_) × Int × Unit)
abbrev T0:Type:=List ByteArray→Int→List (Ty.den aD)→Int→Int→Bool→List (Ty.den aD)→Int→Int→Bool→Rs
def b0 (k:Nat) (L0:T0):T0:=fun x0 x1 x2 x3 x4 x5 x6 x7 x8 x9 =>
 (bif (decide (x1<(x0.length:Int))) then
 (bX x1 (x0.length:Int)
 ((bD.f k (x2,(x3,(x4,(x5,())))) (List.getD x0 (Int.toNat x1) (Ty.dflt .str))).bind fun r1 =>
 (bif (decide (r1.1<0)) then
 (L0 x0 (aH (x1+1)) x2 x3 x4 x5 x6 x7 x8 x9)
 else
 (bX x1 (x0.length:Int)
 ((gJ.f k (x2,(x3,(x4,(x5,())))) (List.getD x0 (Int.toNat x1) (Ty.dflt .str))).bind fun r2 =>
 (bif (r2.2.1 != 0) then
 (some r2)
 else
 (L0 x0 (aH (x1+1)) r2.1.1 r2.1.2.1 r2.1.2.2.1 r2.1.2.2.2.1 x6 x7 x8 x9)))))))
 else
 (some ((x2,(x3,(x4,(x5,())))),(0,()))))
def l0 (k:Nat):Nat→T0
 | 0=>fun _ _ _ _ _ _ _ _ _ _=>none
 | n+1=>b0 k (l0 k n)
def t (k:Nat) (L0:T0) (a0:Ty.den a_) (a1:List ByteArray):Rs :=
 (L0 a1 0 a0.1 a0.2.1 a0.2.2.1 a0.2.2.2.1 [] 0 0 false)
def f (k:Nat):=t k (l0 k k)
end bR
namespace dV
abbrev Rs:Type:=Option ((Ty.den aC) × (Ty.den a_) × Int × Unit)
def t (k:Nat) (a0:Ty.den aC) (a1:Ty.den a_) (a2:Int) (a3:Int):Rs :=
 (bif (a3 != 2) then
 (some (a0,(a1,(a3,()))))
 else
 ((aS.f k a2).bind fun r1 =>
 ((aS.f k (aH (a2+1))).bind fun r2 =>
 ((cX.f k a2).bind fun r3 =>
 ((bR.f k a1 [(⟨#[116,101,109,112]⟩:ByteArray),r1.1,r2.1,r3.1]).bind fun r4 =>
 (bif (r4.2.1 != 0) then
 ((aP.f k r4.2.1).bind fun r5 =>
 (some (a0,(r4.1,r5))))
 else
 (some (a0,(r4.1,(a3,()))))))))))
def f (k:Nat):=t k
end dV
namespace bp
abbrev Rs:Type:=Option ((Ty.den aC) × (Ty.den a_) × Int × Unit)
abbrev T0:Type:=Int→List Int→List (Ty.den aA)→Int→Int→Int→Int→List Int→List (Ty.den aA)→Int→Int→Int→Int→List (Ty.den aD)→Int→Int→Bool→List (Ty.den aD)→Int→Int→Bool→List Int→Rs
def b0 (k:Nat) (L0:T0):T0:=fun x0 x1 x2 x3 x4 x5 x6 x7 x8 x9 x10 x11 x12 x13 x14 x15 x16 x17 x18 x19 x20 x21 =>
 (bif (decide (x0<(x21.length:Int))) then
 (bX x0 (x21.length:Int)
 ((aS.f k (List.getD x21 (Int.toNat x0) (Ty.dflt (.int .i64)))).bind fun r18 =>
 (bX x0 (x21.length:Int)
 ((cX.f k (List.getD x21 (Int.toNat x0) (Ty.dflt (.int .i64)))).bind fun r19 =>
 ((bR.f k (x17,(x18,(x19,(x20,())))) [r18.1,r19.1]).bind fun r20 =>
 (bif (r20.2.1 != 0) then
 ((aP.f k r20.2.1).bind fun r21 =>
 (some (((x3,(x1,())),(x2,(x4,(x5,(x6,()))))),(r20.1,r21))))
 else
 (L0 (aH (x0+1)) x1 x2 x3 x4 x5 x6 x7 x8 x9 x10 x11 x12 x13 x14 x15 x16 r20.1.1 r20.1.2.1 r20.1.2.2.1 r20.1.2.2.2.1 x21)))))))
 else
 (some (((x3,(x1,())),(x2,(x4,(x5,(x6,()))))),((x17,(x18,(x19,(x20,())))),(0,())))))
def l0 (k:Nat):Nat→T0
 | 0=>fun _ _ _ _ _ _ _ _ _ _ _ _ _ _ _ _ _ _ _ _ _ _=>none
 | n+1=>b0 k (l0 k n)
def t (k:Nat) (L0:T0) (a0:Ty.den aC) (a1:Ty.den a_) (a2:List (Ty.den aD)):Rs :=
 ((dX.f k a1 a0.1.1 a2 (aH (a0.2.2.1-1))).bind fun r1 =>
 (bif (r1.2.2.1 != 0) then
 ((dV.f k (((aH (a0.1.1+2)),a0.1.2),a0.2) r1.1 a0.1.1 r1.2.2.1).bind fun r2 =>
 (some r2))
 else
 ((aS.f k (aH (a0.1.1+1))).bind fun r3 =>
 ((d7.f k r1.1 r3.1).bind fun r4 =>
 (bif (r4.2.1 != 0) then
 ((aP.f k r4.2.1).bind fun r5 =>
 ((dV.f k (((aH (a0.1.1+2)),a0.1.2),a0.2) r4.1 a0.1.1 r5.1).bind fun r6 =>
 (some r6)))
 else
 ((aS.f k a0.1.1).bind fun r7 =>
 ((bJ.f k r4.1 r7.1).bind fun r8 =>
 ((dj.f k a0.1.1 r8.1).bind fun r9 =>
 ((cX.f k a0.1.1).bind fun r10 =>
 ((dL.f k r9.1).bind fun r11 =>
 ((gg.f k r4.1 r10.1 r11.1).bind fun r12 =>
 (bif (r12.2.1==2) then
 ((cX.f k a0.1.1).bind fun r13 =>
 ((bR.f k r12.1 [r13.1]).bind fun r14 =>
 (bif (r14.2.1 != 0) then
 ((aP.f k r14.2.1).bind fun r15 =>
 (some ((((aH (a0.1.1+2)),a0.1.2),a0.2),(r14.1,r15))))
 else
 (rm (Ty.bytes (.int .i64)) (0+List.length a0.1.2.1)
 ((dT.f k r14.1 ((aH (a0.1.1+2)),([a0.1.1,(aH (a0.1.1+1))],()))).bind fun r16 =>
 (bif (r16.2.1 != 0) then
 ((dV.f k (((aH (a0.1.1+2)),a0.1.2),a0.2) r16.1 a0.1.1 r16.2.1).bind fun r17 =>
 (some r17))
 else
 (L0 0 [a0.1.1,(aH (a0.1.1+1))] r1.2.1 (aH (a0.1.1+2)) a0.2.2.1 0 0 [] [] 0 0 0 0 [] 0 0 false r16.1.1 r16.1.2.1 r16.1.2.2.1 r16.1.2.2.2.1 ([]++a0.1.2.1))))))))
 else
 (bif (r12.2.1 != 0) then
 ((aP.f k r12.2.1).bind fun r22 =>
 (some ((((aH (a0.1.1+2)),a0.1.2),a0.2),(r12.1,r22))))
 else
 (rm (Ty.bytes (.int .i64)) (0+List.length a0.1.2.1)
 ((dT.f k r12.1 ((aH (a0.1.1+2)),([a0.1.1,(aH (a0.1.1+1))],()))).bind fun r23 =>
 (bif (r23.2.1 != 0) then
 ((dV.f k (((aH (a0.1.1+2)),a0.1.2),a0.2) r23.1 a0.1.1 r23.2.1).bind fun r24 =>
 (some r24))
 else
 (L0 0 [a0.1.1,(aH (a0.1.1+1))] r1.2.1 (aH (a0.1.1+2)) a0.2.2.1 0 0 [] [] 0 0 0 0 [] 0 0 false r23.1.1 r23.1.2.1 r23.1.2.2.1 r23.1.2.2.2.1 ([]++a0.1.2.1))))))))))))))))))
def f (k:Nat):=t k (l0 k k)
end bp
namespace k7
abbrev Rs:Type:=Option ((Ty.den aC) × (Ty.den a_) × Int × Unit)
def t (k:Nat) (a0:Ty.den aC) (a1:Ty.den a_):Rs :=
 ((dy.f k a0).bind fun r1 =>
 ((bv.f k a1).bind fun r2 =>
 ((bF.f k a0 a1).bind fun r3 =>
 (bif (!r3.1) then
 (some (r1.1,(r2.1,(4,()))))
 else
 (bif (decide ((aH (a0.1.1+2)) > 100000)) then
 (some (r1.1,(r2.1,(5,()))))
 else
 ((gF.f k a0 a1).bind fun r4 =>
 (bif (r4.2.1 != 0) then
 (some (r1.1,(r2.1,r4.2)))
 else
 ((bp.f k r1.1 r2.1 r4.1).bind fun r5 =>
 (some r5)))))))))
def f (k:Nat):=t k
end k7
namespace eO
abbrev Rs:Type:=Option ((Ty.den ap) × ByteArray × Unit)
def t (k:Nat) (a0:Ty.den ap) (a1:List ByteArray):Rs :=
 ((aV.f k a0 (List.length a1:Int)).bind fun r1 =>
 (bX r1.2.1 (List.length a1:Int)
 (some (r1.1,((List.getD a1 (Int.toNat r1.2.1) (Ty.dflt .str)),())))))
def f (k:Nat):=t k
end eO
namespace il
abbrev Rs:Type:=Option ((Ty.den ap) × ByteArray × Unit)
def t (k:Nat) (a0:Ty.den ap):Rs :=
 ((eO.f k a0 [(⟨#[97]⟩:ByteArray),(⟨#[98]⟩:ByteArray),(⟨#[99]⟩:ByteArray),(⟨#[107,101,121]⟩:ByteArray),(⟨#[108,111,110,103,110,97,109,101]⟩:ByteArray)]).bind fun r1 =>
 (some r1))
def f (k:Nat):=t k
end il
namespace dI
abbrev Rs:Type:=Option ((Ty.den ap) × ByteArray × Unit)
abbrev T0:Type:=Int→Int→List Int→Int→Int→List Int→Rs
def b0 (k:Nat) (L0:T0):T0:=fun x0 x1 x2 x3 x4 x5 =>
 (bif (decide (x1 > 0)) then
 ((eu.f k (x2,(x3,(x4,())))).bind fun r3 =>
 (bif (x0==1) then
 (bif (x0==2) then
 (rm (Ty.bytes (.int .u8)) (List.length x5+1)
 (L0 x0 (aH (x1-1)) r3.1.1 r3.1.2.1 r3.1.2.2.1 (x5++[(IntKind.wrap .u8 (aH (97+(Int.tmod (Int.tmod r3.2.1 2) 4))))])))
 else
 (rm (Ty.bytes (.int .u8)) (List.length x5+1)
 (L0 x0 (aH (x1-1)) r3.1.1 r3.1.2.1 r3.1.2.2.1 (x5++[(IntKind.wrap .u8 (Int.tmod r3.2.1 2))]))))
 else
 (bif (x0==2) then
 (rm (Ty.bytes (.int .u8)) (List.length x5+1)
 (L0 x0 (aH (x1-1)) r3.1.1 r3.1.2.1 r3.1.2.2.1 (x5++[(IntKind.wrap .u8 (aH (97+(Int.tmod r3.2.1 4))))])))
 else
 (rm (Ty.bytes (.int .u8)) (List.length x5+1)
 (L0 x0 (aH (x1-1)) r3.1.1 r3.1.2.1 r3.1.2.2.1 (x5++[(IntKind.wrap .u8 r3.2.1)]))))))
 else
 (some ((x2,(x3,(x4,()))),((bytesOf x5),()))))
def l0 (k:Nat):Nat→T0
 | 0=>fun _ _ _ _ _ _=>none
 | n+1=>b0 k (l0 k n)
def t (k:Nat) (L0:T0) (a0:Ty.den ap) (a1:Int):Rs :=
 ((aV.f k a0 4).bind fun r1 =>
 ((aV.f k r1.1 (aH (a1+1))).bind fun r2 =>
 (L0 r1.2.1 r2.2.1 r2.1.1 r2.1.2.1 r2.1.2.2.1 [])))
def f (k:Nat):=t k (l0 k k)
end dI
namespace dx
abbrev Rs:Type:=Option ((Ty.den ap) × (List (Ty.den af)) × Unit)
abbrev T0:Type:=Int→List Int→Int→Int→List (Ty.den af)→Rs
def b0 (k:Nat) (L0:T0):T0:=fun x0 x1 x2 x3 x4 =>
 (bif (decide (x0 > 0)) then
 ((il.f k (x1,(x2,(x3,())))).bind fun r2 =>
 ((dI.f k r2.1 16).bind fun r3 =>
 ((g7.f k r3.1 4).bind fun r4 =>
 (bif r4.2.1 then
 (rm (Ty.bytes af) (List.length x4+1)
 (L0 (aH (x0-1)) r4.1.1 r4.1.2.1 r4.1.2.2.1 (x4++[(r2.2.1,(true,(ByteArray.empty,())))])))
 else
 (rm (Ty.bytes af) (List.length x4+1)
 (L0 (aH (x0-1)) r4.1.1 r4.1.2.1 r4.1.2.2.1 (x4++[(r2.2.1,(false,r3.2))])))))))
 else
 (some ((x1,(x2,(x3,()))),(x4,()))))
def l0 (k:Nat):Nat→T0
 | 0=>fun _ _ _ _ _=>none
 | n+1=>b0 k (l0 k n)
def t (k:Nat) (L0:T0) (a0:Ty.den ap):Rs :=
 ((aV.f k a0 4).bind fun r1 =>
 (L0 r1.2.1 r1.1.1 r1.1.2.1 r1.1.2.2.1 []))
def f (k:Nat):=t k (l0 k k)
end dx
namespace di
abbrev Rs:Type:=Option (Bool × Unit)
abbrev T0:Type:=List (Ty.den af)→Int→Rs
def b0 (k:Nat) (L0:T0):T0:=fun x0 x1 =>
 (bif (decide (x1<(x0.length:Int))) then
 (bX x1 (x0.length:Int)
 ((e7.f k (List.getD x0 (Int.toNat x1) (Ty.dflt af)).1).bind fun r1 =>
 (bif (!r1.1) then
 (some (false,()))
 else
 (bX x1 (x0.length:Int)
 (bif (decide ((ByteArray.size (List.getD x0 (Int.toNat x1) (Ty.dflt af)).2.2.1:Int) > 24)) then
 (some (false,()))
 else
 (bX x1 (x0.length:Int)
 (bif (List.getD x0 (Int.toNat x1) (Ty.dflt af)).2.1 then
 (bX x1 (x0.length:Int)
 (bif (!(seq (List.getD x0 (Int.toNat x1) (Ty.dflt af)).2.2.1 (⟨#[]⟩:ByteArray))) then
 (some (false,()))
 else
 (L0 x0 (aH (x1+1)))))
 else
 (L0 x0 (aH (x1+1))))))))))
 else
 (some (true,())))
def l0 (k:Nat):Nat→T0
 | 0=>fun _ _=>none
 | n+1=>b0 k (l0 k n)
def t (k:Nat) (L0:T0) (a0:List (Ty.den af)):Rs :=
 (bif (decide ((List.length a0:Int) > 8)) then
 (some (false,()))
 else
 (L0 a0 0))
def f (k:Nat):=t k (l0 k k)
end di
namespace cG
abbrev Rs:Type:=Option (Int × Unit)
abbrev T1:Type:=List (Ty.den af)→Int→List (Ty.den aA)→Rs
abbrev T0:Type:=List (Ty.den aA)→List (Ty.den af)→Int→Rs
def b1 (k:Nat) (L1:T1):T1:=fun x0 x1 x2 =>
 (bif (decide (x1<(x0.length:Int))) then
 (bX x1 (x0.length:Int)
 (bif (List.getD x0 (Int.toNat x1) (Ty.dflt af)).2.1 then
 (bX x1 (x0.length:Int)
 ((cq.f k x2 (List.getD x0 (Int.toNat x1) (Ty.dflt af)).1).bind fun r2 =>
 (L1 x0 (aH (x1+1)) r2.1)))
 else
 (bX x1 (x0.length:Int)
 ((bZ.f k x2 ((List.getD x0 (Int.toNat x1) (Ty.dflt af)).1,(0,(0,(0,(0,())))))).bind fun r3 =>
 (L1 x0 (aH (x1+1)) r3.1)))))
 else
 (some ((x2.length:Int),())))
def l1 (k:Nat):Nat→T1
 | 0=>fun _ _ _=>none
 | n+1=>b1 k (l1 k n)
def b0 (k:Nat) (L1:T1):T0:=fun x0 x1 x2 =>
 (bif (decide (x2<(x1.length:Int))) then
 (bX x2 (x1.length:Int)
 (bif (List.getD x1 (Int.toNat x2) (Ty.dflt af)).2.1 then
 (bX x2 (x1.length:Int)
 ((cq.f k x0 (List.getD x1 (Int.toNat x2) (Ty.dflt af)).1).bind fun r1 =>
 (L1 x1 (aH (x2+1)) r1.1)))
 else
 (bX x2 (x1.length:Int)
 ((bZ.f k x0 ((List.getD x1 (Int.toNat x2) (Ty.dflt af)).1,(0,(0,(0,(0,())))))).bind fun r4 =>
 (L1 x1 (aH (x2+1)) r4.1)))))
 else
 (some ((x0.length:Int),())))
def l0 (k:Nat):Nat→T0
 | 0=>fun _ _ _=>none
 | n+1=>b0 k (l1 k n)
def t (k:Nat) (L0:T0) (a0:List (Ty.den aA)) (a1:List (Ty.den af)):Rs :=
 (L0 a0 a1 0)
def f (k:Nat):=t k (l0 k k)
end cG
namespace b_
abbrev Rs:Type:=Option (ByteArray × Unit)
def t (k:Nat) (a0:Ty.den aC):Rs :=
 (bX (aH ((List.length a0.1.2.1:Int)-1)) (List.length a0.1.2.1:Int)
 ((aS.f k (List.getD a0.1.2.1 (Int.toNat (aH ((List.length a0.1.2.1:Int)-1))) (Ty.dflt (.int .i64)))).bind fun r1 =>
 (some r1)))
def f (k:Nat):=t k
end b_
namespace jq
abbrev Rs:Type:=Option ((Ty.den aC) × (Ty.den a_) × Int × Unit)
def t (k:Nat) (a0:Ty.den aC) (a1:Ty.den a_):Rs :=
 (bif (decide ((List.length a0.1.2.1:Int)≥60)) then
 (some (a0,(a1,(5,()))))
 else
 (bif (decide (a0.1.1≥100000)) then
 (some (a0,(a1,(5,()))))
 else
 ((b_.f k a0).bind fun r1 =>
 ((bx.f k a1 r1.1).bind fun r2 =>
 (bif (r2.2.1 != 0) then
 ((aP.f k r2.2.1).bind fun r3 =>
 (some (a0,(r2.1,r3))))
 else
 ((aS.f k a0.1.1).bind fun r4 =>
 ((d7.f k r2.1 r4.1).bind fun r5 =>
 (bif (r5.2.1 != 0) then
 ((aP.f k r5.2.1).bind fun r6 =>
 (some ((((aH (a0.1.1+1)),a0.1.2),a0.2),(r5.1,r6))))
 else
 (rm (Ty.bytes (.int .i64)) (0+List.length a0.1.2.1)
 (rm (Ty.bytes (.int .i64)) (List.length ([]++a0.1.2.1)+1)
 ((dT.f k r5.1 ((aH (a0.1.1+1)),((([]++a0.1.2.1)++[a0.1.1]),()))).bind fun r7 =>
 (bif (r7.2.1==2) then
 ((aS.f k a0.1.1).bind fun r8 =>
 ((bR.f k r7.1 [(⟨#[116,101,109,112]⟩:ByteArray),r8.1]).bind fun r9 =>
 (bif (r9.2.1 != 0) then
 ((aP.f k r9.2.1).bind fun r10 =>
 (some ((((aH (a0.1.1+1)),a0.1.2),a0.2),(r9.1,r10))))
 else
 (some ((((aH (a0.1.1+1)),a0.1.2),a0.2),(r9.1,r7.2))))))
 else
 (bif (r7.2.1 != 0) then
 (some ((((aH (a0.1.1+1)),a0.1.2),a0.2),r7))
 else
 (some ((((aH (a0.1.1+1)),((([]++a0.1.2.1)++[a0.1.1]),())),(a0.2.1,(a0.2.2.1,(0,a0.2.2.2.2)))),(r7.1,(0,())))))))))))))))))
def f (k:Nat):=t k
end jq
namespace jr
abbrev Rs:Type:=Option ((Ty.den aC) × (Ty.den a_) × (Ty.den aL) × Int × Unit)
def t (k:Nat) (a0:Ty.den aC) (a1:Ty.den a_) (a2:Ty.den am):Rs :=
 ((bd.f k a2).bind fun r1 =>
 ((eP.f k r1.1).bind fun r2 =>
 (bif (decide (a0.2.2.2.1 > 0)) then
 (bif (decide ((aH (a0.2.2.2.1+(ByteArray.size r2.1:Int))) > 200)) then
 ((jq.f k a0 a1).bind fun r3 =>
 (bif (r3.2.2.1 != 0) then
 (some (r3.1,(r3.2.1,((0,(0,(0,((0,(0,(ByteArray.empty,(ByteArray.empty,(0,(0,())))))),())))),r3.2.2))))
 else
 ((b_.f k r3.1).bind fun r4 =>
 ((bS.f k r3.2.1 r4.1 r2.1).bind fun r5 =>
 (bif (r5.2.1 != 0) then
 ((aP.f k r5.2.1).bind fun r6 =>
 (some (r3.1,(r5.1,((0,(0,(0,((0,(0,(ByteArray.empty,(ByteArray.empty,(0,(0,())))))),())))),r6)))))
 else
 (bX (aH ((List.length r3.1.1.2.1:Int)-1)) (List.length r3.1.1.2.1:Int)
 (some ((r3.1.1,(r3.1.2.1,(r3.1.2.2.1,((aH (r3.1.2.2.2.1+(ByteArray.size r2.1:Int))),r3.1.2.2.2.2)))),(r5.1,(((List.getD r3.1.1.2.1 (Int.toNat (aH ((List.length r3.1.1.2.1:Int)-1))) (Ty.dflt (.int .i64))),(r3.1.2.2.2.1,((ByteArray.size r2.1:Int),(a2,())))),(0,())))))))))))
 else
 ((b_.f k a0).bind fun r7 =>
 ((bS.f k a1 r7.1 r2.1).bind fun r8 =>
 (bif (r8.2.1 != 0) then
 ((aP.f k r8.2.1).bind fun r9 =>
 (some (a0,(r8.1,((0,(0,(0,((0,(0,(ByteArray.empty,(ByteArray.empty,(0,(0,())))))),())))),r9)))))
 else
 (bX (aH ((List.length a0.1.2.1:Int)-1)) (List.length a0.1.2.1:Int)
 (some ((a0.1,(a0.2.1,(a0.2.2.1,((aH (a0.2.2.2.1+(ByteArray.size r2.1:Int))),a0.2.2.2.2)))),(r8.1,(((List.getD a0.1.2.1 (Int.toNat (aH ((List.length a0.1.2.1:Int)-1))) (Ty.dflt (.int .i64))),(a0.2.2.2.1,((ByteArray.size r2.1:Int),(a2,())))),(0,()))))))))))
 else
 ((b_.f k a0).bind fun r10 =>
 ((bS.f k a1 r10.1 r2.1).bind fun r11 =>
 (bif (r11.2.1 != 0) then
 ((aP.f k r11.2.1).bind fun r12 =>
 (some (a0,(r11.1,((0,(0,(0,((0,(0,(ByteArray.empty,(ByteArray.empty,(0,(0,())))))),())))),r12)))))
 else
 (bX (aH ((List.length a0.1.2.1:Int)-1)) (List.length a0.1.2.1:Int)
 (some ((a0.1,(a0.2.1,(a0.2.2.1,((aH (a0.2.2.2.1+(ByteArray.size r2.1:Int))),a0.2.2.2.2)))),(r11.1,(((List.getD a0.1.2.1 (Int.toNat (aH ((List.length a0.1.2.1:Int)-1))) (Ty.dflt (.int .i64))),(a0.2.2.2.1,((ByteArray.size r2.1:Int),(a2,())))),(0,()))))))))))))
def f (k:Nat):=t k
end jr
namespace eo
abbrev Rs:Type:=Option ((Ty.den aC) × (Ty.den a_) × Int × Unit)
abbrev T0:Type:=List (Ty.den af)→Int→Int→Int→List Int→List (Ty.den aA)→Int→Int→Int→List (Ty.den aD)→Int→Int→Bool→List Int→List (Ty.den aA)→Int→Int→Int→Int→List (Ty.den aD)→Int→Int→Bool→List (Ty.den am)→List (Ty.den aA)→Rs
def b0 (k:Nat) (L0:T0):T0:=fun x0 x1 x2 x3 x4 x5 x6 x7 x8 x9 x10 x11 x12 x13 x14 x15 x16 x17 x18 x19 x20 x21 x22 x23 x24 =>
 (bif (decide (x2<(x0.length:Int))) then
 (bX x2 (x0.length:Int)
 (bX x2 (x0.length:Int)
 (bX x2 (x0.length:Int)
 (bif (List.getD x0 (Int.toNat x2) (Ty.dflt af)).2.1 then
 ((jr.f k ((x3,(x4,())),(x5,(x6,(x7,(x8,()))))) (x9,(x10,(x11,(x12,())))) (2,(x1,((List.getD x0 (Int.toNat x2) (Ty.dflt af)).1,((List.getD x0 (Int.toNat x2) (Ty.dflt af)).2.2.1,(0,(0,()))))))).bind fun r1 =>
 (bif (r1.2.2.2.1 != 0) then
 (some (r1.1,(r1.2.1,r1.2.2.2)))
 else
 ((fm.f k x24 r1.2.2.1).bind fun r2 =>
 (rm (Ty.bytes am) (List.length x23+1)
 (L0 x0 x1 (aH (x2+1)) r1.1.1.1 r1.1.1.2.1 r1.1.2.1 r1.1.2.2.1 r1.1.2.2.2.1 r1.1.2.2.2.2.1 r1.2.1.1 r1.2.1.2.1 r1.2.1.2.2.1 r1.2.1.2.2.2.1 x13 x14 x15 x16 x17 x18 x19 x20 x21 x22 (x23++[(2,(x1,((List.getD x0 (Int.toNat x2) (Ty.dflt af)).1,((List.getD x0 (Int.toNat x2) (Ty.dflt af)).2.2.1,(0,(0,()))))))]) r2.1)))))
 else
 ((jr.f k ((x3,(x4,())),(x5,(x6,(x7,(x8,()))))) (x9,(x10,(x11,(x12,())))) (1,(x1,((List.getD x0 (Int.toNat x2) (Ty.dflt af)).1,((List.getD x0 (Int.toNat x2) (Ty.dflt af)).2.2.1,(0,(0,()))))))).bind fun r3 =>
 (bif (r3.2.2.2.1 != 0) then
 (some (r3.1,(r3.2.1,r3.2.2.2)))
 else
 ((fm.f k x24 r3.2.2.1).bind fun r4 =>
 (rm (Ty.bytes am) (List.length x23+1)
 (L0 x0 x1 (aH (x2+1)) r3.1.1.1 r3.1.1.2.1 r3.1.2.1 r3.1.2.2.1 r3.1.2.2.2.1 r3.1.2.2.2.2.1 r3.2.1.1 r3.2.1.2.1 r3.2.1.2.2.1 r3.2.1.2.2.2.1 x13 x14 x15 x16 x17 x18 x19 x20 x21 x22 (x23++[(1,(x1,((List.getD x0 (Int.toNat x2) (Ty.dflt af)).1,((List.getD x0 (Int.toNat x2) (Ty.dflt af)).2.2.1,(0,(0,()))))))]) r4.1)))))))))
 else
 ((fu.f k x23 x1 3).bind fun r5 =>
 ((jr.f k ((x3,(x4,())),(x5,(x6,(x7,(x8,()))))) (x9,(x10,(x11,(x12,())))) r5.1).bind fun r6 =>
 (bif (r6.2.2.2.1 != 0) then
 (some (r6.1,(r6.2.1,r6.2.2.2)))
 else
 ((b_.f k r6.1).bind fun r7 =>
 ((bx.f k r6.2.1 r7.1).bind fun r8 =>
 (bif (r8.2.1 != 0) then
 ((aP.f k r8.2.1).bind fun r9 =>
 (some (r6.1,(r8.1,r9))))
 else
 (some ((r6.1.1,(x24,r6.1.2.2)),(r8.1,(0,())))))))))))
def l0 (k:Nat):Nat→T0
 | 0=>fun _ _ _ _ _ _ _ _ _ _ _ _ _ _ _ _ _ _ _ _ _ _ _ _ _=>none
 | n+1=>b0 k (l0 k n)
def t (k:Nat) (L0:T0) (a0:Ty.den aC) (a1:Ty.den a_) (a2:List (Ty.den af)):Rs :=
 (rm (Ty.bytes aA) (0+List.length a0.2.1)
 (L0 a2 a0.2.2.1 0 a0.1.1 a0.1.2.1 a0.2.1 (aH (a0.2.2.1+1)) a0.2.2.2.1 a0.2.2.2.2.1 a1.1 a1.2.1 a1.2.2.1 a1.2.2.2.1 [] [] 0 0 0 0 [] 0 0 false [] ([]++a0.2.1)))
def f (k:Nat):=t k (l0 k k)
end eo
namespace jS
abbrev Rs:Type:=Option ((Ty.den aC) × (Ty.den a_) × Int × Unit)
def t (k:Nat) (a0:Ty.den aC) (a1:Ty.den a_) (a2:List (Ty.den af)):Rs :=
 ((dy.f k a0).bind fun r1 =>
 ((bv.f k a1).bind fun r2 =>
 ((bF.f k a0 a1).bind fun r3 =>
 (bif (!r3.1) then
 (some (r1.1,(r2.1,(4,()))))
 else
 ((di.f k a2).bind fun r4 =>
 (bif (!r4.1) then
 (some (r1.1,(r2.1,(4,()))))
 else
 (bif ((List.length a2:Int)==0) then
 (some (r1.1,(r2.1,(0,()))))
 else
 ((cG.f k a0.2.1 a2).bind fun r5 =>
 (bif (decide (r5.1 > 20)) then
 (some (r1.1,(r2.1,(5,()))))
 else
 (bif (decide (a0.2.2.1 > 1000000)) then
 (some (r1.1,(r2.1,(5,()))))
 else
 ((eo.f k r1.1 r2.1 a2).bind fun r6 =>
 (some r6))))))))))))
def f (k:Nat):=t k
end jS
namespace fJ
abbrev Rs:Type:=Option ((Ty.den aC) × (Ty.den a_) × Int × Unit)
def t (k:Nat) (a0:Ty.den aC) (a1:Ty.den a_):Rs :=
 (bif (decide ((List.length a0.1.2.1:Int)≥60)) then
 (some (a0,(a1,(5,()))))
 else
 (bif (decide (a0.1.1≥100000)) then
 (some (a0,(a1,(5,()))))
 else
 ((b_.f k a0).bind fun r1 =>
 ((bx.f k a1 r1.1).bind fun r2 =>
 (bif (r2.2.1 != 0) then
 ((aP.f k r2.2.1).bind fun r3 =>
 (some (a0,(r2.1,r3))))
 else
 ((aS.f k a0.1.1).bind fun r4 =>
 ((d7.f k r2.1 r4.1).bind fun r5 =>
 (bif (r5.2.1 != 0) then
 ((aP.f k r5.2.1).bind fun r6 =>
 (some ((((aH (a0.1.1+1)),a0.1.2),a0.2),(r5.1,r6))))
 else
 (rm (Ty.bytes (.int .i64)) (0+List.length a0.1.2.1)
 (rm (Ty.bytes (.int .i64)) (List.length ([]++a0.1.2.1)+1)
 ((dT.f k r5.1 ((aH (a0.1.1+1)),((([]++a0.1.2.1)++[a0.1.1]),()))).bind fun r7 =>
 (bif (r7.2.1==2) then
 ((aS.f k a0.1.1).bind fun r8 =>
 ((bR.f k r7.1 [(⟨#[116,101,109,112]⟩:ByteArray),r8.1]).bind fun r9 =>
 (bif (r9.2.1 != 0) then
 ((aP.f k r9.2.1).bind fun r10 =>
 (some ((((aH (a0.1.1+1)),a0.1.2),a0.2),(r9.1,r10))))
 else
 (some ((((aH (a0.1.1+1)),a0.1.2),a0.2),(r9.1,r7.2))))))
 else
 (bif (r7.2.1 != 0) then
 (some ((((aH (a0.1.1+1)),a0.1.2),a0.2),r7))
 else
 (some ((((aH (a0.1.1+1)),((([]++a0.1.2.1)++[a0.1.1]),())),(a0.2.1,(a0.2.2.1,(0,a0.2.2.2.2)))),(r7.1,(0,())))))))))))))))))
def f (k:Nat):=t k
end fJ
namespace eC
abbrev Rs:Type:=Option ((Ty.den aC) × (Ty.den a_) × (Ty.den aL) × Int × Unit)
def t (k:Nat) (a0:Ty.den aC) (a1:Ty.den a_) (a2:Ty.den am):Rs :=
 ((bd.f k a2).bind fun r1 =>
 ((eP.f k r1.1).bind fun r2 =>
 (bif (decide (a0.2.2.2.1 > 0)) then
 (bif (decide ((aH (a0.2.2.2.1+(ByteArray.size r2.1:Int))) > 200)) then
 ((fJ.f k a0 a1).bind fun r3 =>
 (bif (r3.2.2.1 != 0) then
 (some (r3.1,(r3.2.1,((0,(0,(0,((0,(0,(ByteArray.empty,(ByteArray.empty,(0,(0,())))))),())))),r3.2.2))))
 else
 ((b_.f k r3.1).bind fun r4 =>
 ((bS.f k r3.2.1 r4.1 r2.1).bind fun r5 =>
 (bif (r5.2.1 != 0) then
 ((aP.f k r5.2.1).bind fun r6 =>
 (some (r3.1,(r5.1,((0,(0,(0,((0,(0,(ByteArray.empty,(ByteArray.empty,(0,(0,())))))),())))),r6)))))
 else
 (bX (aH ((List.length r3.1.1.2.1:Int)-1)) (List.length r3.1.1.2.1:Int)
 (some ((r3.1.1,(r3.1.2.1,(r3.1.2.2.1,((aH (r3.1.2.2.2.1+(ByteArray.size r2.1:Int))),r3.1.2.2.2.2)))),(r5.1,(((List.getD r3.1.1.2.1 (Int.toNat (aH ((List.length r3.1.1.2.1:Int)-1))) (Ty.dflt (.int .i64))),(r3.1.2.2.2.1,((ByteArray.size r2.1:Int),(a2,())))),(0,())))))))))))
 else
 ((b_.f k a0).bind fun r7 =>
 ((bS.f k a1 r7.1 r2.1).bind fun r8 =>
 (bif (r8.2.1 != 0) then
 ((aP.f k r8.2.1).bind fun r9 =>
 (some (a0,(r8.1,((0,(0,(0,((0,(0,(ByteArray.empty,(ByteArray.empty,(0,(0,())))))),())))),r9)))))
 else
 (bX (aH ((List.length a0.1.2.1:Int)-1)) (List.length a0.1.2.1:Int)
 (some ((a0.1,(a0.2.1,(a0.2.2.1,((aH (a0.2.2.2.1+(ByteArray.size r2.1:Int))),a0.2.2.2.2)))),(r8.1,(((List.getD a0.1.2.1 (Int.toNat (aH ((List.length a0.1.2.1:Int)-1))) (Ty.dflt (.int .i64))),(a0.2.2.2.1,((ByteArray.size r2.1:Int),(a2,())))),(0,()))))))))))
 else
 ((b_.f k a0).bind fun r10 =>
 ((bS.f k a1 r10.1 r2.1).bind fun r11 =>
 (bif (r11.2.1 != 0) then
 ((aP.f k r11.2.1).bind fun r12 =>
 (some (a0,(r11.1,((0,(0,(0,((0,(0,(ByteArray.empty,(ByteArray.empty,(0,(0,())))))),())))),r12)))))
 else
 (bX (aH ((List.length a0.1.2.1:Int)-1)) (List.length a0.1.2.1:Int)
 (some ((a0.1,(a0.2.1,(a0.2.2.1,((aH (a0.2.2.2.1+(ByteArray.size r2.1:Int))),a0.2.2.2.2)))),(r11.1,(((List.getD a0.1.2.1 (Int.toNat (aH ((List.length a0.1.2.1:Int)-1))) (Ty.dflt (.int .i64))),(a0.2.2.2.1,((ByteArray.size r2.1:Int),(a2,())))),(0,()))))))))))))
def f (k:Nat):=t k
end eC
namespace bB
abbrev Rs:Type:=Option ((Ty.den aC) × (Ty.den a_) × Int × Unit)
abbrev T0:Type:=Int→Int→List (Ty.den af)→List Int→List (Ty.den aA)→Int→Int→Int→Int→List (Ty.den aD)→Int→Int→Bool→List Int→List (Ty.den aA)→Int→Int→Int→Int→List (Ty.den aD)→Int→Int→Bool→List (Ty.den am)→List (Ty.den aA)→Rs
def b0 (k:Nat) (L0:T0):T0:=fun x0 x1 x2 x3 x4 x5 x6 x7 x8 x9 x10 x11 x12 x13 x14 x15 x16 x17 x18 x19 x20 x21 x22 x23 x24 =>
 (bif (decide (x1<(x2.length:Int))) then
 (bX x1 (x2.length:Int)
 (bX x1 (x2.length:Int)
 (bX x1 (x2.length:Int)
 (bif (List.getD x2 (Int.toNat x1) (Ty.dflt af)).2.1 then
 ((eC.f k ((x5,(x3,())),(x4,(x6,(x7,(x8,()))))) (x9,(x10,(x11,(x12,())))) (2,(x0,((List.getD x2 (Int.toNat x1) (Ty.dflt af)).1,((List.getD x2 (Int.toNat x1) (Ty.dflt af)).2.2.1,(0,(0,()))))))).bind fun r1 =>
 (bif (r1.2.2.2.1 != 0) then
 (some (r1.1,(r1.2.1,r1.2.2.2)))
 else
 ((fm.f k x24 r1.2.2.1).bind fun r2 =>
 (rm (Ty.bytes am) (List.length x23+1)
 (L0 x0 (aH (x1+1)) x2 r1.1.1.2.1 r1.1.2.1 r1.1.1.1 r1.1.2.2.1 r1.1.2.2.2.1 r1.1.2.2.2.2.1 r1.2.1.1 r1.2.1.2.1 r1.2.1.2.2.1 r1.2.1.2.2.2.1 x13 x14 x15 x16 x17 x18 x19 x20 x21 x22 (x23++[(2,(x0,((List.getD x2 (Int.toNat x1) (Ty.dflt af)).1,((List.getD x2 (Int.toNat x1) (Ty.dflt af)).2.2.1,(0,(0,()))))))]) r2.1)))))
 else
 ((eC.f k ((x5,(x3,())),(x4,(x6,(x7,(x8,()))))) (x9,(x10,(x11,(x12,())))) (1,(x0,((List.getD x2 (Int.toNat x1) (Ty.dflt af)).1,((List.getD x2 (Int.toNat x1) (Ty.dflt af)).2.2.1,(0,(0,()))))))).bind fun r3 =>
 (bif (r3.2.2.2.1 != 0) then
 (some (r3.1,(r3.2.1,r3.2.2.2)))
 else
 ((fm.f k x24 r3.2.2.1).bind fun r4 =>
 (rm (Ty.bytes am) (List.length x23+1)
 (L0 x0 (aH (x1+1)) x2 r3.1.1.2.1 r3.1.2.1 r3.1.1.1 r3.1.2.2.1 r3.1.2.2.2.1 r3.1.2.2.2.2.1 r3.2.1.1 r3.2.1.2.1 r3.2.1.2.2.1 r3.2.1.2.2.2.1 x13 x14 x15 x16 x17 x18 x19 x20 x21 x22 (x23++[(1,(x0,((List.getD x2 (Int.toNat x1) (Ty.dflt af)).1,((List.getD x2 (Int.toNat x1) (Ty.dflt af)).2.2.1,(0,(0,()))))))]) r4.1)))))))))
 else
 ((fu.f k x23 x0 3).bind fun r5 =>
 ((eC.f k ((x5,(x3,())),(x4,(x6,(x7,(x8,()))))) (x9,(x10,(x11,(x12,())))) r5.1).bind fun r6 =>
 (bif (r6.2.2.2.1 != 0) then
 (some (r6.1,(r6.2.1,r6.2.2.2)))
 else
 ((b_.f k r6.1).bind fun r7 =>
 ((bx.f k r6.2.1 r7.1).bind fun r8 =>
 (bif (r8.2.1 != 0) then
 ((aP.f k r8.2.1).bind fun r9 =>
 (some (r6.1,(r8.1,r9))))
 else
 (some ((r6.1.1,(x24,r6.1.2.2)),(r8.1,(0,())))))))))))
def l0 (k:Nat):Nat→T0
 | 0=>fun _ _ _ _ _ _ _ _ _ _ _ _ _ _ _ _ _ _ _ _ _ _ _ _ _=>none
 | n+1=>b0 k (l0 k n)
def t (k:Nat) (L0:T0) (a0:Ty.den aC) (a1:Ty.den a_) (a2:List (Ty.den af)):Rs :=
 (rm (Ty.bytes aA) (0+List.length a0.2.1)
 (L0 a0.2.2.1 0 a2 a0.1.2.1 a0.2.1 a0.1.1 (aH (a0.2.2.1+1)) a0.2.2.2.1 a0.2.2.2.2.1 a1.1 a1.2.1 a1.2.2.1 a1.2.2.2.1 [] [] 0 0 0 0 [] 0 0 false [] ([]++a0.2.1)))
def f (k:Nat):=t k (l0 k k)
end bB
namespace gi
abbrev Rs:Type:=Option ((Ty.den aC) × (Ty.den a_) × Int × Unit)
def t (k:Nat) (a0:Ty.den aC) (a1:Ty.den a_) (a2:List (Ty.den af)):Rs :=
 ((dy.f k a0).bind fun r1 =>
 ((bv.f k a1).bind fun r2 =>
 ((bF.f k a0 a1).bind fun r3 =>
 (bif (!r3.1) then
 (some (r1.1,(r2.1,(4,()))))
 else
 ((di.f k a2).bind fun r4 =>
 (bif (!r4.1) then
 (some (r1.1,(r2.1,(4,()))))
 else
 (bif ((List.length a2:Int)==0) then
 (some (r1.1,(r2.1,(0,()))))
 else
 ((cG.f k a0.2.1 a2).bind fun r5 =>
 (bif (decide (r5.1 > 20)) then
 (some (r1.1,(r2.1,(5,()))))
 else
 (bif (decide (a0.2.2.1 > 1000000)) then
 (some (r1.1,(r2.1,(5,()))))
 else
 ((bB.f k r1.1 r2.1 a2).bind fun r6 =>
 (some r6))))))))))))
def f (k:Nat):=t k
end gi
namespace eJ
abbrev Rs:Type:=Option ((Ty.den ap) × (Ty.den aC) × (Ty.den a_) × Unit)
abbrev T0:Type:=Int→List Int→Int→Int→List Int→List (Ty.den aA)→Int→Int→Int→Int→List (Ty.den aD)→Int→Int→Bool→List Int→List (Ty.den aA)→Int→Int→Int→Int→List (Ty.den aD)→Int→Int→Bool→Rs
def b0 (k:Nat) (L0:T0):T0:=fun x0 x1 x2 x3 x4 x5 x6 x7 x8 x9 x10 x11 x12 x13 x14 x15 x16 x17 x18 x19 x20 x21 x22 x23 =>
 (bif (decide (x0 > 0)) then
 (bif ((x14.length:Int)==0) then
 (some ((x1,(x2,(x3,()))),(((x16,(x14,())),(x15,(x17,(x18,(x19,()))))),((x20,(x21,(x22,(x23,())))),()))))
 else
 ((g7.f k (x1,(x2,(x3,()))) 6).bind fun r5 =>
 (bif r5.2.1 then
 ((k7.f k ((x16,(x14,())),(x15,(x17,(x18,(x19,()))))) (x20,(x21,(x22,(x23,()))))).bind fun r6 =>
 (L0 (aH (x0-1)) r5.1.1 r5.1.2.1 r5.1.2.2.1 x4 x5 x6 x7 x8 x9 x10 x11 x12 x13 r6.1.1.2.1 r6.1.2.1 r6.1.1.1 r6.1.2.2.1 r6.1.2.2.2.1 r6.1.2.2.2.2.1 r6.2.1.1 r6.2.1.2.1 r6.2.1.2.2.1 r6.2.1.2.2.2.1))
 else
 ((dx.f k r5.1).bind fun r7 =>
 ((gi.f k ((x16,(x14,())),(x15,(x17,(x18,(x19,()))))) (x20,(x21,(x22,(x23,())))) r7.2.1).bind fun r8 =>
 (L0 (aH (x0-1)) r7.1.1 r7.1.2.1 r7.1.2.2.1 x4 x5 x6 x7 x8 x9 x10 x11 x12 x13 r8.1.1.2.1 r8.1.2.1 r8.1.1.1 r8.1.2.2.1 r8.1.2.2.2.1 r8.1.2.2.2.2.1 r8.2.1.1 r8.2.1.2.1 r8.2.1.2.2.1 r8.2.1.2.2.2.1))))))
 else
 (some ((x1,(x2,(x3,()))),(((x16,(x14,())),(x15,(x17,(x18,(x19,()))))),((x20,(x21,(x22,(x23,())))),())))))
def l0 (k:Nat):Nat→T0
 | 0=>fun _ _ _ _ _ _ _ _ _ _ _ _ _ _ _ _ _ _ _ _ _ _ _ _=>none
 | n+1=>b0 k (l0 k n)
def t (k:Nat) (L0:T0) (a0:Ty.den ap):Rs :=
 ((cO.f k a0 [100000,100000,400,250]).bind fun r1 =>
 ((fE.f k r1.2.1).bind fun r2 =>
 ((ax.f k r2.1).bind fun r3 =>
 ((aV.f k r1.1 7).bind fun r4 =>
 (L0 r4.2.1 r4.1.1 r4.1.2.1 r4.1.2.2.1 [] [] 0 0 0 0 [] 0 0 false r3.1.1.2.1 r3.1.2.1 r3.1.1.1 r3.1.2.2.1 r3.1.2.2.2.1 r3.1.2.2.2.2.1 r3.2.1.1 r3.2.1.2.1 r3.2.1.2.2.1 r3.2.1.2.2.2.1)))))
def f (k:Nat):=t k (l0 k k)
end eJ
namespace ii
abbrev Rs:Type:=Option ((Ty.den ap) × (Ty.den aA) × Unit)
def t (k:Nat) (a0:Ty.den ap):Rs :=
 ((il.f k a0).bind fun r1 =>
 ((aV.f k r1.1 4).bind fun r2 =>
 ((aV.f k r2.1 90).bind fun r3 =>
 ((aV.f k r3.1 30).bind fun r4 =>
 ((aV.f k r4.1 9).bind fun r5 =>
 (some (r5.1,((r1.2.1,((aH (1+r2.2.1)),(r3.2.1,((aH (8+r4.2.1)),((aH (1+r5.2.1)),()))))),()))))))))
def f (k:Nat):=t k
end ii
namespace gU
abbrev Rs:Type:=Option ((Ty.den ap) × (List (Ty.den aA)) × Unit)
abbrev T0:Type:=Int→List Int→Int→Int→List (Ty.den aA)→Rs
def b0 (k:Nat) (L0:T0):T0:=fun x0 x1 x2 x3 x4 =>
 (bif (decide (x0 > 0)) then
 ((ii.f k (x1,(x2,(x3,())))).bind fun r2 =>
 ((bZ.f k x4 r2.2.1).bind fun r3 =>
 (L0 (aH (x0-1)) r2.1.1 r2.1.2.1 r2.1.2.2.1 r3.1)))
 else
 (bif (decide ((x4.length:Int) > 0)) then
 ((g7.f k (x1,(x2,(x3,()))) 8).bind fun r4 =>
 (bif r4.2.1 then
 ((aV.f k r4.1 (x4.length:Int)).bind fun r5 =>
 ((aV.f k r5.1 4).bind fun r6 =>
 (bif (r6.2.1==0) then
 ((eO.f k r6.1 [(⟨#[]⟩:ByteArray),(⟨#[122,122,122,122,122,122,122,122,122]⟩:ByteArray),(⟨#[97]⟩:ByteArray)]).bind fun r7 =>
 (bX r5.2.1 (x4.length:Int)
 (let l8:=(List.set x4 (Int.toNat r5.2.1) (r7.2.1,(List.getD x4 (Int.toNat r5.2.1) (Ty.dflt aA)).2));
 (some (r7.1,(l8,()))))))
 else
 (bif (r6.2.1==1) then
 (bX r5.2.1 (x4.length:Int)
 (let l9:=(List.set x4 (Int.toNat r5.2.1) ((List.getD x4 (Int.toNat r5.2.1) (Ty.dflt aA)).1,(0,(List.getD x4 (Int.toNat r5.2.1) (Ty.dflt aA)).2.2)));
 (some (r6.1,(l9,())))))
 else
 (bif (r6.2.1==2) then
 ((cO.f k r6.1 [0,210,211]).bind fun r10 =>
 (bX r5.2.1 (x4.length:Int)
 (let l11:=(List.set x4 (Int.toNat r5.2.1) ((List.getD x4 (Int.toNat r5.2.1) (Ty.dflt aA)).1,((List.getD x4 (Int.toNat r5.2.1) (Ty.dflt aA)).2.1,((List.getD x4 (Int.toNat r5.2.1) (Ty.dflt aA)).2.2.1,(r10.2.1,(List.getD x4 (Int.toNat r5.2.1) (Ty.dflt aA)).2.2.2.2)))));
 (some (r10.1,(l11,()))))))
 else
 ((cO.f k r6.1 [0,1000001]).bind fun r12 =>
 (bX r5.2.1 (x4.length:Int)
 (let l13:=(List.set x4 (Int.toNat r5.2.1) ((List.getD x4 (Int.toNat r5.2.1) (Ty.dflt aA)).1,((List.getD x4 (Int.toNat r5.2.1) (Ty.dflt aA)).2.1,((List.getD x4 (Int.toNat r5.2.1) (Ty.dflt aA)).2.2.1,((List.getD x4 (Int.toNat r5.2.1) (Ty.dflt aA)).2.2.2.1,r12.2)))));
 (some (r12.1,(l13,())))))))))))
 else
 (some (r4.1,(x4,())))))
 else
 (some ((x1,(x2,(x3,()))),(x4,())))))
def l0 (k:Nat):Nat→T0
 | 0=>fun _ _ _ _ _=>none
 | n+1=>b0 k (l0 k n)
def t (k:Nat) (L0:T0) (a0:Ty.den ap):Rs :=
 ((aV.f k a0 7).bind fun r1 =>
 (L0 r1.2.1 r1.1.1 r1.1.2.1 r1.1.2.2.1 []))
def f (k:Nat):=t k (l0 k k)
end gU
namespace g9
abbrev Rs:Type:=Option ((Ty.den ap) × ByteArray × Unit)
def t (k:Nat) (a0:Ty.den ap):Rs :=
 ((eO.f k a0 [(⟨#[108,105,118,101]⟩:ByteArray),(⟨#[115,101,103,49]⟩:ByteArray),(⟨#[115,101,103,50]⟩:ByteArray),(⟨#[115,101,103,51]⟩:ByteArray),(⟨#[116,101,109,112]⟩:ByteArray),(⟨#[104,105,110,116,49]⟩:ByteArray),(⟨#[120]⟩:ByteArray),(⟨#[97,57]⟩:ByteArray)]).bind fun r1 =>
 (some r1))
def f (k:Nat):=t k
end g9
namespace dp
abbrev Rs:Type:=Option ((Ty.den ap) × (Ty.den a_) × Unit)
abbrev T0:Type:=Int→List Int→Int→Int→List (Ty.den aD)→Int→Int→Bool→List (Ty.den aD)→Int→Int→Bool→Rs
def b0 (k:Nat) (L0:T0):T0:=fun x0 x1 x2 x3 x4 x5 x6 x7 x8 x9 x10 x11 =>
 (bif (decide (x0 > 0)) then
 ((g9.f k (x1,(x2,(x3,())))).bind fun r3 =>
 ((aV.f k r3.1 6).bind fun r4 =>
 (bif (r4.2.1==0) then
 (bif (r4.2.1==0) then
 ((eg.f k (x8,(x9,(x10,(x11,())))) r3.2.1).bind fun r5 =>
 (L0 (aH (x0-1)) r4.1.1 r4.1.2.1 r4.1.2.2.1 x4 x5 x6 x7 r5.1.1 r5.1.2.1 r5.1.2.2.1 r5.1.2.2.2.1))
 else
 (bif (r4.2.1==2) then
 (bif (r4.2.1==2) then
 ((dI.f k r4.1 9).bind fun r6 =>
 ((bS.f k (x8,(x9,(x10,(x11,())))) r3.2.1 r6.2.1).bind fun r7 =>
 (L0 (aH (x0-1)) r6.1.1 r6.1.2.1 r6.1.2.2.1 x4 x5 x6 x7 r7.1.1 r7.1.2.1 r7.1.2.2.1 r7.1.2.2.2.1)))
 else
 (bif (r4.2.1==4) then
 ((bx.f k (x8,(x9,(x10,(x11,())))) r3.2.1).bind fun r8 =>
 (L0 (aH (x0-1)) r4.1.1 r4.1.2.1 r4.1.2.2.1 x4 x5 x6 x7 r8.1.1 r8.1.2.1 r8.1.2.2.1 r8.1.2.2.2.1))
 else
 ((g9.f k r4.1).bind fun r9 =>
 ((fL.f k (x8,(x9,(x10,(x11,())))) r3.2.1 r9.2.1).bind fun r10 =>
 (L0 (aH (x0-1)) r9.1.1 r9.1.2.1 r9.1.2.2.1 x4 x5 x6 x7 r10.1.1 r10.1.2.1 r10.1.2.2.1 r10.1.2.2.2.1)))))
 else
 (bif (r4.2.1==3) then
 ((dI.f k r4.1 9).bind fun r11 =>
 ((bS.f k (x8,(x9,(x10,(x11,())))) r3.2.1 r11.2.1).bind fun r12 =>
 (L0 (aH (x0-1)) r11.1.1 r11.1.2.1 r11.1.2.2.1 x4 x5 x6 x7 r12.1.1 r12.1.2.1 r12.1.2.2.1 r12.1.2.2.2.1)))
 else
 (bif (r4.2.1==4) then
 ((bx.f k (x8,(x9,(x10,(x11,())))) r3.2.1).bind fun r13 =>
 (L0 (aH (x0-1)) r4.1.1 r4.1.2.1 r4.1.2.2.1 x4 x5 x6 x7 r13.1.1 r13.1.2.1 r13.1.2.2.1 r13.1.2.2.2.1))
 else
 ((g9.f k r4.1).bind fun r14 =>
 ((fL.f k (x8,(x9,(x10,(x11,())))) r3.2.1 r14.2.1).bind fun r15 =>
 (L0 (aH (x0-1)) r14.1.1 r14.1.2.1 r14.1.2.2.1 x4 x5 x6 x7 r15.1.1 r15.1.2.1 r15.1.2.2.1 r15.1.2.2.2.1)))))))
 else
 (bif (r4.2.1==1) then
 ((eg.f k (x8,(x9,(x10,(x11,())))) r3.2.1).bind fun r16 =>
 (L0 (aH (x0-1)) r4.1.1 r4.1.2.1 r4.1.2.2.1 x4 x5 x6 x7 r16.1.1 r16.1.2.1 r16.1.2.2.1 r16.1.2.2.2.1))
 else
 (bif (r4.2.1==2) then
 (bif (r4.2.1==2) then
 ((dI.f k r4.1 9).bind fun r17 =>
 ((bS.f k (x8,(x9,(x10,(x11,())))) r3.2.1 r17.2.1).bind fun r18 =>
 (L0 (aH (x0-1)) r17.1.1 r17.1.2.1 r17.1.2.2.1 x4 x5 x6 x7 r18.1.1 r18.1.2.1 r18.1.2.2.1 r18.1.2.2.2.1)))
 else
 (bif (r4.2.1==4) then
 ((bx.f k (x8,(x9,(x10,(x11,())))) r3.2.1).bind fun r19 =>
 (L0 (aH (x0-1)) r4.1.1 r4.1.2.1 r4.1.2.2.1 x4 x5 x6 x7 r19.1.1 r19.1.2.1 r19.1.2.2.1 r19.1.2.2.2.1))
 else
 ((g9.f k r4.1).bind fun r20 =>
 ((fL.f k (x8,(x9,(x10,(x11,())))) r3.2.1 r20.2.1).bind fun r21 =>
 (L0 (aH (x0-1)) r20.1.1 r20.1.2.1 r20.1.2.2.1 x4 x5 x6 x7 r21.1.1 r21.1.2.1 r21.1.2.2.1 r21.1.2.2.2.1)))))
 else
 (bif (r4.2.1==3) then
 ((dI.f k r4.1 9).bind fun r22 =>
 ((bS.f k (x8,(x9,(x10,(x11,())))) r3.2.1 r22.2.1).bind fun r23 =>
 (L0 (aH (x0-1)) r22.1.1 r22.1.2.1 r22.1.2.2.1 x4 x5 x6 x7 r23.1.1 r23.1.2.1 r23.1.2.2.1 r23.1.2.2.2.1)))
 else
 (bif (r4.2.1==4) then
 ((bx.f k (x8,(x9,(x10,(x11,())))) r3.2.1).bind fun r24 =>
 (L0 (aH (x0-1)) r4.1.1 r4.1.2.1 r4.1.2.2.1 x4 x5 x6 x7 r24.1.1 r24.1.2.1 r24.1.2.2.1 r24.1.2.2.2.1))
 else
 ((g9.f k r4.1).bind fun r25 =>
 ((fL.f k (x8,(x9,(x10,(x11,())))) r3.2.1 r25.2.1).bind fun r26 =>
 (L0 (aH (x0-1)) r25.1.1 r25.1.2.1 r25.1.2.2.1 x4 x5 x6 x7 r26.1.1 r26.1.2.1 r26.1.2.2.1 r26.1.2.2.2.1))))))))))
 else
 (some ((x1,(x2,(x3,()))),((x8,(x9,(x10,(x11,())))),()))))
def l0 (k:Nat):Nat→T0
 | 0=>fun _ _ _ _ _ _ _ _ _ _ _ _=>none
 | n+1=>b0 k (l0 k n)
def t (k:Nat) (L0:T0) (a0:Ty.den ap):Rs :=
 ((fE.f k 200).bind fun r1 =>
 ((aV.f k a0 12).bind fun r2 =>
 (L0 r2.2.1 r2.1.1 r2.1.2.1 r2.1.2.2.1 [] 0 0 false r1.1.1 r1.1.2.1 r1.1.2.2.1 r1.1.2.2.2.1)))
def f (k:Nat):=t k (l0 k k)
end dp
namespace gT
abbrev Rs:Type:=Option ((Ty.den ap) × (Ty.den a_) × Unit)
abbrev T0:Type:=Int→List Int→Int→Int→List (Ty.den aD)→Int→Int→Bool→List (Ty.den aD)→Int→Int→Bool→Rs
def b0 (k:Nat) (L0:T0):T0:=fun x0 x1 x2 x3 x4 x5 x6 x7 x8 x9 x10 x11 =>
 ((aV.f k (x1,(x2,(x3,()))) 3).bind fun r11 =>
 (bif (decide (x0<(aH (129+r11.2.1)))) then
 (bif (decide ((x8.length:Int)<131)) then
 ((dA.f k (aH (100+x0))).bind fun r12 =>
 (kX (⟨#[121]⟩:ByteArray) r12.1
 (rm (Ty.bytes aD) (List.length x8+1)
 (L0 (aH (x0+1)) r11.1.1 r11.1.2.1 r11.1.2.2.1 x4 x5 x6 x7 (x8++[(((⟨#[121]⟩:ByteArray)++r12.1),(ByteArray.empty,(0,())))]) x9 x10 x11))))
 else
 (some (r11.1,((x8,(x9,(x10,(x11,())))),()))))
 else
 (some (r11.1,((x8,(x9,(x10,(x11,())))),())))))
def l0 (k:Nat):Nat→T0
 | 0=>fun _ _ _ _ _ _ _ _ _ _ _ _=>none
 | n+1=>b0 k (l0 k n)
def t (k:Nat) (L0:T0) (a0:Ty.den ap):Rs :=
 ((dp.f k a0).bind fun r1 =>
 ((aV.f k r1.1 14).bind fun r2 =>
 (bif (r2.2.1==0) then
 ((cO.f k r2.1 [0,1,(-2),(-1)]).bind fun r3 =>
 (some (r3.1,((r1.2.1.1,(r1.2.1.2.1,(r3.2.1,r1.2.1.2.2.2))),()))))
 else
 (bif (r2.2.1==1) then
 (some (r2.1,((r1.2.1.1,(r1.2.1.2.1,(r1.2.1.2.2.1,(true,())))),())))
 else
 (bif (r2.2.1==2) then
 ((dQ.f k r1.2.1).bind fun r4 =>
 ((dQ.f k r1.2.1).bind fun r5 =>
 ((cO.f k r2.1 [(-1),5,r4.1,(aH (r5.1+3)),100000,100001]).bind fun r6 =>
 (some (r6.1,((r1.2.1.1,(r6.2.1,r1.2.1.2.2)),()))))))
 else
 (bif (r2.2.1==3) then
 (bif (decide ((List.length r1.2.1.1:Int) > 0)) then
 ((aV.f k r2.1 9).bind fun r7 =>
 (bX 0 (List.length r1.2.1.1:Int)
 (let l8:=(List.set r1.2.1.1 0 ((List.getD r1.2.1.1 0 (Ty.dflt aD)).1,((List.getD r1.2.1.1 0 (Ty.dflt aD)).2.1,((aH (r7.2.1-1)),(List.getD r1.2.1.1 0 (Ty.dflt aD)).2.2.2))));
 (some (r7.1,((l8,r1.2.1.2),()))))))
 else
 (some (r2.1,r1.2)))
 else
 (bif (r2.2.1==4) then
 (bif (decide ((List.length r1.2.1.1:Int) > 0)) then
 ((eO.f k r2.1 [(⟨#[]⟩:ByteArray),(⟨#[65]⟩:ByteArray),(⟨#[122,122]⟩:ByteArray),(⟨#[116,111,111,108,111,110,103,97,110,97,109,101,49]⟩:ByteArray)]).bind fun r9 =>
 (bX 0 (List.length r1.2.1.1:Int)
 (let l10:=(List.set r1.2.1.1 0 (r9.2.1,(List.getD r1.2.1.1 0 (Ty.dflt aD)).2));
 (some (r9.1,((l10,r1.2.1.2),()))))))
 else
 (some (r2.1,r1.2)))
 else
 (bif (r2.2.1==5) then
 (L0 0 r2.1.1 r2.1.2.1 r2.1.2.2.1 [] 0 0 false r1.2.1.1 r1.2.1.2.1 r1.2.1.2.2.1 r1.2.1.2.2.2.1)
 else
 (some (r2.1,r1.2))))))))))
def f (k:Nat):=t k (l0 k k)
end gT
namespace jR
abbrev Rs:Type:=Option ((Ty.den ap) × (Ty.den aC) × (Ty.den a_) × Unit)
def t (k:Nat) (a0:Ty.den ap):Rs :=
 ((eJ.f k a0).bind fun r1 =>
 ((aV.f k r1.1 16).bind fun r2 =>
 (bif (r2.2.1==0) then
 (some (r2.1,((r1.2.1.1,(r1.2.1.2.1,(r1.2.1.2.2.1,((aH (r1.2.1.2.2.2.1+1)),r1.2.1.2.2.2.2)))),r1.2.2)))
 else
 (bif (r2.2.1==1) then
 ((gU.f k r2.1).bind fun r3 =>
 (some (r3.1,((r1.2.1.1,(r3.2.1,r1.2.1.2.2)),r1.2.2))))
 else
 (bif (r2.2.1==2) then
 ((cO.f k r2.1 [0,1000000,1000001,1000002,1]).bind fun r4 =>
 (some (r4.1,((r1.2.1.1,(r1.2.1.2.1,(r4.2.1,r1.2.1.2.2.2))),r1.2.2))))
 else
 (bif (r2.2.1==3) then
 ((gT.f k r2.1).bind fun r5 =>
 (some (r5.1,(r1.2.1,r5.2))))
 else
 (bif (r2.2.1==4) then
 (bif (r2.2.1==4) then
 ((aV.f k r2.1 12).bind fun r6 =>
 (some (r6.1,(r1.2.1,((r1.2.2.1.1,(r1.2.2.1.2.1,(r6.2.1,r1.2.2.1.2.2.2))),())))))
 else
 (bif (r2.2.1==6) then
 (some (r2.1,(((r1.2.1.1.1,([],())),r1.2.1.2),r1.2.2)))
 else
 (some (r2.1,r1.2))))
 else
 (bif (r2.2.1==5) then
 ((aV.f k r2.1 12).bind fun r7 =>
 (some (r7.1,(r1.2.1,((r1.2.2.1.1,(r1.2.2.1.2.1,(r7.2.1,r1.2.2.1.2.2.2))),())))))
 else
 (bif (r2.2.1==6) then
 (some (r2.1,(((r1.2.1.1.1,([],())),r1.2.1.2),r1.2.2)))
 else
 (some (r2.1,r1.2)))))))))))
def f (k:Nat):=t k
end jR
namespace dE
abbrev Rs:Type:=Option ((Ty.den ap) × (List (Ty.den af)) × Unit)
abbrev T0:Type:=List Int→Int→Int→List (Ty.den af)→Rs
def b0 (k:Nat) (L0:T0):T0:=fun x0 x1 x2 x3 =>
 ((aV.f k (x0,(x1,(x2,()))) 2).bind fun r4 =>
 (bif (decide ((x3.length:Int)<(aH (8+r4.2.1)))) then
 ((dA.f k (x3.length:Int)).bind fun r5 =>
 (kX (⟨#[107]⟩:ByteArray) r5.1
 (rm (Ty.bytes af) (List.length x3+1)
 (L0 r4.1.1 r4.1.2.1 r4.1.2.2.1 (x3++[(((⟨#[107]⟩:ByteArray)++r5.1),(false,(ByteArray.empty,())))])))))
 else
 (some (r4.1,(x3,())))))
def l0 (k:Nat):Nat→T0
 | 0=>fun _ _ _ _=>none
 | n+1=>b0 k (l0 k n)
def t (k:Nat) (L0:T0) (a0:Ty.den ap):Rs :=
 ((dx.f k a0).bind fun r1 =>
 ((aV.f k r1.1 14).bind fun r2 =>
 (bif (r2.2.1==0) then
 ((eO.f k r2.1 [(⟨#[]⟩:ByteArray),(⟨#[110,105,110,101,98,121,116,101,115]⟩:ByteArray)]).bind fun r3 =>
 (rm (Ty.bytes af) (List.length r1.2.1+1)
 (some (r3.1,((r1.2.1++[(r3.2.1,(false,(ByteArray.empty,())))]),())))))
 else
 (bif (r2.2.1==1) then
 (L0 r2.1.1 r2.1.2.1 r2.1.2.2.1 r1.2.1)
 else
 (bif (r2.2.1==2) then
 (rm (Ty.bytes af) (List.length r1.2.1+1)
 (some (r2.1,((r1.2.1++[((⟨#[97]⟩:ByteArray),(true,((⟨#[120]⟩:ByteArray),())))]),()))))
 else
 (some (r2.1,r1.2)))))))
def f (k:Nat):=t k (l0 k k)
end dE
namespace gL
abbrev Rs:Type:=Option ((Ty.den aC) × (Ty.den a_) × (List (Ty.den af)) × Unit)
def t (k:Nat) (a0:List Int):Rs :=
 ((gD.f k a0).bind fun r1 =>
 ((jR.f k r1.2.1).bind fun r2 =>
 ((dE.f k r2.1).bind fun r3 =>
 (some (r2.2.1,(r2.2.2.1,r3.2))))))
def f (k:Nat):=t k
end gL
namespace f_
abbrev Rs:Type:=Option ((Ty.den bj) × Unit)
def t (k:Nat) (a0:Ty.den bj):Rs :=
 (rm (Ty.bytes (.int .i64)) (List.length a0.2.1)
 (some (a0,())))
def f (k:Nat):=t k
end f_
namespace fD
abbrev Rs:Type:=Option ((List (Ty.den aA)) × Unit)
def t (k:Nat) (a0:List (Ty.den aA)):Rs :=
 (rm (Ty.bytes aA) (List.length a0)
 (some (a0,())))
def f (k:Nat):=t k
end fD
namespace gp
abbrev Rs:Type:=Option ((Ty.den aC) × Unit)
def t (k:Nat) (a0:Ty.den aC):Rs :=
 ((f_.f k a0.1).bind fun r1 =>
 ((fD.f k a0.2.1).bind fun r2 =>
 (some ((r1.1,(r2.1,a0.2.2)),()))))
def f (k:Nat):=t k
end gp
namespace cH
abbrev Rs:Type:=Option ((Ty.den a_) × Unit)
def t (k:Nat) (a0:Ty.den a_):Rs :=
 (rm (Ty.bytes aD) (List.length a0.1)
 (some (a0,())))
def f (k:Nat):=t k
end cH
namespace ay
abbrev Rs:Type:=Option (Bool × Unit)
def t (k:Nat) (a0:Int) (a1:Int) (a2:Int):Rs :=
 (bif (decide (a0≥a1)) then
 (some ((decide (a0≤a2)),()))
 else
 (some (false,())))
def f (k:Nat):=t k
end ay
namespace dk
abbrev Rs:Type:=Option (Bool × Unit)
abbrev T0:Type:=ByteArray→Int→Rs
def b0 (k:Nat) (L0:T0):T0:=fun x0 x1 =>
 (bif (decide (x1<(ByteArray.size x0:Int))) then
 (bX x1 (ByteArray.size x0:Int)
 (bif (decide ((e6 x0 x1)≥97)) then
 (bX x1 (ByteArray.size x0:Int)
 (bif (!(decide ((e6 x0 x1)≤122))) then
 (bX x1 (ByteArray.size x0:Int)
 (bif (decide ((e6 x0 x1)≥48)) then
 (bX x1 (ByteArray.size x0:Int)
 (bif (!(decide ((e6 x0 x1)≤57))) then
 (some (false,()))
 else
 (L0 x0 (aH (x1+1)))))
 else
 (some (false,()))))
 else
 (L0 x0 (aH (x1+1)))))
 else
 (bX x1 (ByteArray.size x0:Int)
 (bif (decide ((e6 x0 x1)≥48)) then
 (bX x1 (ByteArray.size x0:Int)
 (bif (!(decide ((e6 x0 x1)≤57))) then
 (some (false,()))
 else
 (L0 x0 (aH (x1+1)))))
 else
 (some (false,()))))))
 else
 ((ay.f k (ByteArray.size x0:Int) 1 12).bind fun r1 =>
 (some r1)))
def l0 (k:Nat):Nat→T0
 | 0=>fun _ _=>none
 | n+1=>b0 k (l0 k n)
def t (k:Nat) (L0:T0) (a0:ByteArray):Rs :=
 (L0 a0 0)
def f (k:Nat):=t k (l0 k k)
end dk
namespace bV
abbrev Rs:Type:=Option (Bool × Unit)
abbrev T0:Type:=Int→List (Ty.den aD)→Int→Int→List (Ty.den aD)→Int→Int→Bool→Rs
def b0 (k:Nat) (L0:T0):T0:=fun x0 x1 x2 x3 x4 x5 x6 x7 =>
 (bif (decide (x3<x2)) then
 (bX x3 (x1.length:Int)
 ((dk.f k (List.getD x1 (Int.toNat x3) (Ty.dflt aD)).1).bind fun r3 =>
 (bif (!r3.1) then
 (some (false,()))
 else
 ((ay.f k (List.getD x1 (Int.toNat x3) (Ty.dflt aD)).2.2.1 0 (ByteArray.size (List.getD x1 (Int.toNat x3) (Ty.dflt aD)).2.1:Int)).bind fun r4 =>
 (bif (!r4.1) then
 (some (false,()))
 else
 (bif (decide (x3 > 0)) then
 (bX (aH (x3-1)) (x4.length:Int)
 (bif (!(lZ (List.getD x4 (Int.toNat (aH (x3-1))) (Ty.dflt aD)).1 (List.getD x1 (Int.toNat x3) (Ty.dflt aD)).1)) then
 (some (false,()))
 else
 (L0 (aH (x0+(ByteArray.size (List.getD x1 (Int.toNat x3) (Ty.dflt aD)).2.1:Int))) x1 x2 (aH (x3+1)) x4 x5 x6 x7)))
 else
 (L0 (aH (x0+(ByteArray.size (List.getD x1 (Int.toNat x3) (Ty.dflt aD)).2.1:Int))) x1 x2 (aH (x3+1)) x4 x5 x6 x7)))))))
 else
 (some ((decide (x0≤x5)),())))
def l0 (k:Nat):Nat→T0
 | 0=>fun _ _ _ _ _ _ _ _=>none
 | n+1=>b0 k (l0 k n)
def t (k:Nat) (L0:T0) (a0:Ty.den a_):Rs :=
 (bif (decide ((List.length a0.1:Int) > 130)) then
 (some (false,()))
 else
 ((ay.f k a0.2.1 0 100000).bind fun r1 =>
 (bif (!r1.1) then
 (some (false,()))
 else
 ((ay.f k a0.2.2.1 (-1) 100000).bind fun r2 =>
 (bif (!r2.1) then
 (some (false,()))
 else
 (L0 0 a0.1 (List.length a0.1:Int) 0 a0.1 a0.2.1 a0.2.2.1 a0.2.2.2.1))))))
def f (k:Nat):=t k (l0 k k)
end bV
namespace dr
abbrev Rs:Type:=Option (Bool × Unit)
abbrev T0:Type:=List Int→Int→Int→Int→List Int→Rs
def b0 (k:Nat) (L0:T0):T0:=fun x0 x1 x2 x3 x4 =>
 (bif (decide (x2<x1)) then
 (bX x2 (x0.length:Int)
 ((ay.f k (List.getD x0 (Int.toNat x2) (Ty.dflt (.int .i64))) 1 (aH (x3-1))).bind fun r1 =>
 (bif (!r1.1) then
 (some (false,()))
 else
 (bif (decide (x2 > 0)) then
 (bX (aH (x2-1)) (x4.length:Int)
 (bif (decide ((List.getD x4 (Int.toNat (aH (x2-1))) (Ty.dflt (.int .i64)))≥(List.getD x0 (Int.toNat x2) (Ty.dflt (.int .i64))))) then
 (some (false,()))
 else
 (L0 x0 x1 (aH (x2+1)) x3 x4)))
 else
 (L0 x0 x1 (aH (x2+1)) x3 x4)))))
 else
 ((ay.f k x3 1 100000).bind fun r2 =>
 (bif r2.1 then
 ((ay.f k (x4.length:Int) 1 60).bind fun r3 =>
 (some r3))
 else
 (some (false,())))))
def l0 (k:Nat):Nat→T0
 | 0=>fun _ _ _ _ _=>none
 | n+1=>b0 k (l0 k n)
def t (k:Nat) (L0:T0) (a0:Ty.den bj):Rs :=
 (L0 a0.2.1 (List.length a0.2.1:Int) 0 a0.1 a0.2.1)
def f (k:Nat):=t k (l0 k k)
end dr
namespace fk
abbrev Rs:Type:=Option (Bool × Unit)
def t (k:Nat) (a0:ByteArray):Rs :=
 ((ay.f k (ByteArray.size a0:Int) 1 8).bind fun r1 =>
 (some r1))
def f (k:Nat):=t k
end fk
namespace fj
abbrev Rs:Type:=Option (Bool × Unit)
abbrev T0:Type:=List (Ty.den aA)→List (Ty.den aA)→Int→Int→Rs
def b0 (k:Nat) (L0:T0):T0:=fun x0 x1 x2 x3 =>
 (bif (decide (x3<x2)) then
 (bX x3 (x1.length:Int)
 ((fk.f k (List.getD x1 (Int.toNat x3) (Ty.dflt aA)).1).bind fun r1 =>
 (bif (!r1.1) then
 (some (false,()))
 else
 ((ay.f k (List.getD x1 (Int.toNat x3) (Ty.dflt aA)).2.1 1 100000).bind fun r2 =>
 (bif (!r2.1) then
 (some (false,()))
 else
 (bif (decide ((List.getD x1 (Int.toNat x3) (Ty.dflt aA)).2.2.1<0)) then
 (some (false,()))
 else
 ((ay.f k (List.getD x1 (Int.toNat x3) (Ty.dflt aA)).2.2.2.1 1 210).bind fun r3 =>
 (bif (!r3.1) then
 (some (false,()))
 else
 ((ay.f k (List.getD x1 (Int.toNat x3) (Ty.dflt aA)).2.2.2.2.1 1 1000000).bind fun r4 =>
 (bif (!r4.1) then
 (some (false,()))
 else
 (bif (decide (x3 > 0)) then
 (bX (aH (x3-1)) (x0.length:Int)
 (bif (!(lZ (List.getD x0 (Int.toNat (aH (x3-1))) (Ty.dflt aA)).1 (List.getD x1 (Int.toNat x3) (Ty.dflt aA)).1)) then
 (some (false,()))
 else
 (L0 x0 x1 x2 (aH (x3+1)))))
 else
 (L0 x0 x1 x2 (aH (x3+1))))))))))))))
 else
 (some ((decide ((x0.length:Int)≤20)),())))
def l0 (k:Nat):Nat→T0
 | 0=>fun _ _ _ _=>none
 | n+1=>b0 k (l0 k n)
def t (k:Nat) (L0:T0) (a0:List (Ty.den aA)):Rs :=
 (L0 a0 a0 (List.length a0:Int) 0)
def f (k:Nat):=t k (l0 k k)
end fj
namespace mM
abbrev Rs:Type:=Option (ByteArray × Unit)
def t (k:Nat) (a0:Int):Rs :=
 ((mN.f k a0).bind fun r1 =>
 (some r1))
def f (k:Nat):=t k
end mM
namespace ju
abbrev Rs:Type:=Option (ByteArray × Unit)
def t (k:Nat) (a0:ByteArray) (a1:Int):Rs :=
 ((ay.f k a1 1 100000).bind fun r1 =>
 (bif (!r1.1) then
 (some ((⟨#[]⟩:ByteArray),()))
 else
 ((mM.f k a1).bind fun r2 =>
 (kX a0 r2.1
 (some ((a0++r2.1),()))))))
def f (k:Nat):=t k
end ju
namespace dS
abbrev Rs:Type:=Option (ByteArray × Unit)
def t (k:Nat) (a0:Int):Rs :=
 ((ju.f k (⟨#[115,101,103]⟩:ByteArray) a0).bind fun r1 =>
 (some r1))
def f (k:Nat):=t k
end dS
namespace bT
abbrev Rs:Type:=Option (Int × Unit)
abbrev T0:Type:=ByteArray→List (Ty.den aD)→Int→Int→Rs
def b0 (k:Nat) (L0:T0):T0:=fun x0 x1 x2 x3 =>
 (bif (decide (x3<x2)) then
 (bX x3 (x1.length:Int)
 (bif (seq (List.getD x1 (Int.toNat x3) (Ty.dflt aD)).1 x0) then
 (some (x3,()))
 else
 (L0 x0 x1 x2 (aH (x3+1)))))
 else
 (some ((-1),())))
def l0 (k:Nat):Nat→T0
 | 0=>fun _ _ _ _=>none
 | n+1=>b0 k (l0 k n)
def t (k:Nat) (L0:T0) (a0:Ty.den a_) (a1:ByteArray):Rs :=
 (L0 a1 a0.1 (List.length a0.1:Int) 0)
def f (k:Nat):=t k (l0 k k)
end bT
namespace fP
abbrev Rs:Type:=Option (ByteArray × Bool × Unit)
def t (k:Nat) (a0:Ty.den a_) (a1:ByteArray):Rs :=
 ((bT.f k a0 a1).bind fun r1 =>
 (bif (decide (r1.1<0)) then
 (some ((⟨#[]⟩:ByteArray),(false,())))
 else
 ((bV.f k a0).bind fun r2 =>
 (bif (!r2.1) then
 (some ((⟨#[]⟩:ByteArray),(false,())))
 else
 (bX r1.1 (List.length a0.1:Int)
 (some ((List.getD a0.1 (Int.toNat r1.1) (Ty.dflt aD)).2.1,(true,()))))))))
def f (k:Nat):=t k
end fP
namespace cV
abbrev Rs:Type:=Option (Int × Int × Unit)
abbrev T0:Type:=ByteArray→Int→Int→Rs
def b0 (k:Nat) (L0:T0):T0:=fun x0 x1 x2 =>
 (bif (decide (x2<7)) then
 (bif (decide (x2<(ByteArray.size x0:Int))) then
 (bX x2 (ByteArray.size x0:Int)
 (bif (decide ((aH (7*x2))<0)) then none else
 (bif (decide ((aH (e6 x0 x2))≥128)) then
 (L0 x0 (aH (x1+(aH ((Int.tmod (aH (e6 x0 x2)) 128)*2 ^ (min (Int.toNat (aH (7*x2))) (IntKind.bits .i64)))))) (aH (x2+1)))
 else
 (bif ((aH (e6 x0 x2))==0) then
 (bif (decide (x2 > 0)) then
 (some (0,(0,())))
 else
 (some ((aH (x1+(aH ((Int.tmod (aH (e6 x0 x2)) 128)*2 ^ (min (Int.toNat (aH (7*x2))) (IntKind.bits .i64)))))),((aH (x2+1)),()))))
 else
 (some ((aH (x1+(aH ((Int.tmod (aH (e6 x0 x2)) 128)*2 ^ (min (Int.toNat (aH (7*x2))) (IntKind.bits .i64)))))),((aH (x2+1)),())))))))
 else
 (some (0,(0,()))))
 else
 (some (0,(0,()))))
def l0 (k:Nat):Nat→T0
 | 0=>fun _ _ _=>none
 | n+1=>b0 k (l0 k n)
def t (k:Nat) (L0:T0) (a0:ByteArray):Rs :=
 (L0 a0 0 0)
def f (k:Nat):=t k (l0 k k)
end cV
namespace fH
abbrev Rs:Type:=Option (ByteArray × Unit)
abbrev T0:Type:=Int→List Int→Rs
def b0 (k:Nat) (L0:T0):T0:=fun x0 x1 =>
 (bif (decide (x0 > 127)) then
 (rm (Ty.bytes (.int .u8)) (List.length x1+1)
 (L0 (aH (Int.tdiv x0 128)) (x1++[(IntKind.wrap .u8 (aH ((Int.tmod x0 128)+128)))])))
 else
 (rm (Ty.bytes (.int .u8)) (List.length x1+1)
 (some ((bytesOf (x1++[(IntKind.wrap .u8 x0)])),()))))
def l0 (k:Nat):Nat→T0
 | 0=>fun _ _=>none
 | n+1=>b0 k (l0 k n)
def t (k:Nat) (L0:T0) (a0:Int):Rs :=
 ((ay.f k a0 0 562949953421311).bind fun r1 =>
 (bif (!r1.1) then
 (some ((⟨#[]⟩:ByteArray),()))
 else
 (L0 a0 [])))
def f (k:Nat):=t k (l0 k k)
end fH
namespace ea
abbrev Rs:Type:=Option (ByteArray × Unit)
def t (k:Nat) (a0:ByteArray):Rs :=
 ((fH.f k (ByteArray.size a0:Int)).bind fun r1 =>
 (kX r1.1 a0
 (some ((r1.1++a0),()))))
def f (k:Nat):=t k
end ea
namespace gQ
abbrev Rs:Type:=Option (Int × Unit)
abbrev T1:Type:=ByteArray→Int→Int→Int→Rs
abbrev T0:Type:=ByteArray→Int→Int→Rs
def b1 (k:Nat) (L0:T0) (L1:T1):T1:=fun x0 x1 x2 x3 =>
 (bif (decide (x3<8)) then
 (bif ((IntKind.wrap .u32 (((BitVec.ofInt (IntKind.bits .u32) x1 &&& BitVec.ofInt (IntKind.bits .u32) 1).toNat:Int)))==1) then
 (L1 x0 (IntKind.wrap .u32 (((BitVec.ofInt (IntKind.bits .u32) (Int.fdiv x1 (2 ^ (Int.toNat 1))) ^^^ BitVec.ofInt (IntKind.bits .u32) 2197175160).toNat:Int))) x2 (aH (x3+1)))
 else
 (L1 x0 (Int.fdiv x1 (2 ^ (Int.toNat 1))) x2 (aH (x3+1))))
 else
 (L0 x0 x1 (aH (x2+1))))
def l1 (k:Nat) (L0:T0):Nat→T1
 | 0=>fun _ _ _ _=>none
 | n+1=>b1 k L0 (l1 k L0 n)
def b0 (k:Nat) (L1:T1) (L0:T0):T0:=fun x0 x1 x2 =>
 (bif (decide (x2<(ByteArray.size x0:Int))) then
 (bX x2 (ByteArray.size x0:Int)
 (L1 x0 (IntKind.wrap .u32 (((BitVec.ofInt (IntKind.bits .u32) x1 ^^^ BitVec.ofInt (IntKind.bits .u32) (IntKind.wrap .u32 (e6 x0 x2))).toNat:Int))) x2 0))
 else
 (some ((aH (DI .u32 x1)),())))
def l0 (k:Nat):Nat→T0
 | 0=>fun _ _ _=>none
 | n+1=>b0 k (l1 k (l0 k n) k) (l0 k n)
def t (k:Nat) (L0:T0) (a0:ByteArray):Rs :=
 (L0 a0 4294967295 0)
def f (k:Nat):=t k (l0 k k)
end gQ
namespace dw
abbrev Rs:Type:=Option (ByteArray × Unit)
abbrev T0:Type:=Int→Int→List Int→Rs
def b0 (k:Nat) (L0:T0):T0:=fun x0 x1 x2 =>
 (bif (decide (x1≥0)) then
 (bif (decide ((aH (8*x1))<0)) then none else
 (rm (Ty.bytes (.int .u8)) (List.length x2+1)
 (L0 x0 (aH (x1-1)) (x2++[(IntKind.wrap .u8 (Int.fdiv x0 (2 ^ (min (Int.toNat (aH (8*x1))) (IntKind.bits .i64)))))]))))
 else
 (some ((bytesOf x2),())))
def l0 (k:Nat):Nat→T0
 | 0=>fun _ _ _=>none
 | n+1=>b0 k (l0 k n)
def t (k:Nat) (L0:T0) (a0:Int) (a1:Int):Rs :=
 ((ay.f k a1 1 7).bind fun r1 =>
 (bif (!r1.1) then
 (some ((⟨#[]⟩:ByteArray),()))
 else
 (bif (decide ((aH (8*a1))<0)) then none else
 ((ay.f k a0 0 (aH ((aH (1*2 ^ (min (Int.toNat (aH (8*a1))) (IntKind.bits .i64))))-1))).bind fun r2 =>
 (bif (!r2.1) then
 (some ((⟨#[]⟩:ByteArray),()))
 else
 (L0 a0 (aH (a1-1)) []))))))
def f (k:Nat):=t k (l0 k k)
end dw
namespace gA
abbrev Rs:Type:=Option (ByteArray × Unit)
def t (k:Nat) (a0:ByteArray):Rs :=
 (bif (decide ((ByteArray.size a0:Int) > 200)) then
 (some ((⟨#[]⟩:ByteArray),()))
 else
 ((ea.f k a0).bind fun r1 =>
 ((gQ.f k r1.1).bind fun r2 =>
 ((dw.f k r2.1 4).bind fun r3 =>
 (kX r3.1 r1.1
 (some ((r3.1++r1.1),())))))))
def f (k:Nat):=t k
end gA
namespace eS
abbrev Rs:Type:=Option (ByteArray × Int × Unit)
def t (k:Nat) (a0:ByteArray):Rs :=
 (bif (decide ((ByteArray.size a0:Int)<4)) then
 (some ((⟨#[]⟩:ByteArray),(0,())))
 else
 (pr 4 (ByteArray.size a0:Int)
 ((cV.f k (ByteArray.extract a0 4 (ByteArray.size a0))).bind fun r1 =>
 (bif (r1.2.1==0) then
 (some ((⟨#[]⟩:ByteArray),(0,())))
 else
 (bif (decide (r1.1 > 200)) then
 (some ((⟨#[]⟩:ByteArray),(0,())))
 else
 (bif (decide (r1.1 > (aH ((aH ((ByteArray.size a0:Int)-4))-r1.2.1)))) then
 (some ((⟨#[]⟩:ByteArray),(0,())))
 else
 (D7 (aH (4+r1.2.1)) (aH ((aH (4+r1.2.1))+r1.1)) (ByteArray.size a0:Int)
 ((gA.f k (ByteArray.extract a0 (Int.toNat (aH (4+r1.2.1))) (Int.toNat (aH ((aH (4+r1.2.1))+r1.1))))).bind fun r2 =>
 (pr (aH ((aH (4+r1.2.1))+r1.1)) (ByteArray.size a0:Int)
 (bif (!(seq r2.1 (ByteArray.extract a0 0 (Int.toNat (aH ((aH (4+r1.2.1))+r1.1)))))) then
 (some ((⟨#[]⟩:ByteArray),(0,())))
 else
 (some ((ByteArray.extract a0 (Int.toNat (aH (4+r1.2.1))) (Int.toNat (aH ((aH (4+r1.2.1))+r1.1)))),((aH ((aH (4+r1.2.1))+r1.1)),())))))))))))))
def f (k:Nat):=t k
end eS
namespace aw
abbrev Rs:Type:=Option ((Ty.den jd) × Int × Unit)
def t (k:Nat) (a0:Ty.den jd):Rs :=
 ((cV.f k a0.1).bind fun r1 =>
 (bif a0.2.1 then
 (some ((a0.1,(true,())),(0,())))
 else
 (bif (r1.2.1==0) then
 (some ((a0.1,(true,())),(0,())))
 else
 (pr r1.2.1 (ByteArray.size a0.1:Int)
 (some (((ByteArray.extract a0.1 (Int.toNat r1.2.1) (ByteArray.size a0.1)),a0.2),(r1.1,())))))))
def f (k:Nat):=t k
end aw
namespace aq
abbrev Rs:Type:=Option ((Ty.den jd) × ByteArray × Unit)
def t (k:Nat) (a0:Ty.den jd) (a1:Int):Rs :=
 (bif a0.2.1 then
 (some ((a0.1,(true,())),((⟨#[]⟩:ByteArray),())))
 else
 (bif (decide (a1 > (ByteArray.size a0.1:Int))) then
 (some ((a0.1,(true,())),((⟨#[]⟩:ByteArray),())))
 else
 (pr a1 (ByteArray.size a0.1:Int)
 (pr a1 (ByteArray.size a0.1:Int)
 (some (((ByteArray.extract a0.1 (Int.toNat a1) (ByteArray.size a0.1)),a0.2),((ByteArray.extract a0.1 0 (Int.toNat a1)),())))))))
def f (k:Nat):=t k
end aq
namespace aj
abbrev Rs:Type:=Option ((Ty.den jd) × ByteArray × Unit)
def t (k:Nat) (a0:Ty.den jd):Rs :=
 ((aw.f k a0).bind fun r1 =>
 ((aq.f k r1.1 r1.2.1).bind fun r2 =>
 (some r2)))
def f (k:Nat):=t k
end aj
namespace fc
abbrev Rs:Type:=Option (Bool × Unit)
def t (k:Nat) (a0:Ty.den am):Rs :=
 (bif (a0.1==1) then
 (bif (a0.1==1) then
 ((fk.f k a0.2.2.1).bind fun r1 =>
 (bif r1.1 then
 (bif (decide ((ByteArray.size a0.2.2.2.1:Int)≤24)) then
 ((ay.f k a0.2.1 1 1000000).bind fun r2 =>
 (bif r2.1 then
 (some (((a0.1==a0.1)&&((a0.2.1==a0.2.1)&&((seq a0.2.2.1 a0.2.2.1)&&((seq a0.2.2.2.1 a0.2.2.2.1)&&((a0.2.2.2.2.1==0)&&(a0.2.2.2.2.2.1==0)))))),()))
 else
 (some (false,()))))
 else
 (some (false,())))
 else
 (some (false,()))))
 else
 (bif (a0.1==2) then
 ((fk.f k a0.2.2.1).bind fun r3 =>
 (bif r3.1 then
 ((ay.f k a0.2.1 1 1000000).bind fun r4 =>
 (bif r4.1 then
 (some (((a0.1==a0.1)&&((a0.2.1==a0.2.1)&&((seq a0.2.2.1 a0.2.2.1)&&((seq a0.2.2.2.1 ByteArray.empty)&&((a0.2.2.2.2.1==0)&&(a0.2.2.2.2.2.1==0)))))),()))
 else
 (some (false,()))))
 else
 (some (false,()))))
 else
 (bif (a0.1==3) then
 ((ay.f k a0.2.2.2.2.1 0 8).bind fun r5 =>
 (bif r5.1 then
 ((ay.f k a0.2.2.2.2.2.1 0 4294967295).bind fun r6 =>
 (bif r6.1 then
 ((ay.f k a0.2.1 1 1000000).bind fun r7 =>
 (bif r7.1 then
 (some (((a0.1==a0.1)&&((a0.2.1==a0.2.1)&&((seq a0.2.2.1 ByteArray.empty)&&((seq a0.2.2.2.1 ByteArray.empty)&&((a0.2.2.2.2.1==a0.2.2.2.2.1)&&(a0.2.2.2.2.2.1==a0.2.2.2.2.2.1)))))),()))
 else
 (some (false,()))))
 else
 (some (false,()))))
 else
 (some (false,()))))
 else
 (bif (a0.1==5) then
 ((ay.f k a0.2.2.2.2.1 0 20).bind fun r8 =>
 (bif r8.1 then
 ((ay.f k a0.2.2.2.2.2.1 0 4294967295).bind fun r9 =>
 (bif r9.1 then
 ((ay.f k a0.2.1 0 1000000).bind fun r10 =>
 (bif r10.1 then
 (some (((a0.1==a0.1)&&((a0.2.1==a0.2.1)&&((seq a0.2.2.1 ByteArray.empty)&&((seq a0.2.2.2.1 ByteArray.empty)&&((a0.2.2.2.2.1==a0.2.2.2.2.1)&&(a0.2.2.2.2.2.1==a0.2.2.2.2.2.1)))))),()))
 else
 (some (false,()))))
 else
 (some (false,()))))
 else
 (some (false,()))))
 else
 (some (false,()))))))
 else
 (bif (a0.1==4) then
 ((fk.f k a0.2.2.1).bind fun r11 =>
 (bif r11.1 then
 (bif (decide ((ByteArray.size a0.2.2.2.1:Int)≤24)) then
 ((ay.f k a0.2.1 1 1000000).bind fun r12 =>
 (bif r12.1 then
 (some (((a0.1==a0.1)&&((a0.2.1==a0.2.1)&&((seq a0.2.2.1 a0.2.2.1)&&((seq a0.2.2.2.1 a0.2.2.2.1)&&((a0.2.2.2.2.1==0)&&(a0.2.2.2.2.2.1==0)))))),()))
 else
 (some (false,()))))
 else
 (some (false,())))
 else
 (some (false,()))))
 else
 (bif (a0.1==2) then
 ((fk.f k a0.2.2.1).bind fun r13 =>
 (bif r13.1 then
 ((ay.f k a0.2.1 1 1000000).bind fun r14 =>
 (bif r14.1 then
 (some (((a0.1==a0.1)&&((a0.2.1==a0.2.1)&&((seq a0.2.2.1 a0.2.2.1)&&((seq a0.2.2.2.1 ByteArray.empty)&&((a0.2.2.2.2.1==0)&&(a0.2.2.2.2.2.1==0)))))),()))
 else
 (some (false,()))))
 else
 (some (false,()))))
 else
 (bif (a0.1==3) then
 ((ay.f k a0.2.2.2.2.1 0 8).bind fun r15 =>
 (bif r15.1 then
 ((ay.f k a0.2.2.2.2.2.1 0 4294967295).bind fun r16 =>
 (bif r16.1 then
 ((ay.f k a0.2.1 1 1000000).bind fun r17 =>
 (bif r17.1 then
 (some (((a0.1==a0.1)&&((a0.2.1==a0.2.1)&&((seq a0.2.2.1 ByteArray.empty)&&((seq a0.2.2.2.1 ByteArray.empty)&&((a0.2.2.2.2.1==a0.2.2.2.2.1)&&(a0.2.2.2.2.2.1==a0.2.2.2.2.2.1)))))),()))
 else
 (some (false,()))))
 else
 (some (false,()))))
 else
 (some (false,()))))
 else
 (bif (a0.1==5) then
 ((ay.f k a0.2.2.2.2.1 0 20).bind fun r18 =>
 (bif r18.1 then
 ((ay.f k a0.2.2.2.2.2.1 0 4294967295).bind fun r19 =>
 (bif r19.1 then
 ((ay.f k a0.2.1 0 1000000).bind fun r20 =>
 (bif r20.1 then
 (some (((a0.1==a0.1)&&((a0.2.1==a0.2.1)&&((seq a0.2.2.1 ByteArray.empty)&&((seq a0.2.2.2.1 ByteArray.empty)&&((a0.2.2.2.2.1==a0.2.2.2.2.1)&&(a0.2.2.2.2.2.1==a0.2.2.2.2.2.1)))))),()))
 else
 (some (false,()))))
 else
 (some (false,()))))
 else
 (some (false,()))))
 else
 (some (false,())))))))
def f (k:Nat):=t k
end fc
namespace bh
abbrev Rs:Type:=Option (Int × Bool × Unit)
abbrev T0:Type:=ByteArray→Int→Int→Int→Rs
def b0 (k:Nat) (L0:T0):T0:=fun x0 x1 x2 x3 =>
 (bif (decide (x3<x2)) then
 (bX x3 (ByteArray.size x0:Int)
 (L0 x0 (aH (((BitVec.ofInt (IntKind.bits .i64) (aH (x1*2 ^ (min (Int.toNat 8) (IntKind.bits .i64)))) ||| BitVec.ofInt (IntKind.bits .i64) (aH (e6 x0 x3))).toNat:Int))) x2 (aH (x3+1))))
 else
 (some (x1,(true,()))))
def l0 (k:Nat):Nat→T0
 | 0=>fun _ _ _ _=>none
 | n+1=>b0 k (l0 k n)
def t (k:Nat) (L0:T0) (a0:ByteArray) (a1:Int):Rs :=
 ((ay.f k a1 1 7).bind fun r1 =>
 (bif (!r1.1) then
 (some (0,(false,())))
 else
 (bif (decide ((ByteArray.size a0:Int)<a1)) then
 (some (0,(false,())))
 else
 (L0 a0 0 a1 0))))
def f (k:Nat):=t k (l0 k k)
end bh
namespace cW
abbrev Rs:Type:=Option ((Ty.den am) × Bool × Unit)
def t (k:Nat) (a0:ByteArray):Rs :=
 ((aw.f k (a0,(false,()))).bind fun r1 =>
 ((aw.f k r1.1).bind fun r2 =>
 (bif (r1.2.1==1) then
 (bif (r1.2.1==1) then
 ((aj.f k r2.1).bind fun r3 =>
 ((aj.f k r3.1).bind fun r4 =>
 (bif r4.1.2.1 then
 (some ((0,(0,(ByteArray.empty,(ByteArray.empty,(0,(0,())))))),(false,())))
 else
 (bif (!(seq r4.1.1 (⟨#[]⟩:ByteArray))) then
 (some ((0,(0,(ByteArray.empty,(ByteArray.empty,(0,(0,())))))),(false,())))
 else
 ((fc.f k (r1.2.1,(r2.2.1,(r3.2.1,(r4.2.1,(0,(0,()))))))).bind fun r5 =>
 (bif (!r5.1) then
 (some ((0,(0,(ByteArray.empty,(ByteArray.empty,(0,(0,())))))),(false,())))
 else
 (some ((r1.2.1,(r2.2.1,(r3.2.1,(r4.2.1,(0,(0,())))))),(true,())))))))))
 else
 (bif (r1.2.1==2) then
 ((aj.f k r2.1).bind fun r6 =>
 (bif r6.1.2.1 then
 (some ((0,(0,(ByteArray.empty,(ByteArray.empty,(0,(0,())))))),(false,())))
 else
 (bif (!(seq r6.1.1 (⟨#[]⟩:ByteArray))) then
 (some ((0,(0,(ByteArray.empty,(ByteArray.empty,(0,(0,())))))),(false,())))
 else
 ((fc.f k (r1.2.1,(r2.2.1,(r6.2.1,(ByteArray.empty,(0,(0,()))))))).bind fun r7 =>
 (bif (!r7.1) then
 (some ((0,(0,(ByteArray.empty,(ByteArray.empty,(0,(0,())))))),(false,())))
 else
 (some ((r1.2.1,(r2.2.1,(r6.2.1,(ByteArray.empty,(0,(0,())))))),(true,()))))))))
 else
 ((aw.f k r2.1).bind fun r8 =>
 ((aq.f k r8.1 4).bind fun r9 =>
 ((bh.f k r9.2.1 4).bind fun r10 =>
 (bif r9.1.2.1 then
 (some ((0,(0,(ByteArray.empty,(ByteArray.empty,(0,(0,())))))),(false,())))
 else
 (bif (!(seq r9.1.1 (⟨#[]⟩:ByteArray))) then
 (some ((0,(0,(ByteArray.empty,(ByteArray.empty,(0,(0,())))))),(false,())))
 else
 ((fc.f k (r1.2.1,(r2.2.1,(ByteArray.empty,(ByteArray.empty,(r8.2.1,(r10.1,()))))))).bind fun r11 =>
 (bif (!r11.1) then
 (some ((0,(0,(ByteArray.empty,(ByteArray.empty,(0,(0,())))))),(false,())))
 else
 (some ((r1.2.1,(r2.2.1,(ByteArray.empty,(ByteArray.empty,(r8.2.1,(r10.1,())))))),(true,()))))))))))))
 else
 (bif (r1.2.1==4) then
 ((aj.f k r2.1).bind fun r12 =>
 ((aj.f k r12.1).bind fun r13 =>
 (bif r13.1.2.1 then
 (some ((0,(0,(ByteArray.empty,(ByteArray.empty,(0,(0,())))))),(false,())))
 else
 (bif (!(seq r13.1.1 (⟨#[]⟩:ByteArray))) then
 (some ((0,(0,(ByteArray.empty,(ByteArray.empty,(0,(0,())))))),(false,())))
 else
 ((fc.f k (r1.2.1,(r2.2.1,(r12.2.1,(r13.2.1,(0,(0,()))))))).bind fun r14 =>
 (bif (!r14.1) then
 (some ((0,(0,(ByteArray.empty,(ByteArray.empty,(0,(0,())))))),(false,())))
 else
 (some ((r1.2.1,(r2.2.1,(r12.2.1,(r13.2.1,(0,(0,())))))),(true,())))))))))
 else
 (bif (r1.2.1==2) then
 ((aj.f k r2.1).bind fun r15 =>
 (bif r15.1.2.1 then
 (some ((0,(0,(ByteArray.empty,(ByteArray.empty,(0,(0,())))))),(false,())))
 else
 (bif (!(seq r15.1.1 (⟨#[]⟩:ByteArray))) then
 (some ((0,(0,(ByteArray.empty,(ByteArray.empty,(0,(0,())))))),(false,())))
 else
 ((fc.f k (r1.2.1,(r2.2.1,(r15.2.1,(ByteArray.empty,(0,(0,()))))))).bind fun r16 =>
 (bif (!r16.1) then
 (some ((0,(0,(ByteArray.empty,(ByteArray.empty,(0,(0,())))))),(false,())))
 else
 (some ((r1.2.1,(r2.2.1,(r15.2.1,(ByteArray.empty,(0,(0,())))))),(true,()))))))))
 else
 ((aw.f k r2.1).bind fun r17 =>
 ((aq.f k r17.1 4).bind fun r18 =>
 ((bh.f k r18.2.1 4).bind fun r19 =>
 (bif r18.1.2.1 then
 (some ((0,(0,(ByteArray.empty,(ByteArray.empty,(0,(0,())))))),(false,())))
 else
 (bif (!(seq r18.1.1 (⟨#[]⟩:ByteArray))) then
 (some ((0,(0,(ByteArray.empty,(ByteArray.empty,(0,(0,())))))),(false,())))
 else
 ((fc.f k (r1.2.1,(r2.2.1,(ByteArray.empty,(ByteArray.empty,(r17.2.1,(r19.1,()))))))).bind fun r20 =>
 (bif (!r20.1) then
 (some ((0,(0,(ByteArray.empty,(ByteArray.empty,(0,(0,())))))),(false,())))
 else
 (some ((r1.2.1,(r2.2.1,(ByteArray.empty,(ByteArray.empty,(r17.2.1,(r19.1,())))))),(true,())))))))))))))))
def f (k:Nat):=t k
end cW
namespace eH
abbrev Rs:Type:=Option ((List (Ty.den dD)) × Int × Unit)
abbrev T0:Type:=ByteArray→Int→List (Ty.den dD)→Rs
def b0 (k:Nat) (L0:T0):T0:=fun x0 x1 x2 =>
 (pr x1 (ByteArray.size x0:Int)
 ((eS.f k (ByteArray.extract x0 (Int.toNat x1) (ByteArray.size x0))).bind fun r1 =>
 ((cW.f k r1.1).bind fun r2 =>
 (bif (r1.2.1==0) then
 (some (x2,(x1,())))
 else
 (bif (!r2.2.1) then
 (some (x2,(x1,())))
 else
 (rm (Ty.bytes dD) (List.length x2+1)
 (L0 x0 (aH (x1+r1.2.1)) (x2++[(x1,(r1.2.1,(r2.1,())))]))))))))
def l0 (k:Nat):Nat→T0
 | 0=>fun _ _ _=>none
 | n+1=>b0 k (l0 k n)
def t (k:Nat) (L0:T0) (a0:ByteArray):Rs :=
 (L0 a0 0 [])
def f (k:Nat):=t k (l0 k k)
end eH
namespace iw
abbrev Rs:Type:=Option ((Ty.den am) × Bool × Unit)
def t (k:Nat) (a0:ByteArray) (a1:Int) (a2:Int):Rs :=
 ((ay.f k a1 0 (ByteArray.size a0:Int)).bind fun r1 =>
 (bif (!r1.1) then
 (some ((0,(0,(ByteArray.empty,(ByteArray.empty,(0,(0,())))))),(false,())))
 else
 ((ay.f k a2 0 (aH ((ByteArray.size a0:Int)-a1))).bind fun r2 =>
 (bif (!r2.1) then
 (some ((0,(0,(ByteArray.empty,(ByteArray.empty,(0,(0,())))))),(false,())))
 else
 (D7 a1 (aH (a1+a2)) (ByteArray.size a0:Int)
 ((eS.f k (ByteArray.extract a0 (Int.toNat a1) (Int.toNat (aH (a1+a2))))).bind fun r3 =>
 (bif (r3.2.1==0) then
 (some ((0,(0,(ByteArray.empty,(ByteArray.empty,(0,(0,())))))),(false,())))
 else
 (bif (r3.2.1 != a2) then
 (some ((0,(0,(ByteArray.empty,(ByteArray.empty,(0,(0,())))))),(false,())))
 else
 ((cW.f k r3.1).bind fun r4 =>
 (some r4))))))))))
def f (k:Nat):=t k
end iw
namespace cU
abbrev Rs:Type:=Option (Bool × Unit)
abbrev T1:Type:=List (Ty.den aA)→Int→Int→Int→List Int→List (Ty.den aA)→Int→Int→Int→List (Ty.den aD)→Int→Int→Bool→Rs
abbrev T0:Type:=List Int→Int→Int→Int→List Int→List (Ty.den aA)→Int→Int→Int→List (Ty.den aD)→Int→Int→Bool→Rs
def b1 (k:Nat) (L1:T1):T1:=fun x0 x1 x2 x3 x4 x5 x6 x7 x8 x9 x10 x11 x12 =>
 (bif (decide (x2<x1)) then
 (bX x2 (x0.length:Int)
 ((dS.f k (List.getD x0 (Int.toNat x2) (Ty.dflt aA)).2.1).bind fun r8 =>
 ((fP.f k (x9,(x10,(x11,(x12,())))) r8.1).bind fun r9 =>
 ((iw.f k r9.1 (List.getD x0 (Int.toNat x2) (Ty.dflt aA)).2.2.1 (List.getD x0 (Int.toNat x2) (Ty.dflt aA)).2.2.2.1).bind fun r10 =>
 (bif (!r10.2.1) then
 (some (false,()))
 else
 (bif (r10.1.1 != 1) then
 (bif (r10.1.1 != 4) then
 (some (false,()))
 else
 (bif (!(seq r10.1.2.2.1 (List.getD x0 (Int.toNat x2) (Ty.dflt aA)).1)) then
 (some (false,()))
 else
 (bif (r10.1.2.1 != (List.getD x0 (Int.toNat x2) (Ty.dflt aA)).2.2.2.2.1) then
 (some (false,()))
 else
 (bif (decide ((List.getD x0 (Int.toNat x2) (Ty.dflt aA)).2.2.2.2.1≥x6)) then
 (some (false,()))
 else
 (L1 x0 x1 (aH (x2+1)) x3 x4 x5 x6 x7 x8 x9 x10 x11 x12)))))
 else
 (bif (!(seq r10.1.2.2.1 (List.getD x0 (Int.toNat x2) (Ty.dflt aA)).1)) then
 (some (false,()))
 else
 (bif (r10.1.2.1 != (List.getD x0 (Int.toNat x2) (Ty.dflt aA)).2.2.2.2.1) then
 (some (false,()))
 else
 (bif (decide ((List.getD x0 (Int.toNat x2) (Ty.dflt aA)).2.2.2.2.1≥x6)) then
 (some (false,()))
 else
 (L1 x0 x1 (aH (x2+1)) x3 x4 x5 x6 x7 x8 x9 x10 x11 x12))))))))))
 else
 (some (true,())))
def l1 (k:Nat):Nat→T1
 | 0=>fun _ _ _ _ _ _ _ _ _ _ _ _ _=>none
 | n+1=>b1 k (l1 k n)
def b0 (k:Nat) (L1:T1) (L0:T0):T0:=fun x0 x1 x2 x3 x4 x5 x6 x7 x8 x9 x10 x11 x12 =>
 (bif (decide (x2<x1)) then
 (bX x2 (x0.length:Int)
 ((dS.f k (List.getD x0 (Int.toNat x2) (Ty.dflt (.int .i64)))).bind fun r5 =>
 ((fP.f k (x9,(x10,(x11,(x12,())))) r5.1).bind fun r6 =>
 ((eH.f k r6.1).bind fun r7 =>
 (bif (!r6.2.1) then
 (some (false,()))
 else
 (bif (r7.2.1 != (ByteArray.size r6.1:Int)) then
 (some (false,()))
 else
 (bif (x2==(aH ((x4.length:Int)-1))) then
 (bif (x7 != r7.2.1) then
 (some (false,()))
 else
 (L0 x0 x1 (aH (x2+1)) x3 x4 x5 x6 x7 x8 x9 x10 x11 x12))
 else
 (L0 x0 x1 (aH (x2+1)) x3 x4 x5 x6 x7 x8 x9 x10 x11 x12))))))))
 else
 (L1 x5 (x5.length:Int) 0 x3 x4 x5 x6 x7 x8 x9 x10 x11 x12))
def l0 (k:Nat):Nat→T0
 | 0=>fun _ _ _ _ _ _ _ _ _ _ _ _ _=>none
 | n+1=>b0 k (l1 k k) (l0 k n)
def t (k:Nat) (L0:T0) (a0:Ty.den aC) (a1:Ty.den a_):Rs :=
 ((bV.f k a1).bind fun r1 =>
 (bif (!r1.1) then
 (some (false,()))
 else
 ((dr.f k a0.1).bind fun r2 =>
 (bif (!r2.1) then
 (some (false,()))
 else
 ((fj.f k a0.2.1).bind fun r3 =>
 (bif (!r3.1) then
 (some (false,()))
 else
 ((ay.f k a0.2.2.1 1 1000001).bind fun r4 =>
 (bif (!r4.1) then
 (some (false,()))
 else
 (L0 a0.1.2.1 (List.length a0.1.2.1:Int) 0 a0.1.1 a0.1.2.1 a0.2.1 a0.2.2.1 a0.2.2.2.1 a0.2.2.2.2.1 a1.1 a1.2.1 a1.2.2.1 a1.2.2.2.1)))))))))
def f (k:Nat):=t k (l0 k k)
end cU
namespace jw
abbrev Rs:Type:=Option (Bool × Unit)
def t (k:Nat) (a0:Ty.den af):Rs :=
 ((fk.f k a0.1).bind fun r1 =>
 (bif r1.1 then
 (bif (decide ((ByteArray.size a0.2.2.1:Int)≤24)) then
 (bif (!a0.2.1) then
 (some (true,()))
 else
 (some ((seq a0.2.2.1 (⟨#[]⟩:ByteArray)),())))
 else
 (some (false,())))
 else
 (some (false,()))))
def f (k:Nat):=t k
end jw
namespace dc
abbrev Rs:Type:=Option (Bool × Unit)
abbrev T0:Type:=List (Ty.den af)→List (Ty.den af)→Int→Int→Rs
def b0 (k:Nat) (L0:T0):T0:=fun x0 x1 x2 x3 =>
 (bif (decide (x3<x2)) then
 (bX x3 (x1.length:Int)
 ((jw.f k (List.getD x1 (Int.toNat x3) (Ty.dflt af))).bind fun r1 =>
 (bif (!r1.1) then
 (some (false,()))
 else
 (L0 x0 x1 x2 (aH (x3+1))))))
 else
 (some ((decide ((x0.length:Int)≤8)),())))
def l0 (k:Nat):Nat→T0
 | 0=>fun _ _ _ _=>none
 | n+1=>b0 k (l0 k n)
def t (k:Nat) (L0:T0) (a0:List (Ty.den af)):Rs :=
 (L0 a0 a0 (List.length a0:Int) 0)
def f (k:Nat):=t k (l0 k k)
end dc
namespace c_
abbrev Rs:Type:=Option ((List (Ty.den aA)) × Unit)
abbrev T0:Type:=ByteArray→List (Ty.den aA)→Int→Int→List (Ty.den aA)→Rs
def b0 (k:Nat) (L0:T0):T0:=fun x0 x1 x2 x3 x4 =>
 (bif (decide (x3<x2)) then
 (bX x3 (x1.length:Int)
 (bif (!(seq (List.getD x1 (Int.toNat x3) (Ty.dflt aA)).1 x0)) then
 (rm (Ty.bytes aA) (List.length x4+1)
 (L0 x0 x1 x2 (aH (x3+1)) (x4++[(List.getD x1 (Int.toNat x3) (Ty.dflt aA))])))
 else
 (L0 x0 x1 x2 (aH (x3+1)) x4)))
 else
 (some (x4,())))
def l0 (k:Nat):Nat→T0
 | 0=>fun _ _ _ _ _=>none
 | n+1=>b0 k (l0 k n)
def t (k:Nat) (L0:T0) (a0:List (Ty.den aA)) (a1:ByteArray):Rs :=
 (L0 a1 a0 (List.length a0:Int) 0 [])
def f (k:Nat):=t k (l0 k k)
end c_
namespace dH
abbrev Rs:Type:=Option ((List (Ty.den aA)) × Unit)
abbrev T0:Type:=Int→ByteArray→Int→Int→Int→Int→List (Ty.den aA)→Rs
def b0 (k:Nat) (L0:T0):T0:=fun x0 x1 x2 x3 x4 x5 x6 =>
 (bif (decide (x0<(x6.length:Int))) then
 (bX x0 (x6.length:Int)
 (bif ((lZ (List.getD x6 (Int.toNat x0) (Ty.dflt aA)).1 x1)||(seq (List.getD x6 (Int.toNat x0) (Ty.dflt aA)).1 x1)) then
 (L0 (aH (x0+1)) x1 x2 x3 x4 x5 x6)
 else
 (pr x0 (x6.length:Int)
 ((fD.f k (List.take (Int.toNat x0) x6)).bind fun r2 =>
 (rm (Ty.bytes aA) (List.length r2.1+1)
 (pr x0 (x6.length:Int)
 (rm (Ty.bytes aA) (List.length (r2.1++[(x1,(x2,(x3,(x4,(x5,())))))])+List.length (List.drop (Int.toNat x0) x6))
 (some (((r2.1++[(x1,(x2,(x3,(x4,(x5,())))))])++(List.drop (Int.toNat x0) x6)),())))))))))
 else
 (pr x0 (x6.length:Int)
 ((fD.f k (List.take (Int.toNat x0) x6)).bind fun r3 =>
 (rm (Ty.bytes aA) (List.length r3.1+1)
 (pr x0 (x6.length:Int)
 (rm (Ty.bytes aA) (List.length (r3.1++[(x1,(x2,(x3,(x4,(x5,())))))])+List.length (List.drop (Int.toNat x0) x6))
 (some (((r3.1++[(x1,(x2,(x3,(x4,(x5,())))))])++(List.drop (Int.toNat x0) x6)),()))))))))
def l0 (k:Nat):Nat→T0
 | 0=>fun _ _ _ _ _ _ _=>none
 | n+1=>b0 k (l0 k n)
def t (k:Nat) (L0:T0) (a0:List (Ty.den aA)) (a1:Ty.den aA):Rs :=
 ((c_.f k a0 a1.1).bind fun r1 =>
 (L0 0 a1.1 a1.2.1 a1.2.2.1 a1.2.2.2.1 a1.2.2.2.2.1 r1.1))
def f (k:Nat):=t k (l0 k k)
end dH
namespace fX
abbrev Rs:Type:=Option ((List (Ty.den aA)) × Unit)
abbrev T1:Type:=List (Ty.den aA)→List (Ty.den af)→Int→Int→List (Ty.den aA)→Rs
abbrev T0:Type:=List (Ty.den aA)→List (Ty.den aA)→List (Ty.den af)→Int→Int→Rs
def b1 (k:Nat) (L1:T1):T1:=fun x0 x1 x2 x3 x4 =>
 (bif (decide (x3<x2)) then
 (bX x3 (x1.length:Int)
 (bif (List.getD x1 (Int.toNat x3) (Ty.dflt af)).2.1 then
 ((c_.f k x4 (List.getD x1 (Int.toNat x3) (Ty.dflt af)).1).bind fun r2 =>
 (L1 x0 x1 x2 (aH (x3+1)) r2.1))
 else
 (bX x3 (x0.length:Int)
 ((dH.f k x4 (List.getD x0 (Int.toNat x3) (Ty.dflt aA))).bind fun r3 =>
 (L1 x0 x1 x2 (aH (x3+1)) r3.1)))))
 else
 (some (x4,())))
def l1 (k:Nat):Nat→T1
 | 0=>fun _ _ _ _ _=>none
 | n+1=>b1 k (l1 k n)
def b0 (k:Nat) (L1:T1):T0:=fun x0 x1 x2 x3 x4 =>
 (bif (decide (x4<x3)) then
 (bX x4 (x2.length:Int)
 (bif (List.getD x2 (Int.toNat x4) (Ty.dflt af)).2.1 then
 ((c_.f k x0 (List.getD x2 (Int.toNat x4) (Ty.dflt af)).1).bind fun r1 =>
 (L1 x1 x2 x3 (aH (x4+1)) r1.1))
 else
 (bX x4 (x1.length:Int)
 ((dH.f k x0 (List.getD x1 (Int.toNat x4) (Ty.dflt aA))).bind fun r4 =>
 (L1 x1 x2 x3 (aH (x4+1)) r4.1)))))
 else
 (some (x0,())))
def l0 (k:Nat):Nat→T0
 | 0=>fun _ _ _ _ _=>none
 | n+1=>b0 k (l1 k n)
def t (k:Nat) (L0:T0) (a0:List (Ty.den aA)) (a1:List (Ty.den af)) (a2:List (Ty.den aA)):Rs :=
 (L0 a0 a2 a1 (List.length a1:Int) 0)
def f (k:Nat):=t k (l0 k k)
end fX
namespace eI
abbrev Rs:Type:=Option (Int × Unit)
abbrev T0:Type:=List (Ty.den aA)→List (Ty.den af)→List (Ty.den af)→Int→Int→List (Ty.den aA)→Rs
def b0 (k:Nat) (L0:T0):T0:=fun x0 x1 x2 x3 x4 x5 =>
 (bif (decide (x4<x3)) then
 (bX x4 (x2.length:Int)
 (rm (Ty.bytes aA) (List.length x5+1)
 (L0 x0 x1 x2 x3 (aH (x4+1)) (x5++[((List.getD x2 (Int.toNat x4) (Ty.dflt af)).1,(0,(0,(0,(0,())))))]))))
 else
 ((fX.f k x0 x1 x5).bind fun r1 =>
 (some ((List.length r1.1:Int),()))))
def l0 (k:Nat):Nat→T0
 | 0=>fun _ _ _ _ _ _=>none
 | n+1=>b0 k (l0 k n)
def t (k:Nat) (L0:T0) (a0:List (Ty.den aA)) (a1:List (Ty.den af)):Rs :=
 (L0 a0 a1 a1 (List.length a1:Int) 0 [])
def f (k:Nat):=t k (l0 k k)
end eI
namespace du
abbrev Rs:Type:=Option (ByteArray × Unit)
abbrev T0:Type:=ByteArray→List Int→Int→Int→Rs
def b0 (k:Nat) (L0:T0):T0:=fun x0 x1 x2 x3 =>
 (bif (decide (x3<x2)) then
 (bX x3 (x1.length:Int)
 ((fH.f k (List.getD x1 (Int.toNat x3) (Ty.dflt (.int .i64)))).bind fun r1 =>
 (kX x0 r1.1
 (L0 (x0++r1.1) x1 x2 (aH (x3+1))))))
 else
 (some (x0,())))
def l0 (k:Nat):Nat→T0
 | 0=>fun _ _ _ _=>none
 | n+1=>b0 k (l0 k n)
def t (k:Nat) (L0:T0) (a0:List Int):Rs :=
 (L0 (⟨#[]⟩:ByteArray) a0 (List.length a0:Int) 0)
def f (k:Nat):=t k (l0 k k)
end du
namespace fY
abbrev Rs:Type:=Option (ByteArray × Unit)
def t (k:Nat) (a0:Ty.den am):Rs :=
 ((fc.f k a0).bind fun r1 =>
 (bif (!r1.1) then
 (some ((⟨#[]⟩:ByteArray),()))
 else
 ((du.f k [a0.1,a0.2.1]).bind fun r2 =>
 (bif (a0.1==1) then
 (bif (a0.1==1) then
 ((ea.f k a0.2.2.1).bind fun r3 =>
 (kX r2.1 r3.1
 ((ea.f k a0.2.2.2.1).bind fun r4 =>
 (kX (r2.1++r3.1) r4.1
 (some (((r2.1++r3.1)++r4.1),()))))))
 else
 (bif (a0.1==2) then
 ((ea.f k a0.2.2.1).bind fun r5 =>
 (kX r2.1 r5.1
 (some ((r2.1++r5.1),()))))
 else
 ((fH.f k a0.2.2.2.2.1).bind fun r6 =>
 (kX r2.1 r6.1
 ((dw.f k a0.2.2.2.2.2.1 4).bind fun r7 =>
 (kX (r2.1++r6.1) r7.1
 (some (((r2.1++r6.1)++r7.1),()))))))))
 else
 (bif (a0.1==4) then
 ((ea.f k a0.2.2.1).bind fun r8 =>
 (kX r2.1 r8.1
 ((ea.f k a0.2.2.2.1).bind fun r9 =>
 (kX (r2.1++r8.1) r9.1
 (some (((r2.1++r8.1)++r9.1),()))))))
 else
 (bif (a0.1==2) then
 ((ea.f k a0.2.2.1).bind fun r10 =>
 (kX r2.1 r10.1
 (some ((r2.1++r10.1),()))))
 else
 ((fH.f k a0.2.2.2.2.1).bind fun r11 =>
 (kX r2.1 r11.1
 ((dw.f k a0.2.2.2.2.2.1 4).bind fun r12 =>
 (kX (r2.1++r11.1) r12.1
 (some (((r2.1++r11.1)++r12.1),()))))))))))))
def f (k:Nat):=t k
end fY
namespace iQ
abbrev Rs:Type:=Option (Int × Unit)
abbrev T0:Type:=ByteArray→List (Ty.den am)→Int→Int→Rs
def b0 (k:Nat) (L0:T0):T0:=fun x0 x1 x2 x3 =>
 (bif (decide (x3<x2)) then
 (bX x3 (x1.length:Int)
 ((fY.f k (List.getD x1 (Int.toNat x3) (Ty.dflt am))).bind fun r1 =>
 (kX x0 r1.1
 (L0 (x0++r1.1) x1 x2 (aH (x3+1))))))
 else
 ((gQ.f k x0).bind fun r2 =>
 (some r2)))
def l0 (k:Nat):Nat→T0
 | 0=>fun _ _ _ _=>none
 | n+1=>b0 k (l0 k n)
def t (k:Nat) (L0:T0) (a0:List (Ty.den am)):Rs :=
 (L0 (⟨#[]⟩:ByteArray) a0 (List.length a0:Int) 0)
def f (k:Nat):=t k (l0 k k)
end iQ
namespace cm
abbrev Rs:Type:=Option ((List (Ty.den am)) × Unit)
abbrev T0:Type:=List (Ty.den af)→Int→List (Ty.den af)→Int→Int→List (Ty.den am)→Rs
def b0 (k:Nat) (L0:T0):T0:=fun x0 x1 x2 x3 x4 x5 =>
 (bif (decide (x4<x3)) then
 (bX x4 (x2.length:Int)
 (bif (List.getD x2 (Int.toNat x4) (Ty.dflt af)).2.1 then
 (rm (Ty.bytes am) (List.length x5+1)
 (L0 x0 x1 x2 x3 (aH (x4+1)) (x5++[(2,(x1,((List.getD x2 (Int.toNat x4) (Ty.dflt af)).1,(ByteArray.empty,(0,(0,()))))))])))
 else
 (rm (Ty.bytes am) (List.length x5+1)
 (L0 x0 x1 x2 x3 (aH (x4+1)) (x5++[(1,(x1,((List.getD x2 (Int.toNat x4) (Ty.dflt af)).1,((List.getD x2 (Int.toNat x4) (Ty.dflt af)).2.2.1,(0,(0,()))))))])))))
 else
 ((iQ.f k x5).bind fun r1 =>
 (rm (Ty.bytes am) (List.length x5+1)
 (some ((x5++[(3,(x1,(ByteArray.empty,(ByteArray.empty,((x0.length:Int),r1)))))]),())))))
def l0 (k:Nat):Nat→T0
 | 0=>fun _ _ _ _ _ _=>none
 | n+1=>b0 k (l0 k n)
def t (k:Nat) (L0:T0) (a0:List (Ty.den af)) (a1:Int):Rs :=
 (L0 a0 a1 a0 (List.length a0:Int) 0 [])
def f (k:Nat):=t k (l0 k k)
end cm
namespace bM
abbrev Rs:Type:=Option ((Ty.den aC) × ByteArray × Unit)
def t (k:Nat) (a0:Ty.den aC):Rs :=
 (bX (aH ((List.length a0.1.2.1:Int)-1)) (List.length a0.1.2.1:Int)
 ((dS.f k (List.getD a0.1.2.1 (Int.toNat (aH ((List.length a0.1.2.1:Int)-1))) (Ty.dflt (.int .i64)))).bind fun r1 =>
 (some (a0,r1))))
def f (k:Nat):=t k
end bM
namespace gh
abbrev Rs:Type:=Option ((Ty.den a_) × ByteArray × Int × Unit)
def t (k:Nat) (a0:Ty.den a_) (a1:ByteArray):Rs :=
 ((bT.f k a0 a1).bind fun r1 =>
 (bif (decide (r1.1<0)) then
 (some (a0,(a1,(3,()))))
 else
 (bX r1.1 (List.length a0.1:Int)
 (bX r1.1 (List.length a0.1:Int)
 (let l2:=(List.set a0.1 (Int.toNat r1.1) ((List.getD a0.1 (Int.toNat r1.1) (Ty.dflt aD)).1,((List.getD a0.1 (Int.toNat r1.1) (Ty.dflt aD)).2.1,((ByteArray.size (List.getD a0.1 (Int.toNat r1.1) (Ty.dflt aD)).2.1:Int),(List.getD a0.1 (Int.toNat r1.1) (Ty.dflt aD)).2.2.2))));
 (some ((l2,a0.2),(a1,(0,())))))))))
def f (k:Nat):=t k
end gh
namespace gW
abbrev Rs:Type:=Option (ByteArray × (Ty.den a_) × Int × Unit)
def t (k:Nat) (a0:Ty.den a_) (a1:ByteArray):Rs :=
 ((cH.f k a0).bind fun r1 =>
 ((bV.f k a0).bind fun r2 =>
 (bif (!r2.1) then
 (some (a1,(r1.1,(5,()))))
 else
 (bif a0.2.2.2.1 then
 (some (a1,((r1.1.1,(r1.1.2.1,(r1.1.2.2.1,(true,())))),(1,()))))
 else
 (bif (a0.2.2.1==0) then
 (some (a1,((r1.1.1,(r1.1.2.1,(r1.1.2.2.1,(true,())))),(1,()))))
 else
 (bif (decide (a0.2.2.1 > 0)) then
 ((gh.f k (r1.1.1,(r1.1.2.1,((aH (r1.1.2.2.1-1)),r1.1.2.2.2))) a1).bind fun r3 =>
 (some (r3.2.1,(r3.1,r3.2.2))))
 else
 ((gh.f k r1.1 a1).bind fun r4 =>
 (some (r4.2.1,(r4.1,r4.2.2))))))))))
def f (k:Nat):=t k
end gW
namespace lG
abbrev Rs:Type:=Option ((Ty.den a_) × Int × Unit)
def t (k:Nat) (a0:Ty.den a_) (a1:ByteArray):Rs :=
 ((gW.f k a0 a1).bind fun r1 =>
 (some r1.2))
def f (k:Nat):=t k
end lG
namespace lF
abbrev Rs:Type:=Option (Int × Unit)
def t (k:Nat) (a0:Int):Rs :=
 (bif (a0==0) then
 (some (0,()))
 else
 (bif (a0==1) then
 (some (1,()))
 else
 (bif (a0==2) then
 (some (2,()))
 else
 (some (3,())))))
def f (k:Nat):=t k
end lF
namespace ar
abbrev Rs:Type:=Option ((Ty.den b8) × Unit)
def t (k:Nat) (a0:Ty.den b8) (a1:Ty.den a_) (a2:Int):Rs :=
 ((lF.f k a2).bind fun r1 =>
 (some ((a1,r1),())))
def f (k:Nat):=t k
end ar
namespace ch
abbrev Rs:Type:=Option ((Ty.den b8) × Unit)
def t (k:Nat) (a0:Ty.den b8) (a1:ByteArray):Rs :=
 (bif (a0.2.1==0) then
 ((lG.f k a0.1 a1).bind fun r1 =>
 ((ar.f k a0 r1.1 r1.2.1).bind fun r2 =>
 (some r2)))
 else
 (some (a0,())))
def f (k:Nat):=t k
end ch
namespace eE
abbrev Rs:Type:=Option ((Ty.den a_) × Unit)
def t (k:Nat) (a0:Ty.den a_) (a1:ByteArray):Rs :=
 ((bT.f k a0 a1).bind fun r1 =>
 (bif (decide (r1.1≥0)) then
 (pr r1.1 (List.length a0.1:Int)
 (rm (Ty.bytes aD) (List.length (List.take (Int.toNat r1.1) a0.1))
 (pr (aH (r1.1+1)) (List.length a0.1:Int)
 (rm (Ty.bytes aD) (List.length (List.take (Int.toNat r1.1) a0.1)+List.length (List.drop (Int.toNat (aH (r1.1+1))) a0.1))
 (some ((((List.take (Int.toNat r1.1) a0.1)++(List.drop (Int.toNat (aH (r1.1+1))) a0.1)),a0.2),()))))))
 else
 (some (a0,()))))
def f (k:Nat):=t k
end eE
namespace fU
abbrev Rs:Type:=Option ((Ty.den a_) × ByteArray × Int × Unit)
def t (k:Nat) (a0:Ty.den a_) (a1:ByteArray):Rs :=
 ((bT.f k a0 a1).bind fun r1 =>
 (bif (decide (r1.1<0)) then
 (some (a0,(a1,(3,()))))
 else
 ((eE.f k a0 a1).bind fun r2 =>
 (some (r2.1,(a1,(0,())))))))
def f (k:Nat):=t k
end fU
namespace ff
abbrev Rs:Type:=Option (ByteArray × (Ty.den a_) × Int × Unit)
def t (k:Nat) (a0:Ty.den a_) (a1:ByteArray):Rs :=
 ((cH.f k a0).bind fun r1 =>
 ((bV.f k a0).bind fun r2 =>
 (bif (!r2.1) then
 (some (a1,(r1.1,(5,()))))
 else
 (bif a0.2.2.2.1 then
 (some (a1,((r1.1.1,(r1.1.2.1,(r1.1.2.2.1,(true,())))),(1,()))))
 else
 (bif (a0.2.2.1==0) then
 (some (a1,((r1.1.1,(r1.1.2.1,(r1.1.2.2.1,(true,())))),(1,()))))
 else
 (bif (decide (a0.2.2.1 > 0)) then
 ((fU.f k (r1.1.1,(r1.1.2.1,((aH (r1.1.2.2.1-1)),r1.1.2.2.2))) a1).bind fun r3 =>
 (some (r3.2.1,(r3.1,r3.2.2))))
 else
 ((fU.f k r1.1 a1).bind fun r4 =>
 (some (r4.2.1,(r4.1,r4.2.2))))))))))
def f (k:Nat):=t k
end ff
namespace jP
abbrev Rs:Type:=Option ((Ty.den a_) × Int × Unit)
def t (k:Nat) (a0:Ty.den a_) (a1:ByteArray):Rs :=
 ((ff.f k a0 a1).bind fun r1 =>
 (some r1.2))
def f (k:Nat):=t k
end jP
namespace cg
abbrev Rs:Type:=Option ((Ty.den b8) × Unit)
def t (k:Nat) (a0:Ty.den b8) (a1:ByteArray):Rs :=
 (bif (a0.2.1==0) then
 ((bT.f k a0.1 a1).bind fun r1 =>
 (bif (decide (r1.1≥0)) then
 ((jP.f k a0.1 a1).bind fun r2 =>
 ((ar.f k a0 r2.1 r2.2.1).bind fun r3 =>
 (some r3)))
 else
 (some (a0,()))))
 else
 (some (a0,())))
def f (k:Nat):=t k
end cg
namespace co
abbrev Rs:Type:=Option ((Ty.den a_) × Unit)
abbrev T0:Type:=Int→List (Ty.den aD)→Int→Int→Bool→ByteArray→ByteArray→Int→Rs
def b0 (k:Nat) (L0:T0):T0:=fun x0 x1 x2 x3 x4 x5 x6 x7 =>
 (bif (decide (x0<(x1.length:Int))) then
 (bX x0 (x1.length:Int)
 (bif (lZ (List.getD x1 (Int.toNat x0) (Ty.dflt aD)).1 x5) then
 (L0 (aH (x0+1)) x1 x2 x3 x4 x5 x6 x7)
 else
 (pr x0 (x1.length:Int)
 (rm (Ty.bytes aD) (List.length (List.take (Int.toNat x0) x1))
 (rm (Ty.bytes aD) (List.length (List.take (Int.toNat x0) x1)+1)
 (pr x0 (x1.length:Int)
 (rm (Ty.bytes aD) (List.length ((List.take (Int.toNat x0) x1)++[(x5,(x6,(x7,())))])+List.length (List.drop (Int.toNat x0) x1))
 (some (((((List.take (Int.toNat x0) x1)++[(x5,(x6,(x7,())))])++(List.drop (Int.toNat x0) x1)),(x2,(x3,(x4,())))),())))))))))
 else
 (pr x0 (x1.length:Int)
 (rm (Ty.bytes aD) (List.length (List.take (Int.toNat x0) x1))
 (rm (Ty.bytes aD) (List.length (List.take (Int.toNat x0) x1)+1)
 (pr x0 (x1.length:Int)
 (rm (Ty.bytes aD) (List.length ((List.take (Int.toNat x0) x1)++[(x5,(x6,(x7,())))])+List.length (List.drop (Int.toNat x0) x1))
 (some (((((List.take (Int.toNat x0) x1)++[(x5,(x6,(x7,())))])++(List.drop (Int.toNat x0) x1)),(x2,(x3,(x4,())))),()))))))))
def l0 (k:Nat):Nat→T0
 | 0=>fun _ _ _ _ _ _ _ _=>none
 | n+1=>b0 k (l0 k n)
def t (k:Nat) (L0:T0) (a0:Ty.den a_) (a1:Ty.den aD):Rs :=
 (L0 0 a0.1 a0.2.1 a0.2.2.1 a0.2.2.2.1 a1.1 a1.2.1 a1.2.2.1)
def f (k:Nat):=t k (l0 k k)
end co
namespace fS
abbrev Rs:Type:=Option ((Ty.den a_) × ByteArray × Int × Unit)
def t (k:Nat) (a0:Ty.den a_) (a1:ByteArray):Rs :=
 ((dk.f k a1).bind fun r1 =>
 (bif (!r1.1) then
 (some (a0,(a1,(5,()))))
 else
 ((bT.f k a0 a1).bind fun r2 =>
 (bif (decide (r2.1≥0)) then
 (some (a0,(a1,(4,()))))
 else
 (bif (decide ((List.length a0.1:Int)≥130)) then
 (some (a0,(a1,(2,()))))
 else
 ((co.f k a0 (a1,(ByteArray.empty,(0,())))).bind fun r3 =>
 (some (r3.1,(a1,(0,()))))))))))
def f (k:Nat):=t k
end fS
namespace fe
abbrev Rs:Type:=Option (ByteArray × (Ty.den a_) × Int × Unit)
def t (k:Nat) (a0:Ty.den a_) (a1:ByteArray):Rs :=
 ((cH.f k a0).bind fun r1 =>
 ((bV.f k a0).bind fun r2 =>
 (bif (!r2.1) then
 (some (a1,(r1.1,(5,()))))
 else
 (bif a0.2.2.2.1 then
 (some (a1,((r1.1.1,(r1.1.2.1,(r1.1.2.2.1,(true,())))),(1,()))))
 else
 (bif (a0.2.2.1==0) then
 (some (a1,((r1.1.1,(r1.1.2.1,(r1.1.2.2.1,(true,())))),(1,()))))
 else
 (bif (decide (a0.2.2.1 > 0)) then
 ((fS.f k (r1.1.1,(r1.1.2.1,((aH (r1.1.2.2.1-1)),r1.1.2.2.2))) a1).bind fun r3 =>
 (some (r3.2.1,(r3.1,r3.2.2))))
 else
 ((fS.f k r1.1 a1).bind fun r4 =>
 (some (r4.2.1,(r4.1,r4.2.2))))))))))
def f (k:Nat):=t k
end fe
namespace jQ
abbrev Rs:Type:=Option ((Ty.den a_) × Int × Unit)
def t (k:Nat) (a0:Ty.den a_) (a1:ByteArray):Rs :=
 ((fe.f k a0 a1).bind fun r1 =>
 (some r1.2))
def f (k:Nat):=t k
end jQ
namespace eL
abbrev Rs:Type:=Option ((Ty.den b8) × Unit)
def t (k:Nat) (a0:Ty.den b8) (a1:ByteArray):Rs :=
 (bif (a0.2.1==0) then
 ((jQ.f k a0.1 a1).bind fun r1 =>
 ((ar.f k a0 r1.1 r1.2.1).bind fun r2 =>
 (some r2)))
 else
 (some (a0,())))
def f (k:Nat):=t k
end eL
namespace dZ
abbrev Rs:Type:=Option ((Ty.den b8) × Unit)
def t (k:Nat) (a0:Ty.den b8) (a1:ByteArray):Rs :=
 ((cg.f k a0 a1).bind fun r1 =>
 ((eL.f k r1.1 a1).bind fun r2 =>
 (some r2)))
def f (k:Nat):=t k
end dZ
namespace iA
abbrev Rs:Type:=Option (ByteArray × Unit)
def t (k:Nat) (a0:Ty.den bj):Rs :=
 ((dr.f k a0).bind fun r1 =>
 (bif (!r1.1) then
 (some ((⟨#[]⟩:ByteArray),()))
 else
 ((du.f k [a0.1,(List.length a0.2.1:Int)]).bind fun r2 =>
 ((du.f k a0.2.1).bind fun r3 =>
 (kX r2.1 r3.1
 ((gA.f k (r2.1++r3.1)).bind fun r4 =>
 (some r4)))))))
def f (k:Nat):=t k
end iA
namespace iJ
abbrev Rs:Type:=Option (Int × Unit)
abbrev T0:Type:=Int→List (Ty.den aD)→Int→Int→Rs
def b0 (k:Nat) (L0:T0):T0:=fun x0 x1 x2 x3 =>
 (bif (decide (x3<x2)) then
 (bX x3 (x1.length:Int)
 (L0 (aH (x0+(ByteArray.size (List.getD x1 (Int.toNat x3) (Ty.dflt aD)).2.1:Int))) x1 x2 (aH (x3+1))))
 else
 (some (x0,())))
def l0 (k:Nat):Nat→T0
 | 0=>fun _ _ _ _=>none
 | n+1=>b0 k (l0 k n)
def t (k:Nat) (L0:T0) (a0:Ty.den a_):Rs :=
 (L0 0 a0.1 (List.length a0.1:Int) 0)
def f (k:Nat):=t k (l0 k k)
end iJ
namespace fQ
abbrev Rs:Type:=Option ((Ty.den a_) × ByteArray × ByteArray × Int × Unit)
def t (k:Nat) (a0:Ty.den a_) (a1:ByteArray) (a2:ByteArray):Rs :=
 ((bT.f k a0 a1).bind fun r1 =>
 (bif (decide (r1.1<0)) then
 (some (a0,(a1,(a2,(3,())))))
 else
 ((iJ.f k a0).bind fun r2 =>
 (bif (decide ((ByteArray.size a2:Int) > (aH (a0.2.1-r2.1)))) then
 (some (a0,(a1,(a2,(2,())))))
 else
 (bX r1.1 (List.length a0.1:Int)
 (kX (List.getD a0.1 (Int.toNat r1.1) (Ty.dflt aD)).2.1 a2
 (bX r1.1 (List.length a0.1:Int)
 (let l3:=(List.set a0.1 (Int.toNat r1.1) ((List.getD a0.1 (Int.toNat r1.1) (Ty.dflt aD)).1,(((List.getD a0.1 (Int.toNat r1.1) (Ty.dflt aD)).2.1++a2),(List.getD a0.1 (Int.toNat r1.1) (Ty.dflt aD)).2.2)));
 (some ((l3,a0.2),(a1,(a2,(0,())))))))))))))
def f (k:Nat):=t k
end fQ
namespace fi
abbrev Rs:Type:=Option (ByteArray × ByteArray × (Ty.den a_) × Int × Unit)
def t (k:Nat) (a0:Ty.den a_) (a1:ByteArray) (a2:ByteArray):Rs :=
 ((cH.f k a0).bind fun r1 =>
 ((bV.f k a0).bind fun r2 =>
 (bif (!r2.1) then
 (some (a1,(a2,(r1.1,(5,())))))
 else
 (bif a0.2.2.2.1 then
 (some (a1,(a2,((r1.1.1,(r1.1.2.1,(r1.1.2.2.1,(true,())))),(1,())))))
 else
 (bif (a0.2.2.1==0) then
 (some (a1,(a2,((r1.1.1,(r1.1.2.1,(r1.1.2.2.1,(true,())))),(1,())))))
 else
 (bif (decide (a0.2.2.1 > 0)) then
 ((fQ.f k (r1.1.1,(r1.1.2.1,((aH (r1.1.2.2.1-1)),r1.1.2.2.2))) a1 a2).bind fun r3 =>
 (some (r3.2.1,(r3.2.2.1,(r3.1,r3.2.2.2)))))
 else
 ((fQ.f k r1.1 a1 a2).bind fun r4 =>
 (some (r4.2.1,(r4.2.2.1,(r4.1,r4.2.2.2)))))))))))
def f (k:Nat):=t k
end fi
namespace jJ
abbrev Rs:Type:=Option ((Ty.den a_) × Int × Unit)
def t (k:Nat) (a0:Ty.den a_) (a1:ByteArray) (a2:ByteArray):Rs :=
 ((fi.f k a0 a1 a2).bind fun r1 =>
 (some r1.2.2))
def f (k:Nat):=t k
end jJ
namespace cZ
abbrev Rs:Type:=Option ((Ty.den b8) × Unit)
def t (k:Nat) (a0:Ty.den b8) (a1:ByteArray) (a2:ByteArray):Rs :=
 (bif (a0.2.1==0) then
 ((jJ.f k a0.1 a1 a2).bind fun r1 =>
 ((ar.f k a0 r1.1 r1.2.1).bind fun r2 =>
 (some r2)))
 else
 (some (a0,())))
def f (k:Nat):=t k
end cZ
namespace eN
abbrev Rs:Type:=Option ((Ty.den b8) × Unit)
def t (k:Nat) (a0:Ty.den b8) (a1:ByteArray) (a2:ByteArray):Rs :=
 ((dZ.f k a0 a1).bind fun r1 =>
 ((cZ.f k r1.1 a1 a2).bind fun r2 =>
 ((ch.f k r2.1 a1).bind fun r3 =>
 (some r3))))
def f (k:Nat):=t k
end eN
namespace fR
abbrev Rs:Type:=Option ((Ty.den a_) × ByteArray × ByteArray × Int × Unit)
def t (k:Nat) (a0:Ty.den a_) (a1:ByteArray) (a2:ByteArray):Rs :=
 ((bT.f k a0 a1).bind fun r1 =>
 ((dk.f k a2).bind fun r2 =>
 (bif (!r2.1) then
 (some (a0,(a1,(a2,(5,())))))
 else
 (bif (decide (r1.1<0)) then
 (some (a0,(a1,(a2,(3,())))))
 else
 (bX r1.1 (List.length a0.1:Int)
 ((eE.f k a0 a1).bind fun r3 =>
 ((eE.f k r3.1 a2).bind fun r4 =>
 ((co.f k r4.1 (a2,(List.getD a0.1 (Int.toNat r1.1) (Ty.dflt aD)).2)).bind fun r5 =>
 (some (r5.1,(a1,(a2,(0,())))))))))))))
def f (k:Nat):=t k
end fR
namespace fg
abbrev Rs:Type:=Option (ByteArray × ByteArray × (Ty.den a_) × Int × Unit)
def t (k:Nat) (a0:Ty.den a_) (a1:ByteArray) (a2:ByteArray):Rs :=
 ((cH.f k a0).bind fun r1 =>
 ((bV.f k a0).bind fun r2 =>
 (bif (!r2.1) then
 (some (a1,(a2,(r1.1,(5,())))))
 else
 (bif a0.2.2.2.1 then
 (some (a1,(a2,((r1.1.1,(r1.1.2.1,(r1.1.2.2.1,(true,())))),(1,())))))
 else
 (bif (a0.2.2.1==0) then
 (some (a1,(a2,((r1.1.1,(r1.1.2.1,(r1.1.2.2.1,(true,())))),(1,())))))
 else
 (bif (decide (a0.2.2.1 > 0)) then
 ((fR.f k (r1.1.1,(r1.1.2.1,((aH (r1.1.2.2.1-1)),r1.1.2.2.2))) a1 a2).bind fun r3 =>
 (some (r3.2.1,(r3.2.2.1,(r3.1,r3.2.2.2)))))
 else
 ((fR.f k r1.1 a1 a2).bind fun r4 =>
 (some (r4.2.1,(r4.2.2.1,(r4.1,r4.2.2.2)))))))))))
def f (k:Nat):=t k
end fg
namespace jL
abbrev Rs:Type:=Option ((Ty.den a_) × Int × Unit)
def t (k:Nat) (a0:Ty.den a_) (a1:ByteArray) (a2:ByteArray):Rs :=
 ((fg.f k a0 a1 a2).bind fun r1 =>
 (some r1.2.2))
def f (k:Nat):=t k
end jL
namespace eM
abbrev Rs:Type:=Option ((Ty.den b8) × Unit)
def t (k:Nat) (a0:Ty.den b8) (a1:ByteArray) (a2:ByteArray):Rs :=
 (bif (a0.2.1==0) then
 ((jL.f k a0.1 a1 a2).bind fun r1 =>
 ((ar.f k a0 r1.1 r1.2.1).bind fun r2 =>
 (some r2)))
 else
 (some (a0,())))
def f (k:Nat):=t k
end eM
namespace dh
abbrev Rs:Type:=Option ((Ty.den b8) × Unit)
def t (k:Nat) (a0:Ty.den b8) (a1:Ty.den bj):Rs :=
 ((iA.f k a1).bind fun r1 =>
 ((eN.f k a0 (⟨#[116,101,109,112]⟩:ByteArray) r1.1).bind fun r2 =>
 ((eM.f k r2.1 (⟨#[116,101,109,112]⟩:ByteArray) (⟨#[108,105,118,101]⟩:ByteArray)).bind fun r3 =>
 (some r3))))
def f (k:Nat):=t k
end dh
namespace ac
abbrev Rs:Type:=Option ((Ty.den b8) × Unit)
abbrev T1:Type:=List ByteArray→Int→Int→Int→Int→Bool→Int→List (Ty.den aD)→Int→Int→Bool→Int→Rs
abbrev T0:Type:=List ByteArray→Int→Int→List (Ty.den aD)→Int→Int→Bool→Int→Int→Int→Bool→Int→Rs
def b1 (k:Nat) (L1:T1):T1:=fun x0 x1 x2 x3 x4 x5 x6 x7 x8 x9 x10 x11 =>
 (bif (decide (x2<x1)) then
 (bX x2 (x0.length:Int)
 ((cg.f k ((x7,(x8,(x9,(x10,())))),(x11,())) (List.getD x0 (Int.toNat x2) (Ty.dflt .str))).bind fun r2 =>
 (L1 x0 x1 (aH (x2+1)) x3 x4 x5 x6 r2.1.1.1 r2.1.1.2.1 r2.1.1.2.2.1 r2.1.1.2.2.2.1 r2.1.2.1)))
 else
 (bif (x11 != 0) then
 (some (((x7,(x8,(x9,(x10,())))),(x11,())),()))
 else
 (some (((x7,(x8,(x9,(x10,())))),(x6,())),()))))
def l1 (k:Nat):Nat→T1
 | 0=>fun _ _ _ _ _ _ _ _ _ _ _ _=>none
 | n+1=>b1 k (l1 k n)
def b0 (k:Nat) (L1:T1):T0:=fun x0 x1 x2 x3 x4 x5 x6 x7 x8 x9 x10 x11 =>
 (bif (decide (x2<x1)) then
 (bX x2 (x0.length:Int)
 ((cg.f k ((x3,(x8,(x9,(x10,())))),(x11,())) (List.getD x0 (Int.toNat x2) (Ty.dflt .str))).bind fun r1 =>
 (L1 x0 x1 (aH (x2+1)) x4 x5 x6 x7 r1.1.1.1 r1.1.1.2.1 r1.1.1.2.2.1 r1.1.1.2.2.2.1 r1.1.2.1)))
 else
 (bif (x11 != 0) then
 (some (((x3,(x8,(x9,(x10,())))),(x11,())),()))
 else
 (some (((x3,(x8,(x9,(x10,())))),(x7,())),()))))
def l0 (k:Nat):Nat→T0
 | 0=>fun _ _ _ _ _ _ _ _ _ _ _ _=>none
 | n+1=>b0 k (l1 k n)
def t (k:Nat) (L0:T0) (a0:Ty.den b8) (a1:List ByteArray):Rs :=
 (bif (a0.2.1 != 2) then
 (some (a0,()))
 else
 (L0 a1 (List.length a1:Int) 0 a0.1.1 a0.1.2.1 a0.1.2.2.1 a0.1.2.2.2.1 a0.2.1 a0.1.2.1 a0.1.2.2.1 a0.1.2.2.2.1 0))
def f (k:Nat):=t k (l0 k k)
end ac
namespace eh
abbrev Rs:Type:=Option ((Ty.den aC) × (Ty.den b8) × Unit)
def t (k:Nat) (a0:Ty.den aC) (a1:Ty.den b8):Rs :=
 (bif (decide ((List.length a0.1.2.1:Int)≥60)) then
 (some (a0,((a1.1,(5,())),())))
 else
 (bif (decide (a0.1.1≥100000)) then
 (some (a0,((a1.1,(5,())),())))
 else
 ((bM.f k a0).bind fun r1 =>
 ((ch.f k a1 r1.2.1).bind fun r2 =>
 (bif (r2.1.2.1 != 0) then
 (some (r1.1,r2))
 else
 ((dS.f k r1.1.1.1).bind fun r3 =>
 ((dZ.f k r2.1 r3.1).bind fun r4 =>
 (bif (r4.1.2.1 != 0) then
 (some ((((aH (r1.1.1.1+1)),r1.1.1.2),r1.1.2),r4))
 else
 ((f_.f k ((aH (r1.1.1.1+1)),r1.1.1.2)).bind fun r5 =>
 (rm (Ty.bytes (.int .i64)) (List.length r5.1.2.1+1)
 ((dh.f k r4.1 (r5.1.1,((r5.1.2.1++[r1.1.1.1]),()))).bind fun r6 =>
 (bif (r6.1.2.1 != 0) then
 ((dS.f k r1.1.1.1).bind fun r7 =>
 ((ac.f k r6.1 [(⟨#[116,101,109,112]⟩:ByteArray),r7.1]).bind fun r8 =>
 (some ((((aH (r1.1.1.1+1)),r1.1.1.2),r1.1.2),r8))))
 else
 (some (((r5.1.1,((r5.1.2.1++[r1.1.1.1]),())),(r1.1.2.1,(r1.1.2.2.1,(0,r1.1.2.2.2.2)))),r6))))))))))))))
def f (k:Nat):=t k
end eh
namespace fW
abbrev Rs:Type:=Option ((Ty.den aC) × (Ty.den b8) × (Ty.den aA) × Unit)
def t (k:Nat) (a0:Ty.den aC) (a1:Ty.den b8) (a2:Ty.den am):Rs :=
 ((fY.f k a2).bind fun r1 =>
 ((gA.f k r1.1).bind fun r2 =>
 (bif (decide (a0.2.2.2.1 > 0)) then
 (bif (decide ((aH (a0.2.2.2.1+(ByteArray.size r2.1:Int))) > 200)) then
 ((eh.f k a0 a1).bind fun r3 =>
 (bif (r3.2.1.2.1 != 0) then
 (some (r3.1,(r3.2.1,((ByteArray.empty,(0,(0,(0,(0,()))))),()))))
 else
 (bX (aH ((List.length r3.1.1.2.1:Int)-1)) (List.length r3.1.1.2.1:Int)
 ((bM.f k r3.1).bind fun r4 =>
 ((cZ.f k r3.2.1 r4.2.1 r2.1).bind fun r5 =>
 (bif (r5.1.2.1==0) then
 (some ((r4.1.1,(r4.1.2.1,(r4.1.2.2.1,((aH (r4.1.2.2.2.1+(ByteArray.size r2.1:Int))),r4.1.2.2.2.2)))),(r5.1,((a2.2.2.1,((List.getD r3.1.1.2.1 (Int.toNat (aH ((List.length r3.1.1.2.1:Int)-1))) (Ty.dflt (.int .i64))),(r3.1.2.2.2.1,((ByteArray.size r2.1:Int),(a2.2.1,()))))),()))))
 else
 (some (r4.1,(r5.1,((a2.2.2.1,((List.getD r3.1.1.2.1 (Int.toNat (aH ((List.length r3.1.1.2.1:Int)-1))) (Ty.dflt (.int .i64))),(r3.1.2.2.2.1,((ByteArray.size r2.1:Int),(a2.2.1,()))))),()))))))))))
 else
 (bif (a1.2.1 != 0) then
 (some (a0,(a1,((ByteArray.empty,(0,(0,(0,(0,()))))),()))))
 else
 (bX (aH ((List.length a0.1.2.1:Int)-1)) (List.length a0.1.2.1:Int)
 ((bM.f k a0).bind fun r6 =>
 ((cZ.f k a1 r6.2.1 r2.1).bind fun r7 =>
 (bif (r7.1.2.1==0) then
 (some ((r6.1.1,(r6.1.2.1,(r6.1.2.2.1,((aH (r6.1.2.2.2.1+(ByteArray.size r2.1:Int))),r6.1.2.2.2.2)))),(r7.1,((a2.2.2.1,((List.getD a0.1.2.1 (Int.toNat (aH ((List.length a0.1.2.1:Int)-1))) (Ty.dflt (.int .i64))),(a0.2.2.2.1,((ByteArray.size r2.1:Int),(a2.2.1,()))))),()))))
 else
 (some (r6.1,(r7.1,((a2.2.2.1,((List.getD a0.1.2.1 (Int.toNat (aH ((List.length a0.1.2.1:Int)-1))) (Ty.dflt (.int .i64))),(a0.2.2.2.1,((ByteArray.size r2.1:Int),(a2.2.1,()))))),()))))))))))
 else
 (bif (a1.2.1 != 0) then
 (some (a0,(a1,((ByteArray.empty,(0,(0,(0,(0,()))))),()))))
 else
 (bX (aH ((List.length a0.1.2.1:Int)-1)) (List.length a0.1.2.1:Int)
 ((bM.f k a0).bind fun r8 =>
 ((cZ.f k a1 r8.2.1 r2.1).bind fun r9 =>
 (bif (r9.1.2.1==0) then
 (some ((r8.1.1,(r8.1.2.1,(r8.1.2.2.1,((aH (r8.1.2.2.2.1+(ByteArray.size r2.1:Int))),r8.1.2.2.2.2)))),(r9.1,((a2.2.2.1,((List.getD a0.1.2.1 (Int.toNat (aH ((List.length a0.1.2.1:Int)-1))) (Ty.dflt (.int .i64))),(a0.2.2.2.1,((ByteArray.size r2.1:Int),(a2.2.1,()))))),()))))
 else
 (some (r8.1,(r9.1,((a2.2.2.1,((List.getD a0.1.2.1 (Int.toNat (aH ((List.length a0.1.2.1:Int)-1))) (Ty.dflt (.int .i64))),(a0.2.2.2.1,((ByteArray.size r2.1:Int),(a2.2.1,()))))),()))))))))))))
def f (k:Nat):=t k
end fW
namespace gE
abbrev Rs:Type:=Option ((List (Ty.den aA)) × Unit)
abbrev T0:Type:=List (Ty.den aA)→List (Ty.den af)→Int→Int→List (Ty.den aA)→Rs
def b0 (k:Nat) (L0:T0):T0:=fun x0 x1 x2 x3 x4 =>
 (bif (decide (x3<x2)) then
 (bX x3 (x1.length:Int)
 (bif (List.getD x1 (Int.toNat x3) (Ty.dflt af)).2.1 then
 ((c_.f k x4 (List.getD x1 (Int.toNat x3) (Ty.dflt af)).1).bind fun r1 =>
 (L0 x0 x1 x2 (aH (x3+1)) r1.1))
 else
 (bX x3 (x0.length:Int)
 ((dH.f k x4 (List.getD x0 (Int.toNat x3) (Ty.dflt aA))).bind fun r2 =>
 (L0 x0 x1 x2 (aH (x3+1)) r2.1)))))
 else
 (some (x4,())))
def l0 (k:Nat):Nat→T0
 | 0=>fun _ _ _ _ _=>none
 | n+1=>b0 k (l0 k n)
def t (k:Nat) (L0:T0) (a0:List (Ty.den aA)) (a1:List (Ty.den af)) (a2:List (Ty.den aA)):Rs :=
 (L0 a2 a1 (List.length a1:Int) 0 a0)
def f (k:Nat):=t k (l0 k k)
end gE
namespace bg
abbrev Rs:Type:=Option ((Ty.den aC) × (Ty.den b8) × Unit)
abbrev T0:Type:=List (Ty.den af)→Int→Int→List Int→List (Ty.den aA)→Int→Int→Int→Int→List (Ty.den aD)→Int→Int→Bool→Int→List (Ty.den aA)→List (Ty.den am)→Rs
def b0 (k:Nat) (L0:T0):T0:=fun x0 x1 x2 x3 x4 x5 x6 x7 x8 x9 x10 x11 x12 x13 x14 x15 =>
 (bif (decide (x2<x1)) then
 (bX x2 (x15.length:Int)
 ((fW.f k ((x5,(x3,())),(x4,(x6,(x7,(x8,()))))) ((x9,(x10,(x11,(x12,())))),(x13,())) (List.getD x15 (Int.toNat x2) (Ty.dflt am))).bind fun r2 =>
 (bif (r2.2.1.2.1 != 0) then
 (some (r2.1,(r2.2.1,())))
 else
 (rm (Ty.bytes aA) (List.length x14+1)
 (L0 x0 x1 (aH (x2+1)) r2.1.1.2.1 r2.1.2.1 r2.1.1.1 r2.1.2.2.1 r2.1.2.2.2.1 r2.1.2.2.2.2.1 r2.2.1.1.1 r2.2.1.1.2.1 r2.2.1.1.2.2.1 r2.2.1.1.2.2.2.1 r2.2.1.2.1 (x14++[r2.2.2.1]) x15)))))
 else
 ((bM.f k ((x5,(x3,())),(x4,(x6,(x7,(x8,())))))).bind fun r3 =>
 ((ch.f k ((x9,(x10,(x11,(x12,())))),(x13,())) r3.2.1).bind fun r4 =>
 (bif (r4.1.2.1==0) then
 ((gE.f k r3.1.2.1 x0 x14).bind fun r5 =>
 (some ((r3.1.1,(r5.1,r3.1.2.2)),r4)))
 else
 (some (r3.1,r4))))))
def l0 (k:Nat):Nat→T0
 | 0=>fun _ _ _ _ _ _ _ _ _ _ _ _ _ _ _ _=>none
 | n+1=>b0 k (l0 k n)
def t (k:Nat) (L0:T0) (a0:Ty.den aC) (a1:Ty.den b8) (a2:List (Ty.den af)):Rs :=
 ((cm.f k a2 a0.2.2.1).bind fun r1 =>
 (L0 a2 (List.length r1.1:Int) 0 a0.1.2.1 a0.2.1 a0.1.1 (aH (a0.2.2.1+1)) a0.2.2.2.1 a0.2.2.2.2.1 a1.1.1 a1.1.2.1 a1.1.2.2.1 a1.1.2.2.2.1 a1.2.1 [] r1.1))
def f (k:Nat):=t k (l0 k k)
end bg
namespace jK
abbrev Rs:Type:=Option ((Ty.den aC) × (Ty.den a_) × Int × Unit)
def t (k:Nat) (a0:Ty.den aC) (a1:Ty.den a_) (a2:List (Ty.den af)):Rs :=
 ((gp.f k a0).bind fun r1 =>
 ((cH.f k a1).bind fun r2 =>
 ((cU.f k a0 a1).bind fun r3 =>
 (bif (!r3.1) then
 (some (r1.1,(r2.1,(4,()))))
 else
 ((dc.f k a2).bind fun r4 =>
 (bif (!r4.1) then
 (some (r1.1,(r2.1,(4,()))))
 else
 (bif ((List.length a2:Int)==0) then
 (some (r1.1,(r2.1,(0,()))))
 else
 ((eI.f k a0.2.1 a2).bind fun r5 =>
 (bif (decide (r5.1 > 20)) then
 (some (r1.1,(r2.1,(5,()))))
 else
 (bif (decide (a0.2.2.1 > 1000000)) then
 (some (r1.1,(r2.1,(5,()))))
 else
 ((bg.f k r1.1 (r2.1,(0,())) a2).bind fun r6 =>
 (some (r6.1,r6.2.1)))))))))))))
def f (k:Nat):=t k
end jK
namespace an
abbrev Rs:Type:=Option (Bool × Unit)
abbrev T0:Type:=Int→Int→List Int→List (Ty.den aA)→Int→Int→Int→Int→List Int→List (Ty.den aA)→Int→Int→Int→Rs
def b0 (k:Nat) (L0:T0):T0:=fun x0 x1 x2 x3 x4 x5 x6 x7 x8 x9 x10 x11 x12 =>
 (bif (decide (x0<(x2.length:Int))) then
 (bX x0 (x2.length:Int)
 (bX x0 (x8.length:Int)
 (bif ((List.getD x2 (Int.toNat x0) (Ty.dflt (.int .i64))) != (List.getD x8 (Int.toNat x0) (Ty.dflt (.int .i64)))) then
 (some (false,()))
 else
 (L0 (aH (x0+1)) x1 x2 x3 x4 x5 x6 x7 x8 x9 x10 x11 x12))))
 else
 ((cT.f k x3 x9).bind fun r1 =>
 (some r1)))
def l0 (k:Nat):Nat→T0
 | 0=>fun _ _ _ _ _ _ _ _ _ _ _ _ _=>none
 | n+1=>b0 k (l0 k n)
def t (k:Nat) (L0:T0) (a0:Ty.den aC) (a1:Ty.den aC):Rs :=
 (bif (a0.1.1 != a1.1.1) then
 (some (false,()))
 else
 (bif ((List.length a0.1.2.1:Int) != (List.length a1.1.2.1:Int)) then
 (some (false,()))
 else
 (bif (a0.2.2.1 != a1.2.2.1) then
 (some (false,()))
 else
 (bif (a0.2.2.2.1 != a1.2.2.2.1) then
 (some (false,()))
 else
 (bif (a0.2.2.2.2.1 != a1.2.2.2.2.1) then
 (some (false,()))
 else
 (L0 0 a0.1.1 a0.1.2.1 a0.2.1 a0.2.2.1 a0.2.2.2.1 a0.2.2.2.2.1 a1.1.1 a1.1.2.1 a1.2.1 a1.2.2.1 a1.2.2.2.1 a1.2.2.2.2.1))))))
def f (k:Nat):=t k (l0 k k)
end an
namespace dY
abbrev Rs:Type:=Option (Bool × Unit)
abbrev T0:Type:=Int→List (Ty.den aD)→Int→Int→Bool→List (Ty.den aD)→Int→Int→Bool→Rs
def b0 (k:Nat) (L0:T0):T0:=fun x0 x1 x2 x3 x4 x5 x6 x7 x8 =>
 (bif (decide (x0<(x1.length:Int))) then
 (bX x0 (x1.length:Int)
 (bX x0 (x5.length:Int)
 (bif (!((seq (List.getD x1 (Int.toNat x0) (Ty.dflt aD)).1 (List.getD x5 (Int.toNat x0) (Ty.dflt aD)).1)&&((seq (List.getD x1 (Int.toNat x0) (Ty.dflt aD)).2.1 (List.getD x5 (Int.toNat x0) (Ty.dflt aD)).2.1)&&((List.getD x1 (Int.toNat x0) (Ty.dflt aD)).2.2.1==(List.getD x5 (Int.toNat x0) (Ty.dflt aD)).2.2.1)))) then
 (some (false,()))
 else
 (L0 (aH (x0+1)) x1 x2 x3 x4 x5 x6 x7 x8))))
 else
 (some (true,())))
def l0 (k:Nat):Nat→T0
 | 0=>fun _ _ _ _ _ _ _ _ _=>none
 | n+1=>b0 k (l0 k n)
def t (k:Nat) (L0:T0) (a0:Ty.den a_) (a1:Ty.den a_):Rs :=
 (bif ((List.length a0.1:Int) != (List.length a1.1:Int)) then
 (some (false,()))
 else
 (bif (a0.2.1 != a1.2.1) then
 (some (false,()))
 else
 (bif (a0.2.2.1 != a1.2.2.1) then
 (some (false,()))
 else
 (bif (!(a0.2.2.2.1==a1.2.2.2.1)) then
 (some (false,()))
 else
 (L0 0 a0.1 a0.2.1 a0.2.2.1 a0.2.2.2.1 a1.1 a1.2.1 a1.2.2.1 a1.2.2.2.1)))))
def f (k:Nat):=t k (l0 k k)
end dY
namespace fC
abbrev Rs:Type:=Option ((List ByteArray) × Unit)
abbrev T0:Type:=List (Ty.den aA)→Int→Int→List ByteArray→Rs
def b0 (k:Nat) (L0:T0):T0:=fun x0 x1 x2 x3 =>
 (bif (decide (x2<x1)) then
 (bX x2 (x0.length:Int)
 (rm (Ty.bytes .str) (List.length x3+1)
 (L0 x0 x1 (aH (x2+1)) (x3++[(List.getD x0 (Int.toNat x2) (Ty.dflt aA)).1]))))
 else
 (some (x3,())))
def l0 (k:Nat):Nat→T0
 | 0=>fun _ _ _ _=>none
 | n+1=>b0 k (l0 k n)
def t (k:Nat) (L0:T0) (a0:List (Ty.den aA)):Rs :=
 (L0 a0 (List.length a0:Int) 0 [])
def f (k:Nat):=t k (l0 k k)
end fC
namespace fv
abbrev Rs:Type:=Option ((Ty.den aA) × Bool × Unit)
abbrev T0:Type:=ByteArray→List (Ty.den aA)→Int→Int→ByteArray→Int→Int→Int→Int→Rs
def b0 (k:Nat) (L0:T0):T0:=fun x0 x1 x2 x3 x4 x5 x6 x7 x8 =>
 (bif (decide (x3<x2)) then
 (bX x3 (x1.length:Int)
 (bif (seq (List.getD x1 (Int.toNat x3) (Ty.dflt aA)).1 x0) then
 (some ((List.getD x1 (Int.toNat x3) (Ty.dflt aA)),(true,())))
 else
 (L0 x0 x1 x2 (aH (x3+1)) x4 x5 x6 x7 x8)))
 else
 (some ((ByteArray.empty,(0,(0,(0,(0,()))))),(false,()))))
def l0 (k:Nat):Nat→T0
 | 0=>fun _ _ _ _ _ _ _ _ _=>none
 | n+1=>b0 k (l0 k n)
def t (k:Nat) (L0:T0) (a0:List (Ty.den aA)) (a1:ByteArray):Rs :=
 (L0 a1 a0 (List.length a0:Int) 0 ByteArray.empty 0 0 0 0)
def f (k:Nat):=t k (l0 k k)
end fv
namespace mK
abbrev Rs:Type:=Option ((Ty.den aD) × Int × Unit)
def t (k:Nat) (a0:Ty.den aC) (a1:Ty.den a_) (a2:ByteArray):Rs :=
 ((fv.f k a0.2.1 a2).bind fun r1 =>
 (bif (!r1.2.1) then
 (some ((ByteArray.empty,(ByteArray.empty,(0,()))),(8,())))
 else
 ((dS.f k r1.1.2.1).bind fun r2 =>
 ((fP.f k a1 r2.1).bind fun r3 =>
 ((iw.f k r3.1 r1.1.2.2.1 r1.1.2.2.2.1).bind fun r4 =>
 (bif (!r4.2.1) then
 (some ((ByteArray.empty,(ByteArray.empty,(0,()))),(3,())))
 else
 (bif (r4.1.1 != 1) then
 (bif (r4.1.1 != 4) then
 (some ((ByteArray.empty,(ByteArray.empty,(0,()))),(3,())))
 else
 (bif (!(seq r4.1.2.2.1 a2)) then
 (some ((ByteArray.empty,(ByteArray.empty,(0,()))),(3,())))
 else
 (some ((r4.1.2.2.1,(r4.1.2.2.2.1,(r4.1.2.1,()))),(0,())))))
 else
 (bif (!(seq r4.1.2.2.1 a2)) then
 (some ((ByteArray.empty,(ByteArray.empty,(0,()))),(3,())))
 else
 (some ((r4.1.2.2.1,(r4.1.2.2.2.1,(r4.1.2.1,()))),(0,())))))))))))
def f (k:Nat):=t k
end mK
namespace gw
abbrev Rs:Type:=Option ((List (Ty.den aD)) × Int × Unit)
abbrev T0:Type:=Int→Int→Int→List Int→List (Ty.den aA)→Int→Int→Int→List (Ty.den aD)→Int→Int→Bool→List (Ty.den aD)→List ByteArray→Rs
def b0 (k:Nat) (L0:T0):T0:=fun x0 x1 x2 x3 x4 x5 x6 x7 x8 x9 x10 x11 x12 x13 =>
 (bif (decide (x1<x0)) then
 (bX x1 (x13.length:Int)
 ((mK.f k ((x2,(x3,())),(x4,(x5,(x6,(x7,()))))) (x8,(x9,(x10,(x11,())))) (List.getD x13 (Int.toNat x1) (Ty.dflt .str))).bind fun r2 =>
 (bif (r2.2.1 != 0) then
 (some ([],r2.2))
 else
 (rm (Ty.bytes aD) (List.length x12+1)
 (L0 x0 (aH (x1+1)) x2 x3 x4 x5 x6 x7 x8 x9 x10 x11 (x12++[r2.1]) x13)))))
 else
 (some (x12,(0,()))))
def l0 (k:Nat):Nat→T0
 | 0=>fun _ _ _ _ _ _ _ _ _ _ _ _ _ _=>none
 | n+1=>b0 k (l0 k n)
def t (k:Nat) (L0:T0) (a0:Ty.den aC) (a1:Ty.den a_):Rs :=
 ((fC.f k a0.2.1).bind fun r1 =>
 (L0 (List.length r1.1:Int) 0 a0.1.1 a0.1.2.1 a0.2.1 a0.2.2.1 a0.2.2.2.1 a0.2.2.2.2.1 a1.1 a1.2.1 a1.2.2.1 a1.2.2.2.1 [] r1.1))
def f (k:Nat):=t k (l0 k k)
end gw
namespace ft
abbrev Rs:Type:=Option ((List (Ty.den aD)) × Unit)
abbrev T0:Type:=List (Ty.den aD)→Bool→Int→ByteArray→ByteArray→Int→List (Ty.den aD)→Rs
def b0 (k:Nat) (L0:T0):T0:=fun x0 x1 x2 x3 x4 x5 x6 =>
 (bif (decide (x2<(x0.length:Int))) then
 (bX x2 (x0.length:Int)
 (bif (seq (List.getD x0 (Int.toNat x2) (Ty.dflt aD)).1 x3) then
 (L0 x0 x1 (aH (x2+1)) x3 x4 x5 x6)
 else
 (bif (!x1) then
 (bX x2 (x0.length:Int)
 (bif (!((lZ (List.getD x0 (Int.toNat x2) (Ty.dflt aD)).1 x3)||(seq (List.getD x0 (Int.toNat x2) (Ty.dflt aD)).1 x3))) then
 (rm (Ty.bytes aD) (List.length x6+1)
 (bX x2 (x0.length:Int)
 (rm (Ty.bytes aD) (List.length (x6++[(x3,(x4,(x5,())))])+1)
 (L0 x0 true (aH (x2+1)) x3 x4 x5 ((x6++[(x3,(x4,(x5,())))])++[(List.getD x0 (Int.toNat x2) (Ty.dflt aD))])))))
 else
 (bX x2 (x0.length:Int)
 (rm (Ty.bytes aD) (List.length x6+1)
 (L0 x0 x1 (aH (x2+1)) x3 x4 x5 (x6++[(List.getD x0 (Int.toNat x2) (Ty.dflt aD))]))))))
 else
 (bX x2 (x0.length:Int)
 (rm (Ty.bytes aD) (List.length x6+1)
 (L0 x0 x1 (aH (x2+1)) x3 x4 x5 (x6++[(List.getD x0 (Int.toNat x2) (Ty.dflt aD))])))))))
 else
 (bif (!x1) then
 (rm (Ty.bytes aD) (List.length x6+1)
 (some ((x6++[(x3,(x4,(x5,())))]),())))
 else
 (some (x6,()))))
def l0 (k:Nat):Nat→T0
 | 0=>fun _ _ _ _ _ _ _=>none
 | n+1=>b0 k (l0 k n)
def t (k:Nat) (L0:T0) (a0:List (Ty.den aD)) (a1:Ty.den aD) (a2:Bool):Rs :=
 (L0 a0 a2 0 a1.1 a1.2.1 a1.2.2.1 [])
def f (k:Nat):=t k (l0 k k)
end ft
namespace gz
abbrev Rs:Type:=Option ((List (Ty.den aD)) × Unit)
abbrev T0:Type:=List (Ty.den af)→Int→Int→List (Ty.den aD)→Rs
def b0 (k:Nat) (L0:T0):T0:=fun x0 x1 x2 x3 =>
 (bif (decide (x2<(x0.length:Int))) then
 (bX x2 (x0.length:Int)
 (bX x2 (x0.length:Int)
 (bX x2 (x0.length:Int)
 ((ft.f k x3 ((List.getD x0 (Int.toNat x2) (Ty.dflt af)).1,((List.getD x0 (Int.toNat x2) (Ty.dflt af)).2.2.1,(x1,()))) (List.getD x0 (Int.toNat x2) (Ty.dflt af)).2.1).bind fun r1 =>
 (L0 x0 x1 (aH (x2+1)) r1.1)))))
 else
 (some (x3,())))
def l0 (k:Nat):Nat→T0
 | 0=>fun _ _ _ _=>none
 | n+1=>b0 k (l0 k n)
def t (k:Nat) (L0:T0) (a0:List (Ty.den aD)) (a1:List (Ty.den af)) (a2:Int):Rs :=
 (rm (Ty.bytes aD) (0+List.length a0)
 (L0 a1 a2 0 ([]++a0)))
def f (k:Nat):=t k (l0 k k)
end gz
namespace cj
abbrev Rs:Type:=Option (Bool × Unit)
abbrev T0:Type:=List (Ty.den aD)→List (Ty.den aD)→Int→Rs
def b0 (k:Nat) (L0:T0):T0:=fun x0 x1 x2 =>
 (bif (decide (x2<(x0.length:Int))) then
 (bX x2 (x0.length:Int)
 (bX x2 (x1.length:Int)
 (bif (!((seq (List.getD x0 (Int.toNat x2) (Ty.dflt aD)).1 (List.getD x1 (Int.toNat x2) (Ty.dflt aD)).1)&&((seq (List.getD x0 (Int.toNat x2) (Ty.dflt aD)).2.1 (List.getD x1 (Int.toNat x2) (Ty.dflt aD)).2.1)&&((List.getD x0 (Int.toNat x2) (Ty.dflt aD)).2.2.1==(List.getD x1 (Int.toNat x2) (Ty.dflt aD)).2.2.1)))) then
 (some (false,()))
 else
 (L0 x0 x1 (aH (x2+1))))))
 else
 (some (true,())))
def l0 (k:Nat):Nat→T0
 | 0=>fun _ _ _=>none
 | n+1=>b0 k (l0 k n)
def t (k:Nat) (L0:T0) (a0:List (Ty.den aD)) (a1:List (Ty.den aD)):Rs :=
 (bif ((List.length a0:Int) != (List.length a1:Int)) then
 (some (false,()))
 else
 (L0 a0 a1 0))
def f (k:Nat):=t k (l0 k k)
end cj
namespace cI
abbrev Rs:Type:=Option ((Ty.den G2) × Unit)
abbrev T0:Type:=Int→Int→Int→Int→Int→Int→Int→List (Ty.den am)→Rs
def b0 (k:Nat) (L0:T0):T0:=fun x0 x1 x2 x3 x4 x5 x6 x7 =>
 (bif (decide (x2<x1)) then
 (bX x2 (x7.length:Int)
 ((fY.f k (List.getD x7 (Int.toNat x2) (Ty.dflt am))).bind fun r4 =>
 ((gA.f k r4.1).bind fun r5 =>
 (bif (decide (x0 > 0)) then
 (bif (decide (x0 > (aH (200-(ByteArray.size r5.1:Int))))) then
 (L0 (aH (0+(ByteArray.size r5.1:Int))) x1 (aH (x2+1)) x3 x4 (aH ((aH (x5+6))+1)) (aH (x6+(ByteArray.size r5.1:Int))) x7)
 else
 (L0 (aH (x0+(ByteArray.size r5.1:Int))) x1 (aH (x2+1)) x3 x4 (aH (x5+1)) (aH (x6+(ByteArray.size r5.1:Int))) x7))
 else
 (L0 (aH (x0+(ByteArray.size r5.1:Int))) x1 (aH (x2+1)) x3 x4 (aH (x5+1)) (aH (x6+(ByteArray.size r5.1:Int))) x7)))))
 else
 (some ((x5,(x6,())),())))
def l0 (k:Nat):Nat→T0
 | 0=>fun _ _ _ _ _ _ _ _=>none
 | n+1=>b0 k (l0 k n)
def t (k:Nat) (L0:T0) (a0:Ty.den aC) (a1:List (Ty.den af)):Rs :=
 (bif ((List.length a1:Int)==0) then
 (some ((0,(0,())),()))
 else
 ((dc.f k a1).bind fun r1 =>
 (bif (!r1.1) then
 (some ((0,(0,())),()))
 else
 ((ay.f k a0.2.2.1 1 1000000).bind fun r2 =>
 (bif (!r2.1) then
 (some ((0,(0,())),()))
 else
 (bif (decide (a0.2.2.2.1<0)) then
 (some ((0,(0,())),()))
 else
 ((cm.f k a1 a0.2.2.1).bind fun r3 =>
 (L0 a0.2.2.2.1 (List.length r3.1:Int) 0 0 0 1 0 r3.1))))))))
def f (k:Nat):=t k (l0 k k)
end cI
namespace aZ
abbrev Rs:Type:=Option (Int × Unit)
abbrev T0:Type:=Int→Int→Int→List Int→List (Ty.den aA)→Int→Int→Int→List (Ty.den aD)→Int→Int→Bool→Rs
def b0 (k:Nat) (L0:T0):T0:=fun x0 x1 x2 x3 x4 x5 x6 x7 x8 x9 x10 x11 =>
 (bif (decide (x1<(x3.length:Int))) then
 (bif (decide (x1<60)) then
 (bX x1 (x3.length:Int)
 ((aS.f k (List.getD x3 (Int.toNat x1) (Ty.dflt (.int .i64)))).bind fun r1 =>
 ((bJ.f k (x8,(x9,(x10,(x11,())))) r1.1).bind fun r2 =>
 (L0 (aH (x0+(ByteArray.size r2.1:Int))) (aH (x1+1)) x2 x3 x4 x5 x6 x7 x8 x9 x10 x11))))
 else
 (some (x0,())))
 else
 (some (x0,())))
def l0 (k:Nat):Nat→T0
 | 0=>fun _ _ _ _ _ _ _ _ _ _ _ _=>none
 | n+1=>b0 k (l0 k n)
def t (k:Nat) (L0:T0) (a0:Ty.den aC) (a1:Ty.den a_):Rs :=
 (L0 0 0 a0.1.1 a0.1.2.1 a0.2.1 a0.2.2.1 a0.2.2.2.1 a0.2.2.2.2.1 a1.1 a1.2.1 a1.2.2.1 a1.2.2.2.1)
def f (k:Nat):=t k (l0 k k)
end aZ
namespace fV
abbrev Rs:Type:=Option (Bool × Unit)
def t (k:Nat) (a0:List Int):Rs :=
 ((od.f k a0).bind fun r1 =>
 (bif r1.1 then
 (some (true,()))
 else
 ((gL.f k a0).bind fun r2 =>
 ((jK.f k r2.1 r2.2.1 r2.2.2.1).bind fun r3 =>
 ((jS.f k r2.1 r2.2.1 r2.2.2.1).bind fun r4 =>
 (bif (r3.2.2.1 != r4.2.2.1) then
 (some (false,()))
 else
 (bif (r3.2.2.1==4) then
 ((an.f k r3.1 r2.1).bind fun r5 =>
 (bif r5.1 then
 ((dY.f k r3.2.1 r2.2.1).bind fun r6 =>
 (some r6))
 else
 (some (false,()))))
 else
 (bif (r3.2.2.1==5) then
 (bif (r2.1.2.2.1==r3.1.2.2.1) then
 ((an.f k r3.1 r2.1).bind fun r7 =>
 (bif r7.1 then
 ((dY.f k r3.2.1 r2.2.1).bind fun r8 =>
 (some r8))
 else
 (some (false,()))))
 else
 (bif (r3.2.2.1 != 0) then
 ((cT.f k r3.1.2.1 r2.1.2.1).bind fun r9 =>
 (some r9))
 else
 ((gF.f k r2.1 r2.2.1).bind fun r10 =>
 ((gw.f k r3.1 r3.2.1).bind fun r11 =>
 (bif (r11.2.1 != 0) then
 (some (false,()))
 else
 ((gz.f k r10.1 r2.2.2.1 r2.1.2.2.1).bind fun r12 =>
 ((cj.f k r11.1 r12.1).bind fun r13 =>
 (bif (!r13.1) then
 (some (false,()))
 else
 ((bF.f k r3.1 r3.2.1).bind fun r14 =>
 (bif (!r14.1) then
 (some (false,()))
 else
 ((cI.f k r2.1 r2.2.2.1).bind fun r15 =>
 (bif (decide (r2.2.1.2.2.1≥0)) then
 (bif (decide ((List.length r2.2.2.1:Int) > 0)) then
 ((b9.f k r2.2.1 r2.1.1).bind fun r16 =>
 (bif ((List.length r16.1:Int)==0) then
 (bif (r3.2.1.2.2.1 != (aH (r2.2.1.2.2.1-r15.1.1))) then
 (some (false,()))
 else
 ((aZ.f k r3.1 r3.2.1).bind fun r17 =>
 ((aZ.f k r2.1 r2.2.1).bind fun r18 =>
 (bif ((aH (r17.1-r18.1)) != r15.1.2.1) then
 (some (false,()))
 else
 (bif ((List.length r2.2.2.1:Int)==0) then
 ((an.f k r3.1 r2.1).bind fun r19 =>
 (bif r19.1 then
 (some (true,()))
 else
 (bif (decide ((List.length r2.2.2.1:Int) > 0)) then
 (some ((r3.1.2.2.1==(aH (r2.1.2.2.1+1))),()))
 else
 (some (false,())))))
 else
 (bif (decide ((List.length r2.2.2.1:Int) > 0)) then
 (some ((r3.1.2.2.1==(aH (r2.1.2.2.1+1))),()))
 else
 (some (false,()))))))))
 else
 ((aZ.f k r3.1 r3.2.1).bind fun r20 =>
 ((aZ.f k r2.1 r2.2.1).bind fun r21 =>
 (bif ((aH (r20.1-r21.1)) != r15.1.2.1) then
 (some (false,()))
 else
 (bif ((List.length r2.2.2.1:Int)==0) then
 ((an.f k r3.1 r2.1).bind fun r22 =>
 (bif r22.1 then
 (some (true,()))
 else
 (bif (decide ((List.length r2.2.2.1:Int) > 0)) then
 (some ((r3.1.2.2.1==(aH (r2.1.2.2.1+1))),()))
 else
 (some (false,())))))
 else
 (bif (decide ((List.length r2.2.2.1:Int) > 0)) then
 (some ((r3.1.2.2.1==(aH (r2.1.2.2.1+1))),()))
 else
 (some (false,())))))))))
 else
 ((aZ.f k r3.1 r3.2.1).bind fun r23 =>
 ((aZ.f k r2.1 r2.2.1).bind fun r24 =>
 (bif ((aH (r23.1-r24.1)) != r15.1.2.1) then
 (some (false,()))
 else
 (bif ((List.length r2.2.2.1:Int)==0) then
 ((an.f k r3.1 r2.1).bind fun r25 =>
 (bif r25.1 then
 (some (true,()))
 else
 (bif (decide ((List.length r2.2.2.1:Int) > 0)) then
 (some ((r3.1.2.2.1==(aH (r2.1.2.2.1+1))),()))
 else
 (some (false,())))))
 else
 (bif (decide ((List.length r2.2.2.1:Int) > 0)) then
 (some ((r3.1.2.2.1==(aH (r2.1.2.2.1+1))),()))
 else
 (some (false,()))))))))
 else
 ((aZ.f k r3.1 r3.2.1).bind fun r26 =>
 ((aZ.f k r2.1 r2.2.1).bind fun r27 =>
 (bif ((aH (r26.1-r27.1)) != r15.1.2.1) then
 (some (false,()))
 else
 (bif ((List.length r2.2.2.1:Int)==0) then
 ((an.f k r3.1 r2.1).bind fun r28 =>
 (bif r28.1 then
 (some (true,()))
 else
 (bif (decide ((List.length r2.2.2.1:Int) > 0)) then
 (some ((r3.1.2.2.1==(aH (r2.1.2.2.1+1))),()))
 else
 (some (false,())))))
 else
 (bif (decide ((List.length r2.2.2.1:Int) > 0)) then
 (some ((r3.1.2.2.1==(aH (r2.1.2.2.1+1))),()))
 else
 (some (false,())))))))))))))))))))
 else
 (bif (r3.2.2.1 != 0) then
 ((cT.f k r3.1.2.1 r2.1.2.1).bind fun r29 =>
 (some r29))
 else
 ((gF.f k r2.1 r2.2.1).bind fun r30 =>
 ((gw.f k r3.1 r3.2.1).bind fun r31 =>
 (bif (r31.2.1 != 0) then
 (some (false,()))
 else
 ((gz.f k r30.1 r2.2.2.1 r2.1.2.2.1).bind fun r32 =>
 ((cj.f k r31.1 r32.1).bind fun r33 =>
 (bif (!r33.1) then
 (some (false,()))
 else
 ((bF.f k r3.1 r3.2.1).bind fun r34 =>
 (bif (!r34.1) then
 (some (false,()))
 else
 ((cI.f k r2.1 r2.2.2.1).bind fun r35 =>
 (bif (decide (r2.2.1.2.2.1≥0)) then
 (bif (decide ((List.length r2.2.2.1:Int) > 0)) then
 ((b9.f k r2.2.1 r2.1.1).bind fun r36 =>
 (bif ((List.length r36.1:Int)==0) then
 (bif (r3.2.1.2.2.1 != (aH (r2.2.1.2.2.1-r35.1.1))) then
 (some (false,()))
 else
 ((aZ.f k r3.1 r3.2.1).bind fun r37 =>
 ((aZ.f k r2.1 r2.2.1).bind fun r38 =>
 (bif ((aH (r37.1-r38.1)) != r35.1.2.1) then
 (some (false,()))
 else
 (bif ((List.length r2.2.2.1:Int)==0) then
 ((an.f k r3.1 r2.1).bind fun r39 =>
 (bif r39.1 then
 (some (true,()))
 else
 (bif (decide ((List.length r2.2.2.1:Int) > 0)) then
 (some ((r3.1.2.2.1==(aH (r2.1.2.2.1+1))),()))
 else
 (some (false,())))))
 else
 (bif (decide ((List.length r2.2.2.1:Int) > 0)) then
 (some ((r3.1.2.2.1==(aH (r2.1.2.2.1+1))),()))
 else
 (some (false,()))))))))
 else
 ((aZ.f k r3.1 r3.2.1).bind fun r40 =>
 ((aZ.f k r2.1 r2.2.1).bind fun r41 =>
 (bif ((aH (r40.1-r41.1)) != r35.1.2.1) then
 (some (false,()))
 else
 (bif ((List.length r2.2.2.1:Int)==0) then
 ((an.f k r3.1 r2.1).bind fun r42 =>
 (bif r42.1 then
 (some (true,()))
 else
 (bif (decide ((List.length r2.2.2.1:Int) > 0)) then
 (some ((r3.1.2.2.1==(aH (r2.1.2.2.1+1))),()))
 else
 (some (false,())))))
 else
 (bif (decide ((List.length r2.2.2.1:Int) > 0)) then
 (some ((r3.1.2.2.1==(aH (r2.1.2.2.1+1))),()))
 else
 (some (false,())))))))))
 else
 ((aZ.f k r3.1 r3.2.1).bind fun r43 =>
 ((aZ.f k r2.1 r2.2.1).bind fun r44 =>
 (bif ((aH (r43.1-r44.1)) != r35.1.2.1) then
 (some (false,()))
 else
 (bif ((List.length r2.2.2.1:Int)==0) then
 ((an.f k r3.1 r2.1).bind fun r45 =>
 (bif r45.1 then
 (some (true,()))
 else
 (bif (decide ((List.length r2.2.2.1:Int) > 0)) then
 (some ((r3.1.2.2.1==(aH (r2.1.2.2.1+1))),()))
 else
 (some (false,())))))
 else
 (bif (decide ((List.length r2.2.2.1:Int) > 0)) then
 (some ((r3.1.2.2.1==(aH (r2.1.2.2.1+1))),()))
 else
 (some (false,()))))))))
 else
 ((aZ.f k r3.1 r3.2.1).bind fun r46 =>
 ((aZ.f k r2.1 r2.2.1).bind fun r47 =>
 (bif ((aH (r46.1-r47.1)) != r35.1.2.1) then
 (some (false,()))
 else
 (bif ((List.length r2.2.2.1:Int)==0) then
 ((an.f k r3.1 r2.1).bind fun r48 =>
 (bif r48.1 then
 (some (true,()))
 else
 (bif (decide ((List.length r2.2.2.1:Int) > 0)) then
 (some ((r3.1.2.2.1==(aH (r2.1.2.2.1+1))),()))
 else
 (some (false,())))))
 else
 (bif (decide ((List.length r2.2.2.1:Int) > 0)) then
 (some ((r3.1.2.2.1==(aH (r2.1.2.2.1+1))),()))
 else
 (some (false,()))))))))))))))))))))))))))
def f (k:Nat):=t k
end fV
end Go.Proofs.YtdbekilnpjmeaaaGreatDoor.G

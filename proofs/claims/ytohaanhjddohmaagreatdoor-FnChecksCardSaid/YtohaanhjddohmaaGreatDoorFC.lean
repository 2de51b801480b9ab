/- Functions, as V runs them. -/
import Derived.Test.YtohaanhjddohmaaGreatDoorVWords
import Derived.Test.YtohaanhjddohmaaGreatDoorXLib
set_option linter.unusedVariables false
namespace Go.Proofs.YtohaanhjddohmaaGreatDoor.G
open Go.V
abbrev aE:Ty := .pair .str (.pair .str (.pair (.int .i64) .unit))
abbrev a_:Ty := .pair (.slice aE) (.pair (.int .i64) (.pair (.int .i64) (.pair .bool .unit)))
abbrev aA:Ty := .pair .str (.pair (.int .i64) (.pair (.int .i64) (.pair (.int .i64) (.pair (.int .i64) .unit))))
abbrev g_:Ty := .pair (.slice aA) (.pair (.int .i64) (.pair (.int .i64) .unit))
abbrev dc:Ty := .pair (.int .i64) (.pair (.int .i64) (.pair (.slice aA) .unit))
abbrev bA:Ty := .pair (.int .i64) (.pair (.slice (.int .i64)) .unit)
abbrev bU:Ty := .pair (.int .i64) (.pair (.int .i64) (.pair .str (.pair .str (.pair (.int .i64) (.pair (.int .i64) .unit)))))
abbrev aC:Ty := .pair (.int .i64) (.pair (.int .i64) (.pair (.int .i64) (.pair bU .unit)))
abbrev gT:Ty := .pair .str (.pair .bool (.pair .str .unit))
abbrev rr:Ty := .pair .bool (.pair (.int .i64) (.pair (.int .i64) (.pair (.int .i64) (.pair (.int .i64) (.pair (.int .i64) (.pair (.int .i64) .unit))))))
abbrev bM:Ty := .pair (.int .i64) (.pair (.int .i64) (.pair bU .unit))
abbrev aI:Ty := .pair bA (.pair (.slice aA) (.pair (.int .i64) (.pair (.int .i64) (.pair (.int .i64) .unit))))
abbrev ai:Ty := .pair (.slice (.int .u8)) (.pair (.int .i64) (.pair (.int .i64) .unit))
abbrev jq:Ty := .pair .str (.pair .bool .unit)
abbrev b8:Ty := .pair a_ (.pair (.int .i64) .unit)
abbrev bR:Ty:=aE
namespace p6
abbrev Rs:Type:=Option (Bool × Unit)
def t (k:Nat) (a0:List Int):Rs :=
 (some ((decide ((List.length a0:Int) > 1048576)),()))
def f (k:Nat):=t k
end p6
namespace gO
abbrev Rs:Type:=Option (Unit × (Ty.den ai) × Unit)
abbrev T0:Type:=List Int→Int→Int→Rs
def b0 (k:Nat) (L0:T0):T0:=fun x0 x1 x2 =>
 (bif (decide (x2<(x0.length:Int))) then
 (bif (decide (x2<4000)) then
 (ba x2 (x0.length:Int)
 (L0 x0 (aF (((BitVec.ofInt (IntKind.bits .i64) (aF ((aF ((aF (x1*131))+(aF (List.getD x0 (Int.toNat x2) (Ty.dflt (.int .u8))))))+7)) &&& BitVec.ofInt (IntKind.bits .i64) 1073741823).toNat:Int))) (aF (x2+1))))
 else
 (some ((),((x0,(0,(x1,()))),()))))
 else
 (some ((),((x0,(0,(x1,()))),()))))
def l0 (k:Nat):Nat→T0
 | 0=>fun _ _ _=>none
 | n+1=>b0 k (l0 k n)
def t (k:Nat) (L0:T0) (a0:List Int):Rs :=
 (L0 a0 (aF (10101+(List.length a0:Int))) 0)
def f (k:Nat):=t k (l0 k k)
end gO
namespace aX
abbrev Rs:Type:=Option (Bool × Unit)
def t (k:Nat) (a0:Int) (a1:Int) (a2:Int):Rs :=
 (bif (decide (a0≥a1)) then
 (some ((decide (a0≤a2)),()))
 else
 (some (false,())))
def f (k:Nat):=t k
end aX
namespace eM
abbrev Rs:Type:=Option ((Ty.den a_) × Unit)
def t (k:Nat) (a0:Int):Rs :=
 ((aX.f k a0 0 100000).bind fun r1 =>
 (bif (!r1.1) then
 (some (([],(0,(0,(false,())))),()))
 else
 (some (([],(a0,((-1),(false,())))),()))))
def f (k:Nat):=t k
end eM
namespace df
abbrev Rs:Type:=Option ((Ty.den ai) × Int × Unit)
def t (k:Nat) (a0:Ty.den ai):Rs :=
 (bif (decide (a0.2.1<(List.length a0.1:Int))) then
 (ba a0.2.1 (List.length a0.1:Int)
 (some ((a0.1,((aF (a0.2.1+1)),((aF ((aF (a0.2.2.1*6364136223846793005))+1442695040888963407)),()))),((aF (((BitVec.ofInt (IntKind.bits .i64) (aF ((aF (((BitVec.ofInt (IntKind.bits .i64) (aF (((BitVec.ofInt (IntKind.bits .i64) (Int.fdiv (aF ((aF (a0.2.2.1*6364136223846793005))+1442695040888963407)) (2 ^ (Int.toNat 33))) ^^^ BitVec.ofInt (IntKind.bits .i64) (Int.fdiv (aF ((aF (a0.2.2.1*6364136223846793005))+1442695040888963407)) (2 ^ (Int.toNat 45)))).toNat:Int))) &&& BitVec.ofInt (IntKind.bits .i64) 255).toNat:Int)))+(aF (List.getD a0.1 (Int.toNat a0.2.1) (Ty.dflt (.int .u8)))))) &&& BitVec.ofInt (IntKind.bits .i64) 255).toNat:Int))),()))))
 else
 (some ((a0.1,(a0.2.1,((aF ((aF (a0.2.2.1*6364136223846793005))+1442695040888963407)),()))),((aF (((BitVec.ofInt (IntKind.bits .i64) (aF (((BitVec.ofInt (IntKind.bits .i64) (Int.fdiv (aF ((aF (a0.2.2.1*6364136223846793005))+1442695040888963407)) (2 ^ (Int.toNat 33))) ^^^ BitVec.ofInt (IntKind.bits .i64) (Int.fdiv (aF ((aF (a0.2.2.1*6364136223846793005))+1442695040888963407)) (2 ^ (Int.toNat 45)))).toNat:Int))) &&& BitVec.ofInt (IntKind.bits .i64) 255).toNat:Int))),()))))
def f (k:Nat):=t k
end df
namespace aH
abbrev Rs:Type:=Option ((Ty.den ai) × Int × Unit)
def t (k:Nat) (a0:Ty.den ai) (a1:Int):Rs :=
 (bif (decide (a1≤0)) then
 (some (a0,(0,())))
 else
 (bif (decide (a1≤256)) then
 ((df.f k a0).bind fun r1 =>
 (bif (decide (a1=0)) then none else
 (some (r1.1,((Int.tmod r1.2.1 a1),())))))
 else
 ((df.f k a0).bind fun r2 =>
 ((df.f k r2.1).bind fun r3 =>
 ((df.f k r3.1).bind fun r4 =>
 ((df.f k r4.1).bind fun r5 =>
 (bif (decide (a1=0)) then none else
 (some (r5.1,((Int.tmod (aF ((aF ((aF ((aF (r2.2.1*16777216))+(aF (r3.2.1*65536))))+(aF (r4.2.1*256))))+r5.2.1)) a1),()))))))))))
def f (k:Nat):=t k
end aH
namespace gJ
abbrev Rs:Type:=Option ((Ty.den ai) × (Ty.den bA) × Unit)
abbrev T0:Type:=Int→Int→List Int→Int→Int→List Int→Int→List Int→Int→Rs
def b0 (k:Nat) (L0:T0):T0:=fun x0 x1 x2 x3 x4 x5 x6 x7 x8 =>
 (bif (decide (x1 > 0)) then
 ((aH.f k (x2,(x3,(x4,()))) 3).bind fun r2 =>
 (rm (Ty.bytes (.int .i64)) (List.length x7+1)
 (L0 (aF ((aF (x0+1))+r2.2.1)) (aF (x1-1)) r2.1.1 r2.1.2.1 r2.1.2.2.1 x5 x6 (x7++[(aF ((aF (x0+1))+r2.2.1))]) x8)))
 else
 ((aH.f k (x2,(x3,(x4,()))) 3).bind fun r3 =>
 (some (r3.1,(((aF ((aF (x0+1))+r3.2.1)),(x7,())),())))))
def l0 (k:Nat):Nat→T0
 | 0=>fun _ _ _ _ _ _ _ _ _=>none
 | n+1=>b0 k (l0 k n)
def t (k:Nat) (L0:T0) (a0:Ty.den ai):Rs :=
 ((aH.f k a0 4).bind fun r1 =>
 (L0 0 (aF (1+r1.2.1)) r1.1.1 r1.1.2.1 r1.1.2.2.1 [] 0 [] 0))
def f (k:Nat):=t k (l0 k k)
end gJ
namespace bB
abbrev Rs:Type:=Option ((Ty.den ai) × Bool × Unit)
def t (k:Nat) (a0:Ty.den ai) (a1:Int):Rs :=
 ((aH.f k a0 a1).bind fun r1 =>
 (some (r1.1,((r1.2.1==0),()))))
def f (k:Nat):=t k
end bB
namespace eI
abbrev Rs:Type:=Option ((Ty.den ai) × ByteArray × Unit)
def t (k:Nat) (a0:Ty.den ai) (a1:List ByteArray):Rs :=
 ((aH.f k a0 (List.length a1:Int)).bind fun r1 =>
 (ba r1.2.1 (List.length a1:Int)
 (some (r1.1,((List.getD a1 (Int.toNat r1.2.1) (Ty.dflt .str)),())))))
def f (k:Nat):=t k
end eI
namespace eP
abbrev Rs:Type:=Option ((Ty.den ai) × ByteArray × Unit)
def t (k:Nat) (a0:Ty.den ai):Rs :=
 ((eI.f k a0 [(⟨#[97]⟩:ByteArray),(⟨#[98]⟩:ByteArray),(⟨#[99]⟩:ByteArray),(⟨#[107,101,121]⟩:ByteArray),(⟨#[108,111,110,103,110,97,109,101]⟩:ByteArray)]).bind fun r1 =>
 (some r1))
def f (k:Nat):=t k
end eP
namespace b9
abbrev Rs:Type:=Option ((Ty.den ai) × ByteArray × Unit)
abbrev T0:Type:=Int→Int→List Int→Int→Int→List Int→Rs
def b0 (k:Nat) (L0:T0):T0:=fun x0 x1 x2 x3 x4 x5 =>
 (bif (decide (x1 > 0)) then
 ((df.f k (x2,(x3,(x4,())))).bind fun r3 =>
 (bif (x0==1) then
 (bif (x0==2) then
 (rm (Ty.bytes (.int .u8)) (List.length x5+1)
 (L0 x0 (aF (x1-1)) r3.1.1 r3.1.2.1 r3.1.2.2.1 (x5++[(IntKind.wrap .u8 (aF (97+(Int.tmod (Int.tmod r3.2.1 2) 4))))])))
 else
 (rm (Ty.bytes (.int .u8)) (List.length x5+1)
 (L0 x0 (aF (x1-1)) r3.1.1 r3.1.2.1 r3.1.2.2.1 (x5++[(IntKind.wrap .u8 (Int.tmod r3.2.1 2))]))))
 else
 (bif (x0==2) then
 (rm (Ty.bytes (.int .u8)) (List.length x5+1)
 (L0 x0 (aF (x1-1)) r3.1.1 r3.1.2.1 r3.1.2.2.1 (x5++[(IntKind.wrap .u8 (aF (97+(Int.tmod r3.2.1 4))))])))
 else
 (rm (Ty.bytes (.int .u8)) (List.length x5+1)
 (L0 x0 (aF (x1-1)) r3.1.1 r3.1.2.1 r3.1.2.2.1 (x5++[(IntKind.wrap .u8 r3.2.1)]))))))
 else
 (some ((x2,(x3,(x4,()))),((bytesOf x5),()))))
def l0 (k:Nat):Nat→T0
 | 0=>fun _ _ _ _ _ _=>none
 | n+1=>b0 k (l0 k n)
def t (k:Nat) (L0:T0) (a0:Ty.den ai) (a1:Int):Rs :=
 ((aH.f k a0 4).bind fun r1 =>
 ((aH.f k r1.1 (aF (a1+1))).bind fun r2 =>
 (L0 r1.2.1 r2.2.1 r2.1.1 r2.1.2.1 r2.1.2.2.1 [])))
def f (k:Nat):=t k (l0 k k)
end b9
namespace eO
abbrev Rs:Type:=Option (Bool × Unit)
def t (k:Nat) (a0:ByteArray):Rs :=
 ((aX.f k (ByteArray.size a0:Int) 1 8).bind fun r1 =>
 (some r1))
def f (k:Nat):=t k
end eO
namespace kM
abbrev Rs:Type:=Option (Bool × Unit)
def t (k:Nat) (a0:Ty.den bU):Rs :=
 ((aX.f k a0.2.1 0 1000000).bind fun r1 =>
 (bif (!r1.1) then
 (some (false,()))
 else
 (bif (a0.2.1==0) then
 (bif (a0.1 != 5) then
 (some (false,()))
 else
 (bif (a0.1==1) then
 (bif (a0.1==1) then
 ((eO.f k a0.2.2.1).bind fun r2 =>
 (bif r2.1 then
 (bif (decide ((ByteArray.size a0.2.2.2.1:Int)≤24)) then
 (bif (a0.2.2.2.2.1==0) then
 (some ((a0.2.2.2.2.2.1==0),()))
 else
 (some (false,())))
 else
 (some (false,())))
 else
 (some (false,()))))
 else
 (bif (a0.1==2) then
 ((eO.f k a0.2.2.1).bind fun r3 =>
 (bif r3.1 then
 (bif (seq a0.2.2.2.1 (⟨#[]⟩:ByteArray)) then
 (bif (a0.2.2.2.2.1==0) then
 (some ((a0.2.2.2.2.2.1==0),()))
 else
 (some (false,())))
 else
 (some (false,())))
 else
 (some (false,()))))
 else
 (bif (a0.1==3) then
 (bif (seq a0.2.2.1 (⟨#[]⟩:ByteArray)) then
 (bif (seq a0.2.2.2.1 (⟨#[]⟩:ByteArray)) then
 ((aX.f k a0.2.2.2.2.1 0 8).bind fun r4 =>
 (bif r4.1 then
 ((aX.f k a0.2.2.2.2.2.1 0 4294967295).bind fun r5 =>
 (some r5))
 else
 (some (false,()))))
 else
 (some (false,())))
 else
 (some (false,())))
 else
 (bif (a0.1==5) then
 (bif (seq a0.2.2.1 (⟨#[]⟩:ByteArray)) then
 (bif (seq a0.2.2.2.1 (⟨#[]⟩:ByteArray)) then
 ((aX.f k a0.2.2.2.2.1 0 20).bind fun r6 =>
 (bif r6.1 then
 ((aX.f k a0.2.2.2.2.2.1 0 4294967295).bind fun r7 =>
 (some r7))
 else
 (some (false,()))))
 else
 (some (false,())))
 else
 (some (false,())))
 else
 (some (false,()))))))
 else
 (bif (a0.1==4) then
 ((eO.f k a0.2.2.1).bind fun r8 =>
 (bif r8.1 then
 (bif (decide ((ByteArray.size a0.2.2.2.1:Int)≤24)) then
 (bif (a0.2.2.2.2.1==0) then
 (some ((a0.2.2.2.2.2.1==0),()))
 else
 (some (false,())))
 else
 (some (false,())))
 else
 (some (false,()))))
 else
 (bif (a0.1==2) then
 ((eO.f k a0.2.2.1).bind fun r9 =>
 (bif r9.1 then
 (bif (seq a0.2.2.2.1 (⟨#[]⟩:ByteArray)) then
 (bif (a0.2.2.2.2.1==0) then
 (some ((a0.2.2.2.2.2.1==0),()))
 else
 (some (false,())))
 else
 (some (false,())))
 else
 (some (false,()))))
 else
 (bif (a0.1==3) then
 (bif (seq a0.2.2.1 (⟨#[]⟩:ByteArray)) then
 (bif (seq a0.2.2.2.1 (⟨#[]⟩:ByteArray)) then
 ((aX.f k a0.2.2.2.2.1 0 8).bind fun r10 =>
 (bif r10.1 then
 ((aX.f k a0.2.2.2.2.2.1 0 4294967295).bind fun r11 =>
 (some r11))
 else
 (some (false,()))))
 else
 (some (false,())))
 else
 (some (false,())))
 else
 (bif (a0.1==5) then
 (bif (seq a0.2.2.1 (⟨#[]⟩:ByteArray)) then
 (bif (seq a0.2.2.2.1 (⟨#[]⟩:ByteArray)) then
 ((aX.f k a0.2.2.2.2.1 0 20).bind fun r12 =>
 (bif r12.1 then
 ((aX.f k a0.2.2.2.2.2.1 0 4294967295).bind fun r13 =>
 (some r13))
 else
 (some (false,()))))
 else
 (some (false,())))
 else
 (some (false,())))
 else
 (some (false,()))))))))
 else
 (bif (a0.1==1) then
 (bif (a0.1==1) then
 ((eO.f k a0.2.2.1).bind fun r14 =>
 (bif r14.1 then
 (bif (decide ((ByteArray.size a0.2.2.2.1:Int)≤24)) then
 (bif (a0.2.2.2.2.1==0) then
 (some ((a0.2.2.2.2.2.1==0),()))
 else
 (some (false,())))
 else
 (some (false,())))
 else
 (some (false,()))))
 else
 (bif (a0.1==2) then
 ((eO.f k a0.2.2.1).bind fun r15 =>
 (bif r15.1 then
 (bif (seq a0.2.2.2.1 (⟨#[]⟩:ByteArray)) then
 (bif (a0.2.2.2.2.1==0) then
 (some ((a0.2.2.2.2.2.1==0),()))
 else
 (some (false,())))
 else
 (some (false,())))
 else
 (some (false,()))))
 else
 (bif (a0.1==3) then
 (bif (seq a0.2.2.1 (⟨#[]⟩:ByteArray)) then
 (bif (seq a0.2.2.2.1 (⟨#[]⟩:ByteArray)) then
 ((aX.f k a0.2.2.2.2.1 0 8).bind fun r16 =>
 (bif r16.1 then
 ((aX.f k a0.2.2.2.2.2.1 0 4294967295).bind fun r17 =>
 (some r17))
 else
 (some (false,()))))
 else
 (some (false,())))
 else
 (some (false,())))
 else
 (bif (a0.1==5) then
 (bif (seq a0.2.2.1 (⟨#[]⟩:ByteArray)) then
 (bif (seq a0.2.2.2.1 (⟨#[]⟩:ByteArray)) then
 ((aX.f k a0.2.2.2.2.1 0 20).bind fun r18 =>
 (bif r18.1 then
 ((aX.f k a0.2.2.2.2.2.1 0 4294967295).bind fun r19 =>
 (some r19))
 else
 (some (false,()))))
 else
 (some (false,())))
 else
 (some (false,())))
 else
 (some (false,()))))))
 else
 (bif (a0.1==4) then
 ((eO.f k a0.2.2.1).bind fun r20 =>
 (bif r20.1 then
 (bif (decide ((ByteArray.size a0.2.2.2.1:Int)≤24)) then
 (bif (a0.2.2.2.2.1==0) then
 (some ((a0.2.2.2.2.2.1==0),()))
 else
 (some (false,())))
 else
 (some (false,())))
 else
 (some (false,()))))
 else
 (bif (a0.1==2) then
 ((eO.f k a0.2.2.1).bind fun r21 =>
 (bif r21.1 then
 (bif (seq a0.2.2.2.1 (⟨#[]⟩:ByteArray)) then
 (bif (a0.2.2.2.2.1==0) then
 (some ((a0.2.2.2.2.2.1==0),()))
 else
 (some (false,())))
 else
 (some (false,())))
 else
 (some (false,()))))
 else
 (bif (a0.1==3) then
 (bif (seq a0.2.2.1 (⟨#[]⟩:ByteArray)) then
 (bif (seq a0.2.2.2.1 (⟨#[]⟩:ByteArray)) then
 ((aX.f k a0.2.2.2.2.1 0 8).bind fun r22 =>
 (bif r22.1 then
 ((aX.f k a0.2.2.2.2.2.1 0 4294967295).bind fun r23 =>
 (some r23))
 else
 (some (false,()))))
 else
 (some (false,())))
 else
 (some (false,())))
 else
 (bif (a0.1==5) then
 (bif (seq a0.2.2.1 (⟨#[]⟩:ByteArray)) then
 (bif (seq a0.2.2.2.1 (⟨#[]⟩:ByteArray)) then
 ((aX.f k a0.2.2.2.2.1 0 20).bind fun r24 =>
 (bif r24.1 then
 ((aX.f k a0.2.2.2.2.2.1 0 4294967295).bind fun r25 =>
 (some r25))
 else
 (some (false,()))))
 else
 (some (false,())))
 else
 (some (false,())))
 else
 (some (false,()))))))))))
def f (k:Nat):=t k
end kM
namespace bi
abbrev Rs:Type:=Option (ByteArray × Unit)
abbrev T0:Type:=Int→List Int→Rs
def b0 (k:Nat) (L0:T0):T0:=fun x0 x1 =>
 (bif (decide (x0≥128)) then
 (rm (Ty.bytes (.int .u8)) (List.length x1+1)
 (L0 (aF (Int.tdiv x0 128)) (x1++[(IntKind.wrap .u8 (aF (128+(Int.tmod x0 128))))])))
 else
 (rm (Ty.bytes (.int .u8)) (List.length x1+1)
 (some ((bytesOf (x1++[(IntKind.wrap .u8 x0)])),()))))
def l0 (k:Nat):Nat→T0
 | 0=>fun _ _=>none
 | n+1=>b0 k (l0 k n)
def t (k:Nat) (L0:T0) (a0:Int):Rs :=
 ((aX.f k a0 0 562949953421311).bind fun r1 =>
 (bif (!r1.1) then
 (some ((⟨#[]⟩:ByteArray),()))
 else
 (L0 a0 [])))
def f (k:Nat):=t k (l0 k k)
end bi
namespace dU
abbrev Rs:Type:=Option (ByteArray × Unit)
abbrev T0:Type:=Int→Int→ByteArray→Int→Rs
def b0 (k:Nat) (L0:T0):T0:=fun x0 x1 x2 x3 =>
 (bif (decide (x3<x1)) then
 (jk (bytesOf [(IntKind.wrap .u8 (Int.tmod x0 256))]) x2
 (L0 (aF (Int.tdiv x0 256)) x1 ((bytesOf [(IntKind.wrap .u8 (Int.tmod x0 256))])++x2) (aF (x3+1))))
 else
 (bif (decide (x0 > 0)) then
 (some ((⟨#[]⟩:ByteArray),()))
 else
 (some (x2,()))))
def l0 (k:Nat):Nat→T0
 | 0=>fun _ _ _ _=>none
 | n+1=>b0 k (l0 k n)
def t (k:Nat) (L0:T0) (a0:Int) (a1:Int):Rs :=
 ((aX.f k a1 1 7).bind fun r1 =>
 (bif (!r1.1) then
 (some ((⟨#[]⟩:ByteArray),()))
 else
 (bif (decide (a0<0)) then
 (some ((⟨#[]⟩:ByteArray),()))
 else
 (L0 a0 a1 (⟨#[]⟩:ByteArray) 0))))
def f (k:Nat):=t k (l0 k k)
end dU
namespace bL
abbrev Rs:Type:=Option (ByteArray × Unit)
def t (k:Nat) (a0:Ty.den bU):Rs :=
 ((kM.f k a0).bind fun r1 =>
 (bif (!r1.1) then
 (some ((⟨#[]⟩:ByteArray),()))
 else
 ((bi.f k a0.1).bind fun r2 =>
 ((bi.f k a0.2.1).bind fun r3 =>
 (jk r2.1 r3.1
 (bif (a0.1==1) then
 (bif (a0.1==1) then
 ((bi.f k (ByteArray.size a0.2.2.1:Int)).bind fun r4 =>
 (jk (r2.1++r3.1) r4.1
 (jk ((r2.1++r3.1)++r4.1) a0.2.2.1
 ((bi.f k (ByteArray.size a0.2.2.2.1:Int)).bind fun r5 =>
 (jk (((r2.1++r3.1)++r4.1)++a0.2.2.1) r5.1
 (jk ((((r2.1++r3.1)++r4.1)++a0.2.2.1)++r5.1) a0.2.2.2.1
 (some ((((((r2.1++r3.1)++r4.1)++a0.2.2.1)++r5.1)++a0.2.2.2.1),()))))))))
 else
 (bif (a0.1==2) then
 ((bi.f k (ByteArray.size a0.2.2.1:Int)).bind fun r6 =>
 (jk (r2.1++r3.1) r6.1
 (jk ((r2.1++r3.1)++r6.1) a0.2.2.1
 (some ((((r2.1++r3.1)++r6.1)++a0.2.2.1),())))))
 else
 ((bi.f k a0.2.2.2.2.1).bind fun r7 =>
 (jk (r2.1++r3.1) r7.1
 ((dU.f k a0.2.2.2.2.2.1 4).bind fun r8 =>
 (jk ((r2.1++r3.1)++r7.1) r8.1
 (some ((((r2.1++r3.1)++r7.1)++r8.1),()))))))))
 else
 (bif (a0.1==4) then
 ((bi.f k (ByteArray.size a0.2.2.1:Int)).bind fun r9 =>
 (jk (r2.1++r3.1) r9.1
 (jk ((r2.1++r3.1)++r9.1) a0.2.2.1
 ((bi.f k (ByteArray.size a0.2.2.2.1:Int)).bind fun r10 =>
 (jk (((r2.1++r3.1)++r9.1)++a0.2.2.1) r10.1
 (jk ((((r2.1++r3.1)++r9.1)++a0.2.2.1)++r10.1) a0.2.2.2.1
 (some ((((((r2.1++r3.1)++r9.1)++a0.2.2.1)++r10.1)++a0.2.2.2.1),()))))))))
 else
 (bif (a0.1==2) then
 ((bi.f k (ByteArray.size a0.2.2.1:Int)).bind fun r11 =>
 (jk (r2.1++r3.1) r11.1
 (jk ((r2.1++r3.1)++r11.1) a0.2.2.1
 (some ((((r2.1++r3.1)++r11.1)++a0.2.2.1),())))))
 else
 ((bi.f k a0.2.2.2.2.1).bind fun r12 =>
 (jk (r2.1++r3.1) r12.1
 ((dU.f k a0.2.2.2.2.2.1 4).bind fun r13 =>
 (jk ((r2.1++r3.1)++r12.1) r13.1
 (some ((((r2.1++r3.1)++r12.1)++r13.1),()))))))))))))))
def f (k:Nat):=t k
end bL
namespace gE
abbrev Rs:Type:=Option (Int × Unit)
abbrev T1:Type:=ByteArray→Int→Int→Int→Rs
abbrev T0:Type:=ByteArray→Int→Int→Rs
def b1 (k:Nat) (L0:T0) (L1:T1):T1:=fun x0 x1 x2 x3 =>
 (bif (decide (x3<8)) then
 (bif ((Int.tmod x1 2)==1) then
 (L1 x0 (aF (((BitVec.ofInt (IntKind.bits .i64) (aF (Int.tdiv x1 2)) ^^^ BitVec.ofInt (IntKind.bits .i64) 2197175160).toNat:Int))) x2 (aF (x3+1)))
 else
 (L1 x0 (aF (Int.tdiv x1 2)) x2 (aF (x3+1))))
 else
 (L0 x0 x1 (aF (x2+1))))
def l1 (k:Nat) (L0:T0):Nat→T1
 | 0=>fun _ _ _ _=>none
 | n+1=>b1 k L0 (l1 k L0 n)
def b0 (k:Nat) (L1:T1) (L0:T0):T0:=fun x0 x1 x2 =>
 (bif (decide (x2<(ByteArray.size x0:Int))) then
 (ba x2 (ByteArray.size x0:Int)
 (L1 x0 (aF (((BitVec.ofInt (IntKind.bits .i64) x1 ^^^ BitVec.ofInt (IntKind.bits .i64) (aF (da x0 x2))).toNat:Int))) x2 0))
 else
 (some ((aF (4294967295-x1)),())))
def l0 (k:Nat):Nat→T0
 | 0=>fun _ _ _=>none
 | n+1=>b0 k (l1 k (l0 k n) k) (l0 k n)
def t (k:Nat) (L0:T0) (a0:ByteArray):Rs :=
 (L0 a0 4294967295 0)
def f (k:Nat):=t k (l0 k k)
end gE
namespace g9
abbrev Rs:Type:=Option (Int × Unit)
abbrev T0:Type:=List (Ty.den bU)→ByteArray→Int→Rs
def b0 (k:Nat) (L0:T0):T0:=fun x0 x1 x2 =>
 (bif (decide (x2<(x0.length:Int))) then
 (ba x2 (x0.length:Int)
 ((bL.f k (List.getD x0 (Int.toNat x2) (Ty.dflt bU))).bind fun r1 =>
 (jk x1 r1.1
 (L0 x0 (x1++r1.1) (aF (x2+1))))))
 else
 ((gE.f k x1).bind fun r2 =>
 (some r2)))
def l0 (k:Nat):Nat→T0
 | 0=>fun _ _ _=>none
 | n+1=>b0 k (l0 k n)
def t (k:Nat) (L0:T0) (a0:List (Ty.den bU)):Rs :=
 (L0 a0 (⟨#[]⟩:ByteArray) 0)
def f (k:Nat):=t k (l0 k k)
end g9
namespace eo
abbrev Rs:Type:=Option ((Ty.den bU) × Unit)
def t (k:Nat) (a0:List (Ty.den bU)) (a1:Int) (a2:Int):Rs :=
 ((g9.f k a0).bind fun r1 =>
 (some ((a2,(a1,(ByteArray.empty,(ByteArray.empty,((List.length a0:Int),r1))))),())))
def f (k:Nat):=t k
end eo
namespace ab
abbrev Rs:Type:=Option ((Ty.den ai) × (List (Ty.den aC)) × Unit)
abbrev T4:Type:=Int→Int→Int→Int→List Int→Int→Int→List (Ty.den aC)→List (Ty.den bU)→Rs
abbrev T3:Type:=Int→Int→Int→Int→List Int→Int→Int→List (Ty.den aC)→List (Ty.den bU)→Rs
abbrev T2:Type:=Int→Int→Int→List Int→Int→Int→List (Ty.den aC)→Rs
abbrev T1:Type:=Int→Int→Int→List Int→Int→Int→List (Ty.den aC)→List (Ty.den bU)→Rs
abbrev T0:Type:=Int→Int→Int→List Int→Int→Int→List (Ty.den aC)→List (Ty.den bU)→Rs
def b4 (k:Nat) (L2:T2) (L4:T4):T4:=fun x0 x1 x2 x3 x4 x5 x6 x7 x8 =>
 (bif (decide (x3<(x8.length:Int))) then
 (ba x3 (x8.length:Int)
 (rm (Ty.bytes aC) (List.length x7+1)
 (L4 x0 x1 x2 (aF (x3+1)) x4 x5 x6 (x7++[(x0,((aF (20*(x7.length:Int))),(20,((List.getD x8 (Int.toNat x3) (Ty.dflt bU)),()))))]) x8)))
 else
 ((eo.f k x8 x1 3).bind fun r14 =>
 ((aH.f k (x4,(x5,(x6,()))) 8).bind fun r15 =>
 (bif (r15.2.1==0) then
 (L2 x0 x1 (aF (x2-1)) r15.1.1 r15.1.2.1 r15.1.2.2.1 x7)
 else
 (bif (r15.2.1==1) then
 (rm (Ty.bytes aC) (List.length x7+1)
 ((bB.f k r15.1 4).bind fun r16 =>
 (bif r16.2.1 then
 (L2 (aF (x0+1)) x1 (aF (x2-1)) r16.1.1 r16.1.2.1 r16.1.2.2.1 (x7++[(x0,((aF (20*(x7.length:Int))),(20,((r14.1.1,(r14.1.2.1,(r14.1.2.2.1,(r14.1.2.2.2.1,(r14.1.2.2.2.2.1,(7,())))))),()))))]))
 else
 (L2 x0 x1 (aF (x2-1)) r16.1.1 r16.1.2.1 r16.1.2.2.1 (x7++[(x0,((aF (20*(x7.length:Int))),(20,((r14.1.1,(r14.1.2.1,(r14.1.2.2.1,(r14.1.2.2.2.1,(r14.1.2.2.2.2.1,(7,())))))),()))))])))))
 else
 (rm (Ty.bytes aC) (List.length x7+1)
 ((bB.f k r15.1 4).bind fun r17 =>
 (bif r17.2.1 then
 (L2 (aF (x0+1)) x1 (aF (x2-1)) r17.1.1 r17.1.2.1 r17.1.2.2.1 (x7++[(x0,((aF (20*(x7.length:Int))),(20,r14)))]))
 else
 (L2 x0 x1 (aF (x2-1)) r17.1.1 r17.1.2.1 r17.1.2.2.1 (x7++[(x0,((aF (20*(x7.length:Int))),(20,r14)))]))))))))))
def l4 (k:Nat) (L2:T2):Nat→T4
 | 0=>fun _ _ _ _ _ _ _ _ _=>none
 | n+1=>b4 k L2 (l4 k L2 n)
def b3 (k:Nat) (L4:T4) (L2:T2) (L3:T3):T3:=fun x0 x1 x2 x3 x4 x5 x6 x7 x8 =>
 (bif (decide (x3 > 0)) then
 ((eP.f k (x4,(x5,(x6,())))).bind fun r10 =>
 ((b9.f k r10.1 4).bind fun r11 =>
 ((bB.f k r11.1 3).bind fun r12 =>
 (bif r12.2.1 then
 ((eP.f k r12.1).bind fun r13 =>
 (rm (Ty.bytes bU) (List.length x8+1)
 (L3 x0 x1 x2 (aF (x3-1)) r13.1.1 r13.1.2.1 r13.1.2.2.1 x7 (x8++[(2,(x1,(r13.2.1,(ByteArray.empty,(0,(0,()))))))]))))
 else
 (rm (Ty.bytes bU) (List.length x8+1)
 (L3 x0 x1 x2 (aF (x3-1)) r12.1.1 r12.1.2.1 r12.1.2.2.1 x7 (x8++[(1,(x1,(r10.2.1,(r11.2.1,(0,(0,()))))))])))))))
 else
 (L4 x0 x1 x2 0 x4 x5 x6 x7 x8))
def l3 (k:Nat) (L2:T2):Nat→T3
 | 0=>fun _ _ _ _ _ _ _ _ _=>none
 | n+1=>b3 k (l4 k L2 k) L2 (l3 k L2 n)
def b2 (k:Nat) (L3:T3) (L2:T2):T2:=fun x0 x1 x2 x3 x4 x5 x6 =>
 (bif (decide (x2 > 0)) then
 ((aH.f k (x3,(x4,(x5,()))) 2).bind fun r8 =>
 ((aH.f k r8.1 4).bind fun r9 =>
 (L3 x0 (aF ((aF (x1+1))+r8.2.1)) x2 r9.2.1 r9.1.1 r9.1.2.1 r9.1.2.2.1 x6 [])))
 else
 (some ((x3,(x4,(x5,()))),(x6,()))))
def l2 (k:Nat):Nat→T2
 | 0=>fun _ _ _ _ _ _ _=>none
 | n+1=>b2 k (l3 k (l2 k n) k) (l2 k n)
def b1 (k:Nat) (L2:T2) (L1:T1):T1:=fun x0 x1 x2 x3 x4 x5 x6 x7 =>
 (bif (decide (x2<(x7.length:Int))) then
 (ba x2 (x7.length:Int)
 (rm (Ty.bytes aC) (List.length x6+1)
 (L1 x0 x1 (aF (x2+1)) x3 x4 x5 (x6++[(x0,((aF (20*(x6.length:Int))),(20,((List.getD x7 (Int.toNat x2) (Ty.dflt bU)),()))))]) x7)))
 else
 ((bB.f k (x3,(x4,(x5,()))) 8).bind fun r5 =>
 (bif (!r5.2.1) then
 ((eo.f k x7 x1 5).bind fun r6 =>
 (rm (Ty.bytes aC) (List.length x6+1)
 ((aH.f k r5.1 5).bind fun r7 =>
 (L2 2 x1 r7.2.1 r7.1.1 r7.1.2.1 r7.1.2.2.1 (x6++[(x0,((aF (20*(x6.length:Int))),(20,r6)))])))))
 else
 ((aH.f k r5.1 5).bind fun r18 =>
 (L2 2 x1 r18.2.1 r18.1.1 r18.1.2.1 r18.1.2.2.1 x6)))))
def l1 (k:Nat):Nat→T1
 | 0=>fun _ _ _ _ _ _ _ _=>none
 | n+1=>b1 k (l2 k k) (l1 k n)
def b0 (k:Nat) (L1:T1) (L0:T0):T0:=fun x0 x1 x2 x3 x4 x5 x6 x7 =>
 (bif (decide (x2 > 0)) then
 ((eP.f k (x3,(x4,(x5,())))).bind fun r3 =>
 ((b9.f k r3.1 4).bind fun r4 =>
 (rm (Ty.bytes bU) (List.length x7+1)
 (L0 x0 (aF (x1+1)) (aF (x2-1)) r4.1.1 r4.1.2.1 r4.1.2.2.1 x6 (x7++[(4,((aF (x1+1)),(r3.2.1,(r4.2.1,(0,(0,()))))))])))))
 else
 (L1 x0 x1 0 x3 x4 x5 x6 x7))
def l0 (k:Nat):Nat→T0
 | 0=>fun _ _ _ _ _ _ _ _=>none
 | n+1=>b0 k (l1 k k) (l0 k n)
def t (k:Nat) (L0:T0) (L2:T2) (a0:Ty.den ai):Rs :=
 ((bB.f k a0 3).bind fun r1 =>
 (bif r1.2.1 then
 ((aH.f k r1.1 3).bind fun r2 =>
 (L0 1 0 r2.2.1 r2.1.1 r2.1.2.1 r2.1.2.2.1 [] []))
 else
 ((aH.f k r1.1 5).bind fun r19 =>
 (L2 1 0 r19.2.1 r19.1.1 r19.1.2.1 r19.1.2.2.1 []))))
def f (k:Nat):=t k (l0 k k) (l2 k k)
end ab
namespace d9
abbrev Rs:Type:=Option (ByteArray × Unit)
def t (k:Nat) (a0:ByteArray):Rs :=
 (bif (decide ((ByteArray.size a0:Int) > 200)) then
 (some ((⟨#[]⟩:ByteArray),()))
 else
 ((bi.f k (ByteArray.size a0:Int)).bind fun r1 =>
 (jk r1.1 a0
 ((gE.f k (r1.1++a0)).bind fun r2 =>
 ((dU.f k r2.1 4).bind fun r3 =>
 (jk r3.1 (r1.1++a0)
 (some ((r3.1++(r1.1++a0)),()))))))))
def f (k:Nat):=t k
end d9
namespace fS
abbrev Rs:Type:=Option ((Ty.den ai) × ByteArray × Unit)
def t (k:Nat) (a0:Ty.den ai) (a1:ByteArray):Rs :=
 (bif ((ByteArray.size a1:Int)==0) then
 ((b9.f k a0 3).bind fun r1 =>
 (some r1))
 else
 ((aH.f k a0 (ByteArray.size a1:Int)).bind fun r2 =>
 ((aH.f k r2.1 4).bind fun r3 =>
 (bif (r3.2.1==0) then
 (mj r2.2.1 (ByteArray.size a1:Int)
 (mj (aF (r2.2.1+1)) (ByteArray.size a1:Int)
 (jk (ByteArray.extract a1 0 (Int.toNat r2.2.1)) (ByteArray.extract a1 (Int.toNat (aF (r2.2.1+1))) (ByteArray.size a1))
 (some (r3.1,(((ByteArray.extract a1 0 (Int.toNat r2.2.1))++(ByteArray.extract a1 (Int.toNat (aF (r2.2.1+1))) (ByteArray.size a1))),()))))))
 else
 (bif (r3.2.1==1) then
 (mj r2.2.1 (ByteArray.size a1:Int)
 ((df.f k r3.1).bind fun r4 =>
 (jk (ByteArray.extract a1 0 (Int.toNat r2.2.1)) (bytesOf [(IntKind.wrap .u8 r4.2.1)])
 (mj r2.2.1 (ByteArray.size a1:Int)
 (jk ((ByteArray.extract a1 0 (Int.toNat r2.2.1))++(bytesOf [(IntKind.wrap .u8 r4.2.1)])) (ByteArray.extract a1 (Int.toNat r2.2.1) (ByteArray.size a1))
 (some (r4.1,((((ByteArray.extract a1 0 (Int.toNat r2.2.1))++(bytesOf [(IntKind.wrap .u8 r4.2.1)]))++(ByteArray.extract a1 (Int.toNat r2.2.1) (ByteArray.size a1))),()))))))))
 else
 (bif (r3.2.1==2) then
 (mj r2.2.1 (ByteArray.size a1:Int)
 (some (r3.1,((ByteArray.extract a1 0 (Int.toNat r2.2.1)),()))))
 else
 (mj r2.2.1 (ByteArray.size a1:Int)
 (ba r2.2.1 (ByteArray.size a1:Int)
 ((aH.f k r3.1 255).bind fun r5 =>
 (jk (ByteArray.extract a1 0 (Int.toNat r2.2.1)) (bytesOf [(IntKind.wrap .u8 (aF (((BitVec.ofInt (IntKind.bits .i64) (aF (da a1 r2.2.1)) ^^^ BitVec.ofInt (IntKind.bits .i64) (aF (1+r5.2.1))).toNat:Int))))])
 (mj (aF (r2.2.1+1)) (ByteArray.size a1:Int)
 (jk ((ByteArray.extract a1 0 (Int.toNat r2.2.1))++(bytesOf [(IntKind.wrap .u8 (aF (((BitVec.ofInt (IntKind.bits .i64) (aF (da a1 r2.2.1)) ^^^ BitVec.ofInt (IntKind.bits .i64) (aF (1+r5.2.1))).toNat:Int))))])) (ByteArray.extract a1 (Int.toNat (aF (r2.2.1+1))) (ByteArray.size a1))
 (some (r5.1,((((ByteArray.extract a1 0 (Int.toNat r2.2.1))++(bytesOf [(IntKind.wrap .u8 (aF (((BitVec.ofInt (IntKind.bits .i64) (aF (da a1 r2.2.1)) ^^^ BitVec.ofInt (IntKind.bits .i64) (aF (1+r5.2.1))).toNat:Int))))]))++(ByteArray.extract a1 (Int.toNat (aF (r2.2.1+1))) (ByteArray.size a1))),())))))))))))))))
def f (k:Nat):=t k
end fS
namespace dl
abbrev Rs:Type:=Option ((Ty.den ai) × ByteArray × Unit)
abbrev T0:Type:=ByteArray→Int→List Int→Int→Int→List (Ty.den bU)→List ByteArray→Rs
def b0 (k:Nat) (L0:T0):T0:=fun x0 x1 x2 x3 x4 x5 x6 =>
 (bif (decide (x1<(x6.length:Int))) then
 ((bB.f k (x2,(x3,(x4,()))) 2).bind fun r1 =>
 (bif r1.2.1 then
 ((aH.f k r1.1 9).bind fun r2 =>
 (ba x1 (x6.length:Int)
 ((b9.f k r2.1 6).bind fun r3 =>
 (rm (Ty.bytes bU) (List.length x5+1)
 ((bL.f k (4,((aF (1+r2.2.1)),((List.getD x6 (Int.toNat x1) (Ty.dflt .str)),(r3.2.1,(0,(0,()))))))).bind fun r4 =>
 ((d9.f k r4.1).bind fun r5 =>
 (jk x0 r5.1
 (L0 (x0++r5.1) (aF (x1+1)) r3.1.1 r3.1.2.1 r3.1.2.2.1 (x5++[(4,((aF (1+r2.2.1)),((List.getD x6 (Int.toNat x1) (Ty.dflt .str)),(r3.2.1,(0,(0,()))))))]) x6))))))))
 else
 (L0 x0 (aF (x1+1)) r1.1.1 r1.1.2.1 r1.1.2.2.1 x5 x6)))
 else
 ((aH.f k (x2,(x3,(x4,()))) 3).bind fun r6 =>
 ((eo.f k x5 (aF (9+r6.2.1)) 5).bind fun r7 =>
 ((bB.f k r6.1 10).bind fun r8 =>
 (bif r8.2.1 then
 ((bL.f k (r7.1.1,(2,r7.1.2.2))).bind fun r9 =>
 ((d9.f k r9.1).bind fun r10 =>
 (jk x0 r10.1
 ((bB.f k r8.1 8).bind fun r11 =>
 (bif r11.2.1 then
 ((fS.f k r11.1 (x0++r10.1)).bind fun r12 =>
 (some r12))
 else
 (some (r11.1,((x0++r10.1),()))))))))
 else
 ((bL.f k r7.1).bind fun r13 =>
 ((d9.f k r13.1).bind fun r14 =>
 (jk x0 r14.1
 ((bB.f k r8.1 8).bind fun r15 =>
 (bif r15.2.1 then
 ((fS.f k r15.1 (x0++r14.1)).bind fun r16 =>
 (some r16))
 else
 (some (r15.1,((x0++r14.1),())))))))))))))
def l0 (k:Nat):Nat→T0
 | 0=>fun _ _ _ _ _ _ _=>none
 | n+1=>b0 k (l0 k n)
def t (k:Nat) (L0:T0) (a0:Ty.den ai):Rs :=
 (L0 (⟨#[]⟩:ByteArray) 0 a0.1 a0.2.1 a0.2.2.1 [] [(⟨#[97]⟩:ByteArray),(⟨#[98]⟩:ByteArray),(⟨#[99]⟩:ByteArray),(⟨#[107,101,121]⟩:ByteArray)])
def f (k:Nat):=t k (l0 k k)
end dl
namespace dZ
abbrev Rs:Type:=Option (ByteArray × Unit)
abbrev T0:Type:=Int→ByteArray→Bool→Rs
def b0 (k:Nat) (L0:T0):T0:=fun x0 x1 x2 =>
 (bif (x0 != 0) then
 (bif (decide ((Int.tmod x0 10)<0)) then
 (jk (bytesOf [(IntKind.wrap .u8 (aF (48+(aF (0-(Int.tmod x0 10))))))]) x1
 (L0 (aF (Int.tdiv x0 10)) ((bytesOf [(IntKind.wrap .u8 (aF (48+(aF (0-(Int.tmod x0 10))))))])++x1) x2))
 else
 (jk (bytesOf [(IntKind.wrap .u8 (aF (48+(Int.tmod x0 10))))]) x1
 (L0 (aF (Int.tdiv x0 10)) ((bytesOf [(IntKind.wrap .u8 (aF (48+(Int.tmod x0 10))))])++x1) x2)))
 else
 (bif x2 then
 (jk (⟨#[45]⟩:ByteArray) x1
 (some (((⟨#[45]⟩:ByteArray)++x1),())))
 else
 (some (x1,()))))
def l0 (k:Nat):Nat→T0
 | 0=>fun _ _ _=>none
 | n+1=>b0 k (l0 k n)
def t (k:Nat) (L0:T0) (a0:Int):Rs :=
 (bif (a0==0) then
 (some ((⟨#[48]⟩:ByteArray),()))
 else
 (L0 a0 (⟨#[]⟩:ByteArray) (decide (a0<0))))
def f (k:Nat):=t k (l0 k k)
end dZ
namespace aT
abbrev Rs:Type:=Option (ByteArray × Unit)
def t (k:Nat) (a0:Int):Rs :=
 ((aX.f k a0 1 100000).bind fun r1 =>
 (bif (!r1.1) then
 (some ((⟨#[]⟩:ByteArray),()))
 else
 ((dZ.f k a0).bind fun r2 =>
 (jk (⟨#[115,101,103]⟩:ByteArray) r2.1
 (some (((⟨#[115,101,103]⟩:ByteArray)++r2.1),()))))))
def f (k:Nat):=t k
end aT
namespace b7
abbrev Rs:Type:=Option ((List (Ty.den aE)) × Unit)
abbrev T0:Type:=List (Ty.den aE)→Bool→Int→ByteArray→ByteArray→Int→List (Ty.den aE)→Rs
def b0 (k:Nat) (L0:T0):T0:=fun x0 x1 x2 x3 x4 x5 x6 =>
 (bif (decide (x2<(x0.length:Int))) then
 (bif (!x1) then
 (ba x2 (x0.length:Int)
 (bif (!((mv (List.getD x0 (Int.toNat x2) (Ty.dflt aE)).1 x3)||(seq (List.getD x0 (Int.toNat x2) (Ty.dflt aE)).1 x3))) then
 (rm (Ty.bytes aE) (List.length x6+1)
 (ba x2 (x0.length:Int)
 (rm (Ty.bytes aE) (List.length (x6++[(x3,(x4,(x5,())))])+1)
 (L0 x0 true (aF (x2+1)) x3 x4 x5 ((x6++[(x3,(x4,(x5,())))])++[(List.getD x0 (Int.toNat x2) (Ty.dflt aE))])))))
 else
 (ba x2 (x0.length:Int)
 (rm (Ty.bytes aE) (List.length x6+1)
 (L0 x0 x1 (aF (x2+1)) x3 x4 x5 (x6++[(List.getD x0 (Int.toNat x2) (Ty.dflt aE))]))))))
 else
 (ba x2 (x0.length:Int)
 (rm (Ty.bytes aE) (List.length x6+1)
 (L0 x0 x1 (aF (x2+1)) x3 x4 x5 (x6++[(List.getD x0 (Int.toNat x2) (Ty.dflt aE))])))))
 else
 (bif (!x1) then
 (rm (Ty.bytes aE) (List.length x6+1)
 (some ((x6++[(x3,(x4,(x5,())))]),())))
 else
 (some (x6,()))))
def l0 (k:Nat):Nat→T0
 | 0=>fun _ _ _ _ _ _ _=>none
 | n+1=>b0 k (l0 k n)
def t (k:Nat) (L0:T0) (a0:List (Ty.den aE)) (a1:Ty.den aE):Rs :=
 (L0 a0 false 0 a1.1 a1.2.1 a1.2.2.1 [])
def f (k:Nat):=t k (l0 k k)
end b7
namespace aj
abbrev Rs:Type:=Option (Int × Int × Unit)
abbrev T1:Type:=ByteArray→Int→Int→Int→Rs
abbrev T0:Type:=ByteArray→Int→Rs
def b1 (k:Nat) (L0:T0) (L1:T1):T1:=fun x0 x1 x2 x3 =>
 (bif (decide (x3≥0)) then
 (ba x3 (ByteArray.size x0:Int)
 (L1 x0 x1 (aF ((aF (x2*128))+(Int.tmod (aF (da x0 x3)) 128))) (aF (x3-1))))
 else
 ((bi.f k x2).bind fun r1 =>
 (mj x1 (ByteArray.size x0:Int)
 (bif (seq r1.1 (ByteArray.extract x0 0 (Int.toNat x1))) then
 (some (x2,(x1,())))
 else
 (L0 x0 (aF (x1+1)))))))
def l1 (k:Nat) (L0:T0):Nat→T1
 | 0=>fun _ _ _ _=>none
 | n+1=>b1 k L0 (l1 k L0 n)
def b0 (k:Nat) (L1:T1) (L0:T0):T0:=fun x0 x1 =>
 (bif (decide (x1≤7)) then
 (bif (decide (x1≤(ByteArray.size x0:Int))) then
 (L1 x0 x1 0 (aF (x1-1)))
 else
 (some (0,(0,()))))
 else
 (some (0,(0,()))))
def l0 (k:Nat):Nat→T0
 | 0=>fun _ _=>none
 | n+1=>b0 k (l1 k (l0 k n) k) (l0 k n)
def t (k:Nat) (L0:T0) (a0:ByteArray):Rs :=
 (L0 a0 1)
def f (k:Nat):=t k (l0 k k)
end aj
namespace dh
abbrev Rs:Type:=Option (ByteArray × Int × Unit)
def t (k:Nat) (a0:ByteArray):Rs :=
 (bif (decide ((ByteArray.size a0:Int)<5)) then
 (some ((⟨#[]⟩:ByteArray),(0,())))
 else
 (mj 4 (ByteArray.size a0:Int)
 ((aj.f k (ByteArray.extract a0 4 (ByteArray.size a0))).bind fun r1 =>
 (bif (r1.2.1==0) then
 (some ((⟨#[]⟩:ByteArray),(0,())))
 else
 (bif (decide (r1.1 > 200)) then
 (some ((⟨#[]⟩:ByteArray),(0,())))
 else
 (bif (decide (r1.1 > (aF ((aF ((ByteArray.size a0:Int)-4))-r1.2.1)))) then
 (some ((⟨#[]⟩:ByteArray),(0,())))
 else
 (F8 (aF (4+r1.2.1)) (aF ((aF (4+r1.2.1))+r1.1)) (ByteArray.size a0:Int)
 (mj (aF ((aF (4+r1.2.1))+r1.1)) (ByteArray.size a0:Int)
 ((d9.f k (ByteArray.extract a0 (Int.toNat (aF (4+r1.2.1))) (Int.toNat (aF ((aF (4+r1.2.1))+r1.1))))).bind fun r2 =>
 (bif (!(seq (ByteArray.extract a0 0 (Int.toNat (aF ((aF (4+r1.2.1))+r1.1)))) r2.1)) then
 (some ((⟨#[]⟩:ByteArray),(0,())))
 else
 (some ((ByteArray.extract a0 (Int.toNat (aF (4+r1.2.1))) (Int.toNat (aF ((aF (4+r1.2.1))+r1.1)))),((aF ((aF (4+r1.2.1))+r1.1)),())))))))))))))
def f (k:Nat):=t k
end dh
namespace cV
abbrev Rs:Type:=Option (ByteArray × ByteArray × Bool × Unit)
def t (k:Nat) (a0:ByteArray):Rs :=
 ((aj.f k a0).bind fun r1 =>
 (bif (r1.2.1==0) then
 (some ((⟨#[]⟩:ByteArray),((⟨#[]⟩:ByteArray),(false,()))))
 else
 (bif (decide (r1.1 > (aF ((ByteArray.size a0:Int)-r1.2.1)))) then
 (some ((⟨#[]⟩:ByteArray),((⟨#[]⟩:ByteArray),(false,()))))
 else
 (F8 r1.2.1 (aF (r1.2.1+r1.1)) (ByteArray.size a0:Int)
 (mj (aF (r1.2.1+r1.1)) (ByteArray.size a0:Int)
 (some ((ByteArray.extract a0 (Int.toNat r1.2.1) (Int.toNat (aF (r1.2.1+r1.1)))),((ByteArray.extract a0 (Int.toNat (aF (r1.2.1+r1.1))) (ByteArray.size a0)),(true,())))))))))
def f (k:Nat):=t k
end cV
namespace bh
abbrev Rs:Type:=Option (Int × Bool × Unit)
abbrev T0:Type:=ByteArray→Int→Int→Int→Rs
def b0 (k:Nat) (L0:T0):T0:=fun x0 x1 x2 x3 =>
 (bif (decide (x3<x1)) then
 (ba x3 (ByteArray.size x0:Int)
 (L0 x0 x1 (aF ((aF (x2*256))+(aF (da x0 x3)))) (aF (x3+1))))
 else
 (some (x2,(true,()))))
def l0 (k:Nat):Nat→T0
 | 0=>fun _ _ _ _=>none
 | n+1=>b0 k (l0 k n)
def t (k:Nat) (L0:T0) (a0:ByteArray) (a1:Int):Rs :=
 ((aX.f k a1 1 7).bind fun r1 =>
 (bif (!r1.1) then
 (some (0,(false,())))
 else
 (bif (decide ((ByteArray.size a0:Int)<a1)) then
 (some (0,(false,())))
 else
 (L0 a0 a1 0 0))))
def f (k:Nat):=t k (l0 k k)
end bh
namespace eN
abbrev Rs:Type:=Option ((Ty.den bU) × Bool × Unit)
def t (k:Nat) (a0:ByteArray):Rs :=
 ((aj.f k a0).bind fun r1 =>
 (mj r1.2.1 (ByteArray.size a0:Int)
 ((aj.f k (ByteArray.extract a0 (Int.toNat r1.2.1) (ByteArray.size a0))).bind fun r2 =>
 (bif (r1.2.1==0) then
 (some ((0,(0,(ByteArray.empty,(ByteArray.empty,(0,(0,())))))),(false,())))
 else
 (bif (r2.2.1==0) then
 (some ((0,(0,(ByteArray.empty,(ByteArray.empty,(0,(0,())))))),(false,())))
 else
 (mj (aF (r1.2.1+r2.2.1)) (ByteArray.size a0:Int)
 (bif (r1.1==1) then
 (bif (r1.1==1) then
 ((cV.f k (ByteArray.extract a0 (Int.toNat (aF (r1.2.1+r2.2.1))) (ByteArray.size a0))).bind fun r3 =>
 ((cV.f k r3.2.1).bind fun r4 =>
 ((bL.f k (r1.1,(r2.1,(r3.1,(r4.1,(0,(0,()))))))).bind fun r5 =>
 (bif (!(seq r5.1 a0)) then
 (some ((0,(0,(ByteArray.empty,(ByteArray.empty,(0,(0,())))))),(false,())))
 else
 (bif (seq a0 (⟨#[]⟩:ByteArray)) then
 (some ((0,(0,(ByteArray.empty,(ByteArray.empty,(0,(0,())))))),(false,())))
 else
 (some ((r1.1,(r2.1,(r3.1,(r4.1,(0,(0,())))))),(true,()))))))))
 else
 (bif (r1.1==2) then
 ((cV.f k (ByteArray.extract a0 (Int.toNat (aF (r1.2.1+r2.2.1))) (ByteArray.size a0))).bind fun r6 =>
 ((bL.f k (r1.1,(r2.1,(r6.1,(ByteArray.empty,(0,(0,()))))))).bind fun r7 =>
 (bif (!(seq r7.1 a0)) then
 (some ((0,(0,(ByteArray.empty,(ByteArray.empty,(0,(0,())))))),(false,())))
 else
 (bif (seq a0 (⟨#[]⟩:ByteArray)) then
 (some ((0,(0,(ByteArray.empty,(ByteArray.empty,(0,(0,())))))),(false,())))
 else
 (some ((r1.1,(r2.1,(r6.1,(ByteArray.empty,(0,(0,())))))),(true,())))))))
 else
 ((aj.f k (ByteArray.extract a0 (Int.toNat (aF (r1.2.1+r2.2.1))) (ByteArray.size a0))).bind fun r8 =>
 (mj r8.2.1 (ByteArray.size (ByteArray.extract a0 (Int.toNat (aF (r1.2.1+r2.2.1))) (ByteArray.size a0)):Int)
 ((bh.f k (ByteArray.extract (ByteArray.extract a0 (Int.toNat (aF (r1.2.1+r2.2.1))) (ByteArray.size a0)) (Int.toNat r8.2.1) (ByteArray.size (ByteArray.extract a0 (Int.toNat (aF (r1.2.1+r2.2.1))) (ByteArray.size a0)))) 4).bind fun r9 =>
 ((bL.f k (r1.1,(r2.1,(ByteArray.empty,(ByteArray.empty,(r8.1,(r9.1,()))))))).bind fun r10 =>
 (bif (!(seq r10.1 a0)) then
 (some ((0,(0,(ByteArray.empty,(ByteArray.empty,(0,(0,())))))),(false,())))
 else
 (bif (seq a0 (⟨#[]⟩:ByteArray)) then
 (some ((0,(0,(ByteArray.empty,(ByteArray.empty,(0,(0,())))))),(false,())))
 else
 (some ((r1.1,(r2.1,(ByteArray.empty,(ByteArray.empty,(r8.1,(r9.1,())))))),(true,())))))))))))
 else
 (bif (r1.1==4) then
 ((cV.f k (ByteArray.extract a0 (Int.toNat (aF (r1.2.1+r2.2.1))) (ByteArray.size a0))).bind fun r11 =>
 ((cV.f k r11.2.1).bind fun r12 =>
 ((bL.f k (r1.1,(r2.1,(r11.1,(r12.1,(0,(0,()))))))).bind fun r13 =>
 (bif (!(seq r13.1 a0)) then
 (some ((0,(0,(ByteArray.empty,(ByteArray.empty,(0,(0,())))))),(false,())))
 else
 (bif (seq a0 (⟨#[]⟩:ByteArray)) then
 (some ((0,(0,(ByteArray.empty,(ByteArray.empty,(0,(0,())))))),(false,())))
 else
 (some ((r1.1,(r2.1,(r11.1,(r12.1,(0,(0,())))))),(true,()))))))))
 else
 (bif (r1.1==2) then
 ((cV.f k (ByteArray.extract a0 (Int.toNat (aF (r1.2.1+r2.2.1))) (ByteArray.size a0))).bind fun r14 =>
 ((bL.f k (r1.1,(r2.1,(r14.1,(ByteArray.empty,(0,(0,()))))))).bind fun r15 =>
 (bif (!(seq r15.1 a0)) then
 (some ((0,(0,(ByteArray.empty,(ByteArray.empty,(0,(0,())))))),(false,())))
 else
 (bif (seq a0 (⟨#[]⟩:ByteArray)) then
 (some ((0,(0,(ByteArray.empty,(ByteArray.empty,(0,(0,())))))),(false,())))
 else
 (some ((r1.1,(r2.1,(r14.1,(ByteArray.empty,(0,(0,())))))),(true,())))))))
 else
 ((aj.f k (ByteArray.extract a0 (Int.toNat (aF (r1.2.1+r2.2.1))) (ByteArray.size a0))).bind fun r16 =>
 (mj r16.2.1 (ByteArray.size (ByteArray.extract a0 (Int.toNat (aF (r1.2.1+r2.2.1))) (ByteArray.size a0)):Int)
 ((bh.f k (ByteArray.extract (ByteArray.extract a0 (Int.toNat (aF (r1.2.1+r2.2.1))) (ByteArray.size a0)) (Int.toNat r16.2.1) (ByteArray.size (ByteArray.extract a0 (Int.toNat (aF (r1.2.1+r2.2.1))) (ByteArray.size a0)))) 4).bind fun r17 =>
 ((bL.f k (r1.1,(r2.1,(ByteArray.empty,(ByteArray.empty,(r16.1,(r17.1,()))))))).bind fun r18 =>
 (bif (!(seq r18.1 a0)) then
 (some ((0,(0,(ByteArray.empty,(ByteArray.empty,(0,(0,())))))),(false,())))
 else
 (bif (seq a0 (⟨#[]⟩:ByteArray)) then
 (some ((0,(0,(ByteArray.empty,(ByteArray.empty,(0,(0,())))))),(false,())))
 else
 (some ((r1.1,(r2.1,(ByteArray.empty,(ByteArray.empty,(r16.1,(r17.1,())))))),(true,()))))))))))))))))))
def f (k:Nat):=t k
end eN
namespace bW
abbrev Rs:Type:=Option ((List (Ty.den bM)) × Int × Unit)
abbrev T0:Type:=ByteArray→Int→List (Ty.den bM)→Rs
def b0 (k:Nat) (L0:T0):T0:=fun x0 x1 x2 =>
 (bif (decide (x1<(ByteArray.size x0:Int))) then
 (mj x1 (ByteArray.size x0:Int)
 ((dh.f k (ByteArray.extract x0 (Int.toNat x1) (ByteArray.size x0))).bind fun r1 =>
 ((eN.f k r1.1).bind fun r2 =>
 (bif (r1.2.1==0) then
 (some (x2,(x1,())))
 else
 (bif (!r2.2.1) then
 (some (x2,(x1,())))
 else
 (rm (Ty.bytes bM) (List.length x2+1)
 (L0 x0 (aF (x1+r1.2.1)) (x2++[(x1,(r1.2.1,(r2.1,())))]))))))))
 else
 (some (x2,(x1,()))))
def l0 (k:Nat):Nat→T0
 | 0=>fun _ _ _=>none
 | n+1=>b0 k (l0 k n)
def t (k:Nat) (L0:T0) (a0:ByteArray):Rs :=
 (L0 a0 0 [])
def f (k:Nat):=t k (l0 k k)
end bW
namespace cv
abbrev Rs:Type:=Option ((Ty.den dc) × Bool × Unit)
abbrev T0:Type:=Int→Int→List (Ty.den aA)→Int→Int→List (Ty.den bM)→List (Ty.den aA)→Int→Int→List (Ty.den bU)→Rs
def b0 (k:Nat) (L0:T0):T0:=fun x0 x1 x2 x3 x4 x5 x6 x7 x8 x9 =>
 (bif (decide ((aF (x1+1))<(x5.length:Int))) then
 (ba x1 (x5.length:Int)
 (bif ((List.getD x5 (Int.toNat x1) (Ty.dflt bM)).2.2.1.1 != 4) then
 (some ((0,(0,([],()))),(false,())))
 else
 (bif (decide ((List.getD x5 (Int.toNat x1) (Ty.dflt bM)).2.2.1.2.1 > x8)) then
 (some ((0,(0,([],()))),(false,())))
 else
 (bif (decide (x1 > 0)) then
 (ba (aF (x1-1)) (x5.length:Int)
 (bif ((mv (List.getD x5 (Int.toNat x1) (Ty.dflt bM)).2.2.1.2.2.1 (List.getD x5 (Int.toNat (aF (x1-1))) (Ty.dflt bM)).2.2.1.2.2.1)||(seq (List.getD x5 (Int.toNat x1) (Ty.dflt bM)).2.2.1.2.2.1 (List.getD x5 (Int.toNat (aF (x1-1))) (Ty.dflt bM)).2.2.1.2.2.1)) then
 (some ((0,(0,([],()))),(false,())))
 else
 (rm (Ty.bytes bU) (List.length x9+1)
 (ba x1 (x5.length:Int)
 (ba x1 (x5.length:Int)
 (rm (Ty.bytes aA) (List.length x6+1)
 (L0 x0 (aF (x1+1)) x2 x3 x4 x5 (x6++[((List.getD x5 (Int.toNat x1) (Ty.dflt bM)).2.2.1.2.2.1,(x0,((List.getD x5 (Int.toNat x1) (Ty.dflt bM)).1,((List.getD x5 (Int.toNat x1) (Ty.dflt bM)).2.1,((List.getD x5 (Int.toNat x1) (Ty.dflt bM)).2.2.1.2.1,())))))]) x7 x8 (x9++[(List.getD x5 (Int.toNat x1) (Ty.dflt bM)).2.2.1]))))))))
 else
 (rm (Ty.bytes bU) (List.length x9+1)
 (ba x1 (x5.length:Int)
 (ba x1 (x5.length:Int)
 (rm (Ty.bytes aA) (List.length x6+1)
 (L0 x0 (aF (x1+1)) x2 x3 x4 x5 (x6++[((List.getD x5 (Int.toNat x1) (Ty.dflt bM)).2.2.1.2.2.1,(x0,((List.getD x5 (Int.toNat x1) (Ty.dflt bM)).1,((List.getD x5 (Int.toNat x1) (Ty.dflt bM)).2.1,((List.getD x5 (Int.toNat x1) (Ty.dflt bM)).2.2.1.2.1,())))))]) x7 x8 (x9++[(List.getD x5 (Int.toNat x1) (Ty.dflt bM)).2.2.1]))))))))))
 else
 (ba (aF ((x5.length:Int)-1)) (x5.length:Int)
 (bif ((List.getD x5 (Int.toNat (aF ((x5.length:Int)-1))) (Ty.dflt bM)).2.2.1.2.2.2.2.1 != (x9.length:Int)) then
 (some ((0,(0,([],()))),(false,())))
 else
 ((g9.f k x9).bind fun r3 =>
 (bif ((List.getD x5 (Int.toNat (aF ((x5.length:Int)-1))) (Ty.dflt bM)).2.2.1.2.2.2.2.2.1 != r3.1) then
 (some ((0,(0,([],()))),(false,())))
 else
 (some ((x7,(x8,(x6,()))),(true,()))))))))
def l0 (k:Nat):Nat→T0
 | 0=>fun _ _ _ _ _ _ _ _ _ _=>none
 | n+1=>b0 k (l0 k n)
def t (k:Nat) (L0:T0) (a0:Int) (a1:ByteArray):Rs :=
 ((bW.f k a1).bind fun r1 =>
 (bif (r1.2.1 != (ByteArray.size a1:Int)) then
 (some ((0,(0,([],()))),(false,())))
 else
 (bif ((List.length r1.1:Int)==0) then
 (some ((0,(0,([],()))),(false,())))
 else
 (ba (aF ((List.length r1.1:Int)-1)) (List.length r1.1:Int)
 (bif ((List.getD r1.1 (Int.toNat (aF ((List.length r1.1:Int)-1))) (Ty.dflt bM)).2.2.1.1 != 5) then
 (some ((0,(0,([],()))),(false,())))
 else
 ((aT.f k a0).bind fun r2 =>
 (bif (seq r2.1 (⟨#[]⟩:ByteArray)) then
 (some ((0,(0,([],()))),(false,())))
 else
 (ba (aF ((List.length r1.1:Int)-1)) (List.length r1.1:Int)
 (L0 a0 0 [] 0 0 r1.1 [] (ByteArray.size a1:Int) (List.getD r1.1 (Int.toNat (aF ((List.length r1.1:Int)-1))) (Ty.dflt bM)).2.2.1.2.1 [])))))))))
def f (k:Nat):=t k (l0 k k)
end cv
namespace fC
abbrev Rs:Type:=Option (Bool × Unit)
abbrev T0:Type:=List (Ty.den aA)→Int→Rs
def b0 (k:Nat) (L0:T0):T0:=fun x0 x1 =>
 (bif (decide (x1<(x0.length:Int))) then
 (ba x1 (x0.length:Int)
 ((eO.f k (List.getD x0 (Int.toNat x1) (Ty.dflt aA)).1).bind fun r1 =>
 (bif (!r1.1) then
 (some (false,()))
 else
 ((aX.f k (List.getD x0 (Int.toNat x1) (Ty.dflt aA)).2.1 1 100000).bind fun r2 =>
 (bif (!r2.1) then
 (some (false,()))
 else
 (bif (decide ((List.getD x0 (Int.toNat x1) (Ty.dflt aA)).2.2.1<0)) then
 (some (false,()))
 else
 ((aX.f k (List.getD x0 (Int.toNat x1) (Ty.dflt aA)).2.2.2.1 1 210).bind fun r3 =>
 (bif (!r3.1) then
 (some (false,()))
 else
 ((aX.f k (List.getD x0 (Int.toNat x1) (Ty.dflt aA)).2.2.2.2.1 1 1000000).bind fun r4 =>
 (bif (!r4.1) then
 (some (false,()))
 else
 (bif (decide (x1 > 0)) then
 (ba (aF (x1-1)) (x0.length:Int)
 (bif ((mv (List.getD x0 (Int.toNat x1) (Ty.dflt aA)).1 (List.getD x0 (Int.toNat (aF (x1-1))) (Ty.dflt aA)).1)||(seq (List.getD x0 (Int.toNat x1) (Ty.dflt aA)).1 (List.getD x0 (Int.toNat (aF (x1-1))) (Ty.dflt aA)).1)) then
 (some (false,()))
 else
 (L0 x0 (aF (x1+1)))))
 else
 (L0 x0 (aF (x1+1))))))))))))))
 else
 (some (true,())))
def l0 (k:Nat):Nat→T0
 | 0=>fun _ _=>none
 | n+1=>b0 k (l0 k n)
def t (k:Nat) (L0:T0) (a0:List (Ty.den aA)):Rs :=
 (bif (decide ((List.length a0:Int) > 20)) then
 (some (false,()))
 else
 (L0 a0 0))
def f (k:Nat):=t k (l0 k k)
end fC
namespace gi
abbrev Rs:Type:=Option (Bool × Unit)
abbrev T0:Type:=Int→Int→Int→List (Ty.den aA)→Rs
def b0 (k:Nat) (L0:T0):T0:=fun x0 x1 x2 x3 =>
 (bif (decide (x0<(x3.length:Int))) then
 (ba x0 (x3.length:Int)
 (ba 0 (x3.length:Int)
 (bif ((List.getD x3 (Int.toNat x0) (Ty.dflt aA)).2.1 != (List.getD x3 0 (Ty.dflt aA)).2.1) then
 (some (false,()))
 else
 (ba x0 (x3.length:Int)
 (bif (decide ((List.getD x3 (Int.toNat x0) (Ty.dflt aA)).2.2.1 > 100000)) then
 (some (false,()))
 else
 (L0 (aF (x0+1)) x1 x2 x3))))))
 else
 (some (true,())))
def l0 (k:Nat):Nat→T0
 | 0=>fun _ _ _ _=>none
 | n+1=>b0 k (l0 k n)
def t (k:Nat) (L0:T0) (a0:Ty.den dc):Rs :=
 ((aX.f k a0.1 0 100000).bind fun r1 =>
 (bif (!r1.1) then
 (some (false,()))
 else
 ((aX.f k a0.2.1 0 1000000).bind fun r2 =>
 (bif (!r2.1) then
 (some (false,()))
 else
 ((fC.f k a0.2.2.1).bind fun r3 =>
 (bif (!r3.1) then
 (some (false,()))
 else
 (L0 0 a0.1 a0.2.1 a0.2.2.1)))))))
def f (k:Nat):=t k (l0 k k)
end gi
namespace cH
abbrev Rs:Type:=Option (ByteArray × Unit)
abbrev T0:Type:=ByteArray→Int→Int→Int→List (Ty.den aA)→Rs
def b0 (k:Nat) (L0:T0):T0:=fun x0 x1 x2 x3 x4 =>
 (bif (decide (x1<(x4.length:Int))) then
 (ba x1 (x4.length:Int)
 ((bi.f k (ByteArray.size (List.getD x4 (Int.toNat x1) (Ty.dflt aA)).1:Int)).bind fun r5 =>
 (jk x0 r5.1
 (jk (x0++r5.1) (List.getD x4 (Int.toNat x1) (Ty.dflt aA)).1
 ((bi.f k (List.getD x4 (Int.toNat x1) (Ty.dflt aA)).2.1).bind fun r6 =>
 (jk ((x0++r5.1)++(List.getD x4 (Int.toNat x1) (Ty.dflt aA)).1) r6.1
 ((bi.f k (List.getD x4 (Int.toNat x1) (Ty.dflt aA)).2.2.1).bind fun r7 =>
 (jk (((x0++r5.1)++(List.getD x4 (Int.toNat x1) (Ty.dflt aA)).1)++r6.1) r7.1
 ((bi.f k (List.getD x4 (Int.toNat x1) (Ty.dflt aA)).2.2.2.1).bind fun r8 =>
 (jk ((((x0++r5.1)++(List.getD x4 (Int.toNat x1) (Ty.dflt aA)).1)++r6.1)++r7.1) r8.1
 ((bi.f k (List.getD x4 (Int.toNat x1) (Ty.dflt aA)).2.2.2.2.1).bind fun r9 =>
 (jk (((((x0++r5.1)++(List.getD x4 (Int.toNat x1) (Ty.dflt aA)).1)++r6.1)++r7.1)++r8.1) r9.1
 (L0 ((((((x0++r5.1)++(List.getD x4 (Int.toNat x1) (Ty.dflt aA)).1)++r6.1)++r7.1)++r8.1)++r9.1) (aF (x1+1)) x2 x3 x4)))))))))))))
 else
 ((gE.f k x0).bind fun r10 =>
 ((dU.f k r10.1 4).bind fun r11 =>
 (jk r11.1 x0
 (some ((r11.1++x0),()))))))
def l0 (k:Nat):Nat→T0
 | 0=>fun _ _ _ _ _=>none
 | n+1=>b0 k (l0 k n)
def t (k:Nat) (L0:T0) (a0:Ty.den dc):Rs :=
 ((gi.f k a0).bind fun r1 =>
 (bif (!r1.1) then
 (some ((⟨#[]⟩:ByteArray),()))
 else
 ((bi.f k a0.1).bind fun r2 =>
 ((bi.f k a0.2.1).bind fun r3 =>
 (jk r2.1 r3.1
 ((bi.f k (List.length a0.2.2.1:Int)).bind fun r4 =>
 (jk (r2.1++r3.1) r4.1
 (L0 ((r2.1++r3.1)++r4.1) 0 a0.1 a0.2.1 a0.2.2.1))))))))
def f (k:Nat):=t k (l0 k k)
end cH
namespace bo
abbrev Rs:Type:=Option (ByteArray × Unit)
def t (k:Nat) (a0:Int):Rs :=
 ((aX.f k a0 1 100000).bind fun r1 =>
 (bif (!r1.1) then
 (some ((⟨#[]⟩:ByteArray),()))
 else
 ((dZ.f k a0).bind fun r2 =>
 (jk (⟨#[104,105,110,116]⟩:ByteArray) r2.1
 (some (((⟨#[104,105,110,116]⟩:ByteArray)++r2.1),()))))))
def f (k:Nat):=t k
end bo
namespace dK
abbrev Rs:Type:=Option (Bool × Unit)
abbrev T0:Type:=Int→Int→List Int→Rs
def b0 (k:Nat) (L0:T0):T0:=fun x0 x1 x2 =>
 (bif (decide (x0<(x2.length:Int))) then
 (ba x0 (x2.length:Int)
 ((aX.f k (List.getD x2 (Int.toNat x0) (Ty.dflt (.int .i64))) 1 (aF (x1-1))).bind fun r3 =>
 (bif (!r3.1) then
 (some (false,()))
 else
 (bif (decide (x0 > 0)) then
 (ba x0 (x2.length:Int)
 (ba (aF (x0-1)) (x2.length:Int)
 (bif (decide ((List.getD x2 (Int.toNat x0) (Ty.dflt (.int .i64)))≤(List.getD x2 (Int.toNat (aF (x0-1))) (Ty.dflt (.int .i64))))) then
 (some (false,()))
 else
 (L0 (aF (x0+1)) x1 x2))))
 else
 (L0 (aF (x0+1)) x1 x2)))))
 else
 (some (true,())))
def l0 (k:Nat):Nat→T0
 | 0=>fun _ _ _=>none
 | n+1=>b0 k (l0 k n)
def t (k:Nat) (L0:T0) (a0:Ty.den bA):Rs :=
 ((aX.f k a0.1 1 100000).bind fun r1 =>
 (bif (!r1.1) then
 (some (false,()))
 else
 ((aX.f k (List.length a0.2.1:Int) 1 60).bind fun r2 =>
 (bif (!r2.1) then
 (some (false,()))
 else
 (L0 0 a0.1 a0.2.1)))))
def f (k:Nat):=t k (l0 k k)
end dK
namespace cR
abbrev Rs:Type:=Option (ByteArray × Unit)
abbrev T0:Type:=ByteArray→Int→Int→List Int→Rs
def b0 (k:Nat) (L0:T0):T0:=fun x0 x1 x2 x3 =>
 (bif (decide (x1<(x3.length:Int))) then
 (ba x1 (x3.length:Int)
 ((bi.f k (List.getD x3 (Int.toNat x1) (Ty.dflt (.int .i64)))).bind fun r4 =>
 (jk x0 r4.1
 (L0 (x0++r4.1) (aF (x1+1)) x2 x3))))
 else
 ((d9.f k x0).bind fun r5 =>
 (some r5)))
def l0 (k:Nat):Nat→T0
 | 0=>fun _ _ _ _=>none
 | n+1=>b0 k (l0 k n)
def t (k:Nat) (L0:T0) (a0:Ty.den bA):Rs :=
 ((dK.f k a0).bind fun r1 =>
 (bif (!r1.1) then
 (some ((⟨#[]⟩:ByteArray),()))
 else
 ((bi.f k a0.1).bind fun r2 =>
 ((bi.f k (List.length a0.2.1:Int)).bind fun r3 =>
 (jk r2.1 r3.1
 (L0 (r2.1++r3.1) 0 a0.1 a0.2.1))))))
def f (k:Nat):=t k (l0 k k)
end cR
namespace dk
abbrev Rs:Type:=Option ((List (Ty.den aE)) × Unit)
def t (k:Nat) (a0:List (Ty.den aE)) (a1:Int):Rs :=
 (mj a1 (List.length a0:Int)
 (rm (Ty.bytes aE) (0+List.length (List.take (Int.toNat a1) a0))
 (mj (aF (a1+1)) (List.length a0:Int)
 (rm (Ty.bytes aE) (List.length ([]++(List.take (Int.toNat a1) a0))+List.length (List.drop (Int.toNat (aF (a1+1))) a0))
 (some ((([]++(List.take (Int.toNat a1) a0))++(List.drop (Int.toNat (aF (a1+1))) a0)),()))))))
def f (k:Nat):=t k
end dk
namespace cU
abbrev Rs:Type:=Option ((Ty.den a_) × Unit)
def t (k:Nat) (a0:Ty.den a_):Rs :=
 (rm (Ty.bytes aE) (0+List.length a0.1)
 (some ((([]++a0.1),a0.2),())))
def f (k:Nat):=t k
end cU
namespace db
abbrev Rs:Type:=Option (Int × Unit)
abbrev T0:Type:=Int→Int→List (Ty.den aE)→Int→Int→Bool→Rs
def b0 (k:Nat) (L0:T0):T0:=fun x0 x1 x2 x3 x4 x5 =>
 (bif (decide (x1<(x2.length:Int))) then
 (ba x1 (x2.length:Int)
 (L0 (aF (x0+(ByteArray.size (List.getD x2 (Int.toNat x1) (Ty.dflt aE)).2.1:Int))) (aF (x1+1)) x2 x3 x4 x5))
 else
 (some (x0,())))
def l0 (k:Nat):Nat→T0
 | 0=>fun _ _ _ _ _ _=>none
 | n+1=>b0 k (l0 k n)
def t (k:Nat) (L0:T0) (a0:Ty.den a_):Rs :=
 (L0 0 0 a0.1 a0.2.1 a0.2.2.1 a0.2.2.2.1)
def f (k:Nat):=t k (l0 k k)
end db
namespace eE
abbrev Rs:Type:=Option (Bool × Unit)
abbrev T0:Type:=ByteArray→Int→Rs
def b0 (k:Nat) (L0:T0):T0:=fun x0 x1 =>
 (bif (decide (x1<(ByteArray.size x0:Int))) then
 (ba x1 (ByteArray.size x0:Int)
 (bif (decide ((da x0 x1)≥97)) then
 (ba x1 (ByteArray.size x0:Int)
 (bif (decide ((da x0 x1)≤122)) then
 (L0 x0 (aF (x1+1)))
 else
 (ba x1 (ByteArray.size x0:Int)
 (bif (decide ((da x0 x1)≥48)) then
 (ba x1 (ByteArray.size x0:Int)
 (bif (!(decide ((da x0 x1)≤57))) then
 (some (false,()))
 else
 (L0 x0 (aF (x1+1)))))
 else
 (some (false,()))))))
 else
 (ba x1 (ByteArray.size x0:Int)
 (bif (decide ((da x0 x1)≥48)) then
 (ba x1 (ByteArray.size x0:Int)
 (bif (!(decide ((da x0 x1)≤57))) then
 (some (false,()))
 else
 (L0 x0 (aF (x1+1)))))
 else
 (some (false,()))))))
 else
 ((aX.f k (ByteArray.size x0:Int) 1 12).bind fun r1 =>
 (some r1)))
def l0 (k:Nat):Nat→T0
 | 0=>fun _ _=>none
 | n+1=>b0 k (l0 k n)
def t (k:Nat) (L0:T0) (a0:ByteArray):Rs :=
 (L0 a0 0)
def f (k:Nat):=t k (l0 k k)
end eE
namespace bH
abbrev Rs:Type:=Option (Bool × Unit)
abbrev T0:Type:=Int→List (Ty.den aE)→Int→Int→Bool→Rs
def b0 (k:Nat) (L0:T0):T0:=fun x0 x1 x2 x3 x4 =>
 (bif (decide (x0<(x1.length:Int))) then
 (ba x0 (x1.length:Int)
 ((eE.f k (List.getD x1 (Int.toNat x0) (Ty.dflt aE)).1).bind fun r4 =>
 (bif (!r4.1) then
 (some (false,()))
 else
 (ba x0 (x1.length:Int)
 (ba x0 (x1.length:Int)
 ((aX.f k (List.getD x1 (Int.toNat x0) (Ty.dflt aE)).2.2.1 0 (ByteArray.size (List.getD x1 (Int.toNat x0) (Ty.dflt aE)).2.1:Int)).bind fun r5 =>
 (bif (!r5.1) then
 (some (false,()))
 else
 (bif (decide (x0 > 0)) then
 (ba x0 (x1.length:Int)
 (ba (aF (x0-1)) (x1.length:Int)
 (bif ((mv (List.getD x1 (Int.toNat x0) (Ty.dflt aE)).1 (List.getD x1 (Int.toNat (aF (x0-1))) (Ty.dflt aE)).1)||(seq (List.getD x1 (Int.toNat x0) (Ty.dflt aE)).1 (List.getD x1 (Int.toNat (aF (x0-1))) (Ty.dflt aE)).1)) then
 (some (false,()))
 else
 (L0 (aF (x0+1)) x1 x2 x3 x4))))
 else
 (L0 (aF (x0+1)) x1 x2 x3 x4)))))))))
 else
 (some (true,())))
def l0 (k:Nat):Nat→T0
 | 0=>fun _ _ _ _ _=>none
 | n+1=>b0 k (l0 k n)
def t (k:Nat) (L0:T0) (a0:Ty.den a_):Rs :=
 (bif (decide ((List.length a0.1:Int) > 130)) then
 (some (false,()))
 else
 ((aX.f k a0.2.1 0 100000).bind fun r1 =>
 (bif (!r1.1) then
 (some (false,()))
 else
 ((aX.f k a0.2.2.1 (-1) 100000).bind fun r2 =>
 (bif (!r2.1) then
 (some (false,()))
 else
 ((db.f k a0).bind fun r3 =>
 (bif (decide (r3.1 > a0.2.1)) then
 (some (false,()))
 else
 (L0 0 a0.1 a0.2.1 a0.2.2.1 a0.2.2.2.1))))))))
def f (k:Nat):=t k (l0 k k)
end bH
namespace d_
abbrev Rs:Type:=Option ((Ty.den a_) × Int × Unit)
def t (k:Nat) (a0:Ty.den a_):Rs :=
 ((cU.f k a0).bind fun r1 =>
 ((bH.f k a0).bind fun r2 =>
 (bif (!r2.1) then
 (some (r1.1,(5,())))
 else
 (bif a0.2.2.2.1 then
 (some ((r1.1.1,(r1.1.2.1,(r1.1.2.2.1,(true,())))),(1,())))
 else
 (bif (a0.2.2.1==0) then
 (some ((r1.1.1,(r1.1.2.1,(r1.1.2.2.1,(true,())))),(1,())))
 else
 (bif (decide (a0.2.2.1 > 0)) then
 (some ((r1.1.1,(r1.1.2.1,((aF (a0.2.2.1-1)),r1.1.2.2.2))),(0,())))
 else
 (some (r1.1,(0,())))))))))
def f (k:Nat):=t k
end d_
namespace bT
abbrev Rs:Type:=Option (Int × Unit)
abbrev T0:Type:=ByteArray→Int→List (Ty.den aE)→Int→Int→Bool→Rs
def b0 (k:Nat) (L0:T0):T0:=fun x0 x1 x2 x3 x4 x5 =>
 (bif (decide (x1<(x2.length:Int))) then
 (ba x1 (x2.length:Int)
 (bif (seq (List.getD x2 (Int.toNat x1) (Ty.dflt aE)).1 x0) then
 (some (x1,()))
 else
 (L0 x0 (aF (x1+1)) x2 x3 x4 x5)))
 else
 (some ((-1),())))
def l0 (k:Nat):Nat→T0
 | 0=>fun _ _ _ _ _ _=>none
 | n+1=>b0 k (l0 k n)
def t (k:Nat) (L0:T0) (a0:Ty.den a_) (a1:ByteArray):Rs :=
 (L0 a1 0 a0.1 a0.2.1 a0.2.2.1 a0.2.2.2.1)
def f (k:Nat):=t k (l0 k k)
end bT
namespace eG
abbrev Rs:Type:=Option ((Ty.den a_) × Int × Unit)
def t (k:Nat) (a0:Ty.den a_) (a1:ByteArray):Rs :=
 ((d_.f k a0).bind fun r1 =>
 (bif (r1.2.1 != 0) then
 (some r1)
 else
 ((eE.f k a1).bind fun r2 =>
 (bif (!r2.1) then
 (some (r1.1,(5,())))
 else
 ((bT.f k a0 a1).bind fun r3 =>
 (bif (decide (r3.1≥0)) then
 (some (r1.1,(4,())))
 else
 (bif (decide ((List.length a0.1:Int)≥130)) then
 (some (r1.1,(2,())))
 else
 ((b7.f k r1.1.1 (a1,(ByteArray.empty,(0,())))).bind fun r4 =>
 (some ((r4.1,r1.1.2),(0,())))))))))))
def f (k:Nat):=t k
end eG
namespace bq
abbrev Rs:Type:=Option ((Ty.den ai) × (Ty.den a_) × Unit)
abbrev T1:Type:=Int→ByteArray→Int→List Int→Int→Int→List (Ty.den aE)→Int→Int→Bool→List (Ty.den aE)→Int→Int→Bool→List Int→Int→List (Ty.den aC)→Rs
abbrev T0:Type:=Int→List Int→Int→Int→List (Ty.den aE)→Int→Int→Bool→List (Ty.den aE)→Int→Int→Bool→List Int→Int→Rs
def b1 (k:Nat) (L0:T0) (L1:T1):T1:=fun x0 x1 x2 x3 x4 x5 x6 x7 x8 x9 x10 x11 x12 x13 x14 x15 x16 =>
 (bif (decide (x2<(x16.length:Int))) then
 (ba x2 (x16.length:Int)
 ((bL.f k (List.getD x16 (Int.toNat x2) (Ty.dflt aC)).2.2.2.1).bind fun r6 =>
 ((d9.f k r6.1).bind fun r7 =>
 (jk x1 r7.1
 (L1 x0 (x1++r7.1) (aF (x2+1)) x3 x4 x5 x6 x7 x8 x9 x10 x11 x12 x13 x14 x15 x16)))))
 else
 ((bB.f k (x3,(x4,(x5,()))) 8).bind fun r8 =>
 (bif r8.2.1 then
 ((fS.f k r8.1 x1).bind fun r9 =>
 (ba x0 (x14.length:Int)
 ((aT.f k (List.getD x14 (Int.toNat x0) (Ty.dflt (.int .i64)))).bind fun r10 =>
 ((b7.f k x10 (r10.1,(r9.2.1,((ByteArray.size r9.2.1:Int),())))).bind fun r11 =>
 (ba x0 (x14.length:Int)
 ((cv.f k (List.getD x14 (Int.toNat x0) (Ty.dflt (.int .i64))) r9.2.1).bind fun r12 =>
 (bif r12.2.1 then
 ((bB.f k r9.1 3).bind fun r13 =>
 (bif (!r13.2.1) then
 ((cH.f k r12.1).bind fun r14 =>
 (ba x0 (x14.length:Int)
 ((bo.f k (List.getD x14 (Int.toNat x0) (Ty.dflt (.int .i64)))).bind fun r15 =>
 ((b7.f k r11.1 (r15.1,(r14.1,((ByteArray.size r14.1:Int),())))).bind fun r16 =>
 (L0 (aF (x0+1)) r13.1.1 r13.1.2.1 r13.1.2.2.1 x6 x7 x8 x9 r16.1 x11 x12 x13 x14 x15)))))
 else
 (L0 (aF (x0+1)) r13.1.1 r13.1.2.1 r13.1.2.2.1 x6 x7 x8 x9 r11.1 x11 x12 x13 x14 x15)))
 else
 (L0 (aF (x0+1)) r9.1.1 r9.1.2.1 r9.1.2.2.1 x6 x7 x8 x9 r11.1 x11 x12 x13 x14 x15))))))))
 else
 (ba x0 (x14.length:Int)
 ((aT.f k (List.getD x14 (Int.toNat x0) (Ty.dflt (.int .i64)))).bind fun r17 =>
 ((b7.f k x10 (r17.1,(x1,((ByteArray.size x1:Int),())))).bind fun r18 =>
 (ba x0 (x14.length:Int)
 ((cv.f k (List.getD x14 (Int.toNat x0) (Ty.dflt (.int .i64))) x1).bind fun r19 =>
 (bif r19.2.1 then
 ((bB.f k r8.1 3).bind fun r20 =>
 (bif (!r20.2.1) then
 ((cH.f k r19.1).bind fun r21 =>
 (ba x0 (x14.length:Int)
 ((bo.f k (List.getD x14 (Int.toNat x0) (Ty.dflt (.int .i64)))).bind fun r22 =>
 ((b7.f k r18.1 (r22.1,(r21.1,((ByteArray.size r21.1:Int),())))).bind fun r23 =>
 (L0 (aF (x0+1)) r20.1.1 r20.1.2.1 r20.1.2.2.1 x6 x7 x8 x9 r23.1 x11 x12 x13 x14 x15)))))
 else
 (L0 (aF (x0+1)) r20.1.1 r20.1.2.1 r20.1.2.2.1 x6 x7 x8 x9 r18.1 x11 x12 x13 x14 x15)))
 else
 (L0 (aF (x0+1)) r8.1.1 r8.1.2.1 r8.1.2.2.1 x6 x7 x8 x9 r18.1 x11 x12 x13 x14 x15))))))))))
def l1 (k:Nat) (L0:T0):Nat→T1
 | 0=>fun _ _ _ _ _ _ _ _ _ _ _ _ _ _ _ _ _=>none
 | n+1=>b1 k L0 (l1 k L0 n)
def b0 (k:Nat) (L1:T1) (L0:T0):T0:=fun x0 x1 x2 x3 x4 x5 x6 x7 x8 x9 x10 x11 x12 x13 =>
 (bif (decide (x0<(x12.length:Int))) then
 ((ab.f k (x1,(x2,(x3,())))).bind fun r3 =>
 (bif (x0==0) then
 ((bB.f k r3.1 3).bind fun r4 =>
 (bif r4.2.1 then
 ((dl.f k r4.1).bind fun r5 =>
 (L1 x0 r5.2.1 0 r5.1.1 r5.1.2.1 r5.1.2.2.1 x4 x5 x6 x7 x8 x9 x10 x11 x12 x13 []))
 else
 (L1 x0 (⟨#[]⟩:ByteArray) 0 r4.1.1 r4.1.2.1 r4.1.2.2.1 x4 x5 x6 x7 x8 x9 x10 x11 x12 x13 r3.2.1)))
 else
 (L1 x0 (⟨#[]⟩:ByteArray) 0 r3.1.1 r3.1.2.1 r3.1.2.2.1 x4 x5 x6 x7 x8 x9 x10 x11 x12 x13 r3.2.1)))
 else
 ((cR.f k (x13,(x12,()))).bind fun r24 =>
 ((aH.f k (x1,(x2,(x3,()))) 12).bind fun r25 =>
 (bif (r25.2.1==0) then
 ((fS.f k r25.1 r24.1).bind fun r26 =>
 ((b7.f k x8 ((⟨#[108,105,118,101]⟩:ByteArray),(r26.2.1,((ByteArray.size r26.2.1:Int),())))).bind fun r27 =>
 (some (r26.1,((r27.1,(x9,(x10,(x11,())))),())))))
 else
 (bif (r25.2.1==1) then
 ((aH.f k r25.1 (x8.length:Int)).bind fun r28 =>
 ((dk.f k x8 r28.2.1).bind fun r29 =>
 ((b7.f k r29.1 ((⟨#[108,105,118,101]⟩:ByteArray),(r24.1,((ByteArray.size r24.1:Int),())))).bind fun r30 =>
 (some (r28.1,((r30.1,(x9,(x10,(x11,())))),()))))))
 else
 (bif (r25.2.1==2) then
 ((eG.f k (x8,(x9,(x10,(x11,())))) (⟨#[115,101,103,57,57]⟩:ByteArray)).bind fun r31 =>
 ((b7.f k r31.1.1 ((⟨#[108,105,118,101]⟩:ByteArray),(r24.1,((ByteArray.size r24.1:Int),())))).bind fun r32 =>
 (some (r25.1,((r32.1,r31.1.2),())))))
 else
 (bif (r25.2.1==3) then
 (some (r25.1,((x8,(x9,(x10,(x11,())))),())))
 else
 (bif (r25.2.1==4) then
 ((aH.f k r25.1 6).bind fun r33 =>
 ((b7.f k x8 ((⟨#[108,105,118,101]⟩:ByteArray),(r24.1,((ByteArray.size r24.1:Int),())))).bind fun r34 =>
 (some (r33.1,((r34.1,(x9,(r33.2.1,(x11,())))),())))))
 else
 ((b7.f k x8 ((⟨#[108,105,118,101]⟩:ByteArray),(r24.1,((ByteArray.size r24.1:Int),())))).bind fun r35 =>
 (some (r25.1,((r35.1,(x9,(x10,(x11,())))),()))))))))))))
def l0 (k:Nat):Nat→T0
 | 0=>fun _ _ _ _ _ _ _ _ _ _ _ _ _ _=>none
 | n+1=>b0 k (l1 k (l0 k n) k) (l0 k n)
def t (k:Nat) (L0:T0) (a0:Ty.den ai):Rs :=
 ((eM.f k 100000).bind fun r1 =>
 ((gJ.f k a0).bind fun r2 =>
 (L0 0 r2.1.1 r2.1.2.1 r2.1.2.2.1 [] 0 0 false r1.1.1 r1.1.2.1 r1.1.2.2.1 r1.1.2.2.2.1 r2.2.1.2.1 r2.2.1.1)))
def f (k:Nat):=t k (l0 k k)
end bq
namespace ch
abbrev Rs:Type:=Option ((Ty.den ai) × Int × Unit)
def t (k:Nat) (a0:Ty.den ai) (a1:List Int):Rs :=
 ((aH.f k a0 (List.length a1:Int)).bind fun r1 =>
 (ba r1.2.1 (List.length a1:Int)
 (some (r1.1,((List.getD a1 (Int.toNat r1.2.1) (Ty.dflt (.int .i64))),())))))
def f (k:Nat):=t k
end ch
namespace bI
abbrev Rs:Type:=Option (ByteArray × Bool × Unit)
def t (k:Nat) (a0:Ty.den a_) (a1:ByteArray):Rs :=
 ((bH.f k a0).bind fun r1 =>
 (bif (!r1.1) then
 (some ((⟨#[]⟩:ByteArray),(false,())))
 else
 ((bT.f k a0 a1).bind fun r2 =>
 (bif (decide (r2.1<0)) then
 (some ((⟨#[]⟩:ByteArray),(false,())))
 else
 (ba r2.1 (List.length a0.1:Int)
 (some ((List.getD a0.1 (Int.toNat r2.1) (Ty.dflt aE)).2.1,(true,()))))))))
def f (k:Nat):=t k
end bI
namespace f_
abbrev Rs:Type:=Option (Int × Bool × Unit)
abbrev T0:Type:=ByteArray→Int→Int→Int→Rs
def b0 (k:Nat) (L0:T0):T0:=fun x0 x1 x2 x3 =>
 (bif (decide (x3<(ByteArray.size x0:Int))) then
 (bif (decide (x3<11)) then
 (ba x3 (ByteArray.size x0:Int)
 (bif (decide ((da x0 x3)≥48)) then
 (ba x3 (ByteArray.size x0:Int)
 (bif (decide ((da x0 x3)≤57)) then
 (ba x3 (ByteArray.size x0:Int)
 (L0 x0 (aF ((aF (x1*10))+(aF (IntKind.wrap .u8 ((da x0 x3)-48))))) (aF (x2+1)) (aF (x3+1))))
 else
 (L0 x0 x1 x2 (aF (x3+1)))))
 else
 (L0 x0 x1 x2 (aF (x3+1)))))
 else
 (bif (decide ((ByteArray.size x0:Int) > 0)) then
 (ba 0 (ByteArray.size x0:Int)
 (bif ((da x0 0)==45) then
 (bif (decide (x2 > 9)) then
 (some (0,(false,())))
 else
 (bif (decide ((ByteArray.size x0:Int) > 10)) then
 (some (0,(false,())))
 else
 ((dZ.f k (aF (0-x1))).bind fun r1 =>
 (bif (!(seq r1.1 x0)) then
 (some (0,(false,())))
 else
 (some ((aF (0-x1)),(true,())))))))
 else
 (bif (decide (x2 > 9)) then
 (some (0,(false,())))
 else
 (bif (decide ((ByteArray.size x0:Int) > 10)) then
 (some (0,(false,())))
 else
 ((dZ.f k x1).bind fun r2 =>
 (bif (!(seq r2.1 x0)) then
 (some (0,(false,())))
 else
 (some (x1,(true,())))))))))
 else
 (bif (decide (x2 > 9)) then
 (some (0,(false,())))
 else
 (bif (decide ((ByteArray.size x0:Int) > 10)) then
 (some (0,(false,())))
 else
 ((dZ.f k x1).bind fun r3 =>
 (bif (!(seq r3.1 x0)) then
 (some (0,(false,())))
 else
 (some (x1,(true,())))))))))
 else
 (bif (decide ((ByteArray.size x0:Int) > 0)) then
 (ba 0 (ByteArray.size x0:Int)
 (bif ((da x0 0)==45) then
 (bif (decide (x2 > 9)) then
 (some (0,(false,())))
 else
 (bif (decide ((ByteArray.size x0:Int) > 10)) then
 (some (0,(false,())))
 else
 ((dZ.f k (aF (0-x1))).bind fun r4 =>
 (bif (!(seq r4.1 x0)) then
 (some (0,(false,())))
 else
 (some ((aF (0-x1)),(true,())))))))
 else
 (bif (decide (x2 > 9)) then
 (some (0,(false,())))
 else
 (bif (decide ((ByteArray.size x0:Int) > 10)) then
 (some (0,(false,())))
 else
 ((dZ.f k x1).bind fun r5 =>
 (bif (!(seq r5.1 x0)) then
 (some (0,(false,())))
 else
 (some (x1,(true,())))))))))
 else
 (bif (decide (x2 > 9)) then
 (some (0,(false,())))
 else
 (bif (decide ((ByteArray.size x0:Int) > 10)) then
 (some (0,(false,())))
 else
 ((dZ.f k x1).bind fun r6 =>
 (bif (!(seq r6.1 x0)) then
 (some (0,(false,())))
 else
 (some (x1,(true,())))))))))
def l0 (k:Nat):Nat→T0
 | 0=>fun _ _ _ _=>none
 | n+1=>b0 k (l0 k n)
def t (k:Nat) (L0:T0) (a0:ByteArray):Rs :=
 (L0 a0 0 0 0)
def f (k:Nat):=t k (l0 k k)
end f_
namespace iB
abbrev Rs:Type:=Option (Int × Bool × Unit)
abbrev T0:Type:=ByteArray→Int→Rs
def b0 (k:Nat) (L0:T0):T0:=fun x0 x1 =>
 (bif (decide (x1≤4)) then
 (bif (decide ((ByteArray.size x0:Int) > x1)) then
 (mj x1 (ByteArray.size x0:Int)
 ((f_.f k (ByteArray.extract x0 (Int.toNat x1) (ByteArray.size x0))).bind fun r1 =>
 (bif r1.2.1 then
 (bif (decide (r1.1≥1)) then
 ((aT.f k r1.1).bind fun r2 =>
 (bif (seq r2.1 x0) then
 (some (r1.1,(true,())))
 else
 ((bo.f k r1.1).bind fun r3 =>
 (bif (seq r3.1 x0) then
 (some (r1.1,(true,())))
 else
 (L0 x0 (aF (x1+1)))))))
 else
 (L0 x0 (aF (x1+1))))
 else
 (L0 x0 (aF (x1+1))))))
 else
 (L0 x0 (aF (x1+1))))
 else
 (some (0,(false,()))))
def l0 (k:Nat):Nat→T0
 | 0=>fun _ _=>none
 | n+1=>b0 k (l0 k n)
def t (k:Nat) (L0:T0) (a0:ByteArray):Rs :=
 (L0 a0 3)
def f (k:Nat):=t k (l0 k k)
end iB
namespace bS
abbrev Rs:Type:=Option ((List ByteArray) × Unit)
abbrev T1:Type:=Int→Int→Bool→Bool→Int→List (Ty.den aE)→Int→Int→Bool→Int→List Int→List ByteArray→Rs
abbrev T0:Type:=Int→List (Ty.den aE)→Int→Int→Bool→Int→List Int→List ByteArray→Rs
def b1 (k:Nat) (L0:T0) (L1:T1):T1:=fun x0 x1 x2 x3 x4 x5 x6 x7 x8 x9 x10 x11 =>
 (bif (decide (x4<(x10.length:Int))) then
 (bif x3 then
 (L1 x0 x1 x2 true (aF (x4+1)) x5 x6 x7 x8 x9 x10 x11)
 else
 (ba x4 (x10.length:Int)
 (L1 x0 x1 x2 ((List.getD x10 (Int.toNat x4) (Ty.dflt (.int .i64)))==x1) (aF (x4+1)) x5 x6 x7 x8 x9 x10 x11)))
 else
 (bif x2 then
 (bif (!x3) then
 (ba x0 (x5.length:Int)
 (rm (Ty.bytes .str) (List.length x11+1)
 (L0 (aF (x0+1)) x5 x6 x7 x8 x9 x10 (x11++[(List.getD x5 (Int.toNat x0) (Ty.dflt aE)).1]))))
 else
 (ba x0 (x5.length:Int)
 (bif (seq (List.getD x5 (Int.toNat x0) (Ty.dflt aE)).1 (⟨#[116,101,109,112]⟩:ByteArray)) then
 (ba x0 (x5.length:Int)
 (rm (Ty.bytes .str) (List.length x11+1)
 (L0 (aF (x0+1)) x5 x6 x7 x8 x9 x10 (x11++[(List.getD x5 (Int.toNat x0) (Ty.dflt aE)).1]))))
 else
 (L0 (aF (x0+1)) x5 x6 x7 x8 x9 x10 x11))))
 else
 (ba x0 (x5.length:Int)
 (bif (seq (List.getD x5 (Int.toNat x0) (Ty.dflt aE)).1 (⟨#[116,101,109,112]⟩:ByteArray)) then
 (ba x0 (x5.length:Int)
 (rm (Ty.bytes .str) (List.length x11+1)
 (L0 (aF (x0+1)) x5 x6 x7 x8 x9 x10 (x11++[(List.getD x5 (Int.toNat x0) (Ty.dflt aE)).1]))))
 else
 (L0 (aF (x0+1)) x5 x6 x7 x8 x9 x10 x11)))))
def l1 (k:Nat) (L0:T0):Nat→T1
 | 0=>fun _ _ _ _ _ _ _ _ _ _ _ _=>none
 | n+1=>b1 k L0 (l1 k L0 n)
def b0 (k:Nat) (L1:T1) (L0:T0):T0:=fun x0 x1 x2 x3 x4 x5 x6 x7 =>
 (bif (decide (x0<(x1.length:Int))) then
 (ba x0 (x1.length:Int)
 ((iB.f k (List.getD x1 (Int.toNat x0) (Ty.dflt aE)).1).bind fun r2 =>
 (L1 x0 r2.1 r2.2.1 false 0 x1 x2 x3 x4 x5 x6 x7)))
 else
 (some (x7,())))
def l0 (k:Nat):Nat→T0
 | 0=>fun _ _ _ _ _ _ _ _=>none
 | n+1=>b0 k (l1 k (l0 k n) k) (l0 k n)
def t (k:Nat) (L0:T0) (a0:Ty.den a_) (a1:Ty.den bA):Rs :=
 ((bH.f k a0).bind fun r1 =>
 (bif (!r1.1) then
 (some ([],()))
 else
 (L0 0 a0.1 a0.2.1 a0.2.2.1 a0.2.2.2.1 a1.1 a1.2.1 [])))
def f (k:Nat):=t k (l0 k k)
end bS
namespace gW
abbrev Rs:Type:=Option ((Ty.den a_) × Int × Unit)
def t (k:Nat) (a0:Ty.den a_) (a1:ByteArray):Rs :=
 ((d_.f k a0).bind fun r1 =>
 (bif (r1.2.1 != 0) then
 (some r1)
 else
 ((bT.f k a0 a1).bind fun r2 =>
 (bif (decide (r2.1<0)) then
 (some (r1.1,(3,())))
 else
 ((dk.f k r1.1.1 r2.1).bind fun r3 =>
 (some ((r3.1,r1.1.2),(0,()))))))))
def f (k:Nat):=t k
end gW
namespace aY
abbrev Rs:Type:=Option (Int × Unit)
def t (k:Nat) (a0:Int):Rs :=
 (bif (a0==0) then
 (some (0,()))
 else
 (bif (a0==1) then
 (some (1,()))
 else
 (bif (a0==2) then
 (some (2,()))
 else
 (some (3,())))))
def f (k:Nat):=t k
end aY
namespace dr
abbrev Rs:Type:=Option ((Ty.den a_) × Int × Unit)
def t (k:Nat) (a0:Ty.den a_) (a1:ByteArray):Rs :=
 ((bT.f k a0 a1).bind fun r1 =>
 (bif (decide (r1.1≥0)) then
 ((gW.f k a0 a1).bind fun r2 =>
 (bif (r2.2.1 != 0) then
 (some r2)
 else
 ((eG.f k r2.1 a1).bind fun r3 =>
 (some r3))))
 else
 ((eG.f k a0 a1).bind fun r4 =>
 (some r4))))
def f (k:Nat):=t k
end dr
namespace cI
abbrev Rs:Type:=Option ((Ty.den a_) × Int × Unit)
def t (k:Nat) (a0:Ty.den a_) (a1:ByteArray) (a2:ByteArray):Rs :=
 ((d_.f k a0).bind fun r1 =>
 (bif (r1.2.1 != 0) then
 (some r1)
 else
 ((bT.f k a0 a1).bind fun r2 =>
 (bif (decide (r2.1<0)) then
 (some (r1.1,(3,())))
 else
 ((db.f k a0).bind fun r3 =>
 (bif (decide ((ByteArray.size a2:Int) > (aF (a0.2.1-r3.1)))) then
 (some (r1.1,(2,())))
 else
 (ba r2.1 (List.length a0.1:Int)
 (jk (List.getD a0.1 (Int.toNat r2.1) (Ty.dflt aE)).2.1 a2
 (ba r2.1 (List.length r1.1.1:Int)
 (let l4:=(List.set r1.1.1 (Int.toNat r2.1) ((List.getD r1.1.1 (Int.toNat r2.1) (Ty.dflt aE)).1,(((List.getD a0.1 (Int.toNat r2.1) (Ty.dflt aE)).2.1++a2),(List.getD r1.1.1 (Int.toNat r2.1) (Ty.dflt aE)).2.2)));
 (some ((l4,r1.1.2),(0,())))))))))))))
def f (k:Nat):=t k
end cI
namespace cy
abbrev Rs:Type:=Option ((Ty.den a_) × Int × Unit)
def t (k:Nat) (a0:Ty.den a_) (a1:ByteArray):Rs :=
 ((d_.f k a0).bind fun r1 =>
 (bif (r1.2.1 != 0) then
 (some r1)
 else
 ((bT.f k a0 a1).bind fun r2 =>
 (bif (decide (r2.1<0)) then
 (some (r1.1,(3,())))
 else
 (ba r2.1 (List.length a0.1:Int)
 (ba r2.1 (List.length r1.1.1:Int)
 (let l3:=(List.set r1.1.1 (Int.toNat r2.1) ((List.getD r1.1.1 (Int.toNat r2.1) (Ty.dflt aE)).1,((List.getD r1.1.1 (Int.toNat r2.1) (Ty.dflt aE)).2.1,((ByteArray.size (List.getD a0.1 (Int.toNat r2.1) (Ty.dflt aE)).2.1:Int),(List.getD r1.1.1 (Int.toNat r2.1) (Ty.dflt aE)).2.2.2))));
 (some ((l3,r1.1.2),(0,()))))))))))
def f (k:Nat):=t k
end cy
namespace h_
abbrev Rs:Type:=Option ((Ty.den a_) × Int × Unit)
def t (k:Nat) (a0:Ty.den a_) (a1:ByteArray) (a2:ByteArray):Rs :=
 ((dr.f k a0 a1).bind fun r1 =>
 (bif (r1.2.1==0) then
 ((cI.f k r1.1 a1 a2).bind fun r2 =>
 (bif (r2.2.1==0) then
 ((cy.f k r2.1 a1).bind fun r3 =>
 (some r3))
 else
 (some r2)))
 else
 (bif (r1.2.1==0) then
 ((cy.f k r1.1 a1).bind fun r4 =>
 (some r4))
 else
 (some r1))))
def f (k:Nat):=t k
end h_
namespace fb
abbrev Rs:Type:=Option ((Ty.den a_) × Int × Unit)
def t (k:Nat) (a0:Ty.den a_) (a1:ByteArray) (a2:ByteArray):Rs :=
 ((d_.f k a0).bind fun r1 =>
 (bif (r1.2.1 != 0) then
 (some r1)
 else
 ((eE.f k a2).bind fun r2 =>
 (bif (!r2.1) then
 (some (r1.1,(5,())))
 else
 ((bT.f k a0 a1).bind fun r3 =>
 (bif (decide (r3.1<0)) then
 (some (r1.1,(3,())))
 else
 (bif (seq a1 a2) then
 (some (r1.1,(0,())))
 else
 (ba r3.1 (List.length a0.1:Int)
 ((dk.f k r1.1.1 r3.1).bind fun r4 =>
 ((bT.f k (r4.1,r1.1.2) a2).bind fun r5 =>
 (bif (decide (r5.1≥0)) then
 ((dk.f k r4.1 r5.1).bind fun r6 =>
 ((b7.f k r6.1 (a2,(List.getD a0.1 (Int.toNat r3.1) (Ty.dflt aE)).2)).bind fun r7 =>
 (some ((r7.1,r1.1.2),(0,())))))
 else
 ((b7.f k r4.1 (a2,(List.getD a0.1 (Int.toNat r3.1) (Ty.dflt aE)).2)).bind fun r8 =>
 (some ((r8.1,r1.1.2),(0,())))))))))))))))
def f (k:Nat):=t k
end fb
namespace f8
abbrev Rs:Type:=Option ((Ty.den a_) × Int × Unit)
def t (k:Nat) (a0:Ty.den a_) (a1:Ty.den bA):Rs :=
 ((bH.f k a0).bind fun r1 =>
 (bif (!r1.1) then
 ((cU.f k a0).bind fun r2 =>
 (some (r2.1,(4,()))))
 else
 ((dK.f k a1).bind fun r3 =>
 (bif (!r3.1) then
 ((cU.f k a0).bind fun r4 =>
 (some (r4.1,(4,()))))
 else
 ((cR.f k a1).bind fun r5 =>
 ((h_.f k a0 (⟨#[116,101,109,112]⟩:ByteArray) r5.1).bind fun r6 =>
 (bif (r6.2.1==0) then
 ((fb.f k r6.1 (⟨#[116,101,109,112]⟩:ByteArray) (⟨#[108,105,118,101]⟩:ByteArray)).bind fun r7 =>
 ((aY.f k r7.2.1).bind fun r8 =>
 (some (r7.1,r8))))
 else
 ((aY.f k r6.2.1).bind fun r9 =>
 (some (r6.1,r9))))))))))
def f (k:Nat):=t k
end f8
namespace bQ
abbrev Rs:Type:=Option ((Ty.den bA) × Bool × Unit)
abbrev T0:Type:=ByteArray→ByteArray→Int→Int→Int→List Int→Int→List Int→Int→Rs
def b0 (k:Nat) (L0:T0):T0:=fun x0 x1 x2 x3 x4 x5 x6 x7 x8 =>
 (bif (decide (x4<x2)) then
 (bif (decide (x4<60)) then
 (mj x3 (ByteArray.size x1:Int)
 ((aj.f k (ByteArray.extract x1 (Int.toNat x3) (ByteArray.size x1))).bind fun r4 =>
 (rm (Ty.bytes (.int .i64)) (List.length x7+1)
 (L0 x0 x1 x2 (aF (x3+r4.2.1)) (aF (x4+1)) x5 x6 (x7++[r4.1]) x8))))
 else
 ((cR.f k (x8,(x7,()))).bind fun r5 =>
 (bif (!(seq r5.1 x0)) then
 (some ((0,([],())),(false,())))
 else
 (some ((x8,(x7,())),(true,()))))))
 else
 ((cR.f k (x8,(x7,()))).bind fun r6 =>
 (bif (!(seq r6.1 x0)) then
 (some ((0,([],())),(false,())))
 else
 (some ((x8,(x7,())),(true,()))))))
def l0 (k:Nat):Nat→T0
 | 0=>fun _ _ _ _ _ _ _ _ _=>none
 | n+1=>b0 k (l0 k n)
def t (k:Nat) (L0:T0) (a0:ByteArray):Rs :=
 ((dh.f k a0).bind fun r1 =>
 ((aj.f k r1.1).bind fun r2 =>
 (bif (r1.2.1 != (ByteArray.size a0:Int)) then
 (some ((0,([],())),(false,())))
 else
 (bif (r1.2.1==0) then
 (some ((0,([],())),(false,())))
 else
 (bif (r2.2.1==0) then
 (some ((0,([],())),(false,())))
 else
 (mj r2.2.1 (ByteArray.size r1.1:Int)
 ((aj.f k (ByteArray.extract r1.1 (Int.toNat r2.2.1) (ByteArray.size r1.1))).bind fun r3 =>
 (L0 a0 r1.1 r3.1 (aF (r2.2.1+r3.2.1)) 0 [] 0 [] r2.1))))))))
def f (k:Nat):=t k (l0 k k)
end bQ
namespace iU
abbrev Rs:Type:=Option ((Ty.den a_) × Int × Unit)
def t (k:Nat) (a0:Ty.den a_) (a1:ByteArray) (a2:Int):Rs :=
 ((d_.f k a0).bind fun r1 =>
 (bif (r1.2.1 != 0) then
 (some r1)
 else
 ((bT.f k a0 a1).bind fun r2 =>
 (bif (decide (r2.1<0)) then
 (some (r1.1,(3,())))
 else
 (ba r2.1 (List.length a0.1:Int)
 ((aX.f k a2 0 (ByteArray.size (List.getD a0.1 (Int.toNat r2.1) (Ty.dflt aE)).2.1:Int)).bind fun r3 =>
 (bif (!r3.1) then
 (some (r1.1,(5,())))
 else
 (ba r2.1 (List.length a0.1:Int)
 (mj a2 (ByteArray.size (List.getD a0.1 (Int.toNat r2.1) (Ty.dflt aE)).2.1:Int)
 (ba r2.1 (List.length r1.1.1:Int)
 (let l4:=(List.set r1.1.1 (Int.toNat r2.1) ((List.getD r1.1.1 (Int.toNat r2.1) (Ty.dflt aE)).1,((ByteArray.extract (List.getD a0.1 (Int.toNat r2.1) (Ty.dflt aE)).2.1 0 (Int.toNat a2)),(List.getD r1.1.1 (Int.toNat r2.1) (Ty.dflt aE)).2.2)));
 (ba r2.1 (List.length a0.1:Int)
 (ba r2.1 (List.length l4:Int)
 (let l5:=(List.set l4 (Int.toNat r2.1) ((List.getD l4 (Int.toNat r2.1) (Ty.dflt aE)).1,((List.getD l4 (Int.toNat r2.1) (Ty.dflt aE)).2.1,((if a2<(List.getD a0.1 (Int.toNat r2.1) (Ty.dflt aE)).2.2.1 then a2 else (List.getD a0.1 (Int.toNat r2.1) (Ty.dflt aE)).2.2.1),(List.getD l4 (Int.toNat r2.1) (Ty.dflt aE)).2.2.2))));
 (some ((l5,r1.1.2),(0,())))))))))))))))))
def f (k:Nat):=t k
end iU
namespace bm
abbrev Rs:Type:=Option ((List Int) × Int × Unit)
abbrev T0:Type:=ByteArray→Int→Int→Int→List Int→Rs
def b0 (k:Nat) (L0:T0):T0:=fun x0 x1 x2 x3 x4 =>
 (bif (decide (x3<x2)) then
 (mj x1 (ByteArray.size x0:Int)
 ((aj.f k (ByteArray.extract x0 (Int.toNat x1) (ByteArray.size x0))).bind fun r1 =>
 (bif (r1.2.1==0) then
 (Jp (Ty.bytes (.int .i64)) x2
 (some ((List.replicate (Int.toNat x2) (Ty.dflt (.int .i64))),((-1),()))))
 else
 (rm (Ty.bytes (.int .i64)) (List.length x4+1)
 (L0 x0 (aF (x1+r1.2.1)) x2 (aF (x3+1)) (x4++[r1.1]))))))
 else
 (some (x4,(x1,()))))
def l0 (k:Nat):Nat→T0
 | 0=>fun _ _ _ _ _=>none
 | n+1=>b0 k (l0 k n)
def t (k:Nat) (L0:T0) (a0:ByteArray) (a1:Int) (a2:Int):Rs :=
 (L0 a0 a1 a2 0 [])
def f (k:Nat):=t k (l0 k k)
end bm
namespace bZ
abbrev Rs:Type:=Option ((Ty.den dc) × Bool × Unit)
abbrev T0:Type:=ByteArray→Int→Int→List (Ty.den aA)→Int→Int→List Int→List (Ty.den aA)→Int→Int→Rs
def b0 (k:Nat) (L0:T0):T0:=fun x0 x1 x2 x3 x4 x5 x6 x7 x8 x9 =>
 (ba 2 (x6.length:Int)
 (bif (decide (x2<(List.getD x6 2 (Ty.dflt (.int .i64))))) then
 (mj x1 (ByteArray.size x0:Int)
 ((cV.f k (ByteArray.extract x0 (Int.toNat x1) (ByteArray.size x0))).bind fun r2 =>
 ((bm.f k r2.2.1 0 4).bind fun r3 =>
 (bif (!r2.2.2.1) then
 (some ((0,(0,([],()))),(false,())))
 else
 (bif (decide (r3.2.1<0)) then
 (some ((0,(0,([],()))),(false,())))
 else
 (ba 0 (List.length r3.1:Int)
 (ba 1 (List.length r3.1:Int)
 (ba 2 (List.length r3.1:Int)
 (ba 3 (List.length r3.1:Int)
 (rm (Ty.bytes aA) (List.length x7+1)
 (L0 x0 (aF ((aF ((ByteArray.size x0:Int)-(ByteArray.size r2.2.1:Int)))+r3.2.1)) (aF (x2+1)) x3 x4 x5 x6 (x7++[(r2.1,((List.getD r3.1 0 (Ty.dflt (.int .i64))),((List.getD r3.1 1 (Ty.dflt (.int .i64))),((List.getD r3.1 2 (Ty.dflt (.int .i64))),((List.getD r3.1 3 (Ty.dflt (.int .i64))),())))))]) x8 x9)))))))))))
 else
 ((cH.f k (x8,(x9,(x7,())))).bind fun r4 =>
 (bif (!(seq r4.1 x0)) then
 (some ((0,(0,([],()))),(false,())))
 else
 (some ((x8,(x9,(x7,()))),(true,())))))))
def l0 (k:Nat):Nat→T0
 | 0=>fun _ _ _ _ _ _ _ _ _ _=>none
 | n+1=>b0 k (l0 k n)
def t (k:Nat) (L0:T0) (a0:ByteArray):Rs :=
 (bif (decide ((ByteArray.size a0:Int)<4)) then
 (some ((0,(0,([],()))),(false,())))
 else
 ((bm.f k a0 4 3).bind fun r1 =>
 (bif (decide (r1.2.1<0)) then
 (some ((0,(0,([],()))),(false,())))
 else
 (ba 2 (List.length r1.1:Int)
 (bif (decide ((List.getD r1.1 2 (Ty.dflt (.int .i64))) > 20)) then
 (some ((0,(0,([],()))),(false,())))
 else
 (ba 0 (List.length r1.1:Int)
 (ba 1 (List.length r1.1:Int)
 (L0 a0 r1.2.1 0 [] 0 0 r1.1 [] (List.getD r1.1 0 (Ty.dflt (.int .i64))) (List.getD r1.1 1 (Ty.dflt (.int .i64)))))))))))
def f (k:Nat):=t k (l0 k k)
end bZ
namespace fP
abbrev Rs:Type:=Option (Bool × Unit)
abbrev T0:Type:=List (Ty.den aA)→List (Ty.den aA)→Int→Rs
def b0 (k:Nat) (L0:T0):T0:=fun x0 x1 x2 =>
 (bif (decide (x2<(x0.length:Int))) then
 (ba x2 (x0.length:Int)
 (ba x2 (x1.length:Int)
 (bif (!((seq (List.getD x0 (Int.toNat x2) (Ty.dflt aA)).1 (List.getD x1 (Int.toNat x2) (Ty.dflt aA)).1)&&(((List.getD x0 (Int.toNat x2) (Ty.dflt aA)).2.1==(List.getD x1 (Int.toNat x2) (Ty.dflt aA)).2.1)&&(((List.getD x0 (Int.toNat x2) (Ty.dflt aA)).2.2.1==(List.getD x1 (Int.toNat x2) (Ty.dflt aA)).2.2.1)&&(((List.getD x0 (Int.toNat x2) (Ty.dflt aA)).2.2.2.1==(List.getD x1 (Int.toNat x2) (Ty.dflt aA)).2.2.2.1)&&((List.getD x0 (Int.toNat x2) (Ty.dflt aA)).2.2.2.2.1==(List.getD x1 (Int.toNat x2) (Ty.dflt aA)).2.2.2.2.1)))))) then
 (some (false,()))
 else
 (L0 x0 x1 (aF (x2+1))))))
 else
 (some (true,())))
def l0 (k:Nat):Nat→T0
 | 0=>fun _ _ _=>none
 | n+1=>b0 k (l0 k n)
def t (k:Nat) (L0:T0) (a0:List (Ty.den aA)) (a1:List (Ty.den aA)):Rs :=
 (bif ((List.length a0:Int) != (List.length a1:Int)) then
 (some (false,()))
 else
 (L0 a0 a1 0))
def f (k:Nat):=t k (l0 k k)
end fP
namespace gu
abbrev Rs:Type:=Option (Bool × Unit)
def t (k:Nat) (a0:Int) (a1:ByteArray) (a2:Ty.den dc):Rs :=
 ((cv.f k a0 a1).bind fun r1 =>
 (bif r1.2.1 then
 (bif (r1.1.1==a2.1) then
 (bif (r1.1.2.1==a2.2.1) then
 ((fP.f k r1.1.2.2.1 a2.2.2.1).bind fun r2 =>
 (some r2))
 else
 (some (false,())))
 else
 (some (false,())))
 else
 (some (false,()))))
def f (k:Nat):=t k
end gu
namespace bD
abbrev Rs:Type:=Option ((List (Ty.den aC)) × Unit)
abbrev T0:Type:=Int→Int→List (Ty.den aC)→List (Ty.den bM)→Rs
def b0 (k:Nat) (L0:T0):T0:=fun x0 x1 x2 x3 =>
 (bif (decide (x1<(x3.length:Int))) then
 (ba x1 (x3.length:Int)
 (ba x1 (x3.length:Int)
 (ba x1 (x3.length:Int)
 (rm (Ty.bytes aC) (List.length x2+1)
 (L0 x0 (aF (x1+1)) (x2++[(x0,((List.getD x3 (Int.toNat x1) (Ty.dflt bM)).1,((List.getD x3 (Int.toNat x1) (Ty.dflt bM)).2.1,(List.getD x3 (Int.toNat x1) (Ty.dflt bM)).2.2)))]) x3)))))
 else
 (some (x2,())))
def l0 (k:Nat):Nat→T0
 | 0=>fun _ _ _ _=>none
 | n+1=>b0 k (l0 k n)
def t (k:Nat) (L0:T0) (a0:Int) (a1:ByteArray):Rs :=
 ((bW.f k a1).bind fun r1 =>
 (L0 a0 0 [] r1.1))
def f (k:Nat):=t k (l0 k k)
end bD
namespace gj
abbrev Rs:Type:=Option ((List (Ty.den aC)) × Unit)
abbrev T0:Type:=List (Ty.den aC)→Int→Int→Int→List (Ty.den aC)→Rs
def b0 (k:Nat) (L0:T0):T0:=fun x0 x1 x2 x3 x4 =>
 (bif (decide (x3<x1)) then
 (ba x3 (x0.length:Int)
 (bif ((List.getD x0 (Int.toNat x3) (Ty.dflt aC)).2.2.2.1.2.1==x2) then
 (bif ((List.getD x0 (Int.toNat x3) (Ty.dflt aC)).2.2.2.1.1==3) then
 (bif ((List.getD x0 (Int.toNat x3) (Ty.dflt aC)).2.2.2.1.2.1==x2) then
 (bif ((List.getD x0 (Int.toNat x3) (Ty.dflt aC)).2.2.2.1.1==1) then
 (ba x3 (x0.length:Int)
 (rm (Ty.bytes aC) (0+1)
 (L0 x0 x1 x2 (aF (x3+1)) ([]++[(List.getD x0 (Int.toNat x3) (Ty.dflt aC))]))))
 else
 (bif ((List.getD x0 (Int.toNat x3) (Ty.dflt aC)).2.2.2.1.1==2) then
 (ba x3 (x0.length:Int)
 (rm (Ty.bytes aC) (0+1)
 (L0 x0 x1 x2 (aF (x3+1)) ([]++[(List.getD x0 (Int.toNat x3) (Ty.dflt aC))]))))
 else
 (L0 x0 x1 x2 (aF (x3+1)) [])))
 else
 (L0 x0 x1 x2 (aF (x3+1)) []))
 else
 (bif ((List.getD x0 (Int.toNat x3) (Ty.dflt aC)).2.2.2.1.2.1==x2) then
 (bif ((List.getD x0 (Int.toNat x3) (Ty.dflt aC)).2.2.2.1.1==1) then
 (ba x3 (x0.length:Int)
 (rm (Ty.bytes aC) (List.length x4+1)
 (L0 x0 x1 x2 (aF (x3+1)) (x4++[(List.getD x0 (Int.toNat x3) (Ty.dflt aC))]))))
 else
 (bif ((List.getD x0 (Int.toNat x3) (Ty.dflt aC)).2.2.2.1.1==2) then
 (ba x3 (x0.length:Int)
 (rm (Ty.bytes aC) (List.length x4+1)
 (L0 x0 x1 x2 (aF (x3+1)) (x4++[(List.getD x0 (Int.toNat x3) (Ty.dflt aC))]))))
 else
 (L0 x0 x1 x2 (aF (x3+1)) x4)))
 else
 (L0 x0 x1 x2 (aF (x3+1)) x4)))
 else
 (bif ((List.getD x0 (Int.toNat x3) (Ty.dflt aC)).2.2.2.1.2.1==x2) then
 (bif ((List.getD x0 (Int.toNat x3) (Ty.dflt aC)).2.2.2.1.1==1) then
 (ba x3 (x0.length:Int)
 (rm (Ty.bytes aC) (List.length x4+1)
 (L0 x0 x1 x2 (aF (x3+1)) (x4++[(List.getD x0 (Int.toNat x3) (Ty.dflt aC))]))))
 else
 (bif ((List.getD x0 (Int.toNat x3) (Ty.dflt aC)).2.2.2.1.1==2) then
 (ba x3 (x0.length:Int)
 (rm (Ty.bytes aC) (List.length x4+1)
 (L0 x0 x1 x2 (aF (x3+1)) (x4++[(List.getD x0 (Int.toNat x3) (Ty.dflt aC))]))))
 else
 (L0 x0 x1 x2 (aF (x3+1)) x4)))
 else
 (L0 x0 x1 x2 (aF (x3+1)) x4))))
 else
 (some (x4,())))
def l0 (k:Nat):Nat→T0
 | 0=>fun _ _ _ _ _=>none
 | n+1=>b0 k (l0 k n)
def t (k:Nat) (L0:T0) (a0:List (Ty.den aC)) (a1:Int) (a2:Int):Rs :=
 (L0 a0 a1 a2 0 [])
def f (k:Nat):=t k (l0 k k)
end gj
namespace gI
abbrev Rs:Type:=Option ((List (Ty.den bU)) × Unit)
abbrev T0:Type:=List (Ty.den aC)→Int→List (Ty.den bU)→Rs
def b0 (k:Nat) (L0:T0):T0:=fun x0 x1 x2 =>
 (bif (decide (x1<(x0.length:Int))) then
 (ba x1 (x0.length:Int)
 (rm (Ty.bytes bU) (List.length x2+1)
 (L0 x0 (aF (x1+1)) (x2++[(List.getD x0 (Int.toNat x1) (Ty.dflt aC)).2.2.2.1]))))
 else
 (some (x2,())))
def l0 (k:Nat):Nat→T0
 | 0=>fun _ _ _=>none
 | n+1=>b0 k (l0 k n)
def t (k:Nat) (L0:T0) (a0:List (Ty.den aC)):Rs :=
 (L0 a0 0 [])
def f (k:Nat):=t k (l0 k k)
end gI
namespace i6
abbrev Rs:Type:=Option (Bool × Unit)
def t (k:Nat) (a0:Ty.den bU) (a1:List (Ty.den aC)):Rs :=
 (bif (a0.2.2.2.2.1==(List.length a1:Int)) then
 ((gI.f k a1).bind fun r1 =>
 ((g9.f k r1.1).bind fun r2 =>
 (some ((a0.2.2.2.2.2.1==r2.1),()))))
 else
 (some (false,())))
def f (k:Nat):=t k
end i6
namespace dA
abbrev Rs:Type:=Option ((List (Ty.den aA)) × Unit)
abbrev T0:Type:=List (Ty.den aA)→ByteArray→Int→List (Ty.den aA)→Rs
def b0 (k:Nat) (L0:T0):T0:=fun x0 x1 x2 x3 =>
 (bif (decide (x2<(x0.length:Int))) then
 (ba x2 (x0.length:Int)
 (bif (!(seq (List.getD x0 (Int.toNat x2) (Ty.dflt aA)).1 x1)) then
 (ba x2 (x0.length:Int)
 (rm (Ty.bytes aA) (List.length x3+1)
 (L0 x0 x1 (aF (x2+1)) (x3++[(List.getD x0 (Int.toNat x2) (Ty.dflt aA))]))))
 else
 (L0 x0 x1 (aF (x2+1)) x3)))
 else
 (some (x3,())))
def l0 (k:Nat):Nat→T0
 | 0=>fun _ _ _ _=>none
 | n+1=>b0 k (l0 k n)
def t (k:Nat) (L0:T0) (a0:List (Ty.den aA)) (a1:ByteArray):Rs :=
 (L0 a0 a1 0 [])
def f (k:Nat):=t k (l0 k k)
end dA
namespace bn
abbrev Rs:Type:=Option ((List (Ty.den aA)) × Unit)
abbrev T0:Type:=List (Ty.den aA)→Bool→Int→ByteArray→Int→Int→Int→Int→List (Ty.den aA)→Rs
def b0 (k:Nat) (L0:T0):T0:=fun x0 x1 x2 x3 x4 x5 x6 x7 x8 =>
 (bif (decide (x2<(x0.length:Int))) then
 (ba x2 (x0.length:Int)
 (bif (seq (List.getD x0 (Int.toNat x2) (Ty.dflt aA)).1 x3) then
 (L0 x0 x1 (aF (x2+1)) x3 x4 x5 x6 x7 x8)
 else
 (bif (!x1) then
 (ba x2 (x0.length:Int)
 (bif (!((mv (List.getD x0 (Int.toNat x2) (Ty.dflt aA)).1 x3)||(seq (List.getD x0 (Int.toNat x2) (Ty.dflt aA)).1 x3))) then
 (rm (Ty.bytes aA) (List.length x8+1)
 (ba x2 (x0.length:Int)
 (rm (Ty.bytes aA) (List.length (x8++[(x3,(x4,(x5,(x6,(x7,())))))])+1)
 (L0 x0 true (aF (x2+1)) x3 x4 x5 x6 x7 ((x8++[(x3,(x4,(x5,(x6,(x7,())))))])++[(List.getD x0 (Int.toNat x2) (Ty.dflt aA))])))))
 else
 (ba x2 (x0.length:Int)
 (rm (Ty.bytes aA) (List.length x8+1)
 (L0 x0 x1 (aF (x2+1)) x3 x4 x5 x6 x7 (x8++[(List.getD x0 (Int.toNat x2) (Ty.dflt aA))]))))))
 else
 (ba x2 (x0.length:Int)
 (rm (Ty.bytes aA) (List.length x8+1)
 (L0 x0 x1 (aF (x2+1)) x3 x4 x5 x6 x7 (x8++[(List.getD x0 (Int.toNat x2) (Ty.dflt aA))])))))))
 else
 (bif (!x1) then
 (rm (Ty.bytes aA) (List.length x8+1)
 (some ((x8++[(x3,(x4,(x5,(x6,(x7,())))))]),())))
 else
 (some (x8,()))))
def l0 (k:Nat):Nat→T0
 | 0=>fun _ _ _ _ _ _ _ _ _=>none
 | n+1=>b0 k (l0 k n)
def t (k:Nat) (L0:T0) (a0:List (Ty.den aA)) (a1:Ty.den aA):Rs :=
 (L0 a0 false 0 a1.1 a1.2.1 a1.2.2.1 a1.2.2.2.1 a1.2.2.2.2.1 [])
def f (k:Nat):=t k (l0 k k)
end bn
namespace iF
abbrev Rs:Type:=Option ((List (Ty.den aA)) × Unit)
def t (k:Nat) (a0:List (Ty.den aA)) (a1:Ty.den aC):Rs :=
 (bif (a1.2.2.2.1.1==2) then
 ((dA.f k a0 a1.2.2.2.1.2.2.1).bind fun r1 =>
 (some r1))
 else
 ((bn.f k a0 (a1.2.2.2.1.2.2.1,(a1.1,(a1.2.1,(a1.2.2.1,(a1.2.2.2.1.2.1,())))))).bind fun r2 =>
 (some r2)))
def f (k:Nat):=t k
end iF
namespace fD
abbrev Rs:Type:=Option ((List (Ty.den aC)) × Unit)
abbrev T0:Type:=List (Ty.den aC)→Int→Int→List (Ty.den aC)→Rs
def b0 (k:Nat) (L0:T0):T0:=fun x0 x1 x2 x3 =>
 (bif (decide (x2<x1)) then
 (ba x2 (x0.length:Int)
 (bif ((List.getD x0 (Int.toNat x2) (Ty.dflt aC)).2.2.2.1.1==5) then
 (ba x2 (x0.length:Int)
 (bif ((List.getD x0 (Int.toNat x2) (Ty.dflt aC)).2.2.2.1.1==4) then
 (ba x2 (x0.length:Int)
 (rm (Ty.bytes aC) (0+1)
 (L0 x0 x1 (aF (x2+1)) ([]++[(List.getD x0 (Int.toNat x2) (Ty.dflt aC))]))))
 else
 (L0 x0 x1 (aF (x2+1)) [])))
 else
 (ba x2 (x0.length:Int)
 (bif ((List.getD x0 (Int.toNat x2) (Ty.dflt aC)).2.2.2.1.1==4) then
 (ba x2 (x0.length:Int)
 (rm (Ty.bytes aC) (List.length x3+1)
 (L0 x0 x1 (aF (x2+1)) (x3++[(List.getD x0 (Int.toNat x2) (Ty.dflt aC))]))))
 else
 (L0 x0 x1 (aF (x2+1)) x3)))))
 else
 (some (x3,())))
def l0 (k:Nat):Nat→T0
 | 0=>fun _ _ _ _=>none
 | n+1=>b0 k (l0 k n)
def t (k:Nat) (L0:T0) (a0:List (Ty.den aC)) (a1:Int):Rs :=
 (L0 a0 a1 0 [])
def f (k:Nat):=t k (l0 k k)
end fD
namespace cF
abbrev Rs:Type:=Option ((Ty.den g_) × Unit)
abbrev T1:Type:=List (Ty.den aC)→Int→Int→List (Ty.den aA)→Int→Int→List (Ty.den aA)→Int→Int→List (Ty.den aC)→Rs
abbrev T0:Type:=List (Ty.den aC)→Int→List (Ty.den aA)→Int→Int→List (Ty.den aA)→Int→Int→Rs
def b1 (k:Nat) (L0:T0) (L1:T1):T1:=fun x0 x1 x2 x3 x4 x5 x6 x7 x8 x9 =>
 (bif (decide (x2<(x9.length:Int))) then
 (ba x2 (x9.length:Int)
 ((iF.f k x6 (List.getD x9 (Int.toNat x2) (Ty.dflt aC))).bind fun r3 =>
 (L1 x0 x1 (aF (x2+1)) x3 x4 x5 r3.1 x7 x8 x9)))
 else
 (bif (decide ((x6.length:Int) > 20)) then
 (L0 x0 (aF (x1+1)) x3 x4 x5 x6 x7 2)
 else
 (L0 x0 (aF (x1+1)) x3 x4 x5 x6 x7 x8)))
def l1 (k:Nat) (L0:T0):Nat→T1
 | 0=>fun _ _ _ _ _ _ _ _ _ _=>none
 | n+1=>b1 k L0 (l1 k L0 n)
def b0 (k:Nat) (L1:T1) (L0:T0):T0:=fun x0 x1 x2 x3 x4 x5 x6 x7 =>
 (bif (decide (x1<(x0.length:Int))) then
 (bif (x7==0) then
 (ba x1 (x0.length:Int)
 (bif ((List.getD x0 (Int.toNat x1) (Ty.dflt aC)).2.2.2.1.1==3) then
 ((gj.f k x0 x1 (List.getD x0 (Int.toNat x1) (Ty.dflt aC)).2.2.2.1.2.1).bind fun r1 =>
 ((i6.f k (List.getD x0 (Int.toNat x1) (Ty.dflt aC)).2.2.2.1 r1.1).bind fun r2 =>
 (bif (!r2.1) then
 (L0 x0 (aF (x1+1)) x2 x3 x4 x5 (if (List.getD x0 (Int.toNat x1) (Ty.dflt aC)).2.2.2.1.2.1 > x6 then (List.getD x0 (Int.toNat x1) (Ty.dflt aC)).2.2.2.1.2.1 else x6) x7)
 else
 (L1 x0 x1 0 x2 x3 x4 x5 (if (List.getD x0 (Int.toNat x1) (Ty.dflt aC)).2.2.2.1.2.1 > x6 then (List.getD x0 (Int.toNat x1) (Ty.dflt aC)).2.2.2.1.2.1 else x6) x7 r1.1))))
 else
 (bif ((List.getD x0 (Int.toNat x1) (Ty.dflt aC)).2.2.2.1.1==5) then
 ((fD.f k x0 x1).bind fun r4 =>
 ((i6.f k (List.getD x0 (Int.toNat x1) (Ty.dflt aC)).2.2.2.1 r4.1).bind fun r5 =>
 (bif (!r5.1) then
 (L0 x0 (aF (x1+1)) x2 x3 x4 x5 (if (List.getD x0 (Int.toNat x1) (Ty.dflt aC)).2.2.2.1.2.1 > x6 then (List.getD x0 (Int.toNat x1) (Ty.dflt aC)).2.2.2.1.2.1 else x6) 1)
 else
 (L1 x0 x1 0 x2 x3 x4 x5 (if (List.getD x0 (Int.toNat x1) (Ty.dflt aC)).2.2.2.1.2.1 > x6 then (List.getD x0 (Int.toNat x1) (Ty.dflt aC)).2.2.2.1.2.1 else x6) x7 r4.1))))
 else
 (L0 x0 (aF (x1+1)) x2 x3 x4 x5 (if (List.getD x0 (Int.toNat x1) (Ty.dflt aC)).2.2.2.1.2.1 > x6 then (List.getD x0 (Int.toNat x1) (Ty.dflt aC)).2.2.2.1.2.1 else x6) x7))))
 else
 (bif (x7==0) then
 ((fD.f k x0 (x0.length:Int)).bind fun r6 =>
 (bif (decide ((List.length r6.1:Int) > 0)) then
 (some ((x5,(x6,(1,()))),()))
 else
 (some ((x5,(x6,(x7,()))),()))))
 else
 (some ((x5,(x6,(x7,()))),()))))
 else
 (bif (x7==0) then
 ((fD.f k x0 (x0.length:Int)).bind fun r7 =>
 (bif (decide ((List.length r7.1:Int) > 0)) then
 (some ((x5,(x6,(1,()))),()))
 else
 (some ((x5,(x6,(x7,()))),()))))
 else
 (some ((x5,(x6,(x7,()))),()))))
def l0 (k:Nat):Nat→T0
 | 0=>fun _ _ _ _ _ _ _ _=>none
 | n+1=>b0 k (l1 k (l0 k n) k) (l0 k n)
def t (k:Nat) (L0:T0) (a0:Ty.den g_) (a1:List (Ty.den aC)):Rs :=
 (rm (Ty.bytes aA) (0+List.length a0.1)
 (L0 a1 0 [] 0 0 ([]++a0.1) a0.2.1 a0.2.2.1))
def f (k:Nat):=t k (l0 k k)
end cF
namespace bx
abbrev Rs:Type:=Option ((Ty.den a_) × Int × Unit)
abbrev T0:Type:=Int→List (Ty.den aE)→Int→Int→Bool→List (Ty.den aE)→Int→Int→Bool→List ByteArray→Rs
def b0 (k:Nat) (L0:T0):T0:=fun x0 x1 x2 x3 x4 x5 x6 x7 x8 x9 =>
 (bif (decide (x0<(x9.length:Int))) then
 (ba x0 (x9.length:Int)
 ((gW.f k (x1,(x2,(x3,(x4,())))) (List.getD x9 (Int.toNat x0) (Ty.dflt .str))).bind fun r2 =>
 (bif (r2.2.1 != 0) then
 ((aY.f k r2.2.1).bind fun r3 =>
 (some (r2.1,r3)))
 else
 (L0 (aF (x0+1)) r2.1.1 r2.1.2.1 r2.1.2.2.1 r2.1.2.2.2.1 x5 x6 x7 x8 x9))))
 else
 (some ((x1,(x2,(x3,(x4,())))),(0,()))))
def l0 (k:Nat):Nat→T0
 | 0=>fun _ _ _ _ _ _ _ _ _ _=>none
 | n+1=>b0 k (l0 k n)
def t (k:Nat) (L0:T0) (a0:Ty.den a_) (a1:Ty.den bA):Rs :=
 ((bS.f k a0 a1).bind fun r1 =>
 (L0 0 a0.1 a0.2.1 a0.2.2.1 a0.2.2.2.1 [] 0 0 false r1.1))
def f (k:Nat):=t k (l0 k k)
end bx
namespace gV
abbrev Rs:Type:=Option ((Ty.den aI) × (Ty.den a_) × Int × Unit)
def t (k:Nat) (a0:Ty.den a_):Rs :=
 ((bx.f k a0 (0,([],()))).bind fun r1 =>
 (bif (r1.2.1 != 0) then
 (some (((0,([],())),([],(0,(0,(0,()))))),r1))
 else
 ((aT.f k 1).bind fun r2 =>
 ((eG.f k r1.1 r2.1).bind fun r3 =>
 (bif (r3.2.1 != 0) then
 ((aY.f k r3.2.1).bind fun r4 =>
 (some (((0,([],())),([],(0,(0,(0,()))))),(r3.1,r4))))
 else
 ((f8.f k r3.1 (2,([1],()))).bind fun r5 =>
 (bif (r5.2.1 != 0) then
 (some (((0,([],())),([],(0,(0,(0,()))))),r5))
 else
 (some (((2,([1],())),([],(1,(0,(0,()))))),(r5.1,(0,())))))))))))
def f (k:Nat):=t k
end gV
namespace bG
abbrev Rs:Type:=Option ((Ty.den aI) × (Ty.den a_) × Int × Unit)
abbrev T1:Type:=Int→List Int→List (Ty.den aA)→Int→Int→Int→Int→List (Ty.den aE)→Int→Int→Bool→List Int→List (Ty.den aA)→Int→Int→Int→Int→List Int→Int→List (Ty.den aE)→Int→Int→Bool→List (Ty.den aA)→Int→Int→Int→Int→List (Ty.den aA)→Int→Int→List (Ty.den aC)→Rs
abbrev T2:Type:=Int→List Int→List (Ty.den aA)→Int→Int→Int→Int→List (Ty.den aE)→Int→Int→Bool→List Int→List (Ty.den aA)→Int→Int→Int→Int→List Int→Int→List (Ty.den aE)→Int→Int→Bool→List (Ty.den aA)→Int→Int→Int→Int→List (Ty.den aA)→Int→Int→List (Ty.den aC)→Rs
abbrev T0:Type:=Int→Int→List (Ty.den aE)→Int→Int→Bool→List Int→List (Ty.den aA)→Int→Int→Int→Int→List (Ty.den aE)→Int→Int→Bool→List Int→List (Ty.den aA)→Int→Int→Int→Int→List Int→Int→Rs
def b1 (k:Nat) (L1:T1):T1:=fun x0 x1 x2 x3 x4 x5 x6 x7 x8 x9 x10 x11 x12 x13 x14 x15 x16 x17 x18 x19 x20 x21 x22 x23 x24 x25 x26 x27 x28 x29 x30 x31 =>
 (bif (decide (x0<(x17.length:Int))) then
 (ba x0 (x17.length:Int)
 ((aT.f k (List.getD x17 (Int.toNat x0) (Ty.dflt (.int .i64)))).bind fun r23 =>
 ((bI.f k (x19,(x20,(x21,(x22,())))) r23.1).bind fun r24 =>
 (ba x0 (x17.length:Int)
 ((bo.f k (List.getD x17 (Int.toNat x0) (Ty.dflt (.int .i64)))).bind fun r25 =>
 ((bI.f k (x19,(x20,(x21,(x22,())))) r25.1).bind fun r26 =>
 ((bZ.f k r26.1).bind fun r27 =>
 (bif (x0==0) then
 (bif r26.2.1 then
 (bif r27.2.1 then
 (ba 0 (x17.length:Int)
 ((gu.f k (List.getD x17 0 (Ty.dflt (.int .i64))) r24.1 r27.1).bind fun r28 =>
 (bif r28.1 then
 (ba 0 (x17.length:Int)
 (L1 (aF (x0+1)) x1 x2 x3 x4 x5 x6 x7 x8 x9 x10 x11 x12 x13 x14 x15 x16 x17 x18 x19 x20 x21 x22 x23 x24 x25 x26 (List.getD x17 0 (Ty.dflt (.int .i64))) r27.1.2.2.1 r27.1.2.1 x30 x31))
 else
 (ba x0 (x17.length:Int)
 ((bD.f k (List.getD x17 (Int.toNat x0) (Ty.dflt (.int .i64))) r24.1).bind fun r29 =>
 (rm (Ty.bytes aC) (List.length x31+List.length r29.1)
 (L1 (aF (x0+1)) x1 x2 x3 x4 x5 x6 x7 x8 x9 x10 x11 x12 x13 x14 x15 x16 x17 x18 x19 x20 x21 x22 x23 x24 x25 x26 x27 x28 x29 x30 (x31++r29.1))))))))
 else
 (ba x0 (x17.length:Int)
 ((bD.f k (List.getD x17 (Int.toNat x0) (Ty.dflt (.int .i64))) r24.1).bind fun r30 =>
 (rm (Ty.bytes aC) (List.length x31+List.length r30.1)
 (L1 (aF (x0+1)) x1 x2 x3 x4 x5 x6 x7 x8 x9 x10 x11 x12 x13 x14 x15 x16 x17 x18 x19 x20 x21 x22 x23 x24 x25 x26 x27 x28 x29 x30 (x31++r30.1))))))
 else
 (ba x0 (x17.length:Int)
 ((bD.f k (List.getD x17 (Int.toNat x0) (Ty.dflt (.int .i64))) r24.1).bind fun r31 =>
 (rm (Ty.bytes aC) (List.length x31+List.length r31.1)
 (L1 (aF (x0+1)) x1 x2 x3 x4 x5 x6 x7 x8 x9 x10 x11 x12 x13 x14 x15 x16 x17 x18 x19 x20 x21 x22 x23 x24 x25 x26 x27 x28 x29 x30 (x31++r31.1))))))
 else
 (ba x0 (x17.length:Int)
 ((bD.f k (List.getD x17 (Int.toNat x0) (Ty.dflt (.int .i64))) r24.1).bind fun r32 =>
 (rm (Ty.bytes aC) (List.length x31+List.length r32.1)
 (L1 (aF (x0+1)) x1 x2 x3 x4 x5 x6 x7 x8 x9 x10 x11 x12 x13 x14 x15 x16 x17 x18 x19 x20 x21 x22 x23 x24 x25 x26 x27 x28 x29 x30 (x31++r32.1)))))))))))))
 else
 ((cF.f k (x28,(x29,(x30,()))) x31).bind fun r33 =>
 (bif (r33.1.2.2.1 != 0) then
 (some (((x13,(x11,())),(x12,(x14,(x15,(x16,()))))),((x19,(x20,(x21,(x22,())))),(3,()))))
 else
 ((bx.f k (x19,(x20,(x21,(x22,())))) (x18,(x17,()))).bind fun r34 =>
 (bif (r34.2.1 != 0) then
 (some (((x13,(x11,())),(x12,(x14,(x15,(x16,()))))),r34))
 else
 (some (((x24,(x17,())),(r33.1.1,((aF (r33.1.2.1+1)),(x26,(x27,()))))),(r34.1,(0,())))))))))
def l1 (k:Nat):Nat→T1
 | 0=>fun _ _ _ _ _ _ _ _ _ _ _ _ _ _ _ _ _ _ _ _ _ _ _ _ _ _ _ _ _ _ _ _=>none
 | n+1=>b1 k (l1 k n)
def b2 (k:Nat) (L2:T2):T2:=fun x0 x1 x2 x3 x4 x5 x6 x7 x8 x9 x10 x11 x12 x13 x14 x15 x16 x17 x18 x19 x20 x21 x22 x23 x24 x25 x26 x27 x28 x29 x30 x31 =>
 (bif (decide (x0<(x17.length:Int))) then
 (ba x0 (x17.length:Int)
 ((aT.f k (List.getD x17 (Int.toNat x0) (Ty.dflt (.int .i64)))).bind fun r38 =>
 ((bI.f k (x19,(x20,(x21,(x22,())))) r38.1).bind fun r39 =>
 (ba x0 (x17.length:Int)
 ((bo.f k (List.getD x17 (Int.toNat x0) (Ty.dflt (.int .i64)))).bind fun r40 =>
 ((bI.f k (x19,(x20,(x21,(x22,())))) r40.1).bind fun r41 =>
 ((bZ.f k r41.1).bind fun r42 =>
 (bif (x0==0) then
 (bif r41.2.1 then
 (bif r42.2.1 then
 (ba 0 (x17.length:Int)
 ((gu.f k (List.getD x17 0 (Ty.dflt (.int .i64))) r39.1 r42.1).bind fun r43 =>
 (bif r43.1 then
 (ba 0 (x17.length:Int)
 (L2 (aF (x0+1)) x1 x2 x3 x4 x5 x6 x7 x8 x9 x10 x11 x12 x13 x14 x15 x16 x17 x18 x19 x20 x21 x22 x23 x24 x25 x26 (List.getD x17 0 (Ty.dflt (.int .i64))) r42.1.2.2.1 r42.1.2.1 x30 x31))
 else
 (ba x0 (x17.length:Int)
 ((bD.f k (List.getD x17 (Int.toNat x0) (Ty.dflt (.int .i64))) r39.1).bind fun r44 =>
 (rm (Ty.bytes aC) (List.length x31+List.length r44.1)
 (L2 (aF (x0+1)) x1 x2 x3 x4 x5 x6 x7 x8 x9 x10 x11 x12 x13 x14 x15 x16 x17 x18 x19 x20 x21 x22 x23 x24 x25 x26 x27 x28 x29 x30 (x31++r44.1))))))))
 else
 (ba x0 (x17.length:Int)
 ((bD.f k (List.getD x17 (Int.toNat x0) (Ty.dflt (.int .i64))) r39.1).bind fun r45 =>
 (rm (Ty.bytes aC) (List.length x31+List.length r45.1)
 (L2 (aF (x0+1)) x1 x2 x3 x4 x5 x6 x7 x8 x9 x10 x11 x12 x13 x14 x15 x16 x17 x18 x19 x20 x21 x22 x23 x24 x25 x26 x27 x28 x29 x30 (x31++r45.1))))))
 else
 (ba x0 (x17.length:Int)
 ((bD.f k (List.getD x17 (Int.toNat x0) (Ty.dflt (.int .i64))) r39.1).bind fun r46 =>
 (rm (Ty.bytes aC) (List.length x31+List.length r46.1)
 (L2 (aF (x0+1)) x1 x2 x3 x4 x5 x6 x7 x8 x9 x10 x11 x12 x13 x14 x15 x16 x17 x18 x19 x20 x21 x22 x23 x24 x25 x26 x27 x28 x29 x30 (x31++r46.1))))))
 else
 (ba x0 (x17.length:Int)
 ((bD.f k (List.getD x17 (Int.toNat x0) (Ty.dflt (.int .i64))) r39.1).bind fun r47 =>
 (rm (Ty.bytes aC) (List.length x31+List.length r47.1)
 (L2 (aF (x0+1)) x1 x2 x3 x4 x5 x6 x7 x8 x9 x10 x11 x12 x13 x14 x15 x16 x17 x18 x19 x20 x21 x22 x23 x24 x25 x26 x27 x28 x29 x30 (x31++r47.1)))))))))))))
 else
 ((cF.f k (x28,(x29,(x30,()))) x31).bind fun r48 =>
 (bif (r48.1.2.2.1 != 0) then
 (some (((x13,(x11,())),(x12,(x14,(x15,(x16,()))))),((x19,(x20,(x21,(x22,())))),(3,()))))
 else
 ((bx.f k (x19,(x20,(x21,(x22,())))) (x18,(x17,()))).bind fun r49 =>
 (bif (r49.2.1 != 0) then
 (some (((x13,(x11,())),(x12,(x14,(x15,(x16,()))))),r49))
 else
 (some (((x24,(x17,())),(r48.1.1,((aF (r48.1.2.1+1)),(x26,(x27,()))))),(r49.1,(0,())))))))))
def l2 (k:Nat):Nat→T2
 | 0=>fun _ _ _ _ _ _ _ _ _ _ _ _ _ _ _ _ _ _ _ _ _ _ _ _ _ _ _ _ _ _ _ _=>none
 | n+1=>b2 k (l2 k n)
def b0 (k:Nat) (L1:T1) (L2:T2) (L0:T0):T0:=fun x0 x1 x2 x3 x4 x5 x6 x7 x8 x9 x10 x11 x12 x13 x14 x15 x16 x17 x18 x19 x20 x21 x22 x23 =>
 (bif (decide (x1<(x22.length:Int))) then
 (ba x1 (x22.length:Int)
 ((aT.f k (List.getD x22 (Int.toNat x1) (Ty.dflt (.int .i64)))).bind fun r8 =>
 ((bI.f k (x2,(x3,(x4,(x5,())))) r8.1).bind fun r9 =>
 ((bW.f k r9.1).bind fun r10 =>
 (bif (!r9.2.1) then
 ((cU.f k (x2,(x3,(x4,(x5,()))))).bind fun r11 =>
 (some (((x18,(x16,())),(x17,(x19,(x20,(x21,()))))),(r11.1,(3,())))))
 else
 (ba x1 (x22.length:Int)
 (bif ((List.getD x22 (Int.toNat x1) (Ty.dflt (.int .i64))) != x0) then
 (bif (decide (r10.2.1<(ByteArray.size r9.1:Int))) then
 ((cU.f k (x2,(x3,(x4,(x5,()))))).bind fun r12 =>
 (some (((x18,(x16,())),(x17,(x19,(x20,(x21,()))))),(r12.1,(3,())))))
 else
 (L0 x0 (aF (x1+1)) x2 x3 x4 x5 x6 x7 x8 x9 x10 x11 x12 x13 x14 x15 x16 x17 x18 x19 x20 x21 x22 x23))
 else
 (L0 x0 (aF (x1+1)) x2 x3 x4 x5 x6 x7 x8 x9 x10 x11 x12 x13 x14 x15 x16 x17 x18 x19 x20 x21 x22 x23))))))))
 else
 ((aT.f k x0).bind fun r13 =>
 ((bI.f k (x2,(x3,(x4,(x5,())))) r13.1).bind fun r14 =>
 ((bW.f k r14.1).bind fun r15 =>
 ((cU.f k (x2,(x3,(x4,(x5,()))))).bind fun r16 =>
 (bif (decide (r15.2.1<(ByteArray.size r14.1:Int))) then
 ((aT.f k x0).bind fun r17 =>
 ((iU.f k r16.1 r17.1 r15.2.1).bind fun r18 =>
 (bif (r18.2.1 != 0) then
 ((aY.f k r18.2.1).bind fun r19 =>
 (some (((x18,(x16,())),(x17,(x19,(x20,(x21,()))))),(r18.1,r19))))
 else
 ((aT.f k x0).bind fun r20 =>
 ((cy.f k r18.1 r20.1).bind fun r21 =>
 (bif (r21.2.1 != 0) then
 ((aY.f k r21.2.1).bind fun r22 =>
 (some (((x18,(x16,())),(x17,(x19,(x20,(x21,()))))),(r21.1,r22))))
 else
 (L1 0 x6 x7 x8 x9 x10 x11 x12 x13 x14 x15 x16 x17 x18 x19 x20 x21 x22 x23 r21.1.1 r21.1.2.1 r21.1.2.2.1 r21.1.2.2.2.1 [] x23 0 r15.2.1 0 [] 0 0 [])))))))
 else
 ((aT.f k x0).bind fun r35 =>
 ((cy.f k r16.1 r35.1).bind fun r36 =>
 (bif (r36.2.1 != 0) then
 ((aY.f k r36.2.1).bind fun r37 =>
 (some (((x18,(x16,())),(x17,(x19,(x20,(x21,()))))),(r36.1,r37))))
 else
 (L2 0 x6 x7 x8 x9 x10 x11 x12 x13 x14 x15 x16 x17 x18 x19 x20 x21 x22 x23 r36.1.1 r36.1.2.1 r36.1.2.2.1 r36.1.2.2.2.1 [] x23 0 r15.2.1 0 [] 0 0 []))))))))))
def l0 (k:Nat):Nat→T0
 | 0=>fun _ _ _ _ _ _ _ _ _ _ _ _ _ _ _ _ _ _ _ _ _ _ _ _=>none
 | n+1=>b0 k (l1 k k) (l2 k k) (l0 k n)
def t (k:Nat) (L0:T0) (a0:Ty.den a_):Rs :=
 ((bH.f k a0).bind fun r1 =>
 (bif (!r1.1) then
 ((cU.f k a0).bind fun r2 =>
 (some (((0,([],())),([],(0,(0,(0,()))))),(r2.1,(4,())))))
 else
 (bif a0.2.2.2.1 then
 ((cU.f k a0).bind fun r3 =>
 (some (((0,([],())),([],(0,(0,(0,()))))),(r3.1,(1,())))))
 else
 ((bI.f k a0 (⟨#[108,105,118,101]⟩:ByteArray)).bind fun r4 =>
 (bif (!r4.2.1) then
 ((gV.f k a0).bind fun r5 =>
 (some r5))
 else
 ((bQ.f k r4.1).bind fun r6 =>
 (bif (!r6.2.1) then
 ((cU.f k a0).bind fun r7 =>
 (some (((0,([],())),([],(0,(0,(0,()))))),(r7.1,(3,())))))
 else
 (ba (aF ((List.length r6.1.2.1:Int)-1)) (List.length r6.1.2.1:Int)
 (L0 (List.getD r6.1.2.1 (Int.toNat (aF ((List.length r6.1.2.1:Int)-1))) (Ty.dflt (.int .i64))) 0 a0.1 a0.2.1 a0.2.2.1 a0.2.2.2.1 [] [] 0 0 0 0 [] 0 0 false [] [] 0 0 0 0 r6.1.2.1 r6.1.1)))))))))
def f (k:Nat):=t k (l0 k k)
end bG
namespace fO
abbrev Rs:Type:=Option ((Ty.den aI) × Unit)
def t (k:Nat) (a0:Ty.den aI):Rs :=
 (rm (Ty.bytes (.int .i64)) (0+List.length a0.1.2.1)
 (rm (Ty.bytes aA) (0+List.length a0.2.1)
 (some (((a0.1.1,(([]++a0.1.2.1),())),(([]++a0.2.1),a0.2.2)),()))))
def f (k:Nat):=t k
end fO
namespace jF
abbrev Rs:Type:=Option ((Ty.den bU) × Bool × Unit)
def t (k:Nat) (a0:ByteArray) (a1:Int) (a2:Int):Rs :=
 ((aX.f k a1 0 (ByteArray.size a0:Int)).bind fun r1 =>
 (bif (!r1.1) then
 (some ((0,(0,(ByteArray.empty,(ByteArray.empty,(0,(0,())))))),(false,())))
 else
 ((aX.f k a2 1 (aF ((ByteArray.size a0:Int)-a1))).bind fun r2 =>
 (bif (!r2.1) then
 (some ((0,(0,(ByteArray.empty,(ByteArray.empty,(0,(0,())))))),(false,())))
 else
 (F8 a1 (aF (a1+a2)) (ByteArray.size a0:Int)
 ((dh.f k (ByteArray.extract a0 (Int.toNat a1) (Int.toNat (aF (a1+a2))))).bind fun r3 =>
 ((eN.f k r3.1).bind fun r4 =>
 (bif (r3.2.1 != a2) then
 (some ((0,(0,(ByteArray.empty,(ByteArray.empty,(0,(0,())))))),(false,())))
 else
 (bif (!r4.2.1) then
 (some ((0,(0,(ByteArray.empty,(ByteArray.empty,(0,(0,())))))),(false,())))
 else
 (some (r4.1,(true,()))))))))))))
def f (k:Nat):=t k
end jF
namespace cG
abbrev Rs:Type:=Option (Bool × Unit)
abbrev T1:Type:=Int→Int→List Int→List (Ty.den aA)→Int→Int→Int→List (Ty.den aE)→Int→Int→Bool→Rs
abbrev T0:Type:=Int→Int→List Int→List (Ty.den aA)→Int→Int→Int→List (Ty.den aE)→Int→Int→Bool→Rs
def b1 (k:Nat) (L1:T1):T1:=fun x0 x1 x2 x3 x4 x5 x6 x7 x8 x9 x10 =>
 (bif (decide (x0<(x3.length:Int))) then
 (ba x0 (x3.length:Int)
 ((aT.f k (List.getD x3 (Int.toNat x0) (Ty.dflt aA)).2.1).bind fun r8 =>
 ((bI.f k (x7,(x8,(x9,(x10,())))) r8.1).bind fun r9 =>
 ((jF.f k r9.1 (List.getD x3 (Int.toNat x0) (Ty.dflt aA)).2.2.1 (List.getD x3 (Int.toNat x0) (Ty.dflt aA)).2.2.2.1).bind fun r10 =>
 (bif (!r10.2.1) then
 (some (false,()))
 else
 (bif (!(seq r10.1.2.2.1 (List.getD x3 (Int.toNat x0) (Ty.dflt aA)).1)) then
 (some (false,()))
 else
 (bif (r10.1.2.1 != (List.getD x3 (Int.toNat x0) (Ty.dflt aA)).2.2.2.2.1) then
 (some (false,()))
 else
 (bif (r10.1.1 != 1) then
 (bif (r10.1.1 != 4) then
 (some (false,()))
 else
 (bif (decide ((List.getD x3 (Int.toNat x0) (Ty.dflt aA)).2.2.2.2.1≥x4)) then
 (some (false,()))
 else
 (L1 (aF (x0+1)) x1 x2 x3 x4 x5 x6 x7 x8 x9 x10)))
 else
 (bif (decide ((List.getD x3 (Int.toNat x0) (Ty.dflt aA)).2.2.2.2.1≥x4)) then
 (some (false,()))
 else
 (L1 (aF (x0+1)) x1 x2 x3 x4 x5 x6 x7 x8 x9 x10))))))))))
 else
 (some (true,())))
def l1 (k:Nat):Nat→T1
 | 0=>fun _ _ _ _ _ _ _ _ _ _ _=>none
 | n+1=>b1 k (l1 k n)
def b0 (k:Nat) (L1:T1) (L0:T0):T0:=fun x0 x1 x2 x3 x4 x5 x6 x7 x8 x9 x10 =>
 (bif (decide (x0<(x2.length:Int))) then
 (ba x0 (x2.length:Int)
 ((aT.f k (List.getD x2 (Int.toNat x0) (Ty.dflt (.int .i64)))).bind fun r5 =>
 ((bI.f k (x7,(x8,(x9,(x10,())))) r5.1).bind fun r6 =>
 ((bW.f k r6.1).bind fun r7 =>
 (bif (!r6.2.1) then
 (some (false,()))
 else
 (bif (decide (r7.2.1<(ByteArray.size r6.1:Int))) then
 (some (false,()))
 else
 (bif ((aF (x0+1))==(x2.length:Int)) then
 (bif (x5 != (ByteArray.size r6.1:Int)) then
 (some (false,()))
 else
 (L0 (aF (x0+1)) x1 x2 x3 x4 x5 x6 x7 x8 x9 x10))
 else
 (L0 (aF (x0+1)) x1 x2 x3 x4 x5 x6 x7 x8 x9 x10))))))))
 else
 (L1 0 x1 x2 x3 x4 x5 x6 x7 x8 x9 x10))
def l0 (k:Nat):Nat→T0
 | 0=>fun _ _ _ _ _ _ _ _ _ _ _=>none
 | n+1=>b0 k (l1 k k) (l0 k n)
def t (k:Nat) (L0:T0) (a0:Ty.den aI) (a1:Ty.den a_):Rs :=
 ((bH.f k a1).bind fun r1 =>
 (bif (!r1.1) then
 (some (false,()))
 else
 ((dK.f k a0.1).bind fun r2 =>
 (bif (!r2.1) then
 (some (false,()))
 else
 ((fC.f k a0.2.1).bind fun r3 =>
 (bif (!r3.1) then
 (some (false,()))
 else
 ((aX.f k a0.2.2.1 1 1000001).bind fun r4 =>
 (bif (!r4.1) then
 (some (false,()))
 else
 (L0 0 a0.1.1 a0.1.2.1 a0.2.1 a0.2.2.1 a0.2.2.2.1 a0.2.2.2.2.1 a1.1 a1.2.1 a1.2.2.1 a1.2.2.2.1)))))))))
def f (k:Nat):=t k (l0 k k)
end cG
namespace gF
abbrev Rs:Type:=Option ((Ty.den aA) × Bool × Unit)
abbrev T0:Type:=List (Ty.den aA)→ByteArray→Int→ByteArray→Int→Int→Int→Int→Rs
def b0 (k:Nat) (L0:T0):T0:=fun x0 x1 x2 x3 x4 x5 x6 x7 =>
 (bif (decide (x2<(x0.length:Int))) then
 (ba x2 (x0.length:Int)
 (bif (seq (List.getD x0 (Int.toNat x2) (Ty.dflt aA)).1 x1) then
 (ba x2 (x0.length:Int)
 (some ((List.getD x0 (Int.toNat x2) (Ty.dflt aA)),(true,()))))
 else
 (L0 x0 x1 (aF (x2+1)) x3 x4 x5 x6 x7)))
 else
 (some ((ByteArray.empty,(0,(0,(0,(0,()))))),(false,()))))
def l0 (k:Nat):Nat→T0
 | 0=>fun _ _ _ _ _ _ _ _=>none
 | n+1=>b0 k (l0 k n)
def t (k:Nat) (L0:T0) (a0:List (Ty.den aA)) (a1:ByteArray):Rs :=
 (L0 a0 a1 0 ByteArray.empty 0 0 0 0)
def f (k:Nat):=t k (l0 k k)
end gF
namespace mQ
abbrev Rs:Type:=Option ((Ty.den aE) × Int × Unit)
def t (k:Nat) (a0:Ty.den aI) (a1:Ty.den a_) (a2:ByteArray):Rs :=
 ((gF.f k a0.2.1 a2).bind fun r1 =>
 (bif (!r1.2.1) then
 (some ((ByteArray.empty,(ByteArray.empty,(0,()))),(8,())))
 else
 ((aT.f k r1.1.2.1).bind fun r2 =>
 ((bI.f k a1 r2.1).bind fun r3 =>
 ((jF.f k r3.1 r1.1.2.2.1 r1.1.2.2.2.1).bind fun r4 =>
 (bif (!r3.2.1) then
 (some ((ByteArray.empty,(ByteArray.empty,(0,()))),(3,())))
 else
 (bif (!r4.2.1) then
 (some ((ByteArray.empty,(ByteArray.empty,(0,()))),(3,())))
 else
 (bif (!(seq r4.1.2.2.1 a2)) then
 (some ((ByteArray.empty,(ByteArray.empty,(0,()))),(3,())))
 else
 (bif (r4.1.1 != 1) then
 (bif (r4.1.1 != 4) then
 (some ((ByteArray.empty,(ByteArray.empty,(0,()))),(3,())))
 else
 (some ((a2,(r4.1.2.2.2.1,(r4.1.2.1,()))),(0,()))))
 else
 (some ((a2,(r4.1.2.2.2.1,(r4.1.2.1,()))),(0,()))))))))))))
def f (k:Nat):=t k
end mQ
namespace iZ
abbrev Rs:Type:=Option ((List (Ty.den aE)) × Int × Unit)
abbrev T0:Type:=Int→Int→List Int→List (Ty.den aA)→Int→Int→Int→List (Ty.den aE)→Int→Int→Bool→List (Ty.den aE)→Rs
def b0 (k:Nat) (L0:T0):T0:=fun x0 x1 x2 x3 x4 x5 x6 x7 x8 x9 x10 x11 =>
 (bif (decide (x0<(x3.length:Int))) then
 (ba x0 (x3.length:Int)
 ((mQ.f k ((x1,(x2,())),(x3,(x4,(x5,(x6,()))))) (x7,(x8,(x9,(x10,())))) (List.getD x3 (Int.toNat x0) (Ty.dflt aA)).1).bind fun r1 =>
 (bif (r1.2.1 != 0) then
 (some ([],r1.2))
 else
 (rm (Ty.bytes aE) (List.length x11+1)
 (L0 (aF (x0+1)) x1 x2 x3 x4 x5 x6 x7 x8 x9 x10 (x11++[r1.1]))))))
 else
 (some (x11,(0,()))))
def l0 (k:Nat):Nat→T0
 | 0=>fun _ _ _ _ _ _ _ _ _ _ _ _=>none
 | n+1=>b0 k (l0 k n)
def t (k:Nat) (L0:T0) (a0:Ty.den aI) (a1:Ty.den a_):Rs :=
 (L0 0 a0.1.1 a0.1.2.1 a0.2.1 a0.2.2.1 a0.2.2.2.1 a0.2.2.2.2.1 a1.1 a1.2.1 a1.2.2.1 a1.2.2.2.1 [])
def f (k:Nat):=t k (l0 k k)
end iZ
namespace kg
abbrev Rs:Type:=Option ((Ty.den bU) × Unit)
def t (k:Nat) (a0:Ty.den aE):Rs :=
 (some ((4,(a0.2.2.1,(a0.1,(a0.2.1,(0,(0,())))))),()))
def f (k:Nat):=t k
end kg
namespace dy
abbrev Rs:Type:=Option ((Ty.den a_) × (List (Ty.den aA)) × Int × Unit)
abbrev T0:Type:=Int→List (Ty.den aE)→Int→Int→Int→Int→List (Ty.den aE)→Int→Int→Bool→List (Ty.den aA)→List (Ty.den aE)→Int→Int→Bool→List (Ty.den bU)→Rs
def b0 (k:Nat) (L0:T0):T0:=fun x0 x1 x2 x3 x4 x5 x6 x7 x8 x9 x10 x11 x12 x13 x14 x15 =>
 (bif (decide (x5<(x1.length:Int))) then
 (bif (x3==0) then
 (ba x5 (x1.length:Int)
 ((kg.f k (List.getD x1 (Int.toNat x5) (Ty.dflt aE))).bind fun r3 =>
 ((bL.f k r3.1).bind fun r4 =>
 ((d9.f k r4.1).bind fun r5 =>
 ((aT.f k x0).bind fun r6 =>
 ((cI.f k (x11,(x12,(x13,(x14,())))) r6.1 r5.1).bind fun r7 =>
 (rm (Ty.bytes bU) (List.length x15+1)
 (rm (Ty.bytes aA) (List.length x10+1)
 (L0 x0 x1 x2 r7.2.1 (aF (x4+(ByteArray.size r5.1:Int))) (aF (x5+1)) x6 x7 x8 x9 (x10++[(r3.1.2.2.1,(x0,(x4,((ByteArray.size r5.1:Int),(r3.1.2.1,())))))]) r7.1.1 r7.1.2.1 r7.1.2.2.1 r7.1.2.2.2.1 (x15++[r3.1]))))))))))
 else
 (bif (x3==0) then
 ((aT.f k x0).bind fun r8 =>
 ((eo.f k x15 x2 5).bind fun r9 =>
 ((bL.f k r9.1).bind fun r10 =>
 ((d9.f k r10.1).bind fun r11 =>
 ((cI.f k (x11,(x12,(x13,(x14,())))) r8.1 r11.1).bind fun r12 =>
 (bif (r12.2.1==0) then
 ((aT.f k x0).bind fun r13 =>
 ((cy.f k r12.1 r13.1).bind fun r14 =>
 ((aY.f k r14.2.1).bind fun r15 =>
 (some (r14.1,(x10,r15))))))
 else
 ((aY.f k r12.2.1).bind fun r16 =>
 (some (r12.1,(x10,r16))))))))))
 else
 (bif (x3==0) then
 ((aT.f k x0).bind fun r17 =>
 ((cy.f k (x11,(x12,(x13,(x14,())))) r17.1).bind fun r18 =>
 ((aY.f k r18.2.1).bind fun r19 =>
 (some (r18.1,(x10,r19))))))
 else
 ((aY.f k x3).bind fun r20 =>
 (some ((x11,(x12,(x13,(x14,())))),(x10,r20)))))))
 else
 (bif (x3==0) then
 ((aT.f k x0).bind fun r21 =>
 ((eo.f k x15 x2 5).bind fun r22 =>
 ((bL.f k r22.1).bind fun r23 =>
 ((d9.f k r23.1).bind fun r24 =>
 ((cI.f k (x11,(x12,(x13,(x14,())))) r21.1 r24.1).bind fun r25 =>
 (bif (r25.2.1==0) then
 ((aT.f k x0).bind fun r26 =>
 ((cy.f k r25.1 r26.1).bind fun r27 =>
 ((aY.f k r27.2.1).bind fun r28 =>
 (some (r27.1,(x10,r28))))))
 else
 ((aY.f k r25.2.1).bind fun r29 =>
 (some (r25.1,(x10,r29))))))))))
 else
 (bif (x3==0) then
 ((aT.f k x0).bind fun r30 =>
 ((cy.f k (x11,(x12,(x13,(x14,())))) r30.1).bind fun r31 =>
 ((aY.f k r31.2.1).bind fun r32 =>
 (some (r31.1,(x10,r32))))))
 else
 ((aY.f k x3).bind fun r33 =>
 (some ((x11,(x12,(x13,(x14,())))),(x10,r33)))))))
def l0 (k:Nat):Nat→T0
 | 0=>fun _ _ _ _ _ _ _ _ _ _ _ _ _ _ _ _=>none
 | n+1=>b0 k (l0 k n)
def t (k:Nat) (L0:T0) (a0:Ty.den a_) (a1:Int) (a2:List (Ty.den aE)) (a3:Int):Rs :=
 ((aT.f k a1).bind fun r1 =>
 ((dr.f k a0 r1.1).bind fun r2 =>
 (L0 a1 a2 a3 r2.2.1 0 0 [] 0 0 false [] r2.1.1 r2.1.2.1 r2.1.2.2.1 r2.1.2.2.2.1 [])))
def f (k:Nat):=t k (l0 k k)
end dy
namespace cA
abbrev Rs:Type:=Option ((Ty.den a_) × Int × Unit)
abbrev T0:Type:=List ByteArray→Int→List (Ty.den aE)→Int→Int→Bool→List (Ty.den aE)→Int→Int→Bool→Rs
def b0 (k:Nat) (L0:T0):T0:=fun x0 x1 x2 x3 x4 x5 x6 x7 x8 x9 =>
 (bif (decide (x1<(x0.length:Int))) then
 (ba x1 (x0.length:Int)
 ((bT.f k (x2,(x3,(x4,(x5,())))) (List.getD x0 (Int.toNat x1) (Ty.dflt .str))).bind fun r1 =>
 (bif (decide (r1.1<0)) then
 (L0 x0 (aF (x1+1)) x2 x3 x4 x5 x6 x7 x8 x9)
 else
 (ba x1 (x0.length:Int)
 ((gW.f k (x2,(x3,(x4,(x5,())))) (List.getD x0 (Int.toNat x1) (Ty.dflt .str))).bind fun r2 =>
 (bif (r2.2.1 != 0) then
 (some r2)
 else
 (L0 x0 (aF (x1+1)) r2.1.1 r2.1.2.1 r2.1.2.2.1 r2.1.2.2.2.1 x6 x7 x8 x9)))))))
 else
 (some ((x2,(x3,(x4,(x5,())))),(0,()))))
def l0 (k:Nat):Nat→T0
 | 0=>fun _ _ _ _ _ _ _ _ _ _=>none
 | n+1=>b0 k (l0 k n)
def t (k:Nat) (L0:T0) (a0:Ty.den a_) (a1:List ByteArray):Rs :=
 (L0 a1 0 a0.1 a0.2.1 a0.2.2.1 a0.2.2.2.1 [] 0 0 false)
def f (k:Nat):=t k (l0 k k)
end cA
namespace dj
abbrev Rs:Type:=Option ((Ty.den aI) × (Ty.den a_) × Int × Unit)
def t (k:Nat) (a0:Ty.den aI) (a1:Ty.den a_) (a2:Int) (a3:Int):Rs :=
 (bif (a3 != 2) then
 (some (a0,(a1,(a3,()))))
 else
 ((aT.f k a2).bind fun r1 =>
 ((aT.f k (aF (a2+1))).bind fun r2 =>
 ((bo.f k a2).bind fun r3 =>
 ((cA.f k a1 [(⟨#[116,101,109,112]⟩:ByteArray),r1.1,r2.1,r3.1]).bind fun r4 =>
 (bif (r4.2.1 != 0) then
 ((aY.f k r4.2.1).bind fun r5 =>
 (some (a0,(r4.1,r5))))
 else
 (some (a0,(r4.1,(a3,()))))))))))
def f (k:Nat):=t k
end dj
namespace bw
abbrev Rs:Type:=Option ((Ty.den aI) × (Ty.den a_) × Int × Unit)
abbrev T0:Type:=Int→List Int→List (Ty.den aA)→Int→Int→Int→Int→List Int→List (Ty.den aA)→Int→Int→Int→Int→List (Ty.den aE)→Int→Int→Bool→List (Ty.den aE)→Int→Int→Bool→List Int→Rs
def b0 (k:Nat) (L0:T0):T0:=fun x0 x1 x2 x3 x4 x5 x6 x7 x8 x9 x10 x11 x12 x13 x14 x15 x16 x17 x18 x19 x20 x21 =>
 (bif (decide (x0<(x21.length:Int))) then
 (ba x0 (x21.length:Int)
 ((aT.f k (List.getD x21 (Int.toNat x0) (Ty.dflt (.int .i64)))).bind fun r18 =>
 (ba x0 (x21.length:Int)
 ((bo.f k (List.getD x21 (Int.toNat x0) (Ty.dflt (.int .i64)))).bind fun r19 =>
 ((cA.f k (x17,(x18,(x19,(x20,())))) [r18.1,r19.1]).bind fun r20 =>
 (bif (r20.2.1 != 0) then
 ((aY.f k r20.2.1).bind fun r21 =>
 (some (((x3,(x1,())),(x2,(x4,(x5,(x6,()))))),(r20.1,r21))))
 else
 (L0 (aF (x0+1)) x1 x2 x3 x4 x5 x6 x7 x8 x9 x10 x11 x12 x13 x14 x15 x16 r20.1.1 r20.1.2.1 r20.1.2.2.1 r20.1.2.2.2.1 x21)))))))
 else
 (some (((x3,(x1,())),(x2,(x4,(x5,(x6,()))))),((x17,(x18,(x19,(x20,())))),(0,())))))
def l0 (k:Nat):Nat→T0
 | 0=>fun _ _ _ _ _ _ _ _ _ _ _ _ _ _ _ _ _ _ _ _ _ _=>none
 | n+1=>b0 k (l0 k n)
def t (k:Nat) (L0:T0) (a0:Ty.den aI) (a1:Ty.den a_) (a2:List (Ty.den aE)):Rs :=
 ((dy.f k a1 a0.1.1 a2 (aF (a0.2.2.1-1))).bind fun r1 =>
 (bif (r1.2.2.1 != 0) then
 ((dj.f k (((aF (a0.1.1+2)),a0.1.2),a0.2) r1.1 a0.1.1 r1.2.2.1).bind fun r2 =>
 (some r2))
 else
 ((aT.f k (aF (a0.1.1+1))).bind fun r3 =>
 ((dr.f k r1.1 r3.1).bind fun r4 =>
 (bif (r4.2.1 != 0) then
 ((aY.f k r4.2.1).bind fun r5 =>
 ((dj.f k (((aF (a0.1.1+2)),a0.1.2),a0.2) r4.1 a0.1.1 r5.1).bind fun r6 =>
 (some r6)))
 else
 ((aT.f k a0.1.1).bind fun r7 =>
 ((bI.f k r4.1 r7.1).bind fun r8 =>
 ((cv.f k a0.1.1 r8.1).bind fun r9 =>
 ((bo.f k a0.1.1).bind fun r10 =>
 ((cH.f k r9.1).bind fun r11 =>
 ((h_.f k r4.1 r10.1 r11.1).bind fun r12 =>
 (bif (r12.2.1==2) then
 ((bo.f k a0.1.1).bind fun r13 =>
 ((cA.f k r12.1 [r13.1]).bind fun r14 =>
 (bif (r14.2.1 != 0) then
 ((aY.f k r14.2.1).bind fun r15 =>
 (some ((((aF (a0.1.1+2)),a0.1.2),a0.2),(r14.1,r15))))
 else
 (rm (Ty.bytes (.int .i64)) (0+List.length a0.1.2.1)
 ((f8.f k r14.1 ((aF (a0.1.1+2)),([a0.1.1,(aF (a0.1.1+1))],()))).bind fun r16 =>
 (bif (r16.2.1 != 0) then
 ((dj.f k (((aF (a0.1.1+2)),a0.1.2),a0.2) r16.1 a0.1.1 r16.2.1).bind fun r17 =>
 (some r17))
 else
 (L0 0 [a0.1.1,(aF (a0.1.1+1))] r1.2.1 (aF (a0.1.1+2)) a0.2.2.1 0 0 [] [] 0 0 0 0 [] 0 0 false r16.1.1 r16.1.2.1 r16.1.2.2.1 r16.1.2.2.2.1 ([]++a0.1.2.1))))))))
 else
 (bif (r12.2.1 != 0) then
 ((aY.f k r12.2.1).bind fun r22 =>
 (some ((((aF (a0.1.1+2)),a0.1.2),a0.2),(r12.1,r22))))
 else
 (rm (Ty.bytes (.int .i64)) (0+List.length a0.1.2.1)
 ((f8.f k r12.1 ((aF (a0.1.1+2)),([a0.1.1,(aF (a0.1.1+1))],()))).bind fun r23 =>
 (bif (r23.2.1 != 0) then
 ((dj.f k (((aF (a0.1.1+2)),a0.1.2),a0.2) r23.1 a0.1.1 r23.2.1).bind fun r24 =>
 (some r24))
 else
 (L0 0 [a0.1.1,(aF (a0.1.1+1))] r1.2.1 (aF (a0.1.1+2)) a0.2.2.1 0 0 [] [] 0 0 0 0 [] 0 0 false r23.1.1 r23.1.2.1 r23.1.2.2.1 r23.1.2.2.2.1 ([]++a0.1.2.1))))))))))))))))))
def f (k:Nat):=t k (l0 k k)
end bw
namespace kD
abbrev Rs:Type:=Option ((Ty.den aI) × (Ty.den a_) × Int × Unit)
def t (k:Nat) (a0:Ty.den aI) (a1:Ty.den a_):Rs :=
 ((fO.f k a0).bind fun r1 =>
 ((cU.f k a1).bind fun r2 =>
 ((cG.f k a0 a1).bind fun r3 =>
 (bif (!r3.1) then
 (some (r1.1,(r2.1,(4,()))))
 else
 (bif (decide ((aF (a0.1.1+2)) > 100000)) then
 (some (r1.1,(r2.1,(5,()))))
 else
 ((iZ.f k a0 a1).bind fun r4 =>
 (bif (r4.2.1 != 0) then
 (some (r1.1,(r2.1,r4.2)))
 else
 ((bw.f k r1.1 r2.1 r4.1).bind fun r5 =>
 (some r5)))))))))
def f (k:Nat):=t k
end kD
namespace fM
abbrev Rs:Type:=Option ((Ty.den ai) × (List (Ty.den gT)) × Unit)
abbrev T0:Type:=Int→List Int→Int→Int→List (Ty.den gT)→Rs
def b0 (k:Nat) (L0:T0):T0:=fun x0 x1 x2 x3 x4 =>
 (bif (decide (x0 > 0)) then
 ((eP.f k (x1,(x2,(x3,())))).bind fun r2 =>
 ((b9.f k r2.1 16).bind fun r3 =>
 ((bB.f k r3.1 4).bind fun r4 =>
 (bif r4.2.1 then
 (rm (Ty.bytes gT) (List.length x4+1)
 (L0 (aF (x0-1)) r4.1.1 r4.1.2.1 r4.1.2.2.1 (x4++[(r2.2.1,(true,(ByteArray.empty,())))])))
 else
 (rm (Ty.bytes gT) (List.length x4+1)
 (L0 (aF (x0-1)) r4.1.1 r4.1.2.1 r4.1.2.2.1 (x4++[(r2.2.1,(false,r3.2))])))))))
 else
 (some ((x1,(x2,(x3,()))),(x4,()))))
def l0 (k:Nat):Nat→T0
 | 0=>fun _ _ _ _ _=>none
 | n+1=>b0 k (l0 k n)
def t (k:Nat) (L0:T0) (a0:Ty.den ai):Rs :=
 ((aH.f k a0 4).bind fun r1 =>
 (L0 r1.2.1 r1.1.1 r1.1.2.1 r1.1.2.2.1 []))
def f (k:Nat):=t k (l0 k k)
end fM
namespace fK
abbrev Rs:Type:=Option (Bool × Unit)
abbrev T0:Type:=List (Ty.den gT)→Int→Rs
def b0 (k:Nat) (L0:T0):T0:=fun x0 x1 =>
 (bif (decide (x1<(x0.length:Int))) then
 (ba x1 (x0.length:Int)
 ((eO.f k (List.getD x0 (Int.toNat x1) (Ty.dflt gT)).1).bind fun r1 =>
 (bif (!r1.1) then
 (some (false,()))
 else
 (ba x1 (x0.length:Int)
 (bif (decide ((ByteArray.size (List.getD x0 (Int.toNat x1) (Ty.dflt gT)).2.2.1:Int) > 24)) then
 (some (false,()))
 else
 (ba x1 (x0.length:Int)
 (bif (List.getD x0 (Int.toNat x1) (Ty.dflt gT)).2.1 then
 (ba x1 (x0.length:Int)
 (bif (!(seq (List.getD x0 (Int.toNat x1) (Ty.dflt gT)).2.2.1 (⟨#[]⟩:ByteArray))) then
 (some (false,()))
 else
 (L0 x0 (aF (x1+1)))))
 else
 (L0 x0 (aF (x1+1))))))))))
 else
 (some (true,())))
def l0 (k:Nat):Nat→T0
 | 0=>fun _ _=>none
 | n+1=>b0 k (l0 k n)
def t (k:Nat) (L0:T0) (a0:List (Ty.den gT)):Rs :=
 (bif (decide ((List.length a0:Int) > 8)) then
 (some (false,()))
 else
 (L0 a0 0))
def f (k:Nat):=t k (l0 k k)
end fK
namespace dE
abbrev Rs:Type:=Option (Int × Unit)
abbrev T1:Type:=List (Ty.den gT)→Int→List (Ty.den aA)→Rs
abbrev T0:Type:=List (Ty.den aA)→List (Ty.den gT)→Int→Rs
def b1 (k:Nat) (L1:T1):T1:=fun x0 x1 x2 =>
 (bif (decide (x1<(x0.length:Int))) then
 (ba x1 (x0.length:Int)
 (bif (List.getD x0 (Int.toNat x1) (Ty.dflt gT)).2.1 then
 (ba x1 (x0.length:Int)
 ((dA.f k x2 (List.getD x0 (Int.toNat x1) (Ty.dflt gT)).1).bind fun r2 =>
 (L1 x0 (aF (x1+1)) r2.1)))
 else
 (ba x1 (x0.length:Int)
 ((bn.f k x2 ((List.getD x0 (Int.toNat x1) (Ty.dflt gT)).1,(0,(0,(0,(0,())))))).bind fun r3 =>
 (L1 x0 (aF (x1+1)) r3.1)))))
 else
 (some ((x2.length:Int),())))
def l1 (k:Nat):Nat→T1
 | 0=>fun _ _ _=>none
 | n+1=>b1 k (l1 k n)
def b0 (k:Nat) (L1:T1):T0:=fun x0 x1 x2 =>
 (bif (decide (x2<(x1.length:Int))) then
 (ba x2 (x1.length:Int)
 (bif (List.getD x1 (Int.toNat x2) (Ty.dflt gT)).2.1 then
 (ba x2 (x1.length:Int)
 ((dA.f k x0 (List.getD x1 (Int.toNat x2) (Ty.dflt gT)).1).bind fun r1 =>
 (L1 x1 (aF (x2+1)) r1.1)))
 else
 (ba x2 (x1.length:Int)
 ((bn.f k x0 ((List.getD x1 (Int.toNat x2) (Ty.dflt gT)).1,(0,(0,(0,(0,())))))).bind fun r4 =>
 (L1 x1 (aF (x2+1)) r4.1)))))
 else
 (some ((x0.length:Int),())))
def l0 (k:Nat):Nat→T0
 | 0=>fun _ _ _=>none
 | n+1=>b0 k (l1 k n)
def t (k:Nat) (L0:T0) (a0:List (Ty.den aA)) (a1:List (Ty.den gT)):Rs :=
 (L0 a0 a1 0)
def f (k:Nat):=t k (l0 k k)
end dE
namespace d7
abbrev Rs:Type:=Option (ByteArray × Unit)
def t (k:Nat) (a0:Ty.den aI):Rs :=
 (ba (aF ((List.length a0.1.2.1:Int)-1)) (List.length a0.1.2.1:Int)
 ((aT.f k (List.getD a0.1.2.1 (Int.toNat (aF ((List.length a0.1.2.1:Int)-1))) (Ty.dflt (.int .i64)))).bind fun r1 =>
 (some r1)))
def f (k:Nat):=t k
end d7
namespace fe
abbrev Rs:Type:=Option ((Ty.den aI) × (Ty.den a_) × Int × Unit)
def t (k:Nat) (a0:Ty.den aI) (a1:Ty.den a_):Rs :=
 (bif (decide ((List.length a0.1.2.1:Int)≥60)) then
 (some (a0,(a1,(5,()))))
 else
 (bif (decide (a0.1.1≥100000)) then
 (some (a0,(a1,(5,()))))
 else
 ((d7.f k a0).bind fun r1 =>
 ((cy.f k a1 r1.1).bind fun r2 =>
 (bif (r2.2.1 != 0) then
 ((aY.f k r2.2.1).bind fun r3 =>
 (some (a0,(r2.1,r3))))
 else
 ((aT.f k a0.1.1).bind fun r4 =>
 ((dr.f k r2.1 r4.1).bind fun r5 =>
 (bif (r5.2.1 != 0) then
 ((aY.f k r5.2.1).bind fun r6 =>
 (some ((((aF (a0.1.1+1)),a0.1.2),a0.2),(r5.1,r6))))
 else
 (rm (Ty.bytes (.int .i64)) (0+List.length a0.1.2.1)
 (rm (Ty.bytes (.int .i64)) (List.length ([]++a0.1.2.1)+1)
 ((f8.f k r5.1 ((aF (a0.1.1+1)),((([]++a0.1.2.1)++[a0.1.1]),()))).bind fun r7 =>
 (bif (r7.2.1==2) then
 ((aT.f k a0.1.1).bind fun r8 =>
 ((cA.f k r7.1 [(⟨#[116,101,109,112]⟩:ByteArray),r8.1]).bind fun r9 =>
 (bif (r9.2.1 != 0) then
 ((aY.f k r9.2.1).bind fun r10 =>
 (some ((((aF (a0.1.1+1)),a0.1.2),a0.2),(r9.1,r10))))
 else
 (some ((((aF (a0.1.1+1)),a0.1.2),a0.2),(r9.1,r7.2))))))
 else
 (bif (r7.2.1 != 0) then
 (some ((((aF (a0.1.1+1)),a0.1.2),a0.2),r7))
 else
 (some ((((aF (a0.1.1+1)),((([]++a0.1.2.1)++[a0.1.1]),())),(a0.2.1,(a0.2.2.1,(0,a0.2.2.2.2)))),(r7.1,(0,())))))))))))))))))
def f (k:Nat):=t k
end fe
namespace eR
abbrev Rs:Type:=Option ((Ty.den aI) × (Ty.den a_) × (Ty.den aC) × Int × Unit)
def t (k:Nat) (a0:Ty.den aI) (a1:Ty.den a_) (a2:Ty.den bU):Rs :=
 ((bL.f k a2).bind fun r1 =>
 ((d9.f k r1.1).bind fun r2 =>
 (bif (decide (a0.2.2.2.1 > 0)) then
 (bif (decide ((aF (a0.2.2.2.1+(ByteArray.size r2.1:Int))) > 200)) then
 ((fe.f k a0 a1).bind fun r3 =>
 (bif (r3.2.2.1 != 0) then
 (some (r3.1,(r3.2.1,((0,(0,(0,((0,(0,(ByteArray.empty,(ByteArray.empty,(0,(0,())))))),())))),r3.2.2))))
 else
 ((d7.f k r3.1).bind fun r4 =>
 ((cI.f k r3.2.1 r4.1 r2.1).bind fun r5 =>
 (bif (r5.2.1 != 0) then
 ((aY.f k r5.2.1).bind fun r6 =>
 (some (r3.1,(r5.1,((0,(0,(0,((0,(0,(ByteArray.empty,(ByteArray.empty,(0,(0,())))))),())))),r6)))))
 else
 (ba (aF ((List.length r3.1.1.2.1:Int)-1)) (List.length r3.1.1.2.1:Int)
 (some ((r3.1.1,(r3.1.2.1,(r3.1.2.2.1,((aF (r3.1.2.2.2.1+(ByteArray.size r2.1:Int))),r3.1.2.2.2.2)))),(r5.1,(((List.getD r3.1.1.2.1 (Int.toNat (aF ((List.length r3.1.1.2.1:Int)-1))) (Ty.dflt (.int .i64))),(r3.1.2.2.2.1,((ByteArray.size r2.1:Int),(a2,())))),(0,())))))))))))
 else
 ((d7.f k a0).bind fun r7 =>
 ((cI.f k a1 r7.1 r2.1).bind fun r8 =>
 (bif (r8.2.1 != 0) then
 ((aY.f k r8.2.1).bind fun r9 =>
 (some (a0,(r8.1,((0,(0,(0,((0,(0,(ByteArray.empty,(ByteArray.empty,(0,(0,())))))),())))),r9)))))
 else
 (ba (aF ((List.length a0.1.2.1:Int)-1)) (List.length a0.1.2.1:Int)
 (some ((a0.1,(a0.2.1,(a0.2.2.1,((aF (a0.2.2.2.1+(ByteArray.size r2.1:Int))),a0.2.2.2.2)))),(r8.1,(((List.getD a0.1.2.1 (Int.toNat (aF ((List.length a0.1.2.1:Int)-1))) (Ty.dflt (.int .i64))),(a0.2.2.2.1,((ByteArray.size r2.1:Int),(a2,())))),(0,()))))))))))
 else
 ((d7.f k a0).bind fun r10 =>
 ((cI.f k a1 r10.1 r2.1).bind fun r11 =>
 (bif (r11.2.1 != 0) then
 ((aY.f k r11.2.1).bind fun r12 =>
 (some (a0,(r11.1,((0,(0,(0,((0,(0,(ByteArray.empty,(ByteArray.empty,(0,(0,())))))),())))),r12)))))
 else
 (ba (aF ((List.length a0.1.2.1:Int)-1)) (List.length a0.1.2.1:Int)
 (some ((a0.1,(a0.2.1,(a0.2.2.1,((aF (a0.2.2.2.1+(ByteArray.size r2.1:Int))),a0.2.2.2.2)))),(r11.1,(((List.getD a0.1.2.1 (Int.toNat (aF ((List.length a0.1.2.1:Int)-1))) (Ty.dflt (.int .i64))),(a0.2.2.2.1,((ByteArray.size r2.1:Int),(a2,())))),(0,()))))))))))))
def f (k:Nat):=t k
end eR
namespace bd
abbrev Rs:Type:=Option ((Ty.den aI) × (Ty.den a_) × Int × Unit)
abbrev T0:Type:=Int→Int→List (Ty.den gT)→List Int→List (Ty.den aA)→Int→Int→Int→Int→List (Ty.den aE)→Int→Int→Bool→List Int→List (Ty.den aA)→Int→Int→Int→Int→List (Ty.den aE)→Int→Int→Bool→List (Ty.den bU)→List (Ty.den aA)→Rs
def b0 (k:Nat) (L0:T0):T0:=fun x0 x1 x2 x3 x4 x5 x6 x7 x8 x9 x10 x11 x12 x13 x14 x15 x16 x17 x18 x19 x20 x21 x22 x23 x24 =>
 (bif (decide (x1<(x2.length:Int))) then
 (ba x1 (x2.length:Int)
 (ba x1 (x2.length:Int)
 (ba x1 (x2.length:Int)
 (bif (List.getD x2 (Int.toNat x1) (Ty.dflt gT)).2.1 then
 ((eR.f k ((x5,(x3,())),(x4,(x6,(x7,(x8,()))))) (x9,(x10,(x11,(x12,())))) (2,(x0,((List.getD x2 (Int.toNat x1) (Ty.dflt gT)).1,((List.getD x2 (Int.toNat x1) (Ty.dflt gT)).2.2.1,(0,(0,()))))))).bind fun r1 =>
 (bif (r1.2.2.2.1 != 0) then
 (some (r1.1,(r1.2.1,r1.2.2.2)))
 else
 ((iF.f k x24 r1.2.2.1).bind fun r2 =>
 (rm (Ty.bytes bU) (List.length x23+1)
 (L0 x0 (aF (x1+1)) x2 r1.1.1.2.1 r1.1.2.1 r1.1.1.1 r1.1.2.2.1 r1.1.2.2.2.1 r1.1.2.2.2.2.1 r1.2.1.1 r1.2.1.2.1 r1.2.1.2.2.1 r1.2.1.2.2.2.1 x13 x14 x15 x16 x17 x18 x19 x20 x21 x22 (x23++[(2,(x0,((List.getD x2 (Int.toNat x1) (Ty.dflt gT)).1,((List.getD x2 (Int.toNat x1) (Ty.dflt gT)).2.2.1,(0,(0,()))))))]) r2.1)))))
 else
 ((eR.f k ((x5,(x3,())),(x4,(x6,(x7,(x8,()))))) (x9,(x10,(x11,(x12,())))) (1,(x0,((List.getD x2 (Int.toNat x1) (Ty.dflt gT)).1,((List.getD x2 (Int.toNat x1) (Ty.dflt gT)).2.2.1,(0,(0,()))))))).bind fun r3 =>
 (bif (r3.2.2.2.1 != 0) then
 (some (r3.1,(r3.2.1,r3.2.2.2)))
 else
 ((iF.f k x24 r3.2.2.1).bind fun r4 =>
 (rm (Ty.bytes bU) (List.length x23+1)
 (L0 x0 (aF (x1+1)) x2 r3.1.1.2.1 r3.1.2.1 r3.1.1.1 r3.1.2.2.1 r3.1.2.2.2.1 r3.1.2.2.2.2.1 r3.2.1.1 r3.2.1.2.1 r3.2.1.2.2.1 r3.2.1.2.2.2.1 x13 x14 x15 x16 x17 x18 x19 x20 x21 x22 (x23++[(1,(x0,((List.getD x2 (Int.toNat x1) (Ty.dflt gT)).1,((List.getD x2 (Int.toNat x1) (Ty.dflt gT)).2.2.1,(0,(0,()))))))]) r4.1)))))))))
 else
 ((eo.f k x23 x0 3).bind fun r5 =>
 ((eR.f k ((x5,(x3,())),(x4,(x6,(x7,(x8,()))))) (x9,(x10,(x11,(x12,())))) r5.1).bind fun r6 =>
 (bif (r6.2.2.2.1 != 0) then
 (some (r6.1,(r6.2.1,r6.2.2.2)))
 else
 ((d7.f k r6.1).bind fun r7 =>
 ((cy.f k r6.2.1 r7.1).bind fun r8 =>
 (bif (r8.2.1 != 0) then
 ((aY.f k r8.2.1).bind fun r9 =>
 (some (r6.1,(r8.1,r9))))
 else
 (some ((r6.1.1,(x24,r6.1.2.2)),(r8.1,(0,())))))))))))
def l0 (k:Nat):Nat→T0
 | 0=>fun _ _ _ _ _ _ _ _ _ _ _ _ _ _ _ _ _ _ _ _ _ _ _ _ _=>none
 | n+1=>b0 k (l0 k n)
def t (k:Nat) (L0:T0) (a0:Ty.den aI) (a1:Ty.den a_) (a2:List (Ty.den gT)):Rs :=
 (rm (Ty.bytes aA) (0+List.length a0.2.1)
 (L0 a0.2.2.1 0 a2 a0.1.2.1 a0.2.1 a0.1.1 (aF (a0.2.2.1+1)) a0.2.2.2.1 a0.2.2.2.2.1 a1.1 a1.2.1 a1.2.2.1 a1.2.2.2.1 [] [] 0 0 0 0 [] 0 0 false [] ([]++a0.2.1)))
def f (k:Nat):=t k (l0 k k)
end bd
namespace i_
abbrev Rs:Type:=Option ((Ty.den aI) × (Ty.den a_) × Int × Unit)
def t (k:Nat) (a0:Ty.den aI) (a1:Ty.den a_) (a2:List (Ty.den gT)):Rs :=
 ((fO.f k a0).bind fun r1 =>
 ((cU.f k a1).bind fun r2 =>
 ((cG.f k a0 a1).bind fun r3 =>
 (bif (!r3.1) then
 (some (r1.1,(r2.1,(4,()))))
 else
 ((fK.f k a2).bind fun r4 =>
 (bif (!r4.1) then
 (some (r1.1,(r2.1,(4,()))))
 else
 (bif ((List.length a2:Int)==0) then
 (some (r1.1,(r2.1,(0,()))))
 else
 ((dE.f k a0.2.1 a2).bind fun r5 =>
 (bif (decide (r5.1 > 20)) then
 (some (r1.1,(r2.1,(5,()))))
 else
 (bif (decide (a0.2.2.1 > 1000000)) then
 (some (r1.1,(r2.1,(5,()))))
 else
 ((bd.f k r1.1 r2.1 a2).bind fun r6 =>
 (some r6))))))))))))
def f (k:Nat):=t k
end i_
namespace dx
abbrev Rs:Type:=Option ((Ty.den ai) × (Ty.den aI) × (Ty.den a_) × Unit)
abbrev T0:Type:=Int→List Int→Int→Int→List Int→List (Ty.den aA)→Int→Int→Int→Int→List (Ty.den aE)→Int→Int→Bool→List Int→List (Ty.den aA)→Int→Int→Int→Int→List (Ty.den aE)→Int→Int→Bool→Rs
def b0 (k:Nat) (L0:T0):T0:=fun x0 x1 x2 x3 x4 x5 x6 x7 x8 x9 x10 x11 x12 x13 x14 x15 x16 x17 x18 x19 x20 x21 x22 x23 =>
 (bif (decide (x0 > 0)) then
 (bif ((x14.length:Int)==0) then
 (some ((x1,(x2,(x3,()))),(((x16,(x14,())),(x15,(x17,(x18,(x19,()))))),((x20,(x21,(x22,(x23,())))),()))))
 else
 ((bB.f k (x1,(x2,(x3,()))) 6).bind fun r5 =>
 (bif r5.2.1 then
 ((kD.f k ((x16,(x14,())),(x15,(x17,(x18,(x19,()))))) (x20,(x21,(x22,(x23,()))))).bind fun r6 =>
 (L0 (aF (x0-1)) r5.1.1 r5.1.2.1 r5.1.2.2.1 x4 x5 x6 x7 x8 x9 x10 x11 x12 x13 r6.1.1.2.1 r6.1.2.1 r6.1.1.1 r6.1.2.2.1 r6.1.2.2.2.1 r6.1.2.2.2.2.1 r6.2.1.1 r6.2.1.2.1 r6.2.1.2.2.1 r6.2.1.2.2.2.1))
 else
 ((fM.f k r5.1).bind fun r7 =>
 ((i_.f k ((x16,(x14,())),(x15,(x17,(x18,(x19,()))))) (x20,(x21,(x22,(x23,())))) r7.2.1).bind fun r8 =>
 (L0 (aF (x0-1)) r7.1.1 r7.1.2.1 r7.1.2.2.1 x4 x5 x6 x7 x8 x9 x10 x11 x12 x13 r8.1.1.2.1 r8.1.2.1 r8.1.1.1 r8.1.2.2.1 r8.1.2.2.2.1 r8.1.2.2.2.2.1 r8.2.1.1 r8.2.1.2.1 r8.2.1.2.2.1 r8.2.1.2.2.2.1))))))
 else
 (some ((x1,(x2,(x3,()))),(((x16,(x14,())),(x15,(x17,(x18,(x19,()))))),((x20,(x21,(x22,(x23,())))),())))))
def l0 (k:Nat):Nat→T0
 | 0=>fun _ _ _ _ _ _ _ _ _ _ _ _ _ _ _ _ _ _ _ _ _ _ _ _=>none
 | n+1=>b0 k (l0 k n)
def t (k:Nat) (L0:T0) (a0:Ty.den ai):Rs :=
 ((ch.f k a0 [100000,100000,400,250]).bind fun r1 =>
 ((eM.f k r1.2.1).bind fun r2 =>
 ((bG.f k r2.1).bind fun r3 =>
 ((aH.f k r1.1 7).bind fun r4 =>
 (L0 r4.2.1 r4.1.1 r4.1.2.1 r4.1.2.2.1 [] [] 0 0 0 0 [] 0 0 false r3.1.1.2.1 r3.1.2.1 r3.1.1.1 r3.1.2.2.1 r3.1.2.2.2.1 r3.1.2.2.2.2.1 r3.2.1.1 r3.2.1.2.1 r3.2.1.2.2.1 r3.2.1.2.2.2.1)))))
def f (k:Nat):=t k (l0 k k)
end dx
namespace j5
abbrev Rs:Type:=Option ((Ty.den ai) × (Ty.den aA) × Unit)
def t (k:Nat) (a0:Ty.den ai):Rs :=
 ((eP.f k a0).bind fun r1 =>
 ((aH.f k r1.1 4).bind fun r2 =>
 ((aH.f k r2.1 90).bind fun r3 =>
 ((aH.f k r3.1 30).bind fun r4 =>
 ((aH.f k r4.1 9).bind fun r5 =>
 (some (r5.1,((r1.2.1,((aF (1+r2.2.1)),(r3.2.1,((aF (8+r4.2.1)),((aF (1+r5.2.1)),()))))),()))))))))
def f (k:Nat):=t k
end j5
namespace gd
abbrev Rs:Type:=Option ((Ty.den ai) × (List (Ty.den aA)) × Unit)
abbrev T0:Type:=Int→List Int→Int→Int→List (Ty.den aA)→Rs
def b0 (k:Nat) (L0:T0):T0:=fun x0 x1 x2 x3 x4 =>
 (bif (decide (x0 > 0)) then
 ((j5.f k (x1,(x2,(x3,())))).bind fun r2 =>
 ((bn.f k x4 r2.2.1).bind fun r3 =>
 (L0 (aF (x0-1)) r2.1.1 r2.1.2.1 r2.1.2.2.1 r3.1)))
 else
 (bif (decide ((x4.length:Int) > 0)) then
 ((bB.f k (x1,(x2,(x3,()))) 8).bind fun r4 =>
 (bif r4.2.1 then
 ((aH.f k r4.1 (x4.length:Int)).bind fun r5 =>
 ((aH.f k r5.1 4).bind fun r6 =>
 (bif (r6.2.1==0) then
 ((eI.f k r6.1 [(⟨#[]⟩:ByteArray),(⟨#[122,122,122,122,122,122,122,122,122]⟩:ByteArray),(⟨#[97]⟩:ByteArray)]).bind fun r7 =>
 (ba r5.2.1 (x4.length:Int)
 (let l8:=(List.set x4 (Int.toNat r5.2.1) (r7.2.1,(List.getD x4 (Int.toNat r5.2.1) (Ty.dflt aA)).2));
 (some (r7.1,(l8,()))))))
 else
 (bif (r6.2.1==1) then
 (ba r5.2.1 (x4.length:Int)
 (let l9:=(List.set x4 (Int.toNat r5.2.1) ((List.getD x4 (Int.toNat r5.2.1) (Ty.dflt aA)).1,(0,(List.getD x4 (Int.toNat r5.2.1) (Ty.dflt aA)).2.2)));
 (some (r6.1,(l9,())))))
 else
 (bif (r6.2.1==2) then
 ((ch.f k r6.1 [0,210,211]).bind fun r10 =>
 (ba r5.2.1 (x4.length:Int)
 (let l11:=(List.set x4 (Int.toNat r5.2.1) ((List.getD x4 (Int.toNat r5.2.1) (Ty.dflt aA)).1,((List.getD x4 (Int.toNat r5.2.1) (Ty.dflt aA)).2.1,((List.getD x4 (Int.toNat r5.2.1) (Ty.dflt aA)).2.2.1,(r10.2.1,(List.getD x4 (Int.toNat r5.2.1) (Ty.dflt aA)).2.2.2.2)))));
 (some (r10.1,(l11,()))))))
 else
 ((ch.f k r6.1 [0,1000001]).bind fun r12 =>
 (ba r5.2.1 (x4.length:Int)
 (let l13:=(List.set x4 (Int.toNat r5.2.1) ((List.getD x4 (Int.toNat r5.2.1) (Ty.dflt aA)).1,((List.getD x4 (Int.toNat r5.2.1) (Ty.dflt aA)).2.1,((List.getD x4 (Int.toNat r5.2.1) (Ty.dflt aA)).2.2.1,((List.getD x4 (Int.toNat r5.2.1) (Ty.dflt aA)).2.2.2.1,r12.2)))));
 (some (r12.1,(l13,())))))))))))
 else
 (some (r4.1,(x4,())))))
 else
 (some ((x1,(x2,(x3,()))),(x4,())))))
def l0 (k:Nat):Nat→T0
 | 0=>fun _ _ _ _ _=>none
 | n+1=>b0 k (l0 k n)
def t (k:Nat) (L0:T0) (a0:Ty.den ai):Rs :=
 ((aH.f k a0 7).bind fun r1 =>
 (L0 r1.2.1 r1.1.1 r1.1.2.1 r1.1.2.2.1 []))
def f (k:Nat):=t k (l0 k k)
end gd
namespace gD
abbrev Rs:Type:=Option ((Ty.den ai) × ByteArray × Unit)
def t (k:Nat) (a0:Ty.den ai):Rs :=
 ((eI.f k a0 [(⟨#[108,105,118,101]⟩:ByteArray),(⟨#[115,101,103,49]⟩:ByteArray),(⟨#[115,101,103,50]⟩:ByteArray),(⟨#[115,101,103,51]⟩:ByteArray),(⟨#[116,101,109,112]⟩:ByteArray),(⟨#[104,105,110,116,49]⟩:ByteArray),(⟨#[120]⟩:ByteArray),(⟨#[97,57]⟩:ByteArray)]).bind fun r1 =>
 (some r1))
def f (k:Nat):=t k
end gD
namespace eC
abbrev Rs:Type:=Option ((Ty.den ai) × (Ty.den a_) × Unit)
abbrev T0:Type:=Int→List Int→Int→Int→List (Ty.den aE)→Int→Int→Bool→List (Ty.den aE)→Int→Int→Bool→Rs
def b0 (k:Nat) (L0:T0):T0:=fun x0 x1 x2 x3 x4 x5 x6 x7 x8 x9 x10 x11 =>
 (bif (decide (x0 > 0)) then
 ((gD.f k (x1,(x2,(x3,())))).bind fun r3 =>
 ((aH.f k r3.1 6).bind fun r4 =>
 (bif (r4.2.1==0) then
 (bif (r4.2.1==0) then
 ((eG.f k (x8,(x9,(x10,(x11,())))) r3.2.1).bind fun r5 =>
 (L0 (aF (x0-1)) r4.1.1 r4.1.2.1 r4.1.2.2.1 x4 x5 x6 x7 r5.1.1 r5.1.2.1 r5.1.2.2.1 r5.1.2.2.2.1))
 else
 (bif (r4.2.1==2) then
 (bif (r4.2.1==2) then
 ((b9.f k r4.1 9).bind fun r6 =>
 ((cI.f k (x8,(x9,(x10,(x11,())))) r3.2.1 r6.2.1).bind fun r7 =>
 (L0 (aF (x0-1)) r6.1.1 r6.1.2.1 r6.1.2.2.1 x4 x5 x6 x7 r7.1.1 r7.1.2.1 r7.1.2.2.1 r7.1.2.2.2.1)))
 else
 (bif (r4.2.1==4) then
 ((cy.f k (x8,(x9,(x10,(x11,())))) r3.2.1).bind fun r8 =>
 (L0 (aF (x0-1)) r4.1.1 r4.1.2.1 r4.1.2.2.1 x4 x5 x6 x7 r8.1.1 r8.1.2.1 r8.1.2.2.1 r8.1.2.2.2.1))
 else
 ((gD.f k r4.1).bind fun r9 =>
 ((fb.f k (x8,(x9,(x10,(x11,())))) r3.2.1 r9.2.1).bind fun r10 =>
 (L0 (aF (x0-1)) r9.1.1 r9.1.2.1 r9.1.2.2.1 x4 x5 x6 x7 r10.1.1 r10.1.2.1 r10.1.2.2.1 r10.1.2.2.2.1)))))
 else
 (bif (r4.2.1==3) then
 ((b9.f k r4.1 9).bind fun r11 =>
 ((cI.f k (x8,(x9,(x10,(x11,())))) r3.2.1 r11.2.1).bind fun r12 =>
 (L0 (aF (x0-1)) r11.1.1 r11.1.2.1 r11.1.2.2.1 x4 x5 x6 x7 r12.1.1 r12.1.2.1 r12.1.2.2.1 r12.1.2.2.2.1)))
 else
 (bif (r4.2.1==4) then
 ((cy.f k (x8,(x9,(x10,(x11,())))) r3.2.1).bind fun r13 =>
 (L0 (aF (x0-1)) r4.1.1 r4.1.2.1 r4.1.2.2.1 x4 x5 x6 x7 r13.1.1 r13.1.2.1 r13.1.2.2.1 r13.1.2.2.2.1))
 else
 ((gD.f k r4.1).bind fun r14 =>
 ((fb.f k (x8,(x9,(x10,(x11,())))) r3.2.1 r14.2.1).bind fun r15 =>
 (L0 (aF (x0-1)) r14.1.1 r14.1.2.1 r14.1.2.2.1 x4 x5 x6 x7 r15.1.1 r15.1.2.1 r15.1.2.2.1 r15.1.2.2.2.1)))))))
 else
 (bif (r4.2.1==1) then
 ((eG.f k (x8,(x9,(x10,(x11,())))) r3.2.1).bind fun r16 =>
 (L0 (aF (x0-1)) r4.1.1 r4.1.2.1 r4.1.2.2.1 x4 x5 x6 x7 r16.1.1 r16.1.2.1 r16.1.2.2.1 r16.1.2.2.2.1))
 else
 (bif (r4.2.1==2) then
 (bif (r4.2.1==2) then
 ((b9.f k r4.1 9).bind fun r17 =>
 ((cI.f k (x8,(x9,(x10,(x11,())))) r3.2.1 r17.2.1).bind fun r18 =>
 (L0 (aF (x0-1)) r17.1.1 r17.1.2.1 r17.1.2.2.1 x4 x5 x6 x7 r18.1.1 r18.1.2.1 r18.1.2.2.1 r18.1.2.2.2.1)))
 else
 (bif (r4.2.1==4) then
 ((cy.f k (x8,(x9,(x10,(x11,())))) r3.2.1).bind fun r19 =>
 (L0 (aF (x0-1)) r4.1.1 r4.1.2.1 r4.1.2.2.1 x4 x5 x6 x7 r19.1.1 r19.1.2.1 r19.1.2.2.1 r19.1.2.2.2.1))
 else
 ((gD.f k r4.1).bind fun r20 =>
 ((fb.f k (x8,(x9,(x10,(x11,())))) r3.2.1 r20.2.1).bind fun r21 =>
 (L0 (aF (x0-1)) r20.1.1 r20.1.2.1 r20.1.2.2.1 x4 x5 x6 x7 r21.1.1 r21.1.2.1 r21.1.2.2.1 r21.1.2.2.2.1)))))
 else
 (bif (r4.2.1==3) then
 ((b9.f k r4.1 9).bind fun r22 =>
 ((cI.f k (x8,(x9,(x10,(x11,())))) r3.2.1 r22.2.1).bind fun r23 =>
 (L0 (aF (x0-1)) r22.1.1 r22.1.2.1 r22.1.2.2.1 x4 x5 x6 x7 r23.1.1 r23.1.2.1 r23.1.2.2.1 r23.1.2.2.2.1)))
 else
 (bif (r4.2.1==4) then
 ((cy.f k (x8,(x9,(x10,(x11,())))) r3.2.1).bind fun r24 =>
 (L0 (aF (x0-1)) r4.1.1 r4.1.2.1 r4.1.2.2.1 x4 x5 x6 x7 r24.1.1 r24.1.2.1 r24.1.2.2.1 r24.1.2.2.2.1))
 else
 ((gD.f k r4.1).bind fun r25 =>
 ((fb.f k (x8,(x9,(x10,(x11,())))) r3.2.1 r25.2.1).bind fun r26 =>
 (L0 (aF (x0-1)) r25.1.1 r25.1.2.1 r25.1.2.2.1 x4 x5 x6 x7 r26.1.1 r26.1.2.1 r26.1.2.2.1 r26.1.2.2.2.1))))))))))
 else
 (some ((x1,(x2,(x3,()))),((x8,(x9,(x10,(x11,())))),()))))
def l0 (k:Nat):Nat→T0
 | 0=>fun _ _ _ _ _ _ _ _ _ _ _ _=>none
 | n+1=>b0 k (l0 k n)
def t (k:Nat) (L0:T0) (a0:Ty.den ai):Rs :=
 ((eM.f k 200).bind fun r1 =>
 ((aH.f k a0 12).bind fun r2 =>
 (L0 r2.2.1 r2.1.1 r2.1.2.1 r2.1.2.2.1 [] 0 0 false r1.1.1 r1.1.2.1 r1.1.2.2.1 r1.1.2.2.2.1)))
def f (k:Nat):=t k (l0 k k)
end eC
namespace gn
abbrev Rs:Type:=Option ((Ty.den ai) × (Ty.den a_) × Unit)
abbrev T0:Type:=Int→List Int→Int→Int→List (Ty.den aE)→Int→Int→Bool→List (Ty.den aE)→Int→Int→Bool→Rs
def b0 (k:Nat) (L0:T0):T0:=fun x0 x1 x2 x3 x4 x5 x6 x7 x8 x9 x10 x11 =>
 ((aH.f k (x1,(x2,(x3,()))) 3).bind fun r11 =>
 (bif (decide (x0<(aF (129+r11.2.1)))) then
 (bif (decide ((x8.length:Int)<131)) then
 ((dZ.f k (aF (100+x0))).bind fun r12 =>
 (jk (⟨#[121]⟩:ByteArray) r12.1
 (rm (Ty.bytes aE) (List.length x8+1)
 (L0 (aF (x0+1)) r11.1.1 r11.1.2.1 r11.1.2.2.1 x4 x5 x6 x7 (x8++[(((⟨#[121]⟩:ByteArray)++r12.1),(ByteArray.empty,(0,())))]) x9 x10 x11))))
 else
 (some (r11.1,((x8,(x9,(x10,(x11,())))),()))))
 else
 (some (r11.1,((x8,(x9,(x10,(x11,())))),())))))
def l0 (k:Nat):Nat→T0
 | 0=>fun _ _ _ _ _ _ _ _ _ _ _ _=>none
 | n+1=>b0 k (l0 k n)
def t (k:Nat) (L0:T0) (a0:Ty.den ai):Rs :=
 ((eC.f k a0).bind fun r1 =>
 ((aH.f k r1.1 14).bind fun r2 =>
 (bif (r2.2.1==0) then
 ((ch.f k r2.1 [0,1,(-2),(-1)]).bind fun r3 =>
 (some (r3.1,((r1.2.1.1,(r1.2.1.2.1,(r3.2.1,r1.2.1.2.2.2))),()))))
 else
 (bif (r2.2.1==1) then
 (some (r2.1,((r1.2.1.1,(r1.2.1.2.1,(r1.2.1.2.2.1,(true,())))),())))
 else
 (bif (r2.2.1==2) then
 ((db.f k r1.2.1).bind fun r4 =>
 ((db.f k r1.2.1).bind fun r5 =>
 ((ch.f k r2.1 [(-1),5,r4.1,(aF (r5.1+3)),100000,100001]).bind fun r6 =>
 (some (r6.1,((r1.2.1.1,(r6.2.1,r1.2.1.2.2)),()))))))
 else
 (bif (r2.2.1==3) then
 (bif (decide ((List.length r1.2.1.1:Int) > 0)) then
 ((aH.f k r2.1 9).bind fun r7 =>
 (ba 0 (List.length r1.2.1.1:Int)
 (let l8:=(List.set r1.2.1.1 0 ((List.getD r1.2.1.1 0 (Ty.dflt aE)).1,((List.getD r1.2.1.1 0 (Ty.dflt aE)).2.1,((aF (r7.2.1-1)),(List.getD r1.2.1.1 0 (Ty.dflt aE)).2.2.2))));
 (some (r7.1,((l8,r1.2.1.2),()))))))
 else
 (some (r2.1,r1.2)))
 else
 (bif (r2.2.1==4) then
 (bif (decide ((List.length r1.2.1.1:Int) > 0)) then
 ((eI.f k r2.1 [(⟨#[]⟩:ByteArray),(⟨#[65]⟩:ByteArray),(⟨#[122,122]⟩:ByteArray),(⟨#[116,111,111,108,111,110,103,97,110,97,109,101,49]⟩:ByteArray)]).bind fun r9 =>
 (ba 0 (List.length r1.2.1.1:Int)
 (let l10:=(List.set r1.2.1.1 0 (r9.2.1,(List.getD r1.2.1.1 0 (Ty.dflt aE)).2));
 (some (r9.1,((l10,r1.2.1.2),()))))))
 else
 (some (r2.1,r1.2)))
 else
 (bif (r2.2.1==5) then
 (L0 0 r2.1.1 r2.1.2.1 r2.1.2.2.1 [] 0 0 false r1.2.1.1 r1.2.1.2.1 r1.2.1.2.2.1 r1.2.1.2.2.2.1)
 else
 (some (r2.1,r1.2))))))))))
def f (k:Nat):=t k (l0 k k)
end gn
namespace jb
abbrev Rs:Type:=Option ((Ty.den ai) × (Ty.den aI) × (Ty.den a_) × Unit)
def t (k:Nat) (a0:Ty.den ai):Rs :=
 ((dx.f k a0).bind fun r1 =>
 ((aH.f k r1.1 16).bind fun r2 =>
 (bif (r2.2.1==0) then
 (some (r2.1,((r1.2.1.1,(r1.2.1.2.1,(r1.2.1.2.2.1,((aF (r1.2.1.2.2.2.1+1)),r1.2.1.2.2.2.2)))),r1.2.2)))
 else
 (bif (r2.2.1==1) then
 ((gd.f k r2.1).bind fun r3 =>
 (some (r3.1,((r1.2.1.1,(r3.2.1,r1.2.1.2.2)),r1.2.2))))
 else
 (bif (r2.2.1==2) then
 ((ch.f k r2.1 [0,1000000,1000001,1000002,1]).bind fun r4 =>
 (some (r4.1,((r1.2.1.1,(r1.2.1.2.1,(r4.2.1,r1.2.1.2.2.2))),r1.2.2))))
 else
 (bif (r2.2.1==3) then
 ((gn.f k r2.1).bind fun r5 =>
 (some (r5.1,(r1.2.1,r5.2))))
 else
 (bif (r2.2.1==4) then
 (bif (r2.2.1==4) then
 ((aH.f k r2.1 12).bind fun r6 =>
 (some (r6.1,(r1.2.1,((r1.2.2.1.1,(r1.2.2.1.2.1,(r6.2.1,r1.2.2.1.2.2.2))),())))))
 else
 (bif (r2.2.1==6) then
 (some (r2.1,(((r1.2.1.1.1,([],())),r1.2.1.2),r1.2.2)))
 else
 (some (r2.1,r1.2))))
 else
 (bif (r2.2.1==5) then
 ((aH.f k r2.1 12).bind fun r7 =>
 (some (r7.1,(r1.2.1,((r1.2.2.1.1,(r1.2.2.1.2.1,(r7.2.1,r1.2.2.1.2.2.2))),())))))
 else
 (bif (r2.2.1==6) then
 (some (r2.1,(((r1.2.1.1.1,([],())),r1.2.1.2),r1.2.2)))
 else
 (some (r2.1,r1.2)))))))))))
def f (k:Nat):=t k
end jb
namespace i8
abbrev Rs:Type:=Option ((Ty.den a_) × Unit)
def t (k:Nat) (a0:List Int):Rs :=
 ((gO.f k a0).bind fun r1 =>
 ((bq.f k r1.2.1).bind fun r2 =>
 ((bB.f k r2.1 2).bind fun r3 =>
 (bif r3.2.1 then
 ((jb.f k r3.1).bind fun r4 =>
 (some r4.2.2))
 else
 (some r2.2)))))
def f (k:Nat):=t k
end i8
namespace bX
abbrev Rs:Type:=Option (Int × Unit)
abbrev T0:Type:=ByteArray→List (Ty.den aE)→Int→Int→Rs
def b0 (k:Nat) (L0:T0):T0:=fun x0 x1 x2 x3 =>
 (bif (decide (x3<x2)) then
 (ba x3 (x1.length:Int)
 (bif (seq (List.getD x1 (Int.toNat x3) (Ty.dflt aE)).1 x0) then
 (some (x3,()))
 else
 (L0 x0 x1 x2 (aF (x3+1)))))
 else
 (some ((-1),())))
def l0 (k:Nat):Nat→T0
 | 0=>fun _ _ _ _=>none
 | n+1=>b0 k (l0 k n)
def t (k:Nat) (L0:T0) (a0:Ty.den a_) (a1:ByteArray):Rs :=
 (L0 a1 a0.1 (List.length a0.1:Int) 0)
def f (k:Nat):=t k (l0 k k)
end bX
namespace az
abbrev Rs:Type:=Option (Bool × Unit)
def t (k:Nat) (a0:Int) (a1:Int) (a2:Int):Rs :=
 (bif (decide (a0≥a1)) then
 (some ((decide (a0≤a2)),()))
 else
 (some (false,())))
def f (k:Nat):=t k
end az
namespace eD
abbrev Rs:Type:=Option (Bool × Unit)
abbrev T0:Type:=ByteArray→Int→Rs
def b0 (k:Nat) (L0:T0):T0:=fun x0 x1 =>
 (bif (decide (x1<(ByteArray.size x0:Int))) then
 (ba x1 (ByteArray.size x0:Int)
 (bif (decide ((da x0 x1)≥97)) then
 (ba x1 (ByteArray.size x0:Int)
 (bif (!(decide ((da x0 x1)≤122))) then
 (ba x1 (ByteArray.size x0:Int)
 (bif (decide ((da x0 x1)≥48)) then
 (ba x1 (ByteArray.size x0:Int)
 (bif (!(decide ((da x0 x1)≤57))) then
 (some (false,()))
 else
 (L0 x0 (aF (x1+1)))))
 else
 (some (false,()))))
 else
 (L0 x0 (aF (x1+1)))))
 else
 (ba x1 (ByteArray.size x0:Int)
 (bif (decide ((da x0 x1)≥48)) then
 (ba x1 (ByteArray.size x0:Int)
 (bif (!(decide ((da x0 x1)≤57))) then
 (some (false,()))
 else
 (L0 x0 (aF (x1+1)))))
 else
 (some (false,()))))))
 else
 ((az.f k (ByteArray.size x0:Int) 1 12).bind fun r1 =>
 (some r1)))
def l0 (k:Nat):Nat→T0
 | 0=>fun _ _=>none
 | n+1=>b0 k (l0 k n)
def t (k:Nat) (L0:T0) (a0:ByteArray):Rs :=
 (L0 a0 0)
def f (k:Nat):=t k (l0 k k)
end eD
namespace bP
abbrev Rs:Type:=Option (Bool × Unit)
abbrev T0:Type:=Int→List (Ty.den aE)→Int→Int→List (Ty.den aE)→Int→Int→Bool→Rs
def b0 (k:Nat) (L0:T0):T0:=fun x0 x1 x2 x3 x4 x5 x6 x7 =>
 (bif (decide (x3<x2)) then
 (ba x3 (x1.length:Int)
 ((eD.f k (List.getD x1 (Int.toNat x3) (Ty.dflt aE)).1).bind fun r3 =>
 (bif (!r3.1) then
 (some (false,()))
 else
 ((az.f k (List.getD x1 (Int.toNat x3) (Ty.dflt aE)).2.2.1 0 (ByteArray.size (List.getD x1 (Int.toNat x3) (Ty.dflt aE)).2.1:Int)).bind fun r4 =>
 (bif (!r4.1) then
 (some (false,()))
 else
 (bif (decide (x3 > 0)) then
 (ba (aF (x3-1)) (x4.length:Int)
 (bif (!(mv (List.getD x4 (Int.toNat (aF (x3-1))) (Ty.dflt aE)).1 (List.getD x1 (Int.toNat x3) (Ty.dflt aE)).1)) then
 (some (false,()))
 else
 (L0 (aF (x0+(ByteArray.size (List.getD x1 (Int.toNat x3) (Ty.dflt aE)).2.1:Int))) x1 x2 (aF (x3+1)) x4 x5 x6 x7)))
 else
 (L0 (aF (x0+(ByteArray.size (List.getD x1 (Int.toNat x3) (Ty.dflt aE)).2.1:Int))) x1 x2 (aF (x3+1)) x4 x5 x6 x7)))))))
 else
 (some ((decide (x0≤x5)),())))
def l0 (k:Nat):Nat→T0
 | 0=>fun _ _ _ _ _ _ _ _=>none
 | n+1=>b0 k (l0 k n)
def t (k:Nat) (L0:T0) (a0:Ty.den a_):Rs :=
 (bif (decide ((List.length a0.1:Int) > 130)) then
 (some (false,()))
 else
 ((az.f k a0.2.1 0 100000).bind fun r1 =>
 (bif (!r1.1) then
 (some (false,()))
 else
 ((az.f k a0.2.2.1 (-1) 100000).bind fun r2 =>
 (bif (!r2.1) then
 (some (false,()))
 else
 (L0 0 a0.1 (List.length a0.1:Int) 0 a0.1 a0.2.1 a0.2.2.1 a0.2.2.2.1))))))
def f (k:Nat):=t k (l0 k k)
end bP
namespace cQ
abbrev Rs:Type:=Option (ByteArray × Bool × Unit)
def t (k:Nat) (a0:Ty.den a_) (a1:ByteArray):Rs :=
 ((bX.f k a0 a1).bind fun r1 =>
 (bif (decide (r1.1<0)) then
 (some ((⟨#[]⟩:ByteArray),(false,())))
 else
 ((bP.f k a0).bind fun r2 =>
 (bif (!r2.1) then
 (some ((⟨#[]⟩:ByteArray),(false,())))
 else
 (ba r1.1 (List.length a0.1:Int)
 (some ((List.getD a0.1 (Int.toNat r1.1) (Ty.dflt aE)).2.1,(true,()))))))))
def f (k:Nat):=t k
end cQ
namespace cr
abbrev Rs:Type:=Option (Int × Int × Unit)
abbrev T0:Type:=ByteArray→Int→Int→Rs
def b0 (k:Nat) (L0:T0):T0:=fun x0 x1 x2 =>
 (bif (decide (x2<7)) then
 (bif (decide (x2<(ByteArray.size x0:Int))) then
 (ba x2 (ByteArray.size x0:Int)
 (bif (decide ((aF (7*x2))<0)) then none else
 (bif (decide ((aF (da x0 x2))≥128)) then
 (L0 x0 (aF (x1+(aF ((Int.tmod (aF (da x0 x2)) 128)*2 ^ (min (Int.toNat (aF (7*x2))) (IntKind.bits .i64)))))) (aF (x2+1)))
 else
 (bif ((aF (da x0 x2))==0) then
 (bif (decide (x2 > 0)) then
 (some (0,(0,())))
 else
 (some ((aF (x1+(aF ((Int.tmod (aF (da x0 x2)) 128)*2 ^ (min (Int.toNat (aF (7*x2))) (IntKind.bits .i64)))))),((aF (x2+1)),()))))
 else
 (some ((aF (x1+(aF ((Int.tmod (aF (da x0 x2)) 128)*2 ^ (min (Int.toNat (aF (7*x2))) (IntKind.bits .i64)))))),((aF (x2+1)),())))))))
 else
 (some (0,(0,()))))
 else
 (some (0,(0,()))))
def l0 (k:Nat):Nat→T0
 | 0=>fun _ _ _=>none
 | n+1=>b0 k (l0 k n)
def t (k:Nat) (L0:T0) (a0:ByteArray):Rs :=
 (L0 a0 0 0)
def f (k:Nat):=t k (l0 k k)
end cr
namespace fX
abbrev Rs:Type:=Option (ByteArray × Unit)
abbrev T0:Type:=Int→List Int→Rs
def b0 (k:Nat) (L0:T0):T0:=fun x0 x1 =>
 (bif (decide (x0 > 127)) then
 (rm (Ty.bytes (.int .u8)) (List.length x1+1)
 (L0 (aF (Int.tdiv x0 128)) (x1++[(IntKind.wrap .u8 (aF ((Int.tmod x0 128)+128)))])))
 else
 (rm (Ty.bytes (.int .u8)) (List.length x1+1)
 (some ((bytesOf (x1++[(IntKind.wrap .u8 x0)])),()))))
def l0 (k:Nat):Nat→T0
 | 0=>fun _ _=>none
 | n+1=>b0 k (l0 k n)
def t (k:Nat) (L0:T0) (a0:Int):Rs :=
 ((az.f k a0 0 562949953421311).bind fun r1 =>
 (bif (!r1.1) then
 (some ((⟨#[]⟩:ByteArray),()))
 else
 (L0 a0 [])))
def f (k:Nat):=t k (l0 k k)
end fX
namespace eF
abbrev Rs:Type:=Option (ByteArray × Unit)
def t (k:Nat) (a0:ByteArray):Rs :=
 ((fX.f k (ByteArray.size a0:Int)).bind fun r1 =>
 (jk r1.1 a0
 (some ((r1.1++a0),()))))
def f (k:Nat):=t k
end eF
namespace gG
abbrev Rs:Type:=Option (Int × Unit)
abbrev T1:Type:=ByteArray→Int→Int→Int→Rs
abbrev T0:Type:=ByteArray→Int→Int→Rs
def b1 (k:Nat) (L0:T0) (L1:T1):T1:=fun x0 x1 x2 x3 =>
 (bif (decide (x3<8)) then
 (bif ((IntKind.wrap .u32 (((BitVec.ofInt (IntKind.bits .u32) x1 &&& BitVec.ofInt (IntKind.bits .u32) 1).toNat:Int)))==1) then
 (L1 x0 (IntKind.wrap .u32 (((BitVec.ofInt (IntKind.bits .u32) (Int.fdiv x1 (2 ^ (Int.toNat 1))) ^^^ BitVec.ofInt (IntKind.bits .u32) 2197175160).toNat:Int))) x2 (aF (x3+1)))
 else
 (L1 x0 (Int.fdiv x1 (2 ^ (Int.toNat 1))) x2 (aF (x3+1))))
 else
 (L0 x0 x1 (aF (x2+1))))
def l1 (k:Nat) (L0:T0):Nat→T1
 | 0=>fun _ _ _ _=>none
 | n+1=>b1 k L0 (l1 k L0 n)
def b0 (k:Nat) (L1:T1) (L0:T0):T0:=fun x0 x1 x2 =>
 (bif (decide (x2<(ByteArray.size x0:Int))) then
 (ba x2 (ByteArray.size x0:Int)
 (L1 x0 (IntKind.wrap .u32 (((BitVec.ofInt (IntKind.bits .u32) x1 ^^^ BitVec.ofInt (IntKind.bits .u32) (IntKind.wrap .u32 (da x0 x2))).toNat:Int))) x2 0))
 else
 (some ((aF (DD .u32 x1)),())))
def l0 (k:Nat):Nat→T0
 | 0=>fun _ _ _=>none
 | n+1=>b0 k (l1 k (l0 k n) k) (l0 k n)
def t (k:Nat) (L0:T0) (a0:ByteArray):Rs :=
 (L0 a0 4294967295 0)
def f (k:Nat):=t k (l0 k k)
end gG
namespace dT
abbrev Rs:Type:=Option (ByteArray × Unit)
abbrev T0:Type:=Int→Int→List Int→Rs
def b0 (k:Nat) (L0:T0):T0:=fun x0 x1 x2 =>
 (bif (decide (x1≥0)) then
 (bif (decide ((aF (8*x1))<0)) then none else
 (rm (Ty.bytes (.int .u8)) (List.length x2+1)
 (L0 x0 (aF (x1-1)) (x2++[(IntKind.wrap .u8 (Int.fdiv x0 (2 ^ (min (Int.toNat (aF (8*x1))) (IntKind.bits .i64)))))]))))
 else
 (some ((bytesOf x2),())))
def l0 (k:Nat):Nat→T0
 | 0=>fun _ _ _=>none
 | n+1=>b0 k (l0 k n)
def t (k:Nat) (L0:T0) (a0:Int) (a1:Int):Rs :=
 ((az.f k a1 1 7).bind fun r1 =>
 (bif (!r1.1) then
 (some ((⟨#[]⟩:ByteArray),()))
 else
 (bif (decide ((aF (8*a1))<0)) then none else
 ((az.f k a0 0 (aF ((aF (1*2 ^ (min (Int.toNat (aF (8*a1))) (IntKind.bits .i64))))-1))).bind fun r2 =>
 (bif (!r2.1) then
 (some ((⟨#[]⟩:ByteArray),()))
 else
 (L0 a0 (aF (a1-1)) []))))))
def f (k:Nat):=t k (l0 k k)
end dT
namespace jE
abbrev Rs:Type:=Option (ByteArray × Unit)
def t (k:Nat) (a0:ByteArray):Rs :=
 (bif (decide ((ByteArray.size a0:Int) > 200)) then
 (some ((⟨#[]⟩:ByteArray),()))
 else
 ((eF.f k a0).bind fun r1 =>
 ((gG.f k r1.1).bind fun r2 =>
 ((dT.f k r2.1 4).bind fun r3 =>
 (jk r3.1 r1.1
 (some ((r3.1++r1.1),())))))))
def f (k:Nat):=t k
end jE
namespace f9
abbrev Rs:Type:=Option (ByteArray × Int × Unit)
def t (k:Nat) (a0:ByteArray):Rs :=
 (bif (decide ((ByteArray.size a0:Int)<4)) then
 (some ((⟨#[]⟩:ByteArray),(0,())))
 else
 (mj 4 (ByteArray.size a0:Int)
 ((cr.f k (ByteArray.extract a0 4 (ByteArray.size a0))).bind fun r1 =>
 (bif (r1.2.1==0) then
 (some ((⟨#[]⟩:ByteArray),(0,())))
 else
 (bif (decide (r1.1 > 200)) then
 (some ((⟨#[]⟩:ByteArray),(0,())))
 else
 (bif (decide (r1.1 > (aF ((aF ((ByteArray.size a0:Int)-4))-r1.2.1)))) then
 (some ((⟨#[]⟩:ByteArray),(0,())))
 else
 (F8 (aF (4+r1.2.1)) (aF ((aF (4+r1.2.1))+r1.1)) (ByteArray.size a0:Int)
 ((jE.f k (ByteArray.extract a0 (Int.toNat (aF (4+r1.2.1))) (Int.toNat (aF ((aF (4+r1.2.1))+r1.1))))).bind fun r2 =>
 (mj (aF ((aF (4+r1.2.1))+r1.1)) (ByteArray.size a0:Int)
 (bif (!(seq r2.1 (ByteArray.extract a0 0 (Int.toNat (aF ((aF (4+r1.2.1))+r1.1)))))) then
 (some ((⟨#[]⟩:ByteArray),(0,())))
 else
 (some ((ByteArray.extract a0 (Int.toNat (aF (4+r1.2.1))) (Int.toNat (aF ((aF (4+r1.2.1))+r1.1)))),((aF ((aF (4+r1.2.1))+r1.1)),())))))))))))))
def f (k:Nat):=t k
end f9
namespace aJ
abbrev Rs:Type:=Option ((Ty.den jq) × Int × Unit)
def t (k:Nat) (a0:Ty.den jq):Rs :=
 ((cr.f k a0.1).bind fun r1 =>
 (bif a0.2.1 then
 (some ((a0.1,(true,())),(0,())))
 else
 (bif (r1.2.1==0) then
 (some ((a0.1,(true,())),(0,())))
 else
 (mj r1.2.1 (ByteArray.size a0.1:Int)
 (some (((ByteArray.extract a0.1 (Int.toNat r1.2.1) (ByteArray.size a0.1)),a0.2),(r1.1,())))))))
def f (k:Nat):=t k
end aJ
namespace dN
abbrev Rs:Type:=Option (Bool × Unit)
abbrev T0:Type:=List Int→Int→Int→Int→List Int→Rs
def b0 (k:Nat) (L0:T0):T0:=fun x0 x1 x2 x3 x4 =>
 (bif (decide (x2<x1)) then
 (ba x2 (x0.length:Int)
 ((az.f k (List.getD x0 (Int.toNat x2) (Ty.dflt (.int .i64))) 1 (aF (x3-1))).bind fun r1 =>
 (bif (!r1.1) then
 (some (false,()))
 else
 (bif (decide (x2 > 0)) then
 (ba (aF (x2-1)) (x4.length:Int)
 (bif (decide ((List.getD x4 (Int.toNat (aF (x2-1))) (Ty.dflt (.int .i64)))≥(List.getD x0 (Int.toNat x2) (Ty.dflt (.int .i64))))) then
 (some (false,()))
 else
 (L0 x0 x1 (aF (x2+1)) x3 x4)))
 else
 (L0 x0 x1 (aF (x2+1)) x3 x4)))))
 else
 ((az.f k x3 1 100000).bind fun r2 =>
 (bif r2.1 then
 ((az.f k (x4.length:Int) 1 60).bind fun r3 =>
 (some r3))
 else
 (some (false,())))))
def l0 (k:Nat):Nat→T0
 | 0=>fun _ _ _ _ _=>none
 | n+1=>b0 k (l0 k n)
def t (k:Nat) (L0:T0) (a0:Ty.den bA):Rs :=
 (L0 a0.2.1 (List.length a0.2.1:Int) 0 a0.1 a0.2.1)
def f (k:Nat):=t k (l0 k k)
end dN
namespace aq
abbrev Rs:Type:=Option ((Ty.den bA) × Bool × Unit)
abbrev T0:Type:=ByteArray→Int→Int→Int→List Int→Int→ByteArray→Bool→List Int→Int→Rs
def b0 (k:Nat) (L0:T0):T0:=fun x0 x1 x2 x3 x4 x5 x6 x7 x8 x9 =>
 (bif (decide (x3<x2)) then
 (bif (!x7) then
 ((aJ.f k (x6,(x7,()))).bind fun r4 =>
 (rm (Ty.bytes (.int .i64)) (List.length x8+1)
 (L0 x0 x1 x2 (aF (x3+1)) x4 x5 r4.1.1 r4.1.2.1 (x8++[r4.2.1]) x9)))
 else
 (bif (x1==0) then
 (some ((0,([],())),(false,())))
 else
 (bif (x1 != (ByteArray.size x0:Int)) then
 (some ((0,([],())),(false,())))
 else
 (bif x7 then
 (some ((0,([],())),(false,())))
 else
 (bif (!(seq x6 (⟨#[]⟩:ByteArray))) then
 (some ((0,([],())),(false,())))
 else
 ((dN.f k (x9,(x8,()))).bind fun r5 =>
 (bif (!r5.1) then
 (some ((0,([],())),(false,())))
 else
 (some ((x9,(x8,())),(true,()))))))))))
 else
 (bif (x1==0) then
 (some ((0,([],())),(false,())))
 else
 (bif (x1 != (ByteArray.size x0:Int)) then
 (some ((0,([],())),(false,())))
 else
 (bif x7 then
 (some ((0,([],())),(false,())))
 else
 (bif (!(seq x6 (⟨#[]⟩:ByteArray))) then
 (some ((0,([],())),(false,())))
 else
 ((dN.f k (x9,(x8,()))).bind fun r6 =>
 (bif (!r6.1) then
 (some ((0,([],())),(false,())))
 else
 (some ((x9,(x8,())),(true,()))))))))))
def l0 (k:Nat):Nat→T0
 | 0=>fun _ _ _ _ _ _ _ _ _ _=>none
 | n+1=>b0 k (l0 k n)
def t (k:Nat) (L0:T0) (a0:ByteArray):Rs :=
 ((f9.f k a0).bind fun r1 =>
 ((aJ.f k (r1.1,(false,()))).bind fun r2 =>
 ((aJ.f k r2.1).bind fun r3 =>
 (L0 a0 r1.2.1 r3.2.1 0 [] 0 r3.1.1 r3.1.2.1 [] r2.2.1))))
def f (k:Nat):=t k (l0 k k)
end aq
namespace kn
abbrev Rs:Type:=Option (Int × Bool × Unit)
def t (k:Nat) (a0:ByteArray):Rs :=
 ((gq.f k a0 (⟨#[115,101,103]⟩:ByteArray)).bind fun r1 =>
 (bif (!r1.2.1) then
 ((gq.f k a0 (⟨#[104,105,110,116]⟩:ByteArray)).bind fun r2 =>
 ((cN.f k r2.1).bind fun r3 =>
 (bif (!r2.2.1) then
 (some (0,(false,())))
 else
 (bif (!r3.2.1) then
 (some (0,(false,())))
 else
 ((az.f k r3.1 1 100000).bind fun r4 =>
 (bif (!r4.1) then
 (some (0,(false,())))
 else
 (some (r3.1,(true,())))))))))
 else
 ((cN.f k r1.1).bind fun r5 =>
 (bif (!r1.2.1) then
 (some (0,(false,())))
 else
 (bif (!r5.2.1) then
 (some (0,(false,())))
 else
 ((az.f k r5.1 1 100000).bind fun r6 =>
 (bif (!r6.1) then
 (some (0,(false,())))
 else
 (some (r5.1,(true,()))))))))))
def f (k:Nat):=t k
end kn
namespace ek
abbrev Rs:Type:=Option (Bool × Unit)
abbrev T0:Type:=Int→List Int→Int→Int→Rs
def b0 (k:Nat) (L0:T0):T0:=fun x0 x1 x2 x3 =>
 (bif (decide (x3<x2)) then
 (ba x3 (x1.length:Int)
 (bif ((List.getD x1 (Int.toNat x3) (Ty.dflt (.int .i64)))==x0) then
 (some (true,()))
 else
 (L0 x0 x1 x2 (aF (x3+1)))))
 else
 (some (false,())))
def l0 (k:Nat):Nat→T0
 | 0=>fun _ _ _ _=>none
 | n+1=>b0 k (l0 k n)
def t (k:Nat) (L0:T0) (a0:List Int) (a1:Int):Rs :=
 (L0 a1 a0 (List.length a0:Int) 0)
def f (k:Nat):=t k (l0 k k)
end ek
namespace eJ
abbrev Rs:Type:=Option ((List ByteArray) × Unit)
abbrev T0:Type:=List (Ty.den aE)→Int→Int→Int→List Int→List ByteArray→Rs
def b0 (k:Nat) (L0:T0):T0:=fun x0 x1 x2 x3 x4 x5 =>
 (bif (decide (x2<x1)) then
 (ba x2 (x0.length:Int)
 ((kn.f k (List.getD x0 (Int.toNat x2) (Ty.dflt aE)).1).bind fun r2 =>
 (bif (seq (List.getD x0 (Int.toNat x2) (Ty.dflt aE)).1 (⟨#[116,101,109,112]⟩:ByteArray)) then
 (rm (Ty.bytes .str) (List.length x5+1)
 (L0 x0 x1 (aF (x2+1)) x3 x4 (x5++[(List.getD x0 (Int.toNat x2) (Ty.dflt aE)).1])))
 else
 (bif r2.2.1 then
 ((ek.f k x4 r2.1).bind fun r3 =>
 (bif (!r3.1) then
 (rm (Ty.bytes .str) (List.length x5+1)
 (L0 x0 x1 (aF (x2+1)) x3 x4 (x5++[(List.getD x0 (Int.toNat x2) (Ty.dflt aE)).1])))
 else
 (L0 x0 x1 (aF (x2+1)) x3 x4 x5)))
 else
 (L0 x0 x1 (aF (x2+1)) x3 x4 x5)))))
 else
 (some (x5,())))
def l0 (k:Nat):Nat→T0
 | 0=>fun _ _ _ _ _ _=>none
 | n+1=>b0 k (l0 k n)
def t (k:Nat) (L0:T0) (a0:Ty.den a_) (a1:Ty.den bA):Rs :=
 ((bP.f k a0).bind fun r1 =>
 (bif (!r1.1) then
 (some ([],()))
 else
 (L0 a0.1 (List.length a0.1:Int) 0 a1.1 a1.2.1 [])))
def f (k:Nat):=t k (l0 k k)
end eJ
namespace mg
abbrev Rs:Type:=Option (ByteArray × Unit)
def t (k:Nat) (a0:Int):Rs :=
 ((mZ.f k a0).bind fun r1 =>
 (some r1))
def f (k:Nat):=t k
end mg
namespace jB
abbrev Rs:Type:=Option (ByteArray × Unit)
def t (k:Nat) (a0:ByteArray) (a1:Int):Rs :=
 ((az.f k a1 1 100000).bind fun r1 =>
 (bif (!r1.1) then
 (some ((⟨#[]⟩:ByteArray),()))
 else
 ((mg.f k a1).bind fun r2 =>
 (jk a0 r2.1
 (some ((a0++r2.1),()))))))
def f (k:Nat):=t k
end jB
namespace di
abbrev Rs:Type:=Option (ByteArray × Unit)
def t (k:Nat) (a0:Int):Rs :=
 ((jB.f k (⟨#[115,101,103]⟩:ByteArray) a0).bind fun r1 =>
 (some r1))
def f (k:Nat):=t k
end di
namespace ak
abbrev Rs:Type:=Option ((Ty.den jq) × ByteArray × Unit)
def t (k:Nat) (a0:Ty.den jq) (a1:Int):Rs :=
 (bif a0.2.1 then
 (some ((a0.1,(true,())),((⟨#[]⟩:ByteArray),())))
 else
 (bif (decide (a1 > (ByteArray.size a0.1:Int))) then
 (some ((a0.1,(true,())),((⟨#[]⟩:ByteArray),())))
 else
 (mj a1 (ByteArray.size a0.1:Int)
 (mj a1 (ByteArray.size a0.1:Int)
 (some (((ByteArray.extract a0.1 (Int.toNat a1) (ByteArray.size a0.1)),a0.2),((ByteArray.extract a0.1 0 (Int.toNat a1)),())))))))
def f (k:Nat):=t k
end ak
namespace ag
abbrev Rs:Type:=Option ((Ty.den jq) × ByteArray × Unit)
def t (k:Nat) (a0:Ty.den jq):Rs :=
 ((aJ.f k a0).bind fun r1 =>
 ((ak.f k r1.1 r1.2.1).bind fun r2 =>
 (some r2)))
def f (k:Nat):=t k
end ag
namespace gm
abbrev Rs:Type:=Option (Bool × Unit)
def t (k:Nat) (a0:ByteArray):Rs :=
 ((az.f k (ByteArray.size a0:Int) 1 8).bind fun r1 =>
 (some r1))
def f (k:Nat):=t k
end gm
namespace g7
abbrev Rs:Type:=Option (Bool × Unit)
def t (k:Nat) (a0:Ty.den bU):Rs :=
 (bif (a0.1==1) then
 (bif (a0.1==1) then
 ((gm.f k a0.2.2.1).bind fun r1 =>
 (bif r1.1 then
 (bif (decide ((ByteArray.size a0.2.2.2.1:Int)≤24)) then
 ((az.f k a0.2.1 1 1000000).bind fun r2 =>
 (bif r2.1 then
 (some (((a0.1==a0.1)&&((a0.2.1==a0.2.1)&&((seq a0.2.2.1 a0.2.2.1)&&((seq a0.2.2.2.1 a0.2.2.2.1)&&((a0.2.2.2.2.1==0)&&(a0.2.2.2.2.2.1==0)))))),()))
 else
 (some (false,()))))
 else
 (some (false,())))
 else
 (some (false,()))))
 else
 (bif (a0.1==2) then
 ((gm.f k a0.2.2.1).bind fun r3 =>
 (bif r3.1 then
 ((az.f k a0.2.1 1 1000000).bind fun r4 =>
 (bif r4.1 then
 (some (((a0.1==a0.1)&&((a0.2.1==a0.2.1)&&((seq a0.2.2.1 a0.2.2.1)&&((seq a0.2.2.2.1 ByteArray.empty)&&((a0.2.2.2.2.1==0)&&(a0.2.2.2.2.2.1==0)))))),()))
 else
 (some (false,()))))
 else
 (some (false,()))))
 else
 (bif (a0.1==3) then
 ((az.f k a0.2.2.2.2.1 0 8).bind fun r5 =>
 (bif r5.1 then
 ((az.f k a0.2.2.2.2.2.1 0 4294967295).bind fun r6 =>
 (bif r6.1 then
 ((az.f k a0.2.1 1 1000000).bind fun r7 =>
 (bif r7.1 then
 (some (((a0.1==a0.1)&&((a0.2.1==a0.2.1)&&((seq a0.2.2.1 ByteArray.empty)&&((seq a0.2.2.2.1 ByteArray.empty)&&((a0.2.2.2.2.1==a0.2.2.2.2.1)&&(a0.2.2.2.2.2.1==a0.2.2.2.2.2.1)))))),()))
 else
 (some (false,()))))
 else
 (some (false,()))))
 else
 (some (false,()))))
 else
 (bif (a0.1==5) then
 ((az.f k a0.2.2.2.2.1 0 20).bind fun r8 =>
 (bif r8.1 then
 ((az.f k a0.2.2.2.2.2.1 0 4294967295).bind fun r9 =>
 (bif r9.1 then
 ((az.f k a0.2.1 0 1000000).bind fun r10 =>
 (bif r10.1 then
 (some (((a0.1==a0.1)&&((a0.2.1==a0.2.1)&&((seq a0.2.2.1 ByteArray.empty)&&((seq a0.2.2.2.1 ByteArray.empty)&&((a0.2.2.2.2.1==a0.2.2.2.2.1)&&(a0.2.2.2.2.2.1==a0.2.2.2.2.2.1)))))),()))
 else
 (some (false,()))))
 else
 (some (false,()))))
 else
 (some (false,()))))
 else
 (some (false,()))))))
 else
 (bif (a0.1==4) then
 ((gm.f k a0.2.2.1).bind fun r11 =>
 (bif r11.1 then
 (bif (decide ((ByteArray.size a0.2.2.2.1:Int)≤24)) then
 ((az.f k a0.2.1 1 1000000).bind fun r12 =>
 (bif r12.1 then
 (some (((a0.1==a0.1)&&((a0.2.1==a0.2.1)&&((seq a0.2.2.1 a0.2.2.1)&&((seq a0.2.2.2.1 a0.2.2.2.1)&&((a0.2.2.2.2.1==0)&&(a0.2.2.2.2.2.1==0)))))),()))
 else
 (some (false,()))))
 else
 (some (false,())))
 else
 (some (false,()))))
 else
 (bif (a0.1==2) then
 ((gm.f k a0.2.2.1).bind fun r13 =>
 (bif r13.1 then
 ((az.f k a0.2.1 1 1000000).bind fun r14 =>
 (bif r14.1 then
 (some (((a0.1==a0.1)&&((a0.2.1==a0.2.1)&&((seq a0.2.2.1 a0.2.2.1)&&((seq a0.2.2.2.1 ByteArray.empty)&&((a0.2.2.2.2.1==0)&&(a0.2.2.2.2.2.1==0)))))),()))
 else
 (some (false,()))))
 else
 (some (false,()))))
 else
 (bif (a0.1==3) then
 ((az.f k a0.2.2.2.2.1 0 8).bind fun r15 =>
 (bif r15.1 then
 ((az.f k a0.2.2.2.2.2.1 0 4294967295).bind fun r16 =>
 (bif r16.1 then
 ((az.f k a0.2.1 1 1000000).bind fun r17 =>
 (bif r17.1 then
 (some (((a0.1==a0.1)&&((a0.2.1==a0.2.1)&&((seq a0.2.2.1 ByteArray.empty)&&((seq a0.2.2.2.1 ByteArray.empty)&&((a0.2.2.2.2.1==a0.2.2.2.2.1)&&(a0.2.2.2.2.2.1==a0.2.2.2.2.2.1)))))),()))
 else
 (some (false,()))))
 else
 (some (false,()))))
 else
 (some (false,()))))
 else
 (bif (a0.1==5) then
 ((az.f k a0.2.2.2.2.1 0 20).bind fun r18 =>
 (bif r18.1 then
 ((az.f k a0.2.2.2.2.2.1 0 4294967295).bind fun r19 =>
 (bif r19.1 then
 ((az.f k a0.2.1 0 1000000).bind fun r20 =>
 (bif r20.1 then
 (some (((a0.1==a0.1)&&((a0.2.1==a0.2.1)&&((seq a0.2.2.1 ByteArray.empty)&&((seq a0.2.2.2.1 ByteArray.empty)&&((a0.2.2.2.2.1==a0.2.2.2.2.1)&&(a0.2.2.2.2.2.1==a0.2.2.2.2.2.1)))))),()))
 else
 (some (false,()))))
 else
 (some (false,()))))
 else
 (some (false,()))))
 else
 (some (false,())))))))
def f (k:Nat):=t k
end g7
namespace bp
abbrev Rs:Type:=Option (Int × Bool × Unit)
abbrev T0:Type:=ByteArray→Int→Int→Int→Rs
def b0 (k:Nat) (L0:T0):T0:=fun x0 x1 x2 x3 =>
 (bif (decide (x3<x2)) then
 (ba x3 (ByteArray.size x0:Int)
 (L0 x0 (aF (((BitVec.ofInt (IntKind.bits .i64) (aF (x1*2 ^ (min (Int.toNat 8) (IntKind.bits .i64)))) ||| BitVec.ofInt (IntKind.bits .i64) (aF (da x0 x3))).toNat:Int))) x2 (aF (x3+1))))
 else
 (some (x1,(true,()))))
def l0 (k:Nat):Nat→T0
 | 0=>fun _ _ _ _=>none
 | n+1=>b0 k (l0 k n)
def t (k:Nat) (L0:T0) (a0:ByteArray) (a1:Int):Rs :=
 ((az.f k a1 1 7).bind fun r1 =>
 (bif (!r1.1) then
 (some (0,(false,())))
 else
 (bif (decide ((ByteArray.size a0:Int)<a1)) then
 (some (0,(false,())))
 else
 (L0 a0 0 a1 0))))
def f (k:Nat):=t k (l0 k k)
end bp
namespace dP
abbrev Rs:Type:=Option ((Ty.den bU) × Bool × Unit)
def t (k:Nat) (a0:ByteArray):Rs :=
 ((aJ.f k (a0,(false,()))).bind fun r1 =>
 ((aJ.f k r1.1).bind fun r2 =>
 (bif (r1.2.1==1) then
 (bif (r1.2.1==1) then
 ((ag.f k r2.1).bind fun r3 =>
 ((ag.f k r3.1).bind fun r4 =>
 (bif r4.1.2.1 then
 (some ((0,(0,(ByteArray.empty,(ByteArray.empty,(0,(0,())))))),(false,())))
 else
 (bif (!(seq r4.1.1 (⟨#[]⟩:ByteArray))) then
 (some ((0,(0,(ByteArray.empty,(ByteArray.empty,(0,(0,())))))),(false,())))
 else
 ((g7.f k (r1.2.1,(r2.2.1,(r3.2.1,(r4.2.1,(0,(0,()))))))).bind fun r5 =>
 (bif (!r5.1) then
 (some ((0,(0,(ByteArray.empty,(ByteArray.empty,(0,(0,())))))),(false,())))
 else
 (some ((r1.2.1,(r2.2.1,(r3.2.1,(r4.2.1,(0,(0,())))))),(true,())))))))))
 else
 (bif (r1.2.1==2) then
 ((ag.f k r2.1).bind fun r6 =>
 (bif r6.1.2.1 then
 (some ((0,(0,(ByteArray.empty,(ByteArray.empty,(0,(0,())))))),(false,())))
 else
 (bif (!(seq r6.1.1 (⟨#[]⟩:ByteArray))) then
 (some ((0,(0,(ByteArray.empty,(ByteArray.empty,(0,(0,())))))),(false,())))
 else
 ((g7.f k (r1.2.1,(r2.2.1,(r6.2.1,(ByteArray.empty,(0,(0,()))))))).bind fun r7 =>
 (bif (!r7.1) then
 (some ((0,(0,(ByteArray.empty,(ByteArray.empty,(0,(0,())))))),(false,())))
 else
 (some ((r1.2.1,(r2.2.1,(r6.2.1,(ByteArray.empty,(0,(0,())))))),(true,()))))))))
 else
 ((aJ.f k r2.1).bind fun r8 =>
 ((ak.f k r8.1 4).bind fun r9 =>
 ((bp.f k r9.2.1 4).bind fun r10 =>
 (bif r9.1.2.1 then
 (some ((0,(0,(ByteArray.empty,(ByteArray.empty,(0,(0,())))))),(false,())))
 else
 (bif (!(seq r9.1.1 (⟨#[]⟩:ByteArray))) then
 (some ((0,(0,(ByteArray.empty,(ByteArray.empty,(0,(0,())))))),(false,())))
 else
 ((g7.f k (r1.2.1,(r2.2.1,(ByteArray.empty,(ByteArray.empty,(r8.2.1,(r10.1,()))))))).bind fun r11 =>
 (bif (!r11.1) then
 (some ((0,(0,(ByteArray.empty,(ByteArray.empty,(0,(0,())))))),(false,())))
 else
 (some ((r1.2.1,(r2.2.1,(ByteArray.empty,(ByteArray.empty,(r8.2.1,(r10.1,())))))),(true,()))))))))))))
 else
 (bif (r1.2.1==4) then
 ((ag.f k r2.1).bind fun r12 =>
 ((ag.f k r12.1).bind fun r13 =>
 (bif r13.1.2.1 then
 (some ((0,(0,(ByteArray.empty,(ByteArray.empty,(0,(0,())))))),(false,())))
 else
 (bif (!(seq r13.1.1 (⟨#[]⟩:ByteArray))) then
 (some ((0,(0,(ByteArray.empty,(ByteArray.empty,(0,(0,())))))),(false,())))
 else
 ((g7.f k (r1.2.1,(r2.2.1,(r12.2.1,(r13.2.1,(0,(0,()))))))).bind fun r14 =>
 (bif (!r14.1) then
 (some ((0,(0,(ByteArray.empty,(ByteArray.empty,(0,(0,())))))),(false,())))
 else
 (some ((r1.2.1,(r2.2.1,(r12.2.1,(r13.2.1,(0,(0,())))))),(true,())))))))))
 else
 (bif (r1.2.1==2) then
 ((ag.f k r2.1).bind fun r15 =>
 (bif r15.1.2.1 then
 (some ((0,(0,(ByteArray.empty,(ByteArray.empty,(0,(0,())))))),(false,())))
 else
 (bif (!(seq r15.1.1 (⟨#[]⟩:ByteArray))) then
 (some ((0,(0,(ByteArray.empty,(ByteArray.empty,(0,(0,())))))),(false,())))
 else
 ((g7.f k (r1.2.1,(r2.2.1,(r15.2.1,(ByteArray.empty,(0,(0,()))))))).bind fun r16 =>
 (bif (!r16.1) then
 (some ((0,(0,(ByteArray.empty,(ByteArray.empty,(0,(0,())))))),(false,())))
 else
 (some ((r1.2.1,(r2.2.1,(r15.2.1,(ByteArray.empty,(0,(0,())))))),(true,()))))))))
 else
 ((aJ.f k r2.1).bind fun r17 =>
 ((ak.f k r17.1 4).bind fun r18 =>
 ((bp.f k r18.2.1 4).bind fun r19 =>
 (bif r18.1.2.1 then
 (some ((0,(0,(ByteArray.empty,(ByteArray.empty,(0,(0,())))))),(false,())))
 else
 (bif (!(seq r18.1.1 (⟨#[]⟩:ByteArray))) then
 (some ((0,(0,(ByteArray.empty,(ByteArray.empty,(0,(0,())))))),(false,())))
 else
 ((g7.f k (r1.2.1,(r2.2.1,(ByteArray.empty,(ByteArray.empty,(r17.2.1,(r19.1,()))))))).bind fun r20 =>
 (bif (!r20.1) then
 (some ((0,(0,(ByteArray.empty,(ByteArray.empty,(0,(0,())))))),(false,())))
 else
 (some ((r1.2.1,(r2.2.1,(ByteArray.empty,(ByteArray.empty,(r17.2.1,(r19.1,())))))),(true,())))))))))))))))
def f (k:Nat):=t k
end dP
namespace cw
abbrev Rs:Type:=Option ((List (Ty.den bM)) × Int × Unit)
abbrev T0:Type:=ByteArray→Int→List (Ty.den bM)→Rs
def b0 (k:Nat) (L0:T0):T0:=fun x0 x1 x2 =>
 (mj x1 (ByteArray.size x0:Int)
 ((f9.f k (ByteArray.extract x0 (Int.toNat x1) (ByteArray.size x0))).bind fun r1 =>
 ((dP.f k r1.1).bind fun r2 =>
 (bif (r1.2.1==0) then
 (some (x2,(x1,())))
 else
 (bif (!r2.2.1) then
 (some (x2,(x1,())))
 else
 (rm (Ty.bytes bM) (List.length x2+1)
 (L0 x0 (aF (x1+r1.2.1)) (x2++[(x1,(r1.2.1,(r2.1,())))]))))))))
def l0 (k:Nat):Nat→T0
 | 0=>fun _ _ _=>none
 | n+1=>b0 k (l0 k n)
def t (k:Nat) (L0:T0) (a0:ByteArray):Rs :=
 (L0 a0 0 [])
def f (k:Nat):=t k (l0 k k)
end cw
namespace dO
abbrev Rs:Type:=Option ((List (Ty.den aC)) × Unit)
abbrev T0:Type:=Int→List (Ty.den bM)→Int→Int→List (Ty.den aC)→Rs
def b0 (k:Nat) (L0:T0):T0:=fun x0 x1 x2 x3 x4 =>
 (bif (decide (x3<x2)) then
 (ba x3 (x1.length:Int)
 (rm (Ty.bytes aC) (List.length x4+1)
 (L0 x0 x1 x2 (aF (x3+1)) (x4++[(x0,(List.getD x1 (Int.toNat x3) (Ty.dflt bM)))]))))
 else
 (some (x4,())))
def l0 (k:Nat):Nat→T0
 | 0=>fun _ _ _ _ _=>none
 | n+1=>b0 k (l0 k n)
def t (k:Nat) (L0:T0) (a0:Int) (a1:List (Ty.den bM)):Rs :=
 (L0 a0 a1 (List.length a1:Int) 0 [])
def f (k:Nat):=t k (l0 k k)
end dO
namespace cS
abbrev Rs:Type:=Option ((List (Ty.den aC)) × Unit)
abbrev T0:Type:=List (Ty.den aC)→Int→Int→Int→Int→ByteArray→ByteArray→Int→Int→List (Ty.den aC)→Rs
def b0 (k:Nat) (L0:T0):T0:=fun x0 x1 x2 x3 x4 x5 x6 x7 x8 x9 =>
 (bif (decide (x2<x1)) then
 (ba x2 (x0.length:Int)
 (bif (x3==3) then
 (bif ((List.getD x0 (Int.toNat x2) (Ty.dflt aC)).2.2.2.1.2.1 != x4) then
 (L0 x0 x1 (aF (x2+1)) x3 x4 x5 x6 x7 x8 x9)
 else
 (bif ((List.getD x0 (Int.toNat x2) (Ty.dflt aC)).2.2.2.1.1==x3) then
 (L0 x0 x1 (aF (x2+1)) x3 x4 x5 x6 x7 x8 [])
 else
 (bif (x3==3) then
 (bif ((List.getD x0 (Int.toNat x2) (Ty.dflt aC)).2.2.2.1.1==1) then
 (rm (Ty.bytes aC) (List.length x9+1)
 (L0 x0 x1 (aF (x2+1)) x3 x4 x5 x6 x7 x8 (x9++[(List.getD x0 (Int.toNat x2) (Ty.dflt aC))])))
 else
 (bif ((List.getD x0 (Int.toNat x2) (Ty.dflt aC)).2.2.2.1.1==2) then
 (bif ((List.getD x0 (Int.toNat x2) (Ty.dflt aC)).2.2.2.1.1==2) then
 (rm (Ty.bytes aC) (List.length x9+1)
 (L0 x0 x1 (aF (x2+1)) x3 x4 x5 x6 x7 x8 (x9++[(List.getD x0 (Int.toNat x2) (Ty.dflt aC))])))
 else
 (L0 x0 x1 (aF (x2+1)) x3 x4 x5 x6 x7 x8 x9))
 else
 (bif (x3==5) then
 (bif ((List.getD x0 (Int.toNat x2) (Ty.dflt aC)).2.2.2.1.1==4) then
 (rm (Ty.bytes aC) (List.length x9+1)
 (L0 x0 x1 (aF (x2+1)) x3 x4 x5 x6 x7 x8 (x9++[(List.getD x0 (Int.toNat x2) (Ty.dflt aC))])))
 else
 (L0 x0 x1 (aF (x2+1)) x3 x4 x5 x6 x7 x8 x9))
 else
 (L0 x0 x1 (aF (x2+1)) x3 x4 x5 x6 x7 x8 x9))))
 else
 (bif (x3==5) then
 (bif ((List.getD x0 (Int.toNat x2) (Ty.dflt aC)).2.2.2.1.1==4) then
 (rm (Ty.bytes aC) (List.length x9+1)
 (L0 x0 x1 (aF (x2+1)) x3 x4 x5 x6 x7 x8 (x9++[(List.getD x0 (Int.toNat x2) (Ty.dflt aC))])))
 else
 (L0 x0 x1 (aF (x2+1)) x3 x4 x5 x6 x7 x8 x9))
 else
 (L0 x0 x1 (aF (x2+1)) x3 x4 x5 x6 x7 x8 x9)))))
 else
 (bif ((List.getD x0 (Int.toNat x2) (Ty.dflt aC)).2.2.2.1.1==x3) then
 (L0 x0 x1 (aF (x2+1)) x3 x4 x5 x6 x7 x8 [])
 else
 (bif (x3==3) then
 (bif ((List.getD x0 (Int.toNat x2) (Ty.dflt aC)).2.2.2.1.1==1) then
 (rm (Ty.bytes aC) (List.length x9+1)
 (L0 x0 x1 (aF (x2+1)) x3 x4 x5 x6 x7 x8 (x9++[(List.getD x0 (Int.toNat x2) (Ty.dflt aC))])))
 else
 (bif ((List.getD x0 (Int.toNat x2) (Ty.dflt aC)).2.2.2.1.1==2) then
 (bif ((List.getD x0 (Int.toNat x2) (Ty.dflt aC)).2.2.2.1.1==2) then
 (rm (Ty.bytes aC) (List.length x9+1)
 (L0 x0 x1 (aF (x2+1)) x3 x4 x5 x6 x7 x8 (x9++[(List.getD x0 (Int.toNat x2) (Ty.dflt aC))])))
 else
 (L0 x0 x1 (aF (x2+1)) x3 x4 x5 x6 x7 x8 x9))
 else
 (bif (x3==5) then
 (bif ((List.getD x0 (Int.toNat x2) (Ty.dflt aC)).2.2.2.1.1==4) then
 (rm (Ty.bytes aC) (List.length x9+1)
 (L0 x0 x1 (aF (x2+1)) x3 x4 x5 x6 x7 x8 (x9++[(List.getD x0 (Int.toNat x2) (Ty.dflt aC))])))
 else
 (L0 x0 x1 (aF (x2+1)) x3 x4 x5 x6 x7 x8 x9))
 else
 (L0 x0 x1 (aF (x2+1)) x3 x4 x5 x6 x7 x8 x9))))
 else
 (bif (x3==5) then
 (bif ((List.getD x0 (Int.toNat x2) (Ty.dflt aC)).2.2.2.1.1==4) then
 (rm (Ty.bytes aC) (List.length x9+1)
 (L0 x0 x1 (aF (x2+1)) x3 x4 x5 x6 x7 x8 (x9++[(List.getD x0 (Int.toNat x2) (Ty.dflt aC))])))
 else
 (L0 x0 x1 (aF (x2+1)) x3 x4 x5 x6 x7 x8 x9))
 else
 (L0 x0 x1 (aF (x2+1)) x3 x4 x5 x6 x7 x8 x9))))))
 else
 (some (x9,())))
def l0 (k:Nat):Nat→T0
 | 0=>fun _ _ _ _ _ _ _ _ _ _=>none
 | n+1=>b0 k (l0 k n)
def t (k:Nat) (L0:T0) (a0:List (Ty.den aC)) (a1:Ty.den bU):Rs :=
 (L0 a0 (List.length a0:Int) 0 a1.1 a1.2.1 a1.2.2.1 a1.2.2.2.1 a1.2.2.2.2.1 a1.2.2.2.2.2.1 [])
def f (k:Nat):=t k (l0 k k)
end cS
namespace dI
abbrev Rs:Type:=Option (ByteArray × Unit)
abbrev T0:Type:=ByteArray→List Int→Int→Int→Rs
def b0 (k:Nat) (L0:T0):T0:=fun x0 x1 x2 x3 =>
 (bif (decide (x3<x2)) then
 (ba x3 (x1.length:Int)
 ((fX.f k (List.getD x1 (Int.toNat x3) (Ty.dflt (.int .i64)))).bind fun r1 =>
 (jk x0 r1.1
 (L0 (x0++r1.1) x1 x2 (aF (x3+1))))))
 else
 (some (x0,())))
def l0 (k:Nat):Nat→T0
 | 0=>fun _ _ _ _=>none
 | n+1=>b0 k (l0 k n)
def t (k:Nat) (L0:T0) (a0:List Int):Rs :=
 (L0 (⟨#[]⟩:ByteArray) a0 (List.length a0:Int) 0)
def f (k:Nat):=t k (l0 k k)
end dI
namespace j4
abbrev Rs:Type:=Option (ByteArray × Unit)
def t (k:Nat) (a0:Ty.den bU):Rs :=
 ((g7.f k a0).bind fun r1 =>
 (bif (!r1.1) then
 (some ((⟨#[]⟩:ByteArray),()))
 else
 ((dI.f k [a0.1,a0.2.1]).bind fun r2 =>
 (bif (a0.1==1) then
 (bif (a0.1==1) then
 ((eF.f k a0.2.2.1).bind fun r3 =>
 (jk r2.1 r3.1
 ((eF.f k a0.2.2.2.1).bind fun r4 =>
 (jk (r2.1++r3.1) r4.1
 (some (((r2.1++r3.1)++r4.1),()))))))
 else
 (bif (a0.1==2) then
 ((eF.f k a0.2.2.1).bind fun r5 =>
 (jk r2.1 r5.1
 (some ((r2.1++r5.1),()))))
 else
 ((fX.f k a0.2.2.2.2.1).bind fun r6 =>
 (jk r2.1 r6.1
 ((dT.f k a0.2.2.2.2.2.1 4).bind fun r7 =>
 (jk (r2.1++r6.1) r7.1
 (some (((r2.1++r6.1)++r7.1),()))))))))
 else
 (bif (a0.1==4) then
 ((eF.f k a0.2.2.1).bind fun r8 =>
 (jk r2.1 r8.1
 ((eF.f k a0.2.2.2.1).bind fun r9 =>
 (jk (r2.1++r8.1) r9.1
 (some (((r2.1++r8.1)++r9.1),()))))))
 else
 (bif (a0.1==2) then
 ((eF.f k a0.2.2.1).bind fun r10 =>
 (jk r2.1 r10.1
 (some ((r2.1++r10.1),()))))
 else
 ((fX.f k a0.2.2.2.2.1).bind fun r11 =>
 (jk r2.1 r11.1
 ((dT.f k a0.2.2.2.2.2.1 4).bind fun r12 =>
 (jk (r2.1++r11.1) r12.1
 (some (((r2.1++r11.1)++r12.1),()))))))))))))
def f (k:Nat):=t k
end j4
namespace ig
abbrev Rs:Type:=Option (Int × Unit)
abbrev T0:Type:=ByteArray→List (Ty.den bU)→Int→Int→Rs
def b0 (k:Nat) (L0:T0):T0:=fun x0 x1 x2 x3 =>
 (bif (decide (x3<x2)) then
 (ba x3 (x1.length:Int)
 ((j4.f k (List.getD x1 (Int.toNat x3) (Ty.dflt bU))).bind fun r1 =>
 (jk x0 r1.1
 (L0 (x0++r1.1) x1 x2 (aF (x3+1))))))
 else
 ((gG.f k x0).bind fun r2 =>
 (some r2)))
def l0 (k:Nat):Nat→T0
 | 0=>fun _ _ _ _=>none
 | n+1=>b0 k (l0 k n)
def t (k:Nat) (L0:T0) (a0:List (Ty.den bU)):Rs :=
 (L0 (⟨#[]⟩:ByteArray) a0 (List.length a0:Int) 0)
def f (k:Nat):=t k (l0 k k)
end ig
namespace fg
abbrev Rs:Type:=Option (Bool × Unit)
abbrev T0:Type:=List (Ty.den aC)→Int→Int→Int→Int→ByteArray→ByteArray→Int→Int→List (Ty.den bU)→Rs
def b0 (k:Nat) (L0:T0):T0:=fun x0 x1 x2 x3 x4 x5 x6 x7 x8 x9 =>
 (bif (decide (x2<x1)) then
 (ba x2 (x0.length:Int)
 (rm (Ty.bytes bU) (List.length x9+1)
 (L0 x0 x1 (aF (x2+1)) x3 x4 x5 x6 x7 x8 (x9++[(List.getD x0 (Int.toNat x2) (Ty.dflt aC)).2.2.2.1]))))
 else
 (bif (x7==(x9.length:Int)) then
 ((ig.f k x9).bind fun r1 =>
 (some ((x8==r1.1),())))
 else
 (some (false,()))))
def l0 (k:Nat):Nat→T0
 | 0=>fun _ _ _ _ _ _ _ _ _ _=>none
 | n+1=>b0 k (l0 k n)
def t (k:Nat) (L0:T0) (a0:Ty.den bU) (a1:List (Ty.den aC)):Rs :=
 (L0 a1 (List.length a1:Int) 0 a0.1 a0.2.1 a0.2.2.1 a0.2.2.2.1 a0.2.2.2.2.1 a0.2.2.2.2.2.1 [])
def f (k:Nat):=t k (l0 k k)
end fg
namespace gH
abbrev Rs:Type:=Option ((List Int) × Unit)
abbrev T0:Type:=List (Ty.den aC)→List (Ty.den aC)→Int→Int→List Int→Rs
def b0 (k:Nat) (L0:T0):T0:=fun x0 x1 x2 x3 x4 =>
 (bif (decide (x3<x2)) then
 (ba x3 (x1.length:Int)
 (bif ((List.getD x1 (Int.toNat x3) (Ty.dflt aC)).2.2.2.1.1==3) then
 (mj x3 (x0.length:Int)
 ((cS.f k (List.take (Int.toNat x3) x0) (List.getD x1 (Int.toNat x3) (Ty.dflt aC)).2.2.2.1).bind fun r1 =>
 ((fg.f k (List.getD x1 (Int.toNat x3) (Ty.dflt aC)).2.2.2.1 r1.1).bind fun r2 =>
 (bif r2.1 then
 (rm (Ty.bytes (.int .i64)) (List.length x4+1)
 (L0 x0 x1 x2 (aF (x3+1)) (x4++[(List.getD x1 (Int.toNat x3) (Ty.dflt aC)).2.2.2.1.2.1])))
 else
 (L0 x0 x1 x2 (aF (x3+1)) x4)))))
 else
 (L0 x0 x1 x2 (aF (x3+1)) x4)))
 else
 (some (x4,())))
def l0 (k:Nat):Nat→T0
 | 0=>fun _ _ _ _ _=>none
 | n+1=>b0 k (l0 k n)
def t (k:Nat) (L0:T0) (a0:List (Ty.den aC)):Rs :=
 (L0 a0 a0 (List.length a0:Int) 0 [])
def f (k:Nat):=t k (l0 k k)
end gH
namespace dV
abbrev Rs:Type:=Option ((Ty.den rr) × Unit)
abbrev T1:Type:=Int→Int→Bool→Int→Int→Int→Int→Int→Int→Bool→Int→Int→Int→Int→Int→Int→List Int→List (Ty.den aC)→Rs
abbrev T0:Type:=Int→Int→List (Ty.den aE)→Int→Int→Bool→Bool→Int→Int→Int→Int→Int→Int→Bool→Int→Int→Int→Int→Int→Int→List (Ty.den aC)→List Int→Rs
def b1 (k:Nat) (L1:T1):T1:=fun x0 x1 x2 x3 x4 x5 x6 x7 x8 x9 x10 x11 x12 x13 x14 x15 x16 x17 =>
 (bif (decide (x1<x0)) then
 (ba x1 (x17.length:Int)
 (bif ((List.getD x17 (Int.toNat x1) (Ty.dflt aC)).2.2.2.1.1==1) then
 ((ek.f k x16 (List.getD x17 (Int.toNat x1) (Ty.dflt aC)).2.2.2.1.2.1).bind fun r10 =>
 (bif (!r10.1) then
 (L1 x0 (aF (x1+1)) x2 x3 x4 x5 x6 x7 x8 x9 x10 x11 (aF (x12+1)) x13 x14 x15 x16 x17)
 else
 (L1 x0 (aF (x1+1)) x2 x3 x4 x5 x6 x7 x8 x9 x10 x11 x12 x13 x14 x15 x16 x17)))
 else
 (bif ((List.getD x17 (Int.toNat x1) (Ty.dflt aC)).2.2.2.1.1==2) then
 ((ek.f k x16 (List.getD x17 (Int.toNat x1) (Ty.dflt aC)).2.2.2.1.2.1).bind fun r11 =>
 (bif (!r11.1) then
 (L1 x0 (aF (x1+1)) x2 x3 x4 x5 x6 x7 x8 x9 x10 x11 (aF (x12+1)) x13 x14 x15 x16 x17)
 else
 (L1 x0 (aF (x1+1)) x2 x3 x4 x5 x6 x7 x8 x9 x10 x11 x12 x13 x14 x15 x16 x17)))
 else
 (L1 x0 (aF (x1+1)) x2 x3 x4 x5 x6 x7 x8 x9 x10 x11 x12 x13 x14 x15 x16 x17))))
 else
 (some ((x9,(x10,(x11,(x12,(x13,(x14,(x15,()))))))),())))
def l1 (k:Nat):Nat→T1
 | 0=>fun _ _ _ _ _ _ _ _ _ _ _ _ _ _ _ _ _ _=>none
 | n+1=>b1 k (l1 k n)
def b0 (k:Nat) (L1:T1) (L0:T0):T0:=fun x0 x1 x2 x3 x4 x5 x6 x7 x8 x9 x10 x11 x12 x13 x14 x15 x16 x17 x18 x19 x20 x21 =>
 (bif (decide (x1<x0)) then
 (ba x1 (x21.length:Int)
 ((di.f k (List.getD x21 (Int.toNat x1) (Ty.dflt (.int .i64)))).bind fun r4 =>
 ((cQ.f k (x2,(x3,(x4,(x5,())))) r4.1).bind fun r5 =>
 (bif (!r5.2.1) then
 (L0 x0 (aF (x1+1)) x2 x3 x4 x5 x6 x7 x8 x9 x10 x11 x12 x13 (aF (x14+1)) x15 x16 x17 x18 x19 x20 x21)
 else
 ((cw.f k r5.1).bind fun r6 =>
 (bif (decide (r6.2.1<(ByteArray.size r5.1:Int))) then
 ((dO.f k (List.getD x21 (Int.toNat x1) (Ty.dflt (.int .i64))) r6.1).bind fun r7 =>
 (rm (Ty.bytes aC) (List.length x20+List.length r7.1)
 (L0 x0 (aF (x1+1)) x2 x3 x4 x5 x6 x7 x8 x9 x10 x11 x12 x13 x14 (aF (x15+1)) x16 x17 x18 (aF (x19+(aF ((ByteArray.size r5.1:Int)-r6.2.1)))) (x20++r7.1) x21)))
 else
 ((dO.f k (List.getD x21 (Int.toNat x1) (Ty.dflt (.int .i64))) r6.1).bind fun r8 =>
 (rm (Ty.bytes aC) (List.length x20+List.length r8.1)
 (L0 x0 (aF (x1+1)) x2 x3 x4 x5 x6 x7 x8 x9 x10 x11 x12 x13 x14 x15 x16 x17 x18 x19 (x20++r8.1) x21)))))))))
 else
 ((gH.f k x20).bind fun r9 =>
 (L1 (x20.length:Int) 0 x6 x7 x8 x9 x10 x11 x12 x13 x14 x15 x16 x17 (x20.length:Int) x19 r9.1 x20)))
def l0 (k:Nat):Nat→T0
 | 0=>fun _ _ _ _ _ _ _ _ _ _ _ _ _ _ _ _ _ _ _ _ _ _=>none
 | n+1=>b0 k (l1 k k) (l0 k n)
def t (k:Nat) (L0:T0) (a0:Ty.den a_):Rs :=
 ((cQ.f k a0 (⟨#[108,105,118,101]⟩:ByteArray)).bind fun r1 =>
 ((aq.f k r1.1).bind fun r2 =>
 ((eJ.f k a0 r2.1).bind fun r3 =>
 (L0 (List.length r2.1.2.1:Int) 0 a0.1 a0.2.1 a0.2.2.1 a0.2.2.2.1 false 0 0 0 0 0 0 r2.2.1 0 0 0 (List.length r3.1:Int) 0 0 [] r2.1.2.1))))
def f (k:Nat):=t k (l0 k k)
end dV
namespace c8
abbrev Rs:Type:=Option ((Ty.den a_) × Unit)
def t (k:Nat) (a0:Ty.den a_):Rs :=
 (rm (Ty.bytes aE) (List.length a0.1)
 (some (a0,())))
def f (k:Nat):=t k
end c8
namespace bN
abbrev Rs:Type:=Option ((Ty.den b8) × (List (List (Ty.den aC))) × Int × Bool × Unit)
abbrev T0:Type:=Int→List Int→Int→Int→List (Ty.den aE)→Int→Int→Bool→Int→Int→List Int→List (List (Ty.den aC))→Rs
def b0 (k:Nat) (L0:T0):T0:=fun x0 x1 x2 x3 x4 x5 x6 x7 x8 x9 x10 x11 =>
 (bif (decide (x3<x2)) then
 (ba x3 (x1.length:Int)
 ((di.f k (List.getD x1 (Int.toNat x3) (Ty.dflt (.int .i64)))).bind fun r1 =>
 ((cQ.f k (x4,(x5,(x6,(x7,())))) r1.1).bind fun r2 =>
 ((cw.f k r2.1).bind fun r3 =>
 (bif (!r2.2.1) then
 (some (((x4,(x5,(x6,(x7,())))),(x8,())),([],(0,(false,())))))
 else
 (bif (decide (x3<(aF ((x10.length:Int)-1)))) then
 (bif (r3.2.1 != (ByteArray.size r2.1:Int)) then
 (some (((x4,(x5,(x6,(x7,())))),(x8,())),([],(0,(false,())))))
 else
 ((dO.f k (List.getD x1 (Int.toNat x3) (Ty.dflt (.int .i64))) r3.1).bind fun r4 =>
 (rm (Ty.bytes (.slice aC)) (List.length x11+1)
 (L0 r3.2.1 x1 x2 (aF (x3+1)) x4 x5 x6 x7 x8 x9 x10 (x11++[r4.1])))))
 else
 ((dO.f k (List.getD x1 (Int.toNat x3) (Ty.dflt (.int .i64))) r3.1).bind fun r5 =>
 (rm (Ty.bytes (.slice aC)) (List.length x11+1)
 (L0 r3.2.1 x1 x2 (aF (x3+1)) x4 x5 x6 x7 x8 x9 x10 (x11++[r5.1]))))))))))
 else
 (some (((x4,(x5,(x6,(x7,())))),(x8,())),(x11,(x0,(true,()))))))
def l0 (k:Nat):Nat→T0
 | 0=>fun _ _ _ _ _ _ _ _ _ _ _ _=>none
 | n+1=>b0 k (l0 k n)
def t (k:Nat) (L0:T0) (a0:Ty.den b8) (a1:Ty.den bA):Rs :=
 (L0 0 a1.2.1 (List.length a1.2.1:Int) 0 a0.1.1 a0.1.2.1 a0.1.2.2.1 a0.1.2.2.2.1 a0.2.1 a1.1 a1.2.1 [])
def f (k:Nat):=t k (l0 k k)
end bN
namespace eW
abbrev Rs:Type:=Option ((Ty.den a_) × ByteArray × Int × Int × Unit)
def t (k:Nat) (a0:Ty.den a_) (a1:ByteArray) (a2:Int):Rs :=
 ((bX.f k a0 a1).bind fun r1 =>
 (bif (decide (r1.1<0)) then
 (some (a0,(a1,(a2,(3,())))))
 else
 (ba r1.1 (List.length a0.1:Int)
 ((az.f k a2 0 (ByteArray.size (List.getD a0.1 (Int.toNat r1.1) (Ty.dflt aE)).2.1:Int)).bind fun r2 =>
 (bif (!r2.1) then
 (some (a0,(a1,(a2,(5,())))))
 else
 (mj a2 (ByteArray.size (List.getD a0.1 (Int.toNat r1.1) (Ty.dflt aE)).2.1:Int)
 (let l3:=(List.set a0.1 (Int.toNat r1.1) ((List.getD a0.1 (Int.toNat r1.1) (Ty.dflt aE)).1,((ByteArray.extract (List.getD a0.1 (Int.toNat r1.1) (Ty.dflt aE)).2.1 0 (Int.toNat a2)),(List.getD a0.1 (Int.toNat r1.1) (Ty.dflt aE)).2.2)));
 (let l4:=(List.set l3 (Int.toNat r1.1) ((List.getD l3 (Int.toNat r1.1) (Ty.dflt aE)).1,((List.getD l3 (Int.toNat r1.1) (Ty.dflt aE)).2.1,((if a2<(List.getD a0.1 (Int.toNat r1.1) (Ty.dflt aE)).2.2.1 then a2 else (List.getD a0.1 (Int.toNat r1.1) (Ty.dflt aE)).2.2.1),(List.getD l3 (Int.toNat r1.1) (Ty.dflt aE)).2.2.2))));
 (some ((l4,a0.2),(a1,(a2,(0,())))))))))))))
def f (k:Nat):=t k
end eW
namespace fE
abbrev Rs:Type:=Option (ByteArray × Int × (Ty.den a_) × Int × Unit)
def t (k:Nat) (a0:Ty.den a_) (a1:ByteArray) (a2:Int):Rs :=
 ((c8.f k a0).bind fun r1 =>
 ((bP.f k a0).bind fun r2 =>
 (bif (!r2.1) then
 (some (a1,(a2,(r1.1,(5,())))))
 else
 (bif a0.2.2.2.1 then
 (some (a1,(a2,((r1.1.1,(r1.1.2.1,(r1.1.2.2.1,(true,())))),(1,())))))
 else
 (bif (a0.2.2.1==0) then
 (some (a1,(a2,((r1.1.1,(r1.1.2.1,(r1.1.2.2.1,(true,())))),(1,())))))
 else
 (bif (decide (a0.2.2.1 > 0)) then
 ((eW.f k (r1.1.1,(r1.1.2.1,((aF (r1.1.2.2.1-1)),r1.1.2.2.2))) a1 a2).bind fun r3 =>
 (some (r3.2.1,(r3.2.2.1,(r3.1,r3.2.2.2)))))
 else
 ((eW.f k r1.1 a1 a2).bind fun r4 =>
 (some (r4.2.1,(r4.2.2.1,(r4.1,r4.2.2.2)))))))))))
def f (k:Nat):=t k
end fE
namespace iW
abbrev Rs:Type:=Option ((Ty.den a_) × Int × Unit)
def t (k:Nat) (a0:Ty.den a_) (a1:ByteArray) (a2:Int):Rs :=
 ((fE.f k a0 a1 a2).bind fun r1 =>
 (some r1.2.2))
def f (k:Nat):=t k
end iW
namespace lR
abbrev Rs:Type:=Option (Int × Unit)
def t (k:Nat) (a0:Int):Rs :=
 (bif (a0==0) then
 (some (0,()))
 else
 (bif (a0==1) then
 (some (1,()))
 else
 (bif (a0==2) then
 (some (2,()))
 else
 (some (3,())))))
def f (k:Nat):=t k
end lR
namespace aw
abbrev Rs:Type:=Option ((Ty.den b8) × Unit)
def t (k:Nat) (a0:Ty.den b8) (a1:Ty.den a_) (a2:Int):Rs :=
 ((lR.f k a2).bind fun r1 =>
 (some ((a1,r1),())))
def f (k:Nat):=t k
end aw
namespace hZ
abbrev Rs:Type:=Option ((Ty.den a_) × ByteArray × Int × Unit)
def t (k:Nat) (a0:Ty.den a_) (a1:ByteArray):Rs :=
 ((bX.f k a0 a1).bind fun r1 =>
 (bif (decide (r1.1<0)) then
 (some (a0,(a1,(3,()))))
 else
 (ba r1.1 (List.length a0.1:Int)
 (ba r1.1 (List.length a0.1:Int)
 (let l2:=(List.set a0.1 (Int.toNat r1.1) ((List.getD a0.1 (Int.toNat r1.1) (Ty.dflt aE)).1,((List.getD a0.1 (Int.toNat r1.1) (Ty.dflt aE)).2.1,((ByteArray.size (List.getD a0.1 (Int.toNat r1.1) (Ty.dflt aE)).2.1:Int),(List.getD a0.1 (Int.toNat r1.1) (Ty.dflt aE)).2.2.2))));
 (some ((l2,a0.2),(a1,(0,())))))))))
def f (k:Nat):=t k
end hZ
namespace gf
abbrev Rs:Type:=Option (ByteArray × (Ty.den a_) × Int × Unit)
def t (k:Nat) (a0:Ty.den a_) (a1:ByteArray):Rs :=
 ((c8.f k a0).bind fun r1 =>
 ((bP.f k a0).bind fun r2 =>
 (bif (!r2.1) then
 (some (a1,(r1.1,(5,()))))
 else
 (bif a0.2.2.2.1 then
 (some (a1,((r1.1.1,(r1.1.2.1,(r1.1.2.2.1,(true,())))),(1,()))))
 else
 (bif (a0.2.2.1==0) then
 (some (a1,((r1.1.1,(r1.1.2.1,(r1.1.2.2.1,(true,())))),(1,()))))
 else
 (bif (decide (a0.2.2.1 > 0)) then
 ((hZ.f k (r1.1.1,(r1.1.2.1,((aF (r1.1.2.2.1-1)),r1.1.2.2.2))) a1).bind fun r3 =>
 (some (r3.2.1,(r3.1,r3.2.2))))
 else
 ((hZ.f k r1.1 a1).bind fun r4 =>
 (some (r4.2.1,(r4.1,r4.2.2))))))))))
def f (k:Nat):=t k
end gf
namespace lQ
abbrev Rs:Type:=Option ((Ty.den a_) × Int × Unit)
def t (k:Nat) (a0:Ty.den a_) (a1:ByteArray):Rs :=
 ((gf.f k a0 a1).bind fun r1 =>
 (some r1.2))
def f (k:Nat):=t k
end lQ
namespace d6
abbrev Rs:Type:=Option ((Ty.den b8) × Unit)
def t (k:Nat) (a0:Ty.den b8) (a1:ByteArray):Rs :=
 (bif (a0.2.1==0) then
 ((lQ.f k a0.1 a1).bind fun r1 =>
 ((aw.f k a0 r1.1 r1.2.1).bind fun r2 =>
 (some r2)))
 else
 (some (a0,())))
def f (k:Nat):=t k
end d6
namespace iR
abbrev Rs:Type:=Option (ByteArray × Unit)
def t (k:Nat) (a0:Int):Rs :=
 ((jB.f k (⟨#[104,105,110,116]⟩:ByteArray) a0).bind fun r1 =>
 (some r1))
def f (k:Nat):=t k
end iR
namespace fJ
abbrev Rs:Type:=Option (Bool × Unit)
abbrev T0:Type:=List (Ty.den aA)→List (Ty.den aA)→Int→Int→Rs
def b0 (k:Nat) (L0:T0):T0:=fun x0 x1 x2 x3 =>
 (bif (decide (x3<x2)) then
 (ba x3 (x1.length:Int)
 ((gm.f k (List.getD x1 (Int.toNat x3) (Ty.dflt aA)).1).bind fun r1 =>
 (bif (!r1.1) then
 (some (false,()))
 else
 ((az.f k (List.getD x1 (Int.toNat x3) (Ty.dflt aA)).2.1 1 100000).bind fun r2 =>
 (bif (!r2.1) then
 (some (false,()))
 else
 (bif (decide ((List.getD x1 (Int.toNat x3) (Ty.dflt aA)).2.2.1<0)) then
 (some (false,()))
 else
 ((az.f k (List.getD x1 (Int.toNat x3) (Ty.dflt aA)).2.2.2.1 1 210).bind fun r3 =>
 (bif (!r3.1) then
 (some (false,()))
 else
 ((az.f k (List.getD x1 (Int.toNat x3) (Ty.dflt aA)).2.2.2.2.1 1 1000000).bind fun r4 =>
 (bif (!r4.1) then
 (some (false,()))
 else
 (bif (decide (x3 > 0)) then
 (ba (aF (x3-1)) (x0.length:Int)
 (bif (!(mv (List.getD x0 (Int.toNat (aF (x3-1))) (Ty.dflt aA)).1 (List.getD x1 (Int.toNat x3) (Ty.dflt aA)).1)) then
 (some (false,()))
 else
 (L0 x0 x1 x2 (aF (x3+1)))))
 else
 (L0 x0 x1 x2 (aF (x3+1))))))))))))))
 else
 (some ((decide ((x0.length:Int)≤20)),())))
def l0 (k:Nat):Nat→T0
 | 0=>fun _ _ _ _=>none
 | n+1=>b0 k (l0 k n)
def t (k:Nat) (L0:T0) (a0:List (Ty.den aA)):Rs :=
 (L0 a0 a0 (List.length a0:Int) 0)
def f (k:Nat):=t k (l0 k k)
end fJ
namespace e_
abbrev Rs:Type:=Option (Bool × Unit)
abbrev T0:Type:=List (Ty.den aA)→Int→Int→Int→Int→List (Ty.den aA)→Rs
def b0 (k:Nat) (L0:T0):T0:=fun x0 x1 x2 x3 x4 x5 =>
 (bif (decide (x2<x1)) then
 (ba x2 (x0.length:Int)
 (ba 0 (x5.length:Int)
 (bif ((List.getD x0 (Int.toNat x2) (Ty.dflt aA)).2.1 != (List.getD x5 0 (Ty.dflt aA)).2.1) then
 (some (false,()))
 else
 (bif (decide ((List.getD x0 (Int.toNat x2) (Ty.dflt aA)).2.2.1 > 100000)) then
 (some (false,()))
 else
 (L0 x0 x1 (aF (x2+1)) x3 x4 x5)))))
 else
 ((az.f k x3 0 100000).bind fun r1 =>
 (bif r1.1 then
 ((az.f k x4 0 1000000).bind fun r2 =>
 (bif r2.1 then
 ((fJ.f k x5).bind fun r3 =>
 (some r3))
 else
 (some (false,()))))
 else
 (some (false,())))))
def l0 (k:Nat):Nat→T0
 | 0=>fun _ _ _ _ _ _=>none
 | n+1=>b0 k (l0 k n)
def t (k:Nat) (L0:T0) (a0:Ty.den dc):Rs :=
 (L0 a0.2.2.1 (List.length a0.2.2.1:Int) 0 a0.1 a0.2.1 a0.2.2.1)
def f (k:Nat):=t k (l0 k k)
end e_
namespace dX
abbrev Rs:Type:=Option (ByteArray × Unit)
abbrev T0:Type:=ByteArray→List (Ty.den aA)→Int→Int→Rs
def b0 (k:Nat) (L0:T0):T0:=fun x0 x1 x2 x3 =>
 (bif (decide (x3<x2)) then
 (ba x3 (x1.length:Int)
 ((eF.f k (List.getD x1 (Int.toNat x3) (Ty.dflt aA)).1).bind fun r3 =>
 ((dI.f k [(List.getD x1 (Int.toNat x3) (Ty.dflt aA)).2.1,(List.getD x1 (Int.toNat x3) (Ty.dflt aA)).2.2.1,(List.getD x1 (Int.toNat x3) (Ty.dflt aA)).2.2.2.1,(List.getD x1 (Int.toNat x3) (Ty.dflt aA)).2.2.2.2.1]).bind fun r4 =>
 (jk r3.1 r4.1
 (jk x0 (r3.1++r4.1)
 (L0 (x0++(r3.1++r4.1)) x1 x2 (aF (x3+1))))))))
 else
 ((gG.f k x0).bind fun r5 =>
 ((dT.f k r5.1 4).bind fun r6 =>
 (jk r6.1 x0
 (some ((r6.1++x0),()))))))
def l0 (k:Nat):Nat→T0
 | 0=>fun _ _ _ _=>none
 | n+1=>b0 k (l0 k n)
def t (k:Nat) (L0:T0) (a0:Ty.den dc):Rs :=
 ((e_.f k a0).bind fun r1 =>
 (bif (!r1.1) then
 (some ((⟨#[]⟩:ByteArray),()))
 else
 ((dI.f k [a0.1,a0.2.1,(List.length a0.2.2.1:Int)]).bind fun r2 =>
 (L0 r2.1 a0.2.2.1 (List.length a0.2.2.1:Int) 0))))
def f (k:Nat):=t k (l0 k k)
end dX
namespace b_
abbrev Rs:Type:=Option ((Ty.den dc) × Bool × Unit)
abbrev T0:Type:=ByteArray→Int→Int→List (Ty.den aA)→Int→Int→ByteArray→Bool→List (Ty.den aA)→Int→Int→Rs
def b0 (k:Nat) (L0:T0):T0:=fun x0 x1 x2 x3 x4 x5 x6 x7 x8 x9 x10 =>
 (bif (decide (x2<x1)) then
 (bif (!x7) then
 ((ag.f k (x6,(x7,()))).bind fun r5 =>
 ((aJ.f k r5.1).bind fun r6 =>
 ((aJ.f k r6.1).bind fun r7 =>
 ((aJ.f k r7.1).bind fun r8 =>
 ((aJ.f k r8.1).bind fun r9 =>
 (rm (Ty.bytes aA) (List.length x8+1)
 (L0 x0 x1 (aF (x2+1)) x3 x4 x5 r9.1.1 r9.1.2.1 (x8++[(r5.2.1,(r6.2.1,(r7.2.1,(r8.2.1,r9.2))))]) x9 x10)))))))
 else
 (bif x7 then
 (some ((0,(0,([],()))),(false,())))
 else
 ((e_.f k (x9,(x10,(x8,())))).bind fun r10 =>
 (bif (!r10.1) then
 (some ((0,(0,([],()))),(false,())))
 else
 ((dX.f k (x9,(x10,(x8,())))).bind fun r11 =>
 (bif (!(seq r11.1 x0)) then
 (some ((0,(0,([],()))),(false,())))
 else
 (some ((x9,(x10,(x8,()))),(true,())))))))))
 else
 (bif x7 then
 (some ((0,(0,([],()))),(false,())))
 else
 ((e_.f k (x9,(x10,(x8,())))).bind fun r12 =>
 (bif (!r12.1) then
 (some ((0,(0,([],()))),(false,())))
 else
 ((dX.f k (x9,(x10,(x8,())))).bind fun r13 =>
 (bif (!(seq r13.1 x0)) then
 (some ((0,(0,([],()))),(false,())))
 else
 (some ((x9,(x10,(x8,()))),(true,())))))))))
def l0 (k:Nat):Nat→T0
 | 0=>fun _ _ _ _ _ _ _ _ _ _ _=>none
 | n+1=>b0 k (l0 k n)
def t (k:Nat) (L0:T0) (a0:ByteArray):Rs :=
 ((ak.f k (a0,(false,())) 4).bind fun r1 =>
 ((aJ.f k r1.1).bind fun r2 =>
 ((aJ.f k r2.1).bind fun r3 =>
 ((aJ.f k r3.1).bind fun r4 =>
 (L0 a0 r4.2.1 0 [] 0 0 r4.1.1 r4.1.2.1 [] r2.2.1 r3.2.1)))))
def f (k:Nat):=t k (l0 k k)
end b_
namespace fF
abbrev Rs:Type:=Option ((Ty.den dc) × Bool × Unit)
abbrev T0:Type:=Int→List (Ty.den bM)→List (Ty.den bM)→Int→Int→List (Ty.den aA)→Int→Int→List (Ty.den aA)→Int→Int→Rs
def b0 (k:Nat) (L0:T0):T0:=fun x0 x1 x2 x3 x4 x5 x6 x7 x8 x9 x10 =>
 (bif (decide (x4<x3)) then
 (ba x4 (x2.length:Int)
 (bif ((List.getD x2 (Int.toNat x4) (Ty.dflt bM)).2.2.1.1 != 4) then
 (some ((0,(0,([],()))),(false,())))
 else
 (bif (decide ((List.getD x2 (Int.toNat x4) (Ty.dflt bM)).2.2.1.2.1 > x10)) then
 (some ((0,(0,([],()))),(false,())))
 else
 (bif (decide (x4 > 0)) then
 (ba (aF (x4-1)) (x1.length:Int)
 (bif (!(mv (List.getD x1 (Int.toNat (aF (x4-1))) (Ty.dflt bM)).2.2.1.2.2.1 (List.getD x2 (Int.toNat x4) (Ty.dflt bM)).2.2.1.2.2.1)) then
 (some ((0,(0,([],()))),(false,())))
 else
 (rm (Ty.bytes aA) (List.length x8+1)
 (L0 x0 x1 x2 x3 (aF (x4+1)) x5 x6 x7 (x8++[((List.getD x2 (Int.toNat x4) (Ty.dflt bM)).2.2.1.2.2.1,(x0,((List.getD x2 (Int.toNat x4) (Ty.dflt bM)).1,((List.getD x2 (Int.toNat x4) (Ty.dflt bM)).2.1,((List.getD x2 (Int.toNat x4) (Ty.dflt bM)).2.2.1.2.1,())))))]) x9 x10))))
 else
 (rm (Ty.bytes aA) (List.length x8+1)
 (L0 x0 x1 x2 x3 (aF (x4+1)) x5 x6 x7 (x8++[((List.getD x2 (Int.toNat x4) (Ty.dflt bM)).2.2.1.2.2.1,(x0,((List.getD x2 (Int.toNat x4) (Ty.dflt bM)).1,((List.getD x2 (Int.toNat x4) (Ty.dflt bM)).2.1,((List.getD x2 (Int.toNat x4) (Ty.dflt bM)).2.2.1.2.1,())))))]) x9 x10))))))
 else
 (some ((x9,(x10,(x8,()))),(true,()))))
def l0 (k:Nat):Nat→T0
 | 0=>fun _ _ _ _ _ _ _ _ _ _ _=>none
 | n+1=>b0 k (l0 k n)
def t (k:Nat) (L0:T0) (a0:Int) (a1:ByteArray):Rs :=
 ((cw.f k a1).bind fun r1 =>
 (bif (decide ((aF ((List.length r1.1:Int)-1))<0)) then
 (some ((0,(0,([],()))),(false,())))
 else
 (bif (r1.2.1 != (ByteArray.size a1:Int)) then
 (some ((0,(0,([],()))),(false,())))
 else
 ((az.f k a0 1 100000).bind fun r2 =>
 (bif (!r2.1) then
 (some ((0,(0,([],()))),(false,())))
 else
 (ba (aF ((List.length r1.1:Int)-1)) (List.length r1.1:Int)
 (bif ((List.getD r1.1 (Int.toNat (aF ((List.length r1.1:Int)-1))) (Ty.dflt bM)).2.2.1.1 != 5) then
 (some ((0,(0,([],()))),(false,())))
 else
 (ba (aF ((List.length r1.1:Int)-1)) (List.length r1.1:Int)
 (mj (aF ((List.length r1.1:Int)-1)) (List.length r1.1:Int)
 ((dO.f k a0 (List.take (Int.toNat (aF ((List.length r1.1:Int)-1))) r1.1)).bind fun r3 =>
 ((fg.f k (List.getD r1.1 (Int.toNat (aF ((List.length r1.1:Int)-1))) (Ty.dflt bM)).2.2.1 r3.1).bind fun r4 =>
 (bif (!r4.1) then
 (some ((0,(0,([],()))),(false,())))
 else
 (ba (aF ((List.length r1.1:Int)-1)) (List.length r1.1:Int)
 (mj (aF ((List.length r1.1:Int)-1)) (List.length r1.1:Int)
 (L0 a0 r1.1 (List.take (Int.toNat (aF ((List.length r1.1:Int)-1))) r1.1) (List.length (List.take (Int.toNat (aF ((List.length r1.1:Int)-1))) r1.1):Int) 0 [] 0 0 [] r1.2.1 (List.getD r1.1 (Int.toNat (aF ((List.length r1.1:Int)-1))) (Ty.dflt bM)).2.2.1.2.1)))))))))))))))
def f (k:Nat):=t k (l0 k k)
end fF
namespace fR
abbrev Rs:Type:=Option (Bool × Unit)
abbrev T0:Type:=List (Ty.den aA)→List (Ty.den aA)→Int→Int→Rs
def b0 (k:Nat) (L0:T0):T0:=fun x0 x1 x2 x3 =>
 (bif (decide (x3<x2)) then
 (ba x3 (x0.length:Int)
 (ba x3 (x1.length:Int)
 (bif (!((seq (List.getD x0 (Int.toNat x3) (Ty.dflt aA)).1 (List.getD x1 (Int.toNat x3) (Ty.dflt aA)).1)&&(((List.getD x0 (Int.toNat x3) (Ty.dflt aA)).2.1==(List.getD x1 (Int.toNat x3) (Ty.dflt aA)).2.1)&&(((List.getD x0 (Int.toNat x3) (Ty.dflt aA)).2.2.1==(List.getD x1 (Int.toNat x3) (Ty.dflt aA)).2.2.1)&&(((List.getD x0 (Int.toNat x3) (Ty.dflt aA)).2.2.2.1==(List.getD x1 (Int.toNat x3) (Ty.dflt aA)).2.2.2.1)&&((List.getD x0 (Int.toNat x3) (Ty.dflt aA)).2.2.2.2.1==(List.getD x1 (Int.toNat x3) (Ty.dflt aA)).2.2.2.2.1)))))) then
 (some (false,()))
 else
 (L0 x0 x1 x2 (aF (x3+1))))))
 else
 (some (true,())))
def l0 (k:Nat):Nat→T0
 | 0=>fun _ _ _ _=>none
 | n+1=>b0 k (l0 k n)
def t (k:Nat) (L0:T0) (a0:List (Ty.den aA)) (a1:List (Ty.den aA)):Rs :=
 (bif ((List.length a0:Int) != (List.length a1:Int)) then
 (some (false,()))
 else
 (L0 a0 a1 (List.length a0:Int) 0))
def f (k:Nat):=t k (l0 k k)
end fR
namespace iT
abbrev Rs:Type:=Option (Bool × Unit)
def t (k:Nat) (a0:Int) (a1:ByteArray) (a2:Ty.den dc):Rs :=
 ((fF.f k a0 a1).bind fun r1 =>
 (bif r1.2.1 then
 (bif (r1.1.1==a2.1) then
 (bif (r1.1.2.1==a2.2.1) then
 ((fR.f k r1.1.2.2.1 a2.2.2.1).bind fun r2 =>
 (some r2))
 else
 (some (false,())))
 else
 (some (false,())))
 else
 (some (false,()))))
def f (k:Nat):=t k
end iT
namespace ck
abbrev Rs:Type:=Option ((Ty.den b8) × (Ty.den g_) × Bool × Unit)
def t (k:Nat) (a0:Ty.den b8) (a1:Int):Rs :=
 ((iR.f k a1).bind fun r1 =>
 ((cQ.f k a0.1 r1.1).bind fun r2 =>
 ((b_.f k r2.1).bind fun r3 =>
 ((di.f k a1).bind fun r4 =>
 ((cQ.f k a0.1 r4.1).bind fun r5 =>
 (bif (!r2.2.1) then
 (some (a0,(([],(0,(0,()))),(false,()))))
 else
 (bif (!r3.2.1) then
 (some (a0,(([],(0,(0,()))),(false,()))))
 else
 ((iT.f k a1 r5.1 r3.1).bind fun r6 =>
 (bif (!r6.1) then
 (some (a0,(([],(0,(0,()))),(false,()))))
 else
 (some (a0,((r3.1.2.2.1,(r3.1.2.1,(0,()))),(true,())))))))))))))
def f (k:Nat):=t k
end ck
namespace fA
abbrev Rs:Type:=Option ((List (Ty.den aA)) × Unit)
def t (k:Nat) (a0:List (Ty.den aA)):Rs :=
 (rm (Ty.bytes aA) (List.length a0)
 (some (a0,())))
def f (k:Nat):=t k
end fA
namespace dQ
abbrev Rs:Type:=Option ((List (Ty.den aA)) × Unit)
abbrev T0:Type:=ByteArray→List (Ty.den aA)→Int→Int→List (Ty.den aA)→Rs
def b0 (k:Nat) (L0:T0):T0:=fun x0 x1 x2 x3 x4 =>
 (bif (decide (x3<x2)) then
 (ba x3 (x1.length:Int)
 (bif (!(seq (List.getD x1 (Int.toNat x3) (Ty.dflt aA)).1 x0)) then
 (rm (Ty.bytes aA) (List.length x4+1)
 (L0 x0 x1 x2 (aF (x3+1)) (x4++[(List.getD x1 (Int.toNat x3) (Ty.dflt aA))])))
 else
 (L0 x0 x1 x2 (aF (x3+1)) x4)))
 else
 (some (x4,())))
def l0 (k:Nat):Nat→T0
 | 0=>fun _ _ _ _ _=>none
 | n+1=>b0 k (l0 k n)
def t (k:Nat) (L0:T0) (a0:List (Ty.den aA)) (a1:ByteArray):Rs :=
 (L0 a1 a0 (List.length a0:Int) 0 [])
def f (k:Nat):=t k (l0 k k)
end dQ
namespace fG
abbrev Rs:Type:=Option ((List (Ty.den aA)) × Unit)
abbrev T0:Type:=Int→ByteArray→Int→Int→Int→Int→List (Ty.den aA)→Rs
def b0 (k:Nat) (L0:T0):T0:=fun x0 x1 x2 x3 x4 x5 x6 =>
 (bif (decide (x0<(x6.length:Int))) then
 (ba x0 (x6.length:Int)
 (bif ((mv (List.getD x6 (Int.toNat x0) (Ty.dflt aA)).1 x1)||(seq (List.getD x6 (Int.toNat x0) (Ty.dflt aA)).1 x1)) then
 (L0 (aF (x0+1)) x1 x2 x3 x4 x5 x6)
 else
 (mj x0 (x6.length:Int)
 ((fA.f k (List.take (Int.toNat x0) x6)).bind fun r2 =>
 (rm (Ty.bytes aA) (List.length r2.1+1)
 (mj x0 (x6.length:Int)
 (rm (Ty.bytes aA) (List.length (r2.1++[(x1,(x2,(x3,(x4,(x5,())))))])+List.length (List.drop (Int.toNat x0) x6))
 (some (((r2.1++[(x1,(x2,(x3,(x4,(x5,())))))])++(List.drop (Int.toNat x0) x6)),())))))))))
 else
 (mj x0 (x6.length:Int)
 ((fA.f k (List.take (Int.toNat x0) x6)).bind fun r3 =>
 (rm (Ty.bytes aA) (List.length r3.1+1)
 (mj x0 (x6.length:Int)
 (rm (Ty.bytes aA) (List.length (r3.1++[(x1,(x2,(x3,(x4,(x5,())))))])+List.length (List.drop (Int.toNat x0) x6))
 (some (((r3.1++[(x1,(x2,(x3,(x4,(x5,())))))])++(List.drop (Int.toNat x0) x6)),()))))))))
def l0 (k:Nat):Nat→T0
 | 0=>fun _ _ _ _ _ _ _=>none
 | n+1=>b0 k (l0 k n)
def t (k:Nat) (L0:T0) (a0:List (Ty.den aA)) (a1:Ty.den aA):Rs :=
 ((dQ.f k a0 a1.1).bind fun r1 =>
 (L0 0 a1.1 a1.2.1 a1.2.2.1 a1.2.2.2.1 a1.2.2.2.2.1 r1.1))
def f (k:Nat):=t k (l0 k k)
end fG
namespace cC
abbrev Rs:Type:=Option ((Ty.den g_) × Unit)
abbrev T0:Type:=List (Ty.den aC)→Int→Int→List (Ty.den aA)→Int→Int→Rs
def b0 (k:Nat) (L0:T0):T0:=fun x0 x1 x2 x3 x4 x5 =>
 (bif (decide (x2<x1)) then
 (ba x2 (x0.length:Int)
 (bif ((List.getD x0 (Int.toNat x2) (Ty.dflt aC)).2.2.2.1.1==2) then
 ((dQ.f k x3 (List.getD x0 (Int.toNat x2) (Ty.dflt aC)).2.2.2.1.2.2.1).bind fun r1 =>
 (L0 x0 x1 (aF (x2+1)) r1.1 x4 x5))
 else
 ((fG.f k x3 ((List.getD x0 (Int.toNat x2) (Ty.dflt aC)).2.2.2.1.2.2.1,((List.getD x0 (Int.toNat x2) (Ty.dflt aC)).1,((List.getD x0 (Int.toNat x2) (Ty.dflt aC)).2.1,((List.getD x0 (Int.toNat x2) (Ty.dflt aC)).2.2.1,((List.getD x0 (Int.toNat x2) (Ty.dflt aC)).2.2.2.1.2.1,())))))).bind fun r2 =>
 (L0 x0 x1 (aF (x2+1)) r2.1 x4 x5))))
 else
 (bif (decide ((x3.length:Int) > 20)) then
 (some ((x3,(x4,(2,()))),()))
 else
 (some ((x3,(x4,(x5,()))),()))))
def l0 (k:Nat):Nat→T0
 | 0=>fun _ _ _ _ _ _=>none
 | n+1=>b0 k (l0 k n)
def t (k:Nat) (L0:T0) (a0:Ty.den g_) (a1:List (Ty.den aC)):Rs :=
 (L0 a1 (List.length a1:Int) 0 a0.1 a0.2.1 a0.2.2.1)
def f (k:Nat):=t k (l0 k k)
end cC
namespace dM
abbrev Rs:Type:=Option ((Ty.den g_) × Unit)
abbrev T0:Type:=List (Ty.den aC)→List (Ty.den aC)→Int→Int→List (Ty.den aA)→Int→Int→List (Ty.den aA)→Int→Int→Rs
def b0 (k:Nat) (L0:T0):T0:=fun x0 x1 x2 x3 x4 x5 x6 x7 x8 x9 =>
 (bif (decide (x3<x2)) then
 (ba x3 (x1.length:Int)
 (bif (x9 != 0) then
 (some ((x7,(x8,(x9,()))),()))
 else
 (bif ((List.getD x1 (Int.toNat x3) (Ty.dflt aC)).2.2.2.1.1 != 3) then
 (bif ((List.getD x1 (Int.toNat x3) (Ty.dflt aC)).2.2.2.1.1 != 5) then
 (L0 x0 x1 x2 (aF (x3+1)) x4 x5 x6 x7 (if (List.getD x1 (Int.toNat x3) (Ty.dflt aC)).2.2.2.1.2.1 > x8 then (List.getD x1 (Int.toNat x3) (Ty.dflt aC)).2.2.2.1.2.1 else x8) x9)
 else
 (mj x3 (x0.length:Int)
 ((cS.f k (List.take (Int.toNat x3) x0) (List.getD x1 (Int.toNat x3) (Ty.dflt aC)).2.2.2.1).bind fun r2 =>
 ((fg.f k (List.getD x1 (Int.toNat x3) (Ty.dflt aC)).2.2.2.1 r2.1).bind fun r3 =>
 (bif r3.1 then
 ((cC.f k (x7,((if (List.getD x1 (Int.toNat x3) (Ty.dflt aC)).2.2.2.1.2.1 > x8 then (List.getD x1 (Int.toNat x3) (Ty.dflt aC)).2.2.2.1.2.1 else x8),(x9,()))) r2.1).bind fun r4 =>
 (L0 x0 x1 x2 (aF (x3+1)) x4 x5 x6 r4.1.1 r4.1.2.1 r4.1.2.2.1))
 else
 (bif ((List.getD x1 (Int.toNat x3) (Ty.dflt aC)).2.2.2.1.1==5) then
 (L0 x0 x1 x2 (aF (x3+1)) x4 x5 x6 x7 (if (List.getD x1 (Int.toNat x3) (Ty.dflt aC)).2.2.2.1.2.1 > x8 then (List.getD x1 (Int.toNat x3) (Ty.dflt aC)).2.2.2.1.2.1 else x8) 1)
 else
 (L0 x0 x1 x2 (aF (x3+1)) x4 x5 x6 x7 (if (List.getD x1 (Int.toNat x3) (Ty.dflt aC)).2.2.2.1.2.1 > x8 then (List.getD x1 (Int.toNat x3) (Ty.dflt aC)).2.2.2.1.2.1 else x8) x9)))))))
 else
 (mj x3 (x0.length:Int)
 ((cS.f k (List.take (Int.toNat x3) x0) (List.getD x1 (Int.toNat x3) (Ty.dflt aC)).2.2.2.1).bind fun r5 =>
 ((fg.f k (List.getD x1 (Int.toNat x3) (Ty.dflt aC)).2.2.2.1 r5.1).bind fun r6 =>
 (bif r6.1 then
 ((cC.f k (x7,((if (List.getD x1 (Int.toNat x3) (Ty.dflt aC)).2.2.2.1.2.1 > x8 then (List.getD x1 (Int.toNat x3) (Ty.dflt aC)).2.2.2.1.2.1 else x8),(x9,()))) r5.1).bind fun r7 =>
 (L0 x0 x1 x2 (aF (x3+1)) x4 x5 x6 r7.1.1 r7.1.2.1 r7.1.2.2.1))
 else
 (bif ((List.getD x1 (Int.toNat x3) (Ty.dflt aC)).2.2.2.1.1==5) then
 (L0 x0 x1 x2 (aF (x3+1)) x4 x5 x6 x7 (if (List.getD x1 (Int.toNat x3) (Ty.dflt aC)).2.2.2.1.2.1 > x8 then (List.getD x1 (Int.toNat x3) (Ty.dflt aC)).2.2.2.1.2.1 else x8) 1)
 else
 (L0 x0 x1 x2 (aF (x3+1)) x4 x5 x6 x7 (if (List.getD x1 (Int.toNat x3) (Ty.dflt aC)).2.2.2.1.2.1 > x8 then (List.getD x1 (Int.toNat x3) (Ty.dflt aC)).2.2.2.1.2.1 else x8) x9)))))))))
 else
 (bif (x9==0) then
 ((cS.f k x0 (5,(0,(ByteArray.empty,(ByteArray.empty,(0,(0,()))))))).bind fun r8 =>
 (bif (decide ((List.length r8.1:Int) > 0)) then
 (some ((x7,(x8,(1,()))),()))
 else
 (some ((x7,(x8,(x9,()))),()))))
 else
 (some ((x7,(x8,(x9,()))),()))))
def l0 (k:Nat):Nat→T0
 | 0=>fun _ _ _ _ _ _ _ _ _ _=>none
 | n+1=>b0 k (l0 k n)
def t (k:Nat) (L0:T0) (a0:Ty.den g_) (a1:List (Ty.den aC)):Rs :=
 ((fA.f k a0.1).bind fun r1 =>
 (L0 a1 a1 (List.length a1:Int) 0 [] 0 0 r1.1 a0.2.1 a0.2.2.1))
def f (k:Nat):=t k (l0 k k)
end dM
namespace eX
abbrev Rs:Type:=Option ((Ty.den a_) × Unit)
def t (k:Nat) (a0:Ty.den a_) (a1:ByteArray):Rs :=
 ((bX.f k a0 a1).bind fun r1 =>
 (bif (decide (r1.1≥0)) then
 (mj r1.1 (List.length a0.1:Int)
 (rm (Ty.bytes aE) (List.length (List.take (Int.toNat r1.1) a0.1))
 (mj (aF (r1.1+1)) (List.length a0.1:Int)
 (rm (Ty.bytes aE) (List.length (List.take (Int.toNat r1.1) a0.1)+List.length (List.drop (Int.toNat (aF (r1.1+1))) a0.1))
 (some ((((List.take (Int.toNat r1.1) a0.1)++(List.drop (Int.toNat (aF (r1.1+1))) a0.1)),a0.2),()))))))
 else
 (some (a0,()))))
def f (k:Nat):=t k
end eX
namespace fo
abbrev Rs:Type:=Option ((Ty.den a_) × ByteArray × Int × Unit)
def t (k:Nat) (a0:Ty.den a_) (a1:ByteArray):Rs :=
 ((bX.f k a0 a1).bind fun r1 =>
 (bif (decide (r1.1<0)) then
 (some (a0,(a1,(3,()))))
 else
 ((eX.f k a0 a1).bind fun r2 =>
 (some (r2.1,(a1,(0,())))))))
def f (k:Nat):=t k
end fo
namespace fv
abbrev Rs:Type:=Option (ByteArray × (Ty.den a_) × Int × Unit)
def t (k:Nat) (a0:Ty.den a_) (a1:ByteArray):Rs :=
 ((c8.f k a0).bind fun r1 =>
 ((bP.f k a0).bind fun r2 =>
 (bif (!r2.1) then
 (some (a1,(r1.1,(5,()))))
 else
 (bif a0.2.2.2.1 then
 (some (a1,((r1.1.1,(r1.1.2.1,(r1.1.2.2.1,(true,())))),(1,()))))
 else
 (bif (a0.2.2.1==0) then
 (some (a1,((r1.1.1,(r1.1.2.1,(r1.1.2.2.1,(true,())))),(1,()))))
 else
 (bif (decide (a0.2.2.1 > 0)) then
 ((fo.f k (r1.1.1,(r1.1.2.1,((aF (r1.1.2.2.1-1)),r1.1.2.2.2))) a1).bind fun r3 =>
 (some (r3.2.1,(r3.1,r3.2.2))))
 else
 ((fo.f k r1.1 a1).bind fun r4 =>
 (some (r4.2.1,(r4.1,r4.2.2))))))))))
def f (k:Nat):=t k
end fv
namespace jh
abbrev Rs:Type:=Option ((Ty.den a_) × Int × Unit)
def t (k:Nat) (a0:Ty.den a_) (a1:ByteArray):Rs :=
 ((fv.f k a0 a1).bind fun r1 =>
 (some r1.2))
def f (k:Nat):=t k
end jh
namespace dt
abbrev Rs:Type:=Option ((Ty.den b8) × Unit)
def t (k:Nat) (a0:Ty.den b8) (a1:ByteArray):Rs :=
 (bif (a0.2.1==0) then
 ((bX.f k a0.1 a1).bind fun r1 =>
 (bif (decide (r1.1≥0)) then
 ((jh.f k a0.1 a1).bind fun r2 =>
 ((aw.f k a0 r2.1 r2.2.1).bind fun r3 =>
 (some r3)))
 else
 (some (a0,()))))
 else
 (some (a0,())))
def f (k:Nat):=t k
end dt
namespace ae
abbrev Rs:Type:=Option ((Ty.den b8) × Unit)
abbrev T0:Type:=Int→Int→List (Ty.den aE)→Int→Int→Bool→Int→List ByteArray→Rs
def b0 (k:Nat) (L0:T0):T0:=fun x0 x1 x2 x3 x4 x5 x6 x7 =>
 (bif (decide (x1<x0)) then
 (ba x1 (x7.length:Int)
 ((dt.f k ((x2,(x3,(x4,(x5,())))),(x6,())) (List.getD x7 (Int.toNat x1) (Ty.dflt .str))).bind fun r2 =>
 (L0 x0 (aF (x1+1)) r2.1.1.1 r2.1.1.2.1 r2.1.1.2.2.1 r2.1.1.2.2.2.1 r2.1.2.1 x7)))
 else
 (some (((x2,(x3,(x4,(x5,())))),(x6,())),())))
def l0 (k:Nat):Nat→T0
 | 0=>fun _ _ _ _ _ _ _ _=>none
 | n+1=>b0 k (l0 k n)
def t (k:Nat) (L0:T0) (a0:Ty.den b8) (a1:Ty.den bA):Rs :=
 ((eJ.f k a0.1 a1).bind fun r1 =>
 (L0 (List.length r1.1:Int) 0 a0.1.1 a0.1.2.1 a0.1.2.2.1 a0.1.2.2.2.1 a0.2.1 r1.1))
def f (k:Nat):=t k (l0 k k)
end ae
namespace aR
abbrev Rs:Type:=Option ((Ty.den b8) × (Ty.den aI) × Unit)
abbrev T0:Type:=List (List (Ty.den aC))→Int→Int→List (Ty.den aE)→Int→Int→Bool→Int→List Int→List (Ty.den aA)→Int→Int→Int→Int→List Int→Int→List (Ty.den aA)→Int→Int→Int→Int→List (Ty.den aA)→Int→Int→List (Ty.den aC)→Rs
abbrev T1:Type:=Int→Int→List (Ty.den aE)→Int→Int→Bool→Int→List Int→List (Ty.den aA)→Int→Int→Int→Int→List Int→Int→List (Ty.den aA)→Int→Int→Int→Int→List (Ty.den aA)→Int→Int→List (Ty.den aC)→List (List (Ty.den aC))→Rs
abbrev T2:Type:=List (List (Ty.den aC))→Int→Int→List (Ty.den aE)→Int→Int→Bool→Int→List Int→List (Ty.den aA)→Int→Int→Int→Int→List Int→Int→List (Ty.den aA)→Int→Int→Int→Int→List (Ty.den aA)→Int→Int→List (Ty.den aC)→Rs
abbrev T3:Type:=Int→Int→List (Ty.den aE)→Int→Int→Bool→Int→List Int→List (Ty.den aA)→Int→Int→Int→Int→List Int→Int→List (Ty.den aA)→Int→Int→Int→Int→List (Ty.den aA)→Int→Int→List (Ty.den aC)→List (List (Ty.den aC))→Rs
def b0 (k:Nat) (L0:T0):T0:=fun x0 x1 x2 x3 x4 x5 x6 x7 x8 x9 x10 x11 x12 x13 x14 x15 x16 x17 x18 x19 x20 x21 x22 x23 x24 =>
 (bif (decide (x2<x1)) then
 (ba x2 (x0.length:Int)
 (rm (Ty.bytes aC) (List.length x24+List.length (List.getD x0 (Int.toNat x2) (Ty.dflt (.slice aC))))
 (L0 x0 x1 (aF (x2+1)) x3 x4 x5 x6 x7 x8 x9 x10 x11 x12 x13 x14 x15 x16 x17 x18 x19 x20 x21 x22 x23 (x24++(List.getD x0 (Int.toNat x2) (Ty.dflt (.slice aC)))))))
 else
 ((dM.f k (x21,(x22,(x23,()))) x24).bind fun r9 =>
 (bif (r9.1.2.2.1 != 0) then
 (some (((x3,(x4,(x5,(x6,())))),(3,())),(((0,([],())),([],(0,(0,(0,()))))),())))
 else
 ((ae.f k ((x3,(x4,(x5,(x6,())))),(x7,())) (x15,(x14,()))).bind fun r10 =>
 (some (r10.1,(((x17,(x14,())),(r9.1.1,((aF (r9.1.2.1+1)),(x19,(x20,()))))),())))))))
def l0 (k:Nat):Nat→T0
 | 0=>fun _ _ _ _ _ _ _ _ _ _ _ _ _ _ _ _ _ _ _ _ _ _ _ _ _=>none
 | n+1=>b0 k (l0 k n)
def b1 (k:Nat) (L1:T1):T1:=fun x0 x1 x2 x3 x4 x5 x6 x7 x8 x9 x10 x11 x12 x13 x14 x15 x16 x17 x18 x19 x20 x21 x22 x23 x24 =>
 (bif (decide (x1<x0)) then
 (ba x1 (x24.length:Int)
 (rm (Ty.bytes aC) (List.length x23+List.length (List.getD x24 (Int.toNat x1) (Ty.dflt (.slice aC))))
 (L1 x0 (aF (x1+1)) x2 x3 x4 x5 x6 x7 x8 x9 x10 x11 x12 x13 x14 x15 x16 x17 x18 x19 x20 x21 x22 (x23++(List.getD x24 (Int.toNat x1) (Ty.dflt (.slice aC)))) x24)))
 else
 ((dM.f k (x20,(x21,(x22,()))) x23).bind fun r11 =>
 (bif (r11.1.2.2.1 != 0) then
 (some (((x2,(x3,(x4,(x5,())))),(3,())),(((0,([],())),([],(0,(0,(0,()))))),())))
 else
 ((ae.f k ((x2,(x3,(x4,(x5,())))),(x6,())) (x14,(x13,()))).bind fun r12 =>
 (some (r12.1,(((x16,(x13,())),(r11.1.1,((aF (r11.1.2.1+1)),(x18,(x19,()))))),())))))))
def l1 (k:Nat):Nat→T1
 | 0=>fun _ _ _ _ _ _ _ _ _ _ _ _ _ _ _ _ _ _ _ _ _ _ _ _ _=>none
 | n+1=>b1 k (l1 k n)
def b2 (k:Nat) (L2:T2):T2:=fun x0 x1 x2 x3 x4 x5 x6 x7 x8 x9 x10 x11 x12 x13 x14 x15 x16 x17 x18 x19 x20 x21 x22 x23 x24 =>
 (bif (decide (x2<x1)) then
 (ba x2 (x0.length:Int)
 (rm (Ty.bytes aC) (List.length x24+List.length (List.getD x0 (Int.toNat x2) (Ty.dflt (.slice aC))))
 (L2 x0 x1 (aF (x2+1)) x3 x4 x5 x6 x7 x8 x9 x10 x11 x12 x13 x14 x15 x16 x17 x18 x19 x20 x21 x22 x23 (x24++(List.getD x0 (Int.toNat x2) (Ty.dflt (.slice aC)))))))
 else
 ((dM.f k (x21,(x22,(x23,()))) x24).bind fun r15 =>
 (bif (r15.1.2.2.1 != 0) then
 (some (((x3,(x4,(x5,(x6,())))),(3,())),(((0,([],())),([],(0,(0,(0,()))))),())))
 else
 ((ae.f k ((x3,(x4,(x5,(x6,())))),(x7,())) (x15,(x14,()))).bind fun r16 =>
 (some (r16.1,(((x17,(x14,())),(r15.1.1,((aF (r15.1.2.1+1)),(x19,(x20,()))))),())))))))
def l2 (k:Nat):Nat→T2
 | 0=>fun _ _ _ _ _ _ _ _ _ _ _ _ _ _ _ _ _ _ _ _ _ _ _ _ _=>none
 | n+1=>b2 k (l2 k n)
def b3 (k:Nat) (L3:T3):T3:=fun x0 x1 x2 x3 x4 x5 x6 x7 x8 x9 x10 x11 x12 x13 x14 x15 x16 x17 x18 x19 x20 x21 x22 x23 x24 =>
 (bif (decide (x1<x0)) then
 (ba x1 (x24.length:Int)
 (rm (Ty.bytes aC) (List.length x23+List.length (List.getD x24 (Int.toNat x1) (Ty.dflt (.slice aC))))
 (L3 x0 (aF (x1+1)) x2 x3 x4 x5 x6 x7 x8 x9 x10 x11 x12 x13 x14 x15 x16 x17 x18 x19 x20 x21 x22 (x23++(List.getD x24 (Int.toNat x1) (Ty.dflt (.slice aC)))) x24)))
 else
 ((dM.f k (x20,(x21,(x22,()))) x23).bind fun r17 =>
 (bif (r17.1.2.2.1 != 0) then
 (some (((x2,(x3,(x4,(x5,())))),(3,())),(((0,([],())),([],(0,(0,(0,()))))),())))
 else
 ((ae.f k ((x2,(x3,(x4,(x5,())))),(x6,())) (x14,(x13,()))).bind fun r18 =>
 (some (r18.1,(((x16,(x13,())),(r17.1.1,((aF (r17.1.2.1+1)),(x18,(x19,()))))),())))))))
def l3 (k:Nat):Nat→T3
 | 0=>fun _ _ _ _ _ _ _ _ _ _ _ _ _ _ _ _ _ _ _ _ _ _ _ _ _=>none
 | n+1=>b3 k (l3 k n)
def t (k:Nat) (L0:T0) (L1:T1) (L2:T2) (L3:T3) (a0:Ty.den b8) (a1:ByteArray):Rs :=
 ((aq.f k a1).bind fun r1 =>
 ((bN.f k a0 r1.1).bind fun r2 =>
 (bif (!r1.2.1) then
 (some ((r2.1.1,(3,())),(((0,([],())),([],(0,(0,(0,()))))),())))
 else
 (bif (!r2.2.2.2.1) then
 (some ((r2.1.1,(3,())),(((0,([],())),([],(0,(0,(0,()))))),())))
 else
 (ba (aF ((List.length r1.1.2.1:Int)-1)) (List.length r1.1.2.1:Int)
 ((di.f k (List.getD r1.1.2.1 (Int.toNat (aF ((List.length r1.1.2.1:Int)-1))) (Ty.dflt (.int .i64)))).bind fun r3 =>
 ((cQ.f k r2.1.1 r3.1).bind fun r4 =>
 (bif ((ByteArray.size r4.1:Int) != r2.2.2.1) then
 ((iW.f k r2.1.1 r3.1 r2.2.2.1).bind fun r5 =>
 ((aw.f k r2.1 r5.1 r5.2.1).bind fun r6 =>
 ((d6.f k r6.1 r3.1).bind fun r7 =>
 (bif (r7.1.2.1 != 0) then
 (some (r7.1,(((0,([],())),([],(0,(0,(0,()))))),())))
 else
 (ba 0 (List.length r1.1.2.1:Int)
 ((ck.f k r7.1 (List.getD r1.1.2.1 0 (Ty.dflt (.int .i64)))).bind fun r8 =>
 (bif r8.2.2.1 then
 (ba 0 (List.length r1.1.2.1:Int)
 (mj 1 (List.length r2.2.1:Int)
 (L0 (List.drop 1 r2.2.1) (List.length (List.drop 1 r2.2.1):Int) 0 r8.1.1.1 r8.1.1.2.1 r8.1.1.2.2.1 r8.1.1.2.2.2.1 r8.1.2.1 [] [] 0 0 0 0 r1.1.2.1 r1.1.1 [] r1.1.1 0 r2.2.2.1 (List.getD r1.1.2.1 0 (Ty.dflt (.int .i64))) r8.2.1.1 r8.2.1.2.1 r8.2.1.2.2.1 [])))
 else
 (L1 (List.length r2.2.1:Int) 0 r8.1.1.1 r8.1.1.2.1 r8.1.1.2.2.1 r8.1.1.2.2.2.1 r8.1.2.1 [] [] 0 0 0 0 r1.1.2.1 r1.1.1 [] r1.1.1 0 r2.2.2.1 0 r8.2.1.1 r8.2.1.2.1 r8.2.1.2.2.1 [] r2.2.1))))))))
 else
 ((d6.f k r2.1 r3.1).bind fun r13 =>
 (bif (r13.1.2.1 != 0) then
 (some (r13.1,(((0,([],())),([],(0,(0,(0,()))))),())))
 else
 (ba 0 (List.length r1.1.2.1:Int)
 ((ck.f k r13.1 (List.getD r1.1.2.1 0 (Ty.dflt (.int .i64)))).bind fun r14 =>
 (bif r14.2.2.1 then
 (ba 0 (List.length r1.1.2.1:Int)
 (mj 1 (List.length r2.2.1:Int)
 (L2 (List.drop 1 r2.2.1) (List.length (List.drop 1 r2.2.1):Int) 0 r14.1.1.1 r14.1.1.2.1 r14.1.1.2.2.1 r14.1.1.2.2.2.1 r14.1.2.1 [] [] 0 0 0 0 r1.1.2.1 r1.1.1 [] r1.1.1 0 r2.2.2.1 (List.getD r1.1.2.1 0 (Ty.dflt (.int .i64))) r14.2.1.1 r14.2.1.2.1 r14.2.1.2.2.1 [])))
 else
 (L3 (List.length r2.2.1:Int) 0 r14.1.1.1 r14.1.1.2.1 r14.1.1.2.2.1 r14.1.1.2.2.2.1 r14.1.2.1 [] [] 0 0 0 0 r1.1.2.1 r1.1.1 [] r1.1.1 0 r2.2.2.1 0 r14.2.1.1 r14.2.1.2.1 r14.2.1.2.2.1 [] r2.2.1))))))))))))))
def f (k:Nat):=t k (l0 k k) (l1 k k) (l2 k k) (l3 k k)
end aR
namespace d8
abbrev Rs:Type:=Option ((Ty.den a_) × Unit)
abbrev T0:Type:=Int→List (Ty.den aE)→Int→Int→Bool→ByteArray→ByteArray→Int→Rs
def b0 (k:Nat) (L0:T0):T0:=fun x0 x1 x2 x3 x4 x5 x6 x7 =>
 (bif (decide (x0<(x1.length:Int))) then
 (ba x0 (x1.length:Int)
 (bif (mv (List.getD x1 (Int.toNat x0) (Ty.dflt aE)).1 x5) then
 (L0 (aF (x0+1)) x1 x2 x3 x4 x5 x6 x7)
 else
 (mj x0 (x1.length:Int)
 (rm (Ty.bytes aE) (List.length (List.take (Int.toNat x0) x1))
 (rm (Ty.bytes aE) (List.length (List.take (Int.toNat x0) x1)+1)
 (mj x0 (x1.length:Int)
 (rm (Ty.bytes aE) (List.length ((List.take (Int.toNat x0) x1)++[(x5,(x6,(x7,())))])+List.length (List.drop (Int.toNat x0) x1))
 (some (((((List.take (Int.toNat x0) x1)++[(x5,(x6,(x7,())))])++(List.drop (Int.toNat x0) x1)),(x2,(x3,(x4,())))),())))))))))
 else
 (mj x0 (x1.length:Int)
 (rm (Ty.bytes aE) (List.length (List.take (Int.toNat x0) x1))
 (rm (Ty.bytes aE) (List.length (List.take (Int.toNat x0) x1)+1)
 (mj x0 (x1.length:Int)
 (rm (Ty.bytes aE) (List.length ((List.take (Int.toNat x0) x1)++[(x5,(x6,(x7,())))])+List.length (List.drop (Int.toNat x0) x1))
 (some (((((List.take (Int.toNat x0) x1)++[(x5,(x6,(x7,())))])++(List.drop (Int.toNat x0) x1)),(x2,(x3,(x4,())))),()))))))))
def l0 (k:Nat):Nat→T0
 | 0=>fun _ _ _ _ _ _ _ _=>none
 | n+1=>b0 k (l0 k n)
def t (k:Nat) (L0:T0) (a0:Ty.den a_) (a1:Ty.den aE):Rs :=
 (L0 0 a0.1 a0.2.1 a0.2.2.1 a0.2.2.2.1 a1.1 a1.2.1 a1.2.2.1)
def f (k:Nat):=t k (l0 k k)
end d8
namespace fk
abbrev Rs:Type:=Option ((Ty.den a_) × ByteArray × Int × Unit)
def t (k:Nat) (a0:Ty.den a_) (a1:ByteArray):Rs :=
 ((eD.f k a1).bind fun r1 =>
 (bif (!r1.1) then
 (some (a0,(a1,(5,()))))
 else
 ((bX.f k a0 a1).bind fun r2 =>
 (bif (decide (r2.1≥0)) then
 (some (a0,(a1,(4,()))))
 else
 (bif (decide ((List.length a0.1:Int)≥130)) then
 (some (a0,(a1,(2,()))))
 else
 ((d8.f k a0 (a1,(ByteArray.empty,(0,())))).bind fun r3 =>
 (some (r3.1,(a1,(0,()))))))))))
def f (k:Nat):=t k
end fk
namespace g8
abbrev Rs:Type:=Option (ByteArray × (Ty.den a_) × Int × Unit)
def t (k:Nat) (a0:Ty.den a_) (a1:ByteArray):Rs :=
 ((c8.f k a0).bind fun r1 =>
 ((bP.f k a0).bind fun r2 =>
 (bif (!r2.1) then
 (some (a1,(r1.1,(5,()))))
 else
 (bif a0.2.2.2.1 then
 (some (a1,((r1.1.1,(r1.1.2.1,(r1.1.2.2.1,(true,())))),(1,()))))
 else
 (bif (a0.2.2.1==0) then
 (some (a1,((r1.1.1,(r1.1.2.1,(r1.1.2.2.1,(true,())))),(1,()))))
 else
 (bif (decide (a0.2.2.1 > 0)) then
 ((fk.f k (r1.1.1,(r1.1.2.1,((aF (r1.1.2.2.1-1)),r1.1.2.2.2))) a1).bind fun r3 =>
 (some (r3.2.1,(r3.1,r3.2.2))))
 else
 ((fk.f k r1.1 a1).bind fun r4 =>
 (some (r4.2.1,(r4.1,r4.2.2))))))))))
def f (k:Nat):=t k
end g8
namespace jd
abbrev Rs:Type:=Option ((Ty.den a_) × Int × Unit)
def t (k:Nat) (a0:Ty.den a_) (a1:ByteArray):Rs :=
 ((g8.f k a0 a1).bind fun r1 =>
 (some r1.2))
def f (k:Nat):=t k
end jd
namespace dF
abbrev Rs:Type:=Option ((Ty.den b8) × Unit)
def t (k:Nat) (a0:Ty.den b8) (a1:ByteArray):Rs :=
 (bif (a0.2.1==0) then
 ((jd.f k a0.1 a1).bind fun r1 =>
 ((aw.f k a0 r1.1 r1.2.1).bind fun r2 =>
 (some r2)))
 else
 (some (a0,())))
def f (k:Nat):=t k
end dF
namespace iQ
abbrev Rs:Type:=Option (ByteArray × Unit)
def t (k:Nat) (a0:Ty.den bA):Rs :=
 ((dN.f k a0).bind fun r1 =>
 (bif (!r1.1) then
 (some ((⟨#[]⟩:ByteArray),()))
 else
 ((dI.f k [a0.1,(List.length a0.2.1:Int)]).bind fun r2 =>
 ((dI.f k a0.2.1).bind fun r3 =>
 (jk r2.1 r3.1
 ((jE.f k (r2.1++r3.1)).bind fun r4 =>
 (some r4)))))))
def f (k:Nat):=t k
end iQ
namespace fc
abbrev Rs:Type:=Option ((Ty.den b8) × Unit)
def t (k:Nat) (a0:Ty.den b8) (a1:ByteArray):Rs :=
 ((dt.f k a0 a1).bind fun r1 =>
 ((dF.f k r1.1 a1).bind fun r2 =>
 (some r2)))
def f (k:Nat):=t k
end fc
namespace iX
abbrev Rs:Type:=Option (Int × Unit)
abbrev T0:Type:=Int→List (Ty.den aE)→Int→Int→Rs
def b0 (k:Nat) (L0:T0):T0:=fun x0 x1 x2 x3 =>
 (bif (decide (x3<x2)) then
 (ba x3 (x1.length:Int)
 (L0 (aF (x0+(ByteArray.size (List.getD x1 (Int.toNat x3) (Ty.dflt aE)).2.1:Int))) x1 x2 (aF (x3+1))))
 else
 (some (x0,())))
def l0 (k:Nat):Nat→T0
 | 0=>fun _ _ _ _=>none
 | n+1=>b0 k (l0 k n)
def t (k:Nat) (L0:T0) (a0:Ty.den a_):Rs :=
 (L0 0 a0.1 (List.length a0.1:Int) 0)
def f (k:Nat):=t k (l0 k k)
end iX
namespace fi
abbrev Rs:Type:=Option ((Ty.den a_) × ByteArray × ByteArray × Int × Unit)
def t (k:Nat) (a0:Ty.den a_) (a1:ByteArray) (a2:ByteArray):Rs :=
 ((bX.f k a0 a1).bind fun r1 =>
 (bif (decide (r1.1<0)) then
 (some (a0,(a1,(a2,(3,())))))
 else
 ((iX.f k a0).bind fun r2 =>
 (bif (decide ((ByteArray.size a2:Int) > (aF (a0.2.1-r2.1)))) then
 (some (a0,(a1,(a2,(2,())))))
 else
 (ba r1.1 (List.length a0.1:Int)
 (jk (List.getD a0.1 (Int.toNat r1.1) (Ty.dflt aE)).2.1 a2
 (ba r1.1 (List.length a0.1:Int)
 (let l3:=(List.set a0.1 (Int.toNat r1.1) ((List.getD a0.1 (Int.toNat r1.1) (Ty.dflt aE)).1,(((List.getD a0.1 (Int.toNat r1.1) (Ty.dflt aE)).2.1++a2),(List.getD a0.1 (Int.toNat r1.1) (Ty.dflt aE)).2.2)));
 (some ((l3,a0.2),(a1,(a2,(0,())))))))))))))
def f (k:Nat):=t k
end fi
namespace fw
abbrev Rs:Type:=Option (ByteArray × ByteArray × (Ty.den a_) × Int × Unit)
def t (k:Nat) (a0:Ty.den a_) (a1:ByteArray) (a2:ByteArray):Rs :=
 ((c8.f k a0).bind fun r1 =>
 ((bP.f k a0).bind fun r2 =>
 (bif (!r2.1) then
 (some (a1,(a2,(r1.1,(5,())))))
 else
 (bif a0.2.2.2.1 then
 (some (a1,(a2,((r1.1.1,(r1.1.2.1,(r1.1.2.2.1,(true,())))),(1,())))))
 else
 (bif (a0.2.2.1==0) then
 (some (a1,(a2,((r1.1.1,(r1.1.2.1,(r1.1.2.2.1,(true,())))),(1,())))))
 else
 (bif (decide (a0.2.2.1 > 0)) then
 ((fi.f k (r1.1.1,(r1.1.2.1,((aF (r1.1.2.2.1-1)),r1.1.2.2.2))) a1 a2).bind fun r3 =>
 (some (r3.2.1,(r3.2.2.1,(r3.1,r3.2.2.2)))))
 else
 ((fi.f k r1.1 a1 a2).bind fun r4 =>
 (some (r4.2.1,(r4.2.2.1,(r4.1,r4.2.2.2)))))))))))
def f (k:Nat):=t k
end fw
namespace jf
abbrev Rs:Type:=Option ((Ty.den a_) × Int × Unit)
def t (k:Nat) (a0:Ty.den a_) (a1:ByteArray) (a2:ByteArray):Rs :=
 ((fw.f k a0 a1 a2).bind fun r1 =>
 (some r1.2.2))
def f (k:Nat):=t k
end jf
namespace gK
abbrev Rs:Type:=Option ((Ty.den b8) × Unit)
def t (k:Nat) (a0:Ty.den b8) (a1:ByteArray) (a2:ByteArray):Rs :=
 (bif (a0.2.1==0) then
 ((jf.f k a0.1 a1 a2).bind fun r1 =>
 ((aw.f k a0 r1.1 r1.2.1).bind fun r2 =>
 (some r2)))
 else
 (some (a0,())))
def f (k:Nat):=t k
end gK
namespace eh
abbrev Rs:Type:=Option ((Ty.den b8) × Unit)
def t (k:Nat) (a0:Ty.den b8) (a1:ByteArray) (a2:ByteArray):Rs :=
 ((fc.f k a0 a1).bind fun r1 =>
 ((gK.f k r1.1 a1 a2).bind fun r2 =>
 ((d6.f k r2.1 a1).bind fun r3 =>
 (some r3))))
def f (k:Nat):=t k
end eh
namespace fj
abbrev Rs:Type:=Option ((Ty.den a_) × ByteArray × ByteArray × Int × Unit)
def t (k:Nat) (a0:Ty.den a_) (a1:ByteArray) (a2:ByteArray):Rs :=
 ((bX.f k a0 a1).bind fun r1 =>
 ((eD.f k a2).bind fun r2 =>
 (bif (!r2.1) then
 (some (a0,(a1,(a2,(5,())))))
 else
 (bif (decide (r1.1<0)) then
 (some (a0,(a1,(a2,(3,())))))
 else
 (ba r1.1 (List.length a0.1:Int)
 ((eX.f k a0 a1).bind fun r3 =>
 ((eX.f k r3.1 a2).bind fun r4 =>
 ((d8.f k r4.1 (a2,(List.getD a0.1 (Int.toNat r1.1) (Ty.dflt aE)).2)).bind fun r5 =>
 (some (r5.1,(a1,(a2,(0,())))))))))))))
def f (k:Nat):=t k
end fj
namespace gA
abbrev Rs:Type:=Option (ByteArray × ByteArray × (Ty.den a_) × Int × Unit)
def t (k:Nat) (a0:Ty.den a_) (a1:ByteArray) (a2:ByteArray):Rs :=
 ((c8.f k a0).bind fun r1 =>
 ((bP.f k a0).bind fun r2 =>
 (bif (!r2.1) then
 (some (a1,(a2,(r1.1,(5,())))))
 else
 (bif a0.2.2.2.1 then
 (some (a1,(a2,((r1.1.1,(r1.1.2.1,(r1.1.2.2.1,(true,())))),(1,())))))
 else
 (bif (a0.2.2.1==0) then
 (some (a1,(a2,((r1.1.1,(r1.1.2.1,(r1.1.2.2.1,(true,())))),(1,())))))
 else
 (bif (decide (a0.2.2.1 > 0)) then
 ((fj.f k (r1.1.1,(r1.1.2.1,((aF (r1.1.2.2.1-1)),r1.1.2.2.2))) a1 a2).bind fun r3 =>
 (some (r3.2.1,(r3.2.2.1,(r3.1,r3.2.2.2)))))
 else
 ((fj.f k r1.1 a1 a2).bind fun r4 =>
 (some (r4.2.1,(r4.2.2.1,(r4.1,r4.2.2.2)))))))))))
def f (k:Nat):=t k
end gA
namespace jg
abbrev Rs:Type:=Option ((Ty.den a_) × Int × Unit)
def t (k:Nat) (a0:Ty.den a_) (a1:ByteArray) (a2:ByteArray):Rs :=
 ((gA.f k a0 a1 a2).bind fun r1 =>
 (some r1.2.2))
def f (k:Nat):=t k
end jg
namespace eg
abbrev Rs:Type:=Option ((Ty.den b8) × Unit)
def t (k:Nat) (a0:Ty.den b8) (a1:ByteArray) (a2:ByteArray):Rs :=
 (bif (a0.2.1==0) then
 ((jg.f k a0.1 a1 a2).bind fun r1 =>
 ((aw.f k a0 r1.1 r1.2.1).bind fun r2 =>
 (some r2)))
 else
 (some (a0,())))
def f (k:Nat):=t k
end eg
namespace eA
abbrev Rs:Type:=Option ((Ty.den b8) × Unit)
def t (k:Nat) (a0:Ty.den b8) (a1:Ty.den bA):Rs :=
 ((iQ.f k a1).bind fun r1 =>
 ((eh.f k a0 (⟨#[116,101,109,112]⟩:ByteArray) r1.1).bind fun r2 =>
 ((eg.f k r2.1 (⟨#[116,101,109,112]⟩:ByteArray) (⟨#[108,105,118,101]⟩:ByteArray)).bind fun r3 =>
 (some r3))))
def f (k:Nat):=t k
end eA
namespace fI
abbrev Rs:Type:=Option ((Ty.den b8) × (Ty.den aI) × Unit)
def t (k:Nat) (a0:Ty.den b8):Rs :=
 ((ae.f k a0 (0,([],()))).bind fun r1 =>
 ((di.f k 1).bind fun r2 =>
 ((dF.f k r1.1 r2.1).bind fun r3 =>
 ((eA.f k r3.1 (2,([1],()))).bind fun r4 =>
 (some (r4.1,(((2,([1],())),([],(1,(0,(0,()))))),())))))))
def f (k:Nat):=t k
end fI
namespace lU
abbrev Rs:Type:=Option ((Ty.den aI) × (Ty.den a_) × Int × Unit)
def t (k:Nat) (a0:Ty.den a_):Rs :=
 ((c8.f k a0).bind fun r1 =>
 ((bP.f k a0).bind fun r2 =>
 (bif (!r2.1) then
 (some (((0,([],())),([],(0,(0,(0,()))))),(r1.1,(4,()))))
 else
 (bif a0.2.2.2.1 then
 (some (((0,([],())),([],(0,(0,(0,()))))),(r1.1,(1,()))))
 else
 ((cQ.f k a0 (⟨#[108,105,118,101]⟩:ByteArray)).bind fun r3 =>
 (bif r3.2.1 then
 ((aR.f k (r1.1,(0,())) r3.1).bind fun r4 =>
 (bif (r4.1.2.1 != 0) then
 (some (((0,([],())),([],(0,(0,(0,()))))),r4.1))
 else
 (some (r4.2.1,(r4.1.1,(0,()))))))
 else
 ((fI.f k (r1.1,(0,()))).bind fun r5 =>
 (bif (r5.1.2.1 != 0) then
 (some (((0,([],())),([],(0,(0,(0,()))))),r5.1))
 else
 (some (r5.2.1,(r5.1.1,(0,()))))))))))))
def f (k:Nat):=t k
end lU
namespace gB
abbrev Rs:Type:=Option ((List Int) × Unit)
abbrev T0:Type:=List (Ty.den aC)→Int→List Int→Rs
def b0 (k:Nat) (L0:T0):T0:=fun x0 x1 x2 =>
 (bif (decide (x1<(x0.length:Int))) then
 (ba x1 (x0.length:Int)
 (bif ((List.getD x0 (Int.toNat x1) (Ty.dflt aC)).2.2.2.1.1==3) then
 (ba x1 (x0.length:Int)
 (ba x1 (x0.length:Int)
 ((gj.f k x0 x1 (List.getD x0 (Int.toNat x1) (Ty.dflt aC)).2.2.2.1.2.1).bind fun r1 =>
 ((i6.f k (List.getD x0 (Int.toNat x1) (Ty.dflt aC)).2.2.2.1 r1.1).bind fun r2 =>
 (bif r2.1 then
 (ba x1 (x0.length:Int)
 (rm (Ty.bytes (.int .i64)) (List.length x2+1)
 (L0 x0 (aF (x1+1)) (x2++[(List.getD x0 (Int.toNat x1) (Ty.dflt aC)).2.2.2.1.2.1]))))
 else
 (L0 x0 (aF (x1+1)) x2))))))
 else
 (L0 x0 (aF (x1+1)) x2)))
 else
 (some (x2,())))
def l0 (k:Nat):Nat→T0
 | 0=>fun _ _ _=>none
 | n+1=>b0 k (l0 k n)
def t (k:Nat) (L0:T0) (a0:List (Ty.den aC)):Rs :=
 (L0 a0 0 [])
def f (k:Nat):=t k (l0 k k)
end gB
namespace gR
abbrev Rs:Type:=Option (Bool × Unit)
abbrev T0:Type:=List Int→Int→Int→Rs
def b0 (k:Nat) (L0:T0):T0:=fun x0 x1 x2 =>
 (bif (decide (x2<(x0.length:Int))) then
 (ba x2 (x0.length:Int)
 (bif ((List.getD x0 (Int.toNat x2) (Ty.dflt (.int .i64)))==x1) then
 (some (true,()))
 else
 (L0 x0 x1 (aF (x2+1)))))
 else
 (some (false,())))
def l0 (k:Nat):Nat→T0
 | 0=>fun _ _ _=>none
 | n+1=>b0 k (l0 k n)
def t (k:Nat) (L0:T0) (a0:List Int) (a1:Int):Rs :=
 (L0 a0 a1 0)
def f (k:Nat):=t k (l0 k k)
end gR
namespace er
abbrev Rs:Type:=Option ((Ty.den rr) × Unit)
abbrev T1:Type:=Int→Bool→Int→Int→Int→Int→Int→Int→Bool→Int→Int→Int→Int→Int→Int→List (Ty.den aC)→List Int→Rs
abbrev T0:Type:=Int→List (Ty.den aE)→Int→Int→Bool→Bool→Int→Int→Int→Int→Int→Int→Bool→Int→Int→Int→Int→Int→Int→List Int→Int→List (Ty.den aC)→Rs
def b1 (k:Nat) (L1:T1):T1:=fun x0 x1 x2 x3 x4 x5 x6 x7 x8 x9 x10 x11 x12 x13 x14 x15 x16 =>
 (bif (decide (x0<(x15.length:Int))) then
 (ba x0 (x15.length:Int)
 (bif ((List.getD x15 (Int.toNat x0) (Ty.dflt aC)).2.2.2.1.1==1) then
 ((gR.f k x16 (List.getD x15 (Int.toNat x0) (Ty.dflt aC)).2.2.2.1.2.1).bind fun r12 =>
 (bif (!r12.1) then
 (L1 (aF (x0+1)) x1 x2 x3 x4 x5 x6 x7 x8 x9 x10 (aF (x11+1)) x12 x13 x14 x15 x16)
 else
 (L1 (aF (x0+1)) x1 x2 x3 x4 x5 x6 x7 x8 x9 x10 x11 x12 x13 x14 x15 x16)))
 else
 (bif ((List.getD x15 (Int.toNat x0) (Ty.dflt aC)).2.2.2.1.1==2) then
 ((gR.f k x16 (List.getD x15 (Int.toNat x0) (Ty.dflt aC)).2.2.2.1.2.1).bind fun r13 =>
 (bif (!r13.1) then
 (L1 (aF (x0+1)) x1 x2 x3 x4 x5 x6 x7 x8 x9 x10 (aF (x11+1)) x12 x13 x14 x15 x16)
 else
 (L1 (aF (x0+1)) x1 x2 x3 x4 x5 x6 x7 x8 x9 x10 x11 x12 x13 x14 x15 x16)))
 else
 (L1 (aF (x0+1)) x1 x2 x3 x4 x5 x6 x7 x8 x9 x10 x11 x12 x13 x14 x15 x16))))
 else
 (some ((x8,(x9,(x10,(x11,(x12,(x13,(x14,()))))))),())))
def l1 (k:Nat):Nat→T1
 | 0=>fun _ _ _ _ _ _ _ _ _ _ _ _ _ _ _ _ _=>none
 | n+1=>b1 k (l1 k n)
def b0 (k:Nat) (L1:T1) (L0:T0):T0:=fun x0 x1 x2 x3 x4 x5 x6 x7 x8 x9 x10 x11 x12 x13 x14 x15 x16 x17 x18 x19 x20 x21 =>
 (bif (decide (x0<(x19.length:Int))) then
 (ba x0 (x19.length:Int)
 ((aT.f k (List.getD x19 (Int.toNat x0) (Ty.dflt (.int .i64)))).bind fun r4 =>
 ((bI.f k (x1,(x2,(x3,(x4,())))) r4.1).bind fun r5 =>
 ((bW.f k r5.1).bind fun r6 =>
 (bif (!r5.2.1) then
 (bif (decide (r6.2.1<(ByteArray.size r5.1:Int))) then
 (ba x0 (x19.length:Int)
 ((bD.f k (List.getD x19 (Int.toNat x0) (Ty.dflt (.int .i64))) r5.1).bind fun r7 =>
 (rm (Ty.bytes aC) (List.length x21+List.length r7.1)
 (L0 (aF (x0+1)) x1 x2 x3 x4 x5 x6 x7 x8 x9 x10 x11 x12 (aF (x13+1)) (aF (x14+1)) x15 x16 x17 (aF ((aF (x18+(ByteArray.size r5.1:Int)))-r6.2.1)) x19 x20 (x21++r7.1)))))
 else
 (ba x0 (x19.length:Int)
 ((bD.f k (List.getD x19 (Int.toNat x0) (Ty.dflt (.int .i64))) r5.1).bind fun r8 =>
 (rm (Ty.bytes aC) (List.length x21+List.length r8.1)
 (L0 (aF (x0+1)) x1 x2 x3 x4 x5 x6 x7 x8 x9 x10 x11 x12 (aF (x13+1)) x14 x15 x16 x17 x18 x19 x20 (x21++r8.1))))))
 else
 (bif (decide (r6.2.1<(ByteArray.size r5.1:Int))) then
 (ba x0 (x19.length:Int)
 ((bD.f k (List.getD x19 (Int.toNat x0) (Ty.dflt (.int .i64))) r5.1).bind fun r9 =>
 (rm (Ty.bytes aC) (List.length x21+List.length r9.1)
 (L0 (aF (x0+1)) x1 x2 x3 x4 x5 x6 x7 x8 x9 x10 x11 x12 x13 (aF (x14+1)) x15 x16 x17 (aF ((aF (x18+(ByteArray.size r5.1:Int)))-r6.2.1)) x19 x20 (x21++r9.1)))))
 else
 (ba x0 (x19.length:Int)
 ((bD.f k (List.getD x19 (Int.toNat x0) (Ty.dflt (.int .i64))) r5.1).bind fun r10 =>
 (rm (Ty.bytes aC) (List.length x21+List.length r10.1)
 (L0 (aF (x0+1)) x1 x2 x3 x4 x5 x6 x7 x8 x9 x10 x11 x12 x13 x14 x15 x16 x17 x18 x19 x20 (x21++r10.1)))))))))))
 else
 ((gB.f k x21).bind fun r11 =>
 (L1 0 x5 x6 x7 x8 x9 x10 x11 x12 x13 x14 x15 x16 (x21.length:Int) x18 x21 r11.1)))
def l0 (k:Nat):Nat→T0
 | 0=>fun _ _ _ _ _ _ _ _ _ _ _ _ _ _ _ _ _ _ _ _ _ _=>none
 | n+1=>b0 k (l1 k k) (l0 k n)
def t (k:Nat) (L0:T0) (a0:Ty.den a_):Rs :=
 ((bI.f k a0 (⟨#[108,105,118,101]⟩:ByteArray)).bind fun r1 =>
 ((bQ.f k r1.1).bind fun r2 =>
 ((bS.f k a0 r2.1).bind fun r3 =>
 (L0 0 a0.1 a0.2.1 a0.2.2.1 a0.2.2.2.1 false 0 0 0 0 0 0 r2.2.1 0 0 0 (List.length r3.1:Int) 0 0 r2.1.2.1 r2.1.1 []))))
def f (k:Nat):=t k (l0 k k)
end er
namespace ea
abbrev Rs:Type:=Option (Bool × Unit)
abbrev T0:Type:=Int→Bool→Bool→Int→Int→Int→Int→Int→Int→List (Ty.den aE)→Int→Int→Bool→Rs
def b0 (k:Nat):T0:=fun x0 x1 x2 x3 x4 x5 x6 x7 x8 x9 x10 x11 x12 =>
 (bif (x0 != 0) then
 (some (true,()))
 else
 (bif (!x1) then
 (some (true,()))
 else
 (bif x2 then
 (bif (x3==0) then
 (bif (decide (x4≤1)) then
 ((dV.f k (x9,(x10,(x11,(x12,()))))).bind fun r9 =>
 (bif (r9.1.2.2.2.2.2.1==x7) then
 ((dV.f k (x9,(x10,(x11,(x12,()))))).bind fun r10 =>
 (bif (r10.1.2.2.1==0) then
 ((dV.f k (x9,(x10,(x11,(x12,()))))).bind fun r11 =>
 (some ((r11.1.2.2.2.2.1==0),())))
 else
 (some (false,()))))
 else
 (some (false,()))))
 else
 (some (false,())))
 else
 (some (false,())))
 else
 (some (false,())))))
def l0 (k:Nat):Nat→T0
 | 0=>fun _ _ _ _ _ _ _ _ _ _ _ _ _=>none
 | n+1=>b0 k
def t (k:Nat) (L0:T0) (a0:List Int):Rs :=
 ((p6.f k a0).bind fun r1 =>
 (bif r1.1 then
 (some (true,()))
 else
 ((i8.f k a0).bind fun r2 =>
 ((dV.f k r2.1).bind fun r3 =>
 ((lU.f k r2.1).bind fun r4 =>
 ((bI.f k r2.1 (⟨#[108,105,118,101]⟩:ByteArray)).bind fun r5 =>
 ((er.f k r2.1).bind fun r6 =>
 (bif (!((r3.1.1==r6.1.1)&&((r3.1.2.1==r6.1.2.1)&&((r3.1.2.2.1==r6.1.2.2.1)&&((r3.1.2.2.2.1==r6.1.2.2.2.1)&&((r3.1.2.2.2.2.1==r6.1.2.2.2.2.1)&&((r3.1.2.2.2.2.2.1==r6.1.2.2.2.2.2.1)&&(r3.1.2.2.2.2.2.2.1==r6.1.2.2.2.2.2.2.1)))))))) then
 (some (false,()))
 else
 (bif r5.2.1 then
 (bif (!r3.1.1) then
 ((bH.f k r2.1).bind fun r7 =>
 (bif r7.1 then
 (bif (!r2.1.2.2.2.1) then
 (bif (r4.2.2.1 != 3) then
 (some (false,()))
 else
 (bif r5.2.1 then
 (bif (decide (r3.1.2.1 > 0)) then
 (bif (!r2.1.2.2.2.1) then
 ((bH.f k r2.1).bind fun r8 =>
 (bif r8.1 then
 (bif (r4.2.2.1 != 3) then
 (some (false,()))
 else
 (L0 r4.2.2.1 r5.2.1 r3.1.1 r3.1.2.1 r3.1.2.2.1 r3.1.2.2.2.1 r3.1.2.2.2.2.1 r3.1.2.2.2.2.2.1 r3.1.2.2.2.2.2.2.1 r4.2.1.1 r4.2.1.2.1 r4.2.1.2.2.1 r4.2.1.2.2.2.1))
 else
 (L0 r4.2.2.1 r5.2.1 r3.1.1 r3.1.2.1 r3.1.2.2.1 r3.1.2.2.2.1 r3.1.2.2.2.2.1 r3.1.2.2.2.2.2.1 r3.1.2.2.2.2.2.2.1 r4.2.1.1 r4.2.1.2.1 r4.2.1.2.2.1 r4.2.1.2.2.2.1)))
 else
 (L0 r4.2.2.1 r5.2.1 r3.1.1 r3.1.2.1 r3.1.2.2.1 r3.1.2.2.2.1 r3.1.2.2.2.2.1 r3.1.2.2.2.2.2.1 r3.1.2.2.2.2.2.2.1 r4.2.1.1 r4.2.1.2.1 r4.2.1.2.2.1 r4.2.1.2.2.2.1))
 else
 (L0 r4.2.2.1 r5.2.1 r3.1.1 r3.1.2.1 r3.1.2.2.1 r3.1.2.2.2.1 r3.1.2.2.2.2.1 r3.1.2.2.2.2.2.1 r3.1.2.2.2.2.2.2.1 r4.2.1.1 r4.2.1.2.1 r4.2.1.2.2.1 r4.2.1.2.2.2.1))
 else
 (L0 r4.2.2.1 r5.2.1 r3.1.1 r3.1.2.1 r3.1.2.2.1 r3.1.2.2.2.1 r3.1.2.2.2.2.1 r3.1.2.2.2.2.2.1 r3.1.2.2.2.2.2.2.1 r4.2.1.1 r4.2.1.2.1 r4.2.1.2.2.1 r4.2.1.2.2.2.1)))
 else
 (bif r5.2.1 then
 (bif (decide (r3.1.2.1 > 0)) then
 (bif (!r2.1.2.2.2.1) then
 ((bH.f k r2.1).bind fun r12 =>
 (bif r12.1 then
 (bif (r4.2.2.1 != 3) then
 (some (false,()))
 else
 (L0 r4.2.2.1 r5.2.1 r3.1.1 r3.1.2.1 r3.1.2.2.1 r3.1.2.2.2.1 r3.1.2.2.2.2.1 r3.1.2.2.2.2.2.1 r3.1.2.2.2.2.2.2.1 r4.2.1.1 r4.2.1.2.1 r4.2.1.2.2.1 r4.2.1.2.2.2.1))
 else
 (L0 r4.2.2.1 r5.2.1 r3.1.1 r3.1.2.1 r3.1.2.2.1 r3.1.2.2.2.1 r3.1.2.2.2.2.1 r3.1.2.2.2.2.2.1 r3.1.2.2.2.2.2.2.1 r4.2.1.1 r4.2.1.2.1 r4.2.1.2.2.1 r4.2.1.2.2.2.1)))
 else
 (L0 r4.2.2.1 r5.2.1 r3.1.1 r3.1.2.1 r3.1.2.2.1 r3.1.2.2.2.1 r3.1.2.2.2.2.1 r3.1.2.2.2.2.2.1 r3.1.2.2.2.2.2.2.1 r4.2.1.1 r4.2.1.2.1 r4.2.1.2.2.1 r4.2.1.2.2.2.1))
 else
 (L0 r4.2.2.1 r5.2.1 r3.1.1 r3.1.2.1 r3.1.2.2.1 r3.1.2.2.2.1 r3.1.2.2.2.2.1 r3.1.2.2.2.2.2.1 r3.1.2.2.2.2.2.2.1 r4.2.1.1 r4.2.1.2.1 r4.2.1.2.2.1 r4.2.1.2.2.2.1))
 else
 (L0 r4.2.2.1 r5.2.1 r3.1.1 r3.1.2.1 r3.1.2.2.1 r3.1.2.2.2.1 r3.1.2.2.2.2.1 r3.1.2.2.2.2.2.1 r3.1.2.2.2.2.2.2.1 r4.2.1.1 r4.2.1.2.1 r4.2.1.2.2.1 r4.2.1.2.2.2.1)))
 else
 (bif r5.2.1 then
 (bif (decide (r3.1.2.1 > 0)) then
 (bif (!r2.1.2.2.2.1) then
 ((bH.f k r2.1).bind fun r13 =>
 (bif r13.1 then
 (bif (r4.2.2.1 != 3) then
 (some (false,()))
 else
 (L0 r4.2.2.1 r5.2.1 r3.1.1 r3.1.2.1 r3.1.2.2.1 r3.1.2.2.2.1 r3.1.2.2.2.2.1 r3.1.2.2.2.2.2.1 r3.1.2.2.2.2.2.2.1 r4.2.1.1 r4.2.1.2.1 r4.2.1.2.2.1 r4.2.1.2.2.2.1))
 else
 (L0 r4.2.2.1 r5.2.1 r3.1.1 r3.1.2.1 r3.1.2.2.1 r3.1.2.2.2.1 r3.1.2.2.2.2.1 r3.1.2.2.2.2.2.1 r3.1.2.2.2.2.2.2.1 r4.2.1.1 r4.2.1.2.1 r4.2.1.2.2.1 r4.2.1.2.2.2.1)))
 else
 (L0 r4.2.2.1 r5.2.1 r3.1.1 r3.1.2.1 r3.1.2.2.1 r3.1.2.2.2.1 r3.1.2.2.2.2.1 r3.1.2.2.2.2.2.1 r3.1.2.2.2.2.2.2.1 r4.2.1.1 r4.2.1.2.1 r4.2.1.2.2.1 r4.2.1.2.2.2.1))
 else
 (L0 r4.2.2.1 r5.2.1 r3.1.1 r3.1.2.1 r3.1.2.2.1 r3.1.2.2.2.1 r3.1.2.2.2.2.1 r3.1.2.2.2.2.2.1 r3.1.2.2.2.2.2.2.1 r4.2.1.1 r4.2.1.2.1 r4.2.1.2.2.1 r4.2.1.2.2.2.1))
 else
 (L0 r4.2.2.1 r5.2.1 r3.1.1 r3.1.2.1 r3.1.2.2.1 r3.1.2.2.2.1 r3.1.2.2.2.2.1 r3.1.2.2.2.2.2.1 r3.1.2.2.2.2.2.2.1 r4.2.1.1 r4.2.1.2.1 r4.2.1.2.2.1 r4.2.1.2.2.2.1))))
 else
 (bif r5.2.1 then
 (bif (decide (r3.1.2.1 > 0)) then
 (bif (!r2.1.2.2.2.1) then
 ((bH.f k r2.1).bind fun r14 =>
 (bif r14.1 then
 (bif (r4.2.2.1 != 3) then
 (some (false,()))
 else
 (L0 r4.2.2.1 r5.2.1 r3.1.1 r3.1.2.1 r3.1.2.2.1 r3.1.2.2.2.1 r3.1.2.2.2.2.1 r3.1.2.2.2.2.2.1 r3.1.2.2.2.2.2.2.1 r4.2.1.1 r4.2.1.2.1 r4.2.1.2.2.1 r4.2.1.2.2.2.1))
 else
 (L0 r4.2.2.1 r5.2.1 r3.1.1 r3.1.2.1 r3.1.2.2.1 r3.1.2.2.2.1 r3.1.2.2.2.2.1 r3.1.2.2.2.2.2.1 r3.1.2.2.2.2.2.2.1 r4.2.1.1 r4.2.1.2.1 r4.2.1.2.2.1 r4.2.1.2.2.2.1)))
 else
 (L0 r4.2.2.1 r5.2.1 r3.1.1 r3.1.2.1 r3.1.2.2.1 r3.1.2.2.2.1 r3.1.2.2.2.2.1 r3.1.2.2.2.2.2.1 r3.1.2.2.2.2.2.2.1 r4.2.1.1 r4.2.1.2.1 r4.2.1.2.2.1 r4.2.1.2.2.2.1))
 else
 (L0 r4.2.2.1 r5.2.1 r3.1.1 r3.1.2.1 r3.1.2.2.1 r3.1.2.2.2.1 r3.1.2.2.2.2.1 r3.1.2.2.2.2.2.1 r3.1.2.2.2.2.2.2.1 r4.2.1.1 r4.2.1.2.1 r4.2.1.2.2.1 r4.2.1.2.2.2.1))
 else
 (L0 r4.2.2.1 r5.2.1 r3.1.1 r3.1.2.1 r3.1.2.2.1 r3.1.2.2.2.1 r3.1.2.2.2.2.1 r3.1.2.2.2.2.2.1 r3.1.2.2.2.2.2.2.1 r4.2.1.1 r4.2.1.2.1 r4.2.1.2.2.1 r4.2.1.2.2.2.1)))
 else
 (bif r5.2.1 then
 (bif (decide (r3.1.2.1 > 0)) then
 (bif (!r2.1.2.2.2.1) then
 ((bH.f k r2.1).bind fun r15 =>
 (bif r15.1 then
 (bif (r4.2.2.1 != 3) then
 (some (false,()))
 else
 (L0 r4.2.2.1 r5.2.1 r3.1.1 r3.1.2.1 r3.1.2.2.1 r3.1.2.2.2.1 r3.1.2.2.2.2.1 r3.1.2.2.2.2.2.1 r3.1.2.2.2.2.2.2.1 r4.2.1.1 r4.2.1.2.1 r4.2.1.2.2.1 r4.2.1.2.2.2.1))
 else
 (L0 r4.2.2.1 r5.2.1 r3.1.1 r3.1.2.1 r3.1.2.2.1 r3.1.2.2.2.1 r3.1.2.2.2.2.1 r3.1.2.2.2.2.2.1 r3.1.2.2.2.2.2.2.1 r4.2.1.1 r4.2.1.2.1 r4.2.1.2.2.1 r4.2.1.2.2.2.1)))
 else
 (L0 r4.2.2.1 r5.2.1 r3.1.1 r3.1.2.1 r3.1.2.2.1 r3.1.2.2.2.1 r3.1.2.2.2.2.1 r3.1.2.2.2.2.2.1 r3.1.2.2.2.2.2.2.1 r4.2.1.1 r4.2.1.2.1 r4.2.1.2.2.1 r4.2.1.2.2.2.1))
 else
 (L0 r4.2.2.1 r5.2.1 r3.1.1 r3.1.2.1 r3.1.2.2.1 r3.1.2.2.2.1 r3.1.2.2.2.2.1 r3.1.2.2.2.2.2.1 r3.1.2.2.2.2.2.2.1 r4.2.1.1 r4.2.1.2.1 r4.2.1.2.2.1 r4.2.1.2.2.2.1))
 else
 (L0 r4.2.2.1 r5.2.1 r3.1.1 r3.1.2.1 r3.1.2.2.1 r3.1.2.2.2.1 r3.1.2.2.2.2.1 r3.1.2.2.2.2.2.1 r3.1.2.2.2.2.2.2.1 r4.2.1.1 r4.2.1.2.1 r4.2.1.2.2.1 r4.2.1.2.2.2.1)))))))))))
def f (k:Nat):=t k (l0 k k)
end ea
end Go.Proofs.YtohaanhjddohmaaGreatDoor.G

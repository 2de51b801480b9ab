/- Functions, as V runs them. -/
import Derived.Test.YthjppgafienaoabGreatDoorVWords
import Derived.Test.YthjppgafienaoabGreatDoorXLib
set_option linter.unusedVariables false
set_option linter.unusedSimpArgs false
namespace Go.Proofs.YthjppgafienaoabGreatDoor.G
open Go.V
abbrev ch:Ty := .pair .str (.pair .bool (.pair .str .unit))
abbrev sH:Ty := .pair (.int .i64) (.pair (.slice ch) .unit)
abbrev dz:Ty := .pair (.int .i64) (.pair .str (.pair (.slice .str) .unit))
abbrev iq:Ty := .pair (.int .i64) (.pair (.int .i64) (.pair .str .unit))
abbrev aK:Ty := .pair .str (.pair .str (.pair (.int .i64) .unit))
abbrev aA:Ty := .pair (.slice aK) (.pair (.int .i64) (.pair (.int .i64) (.pair .bool .unit)))
abbrev cZ:Ty := .pair (.int .i64) (.pair (.slice (.int .i64)) .unit)
abbrev aB:Ty := .pair .str (.pair (.int .i64) (.pair (.int .i64) (.pair (.int .i64) (.pair (.int .i64) .unit))))
abbrev aE:Ty := .pair cZ (.pair (.slice aB) (.pair (.int .i64) (.pair (.int .i64) (.pair (.int .i64) .unit))))
abbrev ek:Ty := .pair .str (.pair (.int .i64) .unit)
abbrev dO:Ty := .pair .bool (.pair (.slice ek) (.pair (.slice ch) .unit))
abbrev ck:Ty := .pair .bool (.pair aE (.pair aA (.pair (.slice dO) .unit)))
abbrev bU:Ty := .pair (.int .i64) (.pair .str .unit)
abbrev aV:Ty := .pair (.int .i64) (.pair (.slice bU) .unit)
abbrev fw:Ty := .pair (.slice aB) (.pair (.int .i64) (.pair (.int .i64) .unit))
abbrev gZ:Ty := .pair (.int .i64) (.pair (.int .i64) (.pair (.slice aB) .unit))
abbrev g_:Ty := .pair (.int .i64) (.pair (.slice iq) .unit)
abbrev bB:Ty := .pair (.int .i64) (.pair (.int .i64) (.pair .str (.pair .str (.pair (.int .i64) (.pair (.int .i64) .unit)))))
abbrev aC:Ty := .pair (.int .i64) (.pair (.int .i64) (.pair (.int .i64) (.pair bB .unit)))
abbrev vR:Ty := .pair ck (.pair (.slice dz) (.pair (.slice sH) (.pair (.slice ch) .unit)))
abbrev ar:Ty := .pair (.int .i64) (.pair (.int .i64) (.pair .str (.pair .str (.pair (.int .i64) .unit))))
abbrev kh:Ty := .pair (.int .i64) (.pair (.int .i64) (.pair (.slice ar) .unit))
abbrev cA:Ty := .pair (.int .i64) (.pair (.int .i64) (.pair bB .unit))
abbrev cT:Ty := .pair (.slice (.int .u8)) (.pair (.int .i64) (.pair (.int .i64) .unit))
abbrev je:Ty := .pair .str (.pair .bool .unit)
abbrev dJ:Ty:=aK
namespace oZ
abbrev Rs:Type:=Option (Bool × Unit)
def t (k:Nat) (a0:List Int):Rs :=
 (some ((decide ((List.length a0:Int) > 1048576)),()))
def f (k:Nat):=t k
end oZ
namespace fK
abbrev Rs:Type:=Option (Unit × (Ty.d cT) × Unit)
abbrev T0:Type:=List Int→Int→Int→Rs
def b0 (k:Nat) (L0:T0):T0:=fun x0 x1 x2 =>
 (bif (decide (x2<(x0.length:Int))) then
 (bif (decide (x2<4000)) then
 (bF x2 (x0.length:Int)
 (L0 x0 (aH (((BitVec.ofInt (IntKind.bits .i64) (aH ((aH ((aH (x1*131))+(aH (List.getD x0 (Int.toNat x2) (Ty.z (.int .u8))))))+7)) &&& BitVec.ofInt (IntKind.bits .i64) 1073741823).toNat:Int))) (aH (x2+1))))
 else
 (some ((),((x0,(0,(x1,()))),()))))
 else
 (some ((),((x0,(0,(x1,()))),()))))
def l0 (k:Nat):Nat→T0
 | 0=>fun _ _ _=>none
 | n+1=>b0 k (l0 k n)
def t (k:Nat) (L0:T0) (a0:List Int):Rs :=
 (L0 a0 (aH (10101+(List.length a0:Int))) 0)
def f (k:Nat):=t k (l0 k k)
end fK
namespace eV
abbrev Rs:Type:=Option ((Ty.d cT) × Int × Unit)
def t (k:Nat) (a0:Ty.d cT):Rs :=
 (bif (decide (a0.2.1<(List.length a0.1:Int))) then
 (bF a0.2.1 (List.length a0.1:Int)
 (some ((a0.1,((aH (a0.2.1+1)),((aH ((aH (a0.2.2.1*6364136223846793005))+1442695040888963407)),()))),((aH (((BitVec.ofInt (IntKind.bits .i64) (aH ((aH (((BitVec.ofInt (IntKind.bits .i64) (aH (((BitVec.ofInt (IntKind.bits .i64) (Int.fdiv (aH ((aH (a0.2.2.1*6364136223846793005))+1442695040888963407)) (2 ^ (Int.toNat 33))) ^^^ BitVec.ofInt (IntKind.bits .i64) (Int.fdiv (aH ((aH (a0.2.2.1*6364136223846793005))+1442695040888963407)) (2 ^ (Int.toNat 45)))).toNat:Int))) &&& BitVec.ofInt (IntKind.bits .i64) 255).toNat:Int)))+(aH (List.getD a0.1 (Int.toNat a0.2.1) (Ty.z (.int .u8)))))) &&& BitVec.ofInt (IntKind.bits .i64) 255).toNat:Int))),()))))
 else
 (some ((a0.1,(a0.2.1,((aH ((aH (a0.2.2.1*6364136223846793005))+1442695040888963407)),()))),((aH (((BitVec.ofInt (IntKind.bits .i64) (aH (((BitVec.ofInt (IntKind.bits .i64) (Int.fdiv (aH ((aH (a0.2.2.1*6364136223846793005))+1442695040888963407)) (2 ^ (Int.toNat 33))) ^^^ BitVec.ofInt (IntKind.bits .i64) (Int.fdiv (aH ((aH (a0.2.2.1*6364136223846793005))+1442695040888963407)) (2 ^ (Int.toNat 45)))).toNat:Int))) &&& BitVec.ofInt (IntKind.bits .i64) 255).toNat:Int))),()))))
def f (k:Nat):=t k
end eV
namespace aa
abbrev Rs:Type:=Option ((Ty.d cT) × Int × Unit)
def t (k:Nat) (a0:Ty.d cT) (a1:Int):Rs :=
 (bif (decide (a1≤0)) then
 (some (a0,(0,())))
 else
 (bif (decide (a1≤256)) then
 ((eV.f k a0).bind fun r1 =>
 (bif (decide (a1=0)) then none else
 (some (r1.1,((Int.tmod r1.2.1 a1),())))))
 else
 ((eV.f k a0).bind fun r2 =>
 ((eV.f k r2.1).bind fun r3 =>
 ((eV.f k r3.1).bind fun r4 =>
 ((eV.f k r4.1).bind fun r5 =>
 (bif (decide (a1=0)) then none else
 (some (r5.1,((Int.tmod (aH ((aH ((aH ((aH (r2.2.1*16777216))+(aH (r3.2.1*65536))))+(aH (r4.2.1*256))))+r5.2.1)) a1),()))))))))))
def f (k:Nat):=t k
end aa
namespace aM
abbrev Rs:Type:=Option ((Ty.d cT) × Int × Unit)
def t (k:Nat) (a0:Ty.d cT) (a1:List Int):Rs :=
 ((aa.f k a0 (List.length a1:Int)).bind fun r1 =>
 (bF r1.2.1 (List.length a1:Int)
 (some (r1.1,((List.getD a1 (Int.toNat r1.2.1) (Ty.z (.int .i64))),())))))
def f (k:Nat):=t k
end aM
namespace cM
abbrev Rs:Type:=Option ((Ty.d cT) × ByteArray × Unit)
def t (k:Nat) (a0:Ty.d cT) (a1:List ByteArray):Rs :=
 ((aa.f k a0 (List.length a1:Int)).bind fun r1 =>
 (bF r1.2.1 (List.length a1:Int)
 (some (r1.1,((List.getD a1 (Int.toNat r1.2.1) (Ty.z .str)),())))))
def f (k:Nat):=t k
end cM
namespace iR
abbrev Rs:Type:=Option ((Ty.d cT) × ByteArray × Unit)
def t (k:Nat) (a0:Ty.d cT):Rs :=
 ((cM.f k a0 [(⟨#[97]⟩:ByteArray),(⟨#[98]⟩:ByteArray),(⟨#[99]⟩:ByteArray),(⟨#[107,101,121]⟩:ByteArray),(⟨#[108,111,110,103,110,97,109,101]⟩:ByteArray)]).bind fun r1 =>
 (some r1))
def f (k:Nat):=t k
end iR
namespace eY
abbrev Rs:Type:=Option ((Ty.d cT) × ByteArray × Unit)
abbrev T0:Type:=Int→Int→List Int→Int→Int→List Int→Rs
def b0 (k:Nat) (L0:T0):T0:=fun x0 x1 x2 x3 x4 x5 =>
 (bif (decide (x1 > 0)) then
 ((eV.f k (x2,(x3,(x4,())))).bind fun r3 =>
 (bif (x0==1) then
 (bif (x0==2) then
 (rm (Ty.bytes (.int .u8)) (List.length x5+1)
 (L0 x0 (aH (x1-1)) r3.1.1 r3.1.2.1 r3.1.2.2.1 (x5++[(IntKind.wrap .u8 (aH (97+(Int.tmod (Int.tmod r3.2.1 2) 4))))])))
 else
 (rm (Ty.bytes (.int .u8)) (List.length x5+1)
 (L0 x0 (aH (x1-1)) r3.1.1 r3.1.2.1 r3.1.2.2.1 (x5++[(IntKind.wrap .u8 (Int.tmod r3.2.1 2))]))))
 else
 (bif (x0==2) then
 (rm (Ty.bytes (.int .u8)) (List.length x5+1)
 (L0 x0 (aH (x1-1)) r3.1.1 r3.1.2.1 r3.1.2.2.1 (x5++[(IntKind.wrap .u8 (aH (97+(Int.tmod r3.2.1 4))))])))
 else
 (rm (Ty.bytes (.int .u8)) (List.length x5+1)
 (L0 x0 (aH (x1-1)) r3.1.1 r3.1.2.1 r3.1.2.2.1 (x5++[(IntKind.wrap .u8 r3.2.1)]))))))
 else
 (some ((x2,(x3,(x4,()))),((bytesOf x5),()))))
def l0 (k:Nat):Nat→T0
 | 0=>fun _ _ _ _ _ _=>none
 | n+1=>b0 k (l0 k n)
def t (k:Nat) (L0:T0) (a0:Ty.d cT) (a1:Int):Rs :=
 ((aa.f k a0 4).bind fun r1 =>
 ((aa.f k r1.1 (aH (a1+1))).bind fun r2 =>
 (L0 r1.2.1 r2.2.1 r2.1.1 r2.1.2.1 r2.1.2.2.1 [])))
def f (k:Nat):=t k (l0 k k)
end eY
namespace ik
abbrev Rs:Type:=Option ((Ty.d cT) × (Ty.d ar) × Unit)
def t (k:Nat) (a0:Ty.d cT):Rs :=
 ((aM.f k a0 [1,2,2,3,3,3,4,5,5,6,7,8,1,5]).bind fun r1 =>
 ((aa.f k r1.1 3).bind fun r2 =>
 (bif (r1.2.1==2) then
 (bif (r1.2.1==2) then
 ((iR.f k r2.1).bind fun r3 =>
 ((aa.f k r3.1 40).bind fun r4 =>
 (bif (r4.2.1==0) then
 (some (r4.1,((9,(0,(ByteArray.empty,(ByteArray.empty,(0,()))))),())))
 else
 (bif (r4.2.1==1) then
 (bif (r4.2.1==1) then
 (some (r4.1,((10,(0,(ByteArray.empty,(ByteArray.empty,(0,()))))),())))
 else
 (bif (r4.2.1==3) then
 ((aM.f k r4.1 [(-1),3]).bind fun r5 =>
 (some (r5.1,((r1.2.1,(r5.2.1,(r3.2.1,(ByteArray.empty,(0,()))))),()))))
 else
 (bif (r4.2.1==4) then
 ((cM.f k r4.1 [(⟨#[]⟩:ByteArray),(⟨#[110,105,110,101,98,121,116,101,115]⟩:ByteArray)]).bind fun r6 =>
 (some (r6.1,((r1.2.1,(r2.2.1,(r6.2.1,(ByteArray.empty,(0,()))))),()))))
 else
 (bif (r4.2.1==5) then
 ((aM.f k r4.1 [0,12]).bind fun r7 =>
 (some (r7.1,((r7.2.1,(r2.2.1,(r3.2.1,(ByteArray.empty,(0,()))))),()))))
 else
 (some (r4.1,((r1.2.1,(r2.2.1,(r3.2.1,(ByteArray.empty,(0,()))))),())))))))
 else
 (bif (r4.2.1==2) then
 (some (r4.1,((10,(0,(ByteArray.empty,(ByteArray.empty,(0,()))))),())))
 else
 (bif (r4.2.1==3) then
 ((aM.f k r4.1 [(-1),3]).bind fun r8 =>
 (some (r8.1,((r1.2.1,(r8.2.1,(r3.2.1,(ByteArray.empty,(0,()))))),()))))
 else
 (bif (r4.2.1==4) then
 ((cM.f k r4.1 [(⟨#[]⟩:ByteArray),(⟨#[110,105,110,101,98,121,116,101,115]⟩:ByteArray)]).bind fun r9 =>
 (some (r9.1,((r1.2.1,(r2.2.1,(r9.2.1,(ByteArray.empty,(0,()))))),()))))
 else
 (bif (r4.2.1==5) then
 ((aM.f k r4.1 [0,12]).bind fun r10 =>
 (some (r10.1,((r10.2.1,(r2.2.1,(r3.2.1,(ByteArray.empty,(0,()))))),()))))
 else
 (some (r4.1,((r1.2.1,(r2.2.1,(r3.2.1,(ByteArray.empty,(0,()))))),())))))))))))
 else
 (bif (r1.2.1==3) then
 ((iR.f k r2.1).bind fun r11 =>
 ((eY.f k r11.1 12).bind fun r12 =>
 ((aa.f k r12.1 40).bind fun r13 =>
 (bif (r13.2.1==0) then
 (some (r13.1,((9,(0,(ByteArray.empty,(ByteArray.empty,(0,()))))),())))
 else
 (bif (r13.2.1==1) then
 (bif (r13.2.1==1) then
 (some (r13.1,((10,(0,(ByteArray.empty,(ByteArray.empty,(0,()))))),())))
 else
 (bif (r13.2.1==3) then
 ((aM.f k r13.1 [(-1),3]).bind fun r14 =>
 (some (r14.1,((r1.2.1,(r14.2.1,(r11.2.1,(r12.2.1,(0,()))))),()))))
 else
 (bif (r13.2.1==4) then
 ((cM.f k r13.1 [(⟨#[]⟩:ByteArray),(⟨#[110,105,110,101,98,121,116,101,115]⟩:ByteArray)]).bind fun r15 =>
 (some (r15.1,((r1.2.1,(r2.2.1,(r15.2.1,(r12.2.1,(0,()))))),()))))
 else
 (bif (r13.2.1==5) then
 ((aM.f k r13.1 [0,12]).bind fun r16 =>
 (some (r16.1,((r16.2.1,(r2.2.1,(r11.2.1,(r12.2.1,(0,()))))),()))))
 else
 (some (r13.1,((r1.2.1,(r2.2.1,(r11.2.1,(r12.2.1,(0,()))))),())))))))
 else
 (bif (r13.2.1==2) then
 (some (r13.1,((10,(0,(ByteArray.empty,(ByteArray.empty,(0,()))))),())))
 else
 (bif (r13.2.1==3) then
 ((aM.f k r13.1 [(-1),3]).bind fun r17 =>
 (some (r17.1,((r1.2.1,(r17.2.1,(r11.2.1,(r12.2.1,(0,()))))),()))))
 else
 (bif (r13.2.1==4) then
 ((cM.f k r13.1 [(⟨#[]⟩:ByteArray),(⟨#[110,105,110,101,98,121,116,101,115]⟩:ByteArray)]).bind fun r18 =>
 (some (r18.1,((r1.2.1,(r2.2.1,(r18.2.1,(r12.2.1,(0,()))))),()))))
 else
 (bif (r13.2.1==5) then
 ((aM.f k r13.1 [0,12]).bind fun r19 =>
 (some (r19.1,((r19.2.1,(r2.2.1,(r11.2.1,(r12.2.1,(0,()))))),()))))
 else
 (some (r13.1,((r1.2.1,(r2.2.1,(r11.2.1,(r12.2.1,(0,()))))),()))))))))))))
 else
 ((aa.f k r2.1 40).bind fun r20 =>
 (bif (r20.2.1==0) then
 (some (r20.1,((9,(0,(ByteArray.empty,(ByteArray.empty,(0,()))))),())))
 else
 (bif (r20.2.1==1) then
 (bif (r20.2.1==1) then
 (some (r20.1,((10,(0,(ByteArray.empty,(ByteArray.empty,(0,()))))),())))
 else
 (bif (r20.2.1==3) then
 ((aM.f k r20.1 [(-1),3]).bind fun r21 =>
 (some (r21.1,((r1.2.1,(r21.2.1,(ByteArray.empty,(ByteArray.empty,(0,()))))),()))))
 else
 (bif (r20.2.1==4) then
 ((cM.f k r20.1 [(⟨#[]⟩:ByteArray),(⟨#[110,105,110,101,98,121,116,101,115]⟩:ByteArray)]).bind fun r22 =>
 (some (r22.1,((r1.2.1,(r2.2.1,(r22.2.1,(ByteArray.empty,(0,()))))),()))))
 else
 (bif (r20.2.1==5) then
 ((aM.f k r20.1 [0,12]).bind fun r23 =>
 (some (r23.1,((r23.2.1,(r2.2.1,(ByteArray.empty,(ByteArray.empty,(0,()))))),()))))
 else
 (some (r20.1,((r1.2.1,(r2.2.1,(ByteArray.empty,(ByteArray.empty,(0,()))))),())))))))
 else
 (bif (r20.2.1==2) then
 (some (r20.1,((10,(0,(ByteArray.empty,(ByteArray.empty,(0,()))))),())))
 else
 (bif (r20.2.1==3) then
 ((aM.f k r20.1 [(-1),3]).bind fun r24 =>
 (some (r24.1,((r1.2.1,(r24.2.1,(ByteArray.empty,(ByteArray.empty,(0,()))))),()))))
 else
 (bif (r20.2.1==4) then
 ((cM.f k r20.1 [(⟨#[]⟩:ByteArray),(⟨#[110,105,110,101,98,121,116,101,115]⟩:ByteArray)]).bind fun r25 =>
 (some (r25.1,((r1.2.1,(r2.2.1,(r25.2.1,(ByteArray.empty,(0,()))))),()))))
 else
 (bif (r20.2.1==5) then
 ((aM.f k r20.1 [0,12]).bind fun r26 =>
 (some (r26.1,((r26.2.1,(r2.2.1,(ByteArray.empty,(ByteArray.empty,(0,()))))),()))))
 else
 (some (r20.1,((r1.2.1,(r2.2.1,(ByteArray.empty,(ByteArray.empty,(0,()))))),()))))))))))))
 else
 (bif (r1.2.1==4) then
 ((iR.f k r2.1).bind fun r27 =>
 ((aa.f k r27.1 40).bind fun r28 =>
 (bif (r28.2.1==0) then
 (some (r28.1,((9,(0,(ByteArray.empty,(ByteArray.empty,(0,()))))),())))
 else
 (bif (r28.2.1==1) then
 (bif (r28.2.1==1) then
 (some (r28.1,((10,(0,(ByteArray.empty,(ByteArray.empty,(0,()))))),())))
 else
 (bif (r28.2.1==3) then
 ((aM.f k r28.1 [(-1),3]).bind fun r29 =>
 (some (r29.1,((r1.2.1,(r29.2.1,(r27.2.1,(ByteArray.empty,(0,()))))),()))))
 else
 (bif (r28.2.1==4) then
 ((cM.f k r28.1 [(⟨#[]⟩:ByteArray),(⟨#[110,105,110,101,98,121,116,101,115]⟩:ByteArray)]).bind fun r30 =>
 (some (r30.1,((r1.2.1,(r2.2.1,(r30.2.1,(ByteArray.empty,(0,()))))),()))))
 else
 (bif (r28.2.1==5) then
 ((aM.f k r28.1 [0,12]).bind fun r31 =>
 (some (r31.1,((r31.2.1,(r2.2.1,(r27.2.1,(ByteArray.empty,(0,()))))),()))))
 else
 (some (r28.1,((r1.2.1,(r2.2.1,(r27.2.1,(ByteArray.empty,(0,()))))),())))))))
 else
 (bif (r28.2.1==2) then
 (some (r28.1,((10,(0,(ByteArray.empty,(ByteArray.empty,(0,()))))),())))
 else
 (bif (r28.2.1==3) then
 ((aM.f k r28.1 [(-1),3]).bind fun r32 =>
 (some (r32.1,((r1.2.1,(r32.2.1,(r27.2.1,(ByteArray.empty,(0,()))))),()))))
 else
 (bif (r28.2.1==4) then
 ((cM.f k r28.1 [(⟨#[]⟩:ByteArray),(⟨#[110,105,110,101,98,121,116,101,115]⟩:ByteArray)]).bind fun r33 =>
 (some (r33.1,((r1.2.1,(r2.2.1,(r33.2.1,(ByteArray.empty,(0,()))))),()))))
 else
 (bif (r28.2.1==5) then
 ((aM.f k r28.1 [0,12]).bind fun r34 =>
 (some (r34.1,((r34.2.1,(r2.2.1,(r27.2.1,(ByteArray.empty,(0,()))))),()))))
 else
 (some (r28.1,((r1.2.1,(r2.2.1,(r27.2.1,(ByteArray.empty,(0,()))))),())))))))))))
 else
 (bif (r1.2.1==3) then
 ((iR.f k r2.1).bind fun r35 =>
 ((eY.f k r35.1 12).bind fun r36 =>
 ((aa.f k r36.1 40).bind fun r37 =>
 (bif (r37.2.1==0) then
 (some (r37.1,((9,(0,(ByteArray.empty,(ByteArray.empty,(0,()))))),())))
 else
 (bif (r37.2.1==1) then
 (bif (r37.2.1==1) then
 (some (r37.1,((10,(0,(ByteArray.empty,(ByteArray.empty,(0,()))))),())))
 else
 (bif (r37.2.1==3) then
 ((aM.f k r37.1 [(-1),3]).bind fun r38 =>
 (some (r38.1,((r1.2.1,(r38.2.1,(r35.2.1,(r36.2.1,(0,()))))),()))))
 else
 (bif (r37.2.1==4) then
 ((cM.f k r37.1 [(⟨#[]⟩:ByteArray),(⟨#[110,105,110,101,98,121,116,101,115]⟩:ByteArray)]).bind fun r39 =>
 (some (r39.1,((r1.2.1,(r2.2.1,(r39.2.1,(r36.2.1,(0,()))))),()))))
 else
 (bif (r37.2.1==5) then
 ((aM.f k r37.1 [0,12]).bind fun r40 =>
 (some (r40.1,((r40.2.1,(r2.2.1,(r35.2.1,(r36.2.1,(0,()))))),()))))
 else
 (some (r37.1,((r1.2.1,(r2.2.1,(r35.2.1,(r36.2.1,(0,()))))),())))))))
 else
 (bif (r37.2.1==2) then
 (some (r37.1,((10,(0,(ByteArray.empty,(ByteArray.empty,(0,()))))),())))
 else
 (bif (r37.2.1==3) then
 ((aM.f k r37.1 [(-1),3]).bind fun r41 =>
 (some (r41.1,((r1.2.1,(r41.2.1,(r35.2.1,(r36.2.1,(0,()))))),()))))
 else
 (bif (r37.2.1==4) then
 ((cM.f k r37.1 [(⟨#[]⟩:ByteArray),(⟨#[110,105,110,101,98,121,116,101,115]⟩:ByteArray)]).bind fun r42 =>
 (some (r42.1,((r1.2.1,(r2.2.1,(r42.2.1,(r36.2.1,(0,()))))),()))))
 else
 (bif (r37.2.1==5) then
 ((aM.f k r37.1 [0,12]).bind fun r43 =>
 (some (r43.1,((r43.2.1,(r2.2.1,(r35.2.1,(r36.2.1,(0,()))))),()))))
 else
 (some (r37.1,((r1.2.1,(r2.2.1,(r35.2.1,(r36.2.1,(0,()))))),()))))))))))))
 else
 ((aa.f k r2.1 40).bind fun r44 =>
 (bif (r44.2.1==0) then
 (some (r44.1,((9,(0,(ByteArray.empty,(ByteArray.empty,(0,()))))),())))
 else
 (bif (r44.2.1==1) then
 (bif (r44.2.1==1) then
 (some (r44.1,((10,(0,(ByteArray.empty,(ByteArray.empty,(0,()))))),())))
 else
 (bif (r44.2.1==3) then
 ((aM.f k r44.1 [(-1),3]).bind fun r45 =>
 (some (r45.1,((r1.2.1,(r45.2.1,(ByteArray.empty,(ByteArray.empty,(0,()))))),()))))
 else
 (bif (r44.2.1==4) then
 ((cM.f k r44.1 [(⟨#[]⟩:ByteArray),(⟨#[110,105,110,101,98,121,116,101,115]⟩:ByteArray)]).bind fun r46 =>
 (some (r46.1,((r1.2.1,(r2.2.1,(r46.2.1,(ByteArray.empty,(0,()))))),()))))
 else
 (bif (r44.2.1==5) then
 ((aM.f k r44.1 [0,12]).bind fun r47 =>
 (some (r47.1,((r47.2.1,(r2.2.1,(ByteArray.empty,(ByteArray.empty,(0,()))))),()))))
 else
 (some (r44.1,((r1.2.1,(r2.2.1,(ByteArray.empty,(ByteArray.empty,(0,()))))),())))))))
 else
 (bif (r44.2.1==2) then
 (some (r44.1,((10,(0,(ByteArray.empty,(ByteArray.empty,(0,()))))),())))
 else
 (bif (r44.2.1==3) then
 ((aM.f k r44.1 [(-1),3]).bind fun r48 =>
 (some (r48.1,((r1.2.1,(r48.2.1,(ByteArray.empty,(ByteArray.empty,(0,()))))),()))))
 else
 (bif (r44.2.1==4) then
 ((cM.f k r44.1 [(⟨#[]⟩:ByteArray),(⟨#[110,105,110,101,98,121,116,101,115]⟩:ByteArray)]).bind fun r49 =>
 (some (r49.1,((r1.2.1,(r2.2.1,(r49.2.1,(ByteArray.empty,(0,()))))),()))))
 else
 (bif (r44.2.1==5) then
 ((aM.f k r44.1 [0,12]).bind fun r50 =>
 (some (r50.1,((r50.2.1,(r2.2.1,(ByteArray.empty,(ByteArray.empty,(0,()))))),()))))
 else
 (some (r44.1,((r1.2.1,(r2.2.1,(ByteArray.empty,(ByteArray.empty,(0,()))))),())))))))))))))))
def f (k:Nat):=t k
end ik
namespace aN
abbrev Rs:Type:=Option (Bool × Unit)
def t (k:Nat) (a0:Int) (a1:Int) (a2:Int):Rs :=
 (bif (decide (a0≥a1)) then
 (some ((decide (a0≤a2)),()))
 else
 (some (false,())))
def f (k:Nat):=t k
end aN
namespace bp
abbrev Rs:Type:=Option ((Ty.d cT) × Bool × Unit)
def t (k:Nat) (a0:Ty.d cT) (a1:Int):Rs :=
 ((aa.f k a0 a1).bind fun r1 =>
 (some (r1.1,((r1.2.1==0),()))))
def f (k:Nat):=t k
end bp
namespace e7
abbrev Rs:Type:=Option ((Ty.d cT) × (List (Ty.d ar)) × Unit)
abbrev T0:Type:=Int→List Int→Int→Int→List (Ty.d ar)→List Bool→Rs
def b0 (k:Nat) (L0:T0):T0:=fun x0 x1 x2 x3 x4 x5 =>
 (bif (decide (x0 > 0)) then
 ((ik.f k (x1,(x2,(x3,())))).bind fun r2 =>
 (bif (decide (r2.2.1.1≤6)) then
 ((aN.f k r2.2.1.2.1 0 2).bind fun r3 =>
 (bif r3.1 then
 (bF r2.2.1.2.1 (x5.length:Int)
 (bif (!(List.getD x5 (Int.toNat r2.2.1.2.1) (Ty.z .bool))) then
 ((bp.f k r2.1 8).bind fun r4 =>
 (bif (!r4.2.1) then
 (bF r2.2.1.2.1 (x5.length:Int)
 (bif (List.getD x5 (Int.toNat r2.2.1.2.1) (Ty.z .bool)) then
 ((bp.f k r4.1 8).bind fun r5 =>
 (bif (!r5.2.1) then
 (bF r2.2.1.2.1 (x5.length:Int)
 (let l6:=(List.set x5 (Int.toNat r2.2.1.2.1) false);
 (rm (Ty.bytes ar) (List.length x4+1)
 (L0 (aH (x0-1)) r5.1.1 r5.1.2.1 r5.1.2.2.1 (x4++[(5,(r2.2.1.2.1,(ByteArray.empty,(ByteArray.empty,(0,())))))]) l6))))
 else
 (bF r2.2.1.2.1 (x5.length:Int)
 (let l7:=(List.set x5 (Int.toNat r2.2.1.2.1) true);
 (rm (Ty.bytes ar) (List.length x4+1)
 (L0 (aH (x0-1)) r5.1.1 r5.1.2.1 r5.1.2.2.1 (x4++[(1,(r2.2.1.2.1,(ByteArray.empty,(ByteArray.empty,(0,())))))]) l7))))))
 else
 (bF r2.2.1.2.1 (x5.length:Int)
 (let l8:=(List.set x5 (Int.toNat r2.2.1.2.1) true);
 (rm (Ty.bytes ar) (List.length x4+1)
 (L0 (aH (x0-1)) r4.1.1 r4.1.2.1 r4.1.2.2.1 (x4++[(1,(r2.2.1.2.1,(ByteArray.empty,(ByteArray.empty,(0,())))))]) l8))))))
 else
 (bF r2.2.1.2.1 (x5.length:Int)
 (bif (List.getD x5 (Int.toNat r2.2.1.2.1) (Ty.z .bool)) then
 (bif (r2.2.1.1==1) then
 ((bp.f k r4.1 8).bind fun r9 =>
 (bif (!r9.2.1) then
 (bF r2.2.1.2.1 (x5.length:Int)
 (let l10:=(List.set x5 (Int.toNat r2.2.1.2.1) false);
 (rm (Ty.bytes ar) (List.length x4+1)
 (L0 (aH (x0-1)) r9.1.1 r9.1.2.1 r9.1.2.2.1 (x4++[(5,r2.2.1.2)]) l10))))
 else
 (bif (r2.2.1.1 != 5) then
 (bF r2.2.1.2.1 (x5.length:Int)
 (let l11:=(List.set x5 (Int.toNat r2.2.1.2.1) (r2.2.1.1 != 6));
 (bif (r2.2.1.1==9) then
 (vP (Ty.bytes .bool) 3
 (rm (Ty.bytes ar) (List.length x4+1)
 (rm (Ty.bytes ar) (List.length (x4++[r2.2.1])+1)
 (L0 (aH (x0-1)) r9.1.1 r9.1.2.1 r9.1.2.2.1 ((x4++[r2.2.1])++[(10,(0,(ByteArray.empty,(ByteArray.empty,(0,())))))]) (List.replicate (Int.toNat 3) (Ty.z .bool))))))
 else
 (rm (Ty.bytes ar) (List.length x4+1)
 (L0 (aH (x0-1)) r9.1.1 r9.1.2.1 r9.1.2.2.1 (x4++[r2.2.1]) l11)))))
 else
 (bF r2.2.1.2.1 (x5.length:Int)
 (let l12:=(List.set x5 (Int.toNat r2.2.1.2.1) false);
 (bif (r2.2.1.1==9) then
 (vP (Ty.bytes .bool) 3
 (rm (Ty.bytes ar) (List.length x4+1)
 (rm (Ty.bytes ar) (List.length (x4++[r2.2.1])+1)
 (L0 (aH (x0-1)) r9.1.1 r9.1.2.1 r9.1.2.2.1 ((x4++[r2.2.1])++[(10,(0,(ByteArray.empty,(ByteArray.empty,(0,())))))]) (List.replicate (Int.toNat 3) (Ty.z .bool))))))
 else
 (rm (Ty.bytes ar) (List.length x4+1)
 (L0 (aH (x0-1)) r9.1.1 r9.1.2.1 r9.1.2.2.1 (x4++[r2.2.1]) l12))))))))
 else
 (bif (r2.2.1.1 != 5) then
 (bF r2.2.1.2.1 (x5.length:Int)
 (let l13:=(List.set x5 (Int.toNat r2.2.1.2.1) (r2.2.1.1 != 6));
 (bif (r2.2.1.1==9) then
 (vP (Ty.bytes .bool) 3
 (rm (Ty.bytes ar) (List.length x4+1)
 (rm (Ty.bytes ar) (List.length (x4++[r2.2.1])+1)
 (L0 (aH (x0-1)) r4.1.1 r4.1.2.1 r4.1.2.2.1 ((x4++[r2.2.1])++[(10,(0,(ByteArray.empty,(ByteArray.empty,(0,())))))]) (List.replicate (Int.toNat 3) (Ty.z .bool))))))
 else
 (rm (Ty.bytes ar) (List.length x4+1)
 (L0 (aH (x0-1)) r4.1.1 r4.1.2.1 r4.1.2.2.1 (x4++[r2.2.1]) l13)))))
 else
 (bF r2.2.1.2.1 (x5.length:Int)
 (let l14:=(List.set x5 (Int.toNat r2.2.1.2.1) false);
 (bif (r2.2.1.1==9) then
 (vP (Ty.bytes .bool) 3
 (rm (Ty.bytes ar) (List.length x4+1)
 (rm (Ty.bytes ar) (List.length (x4++[r2.2.1])+1)
 (L0 (aH (x0-1)) r4.1.1 r4.1.2.1 r4.1.2.2.1 ((x4++[r2.2.1])++[(10,(0,(ByteArray.empty,(ByteArray.empty,(0,())))))]) (List.replicate (Int.toNat 3) (Ty.z .bool))))))
 else
 (rm (Ty.bytes ar) (List.length x4+1)
 (L0 (aH (x0-1)) r4.1.1 r4.1.2.1 r4.1.2.2.1 (x4++[r2.2.1]) l14)))))))
 else
 (bif (r2.2.1.1 != 5) then
 (bF r2.2.1.2.1 (x5.length:Int)
 (let l15:=(List.set x5 (Int.toNat r2.2.1.2.1) (r2.2.1.1 != 6));
 (bif (r2.2.1.1==9) then
 (vP (Ty.bytes .bool) 3
 (rm (Ty.bytes ar) (List.length x4+1)
 (rm (Ty.bytes ar) (List.length (x4++[r2.2.1])+1)
 (L0 (aH (x0-1)) r4.1.1 r4.1.2.1 r4.1.2.2.1 ((x4++[r2.2.1])++[(10,(0,(ByteArray.empty,(ByteArray.empty,(0,())))))]) (List.replicate (Int.toNat 3) (Ty.z .bool))))))
 else
 (rm (Ty.bytes ar) (List.length x4+1)
 (L0 (aH (x0-1)) r4.1.1 r4.1.2.1 r4.1.2.2.1 (x4++[r2.2.1]) l15)))))
 else
 (bF r2.2.1.2.1 (x5.length:Int)
 (let l16:=(List.set x5 (Int.toNat r2.2.1.2.1) false);
 (bif (r2.2.1.1==9) then
 (vP (Ty.bytes .bool) 3
 (rm (Ty.bytes ar) (List.length x4+1)
 (rm (Ty.bytes ar) (List.length (x4++[r2.2.1])+1)
 (L0 (aH (x0-1)) r4.1.1 r4.1.2.1 r4.1.2.2.1 ((x4++[r2.2.1])++[(10,(0,(ByteArray.empty,(ByteArray.empty,(0,())))))]) (List.replicate (Int.toNat 3) (Ty.z .bool))))))
 else
 (rm (Ty.bytes ar) (List.length x4+1)
 (L0 (aH (x0-1)) r4.1.1 r4.1.2.1 r4.1.2.2.1 (x4++[r2.2.1]) l16))))))))))
 else
 (bF r2.2.1.2.1 (x5.length:Int)
 (bif (List.getD x5 (Int.toNat r2.2.1.2.1) (Ty.z .bool)) then
 (bif (r2.2.1.1==1) then
 ((bp.f k r2.1 8).bind fun r17 =>
 (bif (!r17.2.1) then
 (bF r2.2.1.2.1 (x5.length:Int)
 (let l18:=(List.set x5 (Int.toNat r2.2.1.2.1) false);
 (rm (Ty.bytes ar) (List.length x4+1)
 (L0 (aH (x0-1)) r17.1.1 r17.1.2.1 r17.1.2.2.1 (x4++[(5,r2.2.1.2)]) l18))))
 else
 (bif (r2.2.1.1 != 5) then
 (bF r2.2.1.2.1 (x5.length:Int)
 (let l19:=(List.set x5 (Int.toNat r2.2.1.2.1) (r2.2.1.1 != 6));
 (bif (r2.2.1.1==9) then
 (vP (Ty.bytes .bool) 3
 (rm (Ty.bytes ar) (List.length x4+1)
 (rm (Ty.bytes ar) (List.length (x4++[r2.2.1])+1)
 (L0 (aH (x0-1)) r17.1.1 r17.1.2.1 r17.1.2.2.1 ((x4++[r2.2.1])++[(10,(0,(ByteArray.empty,(ByteArray.empty,(0,())))))]) (List.replicate (Int.toNat 3) (Ty.z .bool))))))
 else
 (rm (Ty.bytes ar) (List.length x4+1)
 (L0 (aH (x0-1)) r17.1.1 r17.1.2.1 r17.1.2.2.1 (x4++[r2.2.1]) l19)))))
 else
 (bF r2.2.1.2.1 (x5.length:Int)
 (let l20:=(List.set x5 (Int.toNat r2.2.1.2.1) false);
 (bif (r2.2.1.1==9) then
 (vP (Ty.bytes .bool) 3
 (rm (Ty.bytes ar) (List.length x4+1)
 (rm (Ty.bytes ar) (List.length (x4++[r2.2.1])+1)
 (L0 (aH (x0-1)) r17.1.1 r17.1.2.1 r17.1.2.2.1 ((x4++[r2.2.1])++[(10,(0,(ByteArray.empty,(ByteArray.empty,(0,())))))]) (List.replicate (Int.toNat 3) (Ty.z .bool))))))
 else
 (rm (Ty.bytes ar) (List.length x4+1)
 (L0 (aH (x0-1)) r17.1.1 r17.1.2.1 r17.1.2.2.1 (x4++[r2.2.1]) l20))))))))
 else
 (bif (r2.2.1.1 != 5) then
 (bF r2.2.1.2.1 (x5.length:Int)
 (let l21:=(List.set x5 (Int.toNat r2.2.1.2.1) (r2.2.1.1 != 6));
 (bif (r2.2.1.1==9) then
 (vP (Ty.bytes .bool) 3
 (rm (Ty.bytes ar) (List.length x4+1)
 (rm (Ty.bytes ar) (List.length (x4++[r2.2.1])+1)
 (L0 (aH (x0-1)) r2.1.1 r2.1.2.1 r2.1.2.2.1 ((x4++[r2.2.1])++[(10,(0,(ByteArray.empty,(ByteArray.empty,(0,())))))]) (List.replicate (Int.toNat 3) (Ty.z .bool))))))
 else
 (rm (Ty.bytes ar) (List.length x4+1)
 (L0 (aH (x0-1)) r2.1.1 r2.1.2.1 r2.1.2.2.1 (x4++[r2.2.1]) l21)))))
 else
 (bF r2.2.1.2.1 (x5.length:Int)
 (let l22:=(List.set x5 (Int.toNat r2.2.1.2.1) false);
 (bif (r2.2.1.1==9) then
 (vP (Ty.bytes .bool) 3
 (rm (Ty.bytes ar) (List.length x4+1)
 (rm (Ty.bytes ar) (List.length (x4++[r2.2.1])+1)
 (L0 (aH (x0-1)) r2.1.1 r2.1.2.1 r2.1.2.2.1 ((x4++[r2.2.1])++[(10,(0,(ByteArray.empty,(ByteArray.empty,(0,())))))]) (List.replicate (Int.toNat 3) (Ty.z .bool))))))
 else
 (rm (Ty.bytes ar) (List.length x4+1)
 (L0 (aH (x0-1)) r2.1.1 r2.1.2.1 r2.1.2.2.1 (x4++[r2.2.1]) l22)))))))
 else
 (bif (r2.2.1.1 != 5) then
 (bF r2.2.1.2.1 (x5.length:Int)
 (let l23:=(List.set x5 (Int.toNat r2.2.1.2.1) (r2.2.1.1 != 6));
 (bif (r2.2.1.1==9) then
 (vP (Ty.bytes .bool) 3
 (rm (Ty.bytes ar) (List.length x4+1)
 (rm (Ty.bytes ar) (List.length (x4++[r2.2.1])+1)
 (L0 (aH (x0-1)) r2.1.1 r2.1.2.1 r2.1.2.2.1 ((x4++[r2.2.1])++[(10,(0,(ByteArray.empty,(ByteArray.empty,(0,())))))]) (List.replicate (Int.toNat 3) (Ty.z .bool))))))
 else
 (rm (Ty.bytes ar) (List.length x4+1)
 (L0 (aH (x0-1)) r2.1.1 r2.1.2.1 r2.1.2.2.1 (x4++[r2.2.1]) l23)))))
 else
 (bF r2.2.1.2.1 (x5.length:Int)
 (let l24:=(List.set x5 (Int.toNat r2.2.1.2.1) false);
 (bif (r2.2.1.1==9) then
 (vP (Ty.bytes .bool) 3
 (rm (Ty.bytes ar) (List.length x4+1)
 (rm (Ty.bytes ar) (List.length (x4++[r2.2.1])+1)
 (L0 (aH (x0-1)) r2.1.1 r2.1.2.1 r2.1.2.2.1 ((x4++[r2.2.1])++[(10,(0,(ByteArray.empty,(ByteArray.empty,(0,())))))]) (List.replicate (Int.toNat 3) (Ty.z .bool))))))
 else
 (rm (Ty.bytes ar) (List.length x4+1)
 (L0 (aH (x0-1)) r2.1.1 r2.1.2.1 r2.1.2.2.1 (x4++[r2.2.1]) l24))))))))))
 else
 (bif (r2.2.1.1==9) then
 (vP (Ty.bytes .bool) 3
 (rm (Ty.bytes ar) (List.length x4+1)
 (rm (Ty.bytes ar) (List.length (x4++[r2.2.1])+1)
 (L0 (aH (x0-1)) r2.1.1 r2.1.2.1 r2.1.2.2.1 ((x4++[r2.2.1])++[(10,(0,(ByteArray.empty,(ByteArray.empty,(0,())))))]) (List.replicate (Int.toNat 3) (Ty.z .bool))))))
 else
 (rm (Ty.bytes ar) (List.length x4+1)
 (L0 (aH (x0-1)) r2.1.1 r2.1.2.1 r2.1.2.2.1 (x4++[r2.2.1]) x5)))))
 else
 (bif (r2.2.1.1==9) then
 (vP (Ty.bytes .bool) 3
 (rm (Ty.bytes ar) (List.length x4+1)
 (rm (Ty.bytes ar) (List.length (x4++[r2.2.1])+1)
 (L0 (aH (x0-1)) r2.1.1 r2.1.2.1 r2.1.2.2.1 ((x4++[r2.2.1])++[(10,(0,(ByteArray.empty,(ByteArray.empty,(0,())))))]) (List.replicate (Int.toNat 3) (Ty.z .bool))))))
 else
 (rm (Ty.bytes ar) (List.length x4+1)
 (L0 (aH (x0-1)) r2.1.1 r2.1.2.1 r2.1.2.2.1 (x4++[r2.2.1]) x5)))))
 else
 (some ((x1,(x2,(x3,()))),(x4,()))))
def l0 (k:Nat):Nat→T0
 | 0=>fun _ _ _ _ _ _=>none
 | n+1=>b0 k (l0 k n)
def t (k:Nat) (L0:T0) (a0:Ty.d cT) (a1:Int):Rs :=
 (vP (Ty.bytes .bool) 3
 ((aa.f k a0 (aH (a1+1))).bind fun r1 =>
 (L0 r1.2.1 r1.1.1 r1.1.2.1 r1.1.2.2.1 [] (List.replicate (Int.toNat 3) (Ty.z .bool)))))
def f (k:Nat):=t k (l0 k k)
end e7
namespace fX
abbrev Rs:Type:=Option ((Ty.d cT) × (Ty.d kh) × Unit)
def t (k:Nat) (a0:Ty.d cT) (a1:Int):Rs :=
 ((e7.f k a0 a1).bind fun r1 =>
 ((aa.f k r1.1 6).bind fun r2 =>
 (bif (r2.2.1==0) then
 ((aa.f k r2.1 300).bind fun r3 =>
 (some (r3.1,(((aH (100+r3.2.1)),((-1),r1.2)),()))))
 else
 (bif (r2.2.1==1) then
 ((aa.f k r2.1 (aH ((List.length r1.2.1:Int)+1))).bind fun r4 =>
 (nR r4.2.1 (List.length r1.2.1:Int)
 (rm (Ty.bytes ar) (0+List.length (List.take (Int.toNat r4.2.1) r1.2.1))
 ((aa.f k r4.1 120).bind fun r5 =>
 (rm (Ty.bytes ar) (List.length ([]++(List.take (Int.toNat r4.2.1) r1.2.1))+1)
 (nR r4.2.1 (List.length r1.2.1:Int)
 (rm (Ty.bytes ar) (List.length (([]++(List.take (Int.toNat r4.2.1) r1.2.1))++[(11,(0,(ByteArray.empty,(ByteArray.empty,r5.2))))])+List.length (List.drop (Int.toNat r4.2.1) r1.2.1))
 (some (r5.1,((100000,((-1),(((([]++(List.take (Int.toNat r4.2.1) r1.2.1))++[(11,(0,(ByteArray.empty,(ByteArray.empty,r5.2))))])++(List.drop (Int.toNat r4.2.1) r1.2.1)),()))),()))))))))))
 else
 (some (r2.1,((100000,((-1),r1.2)),())))))))
def f (k:Nat):=t k
end fX
namespace iB
abbrev Rs:Type:=Option ((Ty.d kh) × Unit)
def t (k:Nat) (a0:List Int):Rs :=
 ((fK.f k a0).bind fun r1 =>
 ((fX.f k r1.2.1 40).bind fun r2 =>
 ((aa.f k r2.1 6).bind fun r3 =>
 (bif (r3.2.1==0) then
 (bif (r3.2.1==0) then
 ((aa.f k r3.1 60).bind fun r4 =>
 ((bp.f k r4.1 20).bind fun r5 =>
 (bif r5.2.1 then
 ((aM.f k r5.1 [(-1),100001,0,9]).bind fun r6 =>
 (some ((r6.2.1,(r4.2.1,r2.2.1.2.2)),())))
 else
 (some ((r2.2.1.1,(r4.2.1,r2.2.1.2.2)),())))))
 else
 (bif (r3.2.1==2) then
 ((aM.f k r3.1 [(-2),(-1),0,100001]).bind fun r7 =>
 ((bp.f k r7.1 20).bind fun r8 =>
 (bif r8.2.1 then
 ((aM.f k r8.1 [(-1),100001,0,9]).bind fun r9 =>
 (some ((r9.2.1,(r7.2.1,r2.2.1.2.2)),())))
 else
 (some ((r2.2.1.1,(r7.2.1,r2.2.1.2.2)),())))))
 else
 ((bp.f k r3.1 20).bind fun r10 =>
 (bif r10.2.1 then
 ((aM.f k r10.1 [(-1),100001,0,9]).bind fun r11 =>
 (some ((r11.2.1,r2.2.1.2),())))
 else
 (some r2.2)))))
 else
 (bif (r3.2.1==1) then
 ((aa.f k r3.1 60).bind fun r12 =>
 ((bp.f k r12.1 20).bind fun r13 =>
 (bif r13.2.1 then
 ((aM.f k r13.1 [(-1),100001,0,9]).bind fun r14 =>
 (some ((r14.2.1,(r12.2.1,r2.2.1.2.2)),())))
 else
 (some ((r2.2.1.1,(r12.2.1,r2.2.1.2.2)),())))))
 else
 (bif (r3.2.1==2) then
 ((aM.f k r3.1 [(-2),(-1),0,100001]).bind fun r15 =>
 ((bp.f k r15.1 20).bind fun r16 =>
 (bif r16.2.1 then
 ((aM.f k r16.1 [(-1),100001,0,9]).bind fun r17 =>
 (some ((r17.2.1,(r15.2.1,r2.2.1.2.2)),())))
 else
 (some ((r2.2.1.1,(r15.2.1,r2.2.1.2.2)),())))))
 else
 ((bp.f k r3.1 20).bind fun r18 =>
 (bif r18.2.1 then
 ((aM.f k r18.1 [(-1),100001,0,9]).bind fun r19 =>
 (some ((r19.2.1,r2.2.1.2),())))
 else
 (some r2.2)))))))))
def f (k:Nat):=t k
end iB
namespace gT
abbrev Rs:Type:=Option ((Ty.d aA) × Unit)
def t (k:Nat) (a0:Int):Rs :=
 ((aN.f k a0 0 100000).bind fun r1 =>
 (bif (!r1.1) then
 (some (([],(0,(0,(false,())))),()))
 else
 (some (([],(a0,((-1),(false,())))),()))))
def f (k:Nat):=t k
end gT
namespace bh
abbrev Rs:Type:=Option ((Ty.d aA) × Unit)
def t (k:Nat) (a0:Ty.d aA):Rs :=
 (rm (Ty.bytes aK) (0+List.length a0.1)
 (some ((([]++a0.1),a0.2),())))
def f (k:Nat):=t k
end bh
namespace df
abbrev Rs:Type:=Option (Int × Unit)
abbrev T0:Type:=Int→Int→List (Ty.d aK)→Int→Int→Bool→Rs
def b0 (k:Nat) (L0:T0):T0:=fun x0 x1 x2 x3 x4 x5 =>
 (bif (decide (x1<(x2.length:Int))) then
 (bF x1 (x2.length:Int)
 (L0 (aH (x0+(ByteArray.size (List.getD x2 (Int.toNat x1) (Ty.z aK)).2.1:Int))) (aH (x1+1)) x2 x3 x4 x5))
 else
 (some (x0,())))
def l0 (k:Nat):Nat→T0
 | 0=>fun _ _ _ _ _ _=>none
 | n+1=>b0 k (l0 k n)
def t (k:Nat) (L0:T0) (a0:Ty.d aA):Rs :=
 (L0 0 0 a0.1 a0.2.1 a0.2.2.1 a0.2.2.2.1)
def f (k:Nat):=t k (l0 k k)
end df
namespace dc
abbrev Rs:Type:=Option (Bool × Unit)
abbrev T0:Type:=ByteArray→Int→Rs
def b0 (k:Nat) (L0:T0):T0:=fun x0 x1 =>
 (bif (decide (x1<(ByteArray.size x0:Int))) then
 (bF x1 (ByteArray.size x0:Int)
 (bif (decide ((di x0 x1)≥97)) then
 (bF x1 (ByteArray.size x0:Int)
 (bif (decide ((di x0 x1)≤122)) then
 (L0 x0 (aH (x1+1)))
 else
 (bF x1 (ByteArray.size x0:Int)
 (bif (decide ((di x0 x1)≥48)) then
 (bF x1 (ByteArray.size x0:Int)
 (bif (!(decide ((di x0 x1)≤57))) then
 (some (false,()))
 else
 (L0 x0 (aH (x1+1)))))
 else
 (some (false,()))))))
 else
 (bF x1 (ByteArray.size x0:Int)
 (bif (decide ((di x0 x1)≥48)) then
 (bF x1 (ByteArray.size x0:Int)
 (bif (!(decide ((di x0 x1)≤57))) then
 (some (false,()))
 else
 (L0 x0 (aH (x1+1)))))
 else
 (some (false,()))))))
 else
 ((aN.f k (ByteArray.size x0:Int) 1 12).bind fun r1 =>
 (some r1)))
def l0 (k:Nat):Nat→T0
 | 0=>fun _ _=>none
 | n+1=>b0 k (l0 k n)
def t (k:Nat) (L0:T0) (a0:ByteArray):Rs :=
 (L0 a0 0)
def f (k:Nat):=t k (l0 k k)
end dc
namespace bC
abbrev Rs:Type:=Option (Bool × Unit)
abbrev T0:Type:=Int→List (Ty.d aK)→Int→Int→Bool→Rs
def b0 (k:Nat) (L0:T0):T0:=fun x0 x1 x2 x3 x4 =>
 (bif (decide (x0<(x1.length:Int))) then
 (bF x0 (x1.length:Int)
 ((dc.f k (List.getD x1 (Int.toNat x0) (Ty.z aK)).1).bind fun r4 =>
 (bif (!r4.1) then
 (some (false,()))
 else
 (bF x0 (x1.length:Int)
 (bF x0 (x1.length:Int)
 ((aN.f k (List.getD x1 (Int.toNat x0) (Ty.z aK)).2.2.1 0 (ByteArray.size (List.getD x1 (Int.toNat x0) (Ty.z aK)).2.1:Int)).bind fun r5 =>
 (bif (!r5.1) then
 (some (false,()))
 else
 (bif (decide (x0 > 0)) then
 (bF x0 (x1.length:Int)
 (bF (aH (x0-1)) (x1.length:Int)
 (bif ((mw (List.getD x1 (Int.toNat x0) (Ty.z aK)).1 (List.getD x1 (Int.toNat (aH (x0-1))) (Ty.z aK)).1)||(seq (List.getD x1 (Int.toNat x0) (Ty.z aK)).1 (List.getD x1 (Int.toNat (aH (x0-1))) (Ty.z aK)).1)) then
 (some (false,()))
 else
 (L0 (aH (x0+1)) x1 x2 x3 x4))))
 else
 (L0 (aH (x0+1)) x1 x2 x3 x4)))))))))
 else
 (some (true,())))
def l0 (k:Nat):Nat→T0
 | 0=>fun _ _ _ _ _=>none
 | n+1=>b0 k (l0 k n)
def t (k:Nat) (L0:T0) (a0:Ty.d aA):Rs :=
 (bif (decide ((List.length a0.1:Int) > 130)) then
 (some (false,()))
 else
 ((aN.f k a0.2.1 0 100000).bind fun r1 =>
 (bif (!r1.1) then
 (some (false,()))
 else
 ((aN.f k a0.2.2.1 (-1) 100000).bind fun r2 =>
 (bif (!r2.1) then
 (some (false,()))
 else
 ((df.f k a0).bind fun r3 =>
 (bif (decide (r3.1 > a0.2.1)) then
 (some (false,()))
 else
 (L0 0 a0.1 a0.2.1 a0.2.2.1 a0.2.2.2.1))))))))
def f (k:Nat):=t k (l0 k k)
end bC
namespace i8
abbrev Rs:Type:=Option ((Ty.d aA) × Unit)
def t (k:Nat) (a0:Ty.d aA) (a1:Int):Rs :=
 ((bh.f k a0).bind fun r1 =>
 ((bC.f k a0).bind fun r2 =>
 (bif r2.1 then
 ((aN.f k a1 (-1) 100000).bind fun r3 =>
 (bif r3.1 then
 (some ((r1.1.1,(r1.1.2.1,(a1,(false,())))),()))
 else
 (some r1)))
 else
 (some r1))))
def f (k:Nat):=t k
end i8
namespace bE
abbrev Rs:Type:=Option (Int × Unit)
abbrev T0:Type:=ByteArray→Int→List (Ty.d aK)→Int→Int→Bool→Rs
def b0 (k:Nat) (L0:T0):T0:=fun x0 x1 x2 x3 x4 x5 =>
 (bif (decide (x1<(x2.length:Int))) then
 (bF x1 (x2.length:Int)
 (bif (seq (List.getD x2 (Int.toNat x1) (Ty.z aK)).1 x0) then
 (some (x1,()))
 else
 (L0 x0 (aH (x1+1)) x2 x3 x4 x5)))
 else
 (some ((-1),())))
def l0 (k:Nat):Nat→T0
 | 0=>fun _ _ _ _ _ _=>none
 | n+1=>b0 k (l0 k n)
def t (k:Nat) (L0:T0) (a0:Ty.d aA) (a1:ByteArray):Rs :=
 (L0 a1 0 a0.1 a0.2.1 a0.2.2.1 a0.2.2.2.1)
def f (k:Nat):=t k (l0 k k)
end bE
namespace bK
abbrev Rs:Type:=Option (ByteArray × Bool × Unit)
def t (k:Nat) (a0:Ty.d aA) (a1:ByteArray):Rs :=
 ((bC.f k a0).bind fun r1 =>
 (bif (!r1.1) then
 (some ((⟨#[]⟩:ByteArray),(false,())))
 else
 ((bE.f k a0 a1).bind fun r2 =>
 (bif (decide (r2.1<0)) then
 (some ((⟨#[]⟩:ByteArray),(false,())))
 else
 (bF r2.1 (List.length a0.1:Int)
 (some ((List.getD a0.1 (Int.toNat r2.1) (Ty.z aK)).2.1,(true,()))))))))
def f (k:Nat):=t k
end bK
namespace db
abbrev Rs:Type:=Option (ByteArray × Unit)
abbrev T0:Type:=Int→ByteArray→Bool→Rs
def b0 (k:Nat) (L0:T0):T0:=fun x0 x1 x2 =>
 (bif (x0 != 0) then
 (bif (decide ((Int.tmod x0 10)<0)) then
 (kW (bytesOf [(IntKind.wrap .u8 (aH (48+(aH (0-(Int.tmod x0 10))))))]) x1
 (L0 (aH (Int.tdiv x0 10)) ((bytesOf [(IntKind.wrap .u8 (aH (48+(aH (0-(Int.tmod x0 10))))))])++x1) x2))
 else
 (kW (bytesOf [(IntKind.wrap .u8 (aH (48+(Int.tmod x0 10))))]) x1
 (L0 (aH (Int.tdiv x0 10)) ((bytesOf [(IntKind.wrap .u8 (aH (48+(Int.tmod x0 10))))])++x1) x2)))
 else
 (bif x2 then
 (kW (⟨#[45]⟩:ByteArray) x1
 (some (((⟨#[45]⟩:ByteArray)++x1),())))
 else
 (some (x1,()))))
def l0 (k:Nat):Nat→T0
 | 0=>fun _ _ _=>none
 | n+1=>b0 k (l0 k n)
def t (k:Nat) (L0:T0) (a0:Int):Rs :=
 (bif (a0==0) then
 (some ((⟨#[48]⟩:ByteArray),()))
 else
 (L0 a0 (⟨#[]⟩:ByteArray) (decide (a0<0))))
def f (k:Nat):=t k (l0 k k)
end db
namespace eJ
abbrev Rs:Type:=Option (Int × Bool × Unit)
abbrev T0:Type:=ByteArray→Int→Int→Int→Rs
def b0 (k:Nat) (L0:T0):T0:=fun x0 x1 x2 x3 =>
 (bif (decide (x3<(ByteArray.size x0:Int))) then
 (bif (decide (x3<11)) then
 (bF x3 (ByteArray.size x0:Int)
 (bif (decide ((di x0 x3)≥48)) then
 (bF x3 (ByteArray.size x0:Int)
 (bif (decide ((di x0 x3)≤57)) then
 (bF x3 (ByteArray.size x0:Int)
 (L0 x0 (aH ((aH (x1*10))+(aH (IntKind.wrap .u8 ((di x0 x3)-48))))) (aH (x2+1)) (aH (x3+1))))
 else
 (L0 x0 x1 x2 (aH (x3+1)))))
 else
 (L0 x0 x1 x2 (aH (x3+1)))))
 else
 (bif (decide ((ByteArray.size x0:Int) > 0)) then
 (bF 0 (ByteArray.size x0:Int)
 (bif ((di x0 0)==45) then
 (bif (decide (x2 > 9)) then
 (some (0,(false,())))
 else
 (bif (decide ((ByteArray.size x0:Int) > 10)) then
 (some (0,(false,())))
 else
 ((db.f k (aH (0-x1))).bind fun r1 =>
 (bif (!(seq r1.1 x0)) then
 (some (0,(false,())))
 else
 (some ((aH (0-x1)),(true,())))))))
 else
 (bif (decide (x2 > 9)) then
 (some (0,(false,())))
 else
 (bif (decide ((ByteArray.size x0:Int) > 10)) then
 (some (0,(false,())))
 else
 ((db.f k x1).bind fun r2 =>
 (bif (!(seq r2.1 x0)) then
 (some (0,(false,())))
 else
 (some (x1,(true,())))))))))
 else
 (bif (decide (x2 > 9)) then
 (some (0,(false,())))
 else
 (bif (decide ((ByteArray.size x0:Int) > 10)) then
 (some (0,(false,())))
 else
 ((db.f k x1).bind fun r3 =>
 (bif (!(seq r3.1 x0)) then
 (some (0,(false,())))
 else
 (some (x1,(true,())))))))))
 else
 (bif (decide ((ByteArray.size x0:Int) > 0)) then
 (bF 0 (ByteArray.size x0:Int)
 (bif ((di x0 0)==45) then
 (bif (decide (x2 > 9)) then
 (some (0,(false,())))
 else
 (bif (decide ((ByteArray.size x0:Int) > 10)) then
 (some (0,(false,())))
 else
 ((db.f k (aH (0-x1))).bind fun r4 =>
 (bif (!(seq r4.1 x0)) then
 (some (0,(false,())))
 else
 (some ((aH (0-x1)),(true,())))))))
 else
 (bif (decide (x2 > 9)) then
 (some (0,(false,())))
 else
 (bif (decide ((ByteArray.size x0:Int) > 10)) then
 (some (0,(false,())))
 else
 ((db.f k x1).bind fun r5 =>
 (bif (!(seq r5.1 x0)) then
 (some (0,(false,())))
 else
 (some (x1,(true,())))))))))
 else
 (bif (decide (x2 > 9)) then
 (some (0,(false,())))
 else
 (bif (decide ((ByteArray.size x0:Int) > 10)) then
 (some (0,(false,())))
 else
 ((db.f k x1).bind fun r6 =>
 (bif (!(seq r6.1 x0)) then
 (some (0,(false,())))
 else
 (some (x1,(true,())))))))))
def l0 (k:Nat):Nat→T0
 | 0=>fun _ _ _ _=>none
 | n+1=>b0 k (l0 k n)
def t (k:Nat) (L0:T0) (a0:ByteArray):Rs :=
 (L0 a0 0 0 0)
def f (k:Nat):=t k (l0 k k)
end eJ
namespace aU
abbrev Rs:Type:=Option (ByteArray × Unit)
def t (k:Nat) (a0:Int):Rs :=
 ((aN.f k a0 1 100000).bind fun r1 =>
 (bif (!r1.1) then
 (some ((⟨#[]⟩:ByteArray),()))
 else
 ((db.f k a0).bind fun r2 =>
 (kW (⟨#[115,101,103]⟩:ByteArray) r2.1
 (some (((⟨#[115,101,103]⟩:ByteArray)++r2.1),()))))))
def f (k:Nat):=t k
end aU
namespace cj
abbrev Rs:Type:=Option (ByteArray × Unit)
def t (k:Nat) (a0:Int):Rs :=
 ((aN.f k a0 1 100000).bind fun r1 =>
 (bif (!r1.1) then
 (some ((⟨#[]⟩:ByteArray),()))
 else
 ((db.f k a0).bind fun r2 =>
 (kW (⟨#[104,105,110,116]⟩:ByteArray) r2.1
 (some (((⟨#[104,105,110,116]⟩:ByteArray)++r2.1),()))))))
def f (k:Nat):=t k
end cj
namespace gq
abbrev Rs:Type:=Option (Int × Bool × Unit)
abbrev T0:Type:=ByteArray→Int→Rs
def b0 (k:Nat) (L0:T0):T0:=fun x0 x1 =>
 (bif (decide (x1≤4)) then
 (bif (decide ((ByteArray.size x0:Int) > x1)) then
 (nR x1 (ByteArray.size x0:Int)
 ((eJ.f k (ByteArray.extract x0 (Int.toNat x1) (ByteArray.size x0))).bind fun r1 =>
 (bif r1.2.1 then
 (bif (decide (r1.1≥1)) then
 ((aU.f k r1.1).bind fun r2 =>
 (bif (seq r2.1 x0) then
 (some (r1.1,(true,())))
 else
 ((cj.f k r1.1).bind fun r3 =>
 (bif (seq r3.1 x0) then
 (some (r1.1,(true,())))
 else
 (L0 x0 (aH (x1+1)))))))
 else
 (L0 x0 (aH (x1+1))))
 else
 (L0 x0 (aH (x1+1))))))
 else
 (L0 x0 (aH (x1+1))))
 else
 (some (0,(false,()))))
def l0 (k:Nat):Nat→T0
 | 0=>fun _ _=>none
 | n+1=>b0 k (l0 k n)
def t (k:Nat) (L0:T0) (a0:ByteArray):Rs :=
 (L0 a0 3)
def f (k:Nat):=t k (l0 k k)
end gq
namespace bR
abbrev Rs:Type:=Option ((List ByteArray) × Unit)
abbrev T1:Type:=Int→Int→Bool→Bool→Int→List (Ty.d aK)→Int→Int→Bool→Int→List Int→List ByteArray→Rs
abbrev T0:Type:=Int→List (Ty.d aK)→Int→Int→Bool→Int→List Int→List ByteArray→Rs
def b1 (k:Nat) (L0:T0) (L1:T1):T1:=fun x0 x1 x2 x3 x4 x5 x6 x7 x8 x9 x10 x11 =>
 (bif (decide (x4<(x10.length:Int))) then
 (bif x3 then
 (L1 x0 x1 x2 true (aH (x4+1)) x5 x6 x7 x8 x9 x10 x11)
 else
 (bF x4 (x10.length:Int)
 (L1 x0 x1 x2 ((List.getD x10 (Int.toNat x4) (Ty.z (.int .i64)))==x1) (aH (x4+1)) x5 x6 x7 x8 x9 x10 x11)))
 else
 (bif x2 then
 (bif (!x3) then
 (bF x0 (x5.length:Int)
 (rm (Ty.bytes .str) (List.length x11+1)
 (L0 (aH (x0+1)) x5 x6 x7 x8 x9 x10 (x11++[(List.getD x5 (Int.toNat x0) (Ty.z aK)).1]))))
 else
 (bF x0 (x5.length:Int)
 (bif (seq (List.getD x5 (Int.toNat x0) (Ty.z aK)).1 (⟨#[116,101,109,112]⟩:ByteArray)) then
 (bF x0 (x5.length:Int)
 (rm (Ty.bytes .str) (List.length x11+1)
 (L0 (aH (x0+1)) x5 x6 x7 x8 x9 x10 (x11++[(List.getD x5 (Int.toNat x0) (Ty.z aK)).1]))))
 else
 (L0 (aH (x0+1)) x5 x6 x7 x8 x9 x10 x11))))
 else
 (bF x0 (x5.length:Int)
 (bif (seq (List.getD x5 (Int.toNat x0) (Ty.z aK)).1 (⟨#[116,101,109,112]⟩:ByteArray)) then
 (bF x0 (x5.length:Int)
 (rm (Ty.bytes .str) (List.length x11+1)
 (L0 (aH (x0+1)) x5 x6 x7 x8 x9 x10 (x11++[(List.getD x5 (Int.toNat x0) (Ty.z aK)).1]))))
 else
 (L0 (aH (x0+1)) x5 x6 x7 x8 x9 x10 x11)))))
def l1 (k:Nat) (L0:T0):Nat→T1
 | 0=>fun _ _ _ _ _ _ _ _ _ _ _ _=>none
 | n+1=>b1 k L0 (l1 k L0 n)
def b0 (k:Nat) (L1:T1) (L0:T0):T0:=fun x0 x1 x2 x3 x4 x5 x6 x7 =>
 (bif (decide (x0<(x1.length:Int))) then
 (bF x0 (x1.length:Int)
 ((gq.f k (List.getD x1 (Int.toNat x0) (Ty.z aK)).1).bind fun r2 =>
 (L1 x0 r2.1 r2.2.1 false 0 x1 x2 x3 x4 x5 x6 x7)))
 else
 (some (x7,())))
def l0 (k:Nat):Nat→T0
 | 0=>fun _ _ _ _ _ _ _ _=>none
 | n+1=>b0 k (l1 k (l0 k n) k) (l0 k n)
def t (k:Nat) (L0:T0) (a0:Ty.d aA) (a1:Ty.d cZ):Rs :=
 ((bC.f k a0).bind fun r1 =>
 (bif (!r1.1) then
 (some ([],()))
 else
 (L0 0 a0.1 a0.2.1 a0.2.2.1 a0.2.2.2.1 a1.1 a1.2.1 [])))
def f (k:Nat):=t k (l0 k k)
end bR
namespace d5
abbrev Rs:Type:=Option ((Ty.d aA) × Int × Unit)
def t (k:Nat) (a0:Ty.d aA):Rs :=
 ((bh.f k a0).bind fun r1 =>
 ((bC.f k a0).bind fun r2 =>
 (bif (!r2.1) then
 (some (r1.1,(5,())))
 else
 (bif a0.2.2.2.1 then
 (some ((r1.1.1,(r1.1.2.1,(r1.1.2.2.1,(true,())))),(1,())))
 else
 (bif (a0.2.2.1==0) then
 (some ((r1.1.1,(r1.1.2.1,(r1.1.2.2.1,(true,())))),(1,())))
 else
 (bif (decide (a0.2.2.1 > 0)) then
 (some ((r1.1.1,(r1.1.2.1,((aH (a0.2.2.1-1)),r1.1.2.2.2))),(0,())))
 else
 (some (r1.1,(0,())))))))))
def f (k:Nat):=t k
end d5
namespace eW
abbrev Rs:Type:=Option ((List (Ty.d aK)) × Unit)
def t (k:Nat) (a0:List (Ty.d aK)) (a1:Int):Rs :=
 (nR a1 (List.length a0:Int)
 (rm (Ty.bytes aK) (0+List.length (List.take (Int.toNat a1) a0))
 (nR (aH (a1+1)) (List.length a0:Int)
 (rm (Ty.bytes aK) (List.length ([]++(List.take (Int.toNat a1) a0))+List.length (List.drop (Int.toNat (aH (a1+1))) a0))
 (some ((([]++(List.take (Int.toNat a1) a0))++(List.drop (Int.toNat (aH (a1+1))) a0)),()))))))
def f (k:Nat):=t k
end eW
namespace gD
abbrev Rs:Type:=Option ((Ty.d aA) × Int × Unit)
def t (k:Nat) (a0:Ty.d aA) (a1:ByteArray):Rs :=
 ((d5.f k a0).bind fun r1 =>
 (bif (r1.2.1 != 0) then
 (some r1)
 else
 ((bE.f k a0 a1).bind fun r2 =>
 (bif (decide (r2.1<0)) then
 (some (r1.1,(3,())))
 else
 ((eW.f k r1.1.1 r2.1).bind fun r3 =>
 (some ((r3.1,r1.1.2),(0,()))))))))
def f (k:Nat):=t k
end gD
namespace aW
abbrev Rs:Type:=Option (Int × Unit)
def t (k:Nat) (a0:Int):Rs :=
 (bif (a0==0) then
 (some (0,()))
 else
 (bif (a0==1) then
 (some (1,()))
 else
 (bif (a0==2) then
 (some (2,()))
 else
 (some (3,())))))
def f (k:Nat):=t k
end aW
namespace d9
abbrev Rs:Type:=Option ((List (Ty.d aK)) × Unit)
abbrev T0:Type:=List (Ty.d aK)→Bool→Int→ByteArray→ByteArray→Int→List (Ty.d aK)→Rs
def b0 (k:Nat) (L0:T0):T0:=fun x0 x1 x2 x3 x4 x5 x6 =>
 (bif (decide (x2<(x0.length:Int))) then
 (bif (!x1) then
 (bF x2 (x0.length:Int)
 (bif (!((mw (List.getD x0 (Int.toNat x2) (Ty.z aK)).1 x3)||(seq (List.getD x0 (Int.toNat x2) (Ty.z aK)).1 x3))) then
 (rm (Ty.bytes aK) (List.length x6+1)
 (bF x2 (x0.length:Int)
 (rm (Ty.bytes aK) (List.length (x6++[(x3,(x4,(x5,())))])+1)
 (L0 x0 true (aH (x2+1)) x3 x4 x5 ((x6++[(x3,(x4,(x5,())))])++[(List.getD x0 (Int.toNat x2) (Ty.z aK))])))))
 else
 (bF x2 (x0.length:Int)
 (rm (Ty.bytes aK) (List.length x6+1)
 (L0 x0 x1 (aH (x2+1)) x3 x4 x5 (x6++[(List.getD x0 (Int.toNat x2) (Ty.z aK))]))))))
 else
 (bF x2 (x0.length:Int)
 (rm (Ty.bytes aK) (List.length x6+1)
 (L0 x0 x1 (aH (x2+1)) x3 x4 x5 (x6++[(List.getD x0 (Int.toNat x2) (Ty.z aK))])))))
 else
 (bif (!x1) then
 (rm (Ty.bytes aK) (List.length x6+1)
 (some ((x6++[(x3,(x4,(x5,())))]),())))
 else
 (some (x6,()))))
def l0 (k:Nat):Nat→T0
 | 0=>fun _ _ _ _ _ _ _=>none
 | n+1=>b0 k (l0 k n)
def t (k:Nat) (L0:T0) (a0:List (Ty.d aK)) (a1:Ty.d aK):Rs :=
 (L0 a0 false 0 a1.1 a1.2.1 a1.2.2.1 [])
def f (k:Nat):=t k (l0 k k)
end d9
namespace gi
abbrev Rs:Type:=Option ((Ty.d aA) × Int × Unit)
def t (k:Nat) (a0:Ty.d aA) (a1:ByteArray):Rs :=
 ((d5.f k a0).bind fun r1 =>
 (bif (r1.2.1 != 0) then
 (some r1)
 else
 ((dc.f k a1).bind fun r2 =>
 (bif (!r2.1) then
 (some (r1.1,(5,())))
 else
 ((bE.f k a0 a1).bind fun r3 =>
 (bif (decide (r3.1≥0)) then
 (some (r1.1,(4,())))
 else
 (bif (decide ((List.length a0.1:Int)≥130)) then
 (some (r1.1,(2,())))
 else
 ((d9.f k r1.1.1 (a1,(ByteArray.empty,(0,())))).bind fun r4 =>
 (some ((r4.1,r1.1.2),(0,())))))))))))
def f (k:Nat):=t k
end gi
namespace cY
abbrev Rs:Type:=Option (Bool × Unit)
abbrev T0:Type:=Int→Int→List Int→Rs
def b0 (k:Nat) (L0:T0):T0:=fun x0 x1 x2 =>
 (bif (decide (x0<(x2.length:Int))) then
 (bF x0 (x2.length:Int)
 ((aN.f k (List.getD x2 (Int.toNat x0) (Ty.z (.int .i64))) 1 (aH (x1-1))).bind fun r3 =>
 (bif (!r3.1) then
 (some (false,()))
 else
 (bif (decide (x0 > 0)) then
 (bF x0 (x2.length:Int)
 (bF (aH (x0-1)) (x2.length:Int)
 (bif (decide ((List.getD x2 (Int.toNat x0) (Ty.z (.int .i64)))≤(List.getD x2 (Int.toNat (aH (x0-1))) (Ty.z (.int .i64))))) then
 (some (false,()))
 else
 (L0 (aH (x0+1)) x1 x2))))
 else
 (L0 (aH (x0+1)) x1 x2)))))
 else
 (some (true,())))
def l0 (k:Nat):Nat→T0
 | 0=>fun _ _ _=>none
 | n+1=>b0 k (l0 k n)
def t (k:Nat) (L0:T0) (a0:Ty.d cZ):Rs :=
 ((aN.f k a0.1 1 100000).bind fun r1 =>
 (bif (!r1.1) then
 (some (false,()))
 else
 ((aN.f k (List.length a0.2.1:Int) 1 60).bind fun r2 =>
 (bif (!r2.1) then
 (some (false,()))
 else
 (L0 0 a0.1 a0.2.1)))))
def f (k:Nat):=t k (l0 k k)
end cY
namespace bY
abbrev Rs:Type:=Option (ByteArray × Unit)
abbrev T0:Type:=Int→List Int→Rs
def b0 (k:Nat) (L0:T0):T0:=fun x0 x1 =>
 (bif (decide (x0≥128)) then
 (rm (Ty.bytes (.int .u8)) (List.length x1+1)
 (L0 (aH (Int.tdiv x0 128)) (x1++[(IntKind.wrap .u8 (aH (128+(Int.tmod x0 128))))])))
 else
 (rm (Ty.bytes (.int .u8)) (List.length x1+1)
 (some ((bytesOf (x1++[(IntKind.wrap .u8 x0)])),()))))
def l0 (k:Nat):Nat→T0
 | 0=>fun _ _=>none
 | n+1=>b0 k (l0 k n)
def t (k:Nat) (L0:T0) (a0:Int):Rs :=
 ((aN.f k a0 0 562949953421311).bind fun r1 =>
 (bif (!r1.1) then
 (some ((⟨#[]⟩:ByteArray),()))
 else
 (L0 a0 [])))
def f (k:Nat):=t k (l0 k k)
end bY
namespace fk
abbrev Rs:Type:=Option (Int × Unit)
abbrev T1:Type:=ByteArray→Int→Int→Int→Rs
abbrev T0:Type:=ByteArray→Int→Int→Rs
def b1 (k:Nat) (L0:T0) (L1:T1):T1:=fun x0 x1 x2 x3 =>
 (bif (decide (x3<8)) then
 (bif ((Int.tmod x1 2)==1) then
 (L1 x0 (aH (((BitVec.ofInt (IntKind.bits .i64) (aH (Int.tdiv x1 2)) ^^^ BitVec.ofInt (IntKind.bits .i64) 2197175160).toNat:Int))) x2 (aH (x3+1)))
 else
 (L1 x0 (aH (Int.tdiv x1 2)) x2 (aH (x3+1))))
 else
 (L0 x0 x1 (aH (x2+1))))
def l1 (k:Nat) (L0:T0):Nat→T1
 | 0=>fun _ _ _ _=>none
 | n+1=>b1 k L0 (l1 k L0 n)
def b0 (k:Nat) (L1:T1) (L0:T0):T0:=fun x0 x1 x2 =>
 (bif (decide (x2<(ByteArray.size x0:Int))) then
 (bF x2 (ByteArray.size x0:Int)
 (L1 x0 (aH (((BitVec.ofInt (IntKind.bits .i64) x1 ^^^ BitVec.ofInt (IntKind.bits .i64) (aH (di x0 x2))).toNat:Int))) x2 0))
 else
 (some ((aH (4294967295-x1)),())))
def l0 (k:Nat):Nat→T0
 | 0=>fun _ _ _=>none
 | n+1=>b0 k (l1 k (l0 k n) k) (l0 k n)
def t (k:Nat) (L0:T0) (a0:ByteArray):Rs :=
 (L0 a0 4294967295 0)
def f (k:Nat):=t k (l0 k k)
end fk
namespace dM
abbrev Rs:Type:=Option (ByteArray × Unit)
abbrev T0:Type:=Int→Int→ByteArray→Int→Rs
def b0 (k:Nat) (L0:T0):T0:=fun x0 x1 x2 x3 =>
 (bif (decide (x3<x1)) then
 (kW (bytesOf [(IntKind.wrap .u8 (Int.tmod x0 256))]) x2
 (L0 (aH (Int.tdiv x0 256)) x1 ((bytesOf [(IntKind.wrap .u8 (Int.tmod x0 256))])++x2) (aH (x3+1))))
 else
 (bif (decide (x0 > 0)) then
 (some ((⟨#[]⟩:ByteArray),()))
 else
 (some (x2,()))))
def l0 (k:Nat):Nat→T0
 | 0=>fun _ _ _ _=>none
 | n+1=>b0 k (l0 k n)
def t (k:Nat) (L0:T0) (a0:Int) (a1:Int):Rs :=
 ((aN.f k a1 1 7).bind fun r1 =>
 (bif (!r1.1) then
 (some ((⟨#[]⟩:ByteArray),()))
 else
 (bif (decide (a0<0)) then
 (some ((⟨#[]⟩:ByteArray),()))
 else
 (L0 a0 a1 (⟨#[]⟩:ByteArray) 0))))
def f (k:Nat):=t k (l0 k k)
end dM
namespace fI
abbrev Rs:Type:=Option (ByteArray × Unit)
def t (k:Nat) (a0:ByteArray):Rs :=
 (bif (decide ((ByteArray.size a0:Int) > 200)) then
 (some ((⟨#[]⟩:ByteArray),()))
 else
 ((bY.f k (ByteArray.size a0:Int)).bind fun r1 =>
 (kW r1.1 a0
 ((fk.f k (r1.1++a0)).bind fun r2 =>
 ((dM.f k r2.1 4).bind fun r3 =>
 (kW r3.1 (r1.1++a0)
 (some ((r3.1++(r1.1++a0)),()))))))))
def f (k:Nat):=t k
end fI
namespace dA
abbrev Rs:Type:=Option (ByteArray × Unit)
abbrev T0:Type:=ByteArray→Int→Int→List Int→Rs
def b0 (k:Nat) (L0:T0):T0:=fun x0 x1 x2 x3 =>
 (bif (decide (x1<(x3.length:Int))) then
 (bF x1 (x3.length:Int)
 ((bY.f k (List.getD x3 (Int.toNat x1) (Ty.z (.int .i64)))).bind fun r4 =>
 (kW x0 r4.1
 (L0 (x0++r4.1) (aH (x1+1)) x2 x3))))
 else
 ((fI.f k x0).bind fun r5 =>
 (some r5)))
def l0 (k:Nat):Nat→T0
 | 0=>fun _ _ _ _=>none
 | n+1=>b0 k (l0 k n)
def t (k:Nat) (L0:T0) (a0:Ty.d cZ):Rs :=
 ((cY.f k a0).bind fun r1 =>
 (bif (!r1.1) then
 (some ((⟨#[]⟩:ByteArray),()))
 else
 ((bY.f k a0.1).bind fun r2 =>
 ((bY.f k (List.length a0.2.1:Int)).bind fun r3 =>
 (kW r2.1 r3.1
 (L0 (r2.1++r3.1) 0 a0.1 a0.2.1))))))
def f (k:Nat):=t k (l0 k k)
end dA
namespace dV
abbrev Rs:Type:=Option ((Ty.d aA) × Int × Unit)
def t (k:Nat) (a0:Ty.d aA) (a1:ByteArray):Rs :=
 ((bE.f k a0 a1).bind fun r1 =>
 (bif (decide (r1.1≥0)) then
 ((gD.f k a0 a1).bind fun r2 =>
 (bif (r2.2.1 != 0) then
 (some r2)
 else
 ((gi.f k r2.1 a1).bind fun r3 =>
 (some r3))))
 else
 ((gi.f k a0 a1).bind fun r4 =>
 (some r4))))
def f (k:Nat):=t k
end dV
namespace dX
abbrev Rs:Type:=Option ((Ty.d aA) × Int × Unit)
def t (k:Nat) (a0:Ty.d aA) (a1:ByteArray) (a2:ByteArray):Rs :=
 ((d5.f k a0).bind fun r1 =>
 (bif (r1.2.1 != 0) then
 (some r1)
 else
 ((bE.f k a0 a1).bind fun r2 =>
 (bif (decide (r2.1<0)) then
 (some (r1.1,(3,())))
 else
 ((df.f k a0).bind fun r3 =>
 (bif (decide ((ByteArray.size a2:Int) > (aH (a0.2.1-r3.1)))) then
 (some (r1.1,(2,())))
 else
 (bF r2.1 (List.length a0.1:Int)
 (kW (List.getD a0.1 (Int.toNat r2.1) (Ty.z aK)).2.1 a2
 (bF r2.1 (List.length r1.1.1:Int)
 (let l4:=(List.set r1.1.1 (Int.toNat r2.1) ((List.getD r1.1.1 (Int.toNat r2.1) (Ty.z aK)).1,(((List.getD a0.1 (Int.toNat r2.1) (Ty.z aK)).2.1++a2),(List.getD r1.1.1 (Int.toNat r2.1) (Ty.z aK)).2.2)));
 (some ((l4,r1.1.2),(0,())))))))))))))
def f (k:Nat):=t k
end dX
namespace eA
abbrev Rs:Type:=Option ((Ty.d aA) × Int × Unit)
def t (k:Nat) (a0:Ty.d aA) (a1:ByteArray):Rs :=
 ((d5.f k a0).bind fun r1 =>
 (bif (r1.2.1 != 0) then
 (some r1)
 else
 ((bE.f k a0 a1).bind fun r2 =>
 (bif (decide (r2.1<0)) then
 (some (r1.1,(3,())))
 else
 (bF r2.1 (List.length a0.1:Int)
 (bF r2.1 (List.length r1.1.1:Int)
 (let l3:=(List.set r1.1.1 (Int.toNat r2.1) ((List.getD r1.1.1 (Int.toNat r2.1) (Ty.z aK)).1,((List.getD r1.1.1 (Int.toNat r2.1) (Ty.z aK)).2.1,((ByteArray.size (List.getD a0.1 (Int.toNat r2.1) (Ty.z aK)).2.1:Int),(List.getD r1.1.1 (Int.toNat r2.1) (Ty.z aK)).2.2.2))));
 (some ((l3,r1.1.2),(0,()))))))))))
def f (k:Nat):=t k
end eA
namespace gU
abbrev Rs:Type:=Option ((Ty.d aA) × Int × Unit)
def t (k:Nat) (a0:Ty.d aA) (a1:ByteArray) (a2:ByteArray):Rs :=
 ((dV.f k a0 a1).bind fun r1 =>
 (bif (r1.2.1==0) then
 ((dX.f k r1.1 a1 a2).bind fun r2 =>
 (bif (r2.2.1==0) then
 ((eA.f k r2.1 a1).bind fun r3 =>
 (some r3))
 else
 (some r2)))
 else
 (bif (r1.2.1==0) then
 ((eA.f k r1.1 a1).bind fun r4 =>
 (some r4))
 else
 (some r1))))
def f (k:Nat):=t k
end gU
namespace jR
abbrev Rs:Type:=Option ((Ty.d aA) × Int × Unit)
def t (k:Nat) (a0:Ty.d aA) (a1:ByteArray) (a2:ByteArray):Rs :=
 ((d5.f k a0).bind fun r1 =>
 (bif (r1.2.1 != 0) then
 (some r1)
 else
 ((dc.f k a2).bind fun r2 =>
 (bif (!r2.1) then
 (some (r1.1,(5,())))
 else
 ((bE.f k a0 a1).bind fun r3 =>
 (bif (decide (r3.1<0)) then
 (some (r1.1,(3,())))
 else
 (bif (seq a1 a2) then
 (some (r1.1,(0,())))
 else
 (bF r3.1 (List.length a0.1:Int)
 ((eW.f k r1.1.1 r3.1).bind fun r4 =>
 ((bE.f k (r4.1,r1.1.2) a2).bind fun r5 =>
 (bif (decide (r5.1≥0)) then
 ((eW.f k r4.1 r5.1).bind fun r6 =>
 ((d9.f k r6.1 (a2,(List.getD a0.1 (Int.toNat r3.1) (Ty.z aK)).2)).bind fun r7 =>
 (some ((r7.1,r1.1.2),(0,())))))
 else
 ((d9.f k r4.1 (a2,(List.getD a0.1 (Int.toNat r3.1) (Ty.z aK)).2)).bind fun r8 =>
 (some ((r8.1,r1.1.2),(0,())))))))))))))))
def f (k:Nat):=t k
end jR
namespace eG
abbrev Rs:Type:=Option ((Ty.d aA) × Int × Unit)
def t (k:Nat) (a0:Ty.d aA) (a1:Ty.d cZ):Rs :=
 ((bC.f k a0).bind fun r1 =>
 (bif (!r1.1) then
 ((bh.f k a0).bind fun r2 =>
 (some (r2.1,(4,()))))
 else
 ((cY.f k a1).bind fun r3 =>
 (bif (!r3.1) then
 ((bh.f k a0).bind fun r4 =>
 (some (r4.1,(4,()))))
 else
 ((dA.f k a1).bind fun r5 =>
 ((gU.f k a0 (⟨#[116,101,109,112]⟩:ByteArray) r5.1).bind fun r6 =>
 (bif (r6.2.1==0) then
 ((jR.f k r6.1 (⟨#[116,101,109,112]⟩:ByteArray) (⟨#[108,105,118,101]⟩:ByteArray)).bind fun r7 =>
 ((aW.f k r7.2.1).bind fun r8 =>
 (some (r7.1,r8))))
 else
 ((aW.f k r6.2.1).bind fun r9 =>
 (some (r6.1,r9))))))))))
def f (k:Nat):=t k
end eG
namespace ag
abbrev Rs:Type:=Option (Int × Int × Unit)
abbrev T1:Type:=ByteArray→Int→Int→Int→Rs
abbrev T0:Type:=ByteArray→Int→Rs
def b1 (k:Nat) (L0:T0) (L1:T1):T1:=fun x0 x1 x2 x3 =>
 (bif (decide (x3≥0)) then
 (bF x3 (ByteArray.size x0:Int)
 (L1 x0 x1 (aH ((aH (x2*128))+(Int.tmod (aH (di x0 x3)) 128))) (aH (x3-1))))
 else
 ((bY.f k x2).bind fun r1 =>
 (nR x1 (ByteArray.size x0:Int)
 (bif (seq r1.1 (ByteArray.extract x0 0 (Int.toNat x1))) then
 (some (x2,(x1,())))
 else
 (L0 x0 (aH (x1+1)))))))
def l1 (k:Nat) (L0:T0):Nat→T1
 | 0=>fun _ _ _ _=>none
 | n+1=>b1 k L0 (l1 k L0 n)
def b0 (k:Nat) (L1:T1) (L0:T0):T0:=fun x0 x1 =>
 (bif (decide (x1≤7)) then
 (bif (decide (x1≤(ByteArray.size x0:Int))) then
 (L1 x0 x1 0 (aH (x1-1)))
 else
 (some (0,(0,()))))
 else
 (some (0,(0,()))))
def l0 (k:Nat):Nat→T0
 | 0=>fun _ _=>none
 | n+1=>b0 k (l1 k (l0 k n) k) (l0 k n)
def t (k:Nat) (L0:T0) (a0:ByteArray):Rs :=
 (L0 a0 1)
def f (k:Nat):=t k (l0 k k)
end ag
namespace dQ
abbrev Rs:Type:=Option (ByteArray × Int × Unit)
def t (k:Nat) (a0:ByteArray):Rs :=
 (bif (decide ((ByteArray.size a0:Int)<5)) then
 (some ((⟨#[]⟩:ByteArray),(0,())))
 else
 (nR 4 (ByteArray.size a0:Int)
 ((ag.f k (ByteArray.extract a0 4 (ByteArray.size a0))).bind fun r1 =>
 (bif (r1.2.1==0) then
 (some ((⟨#[]⟩:ByteArray),(0,())))
 else
 (bif (decide (r1.1 > 200)) then
 (some ((⟨#[]⟩:ByteArray),(0,())))
 else
 (bif (decide (r1.1 > (aH ((aH ((ByteArray.size a0:Int)-4))-r1.2.1)))) then
 (some ((⟨#[]⟩:ByteArray),(0,())))
 else
 (Dk (aH (4+r1.2.1)) (aH ((aH (4+r1.2.1))+r1.1)) (ByteArray.size a0:Int)
 (nR (aH ((aH (4+r1.2.1))+r1.1)) (ByteArray.size a0:Int)
 ((fI.f k (ByteArray.extract a0 (Int.toNat (aH (4+r1.2.1))) (Int.toNat (aH ((aH (4+r1.2.1))+r1.1))))).bind fun r2 =>
 (bif (!(seq (ByteArray.extract a0 0 (Int.toNat (aH ((aH (4+r1.2.1))+r1.1)))) r2.1)) then
 (some ((⟨#[]⟩:ByteArray),(0,())))
 else
 (some ((ByteArray.extract a0 (Int.toNat (aH (4+r1.2.1))) (Int.toNat (aH ((aH (4+r1.2.1))+r1.1)))),((aH ((aH (4+r1.2.1))+r1.1)),())))))))))))))
def f (k:Nat):=t k
end dQ
namespace bM
abbrev Rs:Type:=Option ((Ty.d cZ) × Bool × Unit)
abbrev T0:Type:=ByteArray→ByteArray→Int→Int→Int→List Int→Int→List Int→Int→Rs
def b0 (k:Nat) (L0:T0):T0:=fun x0 x1 x2 x3 x4 x5 x6 x7 x8 =>
 (bif (decide (x4<x2)) then
 (bif (decide (x4<60)) then
 (nR x3 (ByteArray.size x1:Int)
 ((ag.f k (ByteArray.extract x1 (Int.toNat x3) (ByteArray.size x1))).bind fun r4 =>
 (rm (Ty.bytes (.int .i64)) (List.length x7+1)
 (L0 x0 x1 x2 (aH (x3+r4.2.1)) (aH (x4+1)) x5 x6 (x7++[r4.1]) x8))))
 else
 ((dA.f k (x8,(x7,()))).bind fun r5 =>
 (bif (!(seq r5.1 x0)) then
 (some ((0,([],())),(false,())))
 else
 (some ((x8,(x7,())),(true,()))))))
 else
 ((dA.f k (x8,(x7,()))).bind fun r6 =>
 (bif (!(seq r6.1 x0)) then
 (some ((0,([],())),(false,())))
 else
 (some ((x8,(x7,())),(true,()))))))
def l0 (k:Nat):Nat→T0
 | 0=>fun _ _ _ _ _ _ _ _ _=>none
 | n+1=>b0 k (l0 k n)
def t (k:Nat) (L0:T0) (a0:ByteArray):Rs :=
 ((dQ.f k a0).bind fun r1 =>
 ((ag.f k r1.1).bind fun r2 =>
 (bif (r1.2.1 != (ByteArray.size a0:Int)) then
 (some ((0,([],())),(false,())))
 else
 (bif (r1.2.1==0) then
 (some ((0,([],())),(false,())))
 else
 (bif (r2.2.1==0) then
 (some ((0,([],())),(false,())))
 else
 (nR r2.2.1 (ByteArray.size r1.1:Int)
 ((ag.f k (ByteArray.extract r1.1 (Int.toNat r2.2.1) (ByteArray.size r1.1))).bind fun r3 =>
 (L0 a0 r1.1 r3.1 (aH (r2.2.1+r3.2.1)) 0 [] 0 [] r2.1))))))))
def f (k:Nat):=t k (l0 k k)
end bM
namespace cL
abbrev Rs:Type:=Option (ByteArray × ByteArray × Bool × Unit)
def t (k:Nat) (a0:ByteArray):Rs :=
 ((ag.f k a0).bind fun r1 =>
 (bif (r1.2.1==0) then
 (some ((⟨#[]⟩:ByteArray),((⟨#[]⟩:ByteArray),(false,()))))
 else
 (bif (decide (r1.1 > (aH ((ByteArray.size a0:Int)-r1.2.1)))) then
 (some ((⟨#[]⟩:ByteArray),((⟨#[]⟩:ByteArray),(false,()))))
 else
 (Dk r1.2.1 (aH (r1.2.1+r1.1)) (ByteArray.size a0:Int)
 (nR (aH (r1.2.1+r1.1)) (ByteArray.size a0:Int)
 (some ((ByteArray.extract a0 (Int.toNat r1.2.1) (Int.toNat (aH (r1.2.1+r1.1)))),((ByteArray.extract a0 (Int.toNat (aH (r1.2.1+r1.1))) (ByteArray.size a0)),(true,())))))))))
def f (k:Nat):=t k
end cL
namespace cm
abbrev Rs:Type:=Option (Bool × Unit)
def t (k:Nat) (a0:ByteArray):Rs :=
 ((aN.f k (ByteArray.size a0:Int) 1 8).bind fun r1 =>
 (some r1))
def f (k:Nat):=t k
end cm
namespace kB
abbrev Rs:Type:=Option (Bool × Unit)
def t (k:Nat) (a0:Ty.d bB):Rs :=
 ((aN.f k a0.2.1 0 1000000).bind fun r1 =>
 (bif (!r1.1) then
 (some (false,()))
 else
 (bif (a0.2.1==0) then
 (bif (a0.1 != 5) then
 (some (false,()))
 else
 (bif (a0.1==1) then
 (bif (a0.1==1) then
 ((cm.f k a0.2.2.1).bind fun r2 =>
 (bif r2.1 then
 (bif (decide ((ByteArray.size a0.2.2.2.1:Int)≤24)) then
 (bif (a0.2.2.2.2.1==0) then
 (some ((a0.2.2.2.2.2.1==0),()))
 else
 (some (false,())))
 else
 (some (false,())))
 else
 (some (false,()))))
 else
 (bif (a0.1==2) then
 ((cm.f k a0.2.2.1).bind fun r3 =>
 (bif r3.1 then
 (bif (seq a0.2.2.2.1 (⟨#[]⟩:ByteArray)) then
 (bif (a0.2.2.2.2.1==0) then
 (some ((a0.2.2.2.2.2.1==0),()))
 else
 (some (false,())))
 else
 (some (false,())))
 else
 (some (false,()))))
 else
 (bif (a0.1==3) then
 (bif (seq a0.2.2.1 (⟨#[]⟩:ByteArray)) then
 (bif (seq a0.2.2.2.1 (⟨#[]⟩:ByteArray)) then
 ((aN.f k a0.2.2.2.2.1 0 8).bind fun r4 =>
 (bif r4.1 then
 ((aN.f k a0.2.2.2.2.2.1 0 4294967295).bind fun r5 =>
 (some r5))
 else
 (some (false,()))))
 else
 (some (false,())))
 else
 (some (false,())))
 else
 (bif (a0.1==5) then
 (bif (seq a0.2.2.1 (⟨#[]⟩:ByteArray)) then
 (bif (seq a0.2.2.2.1 (⟨#[]⟩:ByteArray)) then
 ((aN.f k a0.2.2.2.2.1 0 20).bind fun r6 =>
 (bif r6.1 then
 ((aN.f k a0.2.2.2.2.2.1 0 4294967295).bind fun r7 =>
 (some r7))
 else
 (some (false,()))))
 else
 (some (false,())))
 else
 (some (false,())))
 else
 (some (false,()))))))
 else
 (bif (a0.1==4) then
 ((cm.f k a0.2.2.1).bind fun r8 =>
 (bif r8.1 then
 (bif (decide ((ByteArray.size a0.2.2.2.1:Int)≤24)) then
 (bif (a0.2.2.2.2.1==0) then
 (some ((a0.2.2.2.2.2.1==0),()))
 else
 (some (false,())))
 else
 (some (false,())))
 else
 (some (false,()))))
 else
 (bif (a0.1==2) then
 ((cm.f k a0.2.2.1).bind fun r9 =>
 (bif r9.1 then
 (bif (seq a0.2.2.2.1 (⟨#[]⟩:ByteArray)) then
 (bif (a0.2.2.2.2.1==0) then
 (some ((a0.2.2.2.2.2.1==0),()))
 else
 (some (false,())))
 else
 (some (false,())))
 else
 (some (false,()))))
 else
 (bif (a0.1==3) then
 (bif (seq a0.2.2.1 (⟨#[]⟩:ByteArray)) then
 (bif (seq a0.2.2.2.1 (⟨#[]⟩:ByteArray)) then
 ((aN.f k a0.2.2.2.2.1 0 8).bind fun r10 =>
 (bif r10.1 then
 ((aN.f k a0.2.2.2.2.2.1 0 4294967295).bind fun r11 =>
 (some r11))
 else
 (some (false,()))))
 else
 (some (false,())))
 else
 (some (false,())))
 else
 (bif (a0.1==5) then
 (bif (seq a0.2.2.1 (⟨#[]⟩:ByteArray)) then
 (bif (seq a0.2.2.2.1 (⟨#[]⟩:ByteArray)) then
 ((aN.f k a0.2.2.2.2.1 0 20).bind fun r12 =>
 (bif r12.1 then
 ((aN.f k a0.2.2.2.2.2.1 0 4294967295).bind fun r13 =>
 (some r13))
 else
 (some (false,()))))
 else
 (some (false,())))
 else
 (some (false,())))
 else
 (some (false,()))))))))
 else
 (bif (a0.1==1) then
 (bif (a0.1==1) then
 ((cm.f k a0.2.2.1).bind fun r14 =>
 (bif r14.1 then
 (bif (decide ((ByteArray.size a0.2.2.2.1:Int)≤24)) then
 (bif (a0.2.2.2.2.1==0) then
 (some ((a0.2.2.2.2.2.1==0),()))
 else
 (some (false,())))
 else
 (some (false,())))
 else
 (some (false,()))))
 else
 (bif (a0.1==2) then
 ((cm.f k a0.2.2.1).bind fun r15 =>
 (bif r15.1 then
 (bif (seq a0.2.2.2.1 (⟨#[]⟩:ByteArray)) then
 (bif (a0.2.2.2.2.1==0) then
 (some ((a0.2.2.2.2.2.1==0),()))
 else
 (some (false,())))
 else
 (some (false,())))
 else
 (some (false,()))))
 else
 (bif (a0.1==3) then
 (bif (seq a0.2.2.1 (⟨#[]⟩:ByteArray)) then
 (bif (seq a0.2.2.2.1 (⟨#[]⟩:ByteArray)) then
 ((aN.f k a0.2.2.2.2.1 0 8).bind fun r16 =>
 (bif r16.1 then
 ((aN.f k a0.2.2.2.2.2.1 0 4294967295).bind fun r17 =>
 (some r17))
 else
 (some (false,()))))
 else
 (some (false,())))
 else
 (some (false,())))
 else
 (bif (a0.1==5) then
 (bif (seq a0.2.2.1 (⟨#[]⟩:ByteArray)) then
 (bif (seq a0.2.2.2.1 (⟨#[]⟩:ByteArray)) then
 ((aN.f k a0.2.2.2.2.1 0 20).bind fun r18 =>
 (bif r18.1 then
 ((aN.f k a0.2.2.2.2.2.1 0 4294967295).bind fun r19 =>
 (some r19))
 else
 (some (false,()))))
 else
 (some (false,())))
 else
 (some (false,())))
 else
 (some (false,()))))))
 else
 (bif (a0.1==4) then
 ((cm.f k a0.2.2.1).bind fun r20 =>
 (bif r20.1 then
 (bif (decide ((ByteArray.size a0.2.2.2.1:Int)≤24)) then
 (bif (a0.2.2.2.2.1==0) then
 (some ((a0.2.2.2.2.2.1==0),()))
 else
 (some (false,())))
 else
 (some (false,())))
 else
 (some (false,()))))
 else
 (bif (a0.1==2) then
 ((cm.f k a0.2.2.1).bind fun r21 =>
 (bif r21.1 then
 (bif (seq a0.2.2.2.1 (⟨#[]⟩:ByteArray)) then
 (bif (a0.2.2.2.2.1==0) then
 (some ((a0.2.2.2.2.2.1==0),()))
 else
 (some (false,())))
 else
 (some (false,())))
 else
 (some (false,()))))
 else
 (bif (a0.1==3) then
 (bif (seq a0.2.2.1 (⟨#[]⟩:ByteArray)) then
 (bif (seq a0.2.2.2.1 (⟨#[]⟩:ByteArray)) then
 ((aN.f k a0.2.2.2.2.1 0 8).bind fun r22 =>
 (bif r22.1 then
 ((aN.f k a0.2.2.2.2.2.1 0 4294967295).bind fun r23 =>
 (some r23))
 else
 (some (false,()))))
 else
 (some (false,())))
 else
 (some (false,())))
 else
 (bif (a0.1==5) then
 (bif (seq a0.2.2.1 (⟨#[]⟩:ByteArray)) then
 (bif (seq a0.2.2.2.1 (⟨#[]⟩:ByteArray)) then
 ((aN.f k a0.2.2.2.2.1 0 20).bind fun r24 =>
 (bif r24.1 then
 ((aN.f k a0.2.2.2.2.2.1 0 4294967295).bind fun r25 =>
 (some r25))
 else
 (some (false,()))))
 else
 (some (false,())))
 else
 (some (false,())))
 else
 (some (false,()))))))))))
def f (k:Nat):=t k
end kB
namespace cD
abbrev Rs:Type:=Option (ByteArray × Unit)
def t (k:Nat) (a0:Ty.d bB):Rs :=
 ((kB.f k a0).bind fun r1 =>
 (bif (!r1.1) then
 (some ((⟨#[]⟩:ByteArray),()))
 else
 ((bY.f k a0.1).bind fun r2 =>
 ((bY.f k a0.2.1).bind fun r3 =>
 (kW r2.1 r3.1
 (bif (a0.1==1) then
 (bif (a0.1==1) then
 ((bY.f k (ByteArray.size a0.2.2.1:Int)).bind fun r4 =>
 (kW (r2.1++r3.1) r4.1
 (kW ((r2.1++r3.1)++r4.1) a0.2.2.1
 ((bY.f k (ByteArray.size a0.2.2.2.1:Int)).bind fun r5 =>
 (kW (((r2.1++r3.1)++r4.1)++a0.2.2.1) r5.1
 (kW ((((r2.1++r3.1)++r4.1)++a0.2.2.1)++r5.1) a0.2.2.2.1
 (some ((((((r2.1++r3.1)++r4.1)++a0.2.2.1)++r5.1)++a0.2.2.2.1),()))))))))
 else
 (bif (a0.1==2) then
 ((bY.f k (ByteArray.size a0.2.2.1:Int)).bind fun r6 =>
 (kW (r2.1++r3.1) r6.1
 (kW ((r2.1++r3.1)++r6.1) a0.2.2.1
 (some ((((r2.1++r3.1)++r6.1)++a0.2.2.1),())))))
 else
 ((bY.f k a0.2.2.2.2.1).bind fun r7 =>
 (kW (r2.1++r3.1) r7.1
 ((dM.f k a0.2.2.2.2.2.1 4).bind fun r8 =>
 (kW ((r2.1++r3.1)++r7.1) r8.1
 (some ((((r2.1++r3.1)++r7.1)++r8.1),()))))))))
 else
 (bif (a0.1==4) then
 ((bY.f k (ByteArray.size a0.2.2.1:Int)).bind fun r9 =>
 (kW (r2.1++r3.1) r9.1
 (kW ((r2.1++r3.1)++r9.1) a0.2.2.1
 ((bY.f k (ByteArray.size a0.2.2.2.1:Int)).bind fun r10 =>
 (kW (((r2.1++r3.1)++r9.1)++a0.2.2.1) r10.1
 (kW ((((r2.1++r3.1)++r9.1)++a0.2.2.1)++r10.1) a0.2.2.2.1
 (some ((((((r2.1++r3.1)++r9.1)++a0.2.2.1)++r10.1)++a0.2.2.2.1),()))))))))
 else
 (bif (a0.1==2) then
 ((bY.f k (ByteArray.size a0.2.2.1:Int)).bind fun r11 =>
 (kW (r2.1++r3.1) r11.1
 (kW ((r2.1++r3.1)++r11.1) a0.2.2.1
 (some ((((r2.1++r3.1)++r11.1)++a0.2.2.1),())))))
 else
 ((bY.f k a0.2.2.2.2.1).bind fun r12 =>
 (kW (r2.1++r3.1) r12.1
 ((dM.f k a0.2.2.2.2.2.1 4).bind fun r13 =>
 (kW ((r2.1++r3.1)++r12.1) r13.1
 (some ((((r2.1++r3.1)++r12.1)++r13.1),()))))))))))))))
def f (k:Nat):=t k
end cD
namespace bZ
abbrev Rs:Type:=Option (Int × Bool × Unit)
abbrev T0:Type:=ByteArray→Int→Int→Int→Rs
def b0 (k:Nat) (L0:T0):T0:=fun x0 x1 x2 x3 =>
 (bif (decide (x3<x1)) then
 (bF x3 (ByteArray.size x0:Int)
 (L0 x0 x1 (aH ((aH (x2*256))+(aH (di x0 x3)))) (aH (x3+1))))
 else
 (some (x2,(true,()))))
def l0 (k:Nat):Nat→T0
 | 0=>fun _ _ _ _=>none
 | n+1=>b0 k (l0 k n)
def t (k:Nat) (L0:T0) (a0:ByteArray) (a1:Int):Rs :=
 ((aN.f k a1 1 7).bind fun r1 =>
 (bif (!r1.1) then
 (some (0,(false,())))
 else
 (bif (decide ((ByteArray.size a0:Int)<a1)) then
 (some (0,(false,())))
 else
 (L0 a0 a1 0 0))))
def f (k:Nat):=t k (l0 k k)
end bZ
namespace dl
abbrev Rs:Type:=Option ((Ty.d bB) × Bool × Unit)
def t (k:Nat) (a0:ByteArray):Rs :=
 ((ag.f k a0).bind fun r1 =>
 (nR r1.2.1 (ByteArray.size a0:Int)
 ((ag.f k (ByteArray.extract a0 (Int.toNat r1.2.1) (ByteArray.size a0))).bind fun r2 =>
 (bif (r1.2.1==0) then
 (some ((0,(0,(ByteArray.empty,(ByteArray.empty,(0,(0,())))))),(false,())))
 else
 (bif (r2.2.1==0) then
 (some ((0,(0,(ByteArray.empty,(ByteArray.empty,(0,(0,())))))),(false,())))
 else
 (nR (aH (r1.2.1+r2.2.1)) (ByteArray.size a0:Int)
 (bif (r1.1==1) then
 (bif (r1.1==1) then
 ((cL.f k (ByteArray.extract a0 (Int.toNat (aH (r1.2.1+r2.2.1))) (ByteArray.size a0))).bind fun r3 =>
 ((cL.f k r3.2.1).bind fun r4 =>
 ((cD.f k (r1.1,(r2.1,(r3.1,(r4.1,(0,(0,()))))))).bind fun r5 =>
 (bif (!(seq r5.1 a0)) then
 (some ((0,(0,(ByteArray.empty,(ByteArray.empty,(0,(0,())))))),(false,())))
 else
 (bif (seq a0 (⟨#[]⟩:ByteArray)) then
 (some ((0,(0,(ByteArray.empty,(ByteArray.empty,(0,(0,())))))),(false,())))
 else
 (some ((r1.1,(r2.1,(r3.1,(r4.1,(0,(0,())))))),(true,()))))))))
 else
 (bif (r1.1==2) then
 ((cL.f k (ByteArray.extract a0 (Int.toNat (aH (r1.2.1+r2.2.1))) (ByteArray.size a0))).bind fun r6 =>
 ((cD.f k (r1.1,(r2.1,(r6.1,(ByteArray.empty,(0,(0,()))))))).bind fun r7 =>
 (bif (!(seq r7.1 a0)) then
 (some ((0,(0,(ByteArray.empty,(ByteArray.empty,(0,(0,())))))),(false,())))
 else
 (bif (seq a0 (⟨#[]⟩:ByteArray)) then
 (some ((0,(0,(ByteArray.empty,(ByteArray.empty,(0,(0,())))))),(false,())))
 else
 (some ((r1.1,(r2.1,(r6.1,(ByteArray.empty,(0,(0,())))))),(true,())))))))
 else
 ((ag.f k (ByteArray.extract a0 (Int.toNat (aH (r1.2.1+r2.2.1))) (ByteArray.size a0))).bind fun r8 =>
 (nR r8.2.1 (ByteArray.size (ByteArray.extract a0 (Int.toNat (aH (r1.2.1+r2.2.1))) (ByteArray.size a0)):Int)
 ((bZ.f k (ByteArray.extract (ByteArray.extract a0 (Int.toNat (aH (r1.2.1+r2.2.1))) (ByteArray.size a0)) (Int.toNat r8.2.1) (ByteArray.size (ByteArray.extract a0 (Int.toNat (aH (r1.2.1+r2.2.1))) (ByteArray.size a0)))) 4).bind fun r9 =>
 ((cD.f k (r1.1,(r2.1,(ByteArray.empty,(ByteArray.empty,(r8.1,(r9.1,()))))))).bind fun r10 =>
 (bif (!(seq r10.1 a0)) then
 (some ((0,(0,(ByteArray.empty,(ByteArray.empty,(0,(0,())))))),(false,())))
 else
 (bif (seq a0 (⟨#[]⟩:ByteArray)) then
 (some ((0,(0,(ByteArray.empty,(ByteArray.empty,(0,(0,())))))),(false,())))
 else
 (some ((r1.1,(r2.1,(ByteArray.empty,(ByteArray.empty,(r8.1,(r9.1,())))))),(true,())))))))))))
 else
 (bif (r1.1==4) then
 ((cL.f k (ByteArray.extract a0 (Int.toNat (aH (r1.2.1+r2.2.1))) (ByteArray.size a0))).bind fun r11 =>
 ((cL.f k r11.2.1).bind fun r12 =>
 ((cD.f k (r1.1,(r2.1,(r11.1,(r12.1,(0,(0,()))))))).bind fun r13 =>
 (bif (!(seq r13.1 a0)) then
 (some ((0,(0,(ByteArray.empty,(ByteArray.empty,(0,(0,())))))),(false,())))
 else
 (bif (seq a0 (⟨#[]⟩:ByteArray)) then
 (some ((0,(0,(ByteArray.empty,(ByteArray.empty,(0,(0,())))))),(false,())))
 else
 (some ((r1.1,(r2.1,(r11.1,(r12.1,(0,(0,())))))),(true,()))))))))
 else
 (bif (r1.1==2) then
 ((cL.f k (ByteArray.extract a0 (Int.toNat (aH (r1.2.1+r2.2.1))) (ByteArray.size a0))).bind fun r14 =>
 ((cD.f k (r1.1,(r2.1,(r14.1,(ByteArray.empty,(0,(0,()))))))).bind fun r15 =>
 (bif (!(seq r15.1 a0)) then
 (some ((0,(0,(ByteArray.empty,(ByteArray.empty,(0,(0,())))))),(false,())))
 else
 (bif (seq a0 (⟨#[]⟩:ByteArray)) then
 (some ((0,(0,(ByteArray.empty,(ByteArray.empty,(0,(0,())))))),(false,())))
 else
 (some ((r1.1,(r2.1,(r14.1,(ByteArray.empty,(0,(0,())))))),(true,())))))))
 else
 ((ag.f k (ByteArray.extract a0 (Int.toNat (aH (r1.2.1+r2.2.1))) (ByteArray.size a0))).bind fun r16 =>
 (nR r16.2.1 (ByteArray.size (ByteArray.extract a0 (Int.toNat (aH (r1.2.1+r2.2.1))) (ByteArray.size a0)):Int)
 ((bZ.f k (ByteArray.extract (ByteArray.extract a0 (Int.toNat (aH (r1.2.1+r2.2.1))) (ByteArray.size a0)) (Int.toNat r16.2.1) (ByteArray.size (ByteArray.extract a0 (Int.toNat (aH (r1.2.1+r2.2.1))) (ByteArray.size a0)))) 4).bind fun r17 =>
 ((cD.f k (r1.1,(r2.1,(ByteArray.empty,(ByteArray.empty,(r16.1,(r17.1,()))))))).bind fun r18 =>
 (bif (!(seq r18.1 a0)) then
 (some ((0,(0,(ByteArray.empty,(ByteArray.empty,(0,(0,())))))),(false,())))
 else
 (bif (seq a0 (⟨#[]⟩:ByteArray)) then
 (some ((0,(0,(ByteArray.empty,(ByteArray.empty,(0,(0,())))))),(false,())))
 else
 (some ((r1.1,(r2.1,(ByteArray.empty,(ByteArray.empty,(r16.1,(r17.1,())))))),(true,()))))))))))))))))))
def f (k:Nat):=t k
end dl
namespace bX
abbrev Rs:Type:=Option ((List (Ty.d cA)) × Int × Unit)
abbrev T0:Type:=ByteArray→Int→List (Ty.d cA)→Rs
def b0 (k:Nat) (L0:T0):T0:=fun x0 x1 x2 =>
 (bif (decide (x1<(ByteArray.size x0:Int))) then
 (nR x1 (ByteArray.size x0:Int)
 ((dQ.f k (ByteArray.extract x0 (Int.toNat x1) (ByteArray.size x0))).bind fun r1 =>
 ((dl.f k r1.1).bind fun r2 =>
 (bif (r1.2.1==0) then
 (some (x2,(x1,())))
 else
 (bif (!r2.2.1) then
 (some (x2,(x1,())))
 else
 (rm (Ty.bytes cA) (List.length x2+1)
 (L0 x0 (aH (x1+r1.2.1)) (x2++[(x1,(r1.2.1,(r2.1,())))]))))))))
 else
 (some (x2,(x1,()))))
def l0 (k:Nat):Nat→T0
 | 0=>fun _ _ _=>none
 | n+1=>b0 k (l0 k n)
def t (k:Nat) (L0:T0) (a0:ByteArray):Rs :=
 (L0 a0 0 [])
def f (k:Nat):=t k (l0 k k)
end bX
namespace i_
abbrev Rs:Type:=Option ((Ty.d aA) × Int × Unit)
def t (k:Nat) (a0:Ty.d aA) (a1:ByteArray) (a2:Int):Rs :=
 ((d5.f k a0).bind fun r1 =>
 (bif (r1.2.1 != 0) then
 (some r1)
 else
 ((bE.f k a0 a1).bind fun r2 =>
 (bif (decide (r2.1<0)) then
 (some (r1.1,(3,())))
 else
 (bF r2.1 (List.length a0.1:Int)
 ((aN.f k a2 0 (ByteArray.size (List.getD a0.1 (Int.toNat r2.1) (Ty.z aK)).2.1:Int)).bind fun r3 =>
 (bif (!r3.1) then
 (some (r1.1,(5,())))
 else
 (bF r2.1 (List.length a0.1:Int)
 (nR a2 (ByteArray.size (List.getD a0.1 (Int.toNat r2.1) (Ty.z aK)).2.1:Int)
 (bF r2.1 (List.length r1.1.1:Int)
 (let l4:=(List.set r1.1.1 (Int.toNat r2.1) ((List.getD r1.1.1 (Int.toNat r2.1) (Ty.z aK)).1,((ByteArray.extract (List.getD a0.1 (Int.toNat r2.1) (Ty.z aK)).2.1 0 (Int.toNat a2)),(List.getD r1.1.1 (Int.toNat r2.1) (Ty.z aK)).2.2)));
 (bF r2.1 (List.length a0.1:Int)
 (bF r2.1 (List.length l4:Int)
 (let l5:=(List.set l4 (Int.toNat r2.1) ((List.getD l4 (Int.toNat r2.1) (Ty.z aK)).1,((List.getD l4 (Int.toNat r2.1) (Ty.z aK)).2.1,((if a2<(List.getD a0.1 (Int.toNat r2.1) (Ty.z aK)).2.2.1 then a2 else (List.getD a0.1 (Int.toNat r2.1) (Ty.z aK)).2.2.1),(List.getD l4 (Int.toNat r2.1) (Ty.z aK)).2.2.2))));
 (some ((l5,r1.1.2),(0,())))))))))))))))))
def f (k:Nat):=t k
end i_
namespace bg
abbrev Rs:Type:=Option ((List Int) × Int × Unit)
abbrev T0:Type:=ByteArray→Int→Int→Int→List Int→Rs
def b0 (k:Nat) (L0:T0):T0:=fun x0 x1 x2 x3 x4 =>
 (bif (decide (x3<x2)) then
 (nR x1 (ByteArray.size x0:Int)
 ((ag.f k (ByteArray.extract x0 (Int.toNat x1) (ByteArray.size x0))).bind fun r1 =>
 (bif (r1.2.1==0) then
 (vP (Ty.bytes (.int .i64)) x2
 (some ((List.replicate (Int.toNat x2) (Ty.z (.int .i64))),((-1),()))))
 else
 (rm (Ty.bytes (.int .i64)) (List.length x4+1)
 (L0 x0 (aH (x1+r1.2.1)) x2 (aH (x3+1)) (x4++[r1.1]))))))
 else
 (some (x4,(x1,()))))
def l0 (k:Nat):Nat→T0
 | 0=>fun _ _ _ _ _=>none
 | n+1=>b0 k (l0 k n)
def t (k:Nat) (L0:T0) (a0:ByteArray) (a1:Int) (a2:Int):Rs :=
 (L0 a0 a1 a2 0 [])
def f (k:Nat):=t k (l0 k k)
end bg
namespace eh
abbrev Rs:Type:=Option (Bool × Unit)
abbrev T0:Type:=List (Ty.d aB)→Int→Rs
def b0 (k:Nat) (L0:T0):T0:=fun x0 x1 =>
 (bif (decide (x1<(x0.length:Int))) then
 (bF x1 (x0.length:Int)
 ((cm.f k (List.getD x0 (Int.toNat x1) (Ty.z aB)).1).bind fun r1 =>
 (bif (!r1.1) then
 (some (false,()))
 else
 ((aN.f k (List.getD x0 (Int.toNat x1) (Ty.z aB)).2.1 1 100000).bind fun r2 =>
 (bif (!r2.1) then
 (some (false,()))
 else
 (bif (decide ((List.getD x0 (Int.toNat x1) (Ty.z aB)).2.2.1<0)) then
 (some (false,()))
 else
 ((aN.f k (List.getD x0 (Int.toNat x1) (Ty.z aB)).2.2.2.1 1 210).bind fun r3 =>
 (bif (!r3.1) then
 (some (false,()))
 else
 ((aN.f k (List.getD x0 (Int.toNat x1) (Ty.z aB)).2.2.2.2.1 1 1000000).bind fun r4 =>
 (bif (!r4.1) then
 (some (false,()))
 else
 (bif (decide (x1 > 0)) then
 (bF (aH (x1-1)) (x0.length:Int)
 (bif ((mw (List.getD x0 (Int.toNat x1) (Ty.z aB)).1 (List.getD x0 (Int.toNat (aH (x1-1))) (Ty.z aB)).1)||(seq (List.getD x0 (Int.toNat x1) (Ty.z aB)).1 (List.getD x0 (Int.toNat (aH (x1-1))) (Ty.z aB)).1)) then
 (some (false,()))
 else
 (L0 x0 (aH (x1+1)))))
 else
 (L0 x0 (aH (x1+1))))))))))))))
 else
 (some (true,())))
def l0 (k:Nat):Nat→T0
 | 0=>fun _ _=>none
 | n+1=>b0 k (l0 k n)
def t (k:Nat) (L0:T0) (a0:List (Ty.d aB)):Rs :=
 (bif (decide ((List.length a0:Int) > 20)) then
 (some (false,()))
 else
 (L0 a0 0))
def f (k:Nat):=t k (l0 k k)
end eh
namespace gR
abbrev Rs:Type:=Option (Bool × Unit)
abbrev T0:Type:=Int→Int→Int→List (Ty.d aB)→Rs
def b0 (k:Nat) (L0:T0):T0:=fun x0 x1 x2 x3 =>
 (bif (decide (x0<(x3.length:Int))) then
 (bF x0 (x3.length:Int)
 (bF 0 (x3.length:Int)
 (bif ((List.getD x3 (Int.toNat x0) (Ty.z aB)).2.1 != (List.getD x3 0 (Ty.z aB)).2.1) then
 (some (false,()))
 else
 (bF x0 (x3.length:Int)
 (bif (decide ((List.getD x3 (Int.toNat x0) (Ty.z aB)).2.2.1 > 100000)) then
 (some (false,()))
 else
 (L0 (aH (x0+1)) x1 x2 x3))))))
 else
 (some (true,())))
def l0 (k:Nat):Nat→T0
 | 0=>fun _ _ _ _=>none
 | n+1=>b0 k (l0 k n)
def t (k:Nat) (L0:T0) (a0:Ty.d gZ):Rs :=
 ((aN.f k a0.1 0 100000).bind fun r1 =>
 (bif (!r1.1) then
 (some (false,()))
 else
 ((aN.f k a0.2.1 0 1000000).bind fun r2 =>
 (bif (!r2.1) then
 (some (false,()))
 else
 ((eh.f k a0.2.2.1).bind fun r3 =>
 (bif (!r3.1) then
 (some (false,()))
 else
 (L0 0 a0.1 a0.2.1 a0.2.2.1)))))))
def f (k:Nat):=t k (l0 k k)
end gR
namespace dL
abbrev Rs:Type:=Option (ByteArray × Unit)
abbrev T0:Type:=ByteArray→Int→Int→Int→List (Ty.d aB)→Rs
def b0 (k:Nat) (L0:T0):T0:=fun x0 x1 x2 x3 x4 =>
 (bif (decide (x1<(x4.length:Int))) then
 (bF x1 (x4.length:Int)
 ((bY.f k (ByteArray.size (List.getD x4 (Int.toNat x1) (Ty.z aB)).1:Int)).bind fun r5 =>
 (kW x0 r5.1
 (kW (x0++r5.1) (List.getD x4 (Int.toNat x1) (Ty.z aB)).1
 ((bY.f k (List.getD x4 (Int.toNat x1) (Ty.z aB)).2.1).bind fun r6 =>
 (kW ((x0++r5.1)++(List.getD x4 (Int.toNat x1) (Ty.z aB)).1) r6.1
 ((bY.f k (List.getD x4 (Int.toNat x1) (Ty.z aB)).2.2.1).bind fun r7 =>
 (kW (((x0++r5.1)++(List.getD x4 (Int.toNat x1) (Ty.z aB)).1)++r6.1) r7.1
 ((bY.f k (List.getD x4 (Int.toNat x1) (Ty.z aB)).2.2.2.1).bind fun r8 =>
 (kW ((((x0++r5.1)++(List.getD x4 (Int.toNat x1) (Ty.z aB)).1)++r6.1)++r7.1) r8.1
 ((bY.f k (List.getD x4 (Int.toNat x1) (Ty.z aB)).2.2.2.2.1).bind fun r9 =>
 (kW (((((x0++r5.1)++(List.getD x4 (Int.toNat x1) (Ty.z aB)).1)++r6.1)++r7.1)++r8.1) r9.1
 (L0 ((((((x0++r5.1)++(List.getD x4 (Int.toNat x1) (Ty.z aB)).1)++r6.1)++r7.1)++r8.1)++r9.1) (aH (x1+1)) x2 x3 x4)))))))))))))
 else
 ((fk.f k x0).bind fun r10 =>
 ((dM.f k r10.1 4).bind fun r11 =>
 (kW r11.1 x0
 (some ((r11.1++x0),()))))))
def l0 (k:Nat):Nat→T0
 | 0=>fun _ _ _ _ _=>none
 | n+1=>b0 k (l0 k n)
def t (k:Nat) (L0:T0) (a0:Ty.d gZ):Rs :=
 ((gR.f k a0).bind fun r1 =>
 (bif (!r1.1) then
 (some ((⟨#[]⟩:ByteArray),()))
 else
 ((bY.f k a0.1).bind fun r2 =>
 ((bY.f k a0.2.1).bind fun r3 =>
 (kW r2.1 r3.1
 ((bY.f k (List.length a0.2.2.1:Int)).bind fun r4 =>
 (kW (r2.1++r3.1) r4.1
 (L0 ((r2.1++r3.1)++r4.1) 0 a0.1 a0.2.1 a0.2.2.1))))))))
def f (k:Nat):=t k (l0 k k)
end dL
namespace bL
abbrev Rs:Type:=Option ((Ty.d gZ) × Bool × Unit)
abbrev T0:Type:=ByteArray→Int→Int→List (Ty.d aB)→Int→Int→List Int→List (Ty.d aB)→Int→Int→Rs
def b0 (k:Nat) (L0:T0):T0:=fun x0 x1 x2 x3 x4 x5 x6 x7 x8 x9 =>
 (bF 2 (x6.length:Int)
 (bif (decide (x2<(List.getD x6 2 (Ty.z (.int .i64))))) then
 (nR x1 (ByteArray.size x0:Int)
 ((cL.f k (ByteArray.extract x0 (Int.toNat x1) (ByteArray.size x0))).bind fun r2 =>
 ((bg.f k r2.2.1 0 4).bind fun r3 =>
 (bif (!r2.2.2.1) then
 (some ((0,(0,([],()))),(false,())))
 else
 (bif (decide (r3.2.1<0)) then
 (some ((0,(0,([],()))),(false,())))
 else
 (bF 0 (List.length r3.1:Int)
 (bF 1 (List.length r3.1:Int)
 (bF 2 (List.length r3.1:Int)
 (bF 3 (List.length r3.1:Int)
 (rm (Ty.bytes aB) (List.length x7+1)
 (L0 x0 (aH ((aH ((ByteArray.size x0:Int)-(ByteArray.size r2.2.1:Int)))+r3.2.1)) (aH (x2+1)) x3 x4 x5 x6 (x7++[(r2.1,((List.getD r3.1 0 (Ty.z (.int .i64))),((List.getD r3.1 1 (Ty.z (.int .i64))),((List.getD r3.1 2 (Ty.z (.int .i64))),((List.getD r3.1 3 (Ty.z (.int .i64))),())))))]) x8 x9)))))))))))
 else
 ((dL.f k (x8,(x9,(x7,())))).bind fun r4 =>
 (bif (!(seq r4.1 x0)) then
 (some ((0,(0,([],()))),(false,())))
 else
 (some ((x8,(x9,(x7,()))),(true,())))))))
def l0 (k:Nat):Nat→T0
 | 0=>fun _ _ _ _ _ _ _ _ _ _=>none
 | n+1=>b0 k (l0 k n)
def t (k:Nat) (L0:T0) (a0:ByteArray):Rs :=
 (bif (decide ((ByteArray.size a0:Int)<4)) then
 (some ((0,(0,([],()))),(false,())))
 else
 ((bg.f k a0 4 3).bind fun r1 =>
 (bif (decide (r1.2.1<0)) then
 (some ((0,(0,([],()))),(false,())))
 else
 (bF 2 (List.length r1.1:Int)
 (bif (decide ((List.getD r1.1 2 (Ty.z (.int .i64))) > 20)) then
 (some ((0,(0,([],()))),(false,())))
 else
 (bF 0 (List.length r1.1:Int)
 (bF 1 (List.length r1.1:Int)
 (L0 a0 r1.2.1 0 [] 0 0 r1.1 [] (List.getD r1.1 0 (Ty.z (.int .i64))) (List.getD r1.1 1 (Ty.z (.int .i64)))))))))))
def f (k:Nat):=t k (l0 k k)
end bL
namespace ff
abbrev Rs:Type:=Option (Int × Unit)
abbrev T0:Type:=List (Ty.d bB)→ByteArray→Int→Rs
def b0 (k:Nat) (L0:T0):T0:=fun x0 x1 x2 =>
 (bif (decide (x2<(x0.length:Int))) then
 (bF x2 (x0.length:Int)
 ((cD.f k (List.getD x0 (Int.toNat x2) (Ty.z bB))).bind fun r1 =>
 (kW x1 r1.1
 (L0 x0 (x1++r1.1) (aH (x2+1))))))
 else
 ((fk.f k x1).bind fun r2 =>
 (some r2)))
def l0 (k:Nat):Nat→T0
 | 0=>fun _ _ _=>none
 | n+1=>b0 k (l0 k n)
def t (k:Nat) (L0:T0) (a0:List (Ty.d bB)):Rs :=
 (L0 a0 (⟨#[]⟩:ByteArray) 0)
def f (k:Nat):=t k (l0 k k)
end ff
namespace dW
abbrev Rs:Type:=Option ((Ty.d gZ) × Bool × Unit)
abbrev T0:Type:=Int→Int→List (Ty.d aB)→Int→Int→List (Ty.d cA)→List (Ty.d aB)→Int→Int→List (Ty.d bB)→Rs
def b0 (k:Nat) (L0:T0):T0:=fun x0 x1 x2 x3 x4 x5 x6 x7 x8 x9 =>
 (bif (decide ((aH (x1+1))<(x5.length:Int))) then
 (bF x1 (x5.length:Int)
 (bif ((List.getD x5 (Int.toNat x1) (Ty.z cA)).2.2.1.1 != 4) then
 (some ((0,(0,([],()))),(false,())))
 else
 (bif (decide ((List.getD x5 (Int.toNat x1) (Ty.z cA)).2.2.1.2.1 > x8)) then
 (some ((0,(0,([],()))),(false,())))
 else
 (bif (decide (x1 > 0)) then
 (bF (aH (x1-1)) (x5.length:Int)
 (bif ((mw (List.getD x5 (Int.toNat x1) (Ty.z cA)).2.2.1.2.2.1 (List.getD x5 (Int.toNat (aH (x1-1))) (Ty.z cA)).2.2.1.2.2.1)||(seq (List.getD x5 (Int.toNat x1) (Ty.z cA)).2.2.1.2.2.1 (List.getD x5 (Int.toNat (aH (x1-1))) (Ty.z cA)).2.2.1.2.2.1)) then
 (some ((0,(0,([],()))),(false,())))
 else
 (rm (Ty.bytes bB) (List.length x9+1)
 (bF x1 (x5.length:Int)
 (bF x1 (x5.length:Int)
 (rm (Ty.bytes aB) (List.length x6+1)
 (L0 x0 (aH (x1+1)) x2 x3 x4 x5 (x6++[((List.getD x5 (Int.toNat x1) (Ty.z cA)).2.2.1.2.2.1,(x0,((List.getD x5 (Int.toNat x1) (Ty.z cA)).1,((List.getD x5 (Int.toNat x1) (Ty.z cA)).2.1,((List.getD x5 (Int.toNat x1) (Ty.z cA)).2.2.1.2.1,())))))]) x7 x8 (x9++[(List.getD x5 (Int.toNat x1) (Ty.z cA)).2.2.1]))))))))
 else
 (rm (Ty.bytes bB) (List.length x9+1)
 (bF x1 (x5.length:Int)
 (bF x1 (x5.length:Int)
 (rm (Ty.bytes aB) (List.length x6+1)
 (L0 x0 (aH (x1+1)) x2 x3 x4 x5 (x6++[((List.getD x5 (Int.toNat x1) (Ty.z cA)).2.2.1.2.2.1,(x0,((List.getD x5 (Int.toNat x1) (Ty.z cA)).1,((List.getD x5 (Int.toNat x1) (Ty.z cA)).2.1,((List.getD x5 (Int.toNat x1) (Ty.z cA)).2.2.1.2.1,())))))]) x7 x8 (x9++[(List.getD x5 (Int.toNat x1) (Ty.z cA)).2.2.1]))))))))))
 else
 (bF (aH ((x5.length:Int)-1)) (x5.length:Int)
 (bif ((List.getD x5 (Int.toNat (aH ((x5.length:Int)-1))) (Ty.z cA)).2.2.1.2.2.2.2.1 != (x9.length:Int)) then
 (some ((0,(0,([],()))),(false,())))
 else
 ((ff.f k x9).bind fun r3 =>
 (bif ((List.getD x5 (Int.toNat (aH ((x5.length:Int)-1))) (Ty.z cA)).2.2.1.2.2.2.2.2.1 != r3.1) then
 (some ((0,(0,([],()))),(false,())))
 else
 (some ((x7,(x8,(x6,()))),(true,()))))))))
def l0 (k:Nat):Nat→T0
 | 0=>fun _ _ _ _ _ _ _ _ _ _=>none
 | n+1=>b0 k (l0 k n)
def t (k:Nat) (L0:T0) (a0:Int) (a1:ByteArray):Rs :=
 ((bX.f k a1).bind fun r1 =>
 (bif (r1.2.1 != (ByteArray.size a1:Int)) then
 (some ((0,(0,([],()))),(false,())))
 else
 (bif ((List.length r1.1:Int)==0) then
 (some ((0,(0,([],()))),(false,())))
 else
 (bF (aH ((List.length r1.1:Int)-1)) (List.length r1.1:Int)
 (bif ((List.getD r1.1 (Int.toNat (aH ((List.length r1.1:Int)-1))) (Ty.z cA)).2.2.1.1 != 5) then
 (some ((0,(0,([],()))),(false,())))
 else
 ((aU.f k a0).bind fun r2 =>
 (bif (seq r2.1 (⟨#[]⟩:ByteArray)) then
 (some ((0,(0,([],()))),(false,())))
 else
 (bF (aH ((List.length r1.1:Int)-1)) (List.length r1.1:Int)
 (L0 a0 0 [] 0 0 r1.1 [] (ByteArray.size a1:Int) (List.getD r1.1 (Int.toNat (aH ((List.length r1.1:Int)-1))) (Ty.z cA)).2.2.1.2.1 [])))))))))
def f (k:Nat):=t k (l0 k k)
end dW
namespace fD
abbrev Rs:Type:=Option (Bool × Unit)
abbrev T0:Type:=List (Ty.d aB)→List (Ty.d aB)→Int→Rs
def b0 (k:Nat) (L0:T0):T0:=fun x0 x1 x2 =>
 (bif (decide (x2<(x0.length:Int))) then
 (bF x2 (x0.length:Int)
 (bF x2 (x1.length:Int)
 (bif (!((seq (List.getD x0 (Int.toNat x2) (Ty.z aB)).1 (List.getD x1 (Int.toNat x2) (Ty.z aB)).1)&&(((List.getD x0 (Int.toNat x2) (Ty.z aB)).2.1==(List.getD x1 (Int.toNat x2) (Ty.z aB)).2.1)&&(((List.getD x0 (Int.toNat x2) (Ty.z aB)).2.2.1==(List.getD x1 (Int.toNat x2) (Ty.z aB)).2.2.1)&&(((List.getD x0 (Int.toNat x2) (Ty.z aB)).2.2.2.1==(List.getD x1 (Int.toNat x2) (Ty.z aB)).2.2.2.1)&&((List.getD x0 (Int.toNat x2) (Ty.z aB)).2.2.2.2.1==(List.getD x1 (Int.toNat x2) (Ty.z aB)).2.2.2.2.1)))))) then
 (some (false,()))
 else
 (L0 x0 x1 (aH (x2+1))))))
 else
 (some (true,())))
def l0 (k:Nat):Nat→T0
 | 0=>fun _ _ _=>none
 | n+1=>b0 k (l0 k n)
def t (k:Nat) (L0:T0) (a0:List (Ty.d aB)) (a1:List (Ty.d aB)):Rs :=
 (bif ((List.length a0:Int) != (List.length a1:Int)) then
 (some (false,()))
 else
 (L0 a0 a1 0))
def f (k:Nat):=t k (l0 k k)
end fD
namespace gS
abbrev Rs:Type:=Option (Bool × Unit)
def t (k:Nat) (a0:Int) (a1:ByteArray) (a2:Ty.d gZ):Rs :=
 ((dW.f k a0 a1).bind fun r1 =>
 (bif r1.2.1 then
 (bif (r1.1.1==a2.1) then
 (bif (r1.1.2.1==a2.2.1) then
 ((fD.f k r1.1.2.2.1 a2.2.2.1).bind fun r2 =>
 (some r2))
 else
 (some (false,())))
 else
 (some (false,())))
 else
 (some (false,()))))
def f (k:Nat):=t k
end gS
namespace ba
abbrev Rs:Type:=Option ((List (Ty.d aC)) × Unit)
abbrev T0:Type:=Int→Int→List (Ty.d aC)→List (Ty.d cA)→Rs
def b0 (k:Nat) (L0:T0):T0:=fun x0 x1 x2 x3 =>
 (bif (decide (x1<(x3.length:Int))) then
 (bF x1 (x3.length:Int)
 (bF x1 (x3.length:Int)
 (bF x1 (x3.length:Int)
 (rm (Ty.bytes aC) (List.length x2+1)
 (L0 x0 (aH (x1+1)) (x2++[(x0,((List.getD x3 (Int.toNat x1) (Ty.z cA)).1,((List.getD x3 (Int.toNat x1) (Ty.z cA)).2.1,(List.getD x3 (Int.toNat x1) (Ty.z cA)).2.2)))]) x3)))))
 else
 (some (x2,())))
def l0 (k:Nat):Nat→T0
 | 0=>fun _ _ _ _=>none
 | n+1=>b0 k (l0 k n)
def t (k:Nat) (L0:T0) (a0:Int) (a1:ByteArray):Rs :=
 ((bX.f k a1).bind fun r1 =>
 (L0 a0 0 [] r1.1))
def f (k:Nat):=t k (l0 k k)
end ba
namespace iJ
abbrev Rs:Type:=Option ((List (Ty.d aC)) × Unit)
abbrev T0:Type:=List (Ty.d aC)→Int→Int→Int→List (Ty.d aC)→Rs
def b0 (k:Nat) (L0:T0):T0:=fun x0 x1 x2 x3 x4 =>
 (bif (decide (x3<x1)) then
 (bF x3 (x0.length:Int)
 (bif ((List.getD x0 (Int.toNat x3) (Ty.z aC)).2.2.2.1.2.1==x2) then
 (bif ((List.getD x0 (Int.toNat x3) (Ty.z aC)).2.2.2.1.1==3) then
 (bif ((List.getD x0 (Int.toNat x3) (Ty.z aC)).2.2.2.1.2.1==x2) then
 (bif ((List.getD x0 (Int.toNat x3) (Ty.z aC)).2.2.2.1.1==1) then
 (bF x3 (x0.length:Int)
 (rm (Ty.bytes aC) (0+1)
 (L0 x0 x1 x2 (aH (x3+1)) ([]++[(List.getD x0 (Int.toNat x3) (Ty.z aC))]))))
 else
 (bif ((List.getD x0 (Int.toNat x3) (Ty.z aC)).2.2.2.1.1==2) then
 (bF x3 (x0.length:Int)
 (rm (Ty.bytes aC) (0+1)
 (L0 x0 x1 x2 (aH (x3+1)) ([]++[(List.getD x0 (Int.toNat x3) (Ty.z aC))]))))
 else
 (L0 x0 x1 x2 (aH (x3+1)) [])))
 else
 (L0 x0 x1 x2 (aH (x3+1)) []))
 else
 (bif ((List.getD x0 (Int.toNat x3) (Ty.z aC)).2.2.2.1.2.1==x2) then
 (bif ((List.getD x0 (Int.toNat x3) (Ty.z aC)).2.2.2.1.1==1) then
 (bF x3 (x0.length:Int)
 (rm (Ty.bytes aC) (List.length x4+1)
 (L0 x0 x1 x2 (aH (x3+1)) (x4++[(List.getD x0 (Int.toNat x3) (Ty.z aC))]))))
 else
 (bif ((List.getD x0 (Int.toNat x3) (Ty.z aC)).2.2.2.1.1==2) then
 (bF x3 (x0.length:Int)
 (rm (Ty.bytes aC) (List.length x4+1)
 (L0 x0 x1 x2 (aH (x3+1)) (x4++[(List.getD x0 (Int.toNat x3) (Ty.z aC))]))))
 else
 (L0 x0 x1 x2 (aH (x3+1)) x4)))
 else
 (L0 x0 x1 x2 (aH (x3+1)) x4)))
 else
 (bif ((List.getD x0 (Int.toNat x3) (Ty.z aC)).2.2.2.1.2.1==x2) then
 (bif ((List.getD x0 (Int.toNat x3) (Ty.z aC)).2.2.2.1.1==1) then
 (bF x3 (x0.length:Int)
 (rm (Ty.bytes aC) (List.length x4+1)
 (L0 x0 x1 x2 (aH (x3+1)) (x4++[(List.getD x0 (Int.toNat x3) (Ty.z aC))]))))
 else
 (bif ((List.getD x0 (Int.toNat x3) (Ty.z aC)).2.2.2.1.1==2) then
 (bF x3 (x0.length:Int)
 (rm (Ty.bytes aC) (List.length x4+1)
 (L0 x0 x1 x2 (aH (x3+1)) (x4++[(List.getD x0 (Int.toNat x3) (Ty.z aC))]))))
 else
 (L0 x0 x1 x2 (aH (x3+1)) x4)))
 else
 (L0 x0 x1 x2 (aH (x3+1)) x4))))
 else
 (some (x4,())))
def l0 (k:Nat):Nat→T0
 | 0=>fun _ _ _ _ _=>none
 | n+1=>b0 k (l0 k n)
def t (k:Nat) (L0:T0) (a0:List (Ty.d aC)) (a1:Int) (a2:Int):Rs :=
 (L0 a0 a1 a2 0 [])
def f (k:Nat):=t k (l0 k k)
end iJ
namespace fg
abbrev Rs:Type:=Option ((List (Ty.d bB)) × Unit)
abbrev T0:Type:=List (Ty.d aC)→Int→List (Ty.d bB)→Rs
def b0 (k:Nat) (L0:T0):T0:=fun x0 x1 x2 =>
 (bif (decide (x1<(x0.length:Int))) then
 (bF x1 (x0.length:Int)
 (rm (Ty.bytes bB) (List.length x2+1)
 (L0 x0 (aH (x1+1)) (x2++[(List.getD x0 (Int.toNat x1) (Ty.z aC)).2.2.2.1]))))
 else
 (some (x2,())))
def l0 (k:Nat):Nat→T0
 | 0=>fun _ _ _=>none
 | n+1=>b0 k (l0 k n)
def t (k:Nat) (L0:T0) (a0:List (Ty.d aC)):Rs :=
 (L0 a0 0 [])
def f (k:Nat):=t k (l0 k k)
end fg
namespace ij
abbrev Rs:Type:=Option (Bool × Unit)
def t (k:Nat) (a0:Ty.d bB) (a1:List (Ty.d aC)):Rs :=
 (bif (a0.2.2.2.2.1==(List.length a1:Int)) then
 ((fg.f k a1).bind fun r1 =>
 ((ff.f k r1.1).bind fun r2 =>
 (some ((a0.2.2.2.2.2.1==r2.1),()))))
 else
 (some (false,())))
def f (k:Nat):=t k
end ij
namespace cw
abbrev Rs:Type:=Option ((List (Ty.d aB)) × Unit)
abbrev T0:Type:=List (Ty.d aB)→ByteArray→Int→List (Ty.d aB)→Rs
def b0 (k:Nat) (L0:T0):T0:=fun x0 x1 x2 x3 =>
 (bif (decide (x2<(x0.length:Int))) then
 (bF x2 (x0.length:Int)
 (bif (!(seq (List.getD x0 (Int.toNat x2) (Ty.z aB)).1 x1)) then
 (bF x2 (x0.length:Int)
 (rm (Ty.bytes aB) (List.length x3+1)
 (L0 x0 x1 (aH (x2+1)) (x3++[(List.getD x0 (Int.toNat x2) (Ty.z aB))]))))
 else
 (L0 x0 x1 (aH (x2+1)) x3)))
 else
 (some (x3,())))
def l0 (k:Nat):Nat→T0
 | 0=>fun _ _ _ _=>none
 | n+1=>b0 k (l0 k n)
def t (k:Nat) (L0:T0) (a0:List (Ty.d aB)) (a1:ByteArray):Rs :=
 (L0 a0 a1 0 [])
def f (k:Nat):=t k (l0 k k)
end cw
namespace c8
abbrev Rs:Type:=Option ((List (Ty.d aB)) × Unit)
abbrev T0:Type:=List (Ty.d aB)→Bool→Int→ByteArray→Int→Int→Int→Int→List (Ty.d aB)→Rs
def b0 (k:Nat) (L0:T0):T0:=fun x0 x1 x2 x3 x4 x5 x6 x7 x8 =>
 (bif (decide (x2<(x0.length:Int))) then
 (bF x2 (x0.length:Int)
 (bif (seq (List.getD x0 (Int.toNat x2) (Ty.z aB)).1 x3) then
 (L0 x0 x1 (aH (x2+1)) x3 x4 x5 x6 x7 x8)
 else
 (bif (!x1) then
 (bF x2 (x0.length:Int)
 (bif (!((mw (List.getD x0 (Int.toNat x2) (Ty.z aB)).1 x3)||(seq (List.getD x0 (Int.toNat x2) (Ty.z aB)).1 x3))) then
 (rm (Ty.bytes aB) (List.length x8+1)
 (bF x2 (x0.length:Int)
 (rm (Ty.bytes aB) (List.length (x8++[(x3,(x4,(x5,(x6,(x7,())))))])+1)
 (L0 x0 true (aH (x2+1)) x3 x4 x5 x6 x7 ((x8++[(x3,(x4,(x5,(x6,(x7,())))))])++[(List.getD x0 (Int.toNat x2) (Ty.z aB))])))))
 else
 (bF x2 (x0.length:Int)
 (rm (Ty.bytes aB) (List.length x8+1)
 (L0 x0 x1 (aH (x2+1)) x3 x4 x5 x6 x7 (x8++[(List.getD x0 (Int.toNat x2) (Ty.z aB))]))))))
 else
 (bF x2 (x0.length:Int)
 (rm (Ty.bytes aB) (List.length x8+1)
 (L0 x0 x1 (aH (x2+1)) x3 x4 x5 x6 x7 (x8++[(List.getD x0 (Int.toNat x2) (Ty.z aB))])))))))
 else
 (bif (!x1) then
 (rm (Ty.bytes aB) (List.length x8+1)
 (some ((x8++[(x3,(x4,(x5,(x6,(x7,())))))]),())))
 else
 (some (x8,()))))
def l0 (k:Nat):Nat→T0
 | 0=>fun _ _ _ _ _ _ _ _ _=>none
 | n+1=>b0 k (l0 k n)
def t (k:Nat) (L0:T0) (a0:List (Ty.d aB)) (a1:Ty.d aB):Rs :=
 (L0 a0 false 0 a1.1 a1.2.1 a1.2.2.1 a1.2.2.2.1 a1.2.2.2.2.1 [])
def f (k:Nat):=t k (l0 k k)
end c8
namespace gw
abbrev Rs:Type:=Option ((List (Ty.d aB)) × Unit)
def t (k:Nat) (a0:List (Ty.d aB)) (a1:Ty.d aC):Rs :=
 (bif (a1.2.2.2.1.1==2) then
 ((cw.f k a0 a1.2.2.2.1.2.2.1).bind fun r1 =>
 (some r1))
 else
 ((c8.f k a0 (a1.2.2.2.1.2.2.1,(a1.1,(a1.2.1,(a1.2.2.1,(a1.2.2.2.1.2.1,())))))).bind fun r2 =>
 (some r2)))
def f (k:Nat):=t k
end gw
namespace eX
abbrev Rs:Type:=Option ((List (Ty.d aC)) × Unit)
abbrev T0:Type:=List (Ty.d aC)→Int→Int→List (Ty.d aC)→Rs
def b0 (k:Nat) (L0:T0):T0:=fun x0 x1 x2 x3 =>
 (bif (decide (x2<x1)) then
 (bF x2 (x0.length:Int)
 (bif ((List.getD x0 (Int.toNat x2) (Ty.z aC)).2.2.2.1.1==5) then
 (bF x2 (x0.length:Int)
 (bif ((List.getD x0 (Int.toNat x2) (Ty.z aC)).2.2.2.1.1==4) then
 (bF x2 (x0.length:Int)
 (rm (Ty.bytes aC) (0+1)
 (L0 x0 x1 (aH (x2+1)) ([]++[(List.getD x0 (Int.toNat x2) (Ty.z aC))]))))
 else
 (L0 x0 x1 (aH (x2+1)) [])))
 else
 (bF x2 (x0.length:Int)
 (bif ((List.getD x0 (Int.toNat x2) (Ty.z aC)).2.2.2.1.1==4) then
 (bF x2 (x0.length:Int)
 (rm (Ty.bytes aC) (List.length x3+1)
 (L0 x0 x1 (aH (x2+1)) (x3++[(List.getD x0 (Int.toNat x2) (Ty.z aC))]))))
 else
 (L0 x0 x1 (aH (x2+1)) x3)))))
 else
 (some (x3,())))
def l0 (k:Nat):Nat→T0
 | 0=>fun _ _ _ _=>none
 | n+1=>b0 k (l0 k n)
def t (k:Nat) (L0:T0) (a0:List (Ty.d aC)) (a1:Int):Rs :=
 (L0 a0 a1 0 [])
def f (k:Nat):=t k (l0 k k)
end eX
namespace cB
abbrev Rs:Type:=Option ((Ty.d fw) × Unit)
abbrev T1:Type:=List (Ty.d aC)→Int→Int→List (Ty.d aB)→Int→Int→List (Ty.d aB)→Int→Int→List (Ty.d aC)→Rs
abbrev T0:Type:=List (Ty.d aC)→Int→List (Ty.d aB)→Int→Int→List (Ty.d aB)→Int→Int→Rs
def b1 (k:Nat) (L0:T0) (L1:T1):T1:=fun x0 x1 x2 x3 x4 x5 x6 x7 x8 x9 =>
 (bif (decide (x2<(x9.length:Int))) then
 (bF x2 (x9.length:Int)
 ((gw.f k x6 (List.getD x9 (Int.toNat x2) (Ty.z aC))).bind fun r3 =>
 (L1 x0 x1 (aH (x2+1)) x3 x4 x5 r3.1 x7 x8 x9)))
 else
 (bif (decide ((x6.length:Int) > 20)) then
 (L0 x0 (aH (x1+1)) x3 x4 x5 x6 x7 2)
 else
 (L0 x0 (aH (x1+1)) x3 x4 x5 x6 x7 x8)))
def l1 (k:Nat) (L0:T0):Nat→T1
 | 0=>fun _ _ _ _ _ _ _ _ _ _=>none
 | n+1=>b1 k L0 (l1 k L0 n)
def b0 (k:Nat) (L1:T1) (L0:T0):T0:=fun x0 x1 x2 x3 x4 x5 x6 x7 =>
 (bif (decide (x1<(x0.length:Int))) then
 (bif (x7==0) then
 (bF x1 (x0.length:Int)
 (bif ((List.getD x0 (Int.toNat x1) (Ty.z aC)).2.2.2.1.1==3) then
 ((iJ.f k x0 x1 (List.getD x0 (Int.toNat x1) (Ty.z aC)).2.2.2.1.2.1).bind fun r1 =>
 ((ij.f k (List.getD x0 (Int.toNat x1) (Ty.z aC)).2.2.2.1 r1.1).bind fun r2 =>
 (bif (!r2.1) then
 (L0 x0 (aH (x1+1)) x2 x3 x4 x5 (if (List.getD x0 (Int.toNat x1) (Ty.z aC)).2.2.2.1.2.1 > x6 then (List.getD x0 (Int.toNat x1) (Ty.z aC)).2.2.2.1.2.1 else x6) x7)
 else
 (L1 x0 x1 0 x2 x3 x4 x5 (if (List.getD x0 (Int.toNat x1) (Ty.z aC)).2.2.2.1.2.1 > x6 then (List.getD x0 (Int.toNat x1) (Ty.z aC)).2.2.2.1.2.1 else x6) x7 r1.1))))
 else
 (bif ((List.getD x0 (Int.toNat x1) (Ty.z aC)).2.2.2.1.1==5) then
 ((eX.f k x0 x1).bind fun r4 =>
 ((ij.f k (List.getD x0 (Int.toNat x1) (Ty.z aC)).2.2.2.1 r4.1).bind fun r5 =>
 (bif (!r5.1) then
 (L0 x0 (aH (x1+1)) x2 x3 x4 x5 (if (List.getD x0 (Int.toNat x1) (Ty.z aC)).2.2.2.1.2.1 > x6 then (List.getD x0 (Int.toNat x1) (Ty.z aC)).2.2.2.1.2.1 else x6) 1)
 else
 (L1 x0 x1 0 x2 x3 x4 x5 (if (List.getD x0 (Int.toNat x1) (Ty.z aC)).2.2.2.1.2.1 > x6 then (List.getD x0 (Int.toNat x1) (Ty.z aC)).2.2.2.1.2.1 else x6) x7 r4.1))))
 else
 (L0 x0 (aH (x1+1)) x2 x3 x4 x5 (if (List.getD x0 (Int.toNat x1) (Ty.z aC)).2.2.2.1.2.1 > x6 then (List.getD x0 (Int.toNat x1) (Ty.z aC)).2.2.2.1.2.1 else x6) x7))))
 else
 (bif (x7==0) then
 ((eX.f k x0 (x0.length:Int)).bind fun r6 =>
 (bif (decide ((List.length r6.1:Int) > 0)) then
 (some ((x5,(x6,(1,()))),()))
 else
 (some ((x5,(x6,(x7,()))),()))))
 else
 (some ((x5,(x6,(x7,()))),()))))
 else
 (bif (x7==0) then
 ((eX.f k x0 (x0.length:Int)).bind fun r7 =>
 (bif (decide ((List.length r7.1:Int) > 0)) then
 (some ((x5,(x6,(1,()))),()))
 else
 (some ((x5,(x6,(x7,()))),()))))
 else
 (some ((x5,(x6,(x7,()))),()))))
def l0 (k:Nat):Nat→T0
 | 0=>fun _ _ _ _ _ _ _ _=>none
 | n+1=>b0 k (l1 k (l0 k n) k) (l0 k n)
def t (k:Nat) (L0:T0) (a0:Ty.d fw) (a1:List (Ty.d aC)):Rs :=
 (rm (Ty.bytes aB) (0+List.length a0.1)
 (L0 a1 0 [] 0 0 ([]++a0.1) a0.2.1 a0.2.2.1))
def f (k:Nat):=t k (l0 k k)
end cB
namespace bo
abbrev Rs:Type:=Option ((Ty.d aA) × Int × Unit)
abbrev T0:Type:=Int→List (Ty.d aK)→Int→Int→Bool→List (Ty.d aK)→Int→Int→Bool→List ByteArray→Rs
def b0 (k:Nat) (L0:T0):T0:=fun x0 x1 x2 x3 x4 x5 x6 x7 x8 x9 =>
 (bif (decide (x0<(x9.length:Int))) then
 (bF x0 (x9.length:Int)
 ((gD.f k (x1,(x2,(x3,(x4,())))) (List.getD x9 (Int.toNat x0) (Ty.z .str))).bind fun r2 =>
 (bif (r2.2.1 != 0) then
 ((aW.f k r2.2.1).bind fun r3 =>
 (some (r2.1,r3)))
 else
 (L0 (aH (x0+1)) r2.1.1 r2.1.2.1 r2.1.2.2.1 r2.1.2.2.2.1 x5 x6 x7 x8 x9))))
 else
 (some ((x1,(x2,(x3,(x4,())))),(0,()))))
def l0 (k:Nat):Nat→T0
 | 0=>fun _ _ _ _ _ _ _ _ _ _=>none
 | n+1=>b0 k (l0 k n)
def t (k:Nat) (L0:T0) (a0:Ty.d aA) (a1:Ty.d cZ):Rs :=
 ((bR.f k a0 a1).bind fun r1 =>
 (L0 0 a0.1 a0.2.1 a0.2.2.1 a0.2.2.2.1 [] 0 0 false r1.1))
def f (k:Nat):=t k (l0 k k)
end bo
namespace gE
abbrev Rs:Type:=Option ((Ty.d aE) × (Ty.d aA) × Int × Unit)
def t (k:Nat) (a0:Ty.d aA):Rs :=
 ((bo.f k a0 (0,([],()))).bind fun r1 =>
 (bif (r1.2.1 != 0) then
 (some (((0,([],())),([],(0,(0,(0,()))))),r1))
 else
 ((aU.f k 1).bind fun r2 =>
 ((gi.f k r1.1 r2.1).bind fun r3 =>
 (bif (r3.2.1 != 0) then
 ((aW.f k r3.2.1).bind fun r4 =>
 (some (((0,([],())),([],(0,(0,(0,()))))),(r3.1,r4))))
 else
 ((eG.f k r3.1 (2,([1],()))).bind fun r5 =>
 (bif (r5.2.1 != 0) then
 (some (((0,([],())),([],(0,(0,(0,()))))),r5))
 else
 (some (((2,([1],())),([],(1,(0,(0,()))))),(r5.1,(0,())))))))))))
def f (k:Nat):=t k
end gE
namespace b7
abbrev Rs:Type:=Option ((Ty.d aE) × (Ty.d aA) × Int × Unit)
abbrev T1:Type:=Int→List Int→List (Ty.d aB)→Int→Int→Int→Int→List (Ty.d aK)→Int→Int→Bool→List Int→List (Ty.d aB)→Int→Int→Int→Int→List Int→Int→List (Ty.d aK)→Int→Int→Bool→List (Ty.d aB)→Int→Int→Int→Int→List (Ty.d aB)→Int→Int→List (Ty.d aC)→Rs
abbrev T2:Type:=Int→List Int→List (Ty.d aB)→Int→Int→Int→Int→List (Ty.d aK)→Int→Int→Bool→List Int→List (Ty.d aB)→Int→Int→Int→Int→List Int→Int→List (Ty.d aK)→Int→Int→Bool→List (Ty.d aB)→Int→Int→Int→Int→List (Ty.d aB)→Int→Int→List (Ty.d aC)→Rs
abbrev T0:Type:=Int→Int→List (Ty.d aK)→Int→Int→Bool→List Int→List (Ty.d aB)→Int→Int→Int→Int→List (Ty.d aK)→Int→Int→Bool→List Int→List (Ty.d aB)→Int→Int→Int→Int→List Int→Int→Rs
def b1 (k:Nat) (L1:T1):T1:=fun x0 x1 x2 x3 x4 x5 x6 x7 x8 x9 x10 x11 x12 x13 x14 x15 x16 x17 x18 x19 x20 x21 x22 x23 x24 x25 x26 x27 x28 x29 x30 x31 =>
 (bif (decide (x0<(x17.length:Int))) then
 (bF x0 (x17.length:Int)
 ((aU.f k (List.getD x17 (Int.toNat x0) (Ty.z (.int .i64)))).bind fun r23 =>
 ((bK.f k (x19,(x20,(x21,(x22,())))) r23.1).bind fun r24 =>
 (bF x0 (x17.length:Int)
 ((cj.f k (List.getD x17 (Int.toNat x0) (Ty.z (.int .i64)))).bind fun r25 =>
 ((bK.f k (x19,(x20,(x21,(x22,())))) r25.1).bind fun r26 =>
 ((bL.f k r26.1).bind fun r27 =>
 (bif (x0==0) then
 (bif r26.2.1 then
 (bif r27.2.1 then
 (bF 0 (x17.length:Int)
 ((gS.f k (List.getD x17 0 (Ty.z (.int .i64))) r24.1 r27.1).bind fun r28 =>
 (bif r28.1 then
 (bF 0 (x17.length:Int)
 (L1 (aH (x0+1)) x1 x2 x3 x4 x5 x6 x7 x8 x9 x10 x11 x12 x13 x14 x15 x16 x17 x18 x19 x20 x21 x22 x23 x24 x25 x26 (List.getD x17 0 (Ty.z (.int .i64))) r27.1.2.2.1 r27.1.2.1 x30 x31))
 else
 (bF x0 (x17.length:Int)
 ((ba.f k (List.getD x17 (Int.toNat x0) (Ty.z (.int .i64))) r24.1).bind fun r29 =>
 (rm (Ty.bytes aC) (List.length x31+List.length r29.1)
 (L1 (aH (x0+1)) x1 x2 x3 x4 x5 x6 x7 x8 x9 x10 x11 x12 x13 x14 x15 x16 x17 x18 x19 x20 x21 x22 x23 x24 x25 x26 x27 x28 x29 x30 (x31++r29.1))))))))
 else
 (bF x0 (x17.length:Int)
 ((ba.f k (List.getD x17 (Int.toNat x0) (Ty.z (.int .i64))) r24.1).bind fun r30 =>
 (rm (Ty.bytes aC) (List.length x31+List.length r30.1)
 (L1 (aH (x0+1)) x1 x2 x3 x4 x5 x6 x7 x8 x9 x10 x11 x12 x13 x14 x15 x16 x17 x18 x19 x20 x21 x22 x23 x24 x25 x26 x27 x28 x29 x30 (x31++r30.1))))))
 else
 (bF x0 (x17.length:Int)
 ((ba.f k (List.getD x17 (Int.toNat x0) (Ty.z (.int .i64))) r24.1).bind fun r31 =>
 (rm (Ty.bytes aC) (List.length x31+List.length r31.1)
 (L1 (aH (x0+1)) x1 x2 x3 x4 x5 x6 x7 x8 x9 x10 x11 x12 x13 x14 x15 x16 x17 x18 x19 x20 x21 x22 x23 x24 x25 x26 x27 x28 x29 x30 (x31++r31.1))))))
 else
 (bF x0 (x17.length:Int)
 ((ba.f k (List.getD x17 (Int.toNat x0) (Ty.z (.int .i64))) r24.1).bind fun r32 =>
 (rm (Ty.bytes aC) (List.length x31+List.length r32.1)
 (L1 (aH (x0+1)) x1 x2 x3 x4 x5 x6 x7 x8 x9 x10 x11 x12 x13 x14 x15 x16 x17 x18 x19 x20 x21 x22 x23 x24 x25 x26 x27 x28 x29 x30 (x31++r32.1)))))))))))))
 else
 ((cB.f k (x28,(x29,(x30,()))) x31).bind fun r33 =>
 (bif (r33.1.2.2.1 != 0) then
 (some (((x13,(x11,())),(x12,(x14,(x15,(x16,()))))),((x19,(x20,(x21,(x22,())))),(3,()))))
 else
 ((bo.f k (x19,(x20,(x21,(x22,())))) (x18,(x17,()))).bind fun r34 =>
 (bif (r34.2.1 != 0) then
 (some (((x13,(x11,())),(x12,(x14,(x15,(x16,()))))),r34))
 else
 (some (((x24,(x17,())),(r33.1.1,((aH (r33.1.2.1+1)),(x26,(x27,()))))),(r34.1,(0,())))))))))
def l1 (k:Nat):Nat→T1
 | 0=>fun _ _ _ _ _ _ _ _ _ _ _ _ _ _ _ _ _ _ _ _ _ _ _ _ _ _ _ _ _ _ _ _=>none
 | n+1=>b1 k (l1 k n)
def b2 (k:Nat) (L2:T2):T2:=fun x0 x1 x2 x3 x4 x5 x6 x7 x8 x9 x10 x11 x12 x13 x14 x15 x16 x17 x18 x19 x20 x21 x22 x23 x24 x25 x26 x27 x28 x29 x30 x31 =>
 (bif (decide (x0<(x17.length:Int))) then
 (bF x0 (x17.length:Int)
 ((aU.f k (List.getD x17 (Int.toNat x0) (Ty.z (.int .i64)))).bind fun r38 =>
 ((bK.f k (x19,(x20,(x21,(x22,())))) r38.1).bind fun r39 =>
 (bF x0 (x17.length:Int)
 ((cj.f k (List.getD x17 (Int.toNat x0) (Ty.z (.int .i64)))).bind fun r40 =>
 ((bK.f k (x19,(x20,(x21,(x22,())))) r40.1).bind fun r41 =>
 ((bL.f k r41.1).bind fun r42 =>
 (bif (x0==0) then
 (bif r41.2.1 then
 (bif r42.2.1 then
 (bF 0 (x17.length:Int)
 ((gS.f k (List.getD x17 0 (Ty.z (.int .i64))) r39.1 r42.1).bind fun r43 =>
 (bif r43.1 then
 (bF 0 (x17.length:Int)
 (L2 (aH (x0+1)) x1 x2 x3 x4 x5 x6 x7 x8 x9 x10 x11 x12 x13 x14 x15 x16 x17 x18 x19 x20 x21 x22 x23 x24 x25 x26 (List.getD x17 0 (Ty.z (.int .i64))) r42.1.2.2.1 r42.1.2.1 x30 x31))
 else
 (bF x0 (x17.length:Int)
 ((ba.f k (List.getD x17 (Int.toNat x0) (Ty.z (.int .i64))) r39.1).bind fun r44 =>
 (rm (Ty.bytes aC) (List.length x31+List.length r44.1)
 (L2 (aH (x0+1)) x1 x2 x3 x4 x5 x6 x7 x8 x9 x10 x11 x12 x13 x14 x15 x16 x17 x18 x19 x20 x21 x22 x23 x24 x25 x26 x27 x28 x29 x30 (x31++r44.1))))))))
 else
 (bF x0 (x17.length:Int)
 ((ba.f k (List.getD x17 (Int.toNat x0) (Ty.z (.int .i64))) r39.1).bind fun r45 =>
 (rm (Ty.bytes aC) (List.length x31+List.length r45.1)
 (L2 (aH (x0+1)) x1 x2 x3 x4 x5 x6 x7 x8 x9 x10 x11 x12 x13 x14 x15 x16 x17 x18 x19 x20 x21 x22 x23 x24 x25 x26 x27 x28 x29 x30 (x31++r45.1))))))
 else
 (bF x0 (x17.length:Int)
 ((ba.f k (List.getD x17 (Int.toNat x0) (Ty.z (.int .i64))) r39.1).bind fun r46 =>
 (rm (Ty.bytes aC) (List.length x31+List.length r46.1)
 (L2 (aH (x0+1)) x1 x2 x3 x4 x5 x6 x7 x8 x9 x10 x11 x12 x13 x14 x15 x16 x17 x18 x19 x20 x21 x22 x23 x24 x25 x26 x27 x28 x29 x30 (x31++r46.1))))))
 else
 (bF x0 (x17.length:Int)
 ((ba.f k (List.getD x17 (Int.toNat x0) (Ty.z (.int .i64))) r39.1).bind fun r47 =>
 (rm (Ty.bytes aC) (List.length x31+List.length r47.1)
 (L2 (aH (x0+1)) x1 x2 x3 x4 x5 x6 x7 x8 x9 x10 x11 x12 x13 x14 x15 x16 x17 x18 x19 x20 x21 x22 x23 x24 x25 x26 x27 x28 x29 x30 (x31++r47.1)))))))))))))
 else
 ((cB.f k (x28,(x29,(x30,()))) x31).bind fun r48 =>
 (bif (r48.1.2.2.1 != 0) then
 (some (((x13,(x11,())),(x12,(x14,(x15,(x16,()))))),((x19,(x20,(x21,(x22,())))),(3,()))))
 else
 ((bo.f k (x19,(x20,(x21,(x22,())))) (x18,(x17,()))).bind fun r49 =>
 (bif (r49.2.1 != 0) then
 (some (((x13,(x11,())),(x12,(x14,(x15,(x16,()))))),r49))
 else
 (some (((x24,(x17,())),(r48.1.1,((aH (r48.1.2.1+1)),(x26,(x27,()))))),(r49.1,(0,())))))))))
def l2 (k:Nat):Nat→T2
 | 0=>fun _ _ _ _ _ _ _ _ _ _ _ _ _ _ _ _ _ _ _ _ _ _ _ _ _ _ _ _ _ _ _ _=>none
 | n+1=>b2 k (l2 k n)
def b0 (k:Nat) (L1:T1) (L2:T2) (L0:T0):T0:=fun x0 x1 x2 x3 x4 x5 x6 x7 x8 x9 x10 x11 x12 x13 x14 x15 x16 x17 x18 x19 x20 x21 x22 x23 =>
 (bif (decide (x1<(x22.length:Int))) then
 (bF x1 (x22.length:Int)
 ((aU.f k (List.getD x22 (Int.toNat x1) (Ty.z (.int .i64)))).bind fun r8 =>
 ((bK.f k (x2,(x3,(x4,(x5,())))) r8.1).bind fun r9 =>
 ((bX.f k r9.1).bind fun r10 =>
 (bif (!r9.2.1) then
 ((bh.f k (x2,(x3,(x4,(x5,()))))).bind fun r11 =>
 (some (((x18,(x16,())),(x17,(x19,(x20,(x21,()))))),(r11.1,(3,())))))
 else
 (bF x1 (x22.length:Int)
 (bif ((List.getD x22 (Int.toNat x1) (Ty.z (.int .i64))) != x0) then
 (bif (decide (r10.2.1<(ByteArray.size r9.1:Int))) then
 ((bh.f k (x2,(x3,(x4,(x5,()))))).bind fun r12 =>
 (some (((x18,(x16,())),(x17,(x19,(x20,(x21,()))))),(r12.1,(3,())))))
 else
 (L0 x0 (aH (x1+1)) x2 x3 x4 x5 x6 x7 x8 x9 x10 x11 x12 x13 x14 x15 x16 x17 x18 x19 x20 x21 x22 x23))
 else
 (L0 x0 (aH (x1+1)) x2 x3 x4 x5 x6 x7 x8 x9 x10 x11 x12 x13 x14 x15 x16 x17 x18 x19 x20 x21 x22 x23))))))))
 else
 ((aU.f k x0).bind fun r13 =>
 ((bK.f k (x2,(x3,(x4,(x5,())))) r13.1).bind fun r14 =>
 ((bX.f k r14.1).bind fun r15 =>
 ((bh.f k (x2,(x3,(x4,(x5,()))))).bind fun r16 =>
 (bif (decide (r15.2.1<(ByteArray.size r14.1:Int))) then
 ((aU.f k x0).bind fun r17 =>
 ((i_.f k r16.1 r17.1 r15.2.1).bind fun r18 =>
 (bif (r18.2.1 != 0) then
 ((aW.f k r18.2.1).bind fun r19 =>
 (some (((x18,(x16,())),(x17,(x19,(x20,(x21,()))))),(r18.1,r19))))
 else
 ((aU.f k x0).bind fun r20 =>
 ((eA.f k r18.1 r20.1).bind fun r21 =>
 (bif (r21.2.1 != 0) then
 ((aW.f k r21.2.1).bind fun r22 =>
 (some (((x18,(x16,())),(x17,(x19,(x20,(x21,()))))),(r21.1,r22))))
 else
 (L1 0 x6 x7 x8 x9 x10 x11 x12 x13 x14 x15 x16 x17 x18 x19 x20 x21 x22 x23 r21.1.1 r21.1.2.1 r21.1.2.2.1 r21.1.2.2.2.1 [] x23 0 r15.2.1 0 [] 0 0 [])))))))
 else
 ((aU.f k x0).bind fun r35 =>
 ((eA.f k r16.1 r35.1).bind fun r36 =>
 (bif (r36.2.1 != 0) then
 ((aW.f k r36.2.1).bind fun r37 =>
 (some (((x18,(x16,())),(x17,(x19,(x20,(x21,()))))),(r36.1,r37))))
 else
 (L2 0 x6 x7 x8 x9 x10 x11 x12 x13 x14 x15 x16 x17 x18 x19 x20 x21 x22 x23 r36.1.1 r36.1.2.1 r36.1.2.2.1 r36.1.2.2.2.1 [] x23 0 r15.2.1 0 [] 0 0 []))))))))))
def l0 (k:Nat):Nat→T0
 | 0=>fun _ _ _ _ _ _ _ _ _ _ _ _ _ _ _ _ _ _ _ _ _ _ _ _=>none
 | n+1=>b0 k (l1 k k) (l2 k k) (l0 k n)
def t (k:Nat) (L0:T0) (a0:Ty.d aA):Rs :=
 ((bC.f k a0).bind fun r1 =>
 (bif (!r1.1) then
 ((bh.f k a0).bind fun r2 =>
 (some (((0,([],())),([],(0,(0,(0,()))))),(r2.1,(4,())))))
 else
 (bif a0.2.2.2.1 then
 ((bh.f k a0).bind fun r3 =>
 (some (((0,([],())),([],(0,(0,(0,()))))),(r3.1,(1,())))))
 else
 ((bK.f k a0 (⟨#[108,105,118,101]⟩:ByteArray)).bind fun r4 =>
 (bif (!r4.2.1) then
 ((gE.f k a0).bind fun r5 =>
 (some r5))
 else
 ((bM.f k r4.1).bind fun r6 =>
 (bif (!r6.2.1) then
 ((bh.f k a0).bind fun r7 =>
 (some (((0,([],())),([],(0,(0,(0,()))))),(r7.1,(3,())))))
 else
 (bF (aH ((List.length r6.1.2.1:Int)-1)) (List.length r6.1.2.1:Int)
 (L0 (List.getD r6.1.2.1 (Int.toNat (aH ((List.length r6.1.2.1:Int)-1))) (Ty.z (.int .i64))) 0 a0.1 a0.2.1 a0.2.2.1 a0.2.2.2.1 [] [] 0 0 0 0 [] 0 0 false [] [] 0 0 0 0 r6.1.2.1 r6.1.1)))))))))
def f (k:Nat):=t k (l0 k k)
end b7
namespace dC
abbrev Rs:Type:=Option ((Ty.d ck) × Int × Unit)
def t (k:Nat) (a0:Ty.d aA):Rs :=
 ((b7.f k a0).bind fun r1 =>
 (vP (Ty.bytes dO) 3
 (some (((r1.2.2.1==0),(r1.1,(r1.2.1,((List.replicate (Int.toNat 3) (Ty.z dO)),())))),r1.2.2))))
def f (k:Nat):=t k
end dC
namespace d6
abbrev Rs:Type:=Option ((Ty.d aE) × Unit)
def t (k:Nat) (a0:Ty.d aE):Rs :=
 (rm (Ty.bytes (.int .i64)) (0+List.length a0.1.2.1)
 (rm (Ty.bytes aB) (0+List.length a0.2.1)
 (some (((a0.1.1,(([]++a0.1.2.1),())),(([]++a0.2.1),a0.2.2)),()))))
def f (k:Nat):=t k
end d6
namespace eI
abbrev Rs:Type:=Option ((Ty.d dO) × Unit)
def t (k:Nat) (a0:Ty.d dO):Rs :=
 (rm (Ty.bytes ek) (0+List.length a0.2.1)
 (rm (Ty.bytes ch) (0+List.length a0.2.2.1)
 (some ((a0.1,(([]++a0.2.1),(([]++a0.2.2.1),()))),()))))
def f (k:Nat):=t k
end eI
namespace dP
abbrev Rs:Type:=Option ((Ty.d ck) × Unit)
abbrev T0:Type:=Int→List Int→List (Ty.d aB)→List (Ty.d aK)→Bool→Int→Int→Int→Int→Int→Int→Bool→List (Ty.d dO)→List Int→List (Ty.d aB)→List (Ty.d aK)→List (Ty.d dO)→Bool→Int→Int→Int→Int→Int→Int→Bool→List (Ty.d dO)→Rs
def b0 (k:Nat) (L0:T0):T0:=fun x0 x1 x2 x3 x4 x5 x6 x7 x8 x9 x10 x11 x12 x13 x14 x15 x16 x17 x18 x19 x20 x21 x22 x23 x24 x25 =>
 (bif (decide (x0<(x12.length:Int))) then
 (bF x0 (x12.length:Int)
 ((eI.f k (List.getD x12 (Int.toNat x0) (Ty.z dO))).bind fun r3 =>
 (rm (Ty.bytes dO) (List.length x25+1)
 (L0 (aH (x0+1)) x1 x2 x3 x4 x5 x6 x7 x8 x9 x10 x11 x12 x13 x14 x15 x16 x17 x18 x19 x20 x21 x22 x23 x24 (x25++[r3.1])))))
 else
 (some ((x4,(((x5,(x1,())),(x2,(x6,(x7,(x8,()))))),((x3,(x9,(x10,(x11,())))),(x25,())))),())))
def l0 (k:Nat):Nat→T0
 | 0=>fun _ _ _ _ _ _ _ _ _ _ _ _ _ _ _ _ _ _ _ _ _ _ _ _ _ _=>none
 | n+1=>b0 k (l0 k n)
def t (k:Nat) (L0:T0) (a0:Ty.d ck):Rs :=
 ((d6.f k a0.2.1).bind fun r1 =>
 ((bh.f k a0.2.2.1).bind fun r2 =>
 (L0 0 r1.1.1.2.1 r1.1.2.1 r2.1.1 a0.1 r1.1.1.1 r1.1.2.2.1 r1.1.2.2.2.1 r1.1.2.2.2.2.1 r2.1.2.1 r2.1.2.2.1 r2.1.2.2.2.1 a0.2.2.2.1 [] [] [] [] false 0 0 0 0 0 0 false [])))
def f (k:Nat):=t k (l0 k k)
end dP
namespace dK
abbrev Rs:Type:=Option ((Ty.d ch) × Bool × Unit)
abbrev T0:Type:=ByteArray→Int→Bool→List (Ty.d ek)→List (Ty.d ch)→ByteArray→Bool→ByteArray→Rs
def b0 (k:Nat) (L0:T0):T0:=fun x0 x1 x2 x3 x4 x5 x6 x7 =>
 (bif (decide (x1≥0)) then
 (bF x1 (x4.length:Int)
 (bif (seq (List.getD x4 (Int.toNat x1) (Ty.z ch)).1 x0) then
 (bF x1 (x4.length:Int)
 (some ((List.getD x4 (Int.toNat x1) (Ty.z ch)),(true,()))))
 else
 (L0 x0 (aH (x1-1)) x2 x3 x4 x5 x6 x7)))
 else
 (some ((ByteArray.empty,(false,(ByteArray.empty,()))),(false,()))))
def l0 (k:Nat):Nat→T0
 | 0=>fun _ _ _ _ _ _ _ _=>none
 | n+1=>b0 k (l0 k n)
def t (k:Nat) (L0:T0) (a0:Ty.d dO) (a1:ByteArray):Rs :=
 (L0 a1 (aH ((List.length a0.2.2.1:Int)-1)) a0.1 a0.2.1 a0.2.2.1 ByteArray.empty false ByteArray.empty)
def f (k:Nat):=t k (l0 k k)
end dK
namespace az
abbrev Rs:Type:=Option ((List (Ty.d ch)) × Unit)
abbrev T1:Type:=Int→Bool→Int→Bool→List (Ty.d ek)→List (Ty.d ch)→List (Ty.d ch)→Rs
abbrev T0:Type:=Int→Bool→List (Ty.d ek)→List (Ty.d ch)→List (Ty.d ch)→Rs
def b1 (k:Nat) (L0:T0) (L1:T1):T1:=fun x0 x1 x2 x3 x4 x5 x6 =>
 (bif (decide (x2<x0)) then
 (bif x1 then
 (bF x2 (x5.length:Int)
 (bF x0 (x5.length:Int)
 (L1 x0 (!(seq (List.getD x5 (Int.toNat x2) (Ty.z ch)).1 (List.getD x5 (Int.toNat x0) (Ty.z ch)).1)) (aH (x2+1)) x3 x4 x5 x6)))
 else
 (L1 x0 false (aH (x2+1)) x3 x4 x5 x6))
 else
 (bif x1 then
 (bF x0 (x5.length:Int)
 ((dK.f k (x3,(x4,(x5,()))) (List.getD x5 (Int.toNat x0) (Ty.z ch)).1).bind fun r1 =>
 (rm (Ty.bytes ch) (List.length x6+1)
 (L0 (aH (x0+1)) x3 x4 x5 (x6++[r1.1])))))
 else
 (L0 (aH (x0+1)) x3 x4 x5 x6)))
def l1 (k:Nat) (L0:T0):Nat→T1
 | 0=>fun _ _ _ _ _ _ _=>none
 | n+1=>b1 k L0 (l1 k L0 n)
def b0 (k:Nat) (L1:T1) (L0:T0):T0:=fun x0 x1 x2 x3 x4 =>
 (bif (decide (x0<(x3.length:Int))) then
 (L1 x0 true 0 x1 x2 x3 x4)
 else
 (some (x4,())))
def l0 (k:Nat):Nat→T0
 | 0=>fun _ _ _ _ _=>none
 | n+1=>b0 k (l1 k (l0 k n) k) (l0 k n)
def t (k:Nat) (L0:T0) (a0:Ty.d dO):Rs :=
 (L0 0 a0.1 a0.2.1 a0.2.2.1 [])
def f (k:Nat):=t k (l0 k k)
end az
namespace kI
abbrev Rs:Type:=Option (Int × Unit)
def t (k:Nat) (a0:Ty.d aA):Rs :=
 ((bC.f k a0).bind fun r1 =>
 (bif (!r1.1) then
 (some (0,()))
 else
 ((df.f k a0).bind fun r2 =>
 (some r2))))
def f (k:Nat):=t k
end kI
namespace j3
abbrev Rs:Type:=Option ((Ty.d bB) × Bool × Unit)
def t (k:Nat) (a0:ByteArray) (a1:Int) (a2:Int):Rs :=
 ((aN.f k a1 0 (ByteArray.size a0:Int)).bind fun r1 =>
 (bif (!r1.1) then
 (some ((0,(0,(ByteArray.empty,(ByteArray.empty,(0,(0,())))))),(false,())))
 else
 ((aN.f k a2 1 (aH ((ByteArray.size a0:Int)-a1))).bind fun r2 =>
 (bif (!r2.1) then
 (some ((0,(0,(ByteArray.empty,(ByteArray.empty,(0,(0,())))))),(false,())))
 else
 (Dk a1 (aH (a1+a2)) (ByteArray.size a0:Int)
 ((dQ.f k (ByteArray.extract a0 (Int.toNat a1) (Int.toNat (aH (a1+a2))))).bind fun r3 =>
 ((dl.f k r3.1).bind fun r4 =>
 (bif (r3.2.1 != a2) then
 (some ((0,(0,(ByteArray.empty,(ByteArray.empty,(0,(0,())))))),(false,())))
 else
 (bif (!r4.2.1) then
 (some ((0,(0,(ByteArray.empty,(ByteArray.empty,(0,(0,())))))),(false,())))
 else
 (some (r4.1,(true,()))))))))))))
def f (k:Nat):=t k
end j3
namespace bS
abbrev Rs:Type:=Option (Bool × Unit)
abbrev T1:Type:=Int→Int→List Int→List (Ty.d aB)→Int→Int→Int→List (Ty.d aK)→Int→Int→Bool→Rs
abbrev T0:Type:=Int→Int→List Int→List (Ty.d aB)→Int→Int→Int→List (Ty.d aK)→Int→Int→Bool→Rs
def b1 (k:Nat) (L1:T1):T1:=fun x0 x1 x2 x3 x4 x5 x6 x7 x8 x9 x10 =>
 (bif (decide (x0<(x3.length:Int))) then
 (bF x0 (x3.length:Int)
 ((aU.f k (List.getD x3 (Int.toNat x0) (Ty.z aB)).2.1).bind fun r8 =>
 ((bK.f k (x7,(x8,(x9,(x10,())))) r8.1).bind fun r9 =>
 ((j3.f k r9.1 (List.getD x3 (Int.toNat x0) (Ty.z aB)).2.2.1 (List.getD x3 (Int.toNat x0) (Ty.z aB)).2.2.2.1).bind fun r10 =>
 (bif (!r10.2.1) then
 (some (false,()))
 else
 (bif (!(seq r10.1.2.2.1 (List.getD x3 (Int.toNat x0) (Ty.z aB)).1)) then
 (some (false,()))
 else
 (bif (r10.1.2.1 != (List.getD x3 (Int.toNat x0) (Ty.z aB)).2.2.2.2.1) then
 (some (false,()))
 else
 (bif (r10.1.1 != 1) then
 (bif (r10.1.1 != 4) then
 (some (false,()))
 else
 (bif (decide ((List.getD x3 (Int.toNat x0) (Ty.z aB)).2.2.2.2.1≥x4)) then
 (some (false,()))
 else
 (L1 (aH (x0+1)) x1 x2 x3 x4 x5 x6 x7 x8 x9 x10)))
 else
 (bif (decide ((List.getD x3 (Int.toNat x0) (Ty.z aB)).2.2.2.2.1≥x4)) then
 (some (false,()))
 else
 (L1 (aH (x0+1)) x1 x2 x3 x4 x5 x6 x7 x8 x9 x10))))))))))
 else
 (some (true,())))
def l1 (k:Nat):Nat→T1
 | 0=>fun _ _ _ _ _ _ _ _ _ _ _=>none
 | n+1=>b1 k (l1 k n)
def b0 (k:Nat) (L1:T1) (L0:T0):T0:=fun x0 x1 x2 x3 x4 x5 x6 x7 x8 x9 x10 =>
 (bif (decide (x0<(x2.length:Int))) then
 (bF x0 (x2.length:Int)
 ((aU.f k (List.getD x2 (Int.toNat x0) (Ty.z (.int .i64)))).bind fun r5 =>
 ((bK.f k (x7,(x8,(x9,(x10,())))) r5.1).bind fun r6 =>
 ((bX.f k r6.1).bind fun r7 =>
 (bif (!r6.2.1) then
 (some (false,()))
 else
 (bif (decide (r7.2.1<(ByteArray.size r6.1:Int))) then
 (some (false,()))
 else
 (bif ((aH (x0+1))==(x2.length:Int)) then
 (bif (x5 != (ByteArray.size r6.1:Int)) then
 (some (false,()))
 else
 (L0 (aH (x0+1)) x1 x2 x3 x4 x5 x6 x7 x8 x9 x10))
 else
 (L0 (aH (x0+1)) x1 x2 x3 x4 x5 x6 x7 x8 x9 x10))))))))
 else
 (L1 0 x1 x2 x3 x4 x5 x6 x7 x8 x9 x10))
def l0 (k:Nat):Nat→T0
 | 0=>fun _ _ _ _ _ _ _ _ _ _ _=>none
 | n+1=>b0 k (l1 k k) (l0 k n)
def t (k:Nat) (L0:T0) (a0:Ty.d aE) (a1:Ty.d aA):Rs :=
 ((bC.f k a1).bind fun r1 =>
 (bif (!r1.1) then
 (some (false,()))
 else
 ((cY.f k a0.1).bind fun r2 =>
 (bif (!r2.1) then
 (some (false,()))
 else
 ((eh.f k a0.2.1).bind fun r3 =>
 (bif (!r3.1) then
 (some (false,()))
 else
 ((aN.f k a0.2.2.1 1 1000001).bind fun r4 =>
 (bif (!r4.1) then
 (some (false,()))
 else
 (L0 0 a0.1.1 a0.1.2.1 a0.2.1 a0.2.2.1 a0.2.2.2.1 a0.2.2.2.2.1 a1.1 a1.2.1 a1.2.2.1 a1.2.2.2.1)))))))))
def f (k:Nat):=t k (l0 k k)
end bS
namespace eU
abbrev Rs:Type:=Option ((Ty.d aB) × Bool × Unit)
abbrev T0:Type:=List (Ty.d aB)→ByteArray→Int→ByteArray→Int→Int→Int→Int→Rs
def b0 (k:Nat) (L0:T0):T0:=fun x0 x1 x2 x3 x4 x5 x6 x7 =>
 (bif (decide (x2<(x0.length:Int))) then
 (bF x2 (x0.length:Int)
 (bif (seq (List.getD x0 (Int.toNat x2) (Ty.z aB)).1 x1) then
 (bF x2 (x0.length:Int)
 (some ((List.getD x0 (Int.toNat x2) (Ty.z aB)),(true,()))))
 else
 (L0 x0 x1 (aH (x2+1)) x3 x4 x5 x6 x7)))
 else
 (some ((ByteArray.empty,(0,(0,(0,(0,()))))),(false,()))))
def l0 (k:Nat):Nat→T0
 | 0=>fun _ _ _ _ _ _ _ _=>none
 | n+1=>b0 k (l0 k n)
def t (k:Nat) (L0:T0) (a0:List (Ty.d aB)) (a1:ByteArray):Rs :=
 (L0 a0 a1 0 ByteArray.empty 0 0 0 0)
def f (k:Nat):=t k (l0 k k)
end eU
namespace kc
abbrev Rs:Type:=Option ((Ty.d aK) × Int × Unit)
def t (k:Nat) (a0:Ty.d aE) (a1:Ty.d aA) (a2:ByteArray):Rs :=
 ((eU.f k a0.2.1 a2).bind fun r1 =>
 (bif (!r1.2.1) then
 (some ((ByteArray.empty,(ByteArray.empty,(0,()))),(8,())))
 else
 ((aU.f k r1.1.2.1).bind fun r2 =>
 ((bK.f k a1 r2.1).bind fun r3 =>
 ((j3.f k r3.1 r1.1.2.2.1 r1.1.2.2.2.1).bind fun r4 =>
 (bif (!r3.2.1) then
 (some ((ByteArray.empty,(ByteArray.empty,(0,()))),(3,())))
 else
 (bif (!r4.2.1) then
 (some ((ByteArray.empty,(ByteArray.empty,(0,()))),(3,())))
 else
 (bif (!(seq r4.1.2.2.1 a2)) then
 (some ((ByteArray.empty,(ByteArray.empty,(0,()))),(3,())))
 else
 (bif (r4.1.1 != 1) then
 (bif (r4.1.1 != 4) then
 (some ((ByteArray.empty,(ByteArray.empty,(0,()))),(3,())))
 else
 (some ((a2,(r4.1.2.2.2.1,(r4.1.2.1,()))),(0,()))))
 else
 (some ((a2,(r4.1.2.2.2.1,(r4.1.2.1,()))),(0,()))))))))))))
def f (k:Nat):=t k
end kc
namespace gB
abbrev Rs:Type:=Option ((List (Ty.d aK)) × Int × Unit)
abbrev T0:Type:=Int→Int→List Int→List (Ty.d aB)→Int→Int→Int→List (Ty.d aK)→Int→Int→Bool→List (Ty.d aK)→Rs
def b0 (k:Nat) (L0:T0):T0:=fun x0 x1 x2 x3 x4 x5 x6 x7 x8 x9 x10 x11 =>
 (bif (decide (x0<(x3.length:Int))) then
 (bF x0 (x3.length:Int)
 ((kc.f k ((x1,(x2,())),(x3,(x4,(x5,(x6,()))))) (x7,(x8,(x9,(x10,())))) (List.getD x3 (Int.toNat x0) (Ty.z aB)).1).bind fun r1 =>
 (bif (r1.2.1 != 0) then
 (some ([],r1.2))
 else
 (rm (Ty.bytes aK) (List.length x11+1)
 (L0 (aH (x0+1)) x1 x2 x3 x4 x5 x6 x7 x8 x9 x10 (x11++[r1.1]))))))
 else
 (some (x11,(0,()))))
def l0 (k:Nat):Nat→T0
 | 0=>fun _ _ _ _ _ _ _ _ _ _ _ _=>none
 | n+1=>b0 k (l0 k n)
def t (k:Nat) (L0:T0) (a0:Ty.d aE) (a1:Ty.d aA):Rs :=
 (L0 0 a0.1.1 a0.1.2.1 a0.2.1 a0.2.2.1 a0.2.2.2.1 a0.2.2.2.2.1 a1.1 a1.2.1 a1.2.2.1 a1.2.2.2.1 [])
def f (k:Nat):=t k (l0 k k)
end gB
namespace kS
abbrev Rs:Type:=Option ((Ty.d bB) × Unit)
def t (k:Nat) (a0:Ty.d aK):Rs :=
 (some ((4,(a0.2.2.1,(a0.1,(a0.2.1,(0,(0,())))))),()))
def f (k:Nat):=t k
end kS
namespace gY
abbrev Rs:Type:=Option ((Ty.d bB) × Unit)
def t (k:Nat) (a0:List (Ty.d bB)) (a1:Int) (a2:Int):Rs :=
 ((ff.f k a0).bind fun r1 =>
 (some ((a2,(a1,(ByteArray.empty,(ByteArray.empty,((List.length a0:Int),r1))))),())))
def f (k:Nat):=t k
end gY
namespace dU
abbrev Rs:Type:=Option ((Ty.d aA) × (List (Ty.d aB)) × Int × Unit)
abbrev T0:Type:=Int→List (Ty.d aK)→Int→Int→Int→Int→List (Ty.d aK)→Int→Int→Bool→List (Ty.d aB)→List (Ty.d aK)→Int→Int→Bool→List (Ty.d bB)→Rs
def b0 (k:Nat) (L0:T0):T0:=fun x0 x1 x2 x3 x4 x5 x6 x7 x8 x9 x10 x11 x12 x13 x14 x15 =>
 (bif (decide (x5<(x1.length:Int))) then
 (bif (x3==0) then
 (bF x5 (x1.length:Int)
 ((kS.f k (List.getD x1 (Int.toNat x5) (Ty.z aK))).bind fun r3 =>
 ((cD.f k r3.1).bind fun r4 =>
 ((fI.f k r4.1).bind fun r5 =>
 ((aU.f k x0).bind fun r6 =>
 ((dX.f k (x11,(x12,(x13,(x14,())))) r6.1 r5.1).bind fun r7 =>
 (rm (Ty.bytes bB) (List.length x15+1)
 (rm (Ty.bytes aB) (List.length x10+1)
 (L0 x0 x1 x2 r7.2.1 (aH (x4+(ByteArray.size r5.1:Int))) (aH (x5+1)) x6 x7 x8 x9 (x10++[(r3.1.2.2.1,(x0,(x4,((ByteArray.size r5.1:Int),(r3.1.2.1,())))))]) r7.1.1 r7.1.2.1 r7.1.2.2.1 r7.1.2.2.2.1 (x15++[r3.1]))))))))))
 else
 (bif (x3==0) then
 ((aU.f k x0).bind fun r8 =>
 ((gY.f k x15 x2 5).bind fun r9 =>
 ((cD.f k r9.1).bind fun r10 =>
 ((fI.f k r10.1).bind fun r11 =>
 ((dX.f k (x11,(x12,(x13,(x14,())))) r8.1 r11.1).bind fun r12 =>
 (bif (r12.2.1==0) then
 ((aU.f k x0).bind fun r13 =>
 ((eA.f k r12.1 r13.1).bind fun r14 =>
 ((aW.f k r14.2.1).bind fun r15 =>
 (some (r14.1,(x10,r15))))))
 else
 ((aW.f k r12.2.1).bind fun r16 =>
 (some (r12.1,(x10,r16))))))))))
 else
 (bif (x3==0) then
 ((aU.f k x0).bind fun r17 =>
 ((eA.f k (x11,(x12,(x13,(x14,())))) r17.1).bind fun r18 =>
 ((aW.f k r18.2.1).bind fun r19 =>
 (some (r18.1,(x10,r19))))))
 else
 ((aW.f k x3).bind fun r20 =>
 (some ((x11,(x12,(x13,(x14,())))),(x10,r20)))))))
 else
 (bif (x3==0) then
 ((aU.f k x0).bind fun r21 =>
 ((gY.f k x15 x2 5).bind fun r22 =>
 ((cD.f k r22.1).bind fun r23 =>
 ((fI.f k r23.1).bind fun r24 =>
 ((dX.f k (x11,(x12,(x13,(x14,())))) r21.1 r24.1).bind fun r25 =>
 (bif (r25.2.1==0) then
 ((aU.f k x0).bind fun r26 =>
 ((eA.f k r25.1 r26.1).bind fun r27 =>
 ((aW.f k r27.2.1).bind fun r28 =>
 (some (r27.1,(x10,r28))))))
 else
 ((aW.f k r25.2.1).bind fun r29 =>
 (some (r25.1,(x10,r29))))))))))
 else
 (bif (x3==0) then
 ((aU.f k x0).bind fun r30 =>
 ((eA.f k (x11,(x12,(x13,(x14,())))) r30.1).bind fun r31 =>
 ((aW.f k r31.2.1).bind fun r32 =>
 (some (r31.1,(x10,r32))))))
 else
 ((aW.f k x3).bind fun r33 =>
 (some ((x11,(x12,(x13,(x14,())))),(x10,r33)))))))
def l0 (k:Nat):Nat→T0
 | 0=>fun _ _ _ _ _ _ _ _ _ _ _ _ _ _ _ _=>none
 | n+1=>b0 k (l0 k n)
def t (k:Nat) (L0:T0) (a0:Ty.d aA) (a1:Int) (a2:List (Ty.d aK)) (a3:Int):Rs :=
 ((aU.f k a1).bind fun r1 =>
 ((dV.f k a0 r1.1).bind fun r2 =>
 (L0 a1 a2 a3 r2.2.1 0 0 [] 0 0 false [] r2.1.1 r2.1.2.1 r2.1.2.2.1 r2.1.2.2.2.1 [])))
def f (k:Nat):=t k (l0 k k)
end dU
namespace bx
abbrev Rs:Type:=Option ((Ty.d aA) × Int × Unit)
abbrev T0:Type:=List ByteArray→Int→List (Ty.d aK)→Int→Int→Bool→List (Ty.d aK)→Int→Int→Bool→Rs
def b0 (k:Nat) (L0:T0):T0:=fun x0 x1 x2 x3 x4 x5 x6 x7 x8 x9 =>
 (bif (decide (x1<(x0.length:Int))) then
 (bF x1 (x0.length:Int)
 ((bE.f k (x2,(x3,(x4,(x5,())))) (List.getD x0 (Int.toNat x1) (Ty.z .str))).bind fun r1 =>
 (bif (decide (r1.1<0)) then
 (L0 x0 (aH (x1+1)) x2 x3 x4 x5 x6 x7 x8 x9)
 else
 (bF x1 (x0.length:Int)
 ((gD.f k (x2,(x3,(x4,(x5,())))) (List.getD x0 (Int.toNat x1) (Ty.z .str))).bind fun r2 =>
 (bif (r2.2.1 != 0) then
 (some r2)
 else
 (L0 x0 (aH (x1+1)) r2.1.1 r2.1.2.1 r2.1.2.2.1 r2.1.2.2.2.1 x6 x7 x8 x9)))))))
 else
 (some ((x2,(x3,(x4,(x5,())))),(0,()))))
def l0 (k:Nat):Nat→T0
 | 0=>fun _ _ _ _ _ _ _ _ _ _=>none
 | n+1=>b0 k (l0 k n)
def t (k:Nat) (L0:T0) (a0:Ty.d aA) (a1:List ByteArray):Rs :=
 (L0 a1 0 a0.1 a0.2.1 a0.2.2.1 a0.2.2.2.1 [] 0 0 false)
def f (k:Nat):=t k (l0 k k)
end bx
namespace dS
abbrev Rs:Type:=Option ((Ty.d aE) × (Ty.d aA) × Int × Unit)
def t (k:Nat) (a0:Ty.d aE) (a1:Ty.d aA) (a2:Int) (a3:Int):Rs :=
 (bif (a3 != 2) then
 (some (a0,(a1,(a3,()))))
 else
 ((aU.f k a2).bind fun r1 =>
 ((aU.f k (aH (a2+1))).bind fun r2 =>
 ((cj.f k a2).bind fun r3 =>
 ((bx.f k a1 [(⟨#[116,101,109,112]⟩:ByteArray),r1.1,r2.1,r3.1]).bind fun r4 =>
 (bif (r4.2.1 != 0) then
 ((aW.f k r4.2.1).bind fun r5 =>
 (some (a0,(r4.1,r5))))
 else
 (some (a0,(r4.1,(a3,()))))))))))
def f (k:Nat):=t k
end dS
namespace bq
abbrev Rs:Type:=Option ((Ty.d aE) × (Ty.d aA) × Int × Unit)
abbrev T0:Type:=Int→List Int→List (Ty.d aB)→Int→Int→Int→Int→List Int→List (Ty.d aB)→Int→Int→Int→Int→List (Ty.d aK)→Int→Int→Bool→List (Ty.d aK)→Int→Int→Bool→List Int→Rs
def b0 (k:Nat) (L0:T0):T0:=fun x0 x1 x2 x3 x4 x5 x6 x7 x8 x9 x10 x11 x12 x13 x14 x15 x16 x17 x18 x19 x20 x21 =>
 (bif (decide (x0<(x21.length:Int))) then
 (bF x0 (x21.length:Int)
 ((aU.f k (List.getD x21 (Int.toNat x0) (Ty.z (.int .i64)))).bind fun r18 =>
 (bF x0 (x21.length:Int)
 ((cj.f k (List.getD x21 (Int.toNat x0) (Ty.z (.int .i64)))).bind fun r19 =>
 ((bx.f k (x17,(x18,(x19,(x20,())))) [r18.1,r19.1]).bind fun r20 =>
 (bif (r20.2.1 != 0) then
 ((aW.f k r20.2.1).bind fun r21 =>
 (some (((x3,(x1,())),(x2,(x4,(x5,(x6,()))))),(r20.1,r21))))
 else
 (L0 (aH (x0+1)) x1 x2 x3 x4 x5 x6 x7 x8 x9 x10 x11 x12 x13 x14 x15 x16 r20.1.1 r20.1.2.1 r20.1.2.2.1 r20.1.2.2.2.1 x21)))))))
 else
 (some (((x3,(x1,())),(x2,(x4,(x5,(x6,()))))),((x17,(x18,(x19,(x20,())))),(0,())))))
def l0 (k:Nat):Nat→T0
 | 0=>fun _ _ _ _ _ _ _ _ _ _ _ _ _ _ _ _ _ _ _ _ _ _=>none
 | n+1=>b0 k (l0 k n)
def t (k:Nat) (L0:T0) (a0:Ty.d aE) (a1:Ty.d aA) (a2:List (Ty.d aK)):Rs :=
 ((dU.f k a1 a0.1.1 a2 (aH (a0.2.2.1-1))).bind fun r1 =>
 (bif (r1.2.2.1 != 0) then
 ((dS.f k (((aH (a0.1.1+2)),a0.1.2),a0.2) r1.1 a0.1.1 r1.2.2.1).bind fun r2 =>
 (some r2))
 else
 ((aU.f k (aH (a0.1.1+1))).bind fun r3 =>
 ((dV.f k r1.1 r3.1).bind fun r4 =>
 (bif (r4.2.1 != 0) then
 ((aW.f k r4.2.1).bind fun r5 =>
 ((dS.f k (((aH (a0.1.1+2)),a0.1.2),a0.2) r4.1 a0.1.1 r5.1).bind fun r6 =>
 (some r6)))
 else
 ((aU.f k a0.1.1).bind fun r7 =>
 ((bK.f k r4.1 r7.1).bind fun r8 =>
 ((dW.f k a0.1.1 r8.1).bind fun r9 =>
 ((cj.f k a0.1.1).bind fun r10 =>
 ((dL.f k r9.1).bind fun r11 =>
 ((gU.f k r4.1 r10.1 r11.1).bind fun r12 =>
 (bif (r12.2.1==2) then
 ((cj.f k a0.1.1).bind fun r13 =>
 ((bx.f k r12.1 [r13.1]).bind fun r14 =>
 (bif (r14.2.1 != 0) then
 ((aW.f k r14.2.1).bind fun r15 =>
 (some ((((aH (a0.1.1+2)),a0.1.2),a0.2),(r14.1,r15))))
 else
 (rm (Ty.bytes (.int .i64)) (0+List.length a0.1.2.1)
 ((eG.f k r14.1 ((aH (a0.1.1+2)),([a0.1.1,(aH (a0.1.1+1))],()))).bind fun r16 =>
 (bif (r16.2.1 != 0) then
 ((dS.f k (((aH (a0.1.1+2)),a0.1.2),a0.2) r16.1 a0.1.1 r16.2.1).bind fun r17 =>
 (some r17))
 else
 (L0 0 [a0.1.1,(aH (a0.1.1+1))] r1.2.1 (aH (a0.1.1+2)) a0.2.2.1 0 0 [] [] 0 0 0 0 [] 0 0 false r16.1.1 r16.1.2.1 r16.1.2.2.1 r16.1.2.2.2.1 ([]++a0.1.2.1))))))))
 else
 (bif (r12.2.1 != 0) then
 ((aW.f k r12.2.1).bind fun r22 =>
 (some ((((aH (a0.1.1+2)),a0.1.2),a0.2),(r12.1,r22))))
 else
 (rm (Ty.bytes (.int .i64)) (0+List.length a0.1.2.1)
 ((eG.f k r12.1 ((aH (a0.1.1+2)),([a0.1.1,(aH (a0.1.1+1))],()))).bind fun r23 =>
 (bif (r23.2.1 != 0) then
 ((dS.f k (((aH (a0.1.1+2)),a0.1.2),a0.2) r23.1 a0.1.1 r23.2.1).bind fun r24 =>
 (some r24))
 else
 (L0 0 [a0.1.1,(aH (a0.1.1+1))] r1.2.1 (aH (a0.1.1+2)) a0.2.2.1 0 0 [] [] 0 0 0 0 [] 0 0 false r23.1.1 r23.1.2.1 r23.1.2.2.1 r23.1.2.2.2.1 ([]++a0.1.2.1))))))))))))))))))
def f (k:Nat):=t k (l0 k k)
end bq
namespace kF
abbrev Rs:Type:=Option ((Ty.d aE) × (Ty.d aA) × Int × Unit)
def t (k:Nat) (a0:Ty.d aE) (a1:Ty.d aA):Rs :=
 ((d6.f k a0).bind fun r1 =>
 ((bh.f k a1).bind fun r2 =>
 ((bS.f k a0 a1).bind fun r3 =>
 (bif (!r3.1) then
 (some (r1.1,(r2.1,(4,()))))
 else
 (bif (decide ((aH (a0.1.1+2)) > 100000)) then
 (some (r1.1,(r2.1,(5,()))))
 else
 ((gB.f k a0 a1).bind fun r4 =>
 (bif (r4.2.1 != 0) then
 (some (r1.1,(r2.1,r4.2)))
 else
 ((bq.f k r1.1 r2.1 r4.1).bind fun r5 =>
 (some r5)))))))))
def f (k:Nat):=t k
end kF
namespace fB
abbrev Rs:Type:=Option ((List ByteArray) × Unit)
abbrev T0:Type:=List (Ty.d aB)→Int→List ByteArray→Rs
def b0 (k:Nat) (L0:T0):T0:=fun x0 x1 x2 =>
 (bif (decide (x1<(x0.length:Int))) then
 (bF x1 (x0.length:Int)
 (rm (Ty.bytes .str) (List.length x2+1)
 (L0 x0 (aH (x1+1)) (x2++[(List.getD x0 (Int.toNat x1) (Ty.z aB)).1]))))
 else
 (some (x2,())))
def l0 (k:Nat):Nat→T0
 | 0=>fun _ _ _=>none
 | n+1=>b0 k (l0 k n)
def t (k:Nat) (L0:T0) (a0:List (Ty.d aB)):Rs :=
 (L0 a0 0 [])
def f (k:Nat):=t k (l0 k k)
end fB
namespace fA
abbrev Rs:Type:=Option ((Ty.d dO) × Int × Unit)
abbrev T0:Type:=ByteArray→Int→Int→Bool→List (Ty.d ek)→List (Ty.d ch)→List (Ty.d ek)→List (Ty.d ch)→Bool→List (Ty.d ek)→List (Ty.d ch)→Bool→Rs
def b0 (k:Nat) (L0:T0):T0:=fun x0 x1 x2 x3 x4 x5 x6 x7 x8 x9 x10 x11 =>
 (bif (decide (x2<(x4.length:Int))) then
 (bF x2 (x4.length:Int)
 (bif (seq (List.getD x4 (Int.toNat x2) (Ty.z ek)).1 x0) then
 (bF x2 (x4.length:Int)
 (bif ((List.getD x4 (Int.toNat x2) (Ty.z ek)).2.1 != x1) then
 (some ((x11,(x9,(x10,()))),(7,())))
 else
 (some ((x11,(x9,(x10,()))),(0,())))))
 else
 (L0 x0 x1 (aH (x2+1)) x3 x4 x5 x6 x7 x8 x9 x10 x11)))
 else
 (bif (decide ((x4.length:Int)≥20)) then
 (some ((x11,(x9,(x10,()))),(5,())))
 else
 (rm (Ty.bytes ek) (List.length x9+1)
 (some ((x11,((x9++[(x0,(x1,()))]),(x10,()))),(0,()))))))
def l0 (k:Nat):Nat→T0
 | 0=>fun _ _ _ _ _ _ _ _ _ _ _ _=>none
 | n+1=>b0 k (l0 k n)
def t (k:Nat) (L0:T0) (a0:Ty.d dO) (a1:ByteArray) (a2:Int):Rs :=
 ((eI.f k a0).bind fun r1 =>
 (bif (!a0.1) then
 (some (r1.1,(4,())))
 else
 ((cm.f k a1).bind fun r2 =>
 (bif (!r2.1) then
 (some (r1.1,(4,())))
 else
 (L0 a1 a2 0 a0.1 a0.2.1 a0.2.2.1 [] [] false r1.1.2.1 r1.1.2.2.1 r1.1.1)))))
def f (k:Nat):=t k (l0 k k)
end fA
namespace eu
abbrev Rs:Type:=Option ((Ty.d ck) × (Ty.d dz) × Unit)
def t (k:Nat) (a0:Ty.d ck) (a1:Ty.d ar):Rs :=
 (bF a1.2.1 (List.length a0.2.2.2.1:Int)
 ((cm.f k a1.2.2.1).bind fun r1 =>
 (bif (!r1.1) then
 (some (a0,((4,(ByteArray.empty,([],()))),())))
 else
 ((dK.f k (List.getD a0.2.2.2.1 (Int.toNat a1.2.1) (Ty.z dO)) a1.2.2.1).bind fun r2 =>
 (bif r2.2.1 then
 (bif r2.1.2.1 then
 (some (a0,((8,(ByteArray.empty,([],()))),())))
 else
 (some (a0,((0,(r2.1.2.2.1,([],()))),()))))
 else
 ((kc.f k a0.2.1 a0.2.2.1 a1.2.2.1).bind fun r3 =>
 (bif (r3.2.1==3) then
 (some (a0,((r3.2.1,(ByteArray.empty,([],()))),())))
 else
 ((fA.f k (List.getD a0.2.2.2.1 (Int.toNat a1.2.1) (Ty.z dO)) a1.2.2.1 r3.1.2.2.1).bind fun r4 =>
 (bif (r4.2.1 != 0) then
 (some (a0,((r4.2.1,(ByteArray.empty,([],()))),())))
 else
 (bF a1.2.1 (List.length a0.2.2.2.1:Int)
 (let l5:=(List.set a0.2.2.2.1 (Int.toNat a1.2.1) r4.1);
 (some ((a0.1,(a0.2.1,(a0.2.2.1,(l5,())))),((r3.2.1,(r3.1.2.1,([],()))),()))))))))))))))
def f (k:Nat):=t k
end eu
namespace gN
abbrev Rs:Type:=Option (Bool × Unit)
abbrev T0:Type:=List (Ty.d aB)→Int→Bool→List (Ty.d ek)→List (Ty.d ch)→Rs
def b0 (k:Nat) (L0:T0):T0:=fun x0 x1 x2 x3 x4 =>
 (bif (decide (x1<(x3.length:Int))) then
 (bF x1 (x3.length:Int)
 ((eU.f k x0 (List.getD x3 (Int.toNat x1) (Ty.z ek)).1).bind fun r1 =>
 (bF x1 (x3.length:Int)
 (bif (r1.1.2.2.2.2.1 != (List.getD x3 (Int.toNat x1) (Ty.z ek)).2.1) then
 (some (false,()))
 else
 (L0 x0 (aH (x1+1)) x2 x3 x4)))))
 else
 (some (true,())))
def l0 (k:Nat):Nat→T0
 | 0=>fun _ _ _ _ _=>none
 | n+1=>b0 k (l0 k n)
def t (k:Nat) (L0:T0) (a0:Ty.d dO) (a1:List (Ty.d aB)):Rs :=
 (L0 a1 0 a0.1 a0.2.1 a0.2.2.1)
def f (k:Nat):=t k (l0 k k)
end gN
namespace cF
abbrev Rs:Type:=Option (Bool × Unit)
abbrev T0:Type:=List (Ty.d ch)→Int→Rs
def b0 (k:Nat) (L0:T0):T0:=fun x0 x1 =>
 (bif (decide (x1<(x0.length:Int))) then
 (bF x1 (x0.length:Int)
 ((cm.f k (List.getD x0 (Int.toNat x1) (Ty.z ch)).1).bind fun r1 =>
 (bif (!r1.1) then
 (some (false,()))
 else
 (bF x1 (x0.length:Int)
 (bif (decide ((ByteArray.size (List.getD x0 (Int.toNat x1) (Ty.z ch)).2.2.1:Int) > 24)) then
 (some (false,()))
 else
 (bF x1 (x0.length:Int)
 (bif (List.getD x0 (Int.toNat x1) (Ty.z ch)).2.1 then
 (bF x1 (x0.length:Int)
 (bif (!(seq (List.getD x0 (Int.toNat x1) (Ty.z ch)).2.2.1 (⟨#[]⟩:ByteArray))) then
 (some (false,()))
 else
 (L0 x0 (aH (x1+1)))))
 else
 (L0 x0 (aH (x1+1))))))))))
 else
 (some (true,())))
def l0 (k:Nat):Nat→T0
 | 0=>fun _ _=>none
 | n+1=>b0 k (l0 k n)
def t (k:Nat) (L0:T0) (a0:List (Ty.d ch)):Rs :=
 (bif (decide ((List.length a0:Int) > 8)) then
 (some (false,()))
 else
 (L0 a0 0))
def f (k:Nat):=t k (l0 k k)
end cF
namespace d_
abbrev Rs:Type:=Option (Int × Unit)
abbrev T1:Type:=List (Ty.d ch)→Int→List (Ty.d aB)→Rs
abbrev T0:Type:=List (Ty.d aB)→List (Ty.d ch)→Int→Rs
def b1 (k:Nat) (L1:T1):T1:=fun x0 x1 x2 =>
 (bif (decide (x1<(x0.length:Int))) then
 (bF x1 (x0.length:Int)
 (bif (List.getD x0 (Int.toNat x1) (Ty.z ch)).2.1 then
 (bF x1 (x0.length:Int)
 ((cw.f k x2 (List.getD x0 (Int.toNat x1) (Ty.z ch)).1).bind fun r2 =>
 (L1 x0 (aH (x1+1)) r2.1)))
 else
 (bF x1 (x0.length:Int)
 ((c8.f k x2 ((List.getD x0 (Int.toNat x1) (Ty.z ch)).1,(0,(0,(0,(0,())))))).bind fun r3 =>
 (L1 x0 (aH (x1+1)) r3.1)))))
 else
 (some ((x2.length:Int),())))
def l1 (k:Nat):Nat→T1
 | 0=>fun _ _ _=>none
 | n+1=>b1 k (l1 k n)
def b0 (k:Nat) (L1:T1):T0:=fun x0 x1 x2 =>
 (bif (decide (x2<(x1.length:Int))) then
 (bF x2 (x1.length:Int)
 (bif (List.getD x1 (Int.toNat x2) (Ty.z ch)).2.1 then
 (bF x2 (x1.length:Int)
 ((cw.f k x0 (List.getD x1 (Int.toNat x2) (Ty.z ch)).1).bind fun r1 =>
 (L1 x1 (aH (x2+1)) r1.1)))
 else
 (bF x2 (x1.length:Int)
 ((c8.f k x0 ((List.getD x1 (Int.toNat x2) (Ty.z ch)).1,(0,(0,(0,(0,())))))).bind fun r4 =>
 (L1 x1 (aH (x2+1)) r4.1)))))
 else
 (some ((x0.length:Int),())))
def l0 (k:Nat):Nat→T0
 | 0=>fun _ _ _=>none
 | n+1=>b0 k (l1 k n)
def t (k:Nat) (L0:T0) (a0:List (Ty.d aB)) (a1:List (Ty.d ch)):Rs :=
 (L0 a0 a1 0)
def f (k:Nat):=t k (l0 k k)
end d_
namespace co
abbrev Rs:Type:=Option (ByteArray × Unit)
def t (k:Nat) (a0:Ty.d aE):Rs :=
 (bF (aH ((List.length a0.1.2.1:Int)-1)) (List.length a0.1.2.1:Int)
 ((aU.f k (List.getD a0.1.2.1 (Int.toNat (aH ((List.length a0.1.2.1:Int)-1))) (Ty.z (.int .i64)))).bind fun r1 =>
 (some r1)))
def f (k:Nat):=t k
end co
namespace fL
abbrev Rs:Type:=Option ((Ty.d aE) × (Ty.d aA) × Int × Unit)
def t (k:Nat) (a0:Ty.d aE) (a1:Ty.d aA):Rs :=
 (bif (decide ((List.length a0.1.2.1:Int)≥60)) then
 (some (a0,(a1,(5,()))))
 else
 (bif (decide (a0.1.1≥100000)) then
 (some (a0,(a1,(5,()))))
 else
 ((co.f k a0).bind fun r1 =>
 ((eA.f k a1 r1.1).bind fun r2 =>
 (bif (r2.2.1 != 0) then
 ((aW.f k r2.2.1).bind fun r3 =>
 (some (a0,(r2.1,r3))))
 else
 ((aU.f k a0.1.1).bind fun r4 =>
 ((dV.f k r2.1 r4.1).bind fun r5 =>
 (bif (r5.2.1 != 0) then
 ((aW.f k r5.2.1).bind fun r6 =>
 (some ((((aH (a0.1.1+1)),a0.1.2),a0.2),(r5.1,r6))))
 else
 (rm (Ty.bytes (.int .i64)) (0+List.length a0.1.2.1)
 (rm (Ty.bytes (.int .i64)) (List.length ([]++a0.1.2.1)+1)
 ((eG.f k r5.1 ((aH (a0.1.1+1)),((([]++a0.1.2.1)++[a0.1.1]),()))).bind fun r7 =>
 (bif (r7.2.1==2) then
 ((aU.f k a0.1.1).bind fun r8 =>
 ((bx.f k r7.1 [(⟨#[116,101,109,112]⟩:ByteArray),r8.1]).bind fun r9 =>
 (bif (r9.2.1 != 0) then
 ((aW.f k r9.2.1).bind fun r10 =>
 (some ((((aH (a0.1.1+1)),a0.1.2),a0.2),(r9.1,r10))))
 else
 (some ((((aH (a0.1.1+1)),a0.1.2),a0.2),(r9.1,r7.2))))))
 else
 (bif (r7.2.1 != 0) then
 (some ((((aH (a0.1.1+1)),a0.1.2),a0.2),r7))
 else
 (some ((((aH (a0.1.1+1)),((([]++a0.1.2.1)++[a0.1.1]),())),(a0.2.1,(a0.2.2.1,(0,a0.2.2.2.2)))),(r7.1,(0,())))))))))))))))))
def f (k:Nat):=t k
end fL
namespace dr
abbrev Rs:Type:=Option ((Ty.d aE) × (Ty.d aA) × (Ty.d aC) × Int × Unit)
def t (k:Nat) (a0:Ty.d aE) (a1:Ty.d aA) (a2:Ty.d bB):Rs :=
 ((cD.f k a2).bind fun r1 =>
 ((fI.f k r1.1).bind fun r2 =>
 (bif (decide (a0.2.2.2.1 > 0)) then
 (bif (decide ((aH (a0.2.2.2.1+(ByteArray.size r2.1:Int))) > 200)) then
 ((fL.f k a0 a1).bind fun r3 =>
 (bif (r3.2.2.1 != 0) then
 (some (r3.1,(r3.2.1,((0,(0,(0,((0,(0,(ByteArray.empty,(ByteArray.empty,(0,(0,())))))),())))),r3.2.2))))
 else
 ((co.f k r3.1).bind fun r4 =>
 ((dX.f k r3.2.1 r4.1 r2.1).bind fun r5 =>
 (bif (r5.2.1 != 0) then
 ((aW.f k r5.2.1).bind fun r6 =>
 (some (r3.1,(r5.1,((0,(0,(0,((0,(0,(ByteArray.empty,(ByteArray.empty,(0,(0,())))))),())))),r6)))))
 else
 (bF (aH ((List.length r3.1.1.2.1:Int)-1)) (List.length r3.1.1.2.1:Int)
 (some ((r3.1.1,(r3.1.2.1,(r3.1.2.2.1,((aH (r3.1.2.2.2.1+(ByteArray.size r2.1:Int))),r3.1.2.2.2.2)))),(r5.1,(((List.getD r3.1.1.2.1 (Int.toNat (aH ((List.length r3.1.1.2.1:Int)-1))) (Ty.z (.int .i64))),(r3.1.2.2.2.1,((ByteArray.size r2.1:Int),(a2,())))),(0,())))))))))))
 else
 ((co.f k a0).bind fun r7 =>
 ((dX.f k a1 r7.1 r2.1).bind fun r8 =>
 (bif (r8.2.1 != 0) then
 ((aW.f k r8.2.1).bind fun r9 =>
 (some (a0,(r8.1,((0,(0,(0,((0,(0,(ByteArray.empty,(ByteArray.empty,(0,(0,())))))),())))),r9)))))
 else
 (bF (aH ((List.length a0.1.2.1:Int)-1)) (List.length a0.1.2.1:Int)
 (some ((a0.1,(a0.2.1,(a0.2.2.1,((aH (a0.2.2.2.1+(ByteArray.size r2.1:Int))),a0.2.2.2.2)))),(r8.1,(((List.getD a0.1.2.1 (Int.toNat (aH ((List.length a0.1.2.1:Int)-1))) (Ty.z (.int .i64))),(a0.2.2.2.1,((ByteArray.size r2.1:Int),(a2,())))),(0,()))))))))))
 else
 ((co.f k a0).bind fun r10 =>
 ((dX.f k a1 r10.1 r2.1).bind fun r11 =>
 (bif (r11.2.1 != 0) then
 ((aW.f k r11.2.1).bind fun r12 =>
 (some (a0,(r11.1,((0,(0,(0,((0,(0,(ByteArray.empty,(ByteArray.empty,(0,(0,())))))),())))),r12)))))
 else
 (bF (aH ((List.length a0.1.2.1:Int)-1)) (List.length a0.1.2.1:Int)
 (some ((a0.1,(a0.2.1,(a0.2.2.1,((aH (a0.2.2.2.1+(ByteArray.size r2.1:Int))),a0.2.2.2.2)))),(r11.1,(((List.getD a0.1.2.1 (Int.toNat (aH ((List.length a0.1.2.1:Int)-1))) (Ty.z (.int .i64))),(a0.2.2.2.1,((ByteArray.size r2.1:Int),(a2,())))),(0,()))))))))))))
def f (k:Nat):=t k
end dr
namespace bW
abbrev Rs:Type:=Option ((Ty.d aE) × (Ty.d aA) × Int × Unit)
abbrev T0:Type:=Int→Int→List (Ty.d ch)→List Int→List (Ty.d aB)→Int→Int→Int→Int→List (Ty.d aK)→Int→Int→Bool→List Int→List (Ty.d aB)→Int→Int→Int→Int→List (Ty.d aK)→Int→Int→Bool→List (Ty.d bB)→List (Ty.d aB)→Rs
def b0 (k:Nat) (L0:T0):T0:=fun x0 x1 x2 x3 x4 x5 x6 x7 x8 x9 x10 x11 x12 x13 x14 x15 x16 x17 x18 x19 x20 x21 x22 x23 x24 =>
 (bif (decide (x1<(x2.length:Int))) then
 (bF x1 (x2.length:Int)
 (bF x1 (x2.length:Int)
 (bF x1 (x2.length:Int)
 (bif (List.getD x2 (Int.toNat x1) (Ty.z ch)).2.1 then
 ((dr.f k ((x5,(x3,())),(x4,(x6,(x7,(x8,()))))) (x9,(x10,(x11,(x12,())))) (2,(x0,((List.getD x2 (Int.toNat x1) (Ty.z ch)).1,((List.getD x2 (Int.toNat x1) (Ty.z ch)).2.2.1,(0,(0,()))))))).bind fun r1 =>
 (bif (r1.2.2.2.1 != 0) then
 (some (r1.1,(r1.2.1,r1.2.2.2)))
 else
 ((gw.f k x24 r1.2.2.1).bind fun r2 =>
 (rm (Ty.bytes bB) (List.length x23+1)
 (L0 x0 (aH (x1+1)) x2 r1.1.1.2.1 r1.1.2.1 r1.1.1.1 r1.1.2.2.1 r1.1.2.2.2.1 r1.1.2.2.2.2.1 r1.2.1.1 r1.2.1.2.1 r1.2.1.2.2.1 r1.2.1.2.2.2.1 x13 x14 x15 x16 x17 x18 x19 x20 x21 x22 (x23++[(2,(x0,((List.getD x2 (Int.toNat x1) (Ty.z ch)).1,((List.getD x2 (Int.toNat x1) (Ty.z ch)).2.2.1,(0,(0,()))))))]) r2.1)))))
 else
 ((dr.f k ((x5,(x3,())),(x4,(x6,(x7,(x8,()))))) (x9,(x10,(x11,(x12,())))) (1,(x0,((List.getD x2 (Int.toNat x1) (Ty.z ch)).1,((List.getD x2 (Int.toNat x1) (Ty.z ch)).2.2.1,(0,(0,()))))))).bind fun r3 =>
 (bif (r3.2.2.2.1 != 0) then
 (some (r3.1,(r3.2.1,r3.2.2.2)))
 else
 ((gw.f k x24 r3.2.2.1).bind fun r4 =>
 (rm (Ty.bytes bB) (List.length x23+1)
 (L0 x0 (aH (x1+1)) x2 r3.1.1.2.1 r3.1.2.1 r3.1.1.1 r3.1.2.2.1 r3.1.2.2.2.1 r3.1.2.2.2.2.1 r3.2.1.1 r3.2.1.2.1 r3.2.1.2.2.1 r3.2.1.2.2.2.1 x13 x14 x15 x16 x17 x18 x19 x20 x21 x22 (x23++[(1,(x0,((List.getD x2 (Int.toNat x1) (Ty.z ch)).1,((List.getD x2 (Int.toNat x1) (Ty.z ch)).2.2.1,(0,(0,()))))))]) r4.1)))))))))
 else
 ((gY.f k x23 x0 3).bind fun r5 =>
 ((dr.f k ((x5,(x3,())),(x4,(x6,(x7,(x8,()))))) (x9,(x10,(x11,(x12,())))) r5.1).bind fun r6 =>
 (bif (r6.2.2.2.1 != 0) then
 (some (r6.1,(r6.2.1,r6.2.2.2)))
 else
 ((co.f k r6.1).bind fun r7 =>
 ((eA.f k r6.2.1 r7.1).bind fun r8 =>
 (bif (r8.2.1 != 0) then
 ((aW.f k r8.2.1).bind fun r9 =>
 (some (r6.1,(r8.1,r9))))
 else
 (some ((r6.1.1,(x24,r6.1.2.2)),(r8.1,(0,())))))))))))
def l0 (k:Nat):Nat→T0
 | 0=>fun _ _ _ _ _ _ _ _ _ _ _ _ _ _ _ _ _ _ _ _ _ _ _ _ _=>none
 | n+1=>b0 k (l0 k n)
def t (k:Nat) (L0:T0) (a0:Ty.d aE) (a1:Ty.d aA) (a2:List (Ty.d ch)):Rs :=
 (rm (Ty.bytes aB) (0+List.length a0.2.1)
 (L0 a0.2.2.1 0 a2 a0.1.2.1 a0.2.1 a0.1.1 (aH (a0.2.2.1+1)) a0.2.2.2.1 a0.2.2.2.2.1 a1.1 a1.2.1 a1.2.2.1 a1.2.2.2.1 [] [] 0 0 0 0 [] 0 0 false [] ([]++a0.2.1)))
def f (k:Nat):=t k (l0 k k)
end bW
namespace gj
abbrev Rs:Type:=Option ((Ty.d aE) × (Ty.d aA) × Int × Unit)
def t (k:Nat) (a0:Ty.d aE) (a1:Ty.d aA) (a2:List (Ty.d ch)):Rs :=
 ((d6.f k a0).bind fun r1 =>
 ((bh.f k a1).bind fun r2 =>
 ((bS.f k a0 a1).bind fun r3 =>
 (bif (!r3.1) then
 (some (r1.1,(r2.1,(4,()))))
 else
 ((cF.f k a2).bind fun r4 =>
 (bif (!r4.1) then
 (some (r1.1,(r2.1,(4,()))))
 else
 (bif ((List.length a2:Int)==0) then
 (some (r1.1,(r2.1,(0,()))))
 else
 ((d_.f k a0.2.1 a2).bind fun r5 =>
 (bif (decide (r5.1 > 20)) then
 (some (r1.1,(r2.1,(5,()))))
 else
 (bif (decide (a0.2.2.1 > 1000000)) then
 (some (r1.1,(r2.1,(5,()))))
 else
 ((bW.f k r1.1 r2.1 a2).bind fun r6 =>
 (some r6))))))))))))
def f (k:Nat):=t k
end gj
namespace dD
abbrev Rs:Type:=Option ((Ty.d ck) × (Ty.d dz) × Unit)
def t (k:Nat) (a0:Ty.d ck) (a1:Ty.d ar):Rs :=
 (bF a1.2.1 (List.length a0.2.2.2.1:Int)
 (bF a1.2.1 (List.length a0.2.2.2.1:Int)
 (let l1:=(List.set a0.2.2.2.1 (Int.toNat a1.2.1) (false,([],([],()))));
 ((gN.f k (List.getD a0.2.2.2.1 (Int.toNat a1.2.1) (Ty.z dO)) a0.2.1.2.1).bind fun r2 =>
 (bif (!r2.1) then
 (some ((a0.1,(a0.2.1,(a0.2.2.1,(l1,())))),((7,(ByteArray.empty,([],()))),())))
 else
 ((az.f k (List.getD a0.2.2.2.1 (Int.toNat a1.2.1) (Ty.z dO))).bind fun r3 =>
 ((gj.f k a0.2.1 a0.2.2.1 r3.1).bind fun r4 =>
 (some ((a0.1,(r4.1,(r4.2.1,(l1,())))),((r4.2.2.1,(ByteArray.empty,([],()))),()))))))))))
def f (k:Nat):=t k
end dD
namespace er
abbrev Rs:Type:=Option ((Ty.d dO) × Bool × Unit)
def t (k:Nat) (a0:Ty.d dO) (a1:Ty.d ch):Rs :=
 ((eI.f k a0).bind fun r1 =>
 (bif (!a0.1) then
 (some (r1.1,(false,())))
 else
 ((cF.f k [a1]).bind fun r2 =>
 (bif (!r2.1) then
 (some (r1.1,(false,())))
 else
 (rm (Ty.bytes ch) (List.length r1.1.2.2.1+1)
 ((az.f k (r1.1.1,(r1.1.2.1,((r1.1.2.2.1++[a1]),())))).bind fun r3 =>
 (bif (decide ((List.length r3.1:Int) > 8)) then
 ((eI.f k a0).bind fun r4 =>
 (some (r4.1,(false,()))))
 else
 (bif (decide ((List.length (r1.1.2.2.1++[a1]):Int) > 50)) then
 ((eI.f k a0).bind fun r5 =>
 (some (r5.1,(false,()))))
 else
 (some ((r1.1.1,(r1.1.2.1,((r1.1.2.2.1++[a1]),()))),(true,())))))))))))
def f (k:Nat):=t k
end er
namespace aw
abbrev Rs:Type:=Option ((Ty.d ck) × (Ty.d dz) × Unit)
def t (k:Nat) (a0:Ty.d ck) (a1:Ty.d ar):Rs :=
 ((dP.f k a0).bind fun r1 =>
 (bif (a1.1==10) then
 (bif a0.1 then
 (some (r1.1,((4,(ByteArray.empty,([],()))),())))
 else
 ((dC.f k a0.2.2.1).bind fun r2 =>
 (some (r2.1,((r2.2.1,(ByteArray.empty,([],()))),())))))
 else
 (bif (a1.1==11) then
 ((bC.f k a0.2.2.1).bind fun r3 =>
 (bif (!r3.1) then
 (some (r1.1,((4,(ByteArray.empty,([],()))),())))
 else
 ((kI.f k a0.2.2.1).bind fun r4 =>
 ((aN.f k a1.2.2.2.2.1 0 (aH (100000-r4.1))).bind fun r5 =>
 (bif (!r5.1) then
 (some (r1.1,((4,(ByteArray.empty,([],()))),())))
 else
 ((kI.f k a0.2.2.1).bind fun r6 =>
 (some ((r1.1.1,(r1.1.2.1,((r1.1.2.2.1.1,((aH (r6.1+a1.2.2.2.2.1)),r1.1.2.2.1.2.2)),r1.1.2.2.2))),((0,(ByteArray.empty,([],()))),())))))))))
 else
 (bif (!a0.1) then
 (some (r1.1,((6,(ByteArray.empty,([],()))),())))
 else
 (bif (a1.1==7) then
 ((kF.f k r1.1.2.1 r1.1.2.2.1).bind fun r7 =>
 (some ((r1.1.1,(r7.1,(r7.2.1,r1.1.2.2.2))),((r7.2.2.1,(ByteArray.empty,([],()))),()))))
 else
 (bif (a1.1==8) then
 ((fB.f k r1.1.2.1.2.1).bind fun r8 =>
 (some (r1.1,((0,(ByteArray.empty,r8)),()))))
 else
 (bif (a1.1==9) then
 (vP (Ty.bytes dO) 3
 (some ((false,(((0,([],())),([],(0,(0,(0,()))))),(r1.1.2.2.1,((List.replicate (Int.toNat 3) (Ty.z dO)),())))),((0,(ByteArray.empty,([],()))),()))))
 else
 ((aN.f k a1.2.1 0 (aH ((List.length a0.2.2.2.1:Int)-1))).bind fun r9 =>
 (bif (!r9.1) then
 (some (r1.1,((4,(ByteArray.empty,([],()))),())))
 else
 ((aN.f k a1.1 1 6).bind fun r10 =>
 (bif (!r10.1) then
 (some (r1.1,((4,(ByteArray.empty,([],()))),())))
 else
 (bif (a1.1==1) then
 (bF a1.2.1 (List.length a0.2.2.2.1:Int)
 (bif (List.getD a0.2.2.2.1 (Int.toNat a1.2.1) (Ty.z dO)).1 then
 (some (r1.1,((4,(ByteArray.empty,([],()))),())))
 else
 (bif (a1.1 != 1) then
 (bF a1.2.1 (List.length a0.2.2.2.1:Int)
 (bif (!(List.getD a0.2.2.2.1 (Int.toNat a1.2.1) (Ty.z dO)).1) then
 (some (r1.1,((4,(ByteArray.empty,([],()))),())))
 else
 (bif (a1.1==1) then
 (bF a1.2.1 (List.length r1.1.2.2.2.1:Int)
 (let l11:=(List.set r1.1.2.2.2.1 (Int.toNat a1.2.1) (true,([],([],()))));
 (some ((r1.1.1,(r1.1.2.1,(r1.1.2.2.1,(l11,())))),((0,(ByteArray.empty,([],()))),())))))
 else
 (bif (a1.1==6) then
 (bF a1.2.1 (List.length r1.1.2.2.2.1:Int)
 (let l12:=(List.set r1.1.2.2.2.1 (Int.toNat a1.2.1) (false,([],([],()))));
 (some ((r1.1.1,(r1.1.2.1,(r1.1.2.2.1,(l12,())))),((0,(ByteArray.empty,([],()))),())))))
 else
 (bif (a1.1==2) then
 ((eu.f k r1.1 a1).bind fun r13 =>
 (some r13))
 else
 (bif (a1.1==5) then
 ((dD.f k r1.1 a1).bind fun r14 =>
 (some r14))
 else
 ((cF.f k [(a1.2.2.1,((a1.1==4),(a1.2.2.2.1,())))]).bind fun r15 =>
 (bif (!r15.1) then
 (some (r1.1,((4,(ByteArray.empty,([],()))),())))
 else
 (bF a1.2.1 (List.length r1.1.2.2.2.1:Int)
 ((er.f k (List.getD r1.1.2.2.2.1 (Int.toNat a1.2.1) (Ty.z dO)) (a1.2.2.1,((a1.1==4),(a1.2.2.2.1,())))).bind fun r16 =>
 (bif (!r16.2.1) then
 (some (r1.1,((5,(ByteArray.empty,([],()))),())))
 else
 (bF a1.2.1 (List.length r1.1.2.2.2.1:Int)
 (let l17:=(List.set r1.1.2.2.2.1 (Int.toNat a1.2.1) r16.1);
 (some ((r1.1.1,(r1.1.2.1,(r1.1.2.2.1,(l17,())))),((0,(ByteArray.empty,([],()))),()))))))))))))))))
 else
 (bif (a1.1==1) then
 (bF a1.2.1 (List.length r1.1.2.2.2.1:Int)
 (let l18:=(List.set r1.1.2.2.2.1 (Int.toNat a1.2.1) (true,([],([],()))));
 (some ((r1.1.1,(r1.1.2.1,(r1.1.2.2.1,(l18,())))),((0,(ByteArray.empty,([],()))),())))))
 else
 (bif (a1.1==6) then
 (bF a1.2.1 (List.length r1.1.2.2.2.1:Int)
 (let l19:=(List.set r1.1.2.2.2.1 (Int.toNat a1.2.1) (false,([],([],()))));
 (some ((r1.1.1,(r1.1.2.1,(r1.1.2.2.1,(l19,())))),((0,(ByteArray.empty,([],()))),())))))
 else
 (bif (a1.1==2) then
 ((eu.f k r1.1 a1).bind fun r20 =>
 (some r20))
 else
 (bif (a1.1==5) then
 ((dD.f k r1.1 a1).bind fun r21 =>
 (some r21))
 else
 ((cF.f k [(a1.2.2.1,((a1.1==4),(a1.2.2.2.1,())))]).bind fun r22 =>
 (bif (!r22.1) then
 (some (r1.1,((4,(ByteArray.empty,([],()))),())))
 else
 (bF a1.2.1 (List.length r1.1.2.2.2.1:Int)
 ((er.f k (List.getD r1.1.2.2.2.1 (Int.toNat a1.2.1) (Ty.z dO)) (a1.2.2.1,((a1.1==4),(a1.2.2.2.1,())))).bind fun r23 =>
 (bif (!r23.2.1) then
 (some (r1.1,((5,(ByteArray.empty,([],()))),())))
 else
 (bF a1.2.1 (List.length r1.1.2.2.2.1:Int)
 (let l24:=(List.set r1.1.2.2.2.1 (Int.toNat a1.2.1) r23.1);
 (some ((r1.1.1,(r1.1.2.1,(r1.1.2.2.1,(l24,())))),((0,(ByteArray.empty,([],()))),())))))))))))))))))
 else
 (bif (a1.1 != 1) then
 (bF a1.2.1 (List.length a0.2.2.2.1:Int)
 (bif (!(List.getD a0.2.2.2.1 (Int.toNat a1.2.1) (Ty.z dO)).1) then
 (some (r1.1,((4,(ByteArray.empty,([],()))),())))
 else
 (bif (a1.1==1) then
 (bF a1.2.1 (List.length r1.1.2.2.2.1:Int)
 (let l25:=(List.set r1.1.2.2.2.1 (Int.toNat a1.2.1) (true,([],([],()))));
 (some ((r1.1.1,(r1.1.2.1,(r1.1.2.2.1,(l25,())))),((0,(ByteArray.empty,([],()))),())))))
 else
 (bif (a1.1==6) then
 (bF a1.2.1 (List.length r1.1.2.2.2.1:Int)
 (let l26:=(List.set r1.1.2.2.2.1 (Int.toNat a1.2.1) (false,([],([],()))));
 (some ((r1.1.1,(r1.1.2.1,(r1.1.2.2.1,(l26,())))),((0,(ByteArray.empty,([],()))),())))))
 else
 (bif (a1.1==2) then
 ((eu.f k r1.1 a1).bind fun r27 =>
 (some r27))
 else
 (bif (a1.1==5) then
 ((dD.f k r1.1 a1).bind fun r28 =>
 (some r28))
 else
 ((cF.f k [(a1.2.2.1,((a1.1==4),(a1.2.2.2.1,())))]).bind fun r29 =>
 (bif (!r29.1) then
 (some (r1.1,((4,(ByteArray.empty,([],()))),())))
 else
 (bF a1.2.1 (List.length r1.1.2.2.2.1:Int)
 ((er.f k (List.getD r1.1.2.2.2.1 (Int.toNat a1.2.1) (Ty.z dO)) (a1.2.2.1,((a1.1==4),(a1.2.2.2.1,())))).bind fun r30 =>
 (bif (!r30.2.1) then
 (some (r1.1,((5,(ByteArray.empty,([],()))),())))
 else
 (bF a1.2.1 (List.length r1.1.2.2.2.1:Int)
 (let l31:=(List.set r1.1.2.2.2.1 (Int.toNat a1.2.1) r30.1);
 (some ((r1.1.1,(r1.1.2.1,(r1.1.2.2.1,(l31,())))),((0,(ByteArray.empty,([],()))),()))))))))))))))))
 else
 (bif (a1.1==1) then
 (bF a1.2.1 (List.length r1.1.2.2.2.1:Int)
 (let l32:=(List.set r1.1.2.2.2.1 (Int.toNat a1.2.1) (true,([],([],()))));
 (some ((r1.1.1,(r1.1.2.1,(r1.1.2.2.1,(l32,())))),((0,(ByteArray.empty,([],()))),())))))
 else
 (bif (a1.1==6) then
 (bF a1.2.1 (List.length r1.1.2.2.2.1:Int)
 (let l33:=(List.set r1.1.2.2.2.1 (Int.toNat a1.2.1) (false,([],([],()))));
 (some ((r1.1.1,(r1.1.2.1,(r1.1.2.2.1,(l33,())))),((0,(ByteArray.empty,([],()))),())))))
 else
 (bif (a1.1==2) then
 ((eu.f k r1.1 a1).bind fun r34 =>
 (some r34))
 else
 (bif (a1.1==5) then
 ((dD.f k r1.1 a1).bind fun r35 =>
 (some r35))
 else
 ((cF.f k [(a1.2.2.1,((a1.1==4),(a1.2.2.2.1,())))]).bind fun r36 =>
 (bif (!r36.1) then
 (some (r1.1,((4,(ByteArray.empty,([],()))),())))
 else
 (bF a1.2.1 (List.length r1.1.2.2.2.1:Int)
 ((er.f k (List.getD r1.1.2.2.2.1 (Int.toNat a1.2.1) (Ty.z dO)) (a1.2.2.1,((a1.1==4),(a1.2.2.2.1,())))).bind fun r37 =>
 (bif (!r37.2.1) then
 (some (r1.1,((5,(ByteArray.empty,([],()))),())))
 else
 (bF a1.2.1 (List.length r1.1.2.2.2.1:Int)
 (let l38:=(List.set r1.1.2.2.2.1 (Int.toNat a1.2.1) r37.1);
 (some ((r1.1.1,(r1.1.2.1,(r1.1.2.2.1,(l38,())))),((0,(ByteArray.empty,([],()))),())))))))))))))))))))))))))))
def f (k:Nat):=t k
end aw
namespace fE
abbrev Rs:Type:=Option ((Ty.d vR) × Unit)
abbrev T1:Type:=List (Ty.d ar)→Int→List Int→List (Ty.d aB)→List (Ty.d aK)→List (Ty.d dO)→List (Ty.d dz)→List (Ty.d sH)→List (Ty.d ch)→Bool→Int→Int→Int→Int→Int→Int→Bool→List Int→List (Ty.d aB)→List (Ty.d aK)→List (Ty.d dO)→List (Ty.d dz)→List (Ty.d sH)→List (Ty.d ch)→Bool→Int→Int→Int→Int→Int→Int→Bool→Rs
abbrev T0:Type:=List (Ty.d ar)→Int→List Int→List (Ty.d aB)→List (Ty.d aK)→List (Ty.d dO)→List (Ty.d dz)→List (Ty.d sH)→List (Ty.d ch)→Bool→Int→Int→Int→Int→Int→Int→Bool→List Int→List (Ty.d aB)→List (Ty.d aK)→List (Ty.d dO)→List (Ty.d dz)→List (Ty.d sH)→List (Ty.d ch)→Bool→Int→Int→Int→Int→Int→Int→Bool→Rs
def b1 (k:Nat) (L1:T1):T1:=fun x0 x1 x2 x3 x4 x5 x6 x7 x8 x9 x10 x11 x12 x13 x14 x15 x16 x17 x18 x19 x20 x21 x22 x23 x24 x25 x26 x27 x28 x29 x30 x31 =>
 (bif (decide (x1<(x0.length:Int))) then
 (bif (decide (x1<300)) then
 (bF x1 (x0.length:Int)
 (bif ((List.getD x0 (Int.toNat x1) (Ty.z ar)).1==5) then
 (bif x24 then
 ((aN.f k (List.getD x0 (Int.toNat x1) (Ty.z ar)).2.1 0 (aH ((x20.length:Int)-1))).bind fun r5 =>
 (bif r5.1 then
 (bF (List.getD x0 (Int.toNat x1) (Ty.z ar)).2.1 (x20.length:Int)
 (bif (List.getD x20 (Int.toNat (List.getD x0 (Int.toNat x1) (Ty.z ar)).2.1) (Ty.z dO)).1 then
 (bF (List.getD x0 (Int.toNat x1) (Ty.z ar)).2.1 (x20.length:Int)
 ((az.f k (List.getD x20 (Int.toNat (List.getD x0 (Int.toNat x1) (Ty.z ar)).2.1) (Ty.z dO))).bind fun r6 =>
 ((aw.f k (x24,(((x25,(x17,())),(x18,(x26,(x27,(x28,()))))),((x19,(x29,(x30,(x31,())))),(x20,())))) (List.getD x0 (Int.toNat x1) (Ty.z ar))).bind fun r7 =>
 (rm (Ty.bytes dz) (List.length x21+1)
 (bif (r7.2.1.1==0) then
 (bif (decide ((List.length r6.1:Int) > 0)) then
 (rm (Ty.bytes sH) (List.length x22+1)
 (bif (r7.2.1.1==1) then
 (some ((r7.1,((x21++[r7.2.1]),((x22++[(x26,r6)]),r6))),()))
 else
 (L1 x0 (aH (x1+1)) x2 x3 x4 x5 x6 x7 x8 x9 x10 x11 x12 x13 x14 x15 x16 r7.1.2.1.1.2.1 r7.1.2.1.2.1 r7.1.2.2.1.1 r7.1.2.2.2.1 (x21++[r7.2.1]) (x22++[(x26,r6)]) x23 r7.1.1 r7.1.2.1.1.1 r7.1.2.1.2.2.1 r7.1.2.1.2.2.2.1 r7.1.2.1.2.2.2.2.1 r7.1.2.2.1.2.1 r7.1.2.2.1.2.2.1 r7.1.2.2.1.2.2.2.1)))
 else
 (bif (r7.2.1.1==1) then
 (some ((r7.1,((x21++[r7.2.1]),(x22,r6))),()))
 else
 (L1 x0 (aH (x1+1)) x2 x3 x4 x5 x6 x7 x8 x9 x10 x11 x12 x13 x14 x15 x16 r7.1.2.1.1.2.1 r7.1.2.1.2.1 r7.1.2.2.1.1 r7.1.2.2.2.1 (x21++[r7.2.1]) x22 x23 r7.1.1 r7.1.2.1.1.1 r7.1.2.1.2.2.1 r7.1.2.1.2.2.2.1 r7.1.2.1.2.2.2.2.1 r7.1.2.2.1.2.1 r7.1.2.2.1.2.2.1 r7.1.2.2.1.2.2.2.1)))
 else
 (bif (r7.2.1.1==1) then
 (some ((r7.1,((x21++[r7.2.1]),(x22,r6))),()))
 else
 (L1 x0 (aH (x1+1)) x2 x3 x4 x5 x6 x7 x8 x9 x10 x11 x12 x13 x14 x15 x16 r7.1.2.1.1.2.1 r7.1.2.1.2.1 r7.1.2.2.1.1 r7.1.2.2.2.1 (x21++[r7.2.1]) x22 x23 r7.1.1 r7.1.2.1.1.1 r7.1.2.1.2.2.1 r7.1.2.1.2.2.2.1 r7.1.2.1.2.2.2.2.1 r7.1.2.2.1.2.1 r7.1.2.2.1.2.2.1 r7.1.2.2.1.2.2.2.1)))))))
 else
 ((aw.f k (x24,(((x25,(x17,())),(x18,(x26,(x27,(x28,()))))),((x19,(x29,(x30,(x31,())))),(x20,())))) (List.getD x0 (Int.toNat x1) (Ty.z ar))).bind fun r8 =>
 (rm (Ty.bytes dz) (List.length x21+1)
 (bif (r8.2.1.1==0) then
 (bif (r8.2.1.1==1) then
 (some ((r8.1,((x21++[r8.2.1]),(x22,([],())))),()))
 else
 (L1 x0 (aH (x1+1)) x2 x3 x4 x5 x6 x7 x8 x9 x10 x11 x12 x13 x14 x15 x16 r8.1.2.1.1.2.1 r8.1.2.1.2.1 r8.1.2.2.1.1 r8.1.2.2.2.1 (x21++[r8.2.1]) x22 x23 r8.1.1 r8.1.2.1.1.1 r8.1.2.1.2.2.1 r8.1.2.1.2.2.2.1 r8.1.2.1.2.2.2.2.1 r8.1.2.2.1.2.1 r8.1.2.2.1.2.2.1 r8.1.2.2.1.2.2.2.1))
 else
 (bif (r8.2.1.1==1) then
 (some ((r8.1,((x21++[r8.2.1]),(x22,([],())))),()))
 else
 (L1 x0 (aH (x1+1)) x2 x3 x4 x5 x6 x7 x8 x9 x10 x11 x12 x13 x14 x15 x16 r8.1.2.1.1.2.1 r8.1.2.1.2.1 r8.1.2.2.1.1 r8.1.2.2.2.1 (x21++[r8.2.1]) x22 x23 r8.1.1 r8.1.2.1.1.1 r8.1.2.1.2.2.1 r8.1.2.1.2.2.2.1 r8.1.2.1.2.2.2.2.1 r8.1.2.2.1.2.1 r8.1.2.2.1.2.2.1 r8.1.2.2.1.2.2.2.1)))))))
 else
 ((aw.f k (x24,(((x25,(x17,())),(x18,(x26,(x27,(x28,()))))),((x19,(x29,(x30,(x31,())))),(x20,())))) (List.getD x0 (Int.toNat x1) (Ty.z ar))).bind fun r9 =>
 (rm (Ty.bytes dz) (List.length x21+1)
 (bif (r9.2.1.1==0) then
 (bif (r9.2.1.1==1) then
 (some ((r9.1,((x21++[r9.2.1]),(x22,([],())))),()))
 else
 (L1 x0 (aH (x1+1)) x2 x3 x4 x5 x6 x7 x8 x9 x10 x11 x12 x13 x14 x15 x16 r9.1.2.1.1.2.1 r9.1.2.1.2.1 r9.1.2.2.1.1 r9.1.2.2.2.1 (x21++[r9.2.1]) x22 x23 r9.1.1 r9.1.2.1.1.1 r9.1.2.1.2.2.1 r9.1.2.1.2.2.2.1 r9.1.2.1.2.2.2.2.1 r9.1.2.2.1.2.1 r9.1.2.2.1.2.2.1 r9.1.2.2.1.2.2.2.1))
 else
 (bif (r9.2.1.1==1) then
 (some ((r9.1,((x21++[r9.2.1]),(x22,([],())))),()))
 else
 (L1 x0 (aH (x1+1)) x2 x3 x4 x5 x6 x7 x8 x9 x10 x11 x12 x13 x14 x15 x16 r9.1.2.1.1.2.1 r9.1.2.1.2.1 r9.1.2.2.1.1 r9.1.2.2.2.1 (x21++[r9.2.1]) x22 x23 r9.1.1 r9.1.2.1.1.1 r9.1.2.1.2.2.1 r9.1.2.1.2.2.2.1 r9.1.2.1.2.2.2.2.1 r9.1.2.2.1.2.1 r9.1.2.2.1.2.2.1 r9.1.2.2.1.2.2.2.1)))))))
 else
 ((aw.f k (x24,(((x25,(x17,())),(x18,(x26,(x27,(x28,()))))),((x19,(x29,(x30,(x31,())))),(x20,())))) (List.getD x0 (Int.toNat x1) (Ty.z ar))).bind fun r10 =>
 (rm (Ty.bytes dz) (List.length x21+1)
 (bif (r10.2.1.1==0) then
 (bif (r10.2.1.1==1) then
 (some ((r10.1,((x21++[r10.2.1]),(x22,([],())))),()))
 else
 (L1 x0 (aH (x1+1)) x2 x3 x4 x5 x6 x7 x8 x9 x10 x11 x12 x13 x14 x15 x16 r10.1.2.1.1.2.1 r10.1.2.1.2.1 r10.1.2.2.1.1 r10.1.2.2.2.1 (x21++[r10.2.1]) x22 x23 r10.1.1 r10.1.2.1.1.1 r10.1.2.1.2.2.1 r10.1.2.1.2.2.2.1 r10.1.2.1.2.2.2.2.1 r10.1.2.2.1.2.1 r10.1.2.2.1.2.2.1 r10.1.2.2.1.2.2.2.1))
 else
 (bif (r10.2.1.1==1) then
 (some ((r10.1,((x21++[r10.2.1]),(x22,([],())))),()))
 else
 (L1 x0 (aH (x1+1)) x2 x3 x4 x5 x6 x7 x8 x9 x10 x11 x12 x13 x14 x15 x16 r10.1.2.1.1.2.1 r10.1.2.1.2.1 r10.1.2.2.1.1 r10.1.2.2.2.1 (x21++[r10.2.1]) x22 x23 r10.1.1 r10.1.2.1.1.1 r10.1.2.1.2.2.1 r10.1.2.1.2.2.2.1 r10.1.2.1.2.2.2.2.1 r10.1.2.2.1.2.1 r10.1.2.2.1.2.2.1 r10.1.2.2.1.2.2.2.1))))))
 else
 ((aw.f k (x24,(((x25,(x17,())),(x18,(x26,(x27,(x28,()))))),((x19,(x29,(x30,(x31,())))),(x20,())))) (List.getD x0 (Int.toNat x1) (Ty.z ar))).bind fun r11 =>
 (rm (Ty.bytes dz) (List.length x21+1)
 (bif (r11.2.1.1==0) then
 (bif (r11.2.1.1==1) then
 (some ((r11.1,((x21++[r11.2.1]),(x22,([],())))),()))
 else
 (L1 x0 (aH (x1+1)) x2 x3 x4 x5 x6 x7 x8 x9 x10 x11 x12 x13 x14 x15 x16 r11.1.2.1.1.2.1 r11.1.2.1.2.1 r11.1.2.2.1.1 r11.1.2.2.2.1 (x21++[r11.2.1]) x22 x23 r11.1.1 r11.1.2.1.1.1 r11.1.2.1.2.2.1 r11.1.2.1.2.2.2.1 r11.1.2.1.2.2.2.2.1 r11.1.2.2.1.2.1 r11.1.2.2.1.2.2.1 r11.1.2.2.1.2.2.2.1))
 else
 (bif (r11.2.1.1==1) then
 (some ((r11.1,((x21++[r11.2.1]),(x22,([],())))),()))
 else
 (L1 x0 (aH (x1+1)) x2 x3 x4 x5 x6 x7 x8 x9 x10 x11 x12 x13 x14 x15 x16 r11.1.2.1.1.2.1 r11.1.2.1.2.1 r11.1.2.2.1.1 r11.1.2.2.2.1 (x21++[r11.2.1]) x22 x23 r11.1.1 r11.1.2.1.1.1 r11.1.2.1.2.2.1 r11.1.2.1.2.2.2.1 r11.1.2.1.2.2.2.2.1 r11.1.2.2.1.2.1 r11.1.2.2.1.2.2.1 r11.1.2.2.1.2.2.2.1)))))))
 else
 (some (((x24,(((x25,(x17,())),(x18,(x26,(x27,(x28,()))))),((x19,(x29,(x30,(x31,())))),(x20,())))),(x21,(x22,(x23,())))),())))
 else
 (some (((x24,(((x25,(x17,())),(x18,(x26,(x27,(x28,()))))),((x19,(x29,(x30,(x31,())))),(x20,())))),(x21,(x22,(x23,())))),())))
def l1 (k:Nat):Nat→T1
 | 0=>fun _ _ _ _ _ _ _ _ _ _ _ _ _ _ _ _ _ _ _ _ _ _ _ _ _ _ _ _ _ _ _ _=>none
 | n+1=>b1 k (l1 k n)
def b0 (k:Nat) (L1:T1):T0:=fun x0 x1 x2 x3 x4 x5 x6 x7 x8 x9 x10 x11 x12 x13 x14 x15 x16 x17 x18 x19 x20 x21 x22 x23 x24 x25 x26 x27 x28 x29 x30 x31 =>
 (bif (decide (x1<(x0.length:Int))) then
 (bif (decide (x1<300)) then
 (bF x1 (x0.length:Int)
 (bif ((List.getD x0 (Int.toNat x1) (Ty.z ar)).1==5) then
 (bif x24 then
 ((aN.f k (List.getD x0 (Int.toNat x1) (Ty.z ar)).2.1 0 (aH ((x20.length:Int)-1))).bind fun r2 =>
 (bif r2.1 then
 (bF (List.getD x0 (Int.toNat x1) (Ty.z ar)).2.1 (x20.length:Int)
 (bif (List.getD x20 (Int.toNat (List.getD x0 (Int.toNat x1) (Ty.z ar)).2.1) (Ty.z dO)).1 then
 (bF (List.getD x0 (Int.toNat x1) (Ty.z ar)).2.1 (x20.length:Int)
 ((az.f k (List.getD x20 (Int.toNat (List.getD x0 (Int.toNat x1) (Ty.z ar)).2.1) (Ty.z dO))).bind fun r3 =>
 ((aw.f k (x24,(((x25,(x17,())),(x18,(x26,(x27,(x28,()))))),((x19,(x29,(x30,(x31,())))),(x20,())))) (List.getD x0 (Int.toNat x1) (Ty.z ar))).bind fun r4 =>
 (rm (Ty.bytes dz) (List.length x21+1)
 (bif (r4.2.1.1==0) then
 (bif (decide ((List.length r3.1:Int) > 0)) then
 (rm (Ty.bytes sH) (List.length x22+1)
 (bif (r4.2.1.1==1) then
 (some ((r4.1,((x21++[r4.2.1]),((x22++[(x26,r3)]),r3))),()))
 else
 (L1 x0 (aH (x1+1)) x2 x3 x4 x5 x6 x7 x8 x9 x10 x11 x12 x13 x14 x15 x16 r4.1.2.1.1.2.1 r4.1.2.1.2.1 r4.1.2.2.1.1 r4.1.2.2.2.1 (x21++[r4.2.1]) (x22++[(x26,r3)]) x23 r4.1.1 r4.1.2.1.1.1 r4.1.2.1.2.2.1 r4.1.2.1.2.2.2.1 r4.1.2.1.2.2.2.2.1 r4.1.2.2.1.2.1 r4.1.2.2.1.2.2.1 r4.1.2.2.1.2.2.2.1)))
 else
 (bif (r4.2.1.1==1) then
 (some ((r4.1,((x21++[r4.2.1]),(x22,r3))),()))
 else
 (L1 x0 (aH (x1+1)) x2 x3 x4 x5 x6 x7 x8 x9 x10 x11 x12 x13 x14 x15 x16 r4.1.2.1.1.2.1 r4.1.2.1.2.1 r4.1.2.2.1.1 r4.1.2.2.2.1 (x21++[r4.2.1]) x22 x23 r4.1.1 r4.1.2.1.1.1 r4.1.2.1.2.2.1 r4.1.2.1.2.2.2.1 r4.1.2.1.2.2.2.2.1 r4.1.2.2.1.2.1 r4.1.2.2.1.2.2.1 r4.1.2.2.1.2.2.2.1)))
 else
 (bif (r4.2.1.1==1) then
 (some ((r4.1,((x21++[r4.2.1]),(x22,r3))),()))
 else
 (L1 x0 (aH (x1+1)) x2 x3 x4 x5 x6 x7 x8 x9 x10 x11 x12 x13 x14 x15 x16 r4.1.2.1.1.2.1 r4.1.2.1.2.1 r4.1.2.2.1.1 r4.1.2.2.2.1 (x21++[r4.2.1]) x22 x23 r4.1.1 r4.1.2.1.1.1 r4.1.2.1.2.2.1 r4.1.2.1.2.2.2.1 r4.1.2.1.2.2.2.2.1 r4.1.2.2.1.2.1 r4.1.2.2.1.2.2.1 r4.1.2.2.1.2.2.2.1)))))))
 else
 ((aw.f k (x24,(((x25,(x17,())),(x18,(x26,(x27,(x28,()))))),((x19,(x29,(x30,(x31,())))),(x20,())))) (List.getD x0 (Int.toNat x1) (Ty.z ar))).bind fun r12 =>
 (rm (Ty.bytes dz) (List.length x21+1)
 (bif (r12.2.1.1==0) then
 (bif (r12.2.1.1==1) then
 (some ((r12.1,((x21++[r12.2.1]),(x22,([],())))),()))
 else
 (L1 x0 (aH (x1+1)) x2 x3 x4 x5 x6 x7 x8 x9 x10 x11 x12 x13 x14 x15 x16 r12.1.2.1.1.2.1 r12.1.2.1.2.1 r12.1.2.2.1.1 r12.1.2.2.2.1 (x21++[r12.2.1]) x22 x23 r12.1.1 r12.1.2.1.1.1 r12.1.2.1.2.2.1 r12.1.2.1.2.2.2.1 r12.1.2.1.2.2.2.2.1 r12.1.2.2.1.2.1 r12.1.2.2.1.2.2.1 r12.1.2.2.1.2.2.2.1))
 else
 (bif (r12.2.1.1==1) then
 (some ((r12.1,((x21++[r12.2.1]),(x22,([],())))),()))
 else
 (L1 x0 (aH (x1+1)) x2 x3 x4 x5 x6 x7 x8 x9 x10 x11 x12 x13 x14 x15 x16 r12.1.2.1.1.2.1 r12.1.2.1.2.1 r12.1.2.2.1.1 r12.1.2.2.2.1 (x21++[r12.2.1]) x22 x23 r12.1.1 r12.1.2.1.1.1 r12.1.2.1.2.2.1 r12.1.2.1.2.2.2.1 r12.1.2.1.2.2.2.2.1 r12.1.2.2.1.2.1 r12.1.2.2.1.2.2.1 r12.1.2.2.1.2.2.2.1)))))))
 else
 ((aw.f k (x24,(((x25,(x17,())),(x18,(x26,(x27,(x28,()))))),((x19,(x29,(x30,(x31,())))),(x20,())))) (List.getD x0 (Int.toNat x1) (Ty.z ar))).bind fun r13 =>
 (rm (Ty.bytes dz) (List.length x21+1)
 (bif (r13.2.1.1==0) then
 (bif (r13.2.1.1==1) then
 (some ((r13.1,((x21++[r13.2.1]),(x22,([],())))),()))
 else
 (L1 x0 (aH (x1+1)) x2 x3 x4 x5 x6 x7 x8 x9 x10 x11 x12 x13 x14 x15 x16 r13.1.2.1.1.2.1 r13.1.2.1.2.1 r13.1.2.2.1.1 r13.1.2.2.2.1 (x21++[r13.2.1]) x22 x23 r13.1.1 r13.1.2.1.1.1 r13.1.2.1.2.2.1 r13.1.2.1.2.2.2.1 r13.1.2.1.2.2.2.2.1 r13.1.2.2.1.2.1 r13.1.2.2.1.2.2.1 r13.1.2.2.1.2.2.2.1))
 else
 (bif (r13.2.1.1==1) then
 (some ((r13.1,((x21++[r13.2.1]),(x22,([],())))),()))
 else
 (L1 x0 (aH (x1+1)) x2 x3 x4 x5 x6 x7 x8 x9 x10 x11 x12 x13 x14 x15 x16 r13.1.2.1.1.2.1 r13.1.2.1.2.1 r13.1.2.2.1.1 r13.1.2.2.2.1 (x21++[r13.2.1]) x22 x23 r13.1.1 r13.1.2.1.1.1 r13.1.2.1.2.2.1 r13.1.2.1.2.2.2.1 r13.1.2.1.2.2.2.2.1 r13.1.2.2.1.2.1 r13.1.2.2.1.2.2.1 r13.1.2.2.1.2.2.2.1)))))))
 else
 ((aw.f k (x24,(((x25,(x17,())),(x18,(x26,(x27,(x28,()))))),((x19,(x29,(x30,(x31,())))),(x20,())))) (List.getD x0 (Int.toNat x1) (Ty.z ar))).bind fun r14 =>
 (rm (Ty.bytes dz) (List.length x21+1)
 (bif (r14.2.1.1==0) then
 (bif (r14.2.1.1==1) then
 (some ((r14.1,((x21++[r14.2.1]),(x22,([],())))),()))
 else
 (L1 x0 (aH (x1+1)) x2 x3 x4 x5 x6 x7 x8 x9 x10 x11 x12 x13 x14 x15 x16 r14.1.2.1.1.2.1 r14.1.2.1.2.1 r14.1.2.2.1.1 r14.1.2.2.2.1 (x21++[r14.2.1]) x22 x23 r14.1.1 r14.1.2.1.1.1 r14.1.2.1.2.2.1 r14.1.2.1.2.2.2.1 r14.1.2.1.2.2.2.2.1 r14.1.2.2.1.2.1 r14.1.2.2.1.2.2.1 r14.1.2.2.1.2.2.2.1))
 else
 (bif (r14.2.1.1==1) then
 (some ((r14.1,((x21++[r14.2.1]),(x22,([],())))),()))
 else
 (L1 x0 (aH (x1+1)) x2 x3 x4 x5 x6 x7 x8 x9 x10 x11 x12 x13 x14 x15 x16 r14.1.2.1.1.2.1 r14.1.2.1.2.1 r14.1.2.2.1.1 r14.1.2.2.2.1 (x21++[r14.2.1]) x22 x23 r14.1.1 r14.1.2.1.1.1 r14.1.2.1.2.2.1 r14.1.2.1.2.2.2.1 r14.1.2.1.2.2.2.2.1 r14.1.2.2.1.2.1 r14.1.2.2.1.2.2.1 r14.1.2.2.1.2.2.2.1))))))
 else
 ((aw.f k (x24,(((x25,(x17,())),(x18,(x26,(x27,(x28,()))))),((x19,(x29,(x30,(x31,())))),(x20,())))) (List.getD x0 (Int.toNat x1) (Ty.z ar))).bind fun r15 =>
 (rm (Ty.bytes dz) (List.length x21+1)
 (bif (r15.2.1.1==0) then
 (bif (r15.2.1.1==1) then
 (some ((r15.1,((x21++[r15.2.1]),(x22,([],())))),()))
 else
 (L1 x0 (aH (x1+1)) x2 x3 x4 x5 x6 x7 x8 x9 x10 x11 x12 x13 x14 x15 x16 r15.1.2.1.1.2.1 r15.1.2.1.2.1 r15.1.2.2.1.1 r15.1.2.2.2.1 (x21++[r15.2.1]) x22 x23 r15.1.1 r15.1.2.1.1.1 r15.1.2.1.2.2.1 r15.1.2.1.2.2.2.1 r15.1.2.1.2.2.2.2.1 r15.1.2.2.1.2.1 r15.1.2.2.1.2.2.1 r15.1.2.2.1.2.2.2.1))
 else
 (bif (r15.2.1.1==1) then
 (some ((r15.1,((x21++[r15.2.1]),(x22,([],())))),()))
 else
 (L1 x0 (aH (x1+1)) x2 x3 x4 x5 x6 x7 x8 x9 x10 x11 x12 x13 x14 x15 x16 r15.1.2.1.1.2.1 r15.1.2.1.2.1 r15.1.2.2.1.1 r15.1.2.2.2.1 (x21++[r15.2.1]) x22 x23 r15.1.1 r15.1.2.1.1.1 r15.1.2.1.2.2.1 r15.1.2.1.2.2.2.1 r15.1.2.1.2.2.2.2.1 r15.1.2.2.1.2.1 r15.1.2.2.1.2.2.1 r15.1.2.2.1.2.2.2.1)))))))
 else
 (some (((x24,(((x25,(x17,())),(x18,(x26,(x27,(x28,()))))),((x19,(x29,(x30,(x31,())))),(x20,())))),(x21,(x22,(x23,())))),())))
 else
 (some (((x24,(((x25,(x17,())),(x18,(x26,(x27,(x28,()))))),((x19,(x29,(x30,(x31,())))),(x20,())))),(x21,(x22,(x23,())))),())))
def l0 (k:Nat):Nat→T0
 | 0=>fun _ _ _ _ _ _ _ _ _ _ _ _ _ _ _ _ _ _ _ _ _ _ _ _ _ _ _ _ _ _ _ _=>none
 | n+1=>b0 k (l1 k n)
def t (k:Nat) (L0:T0) (a0:Ty.d ck) (a1:List (Ty.d ar)):Rs :=
 ((dP.f k a0).bind fun r1 =>
 (L0 a1 0 [] [] [] [] [] [] [] false 0 0 0 0 0 0 false r1.1.2.1.1.2.1 r1.1.2.1.2.1 r1.1.2.2.1.1 r1.1.2.2.2.1 [] [] [] r1.1.1 r1.1.2.1.1.1 r1.1.2.1.2.2.1 r1.1.2.1.2.2.2.1 r1.1.2.1.2.2.2.2.1 r1.1.2.2.1.2.1 r1.1.2.2.1.2.2.1 r1.1.2.2.1.2.2.2.1))
def f (k:Nat):=t k (l0 k k)
end fE
namespace kz
abbrev Rs:Type:=Option ((Ty.d vR) × Unit)
def t (k:Nat) (a0:Ty.d kh):Rs :=
 ((aN.f k a0.1 0 100000).bind fun r1 =>
 (bif (!r1.1) then
 (some (((false,(((0,([],())),([],(0,(0,(0,()))))),(([],(0,(0,(false,())))),([],())))),([],([],([],())))),()))
 else
 ((aN.f k a0.2.1 (-1) 100000).bind fun r2 =>
 (bif (!r2.1) then
 (some (((false,(((0,([],())),([],(0,(0,(0,()))))),(([],(0,(0,(false,())))),([],())))),([],([],([],())))),()))
 else
 ((gT.f k a0.1).bind fun r3 =>
 ((i8.f k r3.1 a0.2.1).bind fun r4 =>
 ((dC.f k r4.1).bind fun r5 =>
 (bif (r5.2.1 != 0) then
 (some ((r5.1,([],([],([],())))),()))
 else
 ((fE.f k r5.1 a0.2.2.1).bind fun r6 =>
 (some r6))))))))))
def f (k:Nat):=t k
end kz
namespace b9
abbrev Rs:Type:=Option (Bool × Unit)
def t (k:Nat) (a0:Int) (a1:Int) (a2:Int):Rs :=
 (bif (decide (a0≥a1)) then
 (some ((decide (a0≤a2)),()))
 else
 (some (false,())))
def f (k:Nat):=t k
end b9
namespace fo
abbrev Rs:Type:=Option (Bool × Unit)
abbrev T0:Type:=ByteArray→Int→Rs
def b0 (k:Nat) (L0:T0):T0:=fun x0 x1 =>
 (bif (decide (x1<(ByteArray.size x0:Int))) then
 (bF x1 (ByteArray.size x0:Int)
 (bif (decide ((di x0 x1)≥97)) then
 (bF x1 (ByteArray.size x0:Int)
 (bif (!(decide ((di x0 x1)≤122))) then
 (bF x1 (ByteArray.size x0:Int)
 (bif (decide ((di x0 x1)≥48)) then
 (bF x1 (ByteArray.size x0:Int)
 (bif (!(decide ((di x0 x1)≤57))) then
 (some (false,()))
 else
 (L0 x0 (aH (x1+1)))))
 else
 (some (false,()))))
 else
 (L0 x0 (aH (x1+1)))))
 else
 (bF x1 (ByteArray.size x0:Int)
 (bif (decide ((di x0 x1)≥48)) then
 (bF x1 (ByteArray.size x0:Int)
 (bif (!(decide ((di x0 x1)≤57))) then
 (some (false,()))
 else
 (L0 x0 (aH (x1+1)))))
 else
 (some (false,()))))))
 else
 ((b9.f k (ByteArray.size x0:Int) 1 12).bind fun r1 =>
 (some r1)))
def l0 (k:Nat):Nat→T0
 | 0=>fun _ _=>none
 | n+1=>b0 k (l0 k n)
def t (k:Nat) (L0:T0) (a0:ByteArray):Rs :=
 (L0 a0 0)
def f (k:Nat):=t k (l0 k k)
end fo
namespace dY
abbrev Rs:Type:=Option (Bool × Unit)
abbrev T0:Type:=Int→List (Ty.d aK)→Int→Int→List (Ty.d aK)→Int→Int→Bool→Rs
def b0 (k:Nat) (L0:T0):T0:=fun x0 x1 x2 x3 x4 x5 x6 x7 =>
 (bif (decide (x3<x2)) then
 (bF x3 (x1.length:Int)
 ((fo.f k (List.getD x1 (Int.toNat x3) (Ty.z aK)).1).bind fun r3 =>
 (bif (!r3.1) then
 (some (false,()))
 else
 ((b9.f k (List.getD x1 (Int.toNat x3) (Ty.z aK)).2.2.1 0 (ByteArray.size (List.getD x1 (Int.toNat x3) (Ty.z aK)).2.1:Int)).bind fun r4 =>
 (bif (!r4.1) then
 (some (false,()))
 else
 (bif (decide (x3 > 0)) then
 (bF (aH (x3-1)) (x4.length:Int)
 (bif (!(mw (List.getD x4 (Int.toNat (aH (x3-1))) (Ty.z aK)).1 (List.getD x1 (Int.toNat x3) (Ty.z aK)).1)) then
 (some (false,()))
 else
 (L0 (aH (x0+(ByteArray.size (List.getD x1 (Int.toNat x3) (Ty.z aK)).2.1:Int))) x1 x2 (aH (x3+1)) x4 x5 x6 x7)))
 else
 (L0 (aH (x0+(ByteArray.size (List.getD x1 (Int.toNat x3) (Ty.z aK)).2.1:Int))) x1 x2 (aH (x3+1)) x4 x5 x6 x7)))))))
 else
 (some ((decide (x0≤x5)),())))
def l0 (k:Nat):Nat→T0
 | 0=>fun _ _ _ _ _ _ _ _=>none
 | n+1=>b0 k (l0 k n)
def t (k:Nat) (L0:T0) (a0:Ty.d aA):Rs :=
 (bif (decide ((List.length a0.1:Int) > 130)) then
 (some (false,()))
 else
 ((b9.f k a0.2.1 0 100000).bind fun r1 =>
 (bif (!r1.1) then
 (some (false,()))
 else
 ((b9.f k a0.2.2.1 (-1) 100000).bind fun r2 =>
 (bif (!r2.1) then
 (some (false,()))
 else
 (L0 0 a0.1 (List.length a0.1:Int) 0 a0.1 a0.2.1 a0.2.2.1 a0.2.2.2.1))))))
def f (k:Nat):=t k (l0 k k)
end dY
namespace da
abbrev Rs:Type:=Option (Bool × Unit)
abbrev T0:Type:=List Int→Int→Int→Int→List Int→Rs
def b0 (k:Nat) (L0:T0):T0:=fun x0 x1 x2 x3 x4 =>
 (bif (decide (x2<x1)) then
 (bF x2 (x0.length:Int)
 ((b9.f k (List.getD x0 (Int.toNat x2) (Ty.z (.int .i64))) 1 (aH (x3-1))).bind fun r1 =>
 (bif (!r1.1) then
 (some (false,()))
 else
 (bif (decide (x2 > 0)) then
 (bF (aH (x2-1)) (x4.length:Int)
 (bif (decide ((List.getD x4 (Int.toNat (aH (x2-1))) (Ty.z (.int .i64)))≥(List.getD x0 (Int.toNat x2) (Ty.z (.int .i64))))) then
 (some (false,()))
 else
 (L0 x0 x1 (aH (x2+1)) x3 x4)))
 else
 (L0 x0 x1 (aH (x2+1)) x3 x4)))))
 else
 ((b9.f k x3 1 100000).bind fun r2 =>
 (bif r2.1 then
 ((b9.f k (x4.length:Int) 1 60).bind fun r3 =>
 (some r3))
 else
 (some (false,())))))
def l0 (k:Nat):Nat→T0
 | 0=>fun _ _ _ _ _=>none
 | n+1=>b0 k (l0 k n)
def t (k:Nat) (L0:T0) (a0:Ty.d cZ):Rs :=
 (L0 a0.2.1 (List.length a0.2.1:Int) 0 a0.1 a0.2.1)
def f (k:Nat):=t k (l0 k k)
end da
namespace gQ
abbrev Rs:Type:=Option (Bool × Unit)
def t (k:Nat) (a0:ByteArray):Rs :=
 ((b9.f k (ByteArray.size a0:Int) 1 8).bind fun r1 =>
 (some r1))
def f (k:Nat):=t k
end gQ
namespace fe
abbrev Rs:Type:=Option (Bool × Unit)
abbrev T0:Type:=List (Ty.d aB)→List (Ty.d aB)→Int→Int→Rs
def b0 (k:Nat) (L0:T0):T0:=fun x0 x1 x2 x3 =>
 (bif (decide (x3<x2)) then
 (bF x3 (x1.length:Int)
 ((gQ.f k (List.getD x1 (Int.toNat x3) (Ty.z aB)).1).bind fun r1 =>
 (bif (!r1.1) then
 (some (false,()))
 else
 ((b9.f k (List.getD x1 (Int.toNat x3) (Ty.z aB)).2.1 1 100000).bind fun r2 =>
 (bif (!r2.1) then
 (some (false,()))
 else
 (bif (decide ((List.getD x1 (Int.toNat x3) (Ty.z aB)).2.2.1<0)) then
 (some (false,()))
 else
 ((b9.f k (List.getD x1 (Int.toNat x3) (Ty.z aB)).2.2.2.1 1 210).bind fun r3 =>
 (bif (!r3.1) then
 (some (false,()))
 else
 ((b9.f k (List.getD x1 (Int.toNat x3) (Ty.z aB)).2.2.2.2.1 1 1000000).bind fun r4 =>
 (bif (!r4.1) then
 (some (false,()))
 else
 (bif (decide (x3 > 0)) then
 (bF (aH (x3-1)) (x0.length:Int)
 (bif (!(mw (List.getD x0 (Int.toNat (aH (x3-1))) (Ty.z aB)).1 (List.getD x1 (Int.toNat x3) (Ty.z aB)).1)) then
 (some (false,()))
 else
 (L0 x0 x1 x2 (aH (x3+1)))))
 else
 (L0 x0 x1 x2 (aH (x3+1))))))))))))))
 else
 (some ((decide ((x0.length:Int)≤20)),())))
def l0 (k:Nat):Nat→T0
 | 0=>fun _ _ _ _=>none
 | n+1=>b0 k (l0 k n)
def t (k:Nat) (L0:T0) (a0:List (Ty.d aB)):Rs :=
 (L0 a0 a0 (List.length a0:Int) 0)
def f (k:Nat):=t k (l0 k k)
end fe
namespace mK
abbrev Rs:Type:=Option (ByteArray × Unit)
def t (k:Nat) (a0:Int):Rs :=
 ((mI.f k a0).bind fun r1 =>
 (some r1))
def f (k:Nat):=t k
end mK
namespace jy
abbrev Rs:Type:=Option (ByteArray × Unit)
def t (k:Nat) (a0:ByteArray) (a1:Int):Rs :=
 ((b9.f k a1 1 100000).bind fun r1 =>
 (bif (!r1.1) then
 (some ((⟨#[]⟩:ByteArray),()))
 else
 ((mK.f k a1).bind fun r2 =>
 (kW a0 r2.1
 (some ((a0++r2.1),()))))))
def f (k:Nat):=t k
end jy
namespace g9
abbrev Rs:Type:=Option (ByteArray × Unit)
def t (k:Nat) (a0:Int):Rs :=
 ((jy.f k (⟨#[115,101,103]⟩:ByteArray) a0).bind fun r1 =>
 (some r1))
def f (k:Nat):=t k
end g9
namespace fp
abbrev Rs:Type:=Option (Int × Unit)
abbrev T0:Type:=ByteArray→List (Ty.d aK)→Int→Int→Rs
def b0 (k:Nat) (L0:T0):T0:=fun x0 x1 x2 x3 =>
 (bif (decide (x3<x2)) then
 (bF x3 (x1.length:Int)
 (bif (seq (List.getD x1 (Int.toNat x3) (Ty.z aK)).1 x0) then
 (some (x3,()))
 else
 (L0 x0 x1 x2 (aH (x3+1)))))
 else
 (some ((-1),())))
def l0 (k:Nat):Nat→T0
 | 0=>fun _ _ _ _=>none
 | n+1=>b0 k (l0 k n)
def t (k:Nat) (L0:T0) (a0:Ty.d aA) (a1:ByteArray):Rs :=
 (L0 a1 a0.1 (List.length a0.1:Int) 0)
def f (k:Nat):=t k (l0 k k)
end fp
namespace fS
abbrev Rs:Type:=Option (ByteArray × Bool × Unit)
def t (k:Nat) (a0:Ty.d aA) (a1:ByteArray):Rs :=
 ((fp.f k a0 a1).bind fun r1 =>
 (bif (decide (r1.1<0)) then
 (some ((⟨#[]⟩:ByteArray),(false,())))
 else
 ((dY.f k a0).bind fun r2 =>
 (bif (!r2.1) then
 (some ((⟨#[]⟩:ByteArray),(false,())))
 else
 (bF r1.1 (List.length a0.1:Int)
 (some ((List.getD a0.1 (Int.toNat r1.1) (Ty.z aK)).2.1,(true,()))))))))
def f (k:Nat):=t k
end fS
namespace cU
abbrev Rs:Type:=Option (Int × Int × Unit)
abbrev T0:Type:=ByteArray→Int→Int→Rs
def b0 (k:Nat) (L0:T0):T0:=fun x0 x1 x2 =>
 (bif (decide (x2<7)) then
 (bif (decide (x2<(ByteArray.size x0:Int))) then
 (bF x2 (ByteArray.size x0:Int)
 (bif (decide ((aH (7*x2))<0)) then none else
 (bif (decide ((aH (di x0 x2))≥128)) then
 (L0 x0 (aH (x1+(aH ((Int.tmod (aH (di x0 x2)) 128)*2 ^ (min (Int.toNat (aH (7*x2))) (IntKind.bits .i64)))))) (aH (x2+1)))
 else
 (bif ((aH (di x0 x2))==0) then
 (bif (decide (x2 > 0)) then
 (some (0,(0,())))
 else
 (some ((aH (x1+(aH ((Int.tmod (aH (di x0 x2)) 128)*2 ^ (min (Int.toNat (aH (7*x2))) (IntKind.bits .i64)))))),((aH (x2+1)),()))))
 else
 (some ((aH (x1+(aH ((Int.tmod (aH (di x0 x2)) 128)*2 ^ (min (Int.toNat (aH (7*x2))) (IntKind.bits .i64)))))),((aH (x2+1)),())))))))
 else
 (some (0,(0,()))))
 else
 (some (0,(0,()))))
def l0 (k:Nat):Nat→T0
 | 0=>fun _ _ _=>none
 | n+1=>b0 k (l0 k n)
def t (k:Nat) (L0:T0) (a0:ByteArray):Rs :=
 (L0 a0 0 0)
def f (k:Nat):=t k (l0 k k)
end cU
namespace fG
abbrev Rs:Type:=Option (ByteArray × Unit)
abbrev T0:Type:=Int→List Int→Rs
def b0 (k:Nat) (L0:T0):T0:=fun x0 x1 =>
 (bif (decide (x0 > 127)) then
 (rm (Ty.bytes (.int .u8)) (List.length x1+1)
 (L0 (aH (Int.tdiv x0 128)) (x1++[(IntKind.wrap .u8 (aH ((Int.tmod x0 128)+128)))])))
 else
 (rm (Ty.bytes (.int .u8)) (List.length x1+1)
 (some ((bytesOf (x1++[(IntKind.wrap .u8 x0)])),()))))
def l0 (k:Nat):Nat→T0
 | 0=>fun _ _=>none
 | n+1=>b0 k (l0 k n)
def t (k:Nat) (L0:T0) (a0:Int):Rs :=
 ((b9.f k a0 0 562949953421311).bind fun r1 =>
 (bif (!r1.1) then
 (some ((⟨#[]⟩:ByteArray),()))
 else
 (L0 a0 [])))
def f (k:Nat):=t k (l0 k k)
end fG
namespace eZ
abbrev Rs:Type:=Option (ByteArray × Unit)
def t (k:Nat) (a0:ByteArray):Rs :=
 ((fG.f k (ByteArray.size a0:Int)).bind fun r1 =>
 (kW r1.1 a0
 (some ((r1.1++a0),()))))
def f (k:Nat):=t k
end eZ
namespace gL
abbrev Rs:Type:=Option (Int × Unit)
abbrev T1:Type:=ByteArray→Int→Int→Int→Rs
abbrev T0:Type:=ByteArray→Int→Int→Rs
def b1 (k:Nat) (L0:T0) (L1:T1):T1:=fun x0 x1 x2 x3 =>
 (bif (decide (x3<8)) then
 (bif ((IntKind.wrap .u32 (((BitVec.ofInt (IntKind.bits .u32) x1 &&& BitVec.ofInt (IntKind.bits .u32) 1).toNat:Int)))==1) then
 (L1 x0 (IntKind.wrap .u32 (((BitVec.ofInt (IntKind.bits .u32) (Int.fdiv x1 (2 ^ (Int.toNat 1))) ^^^ BitVec.ofInt (IntKind.bits .u32) 2197175160).toNat:Int))) x2 (aH (x3+1)))
 else
 (L1 x0 (Int.fdiv x1 (2 ^ (Int.toNat 1))) x2 (aH (x3+1))))
 else
 (L0 x0 x1 (aH (x2+1))))
def l1 (k:Nat) (L0:T0):Nat→T1
 | 0=>fun _ _ _ _=>none
 | n+1=>b1 k L0 (l1 k L0 n)
def b0 (k:Nat) (L1:T1) (L0:T0):T0:=fun x0 x1 x2 =>
 (bif (decide (x2<(ByteArray.size x0:Int))) then
 (bF x2 (ByteArray.size x0:Int)
 (L1 x0 (IntKind.wrap .u32 (((BitVec.ofInt (IntKind.bits .u32) x1 ^^^ BitVec.ofInt (IntKind.bits .u32) (IntKind.wrap .u32 (di x0 x2))).toNat:Int))) x2 0))
 else
 (some ((aH (E7 .u32 x1)),())))
def l0 (k:Nat):Nat→T0
 | 0=>fun _ _ _=>none
 | n+1=>b0 k (l1 k (l0 k n) k) (l0 k n)
def t (k:Nat) (L0:T0) (a0:ByteArray):Rs :=
 (L0 a0 4294967295 0)
def f (k:Nat):=t k (l0 k k)
end gL
namespace dk
abbrev Rs:Type:=Option (ByteArray × Unit)
abbrev T0:Type:=Int→Int→List Int→Rs
def b0 (k:Nat) (L0:T0):T0:=fun x0 x1 x2 =>
 (bif (decide (x1≥0)) then
 (bif (decide ((aH (8*x1))<0)) then none else
 (rm (Ty.bytes (.int .u8)) (List.length x2+1)
 (L0 x0 (aH (x1-1)) (x2++[(IntKind.wrap .u8 (Int.fdiv x0 (2 ^ (min (Int.toNat (aH (8*x1))) (IntKind.bits .i64)))))]))))
 else
 (some ((bytesOf x2),())))
def l0 (k:Nat):Nat→T0
 | 0=>fun _ _ _=>none
 | n+1=>b0 k (l0 k n)
def t (k:Nat) (L0:T0) (a0:Int) (a1:Int):Rs :=
 ((b9.f k a1 1 7).bind fun r1 =>
 (bif (!r1.1) then
 (some ((⟨#[]⟩:ByteArray),()))
 else
 (bif (decide ((aH (8*a1))<0)) then none else
 ((b9.f k a0 0 (aH ((aH (1*2 ^ (min (Int.toNat (aH (8*a1))) (IntKind.bits .i64))))-1))).bind fun r2 =>
 (bif (!r2.1) then
 (some ((⟨#[]⟩:ByteArray),()))
 else
 (L0 a0 (aH (a1-1)) []))))))
def f (k:Nat):=t k (l0 k k)
end dk
namespace jv
abbrev Rs:Type:=Option (ByteArray × Unit)
def t (k:Nat) (a0:ByteArray):Rs :=
 (bif (decide ((ByteArray.size a0:Int) > 200)) then
 (some ((⟨#[]⟩:ByteArray),()))
 else
 ((eZ.f k a0).bind fun r1 =>
 ((gL.f k r1.1).bind fun r2 =>
 ((dk.f k r2.1 4).bind fun r3 =>
 (kW r3.1 r1.1
 (some ((r3.1++r1.1),())))))))
def f (k:Nat):=t k
end jv
namespace eH
abbrev Rs:Type:=Option (ByteArray × Int × Unit)
def t (k:Nat) (a0:ByteArray):Rs :=
 (bif (decide ((ByteArray.size a0:Int)<4)) then
 (some ((⟨#[]⟩:ByteArray),(0,())))
 else
 (nR 4 (ByteArray.size a0:Int)
 ((cU.f k (ByteArray.extract a0 4 (ByteArray.size a0))).bind fun r1 =>
 (bif (r1.2.1==0) then
 (some ((⟨#[]⟩:ByteArray),(0,())))
 else
 (bif (decide (r1.1 > 200)) then
 (some ((⟨#[]⟩:ByteArray),(0,())))
 else
 (bif (decide (r1.1 > (aH ((aH ((ByteArray.size a0:Int)-4))-r1.2.1)))) then
 (some ((⟨#[]⟩:ByteArray),(0,())))
 else
 (Dk (aH (4+r1.2.1)) (aH ((aH (4+r1.2.1))+r1.1)) (ByteArray.size a0:Int)
 ((jv.f k (ByteArray.extract a0 (Int.toNat (aH (4+r1.2.1))) (Int.toNat (aH ((aH (4+r1.2.1))+r1.1))))).bind fun r2 =>
 (nR (aH ((aH (4+r1.2.1))+r1.1)) (ByteArray.size a0:Int)
 (bif (!(seq r2.1 (ByteArray.extract a0 0 (Int.toNat (aH ((aH (4+r1.2.1))+r1.1)))))) then
 (some ((⟨#[]⟩:ByteArray),(0,())))
 else
 (some ((ByteArray.extract a0 (Int.toNat (aH (4+r1.2.1))) (Int.toNat (aH ((aH (4+r1.2.1))+r1.1)))),((aH ((aH (4+r1.2.1))+r1.1)),())))))))))))))
def f (k:Nat):=t k
end eH
namespace ax
abbrev Rs:Type:=Option ((Ty.d je) × Int × Unit)
def t (k:Nat) (a0:Ty.d je):Rs :=
 ((cU.f k a0.1).bind fun r1 =>
 (bif a0.2.1 then
 (some ((a0.1,(true,())),(0,())))
 else
 (bif (r1.2.1==0) then
 (some ((a0.1,(true,())),(0,())))
 else
 (nR r1.2.1 (ByteArray.size a0.1:Int)
 (some (((ByteArray.extract a0.1 (Int.toNat r1.2.1) (ByteArray.size a0.1)),a0.2),(r1.1,())))))))
def f (k:Nat):=t k
end ax
namespace au
abbrev Rs:Type:=Option ((Ty.d je) × ByteArray × Unit)
def t (k:Nat) (a0:Ty.d je) (a1:Int):Rs :=
 (bif a0.2.1 then
 (some ((a0.1,(true,())),((⟨#[]⟩:ByteArray),())))
 else
 (bif (decide (a1 > (ByteArray.size a0.1:Int))) then
 (some ((a0.1,(true,())),((⟨#[]⟩:ByteArray),())))
 else
 (nR a1 (ByteArray.size a0.1:Int)
 (nR a1 (ByteArray.size a0.1:Int)
 (some (((ByteArray.extract a0.1 (Int.toNat a1) (ByteArray.size a0.1)),a0.2),((ByteArray.extract a0.1 0 (Int.toNat a1)),())))))))
def f (k:Nat):=t k
end au
namespace ao
abbrev Rs:Type:=Option ((Ty.d je) × ByteArray × Unit)
def t (k:Nat) (a0:Ty.d je):Rs :=
 ((ax.f k a0).bind fun r1 =>
 ((au.f k r1.1 r1.2.1).bind fun r2 =>
 (some r2)))
def f (k:Nat):=t k
end ao
namespace fb
abbrev Rs:Type:=Option (Bool × Unit)
def t (k:Nat) (a0:Ty.d bB):Rs :=
 (bif (a0.1==1) then
 (bif (a0.1==1) then
 ((gQ.f k a0.2.2.1).bind fun r1 =>
 (bif r1.1 then
 (bif (decide ((ByteArray.size a0.2.2.2.1:Int)≤24)) then
 ((b9.f k a0.2.1 1 1000000).bind fun r2 =>
 (bif r2.1 then
 (some (((a0.1==a0.1)&&((a0.2.1==a0.2.1)&&((seq a0.2.2.1 a0.2.2.1)&&((seq a0.2.2.2.1 a0.2.2.2.1)&&((a0.2.2.2.2.1==0)&&(a0.2.2.2.2.2.1==0)))))),()))
 else
 (some (false,()))))
 else
 (some (false,())))
 else
 (some (false,()))))
 else
 (bif (a0.1==2) then
 ((gQ.f k a0.2.2.1).bind fun r3 =>
 (bif r3.1 then
 ((b9.f k a0.2.1 1 1000000).bind fun r4 =>
 (bif r4.1 then
 (some (((a0.1==a0.1)&&((a0.2.1==a0.2.1)&&((seq a0.2.2.1 a0.2.2.1)&&((seq a0.2.2.2.1 ByteArray.empty)&&((a0.2.2.2.2.1==0)&&(a0.2.2.2.2.2.1==0)))))),()))
 else
 (some (false,()))))
 else
 (some (false,()))))
 else
 (bif (a0.1==3) then
 ((b9.f k a0.2.2.2.2.1 0 8).bind fun r5 =>
 (bif r5.1 then
 ((b9.f k a0.2.2.2.2.2.1 0 4294967295).bind fun r6 =>
 (bif r6.1 then
 ((b9.f k a0.2.1 1 1000000).bind fun r7 =>
 (bif r7.1 then
 (some (((a0.1==a0.1)&&((a0.2.1==a0.2.1)&&((seq a0.2.2.1 ByteArray.empty)&&((seq a0.2.2.2.1 ByteArray.empty)&&((a0.2.2.2.2.1==a0.2.2.2.2.1)&&(a0.2.2.2.2.2.1==a0.2.2.2.2.2.1)))))),()))
 else
 (some (false,()))))
 else
 (some (false,()))))
 else
 (some (false,()))))
 else
 (bif (a0.1==5) then
 ((b9.f k a0.2.2.2.2.1 0 20).bind fun r8 =>
 (bif r8.1 then
 ((b9.f k a0.2.2.2.2.2.1 0 4294967295).bind fun r9 =>
 (bif r9.1 then
 ((b9.f k a0.2.1 0 1000000).bind fun r10 =>
 (bif r10.1 then
 (some (((a0.1==a0.1)&&((a0.2.1==a0.2.1)&&((seq a0.2.2.1 ByteArray.empty)&&((seq a0.2.2.2.1 ByteArray.empty)&&((a0.2.2.2.2.1==a0.2.2.2.2.1)&&(a0.2.2.2.2.2.1==a0.2.2.2.2.2.1)))))),()))
 else
 (some (false,()))))
 else
 (some (false,()))))
 else
 (some (false,()))))
 else
 (some (false,()))))))
 else
 (bif (a0.1==4) then
 ((gQ.f k a0.2.2.1).bind fun r11 =>
 (bif r11.1 then
 (bif (decide ((ByteArray.size a0.2.2.2.1:Int)≤24)) then
 ((b9.f k a0.2.1 1 1000000).bind fun r12 =>
 (bif r12.1 then
 (some (((a0.1==a0.1)&&((a0.2.1==a0.2.1)&&((seq a0.2.2.1 a0.2.2.1)&&((seq a0.2.2.2.1 a0.2.2.2.1)&&((a0.2.2.2.2.1==0)&&(a0.2.2.2.2.2.1==0)))))),()))
 else
 (some (false,()))))
 else
 (some (false,())))
 else
 (some (false,()))))
 else
 (bif (a0.1==2) then
 ((gQ.f k a0.2.2.1).bind fun r13 =>
 (bif r13.1 then
 ((b9.f k a0.2.1 1 1000000).bind fun r14 =>
 (bif r14.1 then
 (some (((a0.1==a0.1)&&((a0.2.1==a0.2.1)&&((seq a0.2.2.1 a0.2.2.1)&&((seq a0.2.2.2.1 ByteArray.empty)&&((a0.2.2.2.2.1==0)&&(a0.2.2.2.2.2.1==0)))))),()))
 else
 (some (false,()))))
 else
 (some (false,()))))
 else
 (bif (a0.1==3) then
 ((b9.f k a0.2.2.2.2.1 0 8).bind fun r15 =>
 (bif r15.1 then
 ((b9.f k a0.2.2.2.2.2.1 0 4294967295).bind fun r16 =>
 (bif r16.1 then
 ((b9.f k a0.2.1 1 1000000).bind fun r17 =>
 (bif r17.1 then
 (some (((a0.1==a0.1)&&((a0.2.1==a0.2.1)&&((seq a0.2.2.1 ByteArray.empty)&&((seq a0.2.2.2.1 ByteArray.empty)&&((a0.2.2.2.2.1==a0.2.2.2.2.1)&&(a0.2.2.2.2.2.1==a0.2.2.2.2.2.1)))))),()))
 else
 (some (false,()))))
 else
 (some (false,()))))
 else
 (some (false,()))))
 else
 (bif (a0.1==5) then
 ((b9.f k a0.2.2.2.2.1 0 20).bind fun r18 =>
 (bif r18.1 then
 ((b9.f k a0.2.2.2.2.2.1 0 4294967295).bind fun r19 =>
 (bif r19.1 then
 ((b9.f k a0.2.1 0 1000000).bind fun r20 =>
 (bif r20.1 then
 (some (((a0.1==a0.1)&&((a0.2.1==a0.2.1)&&((seq a0.2.2.1 ByteArray.empty)&&((seq a0.2.2.2.1 ByteArray.empty)&&((a0.2.2.2.2.1==a0.2.2.2.2.1)&&(a0.2.2.2.2.2.1==a0.2.2.2.2.2.1)))))),()))
 else
 (some (false,()))))
 else
 (some (false,()))))
 else
 (some (false,()))))
 else
 (some (false,())))))))
def f (k:Nat):=t k
end fb
namespace bj
abbrev Rs:Type:=Option (Int × Bool × Unit)
abbrev T0:Type:=ByteArray→Int→Int→Int→Rs
def b0 (k:Nat) (L0:T0):T0:=fun x0 x1 x2 x3 =>
 (bif (decide (x3<x2)) then
 (bF x3 (ByteArray.size x0:Int)
 (L0 x0 (aH (((BitVec.ofInt (IntKind.bits .i64) (aH (x1*2 ^ (min (Int.toNat 8) (IntKind.bits .i64)))) ||| BitVec.ofInt (IntKind.bits .i64) (aH (di x0 x3))).toNat:Int))) x2 (aH (x3+1))))
 else
 (some (x1,(true,()))))
def l0 (k:Nat):Nat→T0
 | 0=>fun _ _ _ _=>none
 | n+1=>b0 k (l0 k n)
def t (k:Nat) (L0:T0) (a0:ByteArray) (a1:Int):Rs :=
 ((b9.f k a1 1 7).bind fun r1 =>
 (bif (!r1.1) then
 (some (0,(false,())))
 else
 (bif (decide ((ByteArray.size a0:Int)<a1)) then
 (some (0,(false,())))
 else
 (L0 a0 0 a1 0))))
def f (k:Nat):=t k (l0 k k)
end bj
namespace cV
abbrev Rs:Type:=Option ((Ty.d bB) × Bool × Unit)
def t (k:Nat) (a0:ByteArray):Rs :=
 ((ax.f k (a0,(false,()))).bind fun r1 =>
 ((ax.f k r1.1).bind fun r2 =>
 (bif (r1.2.1==1) then
 (bif (r1.2.1==1) then
 ((ao.f k r2.1).bind fun r3 =>
 ((ao.f k r3.1).bind fun r4 =>
 (bif r4.1.2.1 then
 (some ((0,(0,(ByteArray.empty,(ByteArray.empty,(0,(0,())))))),(false,())))
 else
 (bif (!(seq r4.1.1 (⟨#[]⟩:ByteArray))) then
 (some ((0,(0,(ByteArray.empty,(ByteArray.empty,(0,(0,())))))),(false,())))
 else
 ((fb.f k (r1.2.1,(r2.2.1,(r3.2.1,(r4.2.1,(0,(0,()))))))).bind fun r5 =>
 (bif (!r5.1) then
 (some ((0,(0,(ByteArray.empty,(ByteArray.empty,(0,(0,())))))),(false,())))
 else
 (some ((r1.2.1,(r2.2.1,(r3.2.1,(r4.2.1,(0,(0,())))))),(true,())))))))))
 else
 (bif (r1.2.1==2) then
 ((ao.f k r2.1).bind fun r6 =>
 (bif r6.1.2.1 then
 (some ((0,(0,(ByteArray.empty,(ByteArray.empty,(0,(0,())))))),(false,())))
 else
 (bif (!(seq r6.1.1 (⟨#[]⟩:ByteArray))) then
 (some ((0,(0,(ByteArray.empty,(ByteArray.empty,(0,(0,())))))),(false,())))
 else
 ((fb.f k (r1.2.1,(r2.2.1,(r6.2.1,(ByteArray.empty,(0,(0,()))))))).bind fun r7 =>
 (bif (!r7.1) then
 (some ((0,(0,(ByteArray.empty,(ByteArray.empty,(0,(0,())))))),(false,())))
 else
 (some ((r1.2.1,(r2.2.1,(r6.2.1,(ByteArray.empty,(0,(0,())))))),(true,()))))))))
 else
 ((ax.f k r2.1).bind fun r8 =>
 ((au.f k r8.1 4).bind fun r9 =>
 ((bj.f k r9.2.1 4).bind fun r10 =>
 (bif r9.1.2.1 then
 (some ((0,(0,(ByteArray.empty,(ByteArray.empty,(0,(0,())))))),(false,())))
 else
 (bif (!(seq r9.1.1 (⟨#[]⟩:ByteArray))) then
 (some ((0,(0,(ByteArray.empty,(ByteArray.empty,(0,(0,())))))),(false,())))
 else
 ((fb.f k (r1.2.1,(r2.2.1,(ByteArray.empty,(ByteArray.empty,(r8.2.1,(r10.1,()))))))).bind fun r11 =>
 (bif (!r11.1) then
 (some ((0,(0,(ByteArray.empty,(ByteArray.empty,(0,(0,())))))),(false,())))
 else
 (some ((r1.2.1,(r2.2.1,(ByteArray.empty,(ByteArray.empty,(r8.2.1,(r10.1,())))))),(true,()))))))))))))
 else
 (bif (r1.2.1==4) then
 ((ao.f k r2.1).bind fun r12 =>
 ((ao.f k r12.1).bind fun r13 =>
 (bif r13.1.2.1 then
 (some ((0,(0,(ByteArray.empty,(ByteArray.empty,(0,(0,())))))),(false,())))
 else
 (bif (!(seq r13.1.1 (⟨#[]⟩:ByteArray))) then
 (some ((0,(0,(ByteArray.empty,(ByteArray.empty,(0,(0,())))))),(false,())))
 else
 ((fb.f k (r1.2.1,(r2.2.1,(r12.2.1,(r13.2.1,(0,(0,()))))))).bind fun r14 =>
 (bif (!r14.1) then
 (some ((0,(0,(ByteArray.empty,(ByteArray.empty,(0,(0,())))))),(false,())))
 else
 (some ((r1.2.1,(r2.2.1,(r12.2.1,(r13.2.1,(0,(0,())))))),(true,())))))))))
 else
 (bif (r1.2.1==2) then
 ((ao.f k r2.1).bind fun r15 =>
 (bif r15.1.2.1 then
 (some ((0,(0,(ByteArray.empty,(ByteArray.empty,(0,(0,())))))),(false,())))
 else
 (bif (!(seq r15.1.1 (⟨#[]⟩:ByteArray))) then
 (some ((0,(0,(ByteArray.empty,(ByteArray.empty,(0,(0,())))))),(false,())))
 else
 ((fb.f k (r1.2.1,(r2.2.1,(r15.2.1,(ByteArray.empty,(0,(0,()))))))).bind fun r16 =>
 (bif (!r16.1) then
 (some ((0,(0,(ByteArray.empty,(ByteArray.empty,(0,(0,())))))),(false,())))
 else
 (some ((r1.2.1,(r2.2.1,(r15.2.1,(ByteArray.empty,(0,(0,())))))),(true,()))))))))
 else
 ((ax.f k r2.1).bind fun r17 =>
 ((au.f k r17.1 4).bind fun r18 =>
 ((bj.f k r18.2.1 4).bind fun r19 =>
 (bif r18.1.2.1 then
 (some ((0,(0,(ByteArray.empty,(ByteArray.empty,(0,(0,())))))),(false,())))
 else
 (bif (!(seq r18.1.1 (⟨#[]⟩:ByteArray))) then
 (some ((0,(0,(ByteArray.empty,(ByteArray.empty,(0,(0,())))))),(false,())))
 else
 ((fb.f k (r1.2.1,(r2.2.1,(ByteArray.empty,(ByteArray.empty,(r17.2.1,(r19.1,()))))))).bind fun r20 =>
 (bif (!r20.1) then
 (some ((0,(0,(ByteArray.empty,(ByteArray.empty,(0,(0,())))))),(false,())))
 else
 (some ((r1.2.1,(r2.2.1,(ByteArray.empty,(ByteArray.empty,(r17.2.1,(r19.1,())))))),(true,())))))))))))))))
def f (k:Nat):=t k
end cV
namespace dN
abbrev Rs:Type:=Option ((List (Ty.d cA)) × Int × Unit)
abbrev T0:Type:=ByteArray→Int→List (Ty.d cA)→Rs
def b0 (k:Nat) (L0:T0):T0:=fun x0 x1 x2 =>
 (nR x1 (ByteArray.size x0:Int)
 ((eH.f k (ByteArray.extract x0 (Int.toNat x1) (ByteArray.size x0))).bind fun r1 =>
 ((cV.f k r1.1).bind fun r2 =>
 (bif (r1.2.1==0) then
 (some (x2,(x1,())))
 else
 (bif (!r2.2.1) then
 (some (x2,(x1,())))
 else
 (rm (Ty.bytes cA) (List.length x2+1)
 (L0 x0 (aH (x1+r1.2.1)) (x2++[(x1,(r1.2.1,(r2.1,())))]))))))))
def l0 (k:Nat):Nat→T0
 | 0=>fun _ _ _=>none
 | n+1=>b0 k (l0 k n)
def t (k:Nat) (L0:T0) (a0:ByteArray):Rs :=
 (L0 a0 0 [])
def f (k:Nat):=t k (l0 k k)
end dN
namespace iw
abbrev Rs:Type:=Option ((Ty.d bB) × Bool × Unit)
def t (k:Nat) (a0:ByteArray) (a1:Int) (a2:Int):Rs :=
 ((b9.f k a1 0 (ByteArray.size a0:Int)).bind fun r1 =>
 (bif (!r1.1) then
 (some ((0,(0,(ByteArray.empty,(ByteArray.empty,(0,(0,())))))),(false,())))
 else
 ((b9.f k a2 0 (aH ((ByteArray.size a0:Int)-a1))).bind fun r2 =>
 (bif (!r2.1) then
 (some ((0,(0,(ByteArray.empty,(ByteArray.empty,(0,(0,())))))),(false,())))
 else
 (Dk a1 (aH (a1+a2)) (ByteArray.size a0:Int)
 ((eH.f k (ByteArray.extract a0 (Int.toNat a1) (Int.toNat (aH (a1+a2))))).bind fun r3 =>
 (bif (r3.2.1==0) then
 (some ((0,(0,(ByteArray.empty,(ByteArray.empty,(0,(0,())))))),(false,())))
 else
 (bif (r3.2.1 != a2) then
 (some ((0,(0,(ByteArray.empty,(ByteArray.empty,(0,(0,())))))),(false,())))
 else
 ((cV.f k r3.1).bind fun r4 =>
 (some r4))))))))))
def f (k:Nat):=t k
end iw
namespace cW
abbrev Rs:Type:=Option (Bool × Unit)
abbrev T1:Type:=List (Ty.d aB)→Int→Int→Int→List Int→List (Ty.d aB)→Int→Int→Int→List (Ty.d aK)→Int→Int→Bool→Rs
abbrev T0:Type:=List Int→Int→Int→Int→List Int→List (Ty.d aB)→Int→Int→Int→List (Ty.d aK)→Int→Int→Bool→Rs
def b1 (k:Nat) (L1:T1):T1:=fun x0 x1 x2 x3 x4 x5 x6 x7 x8 x9 x10 x11 x12 =>
 (bif (decide (x2<x1)) then
 (bF x2 (x0.length:Int)
 ((g9.f k (List.getD x0 (Int.toNat x2) (Ty.z aB)).2.1).bind fun r8 =>
 ((fS.f k (x9,(x10,(x11,(x12,())))) r8.1).bind fun r9 =>
 ((iw.f k r9.1 (List.getD x0 (Int.toNat x2) (Ty.z aB)).2.2.1 (List.getD x0 (Int.toNat x2) (Ty.z aB)).2.2.2.1).bind fun r10 =>
 (bif (!r10.2.1) then
 (some (false,()))
 else
 (bif (r10.1.1 != 1) then
 (bif (r10.1.1 != 4) then
 (some (false,()))
 else
 (bif (!(seq r10.1.2.2.1 (List.getD x0 (Int.toNat x2) (Ty.z aB)).1)) then
 (some (false,()))
 else
 (bif (r10.1.2.1 != (List.getD x0 (Int.toNat x2) (Ty.z aB)).2.2.2.2.1) then
 (some (false,()))
 else
 (bif (decide ((List.getD x0 (Int.toNat x2) (Ty.z aB)).2.2.2.2.1≥x6)) then
 (some (false,()))
 else
 (L1 x0 x1 (aH (x2+1)) x3 x4 x5 x6 x7 x8 x9 x10 x11 x12)))))
 else
 (bif (!(seq r10.1.2.2.1 (List.getD x0 (Int.toNat x2) (Ty.z aB)).1)) then
 (some (false,()))
 else
 (bif (r10.1.2.1 != (List.getD x0 (Int.toNat x2) (Ty.z aB)).2.2.2.2.1) then
 (some (false,()))
 else
 (bif (decide ((List.getD x0 (Int.toNat x2) (Ty.z aB)).2.2.2.2.1≥x6)) then
 (some (false,()))
 else
 (L1 x0 x1 (aH (x2+1)) x3 x4 x5 x6 x7 x8 x9 x10 x11 x12))))))))))
 else
 (some (true,())))
def l1 (k:Nat):Nat→T1
 | 0=>fun _ _ _ _ _ _ _ _ _ _ _ _ _=>none
 | n+1=>b1 k (l1 k n)
def b0 (k:Nat) (L1:T1) (L0:T0):T0:=fun x0 x1 x2 x3 x4 x5 x6 x7 x8 x9 x10 x11 x12 =>
 (bif (decide (x2<x1)) then
 (bF x2 (x0.length:Int)
 ((g9.f k (List.getD x0 (Int.toNat x2) (Ty.z (.int .i64)))).bind fun r5 =>
 ((fS.f k (x9,(x10,(x11,(x12,())))) r5.1).bind fun r6 =>
 ((dN.f k r6.1).bind fun r7 =>
 (bif (!r6.2.1) then
 (some (false,()))
 else
 (bif (r7.2.1 != (ByteArray.size r6.1:Int)) then
 (some (false,()))
 else
 (bif (x2==(aH ((x4.length:Int)-1))) then
 (bif (x7 != r7.2.1) then
 (some (false,()))
 else
 (L0 x0 x1 (aH (x2+1)) x3 x4 x5 x6 x7 x8 x9 x10 x11 x12))
 else
 (L0 x0 x1 (aH (x2+1)) x3 x4 x5 x6 x7 x8 x9 x10 x11 x12))))))))
 else
 (L1 x5 (x5.length:Int) 0 x3 x4 x5 x6 x7 x8 x9 x10 x11 x12))
def l0 (k:Nat):Nat→T0
 | 0=>fun _ _ _ _ _ _ _ _ _ _ _ _ _=>none
 | n+1=>b0 k (l1 k k) (l0 k n)
def t (k:Nat) (L0:T0) (a0:Ty.d aE) (a1:Ty.d aA):Rs :=
 ((dY.f k a1).bind fun r1 =>
 (bif (!r1.1) then
 (some (false,()))
 else
 ((da.f k a0.1).bind fun r2 =>
 (bif (!r2.1) then
 (some (false,()))
 else
 ((fe.f k a0.2.1).bind fun r3 =>
 (bif (!r3.1) then
 (some (false,()))
 else
 ((b9.f k a0.2.2.1 1 1000001).bind fun r4 =>
 (bif (!r4.1) then
 (some (false,()))
 else
 (L0 a0.1.2.1 (List.length a0.1.2.1:Int) 0 a0.1.1 a0.1.2.1 a0.2.1 a0.2.2.1 a0.2.2.2.1 a0.2.2.2.2.1 a1.1 a1.2.1 a1.2.2.1 a1.2.2.2.1)))))))))
def f (k:Nat):=t k (l0 k k)
end cW
namespace gm
abbrev Rs:Type:=Option (ByteArray × Unit)
abbrev T0:Type:=Int→List (Ty.d bU)→Int→Int→Rs
def b0 (k:Nat) (L0:T0):T0:=fun x0 x1 x2 x3 =>
 (bif (decide (x3<x2)) then
 (bF x3 (x1.length:Int)
 (bif ((List.getD x1 (Int.toNat x3) (Ty.z bU)).1==x0) then
 (some (List.getD x1 (Int.toNat x3) (Ty.z bU)).2)
 else
 (L0 x0 x1 x2 (aH (x3+1)))))
 else
 (some ((⟨#[]⟩:ByteArray),())))
def l0 (k:Nat):Nat→T0
 | 0=>fun _ _ _ _=>none
 | n+1=>b0 k (l0 k n)
def t (k:Nat) (L0:T0) (a0:Ty.d aV) (a1:Int):Rs :=
 (L0 a1 a0.2.1 (List.length a0.2.1:Int) 0)
def f (k:Nat):=t k (l0 k k)
end gm
namespace eC
abbrev Rs:Type:=Option ((Ty.d g_) × Unit)
abbrev T0:Type:=List Int→Int→Int→List (Ty.d aK)→Int→Int→Bool→Int→List (Ty.d bU)→List (Ty.d iq)→Int→List (Ty.d iq)→Int→Rs
def b0 (k:Nat) (L0:T0):T0:=fun x0 x1 x2 x3 x4 x5 x6 x7 x8 x9 x10 x11 x12 =>
 (bif (decide (x2<x1)) then
 (bF x2 (x0.length:Int)
 ((g9.f k (List.getD x0 (Int.toNat x2) (Ty.z (.int .i64)))).bind fun r2 =>
 ((fS.f k (x3,(x4,(x5,(x6,())))) r2.1).bind fun r3 =>
 ((gm.f k (x7,(x8,())) (List.getD x0 (Int.toNat x2) (Ty.z (.int .i64)))).bind fun r4 =>
 ((iC.f k r3.1 r4.1).bind fun r5 =>
 (bif r5.1 then
 (nR (ByteArray.size r4.1:Int) (ByteArray.size r3.1:Int)
 (rm (Ty.bytes iq) (List.length x11+1)
 (L0 x0 x1 (aH (x2+1)) x3 x4 x5 x6 x7 x8 x9 x10 (x11++[((List.getD x0 (Int.toNat x2) (Ty.z (.int .i64))),((ByteArray.size r4.1:Int),((ByteArray.extract r3.1 (Int.toNat (ByteArray.size r4.1:Int)) (ByteArray.size r3.1)),())))]) x12)))
 else
 (rm (Ty.bytes iq) (List.length x11+1)
 (L0 x0 x1 (aH (x2+1)) x3 x4 x5 x6 x7 x8 x9 x10 (x11++[((List.getD x0 (Int.toNat x2) (Ty.z (.int .i64))),(0,(r3.1,())))]) x12))))))))
 else
 (some ((x12,(x11,())),())))
def l0 (k:Nat):Nat→T0
 | 0=>fun _ _ _ _ _ _ _ _ _ _ _ _ _=>none
 | n+1=>b0 k (l0 k n)
def t (k:Nat) (L0:T0) (a0:Ty.d aE) (a1:Ty.d aA) (a2:Ty.d aV):Rs :=
 ((cW.f k a0 a1).bind fun r1 =>
 (bif (!r1.1) then
 (some ((0,([],())),()))
 else
 (L0 a0.1.2.1 (List.length a0.1.2.1:Int) 0 a1.1 a1.2.1 a1.2.2.1 a1.2.2.2.1 a2.1 a2.2.1 [] 0 [] a0.1.1)))
def f (k:Nat):=t k (l0 k k)
end eC
namespace bA
abbrev Rs:Type:=Option (Int × Unit)
abbrev T0:Type:=Int→List (Ty.d iq)→Int→Int→Rs
def b0 (k:Nat) (L0:T0):T0:=fun x0 x1 x2 x3 =>
 (bif (decide (x3<x2)) then
 (bF x3 (x1.length:Int)
 (L0 (aH (x0+(ByteArray.size (List.getD x1 (Int.toNat x3) (Ty.z iq)).2.2.1:Int))) x1 x2 (aH (x3+1))))
 else
 (some (x0,())))
def l0 (k:Nat):Nat→T0
 | 0=>fun _ _ _ _=>none
 | n+1=>b0 k (l0 k n)
def t (k:Nat) (L0:T0) (a0:Ty.d g_):Rs :=
 (L0 0 a0.2.1 (List.length a0.2.1:Int) 0)
def f (k:Nat):=t k (l0 k k)
end bA
namespace dh
abbrev Rs:Type:=Option (ByteArray × Unit)
abbrev T0:Type:=Int→Int→Int→List (Ty.d bU)→Rs
def b0 (k:Nat) (L0:T0):T0:=fun x0 x1 x2 x3 =>
 (bif (decide (x1<(x3.length:Int))) then
 (bF x1 (x3.length:Int)
 (bif ((List.getD x3 (Int.toNat x1) (Ty.z bU)).1==x0) then
 (bF x1 (x3.length:Int)
 (some (List.getD x3 (Int.toNat x1) (Ty.z bU)).2))
 else
 (L0 x0 (aH (x1+1)) x2 x3)))
 else
 (some ((⟨#[]⟩:ByteArray),())))
def l0 (k:Nat):Nat→T0
 | 0=>fun _ _ _ _=>none
 | n+1=>b0 k (l0 k n)
def t (k:Nat) (L0:T0) (a0:Ty.d aV) (a1:Int):Rs :=
 (L0 a1 0 a0.1 a0.2.1)
def f (k:Nat):=t k (l0 k k)
end dh
namespace iH
abbrev Rs:Type:=Option ((Ty.d g_) × Unit)
abbrev T0:Type:=Int→Int→List Int→List (Ty.d aB)→Int→Int→Int→List (Ty.d aK)→Int→Int→Bool→Int→List (Ty.d bU)→List (Ty.d iq)→Int→List (Ty.d iq)→Int→Rs
def b0 (k:Nat) (L0:T0):T0:=fun x0 x1 x2 x3 x4 x5 x6 x7 x8 x9 x10 x11 x12 x13 x14 x15 x16 =>
 (bif (decide (x0<(x2.length:Int))) then
 (bF x0 (x2.length:Int)
 ((aU.f k (List.getD x2 (Int.toNat x0) (Ty.z (.int .i64)))).bind fun r2 =>
 ((bK.f k (x7,(x8,(x9,(x10,())))) r2.1).bind fun r3 =>
 ((dh.f k (x11,(x12,())) (List.getD x2 (Int.toNat x0) (Ty.z (.int .i64)))).bind fun r4 =>
 (bif (decide ((ByteArray.size r4.1:Int)≤(ByteArray.size r3.1:Int))) then
 (nR (ByteArray.size r4.1:Int) (ByteArray.size r3.1:Int)
 (bif (seq (ByteArray.extract r3.1 0 (Int.toNat (ByteArray.size r4.1:Int))) r4.1) then
 (nR (ByteArray.size r4.1:Int) (ByteArray.size r3.1:Int)
 (rm (Ty.bytes iq) (List.length x15+1)
 (L0 (aH (x0+1)) x1 x2 x3 x4 x5 x6 x7 x8 x9 x10 x11 x12 x13 x14 (x15++[((List.getD x2 (Int.toNat x0) (Ty.z (.int .i64))),((ByteArray.size r4.1:Int),((ByteArray.extract r3.1 (Int.toNat (ByteArray.size r4.1:Int)) (ByteArray.size r3.1)),())))]) x16)))
 else
 (nR 0 (ByteArray.size r3.1:Int)
 (rm (Ty.bytes iq) (List.length x15+1)
 (L0 (aH (x0+1)) x1 x2 x3 x4 x5 x6 x7 x8 x9 x10 x11 x12 x13 x14 (x15++[((List.getD x2 (Int.toNat x0) (Ty.z (.int .i64))),(0,((ByteArray.extract r3.1 0 (ByteArray.size r3.1)),())))]) x16)))))
 else
 (nR 0 (ByteArray.size r3.1:Int)
 (rm (Ty.bytes iq) (List.length x15+1)
 (L0 (aH (x0+1)) x1 x2 x3 x4 x5 x6 x7 x8 x9 x10 x11 x12 x13 x14 (x15++[((List.getD x2 (Int.toNat x0) (Ty.z (.int .i64))),(0,((ByteArray.extract r3.1 0 (ByteArray.size r3.1)),())))]) x16))))))))
 else
 (some ((x16,(x15,())),())))
def l0 (k:Nat):Nat→T0
 | 0=>fun _ _ _ _ _ _ _ _ _ _ _ _ _ _ _ _ _=>none
 | n+1=>b0 k (l0 k n)
def t (k:Nat) (L0:T0) (a0:Ty.d aE) (a1:Ty.d aA) (a2:Ty.d aV):Rs :=
 ((bS.f k a0 a1).bind fun r1 =>
 (bif (!r1.1) then
 (some ((0,([],())),()))
 else
 (L0 0 a0.1.1 a0.1.2.1 a0.2.1 a0.2.2.1 a0.2.2.2.1 a0.2.2.2.2.1 a1.1 a1.2.1 a1.2.2.1 a1.2.2.2.1 a2.1 a2.2.1 [] 0 [] a0.1.1)))
def f (k:Nat):=t k (l0 k k)
end iH
namespace f_
abbrev Rs:Type:=Option ((Ty.d aV) × Bool × Unit)
abbrev T0:Type:=Int→Int→List (Ty.d bU)→Int→List (Ty.d iq)→List (Ty.d bU)→Int→List (Ty.d bU)→Int→List (Ty.d bU)→Int→List Int→Rs
def b0 (k:Nat) (L0:T0):T0:=fun x0 x1 x2 x3 x4 x5 x6 x7 x8 x9 x10 x11 =>
 (bif (decide (x0<(x4.length:Int))) then
 (bF x0 (x4.length:Int)
 ((dh.f k (x1,(x2,())) (List.getD x4 (Int.toNat x0) (Ty.z iq)).1).bind fun r1 =>
 ((aN.f k (List.getD x4 (Int.toNat x0) (Ty.z iq)).2.1 0 (ByteArray.size r1.1:Int)).bind fun r2 =>
 (bif (!r2.1) then
 (some ((x8,(x7,())),(false,())))
 else
 (nR (List.getD x4 (Int.toNat x0) (Ty.z iq)).2.1 (ByteArray.size r1.1:Int)
 (kW (ByteArray.extract r1.1 0 (Int.toNat (List.getD x4 (Int.toNat x0) (Ty.z iq)).2.1)) (List.getD x4 (Int.toNat x0) (Ty.z iq)).2.2.1
 (rm (Ty.bytes bU) (List.length x9+1)
 (rm (Ty.bytes (.int .i64)) (List.length x11+1)
 (L0 (aH (x0+1)) x1 x2 x3 x4 x5 x6 x7 x8 (x9++[((List.getD x4 (Int.toNat x0) (Ty.z iq)).1,(((ByteArray.extract r1.1 0 (Int.toNat (List.getD x4 (Int.toNat x0) (Ty.z iq)).2.1))++(List.getD x4 (Int.toNat x0) (Ty.z iq)).2.2.1),()))]) x10 (x11++[(List.getD x4 (Int.toNat x0) (Ty.z iq)).1]))))))))))
 else
 ((cY.f k (x3,(x11,()))).bind fun r3 =>
 (bif (!r3.1) then
 (some ((x8,(x7,())),(false,())))
 else
 (some ((x10,(x9,())),(true,()))))))
def l0 (k:Nat):Nat→T0
 | 0=>fun _ _ _ _ _ _ _ _ _ _ _ _=>none
 | n+1=>b0 k (l0 k n)
def t (k:Nat) (L0:T0) (a0:Ty.d aV) (a1:Ty.d g_):Rs :=
 (rm (Ty.bytes bU) (0+List.length a0.2.1)
 (L0 0 a0.1 a0.2.1 a1.1 a1.2.1 [] 0 ([]++a0.2.1) a0.1 [] a1.1 []))
def f (k:Nat):=t k (l0 k k)
end f_
namespace iv
abbrev Rs:Type:=Option ((Ty.d cT) × (Ty.d aE) × (Ty.d aA) × (Ty.d aV) × Unit)
def t (k:Nat) (a0:Ty.d cT):Rs :=
 ((gT.f k 20000).bind fun r1 =>
 ((dC.f k r1.1).bind fun r2 =>
 ((fX.f k a0 40).bind fun r3 =>
 ((aa.f k r3.1 (aH ((List.length r3.2.1.2.2.1:Int)+1))).bind fun r4 =>
 (nR r4.2.1 (List.length r3.2.1.2.2.1:Int)
 ((fE.f k r2.1 (List.take (Int.toNat r4.2.1) r3.2.1.2.2.1)).bind fun r5 =>
 (bif r5.1.1.1 then
 ((iH.f k r5.1.1.2.1 r5.1.1.2.2.1 (0,([],()))).bind fun r6 =>
 ((f_.f k (0,([],())) r6.1).bind fun r7 =>
 (nR r4.2.1 (List.length r3.2.1.2.2.1:Int)
 ((fE.f k r5.1.1 (List.drop (Int.toNat r4.2.1) r3.2.1.2.2.1)).bind fun r8 =>
 (bif (decide ((List.length r7.1.2.1:Int) > 0)) then
 ((bp.f k r4.1 8).bind fun r9 =>
 (bif r9.2.1 then
 (bF 0 (List.length r7.1.2.1:Int)
 (kW (List.getD r7.1.2.1 0 (Ty.z bU)).2.1 (⟨#[120]⟩:ByteArray)
 (bF 0 (List.length r7.1.2.1:Int)
 (let l10:=(List.set r7.1.2.1 0 ((List.getD r7.1.2.1 0 (Ty.z bU)).1,(((List.getD r7.1.2.1 0 (Ty.z bU)).2.1++(⟨#[120]⟩:ByteArray)),(List.getD r7.1.2.1 0 (Ty.z bU)).2.2)));
 (some (r9.1,(r8.1.1.2.1,(r8.1.1.2.2.1,((r7.1.1,(l10,())),())))))))))
 else
 (some (r9.1,(r8.1.1.2.1,(r8.1.1.2.2.1,(r7.1,())))))))
 else
 (some (r4.1,(r8.1.1.2.1,(r8.1.1.2.2.1,(r7.1,()))))))))))
 else
 (nR r4.2.1 (List.length r3.2.1.2.2.1:Int)
 ((fE.f k r5.1.1 (List.drop (Int.toNat r4.2.1) r3.2.1.2.2.1)).bind fun r11 =>
 (some (r4.1,(r11.1.1.2.1,(r11.1.1.2.2.1,((0,([],())),()))))))))))))))
def f (k:Nat):=t k
end iv
namespace j2
abbrev Rs:Type:=Option ((Ty.d aE) × (Ty.d aA) × (Ty.d aV) × Unit)
def t (k:Nat) (a0:List Int):Rs :=
 ((fK.f k a0).bind fun r1 =>
 ((iv.f k r1.2.1).bind fun r2 =>
 (some r2.2)))
def f (k:Nat):=t k
end j2
namespace dj
abbrev Rs:Type:=Option ((Ty.d aV) × Bool × Unit)
abbrev T0:Type:=List (Ty.d iq)→Int→Int→Int→List (Ty.d bU)→List (Ty.d bU)→Int→List (Ty.d bU)→Int→List (Ty.d bU)→Int→List Int→Int→Rs
def b0 (k:Nat) (L0:T0):T0:=fun x0 x1 x2 x3 x4 x5 x6 x7 x8 x9 x10 x11 x12 =>
 (bif (decide (x2<x1)) then
 (bF x2 (x0.length:Int)
 ((gm.f k (x3,(x4,())) (List.getD x0 (Int.toNat x2) (Ty.z iq)).1).bind fun r1 =>
 ((b9.f k (List.getD x0 (Int.toNat x2) (Ty.z iq)).2.1 0 (ByteArray.size r1.1:Int)).bind fun r2 =>
 (bif (!r2.1) then
 (some ((x8,(x7,())),(false,())))
 else
 (nR (List.getD x0 (Int.toNat x2) (Ty.z iq)).2.1 (ByteArray.size r1.1:Int)
 (kW (ByteArray.extract r1.1 0 (Int.toNat (List.getD x0 (Int.toNat x2) (Ty.z iq)).2.1)) (List.getD x0 (Int.toNat x2) (Ty.z iq)).2.2.1
 (rm (Ty.bytes bU) (List.length x9+1)
 (rm (Ty.bytes (.int .i64)) (List.length x11+1)
 (L0 x0 x1 (aH (x2+1)) x3 x4 x5 x6 x7 x8 (x9++[((List.getD x0 (Int.toNat x2) (Ty.z iq)).1,(((ByteArray.extract r1.1 0 (Int.toNat (List.getD x0 (Int.toNat x2) (Ty.z iq)).2.1))++(List.getD x0 (Int.toNat x2) (Ty.z iq)).2.2.1),()))]) x10 (x11++[(List.getD x0 (Int.toNat x2) (Ty.z iq)).1]) x12)))))))))
 else
 ((da.f k (x12,(x11,()))).bind fun r3 =>
 (bif (!r3.1) then
 (some ((x8,(x7,())),(false,())))
 else
 (some ((x10,(x9,())),(true,()))))))
def l0 (k:Nat):Nat→T0
 | 0=>fun _ _ _ _ _ _ _ _ _ _ _ _ _=>none
 | n+1=>b0 k (l0 k n)
def t (k:Nat) (L0:T0) (a0:Ty.d aV) (a1:Ty.d g_):Rs :=
 (rm (Ty.bytes bU) (List.length a0.2.1)
 (L0 a1.2.1 (List.length a1.2.1:Int) 0 a0.1 a0.2.1 [] 0 a0.2.1 a0.1 [] a1.1 [] a1.1))
def f (k:Nat):=t k (l0 k k)
end dj
namespace fi
abbrev Rs:Type:=Option ((List (Ty.d aC)) × Unit)
abbrev T0:Type:=Int→List (Ty.d cA)→Int→Int→List (Ty.d aC)→Rs
def b0 (k:Nat) (L0:T0):T0:=fun x0 x1 x2 x3 x4 =>
 (bif (decide (x3<x2)) then
 (bF x3 (x1.length:Int)
 (rm (Ty.bytes aC) (List.length x4+1)
 (L0 x0 x1 x2 (aH (x3+1)) (x4++[(x0,(List.getD x1 (Int.toNat x3) (Ty.z cA)))]))))
 else
 (some (x4,())))
def l0 (k:Nat):Nat→T0
 | 0=>fun _ _ _ _ _=>none
 | n+1=>b0 k (l0 k n)
def t (k:Nat) (L0:T0) (a0:Int) (a1:List (Ty.d cA)):Rs :=
 (L0 a0 a1 (List.length a1:Int) 0 [])
def f (k:Nat):=t k (l0 k k)
end fi
namespace eM
abbrev Rs:Type:=Option ((List (Ty.d aB)) × Unit)
def t (k:Nat) (a0:List (Ty.d aB)):Rs :=
 (rm (Ty.bytes aB) (List.length a0)
 (some (a0,())))
def f (k:Nat):=t k
end eM
namespace cr
abbrev Rs:Type:=Option ((List (Ty.d aC)) × Unit)
abbrev T0:Type:=List (Ty.d aC)→Int→Int→Int→Int→ByteArray→ByteArray→Int→Int→List (Ty.d aC)→Rs
def b0 (k:Nat) (L0:T0):T0:=fun x0 x1 x2 x3 x4 x5 x6 x7 x8 x9 =>
 (bif (decide (x2<x1)) then
 (bF x2 (x0.length:Int)
 (bif (x3==3) then
 (bif ((List.getD x0 (Int.toNat x2) (Ty.z aC)).2.2.2.1.2.1 != x4) then
 (L0 x0 x1 (aH (x2+1)) x3 x4 x5 x6 x7 x8 x9)
 else
 (bif ((List.getD x0 (Int.toNat x2) (Ty.z aC)).2.2.2.1.1==x3) then
 (L0 x0 x1 (aH (x2+1)) x3 x4 x5 x6 x7 x8 [])
 else
 (bif (x3==3) then
 (bif ((List.getD x0 (Int.toNat x2) (Ty.z aC)).2.2.2.1.1==1) then
 (rm (Ty.bytes aC) (List.length x9+1)
 (L0 x0 x1 (aH (x2+1)) x3 x4 x5 x6 x7 x8 (x9++[(List.getD x0 (Int.toNat x2) (Ty.z aC))])))
 else
 (bif ((List.getD x0 (Int.toNat x2) (Ty.z aC)).2.2.2.1.1==2) then
 (bif ((List.getD x0 (Int.toNat x2) (Ty.z aC)).2.2.2.1.1==2) then
 (rm (Ty.bytes aC) (List.length x9+1)
 (L0 x0 x1 (aH (x2+1)) x3 x4 x5 x6 x7 x8 (x9++[(List.getD x0 (Int.toNat x2) (Ty.z aC))])))
 else
 (L0 x0 x1 (aH (x2+1)) x3 x4 x5 x6 x7 x8 x9))
 else
 (bif (x3==5) then
 (bif ((List.getD x0 (Int.toNat x2) (Ty.z aC)).2.2.2.1.1==4) then
 (rm (Ty.bytes aC) (List.length x9+1)
 (L0 x0 x1 (aH (x2+1)) x3 x4 x5 x6 x7 x8 (x9++[(List.getD x0 (Int.toNat x2) (Ty.z aC))])))
 else
 (L0 x0 x1 (aH (x2+1)) x3 x4 x5 x6 x7 x8 x9))
 else
 (L0 x0 x1 (aH (x2+1)) x3 x4 x5 x6 x7 x8 x9))))
 else
 (bif (x3==5) then
 (bif ((List.getD x0 (Int.toNat x2) (Ty.z aC)).2.2.2.1.1==4) then
 (rm (Ty.bytes aC) (List.length x9+1)
 (L0 x0 x1 (aH (x2+1)) x3 x4 x5 x6 x7 x8 (x9++[(List.getD x0 (Int.toNat x2) (Ty.z aC))])))
 else
 (L0 x0 x1 (aH (x2+1)) x3 x4 x5 x6 x7 x8 x9))
 else
 (L0 x0 x1 (aH (x2+1)) x3 x4 x5 x6 x7 x8 x9)))))
 else
 (bif ((List.getD x0 (Int.toNat x2) (Ty.z aC)).2.2.2.1.1==x3) then
 (L0 x0 x1 (aH (x2+1)) x3 x4 x5 x6 x7 x8 [])
 else
 (bif (x3==3) then
 (bif ((List.getD x0 (Int.toNat x2) (Ty.z aC)).2.2.2.1.1==1) then
 (rm (Ty.bytes aC) (List.length x9+1)
 (L0 x0 x1 (aH (x2+1)) x3 x4 x5 x6 x7 x8 (x9++[(List.getD x0 (Int.toNat x2) (Ty.z aC))])))
 else
 (bif ((List.getD x0 (Int.toNat x2) (Ty.z aC)).2.2.2.1.1==2) then
 (bif ((List.getD x0 (Int.toNat x2) (Ty.z aC)).2.2.2.1.1==2) then
 (rm (Ty.bytes aC) (List.length x9+1)
 (L0 x0 x1 (aH (x2+1)) x3 x4 x5 x6 x7 x8 (x9++[(List.getD x0 (Int.toNat x2) (Ty.z aC))])))
 else
 (L0 x0 x1 (aH (x2+1)) x3 x4 x5 x6 x7 x8 x9))
 else
 (bif (x3==5) then
 (bif ((List.getD x0 (Int.toNat x2) (Ty.z aC)).2.2.2.1.1==4) then
 (rm (Ty.bytes aC) (List.length x9+1)
 (L0 x0 x1 (aH (x2+1)) x3 x4 x5 x6 x7 x8 (x9++[(List.getD x0 (Int.toNat x2) (Ty.z aC))])))
 else
 (L0 x0 x1 (aH (x2+1)) x3 x4 x5 x6 x7 x8 x9))
 else
 (L0 x0 x1 (aH (x2+1)) x3 x4 x5 x6 x7 x8 x9))))
 else
 (bif (x3==5) then
 (bif ((List.getD x0 (Int.toNat x2) (Ty.z aC)).2.2.2.1.1==4) then
 (rm (Ty.bytes aC) (List.length x9+1)
 (L0 x0 x1 (aH (x2+1)) x3 x4 x5 x6 x7 x8 (x9++[(List.getD x0 (Int.toNat x2) (Ty.z aC))])))
 else
 (L0 x0 x1 (aH (x2+1)) x3 x4 x5 x6 x7 x8 x9))
 else
 (L0 x0 x1 (aH (x2+1)) x3 x4 x5 x6 x7 x8 x9))))))
 else
 (some (x9,())))
def l0 (k:Nat):Nat→T0
 | 0=>fun _ _ _ _ _ _ _ _ _ _=>none
 | n+1=>b0 k (l0 k n)
def t (k:Nat) (L0:T0) (a0:List (Ty.d aC)) (a1:Ty.d bB):Rs :=
 (L0 a0 (List.length a0:Int) 0 a1.1 a1.2.1 a1.2.2.1 a1.2.2.2.1 a1.2.2.2.2.1 a1.2.2.2.2.2.1 [])
def f (k:Nat):=t k (l0 k k)
end cr
namespace jK
abbrev Rs:Type:=Option (ByteArray × Unit)
abbrev T0:Type:=ByteArray→List Int→Int→Int→Rs
def b0 (k:Nat) (L0:T0):T0:=fun x0 x1 x2 x3 =>
 (bif (decide (x3<x2)) then
 (bF x3 (x1.length:Int)
 ((fG.f k (List.getD x1 (Int.toNat x3) (Ty.z (.int .i64)))).bind fun r1 =>
 (kW x0 r1.1
 (L0 (x0++r1.1) x1 x2 (aH (x3+1))))))
 else
 (some (x0,())))
def l0 (k:Nat):Nat→T0
 | 0=>fun _ _ _ _=>none
 | n+1=>b0 k (l0 k n)
def t (k:Nat) (L0:T0) (a0:List Int):Rs :=
 (L0 (⟨#[]⟩:ByteArray) a0 (List.length a0:Int) 0)
def f (k:Nat):=t k (l0 k k)
end jK
namespace ii
abbrev Rs:Type:=Option (ByteArray × Unit)
def t (k:Nat) (a0:Ty.d bB):Rs :=
 ((fb.f k a0).bind fun r1 =>
 (bif (!r1.1) then
 (some ((⟨#[]⟩:ByteArray),()))
 else
 ((jK.f k [a0.1,a0.2.1]).bind fun r2 =>
 (bif (a0.1==1) then
 (bif (a0.1==1) then
 ((eZ.f k a0.2.2.1).bind fun r3 =>
 (kW r2.1 r3.1
 ((eZ.f k a0.2.2.2.1).bind fun r4 =>
 (kW (r2.1++r3.1) r4.1
 (some (((r2.1++r3.1)++r4.1),()))))))
 else
 (bif (a0.1==2) then
 ((eZ.f k a0.2.2.1).bind fun r5 =>
 (kW r2.1 r5.1
 (some ((r2.1++r5.1),()))))
 else
 ((fG.f k a0.2.2.2.2.1).bind fun r6 =>
 (kW r2.1 r6.1
 ((dk.f k a0.2.2.2.2.2.1 4).bind fun r7 =>
 (kW (r2.1++r6.1) r7.1
 (some (((r2.1++r6.1)++r7.1),()))))))))
 else
 (bif (a0.1==4) then
 ((eZ.f k a0.2.2.1).bind fun r8 =>
 (kW r2.1 r8.1
 ((eZ.f k a0.2.2.2.1).bind fun r9 =>
 (kW (r2.1++r8.1) r9.1
 (some (((r2.1++r8.1)++r9.1),()))))))
 else
 (bif (a0.1==2) then
 ((eZ.f k a0.2.2.1).bind fun r10 =>
 (kW r2.1 r10.1
 (some ((r2.1++r10.1),()))))
 else
 ((fG.f k a0.2.2.2.2.1).bind fun r11 =>
 (kW r2.1 r11.1
 ((dk.f k a0.2.2.2.2.2.1 4).bind fun r12 =>
 (kW (r2.1++r11.1) r12.1
 (some (((r2.1++r11.1)++r12.1),()))))))))))))
def f (k:Nat):=t k
end ii
namespace iO
abbrev Rs:Type:=Option (Int × Unit)
abbrev T0:Type:=ByteArray→List (Ty.d bB)→Int→Int→Rs
def b0 (k:Nat) (L0:T0):T0:=fun x0 x1 x2 x3 =>
 (bif (decide (x3<x2)) then
 (bF x3 (x1.length:Int)
 ((ii.f k (List.getD x1 (Int.toNat x3) (Ty.z bB))).bind fun r1 =>
 (kW x0 r1.1
 (L0 (x0++r1.1) x1 x2 (aH (x3+1))))))
 else
 ((gL.f k x0).bind fun r2 =>
 (some r2)))
def l0 (k:Nat):Nat→T0
 | 0=>fun _ _ _ _=>none
 | n+1=>b0 k (l0 k n)
def t (k:Nat) (L0:T0) (a0:List (Ty.d bB)):Rs :=
 (L0 (⟨#[]⟩:ByteArray) a0 (List.length a0:Int) 0)
def f (k:Nat):=t k (l0 k k)
end iO
namespace gn
abbrev Rs:Type:=Option (Bool × Unit)
abbrev T0:Type:=List (Ty.d aC)→Int→Int→Int→Int→ByteArray→ByteArray→Int→Int→List (Ty.d bB)→Rs
def b0 (k:Nat) (L0:T0):T0:=fun x0 x1 x2 x3 x4 x5 x6 x7 x8 x9 =>
 (bif (decide (x2<x1)) then
 (bF x2 (x0.length:Int)
 (rm (Ty.bytes bB) (List.length x9+1)
 (L0 x0 x1 (aH (x2+1)) x3 x4 x5 x6 x7 x8 (x9++[(List.getD x0 (Int.toNat x2) (Ty.z aC)).2.2.2.1]))))
 else
 (bif (x7==(x9.length:Int)) then
 ((iO.f k x9).bind fun r1 =>
 (some ((x8==r1.1),())))
 else
 (some (false,()))))
def l0 (k:Nat):Nat→T0
 | 0=>fun _ _ _ _ _ _ _ _ _ _=>none
 | n+1=>b0 k (l0 k n)
def t (k:Nat) (L0:T0) (a0:Ty.d bB) (a1:List (Ty.d aC)):Rs :=
 (L0 a1 (List.length a1:Int) 0 a0.1 a0.2.1 a0.2.2.1 a0.2.2.2.1 a0.2.2.2.2.1 a0.2.2.2.2.2.1 [])
def f (k:Nat):=t k (l0 k k)
end gn
namespace dE
abbrev Rs:Type:=Option ((List (Ty.d aB)) × Unit)
abbrev T0:Type:=ByteArray→List (Ty.d aB)→Int→Int→List (Ty.d aB)→Rs
def b0 (k:Nat) (L0:T0):T0:=fun x0 x1 x2 x3 x4 =>
 (bif (decide (x3<x2)) then
 (bF x3 (x1.length:Int)
 (bif (!(seq (List.getD x1 (Int.toNat x3) (Ty.z aB)).1 x0)) then
 (rm (Ty.bytes aB) (List.length x4+1)
 (L0 x0 x1 x2 (aH (x3+1)) (x4++[(List.getD x1 (Int.toNat x3) (Ty.z aB))])))
 else
 (L0 x0 x1 x2 (aH (x3+1)) x4)))
 else
 (some (x4,())))
def l0 (k:Nat):Nat→T0
 | 0=>fun _ _ _ _ _=>none
 | n+1=>b0 k (l0 k n)
def t (k:Nat) (L0:T0) (a0:List (Ty.d aB)) (a1:ByteArray):Rs :=
 (L0 a1 a0 (List.length a0:Int) 0 [])
def f (k:Nat):=t k (l0 k k)
end dE
namespace eo
abbrev Rs:Type:=Option ((List (Ty.d aB)) × Unit)
abbrev T0:Type:=Int→ByteArray→Int→Int→Int→Int→List (Ty.d aB)→Rs
def b0 (k:Nat) (L0:T0):T0:=fun x0 x1 x2 x3 x4 x5 x6 =>
 (bif (decide (x0<(x6.length:Int))) then
 (bF x0 (x6.length:Int)
 (bif ((mw (List.getD x6 (Int.toNat x0) (Ty.z aB)).1 x1)||(seq (List.getD x6 (Int.toNat x0) (Ty.z aB)).1 x1)) then
 (L0 (aH (x0+1)) x1 x2 x3 x4 x5 x6)
 else
 (nR x0 (x6.length:Int)
 ((eM.f k (List.take (Int.toNat x0) x6)).bind fun r2 =>
 (rm (Ty.bytes aB) (List.length r2.1+1)
 (nR x0 (x6.length:Int)
 (rm (Ty.bytes aB) (List.length (r2.1++[(x1,(x2,(x3,(x4,(x5,())))))])+List.length (List.drop (Int.toNat x0) x6))
 (some (((r2.1++[(x1,(x2,(x3,(x4,(x5,())))))])++(List.drop (Int.toNat x0) x6)),())))))))))
 else
 (nR x0 (x6.length:Int)
 ((eM.f k (List.take (Int.toNat x0) x6)).bind fun r3 =>
 (rm (Ty.bytes aB) (List.length r3.1+1)
 (nR x0 (x6.length:Int)
 (rm (Ty.bytes aB) (List.length (r3.1++[(x1,(x2,(x3,(x4,(x5,())))))])+List.length (List.drop (Int.toNat x0) x6))
 (some (((r3.1++[(x1,(x2,(x3,(x4,(x5,())))))])++(List.drop (Int.toNat x0) x6)),()))))))))
def l0 (k:Nat):Nat→T0
 | 0=>fun _ _ _ _ _ _ _=>none
 | n+1=>b0 k (l0 k n)
def t (k:Nat) (L0:T0) (a0:List (Ty.d aB)) (a1:Ty.d aB):Rs :=
 ((dE.f k a0 a1.1).bind fun r1 =>
 (L0 0 a1.1 a1.2.1 a1.2.2.1 a1.2.2.2.1 a1.2.2.2.2.1 r1.1))
def f (k:Nat):=t k (l0 k k)
end eo
namespace c9
abbrev Rs:Type:=Option ((Ty.d fw) × Unit)
abbrev T0:Type:=List (Ty.d aC)→Int→Int→List (Ty.d aB)→Int→Int→Rs
def b0 (k:Nat) (L0:T0):T0:=fun x0 x1 x2 x3 x4 x5 =>
 (bif (decide (x2<x1)) then
 (bF x2 (x0.length:Int)
 (bif ((List.getD x0 (Int.toNat x2) (Ty.z aC)).2.2.2.1.1==2) then
 ((dE.f k x3 (List.getD x0 (Int.toNat x2) (Ty.z aC)).2.2.2.1.2.2.1).bind fun r1 =>
 (L0 x0 x1 (aH (x2+1)) r1.1 x4 x5))
 else
 ((eo.f k x3 ((List.getD x0 (Int.toNat x2) (Ty.z aC)).2.2.2.1.2.2.1,((List.getD x0 (Int.toNat x2) (Ty.z aC)).1,((List.getD x0 (Int.toNat x2) (Ty.z aC)).2.1,((List.getD x0 (Int.toNat x2) (Ty.z aC)).2.2.1,((List.getD x0 (Int.toNat x2) (Ty.z aC)).2.2.2.1.2.1,())))))).bind fun r2 =>
 (L0 x0 x1 (aH (x2+1)) r2.1 x4 x5))))
 else
 (bif (decide ((x3.length:Int) > 20)) then
 (some ((x3,(x4,(2,()))),()))
 else
 (some ((x3,(x4,(x5,()))),()))))
def l0 (k:Nat):Nat→T0
 | 0=>fun _ _ _ _ _ _=>none
 | n+1=>b0 k (l0 k n)
def t (k:Nat) (L0:T0) (a0:Ty.d fw) (a1:List (Ty.d aC)):Rs :=
 (L0 a1 (List.length a1:Int) 0 a0.1 a0.2.1 a0.2.2.1)
def f (k:Nat):=t k (l0 k k)
end c9
namespace ez
abbrev Rs:Type:=Option ((Ty.d fw) × Unit)
abbrev T0:Type:=List (Ty.d aC)→List (Ty.d aC)→Int→Int→List (Ty.d aB)→Int→Int→List (Ty.d aB)→Int→Int→Rs
def b0 (k:Nat) (L0:T0):T0:=fun x0 x1 x2 x3 x4 x5 x6 x7 x8 x9 =>
 (bif (decide (x3<x2)) then
 (bF x3 (x1.length:Int)
 (bif (x9 != 0) then
 (some ((x7,(x8,(x9,()))),()))
 else
 (bif ((List.getD x1 (Int.toNat x3) (Ty.z aC)).2.2.2.1.1 != 3) then
 (bif ((List.getD x1 (Int.toNat x3) (Ty.z aC)).2.2.2.1.1 != 5) then
 (L0 x0 x1 x2 (aH (x3+1)) x4 x5 x6 x7 (if (List.getD x1 (Int.toNat x3) (Ty.z aC)).2.2.2.1.2.1 > x8 then (List.getD x1 (Int.toNat x3) (Ty.z aC)).2.2.2.1.2.1 else x8) x9)
 else
 (nR x3 (x0.length:Int)
 ((cr.f k (List.take (Int.toNat x3) x0) (List.getD x1 (Int.toNat x3) (Ty.z aC)).2.2.2.1).bind fun r2 =>
 ((gn.f k (List.getD x1 (Int.toNat x3) (Ty.z aC)).2.2.2.1 r2.1).bind fun r3 =>
 (bif r3.1 then
 ((c9.f k (x7,((if (List.getD x1 (Int.toNat x3) (Ty.z aC)).2.2.2.1.2.1 > x8 then (List.getD x1 (Int.toNat x3) (Ty.z aC)).2.2.2.1.2.1 else x8),(x9,()))) r2.1).bind fun r4 =>
 (L0 x0 x1 x2 (aH (x3+1)) x4 x5 x6 r4.1.1 r4.1.2.1 r4.1.2.2.1))
 else
 (bif ((List.getD x1 (Int.toNat x3) (Ty.z aC)).2.2.2.1.1==5) then
 (L0 x0 x1 x2 (aH (x3+1)) x4 x5 x6 x7 (if (List.getD x1 (Int.toNat x3) (Ty.z aC)).2.2.2.1.2.1 > x8 then (List.getD x1 (Int.toNat x3) (Ty.z aC)).2.2.2.1.2.1 else x8) 1)
 else
 (L0 x0 x1 x2 (aH (x3+1)) x4 x5 x6 x7 (if (List.getD x1 (Int.toNat x3) (Ty.z aC)).2.2.2.1.2.1 > x8 then (List.getD x1 (Int.toNat x3) (Ty.z aC)).2.2.2.1.2.1 else x8) x9)))))))
 else
 (nR x3 (x0.length:Int)
 ((cr.f k (List.take (Int.toNat x3) x0) (List.getD x1 (Int.toNat x3) (Ty.z aC)).2.2.2.1).bind fun r5 =>
 ((gn.f k (List.getD x1 (Int.toNat x3) (Ty.z aC)).2.2.2.1 r5.1).bind fun r6 =>
 (bif r6.1 then
 ((c9.f k (x7,((if (List.getD x1 (Int.toNat x3) (Ty.z aC)).2.2.2.1.2.1 > x8 then (List.getD x1 (Int.toNat x3) (Ty.z aC)).2.2.2.1.2.1 else x8),(x9,()))) r5.1).bind fun r7 =>
 (L0 x0 x1 x2 (aH (x3+1)) x4 x5 x6 r7.1.1 r7.1.2.1 r7.1.2.2.1))
 else
 (bif ((List.getD x1 (Int.toNat x3) (Ty.z aC)).2.2.2.1.1==5) then
 (L0 x0 x1 x2 (aH (x3+1)) x4 x5 x6 x7 (if (List.getD x1 (Int.toNat x3) (Ty.z aC)).2.2.2.1.2.1 > x8 then (List.getD x1 (Int.toNat x3) (Ty.z aC)).2.2.2.1.2.1 else x8) 1)
 else
 (L0 x0 x1 x2 (aH (x3+1)) x4 x5 x6 x7 (if (List.getD x1 (Int.toNat x3) (Ty.z aC)).2.2.2.1.2.1 > x8 then (List.getD x1 (Int.toNat x3) (Ty.z aC)).2.2.2.1.2.1 else x8) x9)))))))))
 else
 (bif (x9==0) then
 ((cr.f k x0 (5,(0,(ByteArray.empty,(ByteArray.empty,(0,(0,()))))))).bind fun r8 =>
 (bif (decide ((List.length r8.1:Int) > 0)) then
 (some ((x7,(x8,(1,()))),()))
 else
 (some ((x7,(x8,(x9,()))),()))))
 else
 (some ((x7,(x8,(x9,()))),()))))
def l0 (k:Nat):Nat→T0
 | 0=>fun _ _ _ _ _ _ _ _ _ _=>none
 | n+1=>b0 k (l0 k n)
def t (k:Nat) (L0:T0) (a0:Ty.d fw) (a1:List (Ty.d aC)):Rs :=
 ((eM.f k a0.1).bind fun r1 =>
 (L0 a1 a1 (List.length a1:Int) 0 [] 0 0 r1.1 a0.2.1 a0.2.2.1))
def f (k:Nat):=t k (l0 k k)
end ez
namespace bd
abbrev Rs:Type:=Option ((List (Ty.d aK)) × Bool × Unit)
abbrev T1:Type:=Int→Int→Int→List (Ty.d bU)→List (Ty.d aK)→List (Ty.d aB)→Rs
abbrev T0:Type:=List (Ty.d bU)→Int→Int→Int→List (Ty.d bU)→List (Ty.d aC)→Rs
def b1 (k:Nat) (L1:T1):T1:=fun x0 x1 x2 x3 x4 x5 =>
 (bif (decide (x1<x0)) then
 (bF x1 (x5.length:Int)
 ((gm.f k (x2,(x3,())) (List.getD x5 (Int.toNat x1) (Ty.z aB)).2.1).bind fun r4 =>
 ((iw.f k r4.1 (List.getD x5 (Int.toNat x1) (Ty.z aB)).2.2.1 (List.getD x5 (Int.toNat x1) (Ty.z aB)).2.2.2.1).bind fun r5 =>
 (bif (!r5.2.1) then
 (some ([],(false,())))
 else
 (rm (Ty.bytes aK) (List.length x4+1)
 (L1 x0 (aH (x1+1)) x2 x3 (x4++[(r5.1.2.2.1,(r5.1.2.2.2.1,(r5.1.2.1,())))]) x5))))))
 else
 (some (x4,(true,()))))
def l1 (k:Nat):Nat→T1
 | 0=>fun _ _ _ _ _ _=>none
 | n+1=>b1 k (l1 k n)
def b0 (k:Nat) (L1:T1) (L0:T0):T0:=fun x0 x1 x2 x3 x4 x5 =>
 (bif (decide (x2<x1)) then
 (bF x2 (x0.length:Int)
 ((dN.f k (List.getD x0 (Int.toNat x2) (Ty.z bU)).2.1).bind fun r1 =>
 (bif (r1.2.1 != (ByteArray.size (List.getD x0 (Int.toNat x2) (Ty.z bU)).2.1:Int)) then
 (some ([],(false,())))
 else
 ((fi.f k (List.getD x0 (Int.toNat x2) (Ty.z bU)).1 r1.1).bind fun r2 =>
 (rm (Ty.bytes aC) (List.length x5+List.length r2.1)
 (L0 x0 x1 (aH (x2+1)) x3 x4 (x5++r2.1)))))))
 else
 ((ez.f k ([],(0,(0,()))) x5).bind fun r3 =>
 (bif (r3.1.2.2.1 != 0) then
 (some ([],(false,())))
 else
 (L1 (List.length r3.1.1:Int) 0 x3 x4 [] r3.1.1))))
def l0 (k:Nat):Nat→T0
 | 0=>fun _ _ _ _ _ _=>none
 | n+1=>b0 k (l1 k k) (l0 k n)
def t (k:Nat) (L0:T0) (a0:Ty.d aV):Rs :=
 (L0 a0.2.1 (List.length a0.2.1:Int) 0 a0.1 a0.2.1 [])
def f (k:Nat):=t k (l0 k k)
end bd
namespace dF
abbrev Rs:Type:=Option (Bool × Unit)
abbrev T0:Type:=List (Ty.d aK)→List (Ty.d aK)→Int→Rs
def b0 (k:Nat) (L0:T0):T0:=fun x0 x1 x2 =>
 (bif (decide (x2<(x0.length:Int))) then
 (bF x2 (x0.length:Int)
 (bF x2 (x1.length:Int)
 (bif (!((seq (List.getD x0 (Int.toNat x2) (Ty.z aK)).1 (List.getD x1 (Int.toNat x2) (Ty.z aK)).1)&&((seq (List.getD x0 (Int.toNat x2) (Ty.z aK)).2.1 (List.getD x1 (Int.toNat x2) (Ty.z aK)).2.1)&&((List.getD x0 (Int.toNat x2) (Ty.z aK)).2.2.1==(List.getD x1 (Int.toNat x2) (Ty.z aK)).2.2.1)))) then
 (some (false,()))
 else
 (L0 x0 x1 (aH (x2+1))))))
 else
 (some (true,())))
def l0 (k:Nat):Nat→T0
 | 0=>fun _ _ _=>none
 | n+1=>b0 k (l0 k n)
def t (k:Nat) (L0:T0) (a0:List (Ty.d aK)) (a1:List (Ty.d aK)):Rs :=
 (bif ((List.length a0:Int) != (List.length a1:Int)) then
 (some (false,()))
 else
 (L0 a0 a1 0))
def f (k:Nat):=t k (l0 k k)
end dF
namespace cI
abbrev Rs:Type:=Option (Bool × Unit)
abbrev T0:Type:=Int→Int→List (Ty.d bU)→Int→List (Ty.d bU)→Rs
def b0 (k:Nat) (L0:T0):T0:=fun x0 x1 x2 x3 x4 =>
 (bif (decide (x0<(x2.length:Int))) then
 (bF x0 (x2.length:Int)
 (bF x0 (x4.length:Int)
 (bif (!(((List.getD x2 (Int.toNat x0) (Ty.z bU)).1==(List.getD x4 (Int.toNat x0) (Ty.z bU)).1)&&(seq (List.getD x2 (Int.toNat x0) (Ty.z bU)).2.1 (List.getD x4 (Int.toNat x0) (Ty.z bU)).2.1))) then
 (some (false,()))
 else
 (L0 (aH (x0+1)) x1 x2 x3 x4))))
 else
 (some (true,())))
def l0 (k:Nat):Nat→T0
 | 0=>fun _ _ _ _ _=>none
 | n+1=>b0 k (l0 k n)
def t (k:Nat) (L0:T0) (a0:Ty.d aV) (a1:Ty.d aV):Rs :=
 (bif (a0.1 != a1.1) then
 (some (false,()))
 else
 (bif ((List.length a0.2.1:Int) != (List.length a1.2.1:Int)) then
 (some (false,()))
 else
 (L0 0 a0.1 a0.2.1 a1.1 a1.2.1)))
def f (k:Nat):=t k (l0 k k)
end cI
namespace fW
abbrev Rs:Type:=Option (Bool × Unit)
def t (k:Nat) (a0:List Int):Rs :=
 ((oZ.f k a0).bind fun r1 =>
 (bif r1.1 then
 (some (true,()))
 else
 ((iB.f k a0).bind fun r2 =>
 ((kz.f k r2.1).bind fun r3 =>
 (bif (!r3.1.1.1) then
 ((eC.f k ((0,([],())),([],(0,(0,(0,()))))) r3.1.1.2.2.1 (0,([],()))).bind fun r4 =>
 ((bA.f k r4.1).bind fun r5 =>
 (some ((r5.1==0),()))))
 else
 ((bS.f k r3.1.1.2.1 r3.1.1.2.2.1).bind fun r6 =>
 (bif (!r6.1) then
 ((eC.f k ((0,([],())),([],(0,(0,(0,()))))) r3.1.1.2.2.1 (0,([],()))).bind fun r7 =>
 ((bA.f k r7.1).bind fun r8 =>
 (some ((r8.1==0),()))))
 else
 (bif r3.1.1.2.2.1.2.2.2.1 then
 ((eC.f k ((0,([],())),([],(0,(0,(0,()))))) r3.1.1.2.2.1 (0,([],()))).bind fun r9 =>
 ((bA.f k r9.1).bind fun r10 =>
 (some ((r10.1==0),()))))
 else
 ((j2.f k a0).bind fun r11 =>
 ((eC.f k r3.1.1.2.1 r3.1.1.2.2.1 r11.2.2.1).bind fun r12 =>
 ((dj.f k r11.2.2.1 r12.1).bind fun r13 =>
 ((bd.f k r13.1).bind fun r14 =>
 ((gB.f k r3.1.1.2.1 r3.1.1.2.2.1).bind fun r15 =>
 ((eC.f k r3.1.1.2.1 r3.1.1.2.2.1 r13.1).bind fun r16 =>
 ((eC.f k r3.1.1.2.1 r3.1.1.2.2.1 (0,([],()))).bind fun r17 =>
 ((dj.f k (0,([],())) r17.1).bind fun r18 =>
 (bif r13.2.1 then
 (bif r14.2.1 then
 (bif r18.2.1 then
 (bif (r15.2.1==0) then
 ((dF.f k r14.1 r15.1).bind fun r19 =>
 (bif r19.1 then
 ((bA.f k r16.1).bind fun r20 =>
 (bif (r20.1==0) then
 (bif ((List.length r16.1.2.1:Int)==(List.length r3.1.1.2.1.1.2.1:Int)) then
 ((cI.f k r13.1 r18.1).bind fun r21 =>
 (bif r21.1 then
 ((bA.f k r12.1).bind fun r22 =>
 ((eC.f k r3.1.1.2.1 r3.1.1.2.2.1 (0,([],()))).bind fun r23 =>
 ((bA.f k r23.1).bind fun r24 =>
 (some ((decide (r22.1≤r24.1)),())))))
 else
 (some (false,()))))
 else
 (some (false,())))
 else
 (some (false,()))))
 else
 (some (false,()))))
 else
 (some (false,())))
 else
 (some (false,())))
 else
 (some (false,())))
 else
 (some (false,())))))))))))))))))))
def f (k:Nat):=t k
end fW
end Go.Proofs.YthjppgafienaoabGreatDoor.G

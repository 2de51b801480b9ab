/- Functions, as V runs them. -/
import Derived.Test.YtnpijgnfpdcjbaaGreatDoorVWords
import Derived.Test.YtnpijgnfpdcjbaaGreatDoorXLib
set_option linter.unusedVariables false
namespace Go.Proofs.YtnpijgnfpdcjbaaGreatDoor.G
open Go.V
abbrev qZ:Ty := .pair (.int .i64) (.pair .str (.pair (.slice .str) .unit))
abbrev mN:Ty := .pair (.int .i64) (.pair (.int .i64) (.pair .str .unit))
abbrev aL:Ty := .pair .str (.pair .str (.pair (.int .i64) .unit))
abbrev aA:Ty := .pair (.slice aL) (.pair (.int .i64) (.pair (.int .i64) (.pair .bool .unit)))
abbrev cY:Ty := .pair (.int .i64) (.pair (.slice (.int .i64)) .unit)
abbrev aB:Ty := .pair .str (.pair (.int .i64) (.pair (.int .i64) (.pair (.int .i64) (.pair (.int .i64) .unit))))
abbrev aE:Ty := .pair cY (.pair (.slice aB) (.pair (.int .i64) (.pair (.int .i64) (.pair (.int .i64) .unit))))
abbrev eh:Ty := .pair .str (.pair (.int .i64) .unit)
abbrev dI:Ty := .pair .str (.pair .bool (.pair .str .unit))
abbrev du:Ty := .pair .bool (.pair (.slice eh) (.pair (.slice dI) .unit))
abbrev dc:Ty := .pair .bool (.pair aE (.pair aA (.pair (.slice du) .unit)))
abbrev dE:Ty := .pair (.int .i64) (.pair .str .unit)
abbrev ay:Ty := .pair (.int .i64) (.pair (.slice dE) .unit)
abbrev fj:Ty := .pair (.slice aB) (.pair (.int .i64) (.pair (.int .i64) .unit))
abbrev gP:Ty := .pair (.int .i64) (.pair (.int .i64) (.pair (.slice aB) .unit))
abbrev ja:Ty := .pair (.int .i64) (.pair (.slice mN) .unit)
abbrev b7:Ty := .pair (.int .i64) (.pair (.int .i64) (.pair .str (.pair .str (.pair (.int .i64) (.pair (.int .i64) .unit)))))
abbrev aC:Ty := .pair (.int .i64) (.pair (.int .i64) (.pair (.int .i64) (.pair b7 .unit)))
abbrev bg:Ty := .pair (.int .i64) (.pair (.int .i64) (.pair .str (.pair .str (.pair (.int .i64) .unit))))
abbrev nU:Ty := .pair (.int .i64) (.pair (.int .i64) (.pair (.slice bg) .unit))
abbrev c_:Ty := .pair (.int .i64) (.pair (.int .i64) (.pair b7 .unit))
abbrev d8:Ty := .pair (.slice (.int .u8)) (.pair (.int .i64) (.pair (.int .i64) .unit))
abbrev jR:Ty := .pair .str (.pair .bool .unit)
abbrev dJ:Ty:=aL
namespace o8
abbrev Rs:Type:=Option (Bool × Unit)
def t (k:Nat) (a0:List Int):Rs :=
 (some ((decide ((List.length a0:Int) > 1048576)),()))
def f (k:Nat):=t k
end o8
namespace ft
abbrev Rs:Type:=Option (Unit × (Ty.d d8) × Unit)
abbrev T0:Type:=List Int→Int→Int→Rs
def b0 (k:Nat) (L0:T0):T0:=fun x0 x1 x2 =>
 (bif (decide (x2<(x0.length:Int))) then
 (bif (decide (x2<4000)) then
 (bF x2 (x0.length:Int)
 (L0 x0 (aJ (((BitVec.ofInt (IntKind.bits .i64) (aJ ((aJ ((aJ (x1*131))+(aJ (List.getD x0 (Int.toNat x2) (Ty.z (.int .u8))))))+7)) &&& BitVec.ofInt (IntKind.bits .i64) 1073741823).toNat:Int))) (aJ (x2+1))))
 else
 (some ((),((x0,(0,(x1,()))),()))))
 else
 (some ((),((x0,(0,(x1,()))),()))))
def l0 (k:Nat):Nat→T0
 | 0=>fun _ _ _=>none
 | n+1=>b0 k (l0 k n)
def t (k:Nat) (L0:T0) (a0:List Int):Rs :=
 (L0 a0 (aJ (10101+(List.length a0:Int))) 0)
def f (k:Nat):=t k (l0 k k)
end ft
namespace eZ
abbrev Rs:Type:=Option ((Ty.d d8) × Int × Unit)
def t (k:Nat) (a0:Ty.d d8):Rs :=
 (bif (decide (a0.2.1<(List.length a0.1:Int))) then
 (bF a0.2.1 (List.length a0.1:Int)
 (some ((a0.1,((aJ (a0.2.1+1)),((aJ ((aJ (a0.2.2.1*6364136223846793005))+1442695040888963407)),()))),((aJ (((BitVec.ofInt (IntKind.bits .i64) (aJ ((aJ (((BitVec.ofInt (IntKind.bits .i64) (aJ (((BitVec.ofInt (IntKind.bits .i64) (Int.fdiv (aJ ((aJ (a0.2.2.1*6364136223846793005))+1442695040888963407)) (2 ^ (Int.toNat 33))) ^^^ BitVec.ofInt (IntKind.bits .i64) (Int.fdiv (aJ ((aJ (a0.2.2.1*6364136223846793005))+1442695040888963407)) (2 ^ (Int.toNat 45)))).toNat:Int))) &&& BitVec.ofInt (IntKind.bits .i64) 255).toNat:Int)))+(aJ (List.getD a0.1 (Int.toNat a0.2.1) (Ty.z (.int .u8)))))) &&& BitVec.ofInt (IntKind.bits .i64) 255).toNat:Int))),()))))
 else
 (some ((a0.1,(a0.2.1,((aJ ((aJ (a0.2.2.1*6364136223846793005))+1442695040888963407)),()))),((aJ (((BitVec.ofInt (IntKind.bits .i64) (aJ (((BitVec.ofInt (IntKind.bits .i64) (Int.fdiv (aJ ((aJ (a0.2.2.1*6364136223846793005))+1442695040888963407)) (2 ^ (Int.toNat 33))) ^^^ BitVec.ofInt (IntKind.bits .i64) (Int.fdiv (aJ ((aJ (a0.2.2.1*6364136223846793005))+1442695040888963407)) (2 ^ (Int.toNat 45)))).toNat:Int))) &&& BitVec.ofInt (IntKind.bits .i64) 255).toNat:Int))),()))))
def f (k:Nat):=t k
end eZ
namespace aa
abbrev Rs:Type:=Option ((Ty.d d8) × Int × Unit)
def t (k:Nat) (a0:Ty.d d8) (a1:Int):Rs :=
 (bif (decide (a1≤0)) then
 (some (a0,(0,())))
 else
 (bif (decide (a1≤256)) then
 ((eZ.f k a0).bind fun r1 =>
 (bif (decide (a1=0)) then none else
 (some (r1.1,((Int.tmod r1.2.1 a1),())))))
 else
 ((eZ.f k a0).bind fun r2 =>
 ((eZ.f k r2.1).bind fun r3 =>
 ((eZ.f k r3.1).bind fun r4 =>
 ((eZ.f k r4.1).bind fun r5 =>
 (bif (decide (a1=0)) then none else
 (some (r5.1,((Int.tmod (aJ ((aJ ((aJ ((aJ (r2.2.1*16777216))+(aJ (r3.2.1*65536))))+(aJ (r4.2.1*256))))+r5.2.1)) a1),()))))))))))
def f (k:Nat):=t k
end aa
namespace aM
abbrev Rs:Type:=Option ((Ty.d d8) × Int × Unit)
def t (k:Nat) (a0:Ty.d d8) (a1:List Int):Rs :=
 ((aa.f k a0 (List.length a1:Int)).bind fun r1 =>
 (bF r1.2.1 (List.length a1:Int)
 (some (r1.1,((List.getD a1 (Int.toNat r1.2.1) (Ty.z (.int .i64))),())))))
def f (k:Nat):=t k
end aM
namespace cK
abbrev Rs:Type:=Option ((Ty.d d8) × ByteArray × Unit)
def t (k:Nat) (a0:Ty.d d8) (a1:List ByteArray):Rs :=
 ((aa.f k a0 (List.length a1:Int)).bind fun r1 =>
 (bF r1.2.1 (List.length a1:Int)
 (some (r1.1,((List.getD a1 (Int.toNat r1.2.1) (Ty.z .str)),())))))
def f (k:Nat):=t k
end cK
namespace iG
abbrev Rs:Type:=Option ((Ty.d d8) × ByteArray × Unit)
def t (k:Nat) (a0:Ty.d d8):Rs :=
 ((cK.f k a0 [(⟨#[97]⟩:ByteArray),(⟨#[98]⟩:ByteArray),(⟨#[99]⟩:ByteArray),(⟨#[107,101,121]⟩:ByteArray),(⟨#[108,111,110,103,110,97,109,101]⟩:ByteArray)]).bind fun r1 =>
 (some r1))
def f (k:Nat):=t k
end iG
namespace eV
abbrev Rs:Type:=Option ((Ty.d d8) × ByteArray × Unit)
abbrev T0:Type:=Int→Int→List Int→Int→Int→List Int→Rs
def b0 (k:Nat) (L0:T0):T0:=fun x0 x1 x2 x3 x4 x5 =>
 (bif (decide (x1 > 0)) then
 ((eZ.f k (x2,(x3,(x4,())))).bind fun r3 =>
 (bif (x0==1) then
 (bif (x0==2) then
 (rm (Ty.bytes (.int .u8)) (List.length x5+1)
 (L0 x0 (aJ (x1-1)) r3.1.1 r3.1.2.1 r3.1.2.2.1 (x5++[(IntKind.wrap .u8 (aJ (97+(Int.tmod (Int.tmod r3.2.1 2) 4))))])))
 else
 (rm (Ty.bytes (.int .u8)) (List.length x5+1)
 (L0 x0 (aJ (x1-1)) r3.1.1 r3.1.2.1 r3.1.2.2.1 (x5++[(IntKind.wrap .u8 (Int.tmod r3.2.1 2))]))))
 else
 (bif (x0==2) then
 (rm (Ty.bytes (.int .u8)) (List.length x5+1)
 (L0 x0 (aJ (x1-1)) r3.1.1 r3.1.2.1 r3.1.2.2.1 (x5++[(IntKind.wrap .u8 (aJ (97+(Int.tmod r3.2.1 4))))])))
 else
 (rm (Ty.bytes (.int .u8)) (List.length x5+1)
 (L0 x0 (aJ (x1-1)) r3.1.1 r3.1.2.1 r3.1.2.2.1 (x5++[(IntKind.wrap .u8 r3.2.1)]))))))
 else
 (some ((x2,(x3,(x4,()))),((bytesOf x5),()))))
def l0 (k:Nat):Nat→T0
 | 0=>fun _ _ _ _ _ _=>none
 | n+1=>b0 k (l0 k n)
def t (k:Nat) (L0:T0) (a0:Ty.d d8) (a1:Int):Rs :=
 ((aa.f k a0 4).bind fun r1 =>
 ((aa.f k r1.1 (aJ (a1+1))).bind fun r2 =>
 (L0 r1.2.1 r2.2.1 r2.1.1 r2.1.2.1 r2.1.2.2.1 [])))
def f (k:Nat):=t k (l0 k k)
end eV
namespace ia
abbrev Rs:Type:=Option ((Ty.d d8) × (Ty.d bg) × Unit)
def t (k:Nat) (a0:Ty.d d8):Rs :=
 ((aM.f k a0 [1,2,2,3,3,3,4,5,5,6,7,8,1,5]).bind fun r1 =>
 ((aa.f k r1.1 3).bind fun r2 =>
 (bif (r1.2.1==2) then
 (bif (r1.2.1==2) then
 ((iG.f k r2.1).bind fun r3 =>
 ((aa.f k r3.1 40).bind fun r4 =>
 (bif (r4.2.1==0) then
 (some (r4.1,((9,(0,(ByteArray.empty,(ByteArray.empty,(0,()))))),())))
 else
 (bif (r4.2.1==1) then
 (bif (r4.2.1==1) then
 (some (r4.1,((10,(0,(ByteArray.empty,(ByteArray.empty,(0,()))))),())))
 else
 (bif (r4.2.1==3) then
 ((aM.f k r4.1 [(-1),3]).bind fun r5 =>
 (some (r5.1,((r1.2.1,(r5.2.1,(r3.2.1,(ByteArray.empty,(0,()))))),()))))
 else
 (bif (r4.2.1==4) then
 ((cK.f k r4.1 [(⟨#[]⟩:ByteArray),(⟨#[110,105,110,101,98,121,116,101,115]⟩:ByteArray)]).bind fun r6 =>
 (some (r6.1,((r1.2.1,(r2.2.1,(r6.2.1,(ByteArray.empty,(0,()))))),()))))
 else
 (bif (r4.2.1==5) then
 ((aM.f k r4.1 [0,12]).bind fun r7 =>
 (some (r7.1,((r7.2.1,(r2.2.1,(r3.2.1,(ByteArray.empty,(0,()))))),()))))
 else
 (some (r4.1,((r1.2.1,(r2.2.1,(r3.2.1,(ByteArray.empty,(0,()))))),())))))))
 else
 (bif (r4.2.1==2) then
 (some (r4.1,((10,(0,(ByteArray.empty,(ByteArray.empty,(0,()))))),())))
 else
 (bif (r4.2.1==3) then
 ((aM.f k r4.1 [(-1),3]).bind fun r8 =>
 (some (r8.1,((r1.2.1,(r8.2.1,(r3.2.1,(ByteArray.empty,(0,()))))),()))))
 else
 (bif (r4.2.1==4) then
 ((cK.f k r4.1 [(⟨#[]⟩:ByteArray),(⟨#[110,105,110,101,98,121,116,101,115]⟩:ByteArray)]).bind fun r9 =>
 (some (r9.1,((r1.2.1,(r2.2.1,(r9.2.1,(ByteArray.empty,(0,()))))),()))))
 else
 (bif (r4.2.1==5) then
 ((aM.f k r4.1 [0,12]).bind fun r10 =>
 (some (r10.1,((r10.2.1,(r2.2.1,(r3.2.1,(ByteArray.empty,(0,()))))),()))))
 else
 (some (r4.1,((r1.2.1,(r2.2.1,(r3.2.1,(ByteArray.empty,(0,()))))),())))))))))))
 else
 (bif (r1.2.1==3) then
 ((iG.f k r2.1).bind fun r11 =>
 ((eV.f k r11.1 12).bind fun r12 =>
 ((aa.f k r12.1 40).bind fun r13 =>
 (bif (r13.2.1==0) then
 (some (r13.1,((9,(0,(ByteArray.empty,(ByteArray.empty,(0,()))))),())))
 else
 (bif (r13.2.1==1) then
 (bif (r13.2.1==1) then
 (some (r13.1,((10,(0,(ByteArray.empty,(ByteArray.empty,(0,()))))),())))
 else
 (bif (r13.2.1==3) then
 ((aM.f k r13.1 [(-1),3]).bind fun r14 =>
 (some (r14.1,((r1.2.1,(r14.2.1,(r11.2.1,(r12.2.1,(0,()))))),()))))
 else
 (bif (r13.2.1==4) then
 ((cK.f k r13.1 [(⟨#[]⟩:ByteArray),(⟨#[110,105,110,101,98,121,116,101,115]⟩:ByteArray)]).bind fun r15 =>
 (some (r15.1,((r1.2.1,(r2.2.1,(r15.2.1,(r12.2.1,(0,()))))),()))))
 else
 (bif (r13.2.1==5) then
 ((aM.f k r13.1 [0,12]).bind fun r16 =>
 (some (r16.1,((r16.2.1,(r2.2.1,(r11.2.1,(r12.2.1,(0,()))))),()))))
 else
 (some (r13.1,((r1.2.1,(r2.2.1,(r11.2.1,(r12.2.1,(0,()))))),())))))))
 else
 (bif (r13.2.1==2) then
 (some (r13.1,((10,(0,(ByteArray.empty,(ByteArray.empty,(0,()))))),())))
 else
 (bif (r13.2.1==3) then
 ((aM.f k r13.1 [(-1),3]).bind fun r17 =>
 (some (r17.1,((r1.2.1,(r17.2.1,(r11.2.1,(r12.2.1,(0,()))))),()))))
 else
 (bif (r13.2.1==4) then
 ((cK.f k r13.1 [(⟨#[]⟩:ByteArray),(⟨#[110,105,110,101,98,121,116,101,115]⟩:ByteArray)]).bind fun r18 =>
 (some (r18.1,((r1.2.1,(r2.2.1,(r18.2.1,(r12.2.1,(0,()))))),()))))
 else
 (bif (r13.2.1==5) then
 ((aM.f k r13.1 [0,12]).bind fun r19 =>
 (some (r19.1,((r19.2.1,(r2.2.1,(r11.2.1,(r12.2.1,(0,()))))),()))))
 else
 (some (r13.1,((r1.2.1,(r2.2.1,(r11.2.1,(r12.2.1,(0,()))))),()))))))))))))
 else
 ((aa.f k r2.1 40).bind fun r20 =>
 (bif (r20.2.1==0) then
 (some (r20.1,((9,(0,(ByteArray.empty,(ByteArray.empty,(0,()))))),())))
 else
 (bif (r20.2.1==1) then
 (bif (r20.2.1==1) then
 (some (r20.1,((10,(0,(ByteArray.empty,(ByteArray.empty,(0,()))))),())))
 else
 (bif (r20.2.1==3) then
 ((aM.f k r20.1 [(-1),3]).bind fun r21 =>
 (some (r21.1,((r1.2.1,(r21.2.1,(ByteArray.empty,(ByteArray.empty,(0,()))))),()))))
 else
 (bif (r20.2.1==4) then
 ((cK.f k r20.1 [(⟨#[]⟩:ByteArray),(⟨#[110,105,110,101,98,121,116,101,115]⟩:ByteArray)]).bind fun r22 =>
 (some (r22.1,((r1.2.1,(r2.2.1,(r22.2.1,(ByteArray.empty,(0,()))))),()))))
 else
 (bif (r20.2.1==5) then
 ((aM.f k r20.1 [0,12]).bind fun r23 =>
 (some (r23.1,((r23.2.1,(r2.2.1,(ByteArray.empty,(ByteArray.empty,(0,()))))),()))))
 else
 (some (r20.1,((r1.2.1,(r2.2.1,(ByteArray.empty,(ByteArray.empty,(0,()))))),())))))))
 else
 (bif (r20.2.1==2) then
 (some (r20.1,((10,(0,(ByteArray.empty,(ByteArray.empty,(0,()))))),())))
 else
 (bif (r20.2.1==3) then
 ((aM.f k r20.1 [(-1),3]).bind fun r24 =>
 (some (r24.1,((r1.2.1,(r24.2.1,(ByteArray.empty,(ByteArray.empty,(0,()))))),()))))
 else
 (bif (r20.2.1==4) then
 ((cK.f k r20.1 [(⟨#[]⟩:ByteArray),(⟨#[110,105,110,101,98,121,116,101,115]⟩:ByteArray)]).bind fun r25 =>
 (some (r25.1,((r1.2.1,(r2.2.1,(r25.2.1,(ByteArray.empty,(0,()))))),()))))
 else
 (bif (r20.2.1==5) then
 ((aM.f k r20.1 [0,12]).bind fun r26 =>
 (some (r26.1,((r26.2.1,(r2.2.1,(ByteArray.empty,(ByteArray.empty,(0,()))))),()))))
 else
 (some (r20.1,((r1.2.1,(r2.2.1,(ByteArray.empty,(ByteArray.empty,(0,()))))),()))))))))))))
 else
 (bif (r1.2.1==4) then
 ((iG.f k r2.1).bind fun r27 =>
 ((aa.f k r27.1 40).bind fun r28 =>
 (bif (r28.2.1==0) then
 (some (r28.1,((9,(0,(ByteArray.empty,(ByteArray.empty,(0,()))))),())))
 else
 (bif (r28.2.1==1) then
 (bif (r28.2.1==1) then
 (some (r28.1,((10,(0,(ByteArray.empty,(ByteArray.empty,(0,()))))),())))
 else
 (bif (r28.2.1==3) then
 ((aM.f k r28.1 [(-1),3]).bind fun r29 =>
 (some (r29.1,((r1.2.1,(r29.2.1,(r27.2.1,(ByteArray.empty,(0,()))))),()))))
 else
 (bif (r28.2.1==4) then
 ((cK.f k r28.1 [(⟨#[]⟩:ByteArray),(⟨#[110,105,110,101,98,121,116,101,115]⟩:ByteArray)]).bind fun r30 =>
 (some (r30.1,((r1.2.1,(r2.2.1,(r30.2.1,(ByteArray.empty,(0,()))))),()))))
 else
 (bif (r28.2.1==5) then
 ((aM.f k r28.1 [0,12]).bind fun r31 =>
 (some (r31.1,((r31.2.1,(r2.2.1,(r27.2.1,(ByteArray.empty,(0,()))))),()))))
 else
 (some (r28.1,((r1.2.1,(r2.2.1,(r27.2.1,(ByteArray.empty,(0,()))))),())))))))
 else
 (bif (r28.2.1==2) then
 (some (r28.1,((10,(0,(ByteArray.empty,(ByteArray.empty,(0,()))))),())))
 else
 (bif (r28.2.1==3) then
 ((aM.f k r28.1 [(-1),3]).bind fun r32 =>
 (some (r32.1,((r1.2.1,(r32.2.1,(r27.2.1,(ByteArray.empty,(0,()))))),()))))
 else
 (bif (r28.2.1==4) then
 ((cK.f k r28.1 [(⟨#[]⟩:ByteArray),(⟨#[110,105,110,101,98,121,116,101,115]⟩:ByteArray)]).bind fun r33 =>
 (some (r33.1,((r1.2.1,(r2.2.1,(r33.2.1,(ByteArray.empty,(0,()))))),()))))
 else
 (bif (r28.2.1==5) then
 ((aM.f k r28.1 [0,12]).bind fun r34 =>
 (some (r34.1,((r34.2.1,(r2.2.1,(r27.2.1,(ByteArray.empty,(0,()))))),()))))
 else
 (some (r28.1,((r1.2.1,(r2.2.1,(r27.2.1,(ByteArray.empty,(0,()))))),())))))))))))
 else
 (bif (r1.2.1==3) then
 ((iG.f k r2.1).bind fun r35 =>
 ((eV.f k r35.1 12).bind fun r36 =>
 ((aa.f k r36.1 40).bind fun r37 =>
 (bif (r37.2.1==0) then
 (some (r37.1,((9,(0,(ByteArray.empty,(ByteArray.empty,(0,()))))),())))
 else
 (bif (r37.2.1==1) then
 (bif (r37.2.1==1) then
 (some (r37.1,((10,(0,(ByteArray.empty,(ByteArray.empty,(0,()))))),())))
 else
 (bif (r37.2.1==3) then
 ((aM.f k r37.1 [(-1),3]).bind fun r38 =>
 (some (r38.1,((r1.2.1,(r38.2.1,(r35.2.1,(r36.2.1,(0,()))))),()))))
 else
 (bif (r37.2.1==4) then
 ((cK.f k r37.1 [(⟨#[]⟩:ByteArray),(⟨#[110,105,110,101,98,121,116,101,115]⟩:ByteArray)]).bind fun r39 =>
 (some (r39.1,((r1.2.1,(r2.2.1,(r39.2.1,(r36.2.1,(0,()))))),()))))
 else
 (bif (r37.2.1==5) then
 ((aM.f k r37.1 [0,12]).bind fun r40 =>
 (some (r40.1,((r40.2.1,(r2.2.1,(r35.2.1,(r36.2.1,(0,()))))),()))))
 else
 (some (r37.1,((r1.2.1,(r2.2.1,(r35.2.1,(r36.2.1,(0,()))))),())))))))
 else
 (bif (r37.2.1==2) then
 (some (r37.1,((10,(0,(ByteArray.empty,(ByteArray.empty,(0,()))))),())))
 else
 (bif (r37.2.1==3) then
 ((aM.f k r37.1 [(-1),3]).bind fun r41 =>
 (some (r41.1,((r1.2.1,(r41.2.1,(r35.2.1,(r36.2.1,(0,()))))),()))))
 else
 (bif (r37.2.1==4) then
 ((cK.f k r37.1 [(⟨#[]⟩:ByteArray),(⟨#[110,105,110,101,98,121,116,101,115]⟩:ByteArray)]).bind fun r42 =>
 (some (r42.1,((r1.2.1,(r2.2.1,(r42.2.1,(r36.2.1,(0,()))))),()))))
 else
 (bif (r37.2.1==5) then
 ((aM.f k r37.1 [0,12]).bind fun r43 =>
 (some (r43.1,((r43.2.1,(r2.2.1,(r35.2.1,(r36.2.1,(0,()))))),()))))
 else
 (some (r37.1,((r1.2.1,(r2.2.1,(r35.2.1,(r36.2.1,(0,()))))),()))))))))))))
 else
 ((aa.f k r2.1 40).bind fun r44 =>
 (bif (r44.2.1==0) then
 (some (r44.1,((9,(0,(ByteArray.empty,(ByteArray.empty,(0,()))))),())))
 else
 (bif (r44.2.1==1) then
 (bif (r44.2.1==1) then
 (some (r44.1,((10,(0,(ByteArray.empty,(ByteArray.empty,(0,()))))),())))
 else
 (bif (r44.2.1==3) then
 ((aM.f k r44.1 [(-1),3]).bind fun r45 =>
 (some (r45.1,((r1.2.1,(r45.2.1,(ByteArray.empty,(ByteArray.empty,(0,()))))),()))))
 else
 (bif (r44.2.1==4) then
 ((cK.f k r44.1 [(⟨#[]⟩:ByteArray),(⟨#[110,105,110,101,98,121,116,101,115]⟩:ByteArray)]).bind fun r46 =>
 (some (r46.1,((r1.2.1,(r2.2.1,(r46.2.1,(ByteArray.empty,(0,()))))),()))))
 else
 (bif (r44.2.1==5) then
 ((aM.f k r44.1 [0,12]).bind fun r47 =>
 (some (r47.1,((r47.2.1,(r2.2.1,(ByteArray.empty,(ByteArray.empty,(0,()))))),()))))
 else
 (some (r44.1,((r1.2.1,(r2.2.1,(ByteArray.empty,(ByteArray.empty,(0,()))))),())))))))
 else
 (bif (r44.2.1==2) then
 (some (r44.1,((10,(0,(ByteArray.empty,(ByteArray.empty,(0,()))))),())))
 else
 (bif (r44.2.1==3) then
 ((aM.f k r44.1 [(-1),3]).bind fun r48 =>
 (some (r48.1,((r1.2.1,(r48.2.1,(ByteArray.empty,(ByteArray.empty,(0,()))))),()))))
 else
 (bif (r44.2.1==4) then
 ((cK.f k r44.1 [(⟨#[]⟩:ByteArray),(⟨#[110,105,110,101,98,121,116,101,115]⟩:ByteArray)]).bind fun r49 =>
 (some (r49.1,((r1.2.1,(r2.2.1,(r49.2.1,(ByteArray.empty,(0,()))))),()))))
 else
 (bif (r44.2.1==5) then
 ((aM.f k r44.1 [0,12]).bind fun r50 =>
 (some (r50.1,((r50.2.1,(r2.2.1,(ByteArray.empty,(ByteArray.empty,(0,()))))),()))))
 else
 (some (r44.1,((r1.2.1,(r2.2.1,(ByteArray.empty,(ByteArray.empty,(0,()))))),())))))))))))))))
def f (k:Nat):=t k
end ia
namespace aS
abbrev Rs:Type:=Option (Bool × Unit)
def t (k:Nat) (a0:Int) (a1:Int) (a2:Int):Rs :=
 (bif (decide (a0≥a1)) then
 (some ((decide (a0≤a2)),()))
 else
 (some (false,())))
def f (k:Nat):=t k
end aS
namespace cG
abbrev Rs:Type:=Option ((Ty.d d8) × Bool × Unit)
def t (k:Nat) (a0:Ty.d d8) (a1:Int):Rs :=
 ((aa.f k a0 a1).bind fun r1 =>
 (some (r1.1,((r1.2.1==0),()))))
def f (k:Nat):=t k
end cG
namespace dx
abbrev Rs:Type:=Option ((Ty.d d8) × (List (Ty.d bg)) × Unit)
abbrev T0:Type:=Int→List Int→Int→Int→List (Ty.d bg)→List Bool→Rs
def b0 (k:Nat) (L0:T0):T0:=fun x0 x1 x2 x3 x4 x5 =>
 (bif (decide (x0 > 0)) then
 ((ia.f k (x1,(x2,(x3,())))).bind fun r2 =>
 (bif (decide (r2.2.1.1≤6)) then
 ((aS.f k r2.2.1.2.1 0 2).bind fun r3 =>
 (bif r3.1 then
 (bF r2.2.1.2.1 (x5.length:Int)
 (bif (!(List.getD x5 (Int.toNat r2.2.1.2.1) (Ty.z .bool))) then
 ((cG.f k r2.1 8).bind fun r4 =>
 (bif (!r4.2.1) then
 (bF r2.2.1.2.1 (x5.length:Int)
 (bif (List.getD x5 (Int.toNat r2.2.1.2.1) (Ty.z .bool)) then
 ((cG.f k r4.1 8).bind fun r5 =>
 (bif (!r5.2.1) then
 (bF r2.2.1.2.1 (x5.length:Int)
 (let l6:=(List.set x5 (Int.toNat r2.2.1.2.1) false);
 (rm (Ty.bytes bg) (List.length x4+1)
 (L0 (aJ (x0-1)) r5.1.1 r5.1.2.1 r5.1.2.2.1 (x4++[(5,(r2.2.1.2.1,(ByteArray.empty,(ByteArray.empty,(0,())))))]) l6))))
 else
 (bF r2.2.1.2.1 (x5.length:Int)
 (let l7:=(List.set x5 (Int.toNat r2.2.1.2.1) true);
 (rm (Ty.bytes bg) (List.length x4+1)
 (L0 (aJ (x0-1)) r5.1.1 r5.1.2.1 r5.1.2.2.1 (x4++[(1,(r2.2.1.2.1,(ByteArray.empty,(ByteArray.empty,(0,())))))]) l7))))))
 else
 (bF r2.2.1.2.1 (x5.length:Int)
 (let l8:=(List.set x5 (Int.toNat r2.2.1.2.1) true);
 (rm (Ty.bytes bg) (List.length x4+1)
 (L0 (aJ (x0-1)) r4.1.1 r4.1.2.1 r4.1.2.2.1 (x4++[(1,(r2.2.1.2.1,(ByteArray.empty,(ByteArray.empty,(0,())))))]) l8))))))
 else
 (bF r2.2.1.2.1 (x5.length:Int)
 (bif (List.getD x5 (Int.toNat r2.2.1.2.1) (Ty.z .bool)) then
 (bif (r2.2.1.1==1) then
 ((cG.f k r4.1 8).bind fun r9 =>
 (bif (!r9.2.1) then
 (bF r2.2.1.2.1 (x5.length:Int)
 (let l10:=(List.set x5 (Int.toNat r2.2.1.2.1) false);
 (rm (Ty.bytes bg) (List.length x4+1)
 (L0 (aJ (x0-1)) r9.1.1 r9.1.2.1 r9.1.2.2.1 (x4++[(5,r2.2.1.2)]) l10))))
 else
 (bif (r2.2.1.1 != 5) then
 (bF r2.2.1.2.1 (x5.length:Int)
 (let l11:=(List.set x5 (Int.toNat r2.2.1.2.1) (r2.2.1.1 != 6));
 (bif (r2.2.1.1==9) then
 (uy (Ty.bytes .bool) 3
 (rm (Ty.bytes bg) (List.length x4+1)
 (rm (Ty.bytes bg) (List.length (x4++[r2.2.1])+1)
 (L0 (aJ (x0-1)) r9.1.1 r9.1.2.1 r9.1.2.2.1 ((x4++[r2.2.1])++[(10,(0,(ByteArray.empty,(ByteArray.empty,(0,())))))]) (List.replicate (Int.toNat 3) (Ty.z .bool))))))
 else
 (rm (Ty.bytes bg) (List.length x4+1)
 (L0 (aJ (x0-1)) r9.1.1 r9.1.2.1 r9.1.2.2.1 (x4++[r2.2.1]) l11)))))
 else
 (bF r2.2.1.2.1 (x5.length:Int)
 (let l12:=(List.set x5 (Int.toNat r2.2.1.2.1) false);
 (bif (r2.2.1.1==9) then
 (uy (Ty.bytes .bool) 3
 (rm (Ty.bytes bg) (List.length x4+1)
 (rm (Ty.bytes bg) (List.length (x4++[r2.2.1])+1)
 (L0 (aJ (x0-1)) r9.1.1 r9.1.2.1 r9.1.2.2.1 ((x4++[r2.2.1])++[(10,(0,(ByteArray.empty,(ByteArray.empty,(0,())))))]) (List.replicate (Int.toNat 3) (Ty.z .bool))))))
 else
 (rm (Ty.bytes bg) (List.length x4+1)
 (L0 (aJ (x0-1)) r9.1.1 r9.1.2.1 r9.1.2.2.1 (x4++[r2.2.1]) l12))))))))
 else
 (bif (r2.2.1.1 != 5) then
 (bF r2.2.1.2.1 (x5.length:Int)
 (let l13:=(List.set x5 (Int.toNat r2.2.1.2.1) (r2.2.1.1 != 6));
 (bif (r2.2.1.1==9) then
 (uy (Ty.bytes .bool) 3
 (rm (Ty.bytes bg) (List.length x4+1)
 (rm (Ty.bytes bg) (List.length (x4++[r2.2.1])+1)
 (L0 (aJ (x0-1)) r4.1.1 r4.1.2.1 r4.1.2.2.1 ((x4++[r2.2.1])++[(10,(0,(ByteArray.empty,(ByteArray.empty,(0,())))))]) (List.replicate (Int.toNat 3) (Ty.z .bool))))))
 else
 (rm (Ty.bytes bg) (List.length x4+1)
 (L0 (aJ (x0-1)) r4.1.1 r4.1.2.1 r4.1.2.2.1 (x4++[r2.2.1]) l13)))))
 else
 (bF r2.2.1.2.1 (x5.length:Int)
 (let l14:=(List.set x5 (Int.toNat r2.2.1.2.1) false);
 (bif (r2.2.1.1==9) then
 (uy (Ty.bytes .bool) 3
 (rm (Ty.bytes bg) (List.length x4+1)
 (rm (Ty.bytes bg) (List.length (x4++[r2.2.1])+1)
 (L0 (aJ (x0-1)) r4.1.1 r4.1.2.1 r4.1.2.2.1 ((x4++[r2.2.1])++[(10,(0,(ByteArray.empty,(ByteArray.empty,(0,())))))]) (List.replicate (Int.toNat 3) (Ty.z .bool))))))
 else
 (rm (Ty.bytes bg) (List.length x4+1)
 (L0 (aJ (x0-1)) r4.1.1 r4.1.2.1 r4.1.2.2.1 (x4++[r2.2.1]) l14)))))))
 else
 (bif (r2.2.1.1 != 5) then
 (bF r2.2.1.2.1 (x5.length:Int)
 (let l15:=(List.set x5 (Int.toNat r2.2.1.2.1) (r2.2.1.1 != 6));
 (bif (r2.2.1.1==9) then
 (uy (Ty.bytes .bool) 3
 (rm (Ty.bytes bg) (List.length x4+1)
 (rm (Ty.bytes bg) (List.length (x4++[r2.2.1])+1)
 (L0 (aJ (x0-1)) r4.1.1 r4.1.2.1 r4.1.2.2.1 ((x4++[r2.2.1])++[(10,(0,(ByteArray.empty,(ByteArray.empty,(0,())))))]) (List.replicate (Int.toNat 3) (Ty.z .bool))))))
 else
 (rm (Ty.bytes bg) (List.length x4+1)
 (L0 (aJ (x0-1)) r4.1.1 r4.1.2.1 r4.1.2.2.1 (x4++[r2.2.1]) l15)))))
 else
 (bF r2.2.1.2.1 (x5.length:Int)
 (let l16:=(List.set x5 (Int.toNat r2.2.1.2.1) false);
 (bif (r2.2.1.1==9) then
 (uy (Ty.bytes .bool) 3
 (rm (Ty.bytes bg) (List.length x4+1)
 (rm (Ty.bytes bg) (List.length (x4++[r2.2.1])+1)
 (L0 (aJ (x0-1)) r4.1.1 r4.1.2.1 r4.1.2.2.1 ((x4++[r2.2.1])++[(10,(0,(ByteArray.empty,(ByteArray.empty,(0,())))))]) (List.replicate (Int.toNat 3) (Ty.z .bool))))))
 else
 (rm (Ty.bytes bg) (List.length x4+1)
 (L0 (aJ (x0-1)) r4.1.1 r4.1.2.1 r4.1.2.2.1 (x4++[r2.2.1]) l16))))))))))
 else
 (bF r2.2.1.2.1 (x5.length:Int)
 (bif (List.getD x5 (Int.toNat r2.2.1.2.1) (Ty.z .bool)) then
 (bif (r2.2.1.1==1) then
 ((cG.f k r2.1 8).bind fun r17 =>
 (bif (!r17.2.1) then
 (bF r2.2.1.2.1 (x5.length:Int)
 (let l18:=(List.set x5 (Int.toNat r2.2.1.2.1) false);
 (rm (Ty.bytes bg) (List.length x4+1)
 (L0 (aJ (x0-1)) r17.1.1 r17.1.2.1 r17.1.2.2.1 (x4++[(5,r2.2.1.2)]) l18))))
 else
 (bif (r2.2.1.1 != 5) then
 (bF r2.2.1.2.1 (x5.length:Int)
 (let l19:=(List.set x5 (Int.toNat r2.2.1.2.1) (r2.2.1.1 != 6));
 (bif (r2.2.1.1==9) then
 (uy (Ty.bytes .bool) 3
 (rm (Ty.bytes bg) (List.length x4+1)
 (rm (Ty.bytes bg) (List.length (x4++[r2.2.1])+1)
 (L0 (aJ (x0-1)) r17.1.1 r17.1.2.1 r17.1.2.2.1 ((x4++[r2.2.1])++[(10,(0,(ByteArray.empty,(ByteArray.empty,(0,())))))]) (List.replicate (Int.toNat 3) (Ty.z .bool))))))
 else
 (rm (Ty.bytes bg) (List.length x4+1)
 (L0 (aJ (x0-1)) r17.1.1 r17.1.2.1 r17.1.2.2.1 (x4++[r2.2.1]) l19)))))
 else
 (bF r2.2.1.2.1 (x5.length:Int)
 (let l20:=(List.set x5 (Int.toNat r2.2.1.2.1) false);
 (bif (r2.2.1.1==9) then
 (uy (Ty.bytes .bool) 3
 (rm (Ty.bytes bg) (List.length x4+1)
 (rm (Ty.bytes bg) (List.length (x4++[r2.2.1])+1)
 (L0 (aJ (x0-1)) r17.1.1 r17.1.2.1 r17.1.2.2.1 ((x4++[r2.2.1])++[(10,(0,(ByteArray.empty,(ByteArray.empty,(0,())))))]) (List.replicate (Int.toNat 3) (Ty.z .bool))))))
 else
 (rm (Ty.bytes bg) (List.length x4+1)
 (L0 (aJ (x0-1)) r17.1.1 r17.1.2.1 r17.1.2.2.1 (x4++[r2.2.1]) l20))))))))
 else
 (bif (r2.2.1.1 != 5) then
 (bF r2.2.1.2.1 (x5.length:Int)
 (let l21:=(List.set x5 (Int.toNat r2.2.1.2.1) (r2.2.1.1 != 6));
 (bif (r2.2.1.1==9) then
 (uy (Ty.bytes .bool) 3
 (rm (Ty.bytes bg) (List.length x4+1)
 (rm (Ty.bytes bg) (List.length (x4++[r2.2.1])+1)
 (L0 (aJ (x0-1)) r2.1.1 r2.1.2.1 r2.1.2.2.1 ((x4++[r2.2.1])++[(10,(0,(ByteArray.empty,(ByteArray.empty,(0,())))))]) (List.replicate (Int.toNat 3) (Ty.z .bool))))))
 else
 (rm (Ty.bytes bg) (List.length x4+1)
 (L0 (aJ (x0-1)) r2.1.1 r2.1.2.1 r2.1.2.2.1 (x4++[r2.2.1]) l21)))))
 else
 (bF r2.2.1.2.1 (x5.length:Int)
 (let l22:=(List.set x5 (Int.toNat r2.2.1.2.1) false);
 (bif (r2.2.1.1==9) then
 (uy (Ty.bytes .bool) 3
 (rm (Ty.bytes bg) (List.length x4+1)
 (rm (Ty.bytes bg) (List.length (x4++[r2.2.1])+1)
 (L0 (aJ (x0-1)) r2.1.1 r2.1.2.1 r2.1.2.2.1 ((x4++[r2.2.1])++[(10,(0,(ByteArray.empty,(ByteArray.empty,(0,())))))]) (List.replicate (Int.toNat 3) (Ty.z .bool))))))
 else
 (rm (Ty.bytes bg) (List.length x4+1)
 (L0 (aJ (x0-1)) r2.1.1 r2.1.2.1 r2.1.2.2.1 (x4++[r2.2.1]) l22)))))))
 else
 (bif (r2.2.1.1 != 5) then
 (bF r2.2.1.2.1 (x5.length:Int)
 (let l23:=(List.set x5 (Int.toNat r2.2.1.2.1) (r2.2.1.1 != 6));
 (bif (r2.2.1.1==9) then
 (uy (Ty.bytes .bool) 3
 (rm (Ty.bytes bg) (List.length x4+1)
 (rm (Ty.bytes bg) (List.length (x4++[r2.2.1])+1)
 (L0 (aJ (x0-1)) r2.1.1 r2.1.2.1 r2.1.2.2.1 ((x4++[r2.2.1])++[(10,(0,(ByteArray.empty,(ByteArray.empty,(0,())))))]) (List.replicate (Int.toNat 3) (Ty.z .bool))))))
 else
 (rm (Ty.bytes bg) (List.length x4+1)
 (L0 (aJ (x0-1)) r2.1.1 r2.1.2.1 r2.1.2.2.1 (x4++[r2.2.1]) l23)))))
 else
 (bF r2.2.1.2.1 (x5.length:Int)
 (let l24:=(List.set x5 (Int.toNat r2.2.1.2.1) false);
 (bif (r2.2.1.1==9) then
 (uy (Ty.bytes .bool) 3
 (rm (Ty.bytes bg) (List.length x4+1)
 (rm (Ty.bytes bg) (List.length (x4++[r2.2.1])+1)
 (L0 (aJ (x0-1)) r2.1.1 r2.1.2.1 r2.1.2.2.1 ((x4++[r2.2.1])++[(10,(0,(ByteArray.empty,(ByteArray.empty,(0,())))))]) (List.replicate (Int.toNat 3) (Ty.z .bool))))))
 else
 (rm (Ty.bytes bg) (List.length x4+1)
 (L0 (aJ (x0-1)) r2.1.1 r2.1.2.1 r2.1.2.2.1 (x4++[r2.2.1]) l24))))))))))
 else
 (bif (r2.2.1.1==9) then
 (uy (Ty.bytes .bool) 3
 (rm (Ty.bytes bg) (List.length x4+1)
 (rm (Ty.bytes bg) (List.length (x4++[r2.2.1])+1)
 (L0 (aJ (x0-1)) r2.1.1 r2.1.2.1 r2.1.2.2.1 ((x4++[r2.2.1])++[(10,(0,(ByteArray.empty,(ByteArray.empty,(0,())))))]) (List.replicate (Int.toNat 3) (Ty.z .bool))))))
 else
 (rm (Ty.bytes bg) (List.length x4+1)
 (L0 (aJ (x0-1)) r2.1.1 r2.1.2.1 r2.1.2.2.1 (x4++[r2.2.1]) x5)))))
 else
 (bif (r2.2.1.1==9) then
 (uy (Ty.bytes .bool) 3
 (rm (Ty.bytes bg) (List.length x4+1)
 (rm (Ty.bytes bg) (List.length (x4++[r2.2.1])+1)
 (L0 (aJ (x0-1)) r2.1.1 r2.1.2.1 r2.1.2.2.1 ((x4++[r2.2.1])++[(10,(0,(ByteArray.empty,(ByteArray.empty,(0,())))))]) (List.replicate (Int.toNat 3) (Ty.z .bool))))))
 else
 (rm (Ty.bytes bg) (List.length x4+1)
 (L0 (aJ (x0-1)) r2.1.1 r2.1.2.1 r2.1.2.2.1 (x4++[r2.2.1]) x5)))))
 else
 (some ((x1,(x2,(x3,()))),(x4,()))))
def l0 (k:Nat):Nat→T0
 | 0=>fun _ _ _ _ _ _=>none
 | n+1=>b0 k (l0 k n)
def t (k:Nat) (L0:T0) (a0:Ty.d d8) (a1:Int):Rs :=
 (uy (Ty.bytes .bool) 3
 ((aa.f k a0 (aJ (a1+1))).bind fun r1 =>
 (L0 r1.2.1 r1.1.1 r1.1.2.1 r1.1.2.2.1 [] (List.replicate (Int.toNat 3) (Ty.z .bool)))))
def f (k:Nat):=t k (l0 k k)
end dx
namespace gY
abbrev Rs:Type:=Option ((Ty.d d8) × (Ty.d nU) × Unit)
def t (k:Nat) (a0:Ty.d d8) (a1:Int):Rs :=
 ((dx.f k a0 a1).bind fun r1 =>
 ((aa.f k r1.1 6).bind fun r2 =>
 (bif (r2.2.1==0) then
 ((aa.f k r2.1 300).bind fun r3 =>
 (some (r3.1,(((aJ (100+r3.2.1)),((-1),r1.2)),()))))
 else
 (bif (r2.2.1==1) then
 ((aa.f k r2.1 (aJ ((List.length r1.2.1:Int)+1))).bind fun r4 =>
 (pJ r4.2.1 (List.length r1.2.1:Int)
 (rm (Ty.bytes bg) (0+List.length (List.take (Int.toNat r4.2.1) r1.2.1))
 ((aa.f k r4.1 120).bind fun r5 =>
 (rm (Ty.bytes bg) (List.length ([]++(List.take (Int.toNat r4.2.1) r1.2.1))+1)
 (pJ r4.2.1 (List.length r1.2.1:Int)
 (rm (Ty.bytes bg) (List.length (([]++(List.take (Int.toNat r4.2.1) r1.2.1))++[(11,(0,(ByteArray.empty,(ByteArray.empty,r5.2))))])+List.length (List.drop (Int.toNat r4.2.1) r1.2.1))
 (some (r5.1,((100000,((-1),(((([]++(List.take (Int.toNat r4.2.1) r1.2.1))++[(11,(0,(ByteArray.empty,(ByteArray.empty,r5.2))))])++(List.drop (Int.toNat r4.2.1) r1.2.1)),()))),()))))))))))
 else
 (some (r2.1,((100000,((-1),r1.2)),())))))))
def f (k:Nat):=t k
end gY
namespace gw
abbrev Rs:Type:=Option ((Ty.d nU) × Unit)
def t (k:Nat) (a0:List Int):Rs :=
 ((ft.f k a0).bind fun r1 =>
 ((gY.f k r1.2.1 40).bind fun r2 =>
 ((aa.f k r2.1 6).bind fun r3 =>
 (bif (r3.2.1==0) then
 (bif (r3.2.1==0) then
 ((aa.f k r3.1 60).bind fun r4 =>
 ((cG.f k r4.1 20).bind fun r5 =>
 (bif r5.2.1 then
 ((aM.f k r5.1 [(-1),100001,0,9]).bind fun r6 =>
 (some ((r6.2.1,(r4.2.1,r2.2.1.2.2)),())))
 else
 (some ((r2.2.1.1,(r4.2.1,r2.2.1.2.2)),())))))
 else
 (bif (r3.2.1==2) then
 ((aM.f k r3.1 [(-2),(-1),0,100001]).bind fun r7 =>
 ((cG.f k r7.1 20).bind fun r8 =>
 (bif r8.2.1 then
 ((aM.f k r8.1 [(-1),100001,0,9]).bind fun r9 =>
 (some ((r9.2.1,(r7.2.1,r2.2.1.2.2)),())))
 else
 (some ((r2.2.1.1,(r7.2.1,r2.2.1.2.2)),())))))
 else
 ((cG.f k r3.1 20).bind fun r10 =>
 (bif r10.2.1 then
 ((aM.f k r10.1 [(-1),100001,0,9]).bind fun r11 =>
 (some ((r11.2.1,r2.2.1.2),())))
 else
 (some r2.2)))))
 else
 (bif (r3.2.1==1) then
 ((aa.f k r3.1 60).bind fun r12 =>
 ((cG.f k r12.1 20).bind fun r13 =>
 (bif r13.2.1 then
 ((aM.f k r13.1 [(-1),100001,0,9]).bind fun r14 =>
 (some ((r14.2.1,(r12.2.1,r2.2.1.2.2)),())))
 else
 (some ((r2.2.1.1,(r12.2.1,r2.2.1.2.2)),())))))
 else
 (bif (r3.2.1==2) then
 ((aM.f k r3.1 [(-2),(-1),0,100001]).bind fun r15 =>
 ((cG.f k r15.1 20).bind fun r16 =>
 (bif r16.2.1 then
 ((aM.f k r16.1 [(-1),100001,0,9]).bind fun r17 =>
 (some ((r17.2.1,(r15.2.1,r2.2.1.2.2)),())))
 else
 (some ((r2.2.1.1,(r15.2.1,r2.2.1.2.2)),())))))
 else
 ((cG.f k r3.1 20).bind fun r18 =>
 (bif r18.2.1 then
 ((aM.f k r18.1 [(-1),100001,0,9]).bind fun r19 =>
 (some ((r19.2.1,r2.2.1.2),())))
 else
 (some r2.2)))))))))
def f (k:Nat):=t k
end gw
namespace iZ
abbrev Rs:Type:=Option ((Ty.d aA) × Unit)
def t (k:Nat) (a0:Int):Rs :=
 ((aS.f k a0 0 100000).bind fun r1 =>
 (bif (!r1.1) then
 (some (([],(0,(0,(false,())))),()))
 else
 (some (([],(a0,((-1),(false,())))),()))))
def f (k:Nat):=t k
end iZ
namespace dW
abbrev Rs:Type:=Option (Int × Unit)
abbrev T0:Type:=Int→Int→List (Ty.d aL)→Int→Int→Bool→Rs
def b0 (k:Nat) (L0:T0):T0:=fun x0 x1 x2 x3 x4 x5 =>
 (bif (decide (x1<(x2.length:Int))) then
 (bF x1 (x2.length:Int)
 (L0 (aJ (x0+(ByteArray.size (List.getD x2 (Int.toNat x1) (Ty.z aL)).2.1:Int))) (aJ (x1+1)) x2 x3 x4 x5))
 else
 (some (x0,())))
def l0 (k:Nat):Nat→T0
 | 0=>fun _ _ _ _ _ _=>none
 | n+1=>b0 k (l0 k n)
def t (k:Nat) (L0:T0) (a0:Ty.d aA):Rs :=
 (L0 0 0 a0.1 a0.2.1 a0.2.2.1 a0.2.2.2.1)
def f (k:Nat):=t k (l0 k k)
end dW
namespace dY
abbrev Rs:Type:=Option (Bool × Unit)
abbrev T0:Type:=ByteArray→Int→Rs
def b0 (k:Nat) (L0:T0):T0:=fun x0 x1 =>
 (bif (decide (x1<(ByteArray.size x0:Int))) then
 (bF x1 (ByteArray.size x0:Int)
 (bif (decide ((di x0 x1)≥97)) then
 (bF x1 (ByteArray.size x0:Int)
 (bif (decide ((di x0 x1)≤122)) then
 (L0 x0 (aJ (x1+1)))
 else
 (bF x1 (ByteArray.size x0:Int)
 (bif (decide ((di x0 x1)≥48)) then
 (bF x1 (ByteArray.size x0:Int)
 (bif (!(decide ((di x0 x1)≤57))) then
 (some (false,()))
 else
 (L0 x0 (aJ (x1+1)))))
 else
 (some (false,()))))))
 else
 (bF x1 (ByteArray.size x0:Int)
 (bif (decide ((di x0 x1)≥48)) then
 (bF x1 (ByteArray.size x0:Int)
 (bif (!(decide ((di x0 x1)≤57))) then
 (some (false,()))
 else
 (L0 x0 (aJ (x1+1)))))
 else
 (some (false,()))))))
 else
 ((aS.f k (ByteArray.size x0:Int) 1 12).bind fun r1 =>
 (some r1)))
def l0 (k:Nat):Nat→T0
 | 0=>fun _ _=>none
 | n+1=>b0 k (l0 k n)
def t (k:Nat) (L0:T0) (a0:ByteArray):Rs :=
 (L0 a0 0)
def f (k:Nat):=t k (l0 k k)
end dY
namespace bE
abbrev Rs:Type:=Option (Bool × Unit)
abbrev T0:Type:=Int→List (Ty.d aL)→Int→Int→Bool→Rs
def b0 (k:Nat) (L0:T0):T0:=fun x0 x1 x2 x3 x4 =>
 (bif (decide (x0<(x1.length:Int))) then
 (bF x0 (x1.length:Int)
 ((dY.f k (List.getD x1 (Int.toNat x0) (Ty.z aL)).1).bind fun r4 =>
 (bif (!r4.1) then
 (some (false,()))
 else
 (bF x0 (x1.length:Int)
 (bF x0 (x1.length:Int)
 ((aS.f k (List.getD x1 (Int.toNat x0) (Ty.z aL)).2.2.1 0 (ByteArray.size (List.getD x1 (Int.toNat x0) (Ty.z aL)).2.1:Int)).bind fun r5 =>
 (bif (!r5.1) then
 (some (false,()))
 else
 (bif (decide (x0 > 0)) then
 (bF x0 (x1.length:Int)
 (bF (aJ (x0-1)) (x1.length:Int)
 (bif ((mo (List.getD x1 (Int.toNat x0) (Ty.z aL)).1 (List.getD x1 (Int.toNat (aJ (x0-1))) (Ty.z aL)).1)||(seq (List.getD x1 (Int.toNat x0) (Ty.z aL)).1 (List.getD x1 (Int.toNat (aJ (x0-1))) (Ty.z aL)).1)) then
 (some (false,()))
 else
 (L0 (aJ (x0+1)) x1 x2 x3 x4))))
 else
 (L0 (aJ (x0+1)) x1 x2 x3 x4)))))))))
 else
 (some (true,())))
def l0 (k:Nat):Nat→T0
 | 0=>fun _ _ _ _ _=>none
 | n+1=>b0 k (l0 k n)
def t (k:Nat) (L0:T0) (a0:Ty.d aA):Rs :=
 (bif (decide ((List.length a0.1:Int) > 130)) then
 (some (false,()))
 else
 ((aS.f k a0.2.1 0 100000).bind fun r1 =>
 (bif (!r1.1) then
 (some (false,()))
 else
 ((aS.f k a0.2.2.1 (-1) 100000).bind fun r2 =>
 (bif (!r2.1) then
 (some (false,()))
 else
 ((dW.f k a0).bind fun r3 =>
 (bif (decide (r3.1 > a0.2.1)) then
 (some (false,()))
 else
 (L0 0 a0.1 a0.2.1 a0.2.2.1 a0.2.2.2.1))))))))
def f (k:Nat):=t k (l0 k k)
end bE
namespace bw
abbrev Rs:Type:=Option ((Ty.d aA) × Unit)
def t (k:Nat) (a0:Ty.d aA):Rs :=
 (rm (Ty.bytes aL) (0+List.length a0.1)
 (some ((([]++a0.1),a0.2),())))
def f (k:Nat):=t k
end bw
namespace b_
abbrev Rs:Type:=Option (Int × Unit)
abbrev T0:Type:=ByteArray→Int→List (Ty.d aL)→Int→Int→Bool→Rs
def b0 (k:Nat) (L0:T0):T0:=fun x0 x1 x2 x3 x4 x5 =>
 (bif (decide (x1<(x2.length:Int))) then
 (bF x1 (x2.length:Int)
 (bif (seq (List.getD x2 (Int.toNat x1) (Ty.z aL)).1 x0) then
 (some (x1,()))
 else
 (L0 x0 (aJ (x1+1)) x2 x3 x4 x5)))
 else
 (some ((-1),())))
def l0 (k:Nat):Nat→T0
 | 0=>fun _ _ _ _ _ _=>none
 | n+1=>b0 k (l0 k n)
def t (k:Nat) (L0:T0) (a0:Ty.d aA) (a1:ByteArray):Rs :=
 (L0 a1 0 a0.1 a0.2.1 a0.2.2.1 a0.2.2.2.1)
def f (k:Nat):=t k (l0 k k)
end b_
namespace ba
abbrev Rs:Type:=Option (ByteArray × Bool × Unit)
def t (k:Nat) (a0:Ty.d aA) (a1:ByteArray):Rs :=
 ((bE.f k a0).bind fun r1 =>
 (bif (!r1.1) then
 (some ((⟨#[]⟩:ByteArray),(false,())))
 else
 ((b_.f k a0 a1).bind fun r2 =>
 (bif (decide (r2.1<0)) then
 (some ((⟨#[]⟩:ByteArray),(false,())))
 else
 (bF r2.1 (List.length a0.1:Int)
 (some ((List.getD a0.1 (Int.toNat r2.1) (Ty.z aL)).2.1,(true,()))))))))
def f (k:Nat):=t k
end ba
namespace dV
abbrev Rs:Type:=Option (ByteArray × Unit)
abbrev T0:Type:=Int→ByteArray→Bool→Rs
def b0 (k:Nat) (L0:T0):T0:=fun x0 x1 x2 =>
 (bif (x0 != 0) then
 (bif (decide ((Int.tmod x0 10)<0)) then
 (ke (bytesOf [(IntKind.wrap .u8 (aJ (48+(aJ (0-(Int.tmod x0 10))))))]) x1
 (L0 (aJ (Int.tdiv x0 10)) ((bytesOf [(IntKind.wrap .u8 (aJ (48+(aJ (0-(Int.tmod x0 10))))))])++x1) x2))
 else
 (ke (bytesOf [(IntKind.wrap .u8 (aJ (48+(Int.tmod x0 10))))]) x1
 (L0 (aJ (Int.tdiv x0 10)) ((bytesOf [(IntKind.wrap .u8 (aJ (48+(Int.tmod x0 10))))])++x1) x2)))
 else
 (bif x2 then
 (ke (⟨#[45]⟩:ByteArray) x1
 (some (((⟨#[45]⟩:ByteArray)++x1),())))
 else
 (some (x1,()))))
def l0 (k:Nat):Nat→T0
 | 0=>fun _ _ _=>none
 | n+1=>b0 k (l0 k n)
def t (k:Nat) (L0:T0) (a0:Int):Rs :=
 (bif (a0==0) then
 (some ((⟨#[48]⟩:ByteArray),()))
 else
 (L0 a0 (⟨#[]⟩:ByteArray) (decide (a0<0))))
def f (k:Nat):=t k (l0 k k)
end dV
namespace eM
abbrev Rs:Type:=Option (Int × Bool × Unit)
abbrev T0:Type:=ByteArray→Int→Int→Int→Rs
def b0 (k:Nat) (L0:T0):T0:=fun x0 x1 x2 x3 =>
 (bif (decide (x3<(ByteArray.size x0:Int))) then
 (bif (decide (x3<11)) then
 (bF x3 (ByteArray.size x0:Int)
 (bif (decide ((di x0 x3)≥48)) then
 (bF x3 (ByteArray.size x0:Int)
 (bif (decide ((di x0 x3)≤57)) then
 (bF x3 (ByteArray.size x0:Int)
 (L0 x0 (aJ ((aJ (x1*10))+(aJ (IntKind.wrap .u8 ((di x0 x3)-48))))) (aJ (x2+1)) (aJ (x3+1))))
 else
 (L0 x0 x1 x2 (aJ (x3+1)))))
 else
 (L0 x0 x1 x2 (aJ (x3+1)))))
 else
 (bif (decide ((ByteArray.size x0:Int) > 0)) then
 (bF 0 (ByteArray.size x0:Int)
 (bif ((di x0 0)==45) then
 (bif (decide (x2 > 9)) then
 (some (0,(false,())))
 else
 (bif (decide ((ByteArray.size x0:Int) > 10)) then
 (some (0,(false,())))
 else
 ((dV.f k (aJ (0-x1))).bind fun r1 =>
 (bif (!(seq r1.1 x0)) then
 (some (0,(false,())))
 else
 (some ((aJ (0-x1)),(true,())))))))
 else
 (bif (decide (x2 > 9)) then
 (some (0,(false,())))
 else
 (bif (decide ((ByteArray.size x0:Int) > 10)) then
 (some (0,(false,())))
 else
 ((dV.f k x1).bind fun r2 =>
 (bif (!(seq r2.1 x0)) then
 (some (0,(false,())))
 else
 (some (x1,(true,())))))))))
 else
 (bif (decide (x2 > 9)) then
 (some (0,(false,())))
 else
 (bif (decide ((ByteArray.size x0:Int) > 10)) then
 (some (0,(false,())))
 else
 ((dV.f k x1).bind fun r3 =>
 (bif (!(seq r3.1 x0)) then
 (some (0,(false,())))
 else
 (some (x1,(true,())))))))))
 else
 (bif (decide ((ByteArray.size x0:Int) > 0)) then
 (bF 0 (ByteArray.size x0:Int)
 (bif ((di x0 0)==45) then
 (bif (decide (x2 > 9)) then
 (some (0,(false,())))
 else
 (bif (decide ((ByteArray.size x0:Int) > 10)) then
 (some (0,(false,())))
 else
 ((dV.f k (aJ (0-x1))).bind fun r4 =>
 (bif (!(seq r4.1 x0)) then
 (some (0,(false,())))
 else
 (some ((aJ (0-x1)),(true,())))))))
 else
 (bif (decide (x2 > 9)) then
 (some (0,(false,())))
 else
 (bif (decide ((ByteArray.size x0:Int) > 10)) then
 (some (0,(false,())))
 else
 ((dV.f k x1).bind fun r5 =>
 (bif (!(seq r5.1 x0)) then
 (some (0,(false,())))
 else
 (some (x1,(true,())))))))))
 else
 (bif (decide (x2 > 9)) then
 (some (0,(false,())))
 else
 (bif (decide ((ByteArray.size x0:Int) > 10)) then
 (some (0,(false,())))
 else
 ((dV.f k x1).bind fun r6 =>
 (bif (!(seq r6.1 x0)) then
 (some (0,(false,())))
 else
 (some (x1,(true,())))))))))
def l0 (k:Nat):Nat→T0
 | 0=>fun _ _ _ _=>none
 | n+1=>b0 k (l0 k n)
def t (k:Nat) (L0:T0) (a0:ByteArray):Rs :=
 (L0 a0 0 0 0)
def f (k:Nat):=t k (l0 k k)
end eM
namespace aU
abbrev Rs:Type:=Option (ByteArray × Unit)
def t (k:Nat) (a0:Int):Rs :=
 ((aS.f k a0 1 100000).bind fun r1 =>
 (bif (!r1.1) then
 (some ((⟨#[]⟩:ByteArray),()))
 else
 ((dV.f k a0).bind fun r2 =>
 (ke (⟨#[115,101,103]⟩:ByteArray) r2.1
 (some (((⟨#[115,101,103]⟩:ByteArray)++r2.1),()))))))
def f (k:Nat):=t k
end aU
namespace cX
abbrev Rs:Type:=Option (ByteArray × Unit)
def t (k:Nat) (a0:Int):Rs :=
 ((aS.f k a0 1 100000).bind fun r1 =>
 (bif (!r1.1) then
 (some ((⟨#[]⟩:ByteArray),()))
 else
 ((dV.f k a0).bind fun r2 =>
 (ke (⟨#[104,105,110,116]⟩:ByteArray) r2.1
 (some (((⟨#[104,105,110,116]⟩:ByteArray)++r2.1),()))))))
def f (k:Nat):=t k
end cX
namespace gb
abbrev Rs:Type:=Option (Int × Bool × Unit)
abbrev T0:Type:=ByteArray→Int→Rs
def b0 (k:Nat) (L0:T0):T0:=fun x0 x1 =>
 (bif (decide (x1≤4)) then
 (bif (decide ((ByteArray.size x0:Int) > x1)) then
 (pJ x1 (ByteArray.size x0:Int)
 ((eM.f k (ByteArray.extract x0 (Int.toNat x1) (ByteArray.size x0))).bind fun r1 =>
 (bif r1.2.1 then
 (bif (decide (r1.1≥1)) then
 ((aU.f k r1.1).bind fun r2 =>
 (bif (seq r2.1 x0) then
 (some (r1.1,(true,())))
 else
 ((cX.f k r1.1).bind fun r3 =>
 (bif (seq r3.1 x0) then
 (some (r1.1,(true,())))
 else
 (L0 x0 (aJ (x1+1)))))))
 else
 (L0 x0 (aJ (x1+1))))
 else
 (L0 x0 (aJ (x1+1))))))
 else
 (L0 x0 (aJ (x1+1))))
 else
 (some (0,(false,()))))
def l0 (k:Nat):Nat→T0
 | 0=>fun _ _=>none
 | n+1=>b0 k (l0 k n)
def t (k:Nat) (L0:T0) (a0:ByteArray):Rs :=
 (L0 a0 3)
def f (k:Nat):=t k (l0 k k)
end gb
namespace bL
abbrev Rs:Type:=Option ((List ByteArray) × Unit)
abbrev T1:Type:=Int→Int→Bool→Bool→Int→List (Ty.d aL)→Int→Int→Bool→Int→List Int→List ByteArray→Rs
abbrev T0:Type:=Int→List (Ty.d aL)→Int→Int→Bool→Int→List Int→List ByteArray→Rs
def b1 (k:Nat) (L0:T0) (L1:T1):T1:=fun x0 x1 x2 x3 x4 x5 x6 x7 x8 x9 x10 x11 =>
 (bif (decide (x4<(x10.length:Int))) then
 (bif x3 then
 (L1 x0 x1 x2 true (aJ (x4+1)) x5 x6 x7 x8 x9 x10 x11)
 else
 (bF x4 (x10.length:Int)
 (L1 x0 x1 x2 ((List.getD x10 (Int.toNat x4) (Ty.z (.int .i64)))==x1) (aJ (x4+1)) x5 x6 x7 x8 x9 x10 x11)))
 else
 (bif x2 then
 (bif (!x3) then
 (bF x0 (x5.length:Int)
 (rm (Ty.bytes .str) (List.length x11+1)
 (L0 (aJ (x0+1)) x5 x6 x7 x8 x9 x10 (x11++[(List.getD x5 (Int.toNat x0) (Ty.z aL)).1]))))
 else
 (bF x0 (x5.length:Int)
 (bif (seq (List.getD x5 (Int.toNat x0) (Ty.z aL)).1 (⟨#[116,101,109,112]⟩:ByteArray)) then
 (bF x0 (x5.length:Int)
 (rm (Ty.bytes .str) (List.length x11+1)
 (L0 (aJ (x0+1)) x5 x6 x7 x8 x9 x10 (x11++[(List.getD x5 (Int.toNat x0) (Ty.z aL)).1]))))
 else
 (L0 (aJ (x0+1)) x5 x6 x7 x8 x9 x10 x11))))
 else
 (bF x0 (x5.length:Int)
 (bif (seq (List.getD x5 (Int.toNat x0) (Ty.z aL)).1 (⟨#[116,101,109,112]⟩:ByteArray)) then
 (bF x0 (x5.length:Int)
 (rm (Ty.bytes .str) (List.length x11+1)
 (L0 (aJ (x0+1)) x5 x6 x7 x8 x9 x10 (x11++[(List.getD x5 (Int.toNat x0) (Ty.z aL)).1]))))
 else
 (L0 (aJ (x0+1)) x5 x6 x7 x8 x9 x10 x11)))))
def l1 (k:Nat) (L0:T0):Nat→T1
 | 0=>fun _ _ _ _ _ _ _ _ _ _ _ _=>none
 | n+1=>b1 k L0 (l1 k L0 n)
def b0 (k:Nat) (L1:T1) (L0:T0):T0:=fun x0 x1 x2 x3 x4 x5 x6 x7 =>
 (bif (decide (x0<(x1.length:Int))) then
 (bF x0 (x1.length:Int)
 ((gb.f k (List.getD x1 (Int.toNat x0) (Ty.z aL)).1).bind fun r2 =>
 (L1 x0 r2.1 r2.2.1 false 0 x1 x2 x3 x4 x5 x6 x7)))
 else
 (some (x7,())))
def l0 (k:Nat):Nat→T0
 | 0=>fun _ _ _ _ _ _ _ _=>none
 | n+1=>b0 k (l1 k (l0 k n) k) (l0 k n)
def t (k:Nat) (L0:T0) (a0:Ty.d aA) (a1:Ty.d cY):Rs :=
 ((bE.f k a0).bind fun r1 =>
 (bif (!r1.1) then
 (some ([],()))
 else
 (L0 0 a0.1 a0.2.1 a0.2.2.1 a0.2.2.2.1 a1.1 a1.2.1 [])))
def f (k:Nat):=t k (l0 k k)
end bL
namespace cr
abbrev Rs:Type:=Option ((Ty.d aA) × Int × Unit)
def t (k:Nat) (a0:Ty.d aA):Rs :=
 ((bw.f k a0).bind fun r1 =>
 ((bE.f k a0).bind fun r2 =>
 (bif (!r2.1) then
 (some (r1.1,(5,())))
 else
 (bif a0.2.2.2.1 then
 (some ((r1.1.1,(r1.1.2.1,(r1.1.2.2.1,(true,())))),(1,())))
 else
 (bif (a0.2.2.1==0) then
 (some ((r1.1.1,(r1.1.2.1,(r1.1.2.2.1,(true,())))),(1,())))
 else
 (bif (decide (a0.2.2.1 > 0)) then
 (some ((r1.1.1,(r1.1.2.1,((aJ (a0.2.2.1-1)),r1.1.2.2.2))),(0,())))
 else
 (some (r1.1,(0,())))))))))
def f (k:Nat):=t k
end cr
namespace eQ
abbrev Rs:Type:=Option ((List (Ty.d aL)) × Unit)
def t (k:Nat) (a0:List (Ty.d aL)) (a1:Int):Rs :=
 (pJ a1 (List.length a0:Int)
 (rm (Ty.bytes aL) (0+List.length (List.take (Int.toNat a1) a0))
 (pJ (aJ (a1+1)) (List.length a0:Int)
 (rm (Ty.bytes aL) (List.length ([]++(List.take (Int.toNat a1) a0))+List.length (List.drop (Int.toNat (aJ (a1+1))) a0))
 (some ((([]++(List.take (Int.toNat a1) a0))++(List.drop (Int.toNat (aJ (a1+1))) a0)),()))))))
def f (k:Nat):=t k
end eQ
namespace g7
abbrev Rs:Type:=Option ((Ty.d aA) × Int × Unit)
def t (k:Nat) (a0:Ty.d aA) (a1:ByteArray):Rs :=
 ((cr.f k a0).bind fun r1 =>
 (bif (r1.2.1 != 0) then
 (some r1)
 else
 ((b_.f k a0 a1).bind fun r2 =>
 (bif (decide (r2.1<0)) then
 (some (r1.1,(3,())))
 else
 ((eQ.f k r1.1.1 r2.1).bind fun r3 =>
 (some ((r3.1,r1.1.2),(0,()))))))))
def f (k:Nat):=t k
end g7
namespace aV
abbrev Rs:Type:=Option (Int × Unit)
def t (k:Nat) (a0:Int):Rs :=
 (bif (a0==0) then
 (some (0,()))
 else
 (bif (a0==1) then
 (some (1,()))
 else
 (bif (a0==2) then
 (some (2,()))
 else
 (some (3,())))))
def f (k:Nat):=t k
end aV
namespace d7
abbrev Rs:Type:=Option ((List (Ty.d aL)) × Unit)
abbrev T0:Type:=List (Ty.d aL)→Bool→Int→ByteArray→ByteArray→Int→List (Ty.d aL)→Rs
def b0 (k:Nat) (L0:T0):T0:=fun x0 x1 x2 x3 x4 x5 x6 =>
 (bif (decide (x2<(x0.length:Int))) then
 (bif (!x1) then
 (bF x2 (x0.length:Int)
 (bif (!((mo (List.getD x0 (Int.toNat x2) (Ty.z aL)).1 x3)||(seq (List.getD x0 (Int.toNat x2) (Ty.z aL)).1 x3))) then
 (rm (Ty.bytes aL) (List.length x6+1)
 (bF x2 (x0.length:Int)
 (rm (Ty.bytes aL) (List.length (x6++[(x3,(x4,(x5,())))])+1)
 (L0 x0 true (aJ (x2+1)) x3 x4 x5 ((x6++[(x3,(x4,(x5,())))])++[(List.getD x0 (Int.toNat x2) (Ty.z aL))])))))
 else
 (bF x2 (x0.length:Int)
 (rm (Ty.bytes aL) (List.length x6+1)
 (L0 x0 x1 (aJ (x2+1)) x3 x4 x5 (x6++[(List.getD x0 (Int.toNat x2) (Ty.z aL))]))))))
 else
 (bF x2 (x0.length:Int)
 (rm (Ty.bytes aL) (List.length x6+1)
 (L0 x0 x1 (aJ (x2+1)) x3 x4 x5 (x6++[(List.getD x0 (Int.toNat x2) (Ty.z aL))])))))
 else
 (bif (!x1) then
 (rm (Ty.bytes aL) (List.length x6+1)
 (some ((x6++[(x3,(x4,(x5,())))]),())))
 else
 (some (x6,()))))
def l0 (k:Nat):Nat→T0
 | 0=>fun _ _ _ _ _ _ _=>none
 | n+1=>b0 k (l0 k n)
def t (k:Nat) (L0:T0) (a0:List (Ty.d aL)) (a1:Ty.d aL):Rs :=
 (L0 a0 false 0 a1.1 a1.2.1 a1.2.2.1 [])
def f (k:Nat):=t k (l0 k k)
end d7
namespace gU
abbrev Rs:Type:=Option ((Ty.d aA) × Int × Unit)
def t (k:Nat) (a0:Ty.d aA) (a1:ByteArray):Rs :=
 ((cr.f k a0).bind fun r1 =>
 (bif (r1.2.1 != 0) then
 (some r1)
 else
 ((dY.f k a1).bind fun r2 =>
 (bif (!r2.1) then
 (some (r1.1,(5,())))
 else
 ((b_.f k a0 a1).bind fun r3 =>
 (bif (decide (r3.1≥0)) then
 (some (r1.1,(4,())))
 else
 (bif (decide ((List.length a0.1:Int)≥130)) then
 (some (r1.1,(2,())))
 else
 ((d7.f k r1.1.1 (a1,(ByteArray.empty,(0,())))).bind fun r4 =>
 (some ((r4.1,r1.1.2),(0,())))))))))))
def f (k:Nat):=t k
end gU
namespace dF
abbrev Rs:Type:=Option (Bool × Unit)
abbrev T0:Type:=Int→Int→List Int→Rs
def b0 (k:Nat) (L0:T0):T0:=fun x0 x1 x2 =>
 (bif (decide (x0<(x2.length:Int))) then
 (bF x0 (x2.length:Int)
 ((aS.f k (List.getD x2 (Int.toNat x0) (Ty.z (.int .i64))) 1 (aJ (x1-1))).bind fun r3 =>
 (bif (!r3.1) then
 (some (false,()))
 else
 (bif (decide (x0 > 0)) then
 (bF x0 (x2.length:Int)
 (bF (aJ (x0-1)) (x2.length:Int)
 (bif (decide ((List.getD x2 (Int.toNat x0) (Ty.z (.int .i64)))≤(List.getD x2 (Int.toNat (aJ (x0-1))) (Ty.z (.int .i64))))) then
 (some (false,()))
 else
 (L0 (aJ (x0+1)) x1 x2))))
 else
 (L0 (aJ (x0+1)) x1 x2)))))
 else
 (some (true,())))
def l0 (k:Nat):Nat→T0
 | 0=>fun _ _ _=>none
 | n+1=>b0 k (l0 k n)
def t (k:Nat) (L0:T0) (a0:Ty.d cY):Rs :=
 ((aS.f k a0.1 1 100000).bind fun r1 =>
 (bif (!r1.1) then
 (some (false,()))
 else
 ((aS.f k (List.length a0.2.1:Int) 1 60).bind fun r2 =>
 (bif (!r2.1) then
 (some (false,()))
 else
 (L0 0 a0.1 a0.2.1)))))
def f (k:Nat):=t k (l0 k k)
end dF
namespace bW
abbrev Rs:Type:=Option (ByteArray × Unit)
abbrev T0:Type:=Int→List Int→Rs
def b0 (k:Nat) (L0:T0):T0:=fun x0 x1 =>
 (bif (decide (x0≥128)) then
 (rm (Ty.bytes (.int .u8)) (List.length x1+1)
 (L0 (aJ (Int.tdiv x0 128)) (x1++[(IntKind.wrap .u8 (aJ (128+(Int.tmod x0 128))))])))
 else
 (rm (Ty.bytes (.int .u8)) (List.length x1+1)
 (some ((bytesOf (x1++[(IntKind.wrap .u8 x0)])),()))))
def l0 (k:Nat):Nat→T0
 | 0=>fun _ _=>none
 | n+1=>b0 k (l0 k n)
def t (k:Nat) (L0:T0) (a0:Int):Rs :=
 ((aS.f k a0 0 562949953421311).bind fun r1 =>
 (bif (!r1.1) then
 (some ((⟨#[]⟩:ByteArray),()))
 else
 (L0 a0 [])))
def f (k:Nat):=t k (l0 k k)
end bW
namespace fa
abbrev Rs:Type:=Option (Int × Unit)
abbrev T1:Type:=ByteArray→Int→Int→Int→Rs
abbrev T0:Type:=ByteArray→Int→Int→Rs
def b1 (k:Nat) (L0:T0) (L1:T1):T1:=fun x0 x1 x2 x3 =>
 (bif (decide (x3<8)) then
 (bif ((Int.tmod x1 2)==1) then
 (L1 x0 (aJ (((BitVec.ofInt (IntKind.bits .i64) (aJ (Int.tdiv x1 2)) ^^^ BitVec.ofInt (IntKind.bits .i64) 2197175160).toNat:Int))) x2 (aJ (x3+1)))
 else
 (L1 x0 (aJ (Int.tdiv x1 2)) x2 (aJ (x3+1))))
 else
 (L0 x0 x1 (aJ (x2+1))))
def l1 (k:Nat) (L0:T0):Nat→T1
 | 0=>fun _ _ _ _=>none
 | n+1=>b1 k L0 (l1 k L0 n)
def b0 (k:Nat) (L1:T1) (L0:T0):T0:=fun x0 x1 x2 =>
 (bif (decide (x2<(ByteArray.size x0:Int))) then
 (bF x2 (ByteArray.size x0:Int)
 (L1 x0 (aJ (((BitVec.ofInt (IntKind.bits .i64) x1 ^^^ BitVec.ofInt (IntKind.bits .i64) (aJ (di x0 x2))).toNat:Int))) x2 0))
 else
 (some ((aJ (4294967295-x1)),())))
def l0 (k:Nat):Nat→T0
 | 0=>fun _ _ _=>none
 | n+1=>b0 k (l1 k (l0 k n) k) (l0 k n)
def t (k:Nat) (L0:T0) (a0:ByteArray):Rs :=
 (L0 a0 4294967295 0)
def f (k:Nat):=t k (l0 k k)
end fa
namespace dN
abbrev Rs:Type:=Option (ByteArray × Unit)
abbrev T0:Type:=Int→Int→ByteArray→Int→Rs
def b0 (k:Nat) (L0:T0):T0:=fun x0 x1 x2 x3 =>
 (bif (decide (x3<x1)) then
 (ke (bytesOf [(IntKind.wrap .u8 (Int.tmod x0 256))]) x2
 (L0 (aJ (Int.tdiv x0 256)) x1 ((bytesOf [(IntKind.wrap .u8 (Int.tmod x0 256))])++x2) (aJ (x3+1))))
 else
 (bif (decide (x0 > 0)) then
 (some ((⟨#[]⟩:ByteArray),()))
 else
 (some (x2,()))))
def l0 (k:Nat):Nat→T0
 | 0=>fun _ _ _ _=>none
 | n+1=>b0 k (l0 k n)
def t (k:Nat) (L0:T0) (a0:Int) (a1:Int):Rs :=
 ((aS.f k a1 1 7).bind fun r1 =>
 (bif (!r1.1) then
 (some ((⟨#[]⟩:ByteArray),()))
 else
 (bif (decide (a0<0)) then
 (some ((⟨#[]⟩:ByteArray),()))
 else
 (L0 a0 a1 (⟨#[]⟩:ByteArray) 0))))
def f (k:Nat):=t k (l0 k k)
end dN
namespace fH
abbrev Rs:Type:=Option (ByteArray × Unit)
def t (k:Nat) (a0:ByteArray):Rs :=
 (bif (decide ((ByteArray.size a0:Int) > 200)) then
 (some ((⟨#[]⟩:ByteArray),()))
 else
 ((bW.f k (ByteArray.size a0:Int)).bind fun r1 =>
 (ke r1.1 a0
 ((fa.f k (r1.1++a0)).bind fun r2 =>
 ((dN.f k r2.1 4).bind fun r3 =>
 (ke r3.1 (r1.1++a0)
 (some ((r3.1++(r1.1++a0)),()))))))))
def f (k:Nat):=t k
end fH
namespace d5
abbrev Rs:Type:=Option (ByteArray × Unit)
abbrev T0:Type:=ByteArray→Int→Int→List Int→Rs
def b0 (k:Nat) (L0:T0):T0:=fun x0 x1 x2 x3 =>
 (bif (decide (x1<(x3.length:Int))) then
 (bF x1 (x3.length:Int)
 ((bW.f k (List.getD x3 (Int.toNat x1) (Ty.z (.int .i64)))).bind fun r4 =>
 (ke x0 r4.1
 (L0 (x0++r4.1) (aJ (x1+1)) x2 x3))))
 else
 ((fH.f k x0).bind fun r5 =>
 (some r5)))
def l0 (k:Nat):Nat→T0
 | 0=>fun _ _ _ _=>none
 | n+1=>b0 k (l0 k n)
def t (k:Nat) (L0:T0) (a0:Ty.d cY):Rs :=
 ((dF.f k a0).bind fun r1 =>
 (bif (!r1.1) then
 (some ((⟨#[]⟩:ByteArray),()))
 else
 ((bW.f k a0.1).bind fun r2 =>
 ((bW.f k (List.length a0.2.1:Int)).bind fun r3 =>
 (ke r2.1 r3.1
 (L0 (r2.1++r3.1) 0 a0.1 a0.2.1))))))
def f (k:Nat):=t k (l0 k k)
end d5
namespace dS
abbrev Rs:Type:=Option ((Ty.d aA) × Int × Unit)
def t (k:Nat) (a0:Ty.d aA) (a1:ByteArray):Rs :=
 ((b_.f k a0 a1).bind fun r1 =>
 (bif (decide (r1.1≥0)) then
 ((g7.f k a0 a1).bind fun r2 =>
 (bif (r2.2.1 != 0) then
 (some r2)
 else
 ((gU.f k r2.1 a1).bind fun r3 =>
 (some r3))))
 else
 ((gU.f k a0 a1).bind fun r4 =>
 (some r4))))
def f (k:Nat):=t k
end dS
namespace dZ
abbrev Rs:Type:=Option ((Ty.d aA) × Int × Unit)
def t (k:Nat) (a0:Ty.d aA) (a1:ByteArray) (a2:ByteArray):Rs :=
 ((cr.f k a0).bind fun r1 =>
 (bif (r1.2.1 != 0) then
 (some r1)
 else
 ((b_.f k a0 a1).bind fun r2 =>
 (bif (decide (r2.1<0)) then
 (some (r1.1,(3,())))
 else
 ((dW.f k a0).bind fun r3 =>
 (bif (decide ((ByteArray.size a2:Int) > (aJ (a0.2.1-r3.1)))) then
 (some (r1.1,(2,())))
 else
 (bF r2.1 (List.length a0.1:Int)
 (ke (List.getD a0.1 (Int.toNat r2.1) (Ty.z aL)).2.1 a2
 (bF r2.1 (List.length r1.1.1:Int)
 (let l4:=(List.set r1.1.1 (Int.toNat r2.1) ((List.getD r1.1.1 (Int.toNat r2.1) (Ty.z aL)).1,(((List.getD a0.1 (Int.toNat r2.1) (Ty.z aL)).2.1++a2),(List.getD r1.1.1 (Int.toNat r2.1) (Ty.z aL)).2.2)));
 (some ((l4,r1.1.2),(0,())))))))))))))
def f (k:Nat):=t k
end dZ
namespace dw
abbrev Rs:Type:=Option ((Ty.d aA) × Int × Unit)
def t (k:Nat) (a0:Ty.d aA) (a1:ByteArray):Rs :=
 ((cr.f k a0).bind fun r1 =>
 (bif (r1.2.1 != 0) then
 (some r1)
 else
 ((b_.f k a0 a1).bind fun r2 =>
 (bif (decide (r2.1<0)) then
 (some (r1.1,(3,())))
 else
 (bF r2.1 (List.length a0.1:Int)
 (bF r2.1 (List.length r1.1.1:Int)
 (let l3:=(List.set r1.1.1 (Int.toNat r2.1) ((List.getD r1.1.1 (Int.toNat r2.1) (Ty.z aL)).1,((List.getD r1.1.1 (Int.toNat r2.1) (Ty.z aL)).2.1,((ByteArray.size (List.getD a0.1 (Int.toNat r2.1) (Ty.z aL)).2.1:Int),(List.getD r1.1.1 (Int.toNat r2.1) (Ty.z aL)).2.2.2))));
 (some ((l3,r1.1.2),(0,()))))))))))
def f (k:Nat):=t k
end dw
namespace gL
abbrev Rs:Type:=Option ((Ty.d aA) × Int × Unit)
def t (k:Nat) (a0:Ty.d aA) (a1:ByteArray) (a2:ByteArray):Rs :=
 ((dS.f k a0 a1).bind fun r1 =>
 (bif (r1.2.1==0) then
 ((dZ.f k r1.1 a1 a2).bind fun r2 =>
 (bif (r2.2.1==0) then
 ((dw.f k r2.1 a1).bind fun r3 =>
 (some r3))
 else
 (some r2)))
 else
 (bif (r1.2.1==0) then
 ((dw.f k r1.1 a1).bind fun r4 =>
 (some r4))
 else
 (some r1))))
def f (k:Nat):=t k
end gL
namespace jB
abbrev Rs:Type:=Option ((Ty.d aA) × Int × Unit)
def t (k:Nat) (a0:Ty.d aA) (a1:ByteArray) (a2:ByteArray):Rs :=
 ((cr.f k a0).bind fun r1 =>
 (bif (r1.2.1 != 0) then
 (some r1)
 else
 ((dY.f k a2).bind fun r2 =>
 (bif (!r2.1) then
 (some (r1.1,(5,())))
 else
 ((b_.f k a0 a1).bind fun r3 =>
 (bif (decide (r3.1<0)) then
 (some (r1.1,(3,())))
 else
 (bif (seq a1 a2) then
 (some (r1.1,(0,())))
 else
 (bF r3.1 (List.length a0.1:Int)
 ((eQ.f k r1.1.1 r3.1).bind fun r4 =>
 ((b_.f k (r4.1,r1.1.2) a2).bind fun r5 =>
 (bif (decide (r5.1≥0)) then
 ((eQ.f k r4.1 r5.1).bind fun r6 =>
 ((d7.f k r6.1 (a2,(List.getD a0.1 (Int.toNat r3.1) (Ty.z aL)).2)).bind fun r7 =>
 (some ((r7.1,r1.1.2),(0,())))))
 else
 ((d7.f k r4.1 (a2,(List.getD a0.1 (Int.toNat r3.1) (Ty.z aL)).2)).bind fun r8 =>
 (some ((r8.1,r1.1.2),(0,())))))))))))))))
def f (k:Nat):=t k
end jB
namespace eC
abbrev Rs:Type:=Option ((Ty.d aA) × Int × Unit)
def t (k:Nat) (a0:Ty.d aA) (a1:Ty.d cY):Rs :=
 ((bE.f k a0).bind fun r1 =>
 (bif (!r1.1) then
 ((bw.f k a0).bind fun r2 =>
 (some (r2.1,(4,()))))
 else
 ((dF.f k a1).bind fun r3 =>
 (bif (!r3.1) then
 ((bw.f k a0).bind fun r4 =>
 (some (r4.1,(4,()))))
 else
 ((d5.f k a1).bind fun r5 =>
 ((gL.f k a0 (⟨#[116,101,109,112]⟩:ByteArray) r5.1).bind fun r6 =>
 (bif (r6.2.1==0) then
 ((jB.f k r6.1 (⟨#[116,101,109,112]⟩:ByteArray) (⟨#[108,105,118,101]⟩:ByteArray)).bind fun r7 =>
 ((aV.f k r7.2.1).bind fun r8 =>
 (some (r7.1,r8))))
 else
 ((aV.f k r6.2.1).bind fun r9 =>
 (some (r6.1,r9))))))))))
def f (k:Nat):=t k
end eC
namespace af
abbrev Rs:Type:=Option (Int × Int × Unit)
abbrev T1:Type:=ByteArray→Int→Int→Int→Rs
abbrev T0:Type:=ByteArray→Int→Rs
def b1 (k:Nat) (L0:T0) (L1:T1):T1:=fun x0 x1 x2 x3 =>
 (bif (decide (x3≥0)) then
 (bF x3 (ByteArray.size x0:Int)
 (L1 x0 x1 (aJ ((aJ (x2*128))+(Int.tmod (aJ (di x0 x3)) 128))) (aJ (x3-1))))
 else
 ((bW.f k x2).bind fun r1 =>
 (pJ x1 (ByteArray.size x0:Int)
 (bif (seq r1.1 (ByteArray.extract x0 0 (Int.toNat x1))) then
 (some (x2,(x1,())))
 else
 (L0 x0 (aJ (x1+1)))))))
def l1 (k:Nat) (L0:T0):Nat→T1
 | 0=>fun _ _ _ _=>none
 | n+1=>b1 k L0 (l1 k L0 n)
def b0 (k:Nat) (L1:T1) (L0:T0):T0:=fun x0 x1 =>
 (bif (decide (x1≤7)) then
 (bif (decide (x1≤(ByteArray.size x0:Int))) then
 (L1 x0 x1 0 (aJ (x1-1)))
 else
 (some (0,(0,()))))
 else
 (some (0,(0,()))))
def l0 (k:Nat):Nat→T0
 | 0=>fun _ _=>none
 | n+1=>b0 k (l1 k (l0 k n) k) (l0 k n)
def t (k:Nat) (L0:T0) (a0:ByteArray):Rs :=
 (L0 a0 1)
def f (k:Nat):=t k (l0 k k)
end af
namespace dP
abbrev Rs:Type:=Option (ByteArray × Int × Unit)
def t (k:Nat) (a0:ByteArray):Rs :=
 (bif (decide ((ByteArray.size a0:Int)<5)) then
 (some ((⟨#[]⟩:ByteArray),(0,())))
 else
 (pJ 4 (ByteArray.size a0:Int)
 ((af.f k (ByteArray.extract a0 4 (ByteArray.size a0))).bind fun r1 =>
 (bif (r1.2.1==0) then
 (some ((⟨#[]⟩:ByteArray),(0,())))
 else
 (bif (decide (r1.1 > 200)) then
 (some ((⟨#[]⟩:ByteArray),(0,())))
 else
 (bif (decide (r1.1 > (aJ ((aJ ((ByteArray.size a0:Int)-4))-r1.2.1)))) then
 (some ((⟨#[]⟩:ByteArray),(0,())))
 else
 (Cb (aJ (4+r1.2.1)) (aJ ((aJ (4+r1.2.1))+r1.1)) (ByteArray.size a0:Int)
 (pJ (aJ ((aJ (4+r1.2.1))+r1.1)) (ByteArray.size a0:Int)
 ((fH.f k (ByteArray.extract a0 (Int.toNat (aJ (4+r1.2.1))) (Int.toNat (aJ ((aJ (4+r1.2.1))+r1.1))))).bind fun r2 =>
 (bif (!(seq (ByteArray.extract a0 0 (Int.toNat (aJ ((aJ (4+r1.2.1))+r1.1)))) r2.1)) then
 (some ((⟨#[]⟩:ByteArray),(0,())))
 else
 (some ((ByteArray.extract a0 (Int.toNat (aJ (4+r1.2.1))) (Int.toNat (aJ ((aJ (4+r1.2.1))+r1.1)))),((aJ ((aJ (4+r1.2.1))+r1.1)),())))))))))))))
def f (k:Nat):=t k
end dP
namespace bH
abbrev Rs:Type:=Option ((Ty.d cY) × Bool × Unit)
abbrev T0:Type:=ByteArray→ByteArray→Int→Int→Int→List Int→Int→List Int→Int→Rs
def b0 (k:Nat) (L0:T0):T0:=fun x0 x1 x2 x3 x4 x5 x6 x7 x8 =>
 (bif (decide (x4<x2)) then
 (bif (decide (x4<60)) then
 (pJ x3 (ByteArray.size x1:Int)
 ((af.f k (ByteArray.extract x1 (Int.toNat x3) (ByteArray.size x1))).bind fun r4 =>
 (rm (Ty.bytes (.int .i64)) (List.length x7+1)
 (L0 x0 x1 x2 (aJ (x3+r4.2.1)) (aJ (x4+1)) x5 x6 (x7++[r4.1]) x8))))
 else
 ((d5.f k (x8,(x7,()))).bind fun r5 =>
 (bif (!(seq r5.1 x0)) then
 (some ((0,([],())),(false,())))
 else
 (some ((x8,(x7,())),(true,()))))))
 else
 ((d5.f k (x8,(x7,()))).bind fun r6 =>
 (bif (!(seq r6.1 x0)) then
 (some ((0,([],())),(false,())))
 else
 (some ((x8,(x7,())),(true,()))))))
def l0 (k:Nat):Nat→T0
 | 0=>fun _ _ _ _ _ _ _ _ _=>none
 | n+1=>b0 k (l0 k n)
def t (k:Nat) (L0:T0) (a0:ByteArray):Rs :=
 ((dP.f k a0).bind fun r1 =>
 ((af.f k r1.1).bind fun r2 =>
 (bif (r1.2.1 != (ByteArray.size a0:Int)) then
 (some ((0,([],())),(false,())))
 else
 (bif (r1.2.1==0) then
 (some ((0,([],())),(false,())))
 else
 (bif (r2.2.1==0) then
 (some ((0,([],())),(false,())))
 else
 (pJ r2.2.1 (ByteArray.size r1.1:Int)
 ((af.f k (ByteArray.extract r1.1 (Int.toNat r2.2.1) (ByteArray.size r1.1))).bind fun r3 =>
 (L0 a0 r1.1 r3.1 (aJ (r2.2.1+r3.2.1)) 0 [] 0 [] r2.1))))))))
def f (k:Nat):=t k (l0 k k)
end bH
namespace cJ
abbrev Rs:Type:=Option (ByteArray × ByteArray × Bool × Unit)
def t (k:Nat) (a0:ByteArray):Rs :=
 ((af.f k a0).bind fun r1 =>
 (bif (r1.2.1==0) then
 (some ((⟨#[]⟩:ByteArray),((⟨#[]⟩:ByteArray),(false,()))))
 else
 (bif (decide (r1.1 > (aJ ((ByteArray.size a0:Int)-r1.2.1)))) then
 (some ((⟨#[]⟩:ByteArray),((⟨#[]⟩:ByteArray),(false,()))))
 else
 (Cb r1.2.1 (aJ (r1.2.1+r1.1)) (ByteArray.size a0:Int)
 (pJ (aJ (r1.2.1+r1.1)) (ByteArray.size a0:Int)
 (some ((ByteArray.extract a0 (Int.toNat r1.2.1) (Int.toNat (aJ (r1.2.1+r1.1)))),((ByteArray.extract a0 (Int.toNat (aJ (r1.2.1+r1.1))) (ByteArray.size a0)),(true,())))))))))
def f (k:Nat):=t k
end cJ
namespace cZ
abbrev Rs:Type:=Option (Bool × Unit)
def t (k:Nat) (a0:ByteArray):Rs :=
 ((aS.f k (ByteArray.size a0:Int) 1 8).bind fun r1 =>
 (some r1))
def f (k:Nat):=t k
end cZ
namespace jg
abbrev Rs:Type:=Option (Bool × Unit)
def t (k:Nat) (a0:Ty.d b7):Rs :=
 ((aS.f k a0.2.1 0 1000000).bind fun r1 =>
 (bif (!r1.1) then
 (some (false,()))
 else
 (bif (a0.2.1==0) then
 (bif (a0.1 != 5) then
 (some (false,()))
 else
 (bif (a0.1==1) then
 (bif (a0.1==1) then
 ((cZ.f k a0.2.2.1).bind fun r2 =>
 (bif r2.1 then
 (bif (decide ((ByteArray.size a0.2.2.2.1:Int)≤24)) then
 (bif (a0.2.2.2.2.1==0) then
 (some ((a0.2.2.2.2.2.1==0),()))
 else
 (some (false,())))
 else
 (some (false,())))
 else
 (some (false,()))))
 else
 (bif (a0.1==2) then
 ((cZ.f k a0.2.2.1).bind fun r3 =>
 (bif r3.1 then
 (bif (seq a0.2.2.2.1 (⟨#[]⟩:ByteArray)) then
 (bif (a0.2.2.2.2.1==0) then
 (some ((a0.2.2.2.2.2.1==0),()))
 else
 (some (false,())))
 else
 (some (false,())))
 else
 (some (false,()))))
 else
 (bif (a0.1==3) then
 (bif (seq a0.2.2.1 (⟨#[]⟩:ByteArray)) then
 (bif (seq a0.2.2.2.1 (⟨#[]⟩:ByteArray)) then
 ((aS.f k a0.2.2.2.2.1 0 8).bind fun r4 =>
 (bif r4.1 then
 ((aS.f k a0.2.2.2.2.2.1 0 4294967295).bind fun r5 =>
 (some r5))
 else
 (some (false,()))))
 else
 (some (false,())))
 else
 (some (false,())))
 else
 (bif (a0.1==5) then
 (bif (seq a0.2.2.1 (⟨#[]⟩:ByteArray)) then
 (bif (seq a0.2.2.2.1 (⟨#[]⟩:ByteArray)) then
 ((aS.f k a0.2.2.2.2.1 0 20).bind fun r6 =>
 (bif r6.1 then
 ((aS.f k a0.2.2.2.2.2.1 0 4294967295).bind fun r7 =>
 (some r7))
 else
 (some (false,()))))
 else
 (some (false,())))
 else
 (some (false,())))
 else
 (some (false,()))))))
 else
 (bif (a0.1==4) then
 ((cZ.f k a0.2.2.1).bind fun r8 =>
 (bif r8.1 then
 (bif (decide ((ByteArray.size a0.2.2.2.1:Int)≤24)) then
 (bif (a0.2.2.2.2.1==0) then
 (some ((a0.2.2.2.2.2.1==0),()))
 else
 (some (false,())))
 else
 (some (false,())))
 else
 (some (false,()))))
 else
 (bif (a0.1==2) then
 ((cZ.f k a0.2.2.1).bind fun r9 =>
 (bif r9.1 then
 (bif (seq a0.2.2.2.1 (⟨#[]⟩:ByteArray)) then
 (bif (a0.2.2.2.2.1==0) then
 (some ((a0.2.2.2.2.2.1==0),()))
 else
 (some (false,())))
 else
 (some (false,())))
 else
 (some (false,()))))
 else
 (bif (a0.1==3) then
 (bif (seq a0.2.2.1 (⟨#[]⟩:ByteArray)) then
 (bif (seq a0.2.2.2.1 (⟨#[]⟩:ByteArray)) then
 ((aS.f k a0.2.2.2.2.1 0 8).bind fun r10 =>
 (bif r10.1 then
 ((aS.f k a0.2.2.2.2.2.1 0 4294967295).bind fun r11 =>
 (some r11))
 else
 (some (false,()))))
 else
 (some (false,())))
 else
 (some (false,())))
 else
 (bif (a0.1==5) then
 (bif (seq a0.2.2.1 (⟨#[]⟩:ByteArray)) then
 (bif (seq a0.2.2.2.1 (⟨#[]⟩:ByteArray)) then
 ((aS.f k a0.2.2.2.2.1 0 20).bind fun r12 =>
 (bif r12.1 then
 ((aS.f k a0.2.2.2.2.2.1 0 4294967295).bind fun r13 =>
 (some r13))
 else
 (some (false,()))))
 else
 (some (false,())))
 else
 (some (false,())))
 else
 (some (false,()))))))))
 else
 (bif (a0.1==1) then
 (bif (a0.1==1) then
 ((cZ.f k a0.2.2.1).bind fun r14 =>
 (bif r14.1 then
 (bif (decide ((ByteArray.size a0.2.2.2.1:Int)≤24)) then
 (bif (a0.2.2.2.2.1==0) then
 (some ((a0.2.2.2.2.2.1==0),()))
 else
 (some (false,())))
 else
 (some (false,())))
 else
 (some (false,()))))
 else
 (bif (a0.1==2) then
 ((cZ.f k a0.2.2.1).bind fun r15 =>
 (bif r15.1 then
 (bif (seq a0.2.2.2.1 (⟨#[]⟩:ByteArray)) then
 (bif (a0.2.2.2.2.1==0) then
 (some ((a0.2.2.2.2.2.1==0),()))
 else
 (some (false,())))
 else
 (some (false,())))
 else
 (some (false,()))))
 else
 (bif (a0.1==3) then
 (bif (seq a0.2.2.1 (⟨#[]⟩:ByteArray)) then
 (bif (seq a0.2.2.2.1 (⟨#[]⟩:ByteArray)) then
 ((aS.f k a0.2.2.2.2.1 0 8).bind fun r16 =>
 (bif r16.1 then
 ((aS.f k a0.2.2.2.2.2.1 0 4294967295).bind fun r17 =>
 (some r17))
 else
 (some (false,()))))
 else
 (some (false,())))
 else
 (some (false,())))
 else
 (bif (a0.1==5) then
 (bif (seq a0.2.2.1 (⟨#[]⟩:ByteArray)) then
 (bif (seq a0.2.2.2.1 (⟨#[]⟩:ByteArray)) then
 ((aS.f k a0.2.2.2.2.1 0 20).bind fun r18 =>
 (bif r18.1 then
 ((aS.f k a0.2.2.2.2.2.1 0 4294967295).bind fun r19 =>
 (some r19))
 else
 (some (false,()))))
 else
 (some (false,())))
 else
 (some (false,())))
 else
 (some (false,()))))))
 else
 (bif (a0.1==4) then
 ((cZ.f k a0.2.2.1).bind fun r20 =>
 (bif r20.1 then
 (bif (decide ((ByteArray.size a0.2.2.2.1:Int)≤24)) then
 (bif (a0.2.2.2.2.1==0) then
 (some ((a0.2.2.2.2.2.1==0),()))
 else
 (some (false,())))
 else
 (some (false,())))
 else
 (some (false,()))))
 else
 (bif (a0.1==2) then
 ((cZ.f k a0.2.2.1).bind fun r21 =>
 (bif r21.1 then
 (bif (seq a0.2.2.2.1 (⟨#[]⟩:ByteArray)) then
 (bif (a0.2.2.2.2.1==0) then
 (some ((a0.2.2.2.2.2.1==0),()))
 else
 (some (false,())))
 else
 (some (false,())))
 else
 (some (false,()))))
 else
 (bif (a0.1==3) then
 (bif (seq a0.2.2.1 (⟨#[]⟩:ByteArray)) then
 (bif (seq a0.2.2.2.1 (⟨#[]⟩:ByteArray)) then
 ((aS.f k a0.2.2.2.2.1 0 8).bind fun r22 =>
 (bif r22.1 then
 ((aS.f k a0.2.2.2.2.2.1 0 4294967295).bind fun r23 =>
 (some r23))
 else
 (some (false,()))))
 else
 (some (false,())))
 else
 (some (false,())))
 else
 (bif (a0.1==5) then
 (bif (seq a0.2.2.1 (⟨#[]⟩:ByteArray)) then
 (bif (seq a0.2.2.2.1 (⟨#[]⟩:ByteArray)) then
 ((aS.f k a0.2.2.2.2.1 0 20).bind fun r24 =>
 (bif r24.1 then
 ((aS.f k a0.2.2.2.2.2.1 0 4294967295).bind fun r25 =>
 (some r25))
 else
 (some (false,()))))
 else
 (some (false,())))
 else
 (some (false,())))
 else
 (some (false,()))))))))))
def f (k:Nat):=t k
end jg
namespace cC
abbrev Rs:Type:=Option (ByteArray × Unit)
def t (k:Nat) (a0:Ty.d b7):Rs :=
 ((jg.f k a0).bind fun r1 =>
 (bif (!r1.1) then
 (some ((⟨#[]⟩:ByteArray),()))
 else
 ((bW.f k a0.1).bind fun r2 =>
 ((bW.f k a0.2.1).bind fun r3 =>
 (ke r2.1 r3.1
 (bif (a0.1==1) then
 (bif (a0.1==1) then
 ((bW.f k (ByteArray.size a0.2.2.1:Int)).bind fun r4 =>
 (ke (r2.1++r3.1) r4.1
 (ke ((r2.1++r3.1)++r4.1) a0.2.2.1
 ((bW.f k (ByteArray.size a0.2.2.2.1:Int)).bind fun r5 =>
 (ke (((r2.1++r3.1)++r4.1)++a0.2.2.1) r5.1
 (ke ((((r2.1++r3.1)++r4.1)++a0.2.2.1)++r5.1) a0.2.2.2.1
 (some ((((((r2.1++r3.1)++r4.1)++a0.2.2.1)++r5.1)++a0.2.2.2.1),()))))))))
 else
 (bif (a0.1==2) then
 ((bW.f k (ByteArray.size a0.2.2.1:Int)).bind fun r6 =>
 (ke (r2.1++r3.1) r6.1
 (ke ((r2.1++r3.1)++r6.1) a0.2.2.1
 (some ((((r2.1++r3.1)++r6.1)++a0.2.2.1),())))))
 else
 ((bW.f k a0.2.2.2.2.1).bind fun r7 =>
 (ke (r2.1++r3.1) r7.1
 ((dN.f k a0.2.2.2.2.2.1 4).bind fun r8 =>
 (ke ((r2.1++r3.1)++r7.1) r8.1
 (some ((((r2.1++r3.1)++r7.1)++r8.1),()))))))))
 else
 (bif (a0.1==4) then
 ((bW.f k (ByteArray.size a0.2.2.1:Int)).bind fun r9 =>
 (ke (r2.1++r3.1) r9.1
 (ke ((r2.1++r3.1)++r9.1) a0.2.2.1
 ((bW.f k (ByteArray.size a0.2.2.2.1:Int)).bind fun r10 =>
 (ke (((r2.1++r3.1)++r9.1)++a0.2.2.1) r10.1
 (ke ((((r2.1++r3.1)++r9.1)++a0.2.2.1)++r10.1) a0.2.2.2.1
 (some ((((((r2.1++r3.1)++r9.1)++a0.2.2.1)++r10.1)++a0.2.2.2.1),()))))))))
 else
 (bif (a0.1==2) then
 ((bW.f k (ByteArray.size a0.2.2.1:Int)).bind fun r11 =>
 (ke (r2.1++r3.1) r11.1
 (ke ((r2.1++r3.1)++r11.1) a0.2.2.1
 (some ((((r2.1++r3.1)++r11.1)++a0.2.2.1),())))))
 else
 ((bW.f k a0.2.2.2.2.1).bind fun r12 =>
 (ke (r2.1++r3.1) r12.1
 ((dN.f k a0.2.2.2.2.2.1 4).bind fun r13 =>
 (ke ((r2.1++r3.1)++r12.1) r13.1
 (some ((((r2.1++r3.1)++r12.1)++r13.1),()))))))))))))))
def f (k:Nat):=t k
end cC
namespace bY
abbrev Rs:Type:=Option (Int × Bool × Unit)
abbrev T0:Type:=ByteArray→Int→Int→Int→Rs
def b0 (k:Nat) (L0:T0):T0:=fun x0 x1 x2 x3 =>
 (bif (decide (x3<x1)) then
 (bF x3 (ByteArray.size x0:Int)
 (L0 x0 x1 (aJ ((aJ (x2*256))+(aJ (di x0 x3)))) (aJ (x3+1))))
 else
 (some (x2,(true,()))))
def l0 (k:Nat):Nat→T0
 | 0=>fun _ _ _ _=>none
 | n+1=>b0 k (l0 k n)
def t (k:Nat) (L0:T0) (a0:ByteArray) (a1:Int):Rs :=
 ((aS.f k a1 1 7).bind fun r1 =>
 (bif (!r1.1) then
 (some (0,(false,())))
 else
 (bif (decide ((ByteArray.size a0:Int)<a1)) then
 (some (0,(false,())))
 else
 (L0 a0 a1 0 0))))
def f (k:Nat):=t k (l0 k k)
end bY
namespace dh
abbrev Rs:Type:=Option ((Ty.d b7) × Bool × Unit)
def t (k:Nat) (a0:ByteArray):Rs :=
 ((af.f k a0).bind fun r1 =>
 (pJ r1.2.1 (ByteArray.size a0:Int)
 ((af.f k (ByteArray.extract a0 (Int.toNat r1.2.1) (ByteArray.size a0))).bind fun r2 =>
 (bif (r1.2.1==0) then
 (some ((0,(0,(ByteArray.empty,(ByteArray.empty,(0,(0,())))))),(false,())))
 else
 (bif (r2.2.1==0) then
 (some ((0,(0,(ByteArray.empty,(ByteArray.empty,(0,(0,())))))),(false,())))
 else
 (pJ (aJ (r1.2.1+r2.2.1)) (ByteArray.size a0:Int)
 (bif (r1.1==1) then
 (bif (r1.1==1) then
 ((cJ.f k (ByteArray.extract a0 (Int.toNat (aJ (r1.2.1+r2.2.1))) (ByteArray.size a0))).bind fun r3 =>
 ((cJ.f k r3.2.1).bind fun r4 =>
 ((cC.f k (r1.1,(r2.1,(r3.1,(r4.1,(0,(0,()))))))).bind fun r5 =>
 (bif (!(seq r5.1 a0)) then
 (some ((0,(0,(ByteArray.empty,(ByteArray.empty,(0,(0,())))))),(false,())))
 else
 (bif (seq a0 (⟨#[]⟩:ByteArray)) then
 (some ((0,(0,(ByteArray.empty,(ByteArray.empty,(0,(0,())))))),(false,())))
 else
 (some ((r1.1,(r2.1,(r3.1,(r4.1,(0,(0,())))))),(true,()))))))))
 else
 (bif (r1.1==2) then
 ((cJ.f k (ByteArray.extract a0 (Int.toNat (aJ (r1.2.1+r2.2.1))) (ByteArray.size a0))).bind fun r6 =>
 ((cC.f k (r1.1,(r2.1,(r6.1,(ByteArray.empty,(0,(0,()))))))).bind fun r7 =>
 (bif (!(seq r7.1 a0)) then
 (some ((0,(0,(ByteArray.empty,(ByteArray.empty,(0,(0,())))))),(false,())))
 else
 (bif (seq a0 (⟨#[]⟩:ByteArray)) then
 (some ((0,(0,(ByteArray.empty,(ByteArray.empty,(0,(0,())))))),(false,())))
 else
 (some ((r1.1,(r2.1,(r6.1,(ByteArray.empty,(0,(0,())))))),(true,())))))))
 else
 ((af.f k (ByteArray.extract a0 (Int.toNat (aJ (r1.2.1+r2.2.1))) (ByteArray.size a0))).bind fun r8 =>
 (pJ r8.2.1 (ByteArray.size (ByteArray.extract a0 (Int.toNat (aJ (r1.2.1+r2.2.1))) (ByteArray.size a0)):Int)
 ((bY.f k (ByteArray.extract (ByteArray.extract a0 (Int.toNat (aJ (r1.2.1+r2.2.1))) (ByteArray.size a0)) (Int.toNat r8.2.1) (ByteArray.size (ByteArray.extract a0 (Int.toNat (aJ (r1.2.1+r2.2.1))) (ByteArray.size a0)))) 4).bind fun r9 =>
 ((cC.f k (r1.1,(r2.1,(ByteArray.empty,(ByteArray.empty,(r8.1,(r9.1,()))))))).bind fun r10 =>
 (bif (!(seq r10.1 a0)) then
 (some ((0,(0,(ByteArray.empty,(ByteArray.empty,(0,(0,())))))),(false,())))
 else
 (bif (seq a0 (⟨#[]⟩:ByteArray)) then
 (some ((0,(0,(ByteArray.empty,(ByteArray.empty,(0,(0,())))))),(false,())))
 else
 (some ((r1.1,(r2.1,(ByteArray.empty,(ByteArray.empty,(r8.1,(r9.1,())))))),(true,())))))))))))
 else
 (bif (r1.1==4) then
 ((cJ.f k (ByteArray.extract a0 (Int.toNat (aJ (r1.2.1+r2.2.1))) (ByteArray.size a0))).bind fun r11 =>
 ((cJ.f k r11.2.1).bind fun r12 =>
 ((cC.f k (r1.1,(r2.1,(r11.1,(r12.1,(0,(0,()))))))).bind fun r13 =>
 (bif (!(seq r13.1 a0)) then
 (some ((0,(0,(ByteArray.empty,(ByteArray.empty,(0,(0,())))))),(false,())))
 else
 (bif (seq a0 (⟨#[]⟩:ByteArray)) then
 (some ((0,(0,(ByteArray.empty,(ByteArray.empty,(0,(0,())))))),(false,())))
 else
 (some ((r1.1,(r2.1,(r11.1,(r12.1,(0,(0,())))))),(true,()))))))))
 else
 (bif (r1.1==2) then
 ((cJ.f k (ByteArray.extract a0 (Int.toNat (aJ (r1.2.1+r2.2.1))) (ByteArray.size a0))).bind fun r14 =>
 ((cC.f k (r1.1,(r2.1,(r14.1,(ByteArray.empty,(0,(0,()))))))).bind fun r15 =>
 (bif (!(seq r15.1 a0)) then
 (some ((0,(0,(ByteArray.empty,(ByteArray.empty,(0,(0,())))))),(false,())))
 else
 (bif (seq a0 (⟨#[]⟩:ByteArray)) then
 (some ((0,(0,(ByteArray.empty,(ByteArray.empty,(0,(0,())))))),(false,())))
 else
 (some ((r1.1,(r2.1,(r14.1,(ByteArray.empty,(0,(0,())))))),(true,())))))))
 else
 ((af.f k (ByteArray.extract a0 (Int.toNat (aJ (r1.2.1+r2.2.1))) (ByteArray.size a0))).bind fun r16 =>
 (pJ r16.2.1 (ByteArray.size (ByteArray.extract a0 (Int.toNat (aJ (r1.2.1+r2.2.1))) (ByteArray.size a0)):Int)
 ((bY.f k (ByteArray.extract (ByteArray.extract a0 (Int.toNat (aJ (r1.2.1+r2.2.1))) (ByteArray.size a0)) (Int.toNat r16.2.1) (ByteArray.size (ByteArray.extract a0 (Int.toNat (aJ (r1.2.1+r2.2.1))) (ByteArray.size a0)))) 4).bind fun r17 =>
 ((cC.f k (r1.1,(r2.1,(ByteArray.empty,(ByteArray.empty,(r16.1,(r17.1,()))))))).bind fun r18 =>
 (bif (!(seq r18.1 a0)) then
 (some ((0,(0,(ByteArray.empty,(ByteArray.empty,(0,(0,())))))),(false,())))
 else
 (bif (seq a0 (⟨#[]⟩:ByteArray)) then
 (some ((0,(0,(ByteArray.empty,(ByteArray.empty,(0,(0,())))))),(false,())))
 else
 (some ((r1.1,(r2.1,(ByteArray.empty,(ByteArray.empty,(r16.1,(r17.1,())))))),(true,()))))))))))))))))))
def f (k:Nat):=t k
end dh
namespace bS
abbrev Rs:Type:=Option ((List (Ty.d c_)) × Int × Unit)
abbrev T0:Type:=ByteArray→Int→List (Ty.d c_)→Rs
def b0 (k:Nat) (L0:T0):T0:=fun x0 x1 x2 =>
 (bif (decide (x1<(ByteArray.size x0:Int))) then
 (pJ x1 (ByteArray.size x0:Int)
 ((dP.f k (ByteArray.extract x0 (Int.toNat x1) (ByteArray.size x0))).bind fun r1 =>
 ((dh.f k r1.1).bind fun r2 =>
 (bif (r1.2.1==0) then
 (some (x2,(x1,())))
 else
 (bif (!r2.2.1) then
 (some (x2,(x1,())))
 else
 (rm (Ty.bytes c_) (List.length x2+1)
 (L0 x0 (aJ (x1+r1.2.1)) (x2++[(x1,(r1.2.1,(r2.1,())))]))))))))
 else
 (some (x2,(x1,()))))
def l0 (k:Nat):Nat→T0
 | 0=>fun _ _ _=>none
 | n+1=>b0 k (l0 k n)
def t (k:Nat) (L0:T0) (a0:ByteArray):Rs :=
 (L0 a0 0 [])
def f (k:Nat):=t k (l0 k k)
end bS
namespace hO
abbrev Rs:Type:=Option ((Ty.d aA) × Int × Unit)
def t (k:Nat) (a0:Ty.d aA) (a1:ByteArray) (a2:Int):Rs :=
 ((cr.f k a0).bind fun r1 =>
 (bif (r1.2.1 != 0) then
 (some r1)
 else
 ((b_.f k a0 a1).bind fun r2 =>
 (bif (decide (r2.1<0)) then
 (some (r1.1,(3,())))
 else
 (bF r2.1 (List.length a0.1:Int)
 ((aS.f k a2 0 (ByteArray.size (List.getD a0.1 (Int.toNat r2.1) (Ty.z aL)).2.1:Int)).bind fun r3 =>
 (bif (!r3.1) then
 (some (r1.1,(5,())))
 else
 (bF r2.1 (List.length a0.1:Int)
 (pJ a2 (ByteArray.size (List.getD a0.1 (Int.toNat r2.1) (Ty.z aL)).2.1:Int)
 (bF r2.1 (List.length r1.1.1:Int)
 (let l4:=(List.set r1.1.1 (Int.toNat r2.1) ((List.getD r1.1.1 (Int.toNat r2.1) (Ty.z aL)).1,((ByteArray.extract (List.getD a0.1 (Int.toNat r2.1) (Ty.z aL)).2.1 0 (Int.toNat a2)),(List.getD r1.1.1 (Int.toNat r2.1) (Ty.z aL)).2.2)));
 (bF r2.1 (List.length a0.1:Int)
 (bF r2.1 (List.length l4:Int)
 (let l5:=(List.set l4 (Int.toNat r2.1) ((List.getD l4 (Int.toNat r2.1) (Ty.z aL)).1,((List.getD l4 (Int.toNat r2.1) (Ty.z aL)).2.1,((if a2<(List.getD a0.1 (Int.toNat r2.1) (Ty.z aL)).2.2.1 then a2 else (List.getD a0.1 (Int.toNat r2.1) (Ty.z aL)).2.2.1),(List.getD l4 (Int.toNat r2.1) (Ty.z aL)).2.2.2))));
 (some ((l5,r1.1.2),(0,())))))))))))))))))
def f (k:Nat):=t k
end hO
namespace bZ
abbrev Rs:Type:=Option ((List Int) × Int × Unit)
abbrev T0:Type:=ByteArray→Int→Int→Int→List Int→Rs
def b0 (k:Nat) (L0:T0):T0:=fun x0 x1 x2 x3 x4 =>
 (bif (decide (x3<x2)) then
 (pJ x1 (ByteArray.size x0:Int)
 ((af.f k (ByteArray.extract x0 (Int.toNat x1) (ByteArray.size x0))).bind fun r1 =>
 (bif (r1.2.1==0) then
 (uy (Ty.bytes (.int .i64)) x2
 (some ((List.replicate (Int.toNat x2) (Ty.z (.int .i64))),((-1),()))))
 else
 (rm (Ty.bytes (.int .i64)) (List.length x4+1)
 (L0 x0 (aJ (x1+r1.2.1)) x2 (aJ (x3+1)) (x4++[r1.1]))))))
 else
 (some (x4,(x1,()))))
def l0 (k:Nat):Nat→T0
 | 0=>fun _ _ _ _ _=>none
 | n+1=>b0 k (l0 k n)
def t (k:Nat) (L0:T0) (a0:ByteArray) (a1:Int) (a2:Int):Rs :=
 (L0 a0 a1 a2 0 [])
def f (k:Nat):=t k (l0 k k)
end bZ
namespace eR
abbrev Rs:Type:=Option (Bool × Unit)
abbrev T0:Type:=List (Ty.d aB)→Int→Rs
def b0 (k:Nat) (L0:T0):T0:=fun x0 x1 =>
 (bif (decide (x1<(x0.length:Int))) then
 (bF x1 (x0.length:Int)
 ((cZ.f k (List.getD x0 (Int.toNat x1) (Ty.z aB)).1).bind fun r1 =>
 (bif (!r1.1) then
 (some (false,()))
 else
 ((aS.f k (List.getD x0 (Int.toNat x1) (Ty.z aB)).2.1 1 100000).bind fun r2 =>
 (bif (!r2.1) then
 (some (false,()))
 else
 (bif (decide ((List.getD x0 (Int.toNat x1) (Ty.z aB)).2.2.1<0)) then
 (some (false,()))
 else
 ((aS.f k (List.getD x0 (Int.toNat x1) (Ty.z aB)).2.2.2.1 1 210).bind fun r3 =>
 (bif (!r3.1) then
 (some (false,()))
 else
 ((aS.f k (List.getD x0 (Int.toNat x1) (Ty.z aB)).2.2.2.2.1 1 1000000).bind fun r4 =>
 (bif (!r4.1) then
 (some (false,()))
 else
 (bif (decide (x1 > 0)) then
 (bF (aJ (x1-1)) (x0.length:Int)
 (bif ((mo (List.getD x0 (Int.toNat x1) (Ty.z aB)).1 (List.getD x0 (Int.toNat (aJ (x1-1))) (Ty.z aB)).1)||(seq (List.getD x0 (Int.toNat x1) (Ty.z aB)).1 (List.getD x0 (Int.toNat (aJ (x1-1))) (Ty.z aB)).1)) then
 (some (false,()))
 else
 (L0 x0 (aJ (x1+1)))))
 else
 (L0 x0 (aJ (x1+1))))))))))))))
 else
 (some (true,())))
def l0 (k:Nat):Nat→T0
 | 0=>fun _ _=>none
 | n+1=>b0 k (l0 k n)
def t (k:Nat) (L0:T0) (a0:List (Ty.d aB)):Rs :=
 (bif (decide ((List.length a0:Int) > 20)) then
 (some (false,()))
 else
 (L0 a0 0))
def f (k:Nat):=t k (l0 k k)
end eR
namespace gG
abbrev Rs:Type:=Option (Bool × Unit)
abbrev T0:Type:=Int→Int→Int→List (Ty.d aB)→Rs
def b0 (k:Nat) (L0:T0):T0:=fun x0 x1 x2 x3 =>
 (bif (decide (x0<(x3.length:Int))) then
 (bF x0 (x3.length:Int)
 (bF 0 (x3.length:Int)
 (bif ((List.getD x3 (Int.toNat x0) (Ty.z aB)).2.1 != (List.getD x3 0 (Ty.z aB)).2.1) then
 (some (false,()))
 else
 (bF x0 (x3.length:Int)
 (bif (decide ((List.getD x3 (Int.toNat x0) (Ty.z aB)).2.2.1 > 100000)) then
 (some (false,()))
 else
 (L0 (aJ (x0+1)) x1 x2 x3))))))
 else
 (some (true,())))
def l0 (k:Nat):Nat→T0
 | 0=>fun _ _ _ _=>none
 | n+1=>b0 k (l0 k n)
def t (k:Nat) (L0:T0) (a0:Ty.d gP):Rs :=
 ((aS.f k a0.1 0 100000).bind fun r1 =>
 (bif (!r1.1) then
 (some (false,()))
 else
 ((aS.f k a0.2.1 0 1000000).bind fun r2 =>
 (bif (!r2.1) then
 (some (false,()))
 else
 ((eR.f k a0.2.2.1).bind fun r3 =>
 (bif (!r3.1) then
 (some (false,()))
 else
 (L0 0 a0.1 a0.2.1 a0.2.2.1)))))))
def f (k:Nat):=t k (l0 k k)
end gG
namespace dM
abbrev Rs:Type:=Option (ByteArray × Unit)
abbrev T0:Type:=ByteArray→Int→Int→Int→List (Ty.d aB)→Rs
def b0 (k:Nat) (L0:T0):T0:=fun x0 x1 x2 x3 x4 =>
 (bif (decide (x1<(x4.length:Int))) then
 (bF x1 (x4.length:Int)
 ((bW.f k (ByteArray.size (List.getD x4 (Int.toNat x1) (Ty.z aB)).1:Int)).bind fun r5 =>
 (ke x0 r5.1
 (ke (x0++r5.1) (List.getD x4 (Int.toNat x1) (Ty.z aB)).1
 ((bW.f k (List.getD x4 (Int.toNat x1) (Ty.z aB)).2.1).bind fun r6 =>
 (ke ((x0++r5.1)++(List.getD x4 (Int.toNat x1) (Ty.z aB)).1) r6.1
 ((bW.f k (List.getD x4 (Int.toNat x1) (Ty.z aB)).2.2.1).bind fun r7 =>
 (ke (((x0++r5.1)++(List.getD x4 (Int.toNat x1) (Ty.z aB)).1)++r6.1) r7.1
 ((bW.f k (List.getD x4 (Int.toNat x1) (Ty.z aB)).2.2.2.1).bind fun r8 =>
 (ke ((((x0++r5.1)++(List.getD x4 (Int.toNat x1) (Ty.z aB)).1)++r6.1)++r7.1) r8.1
 ((bW.f k (List.getD x4 (Int.toNat x1) (Ty.z aB)).2.2.2.2.1).bind fun r9 =>
 (ke (((((x0++r5.1)++(List.getD x4 (Int.toNat x1) (Ty.z aB)).1)++r6.1)++r7.1)++r8.1) r9.1
 (L0 ((((((x0++r5.1)++(List.getD x4 (Int.toNat x1) (Ty.z aB)).1)++r6.1)++r7.1)++r8.1)++r9.1) (aJ (x1+1)) x2 x3 x4)))))))))))))
 else
 ((fa.f k x0).bind fun r10 =>
 ((dN.f k r10.1 4).bind fun r11 =>
 (ke r11.1 x0
 (some ((r11.1++x0),()))))))
def l0 (k:Nat):Nat→T0
 | 0=>fun _ _ _ _ _=>none
 | n+1=>b0 k (l0 k n)
def t (k:Nat) (L0:T0) (a0:Ty.d gP):Rs :=
 ((gG.f k a0).bind fun r1 =>
 (bif (!r1.1) then
 (some ((⟨#[]⟩:ByteArray),()))
 else
 ((bW.f k a0.1).bind fun r2 =>
 ((bW.f k a0.2.1).bind fun r3 =>
 (ke r2.1 r3.1
 ((bW.f k (List.length a0.2.2.1:Int)).bind fun r4 =>
 (ke (r2.1++r3.1) r4.1
 (L0 ((r2.1++r3.1)++r4.1) 0 a0.1 a0.2.1 a0.2.2.1))))))))
def f (k:Nat):=t k (l0 k k)
end dM
namespace bJ
abbrev Rs:Type:=Option ((Ty.d gP) × Bool × Unit)
abbrev T0:Type:=ByteArray→Int→Int→List (Ty.d aB)→Int→Int→List Int→List (Ty.d aB)→Int→Int→Rs
def b0 (k:Nat) (L0:T0):T0:=fun x0 x1 x2 x3 x4 x5 x6 x7 x8 x9 =>
 (bF 2 (x6.length:Int)
 (bif (decide (x2<(List.getD x6 2 (Ty.z (.int .i64))))) then
 (pJ x1 (ByteArray.size x0:Int)
 ((cJ.f k (ByteArray.extract x0 (Int.toNat x1) (ByteArray.size x0))).bind fun r2 =>
 ((bZ.f k r2.2.1 0 4).bind fun r3 =>
 (bif (!r2.2.2.1) then
 (some ((0,(0,([],()))),(false,())))
 else
 (bif (decide (r3.2.1<0)) then
 (some ((0,(0,([],()))),(false,())))
 else
 (bF 0 (List.length r3.1:Int)
 (bF 1 (List.length r3.1:Int)
 (bF 2 (List.length r3.1:Int)
 (bF 3 (List.length r3.1:Int)
 (rm (Ty.bytes aB) (List.length x7+1)
 (L0 x0 (aJ ((aJ ((ByteArray.size x0:Int)-(ByteArray.size r2.2.1:Int)))+r3.2.1)) (aJ (x2+1)) x3 x4 x5 x6 (x7++[(r2.1,((List.getD r3.1 0 (Ty.z (.int .i64))),((List.getD r3.1 1 (Ty.z (.int .i64))),((List.getD r3.1 2 (Ty.z (.int .i64))),((List.getD r3.1 3 (Ty.z (.int .i64))),())))))]) x8 x9)))))))))))
 else
 ((dM.f k (x8,(x9,(x7,())))).bind fun r4 =>
 (bif (!(seq r4.1 x0)) then
 (some ((0,(0,([],()))),(false,())))
 else
 (some ((x8,(x9,(x7,()))),(true,())))))))
def l0 (k:Nat):Nat→T0
 | 0=>fun _ _ _ _ _ _ _ _ _ _=>none
 | n+1=>b0 k (l0 k n)
def t (k:Nat) (L0:T0) (a0:ByteArray):Rs :=
 (bif (decide ((ByteArray.size a0:Int)<4)) then
 (some ((0,(0,([],()))),(false,())))
 else
 ((bZ.f k a0 4 3).bind fun r1 =>
 (bif (decide (r1.2.1<0)) then
 (some ((0,(0,([],()))),(false,())))
 else
 (bF 2 (List.length r1.1:Int)
 (bif (decide ((List.getD r1.1 2 (Ty.z (.int .i64))) > 20)) then
 (some ((0,(0,([],()))),(false,())))
 else
 (bF 0 (List.length r1.1:Int)
 (bF 1 (List.length r1.1:Int)
 (L0 a0 r1.2.1 0 [] 0 0 r1.1 [] (List.getD r1.1 0 (Ty.z (.int .i64))) (List.getD r1.1 1 (Ty.z (.int .i64)))))))))))
def f (k:Nat):=t k (l0 k k)
end bJ
namespace fX
abbrev Rs:Type:=Option (Int × Unit)
abbrev T0:Type:=List (Ty.d b7)→ByteArray→Int→Rs
def b0 (k:Nat) (L0:T0):T0:=fun x0 x1 x2 =>
 (bif (decide (x2<(x0.length:Int))) then
 (bF x2 (x0.length:Int)
 ((cC.f k (List.getD x0 (Int.toNat x2) (Ty.z b7))).bind fun r1 =>
 (ke x1 r1.1
 (L0 x0 (x1++r1.1) (aJ (x2+1))))))
 else
 ((fa.f k x1).bind fun r2 =>
 (some r2)))
def l0 (k:Nat):Nat→T0
 | 0=>fun _ _ _=>none
 | n+1=>b0 k (l0 k n)
def t (k:Nat) (L0:T0) (a0:List (Ty.d b7)):Rs :=
 (L0 a0 (⟨#[]⟩:ByteArray) 0)
def f (k:Nat):=t k (l0 k k)
end fX
namespace dU
abbrev Rs:Type:=Option ((Ty.d gP) × Bool × Unit)
abbrev T0:Type:=Int→Int→List (Ty.d aB)→Int→Int→List (Ty.d c_)→List (Ty.d aB)→Int→Int→List (Ty.d b7)→Rs
def b0 (k:Nat) (L0:T0):T0:=fun x0 x1 x2 x3 x4 x5 x6 x7 x8 x9 =>
 (bif (decide ((aJ (x1+1))<(x5.length:Int))) then
 (bF x1 (x5.length:Int)
 (bif ((List.getD x5 (Int.toNat x1) (Ty.z c_)).2.2.1.1 != 4) then
 (some ((0,(0,([],()))),(false,())))
 else
 (bif (decide ((List.getD x5 (Int.toNat x1) (Ty.z c_)).2.2.1.2.1 > x8)) then
 (some ((0,(0,([],()))),(false,())))
 else
 (bif (decide (x1 > 0)) then
 (bF (aJ (x1-1)) (x5.length:Int)
 (bif ((mo (List.getD x5 (Int.toNat x1) (Ty.z c_)).2.2.1.2.2.1 (List.getD x5 (Int.toNat (aJ (x1-1))) (Ty.z c_)).2.2.1.2.2.1)||(seq (List.getD x5 (Int.toNat x1) (Ty.z c_)).2.2.1.2.2.1 (List.getD x5 (Int.toNat (aJ (x1-1))) (Ty.z c_)).2.2.1.2.2.1)) then
 (some ((0,(0,([],()))),(false,())))
 else
 (rm (Ty.bytes b7) (List.length x9+1)
 (bF x1 (x5.length:Int)
 (bF x1 (x5.length:Int)
 (rm (Ty.bytes aB) (List.length x6+1)
 (L0 x0 (aJ (x1+1)) x2 x3 x4 x5 (x6++[((List.getD x5 (Int.toNat x1) (Ty.z c_)).2.2.1.2.2.1,(x0,((List.getD x5 (Int.toNat x1) (Ty.z c_)).1,((List.getD x5 (Int.toNat x1) (Ty.z c_)).2.1,((List.getD x5 (Int.toNat x1) (Ty.z c_)).2.2.1.2.1,())))))]) x7 x8 (x9++[(List.getD x5 (Int.toNat x1) (Ty.z c_)).2.2.1]))))))))
 else
 (rm (Ty.bytes b7) (List.length x9+1)
 (bF x1 (x5.length:Int)
 (bF x1 (x5.length:Int)
 (rm (Ty.bytes aB) (List.length x6+1)
 (L0 x0 (aJ (x1+1)) x2 x3 x4 x5 (x6++[((List.getD x5 (Int.toNat x1) (Ty.z c_)).2.2.1.2.2.1,(x0,((List.getD x5 (Int.toNat x1) (Ty.z c_)).1,((List.getD x5 (Int.toNat x1) (Ty.z c_)).2.1,((List.getD x5 (Int.toNat x1) (Ty.z c_)).2.2.1.2.1,())))))]) x7 x8 (x9++[(List.getD x5 (Int.toNat x1) (Ty.z c_)).2.2.1]))))))))))
 else
 (bF (aJ ((x5.length:Int)-1)) (x5.length:Int)
 (bif ((List.getD x5 (Int.toNat (aJ ((x5.length:Int)-1))) (Ty.z c_)).2.2.1.2.2.2.2.1 != (x9.length:Int)) then
 (some ((0,(0,([],()))),(false,())))
 else
 ((fX.f k x9).bind fun r3 =>
 (bif ((List.getD x5 (Int.toNat (aJ ((x5.length:Int)-1))) (Ty.z c_)).2.2.1.2.2.2.2.2.1 != r3.1) then
 (some ((0,(0,([],()))),(false,())))
 else
 (some ((x7,(x8,(x6,()))),(true,()))))))))
def l0 (k:Nat):Nat→T0
 | 0=>fun _ _ _ _ _ _ _ _ _ _=>none
 | n+1=>b0 k (l0 k n)
def t (k:Nat) (L0:T0) (a0:Int) (a1:ByteArray):Rs :=
 ((bS.f k a1).bind fun r1 =>
 (bif (r1.2.1 != (ByteArray.size a1:Int)) then
 (some ((0,(0,([],()))),(false,())))
 else
 (bif ((List.length r1.1:Int)==0) then
 (some ((0,(0,([],()))),(false,())))
 else
 (bF (aJ ((List.length r1.1:Int)-1)) (List.length r1.1:Int)
 (bif ((List.getD r1.1 (Int.toNat (aJ ((List.length r1.1:Int)-1))) (Ty.z c_)).2.2.1.1 != 5) then
 (some ((0,(0,([],()))),(false,())))
 else
 ((aU.f k a0).bind fun r2 =>
 (bif (seq r2.1 (⟨#[]⟩:ByteArray)) then
 (some ((0,(0,([],()))),(false,())))
 else
 (bF (aJ ((List.length r1.1:Int)-1)) (List.length r1.1:Int)
 (L0 a0 0 [] 0 0 r1.1 [] (ByteArray.size a1:Int) (List.getD r1.1 (Int.toNat (aJ ((List.length r1.1:Int)-1))) (Ty.z c_)).2.2.1.2.1 [])))))))))
def f (k:Nat):=t k (l0 k k)
end dU
namespace eu
abbrev Rs:Type:=Option (Bool × Unit)
abbrev T0:Type:=List (Ty.d aB)→List (Ty.d aB)→Int→Rs
def b0 (k:Nat) (L0:T0):T0:=fun x0 x1 x2 =>
 (bif (decide (x2<(x0.length:Int))) then
 (bF x2 (x0.length:Int)
 (bF x2 (x1.length:Int)
 (bif (!((seq (List.getD x0 (Int.toNat x2) (Ty.z aB)).1 (List.getD x1 (Int.toNat x2) (Ty.z aB)).1)&&(((List.getD x0 (Int.toNat x2) (Ty.z aB)).2.1==(List.getD x1 (Int.toNat x2) (Ty.z aB)).2.1)&&(((List.getD x0 (Int.toNat x2) (Ty.z aB)).2.2.1==(List.getD x1 (Int.toNat x2) (Ty.z aB)).2.2.1)&&(((List.getD x0 (Int.toNat x2) (Ty.z aB)).2.2.2.1==(List.getD x1 (Int.toNat x2) (Ty.z aB)).2.2.2.1)&&((List.getD x0 (Int.toNat x2) (Ty.z aB)).2.2.2.2.1==(List.getD x1 (Int.toNat x2) (Ty.z aB)).2.2.2.2.1)))))) then
 (some (false,()))
 else
 (L0 x0 x1 (aJ (x2+1))))))
 else
 (some (true,())))
def l0 (k:Nat):Nat→T0
 | 0=>fun _ _ _=>none
 | n+1=>b0 k (l0 k n)
def t (k:Nat) (L0:T0) (a0:List (Ty.d aB)) (a1:List (Ty.d aB)):Rs :=
 (bif ((List.length a0:Int) != (List.length a1:Int)) then
 (some (false,()))
 else
 (L0 a0 a1 0))
def f (k:Nat):=t k (l0 k k)
end eu
namespace gK
abbrev Rs:Type:=Option (Bool × Unit)
def t (k:Nat) (a0:Int) (a1:ByteArray) (a2:Ty.d gP):Rs :=
 ((dU.f k a0 a1).bind fun r1 =>
 (bif r1.2.1 then
 (bif (r1.1.1==a2.1) then
 (bif (r1.1.2.1==a2.2.1) then
 ((eu.f k r1.1.2.2.1 a2.2.2.1).bind fun r2 =>
 (some r2))
 else
 (some (false,())))
 else
 (some (false,())))
 else
 (some (false,()))))
def f (k:Nat):=t k
end gK
namespace bX
abbrev Rs:Type:=Option ((List (Ty.d aC)) × Unit)
abbrev T0:Type:=Int→Int→List (Ty.d aC)→List (Ty.d c_)→Rs
def b0 (k:Nat) (L0:T0):T0:=fun x0 x1 x2 x3 =>
 (bif (decide (x1<(x3.length:Int))) then
 (bF x1 (x3.length:Int)
 (bF x1 (x3.length:Int)
 (bF x1 (x3.length:Int)
 (rm (Ty.bytes aC) (List.length x2+1)
 (L0 x0 (aJ (x1+1)) (x2++[(x0,((List.getD x3 (Int.toNat x1) (Ty.z c_)).1,((List.getD x3 (Int.toNat x1) (Ty.z c_)).2.1,(List.getD x3 (Int.toNat x1) (Ty.z c_)).2.2)))]) x3)))))
 else
 (some (x2,())))
def l0 (k:Nat):Nat→T0
 | 0=>fun _ _ _ _=>none
 | n+1=>b0 k (l0 k n)
def t (k:Nat) (L0:T0) (a0:Int) (a1:ByteArray):Rs :=
 ((bS.f k a1).bind fun r1 =>
 (L0 a0 0 [] r1.1))
def f (k:Nat):=t k (l0 k k)
end bX
namespace i7
abbrev Rs:Type:=Option ((List (Ty.d aC)) × Unit)
abbrev T0:Type:=List (Ty.d aC)→Int→Int→Int→List (Ty.d aC)→Rs
def b0 (k:Nat) (L0:T0):T0:=fun x0 x1 x2 x3 x4 =>
 (bif (decide (x3<x1)) then
 (bF x3 (x0.length:Int)
 (bif ((List.getD x0 (Int.toNat x3) (Ty.z aC)).2.2.2.1.2.1==x2) then
 (bif ((List.getD x0 (Int.toNat x3) (Ty.z aC)).2.2.2.1.1==3) then
 (bif ((List.getD x0 (Int.toNat x3) (Ty.z aC)).2.2.2.1.2.1==x2) then
 (bif ((List.getD x0 (Int.toNat x3) (Ty.z aC)).2.2.2.1.1==1) then
 (bF x3 (x0.length:Int)
 (rm (Ty.bytes aC) (0+1)
 (L0 x0 x1 x2 (aJ (x3+1)) ([]++[(List.getD x0 (Int.toNat x3) (Ty.z aC))]))))
 else
 (bif ((List.getD x0 (Int.toNat x3) (Ty.z aC)).2.2.2.1.1==2) then
 (bF x3 (x0.length:Int)
 (rm (Ty.bytes aC) (0+1)
 (L0 x0 x1 x2 (aJ (x3+1)) ([]++[(List.getD x0 (Int.toNat x3) (Ty.z aC))]))))
 else
 (L0 x0 x1 x2 (aJ (x3+1)) [])))
 else
 (L0 x0 x1 x2 (aJ (x3+1)) []))
 else
 (bif ((List.getD x0 (Int.toNat x3) (Ty.z aC)).2.2.2.1.2.1==x2) then
 (bif ((List.getD x0 (Int.toNat x3) (Ty.z aC)).2.2.2.1.1==1) then
 (bF x3 (x0.length:Int)
 (rm (Ty.bytes aC) (List.length x4+1)
 (L0 x0 x1 x2 (aJ (x3+1)) (x4++[(List.getD x0 (Int.toNat x3) (Ty.z aC))]))))
 else
 (bif ((List.getD x0 (Int.toNat x3) (Ty.z aC)).2.2.2.1.1==2) then
 (bF x3 (x0.length:Int)
 (rm (Ty.bytes aC) (List.length x4+1)
 (L0 x0 x1 x2 (aJ (x3+1)) (x4++[(List.getD x0 (Int.toNat x3) (Ty.z aC))]))))
 else
 (L0 x0 x1 x2 (aJ (x3+1)) x4)))
 else
 (L0 x0 x1 x2 (aJ (x3+1)) x4)))
 else
 (bif ((List.getD x0 (Int.toNat x3) (Ty.z aC)).2.2.2.1.2.1==x2) then
 (bif ((List.getD x0 (Int.toNat x3) (Ty.z aC)).2.2.2.1.1==1) then
 (bF x3 (x0.length:Int)
 (rm (Ty.bytes aC) (List.length x4+1)
 (L0 x0 x1 x2 (aJ (x3+1)) (x4++[(List.getD x0 (Int.toNat x3) (Ty.z aC))]))))
 else
 (bif ((List.getD x0 (Int.toNat x3) (Ty.z aC)).2.2.2.1.1==2) then
 (bF x3 (x0.length:Int)
 (rm (Ty.bytes aC) (List.length x4+1)
 (L0 x0 x1 x2 (aJ (x3+1)) (x4++[(List.getD x0 (Int.toNat x3) (Ty.z aC))]))))
 else
 (L0 x0 x1 x2 (aJ (x3+1)) x4)))
 else
 (L0 x0 x1 x2 (aJ (x3+1)) x4))))
 else
 (some (x4,())))
def l0 (k:Nat):Nat→T0
 | 0=>fun _ _ _ _ _=>none
 | n+1=>b0 k (l0 k n)
def t (k:Nat) (L0:T0) (a0:List (Ty.d aC)) (a1:Int) (a2:Int):Rs :=
 (L0 a0 a1 a2 0 [])
def f (k:Nat):=t k (l0 k k)
end i7
namespace fZ
abbrev Rs:Type:=Option ((List (Ty.d b7)) × Unit)
abbrev T0:Type:=List (Ty.d aC)→Int→List (Ty.d b7)→Rs
def b0 (k:Nat) (L0:T0):T0:=fun x0 x1 x2 =>
 (bif (decide (x1<(x0.length:Int))) then
 (bF x1 (x0.length:Int)
 (rm (Ty.bytes b7) (List.length x2+1)
 (L0 x0 (aJ (x1+1)) (x2++[(List.getD x0 (Int.toNat x1) (Ty.z aC)).2.2.2.1]))))
 else
 (some (x2,())))
def l0 (k:Nat):Nat→T0
 | 0=>fun _ _ _=>none
 | n+1=>b0 k (l0 k n)
def t (k:Nat) (L0:T0) (a0:List (Ty.d aC)):Rs :=
 (L0 a0 0 [])
def f (k:Nat):=t k (l0 k k)
end fZ
namespace iX
abbrev Rs:Type:=Option (Bool × Unit)
def t (k:Nat) (a0:Ty.d b7) (a1:List (Ty.d aC)):Rs :=
 (bif (a0.2.2.2.2.1==(List.length a1:Int)) then
 ((fZ.f k a1).bind fun r1 =>
 ((fX.f k r1.1).bind fun r2 =>
 (some ((a0.2.2.2.2.2.1==r2.1),()))))
 else
 (some (false,())))
def f (k:Nat):=t k
end iX
namespace cm
abbrev Rs:Type:=Option ((List (Ty.d aB)) × Unit)
abbrev T0:Type:=List (Ty.d aB)→ByteArray→Int→List (Ty.d aB)→Rs
def b0 (k:Nat) (L0:T0):T0:=fun x0 x1 x2 x3 =>
 (bif (decide (x2<(x0.length:Int))) then
 (bF x2 (x0.length:Int)
 (bif (!(seq (List.getD x0 (Int.toNat x2) (Ty.z aB)).1 x1)) then
 (bF x2 (x0.length:Int)
 (rm (Ty.bytes aB) (List.length x3+1)
 (L0 x0 x1 (aJ (x2+1)) (x3++[(List.getD x0 (Int.toNat x2) (Ty.z aB))]))))
 else
 (L0 x0 x1 (aJ (x2+1)) x3)))
 else
 (some (x3,())))
def l0 (k:Nat):Nat→T0
 | 0=>fun _ _ _ _=>none
 | n+1=>b0 k (l0 k n)
def t (k:Nat) (L0:T0) (a0:List (Ty.d aB)) (a1:ByteArray):Rs :=
 (L0 a0 a1 0 [])
def f (k:Nat):=t k (l0 k k)
end cm
namespace bz
abbrev Rs:Type:=Option ((List (Ty.d aB)) × Unit)
abbrev T0:Type:=List (Ty.d aB)→Bool→Int→ByteArray→Int→Int→Int→Int→List (Ty.d aB)→Rs
def b0 (k:Nat) (L0:T0):T0:=fun x0 x1 x2 x3 x4 x5 x6 x7 x8 =>
 (bif (decide (x2<(x0.length:Int))) then
 (bF x2 (x0.length:Int)
 (bif (seq (List.getD x0 (Int.toNat x2) (Ty.z aB)).1 x3) then
 (L0 x0 x1 (aJ (x2+1)) x3 x4 x5 x6 x7 x8)
 else
 (bif (!x1) then
 (bF x2 (x0.length:Int)
 (bif (!((mo (List.getD x0 (Int.toNat x2) (Ty.z aB)).1 x3)||(seq (List.getD x0 (Int.toNat x2) (Ty.z aB)).1 x3))) then
 (rm (Ty.bytes aB) (List.length x8+1)
 (bF x2 (x0.length:Int)
 (rm (Ty.bytes aB) (List.length (x8++[(x3,(x4,(x5,(x6,(x7,())))))])+1)
 (L0 x0 true (aJ (x2+1)) x3 x4 x5 x6 x7 ((x8++[(x3,(x4,(x5,(x6,(x7,())))))])++[(List.getD x0 (Int.toNat x2) (Ty.z aB))])))))
 else
 (bF x2 (x0.length:Int)
 (rm (Ty.bytes aB) (List.length x8+1)
 (L0 x0 x1 (aJ (x2+1)) x3 x4 x5 x6 x7 (x8++[(List.getD x0 (Int.toNat x2) (Ty.z aB))]))))))
 else
 (bF x2 (x0.length:Int)
 (rm (Ty.bytes aB) (List.length x8+1)
 (L0 x0 x1 (aJ (x2+1)) x3 x4 x5 x6 x7 (x8++[(List.getD x0 (Int.toNat x2) (Ty.z aB))])))))))
 else
 (bif (!x1) then
 (rm (Ty.bytes aB) (List.length x8+1)
 (some ((x8++[(x3,(x4,(x5,(x6,(x7,())))))]),())))
 else
 (some (x8,()))))
def l0 (k:Nat):Nat→T0
 | 0=>fun _ _ _ _ _ _ _ _ _=>none
 | n+1=>b0 k (l0 k n)
def t (k:Nat) (L0:T0) (a0:List (Ty.d aB)) (a1:Ty.d aB):Rs :=
 (L0 a0 false 0 a1.1 a1.2.1 a1.2.2.1 a1.2.2.2.1 a1.2.2.2.2.1 [])
def f (k:Nat):=t k (l0 k k)
end bz
namespace gj
abbrev Rs:Type:=Option ((List (Ty.d aB)) × Unit)
def t (k:Nat) (a0:List (Ty.d aB)) (a1:Ty.d aC):Rs :=
 (bif (a1.2.2.2.1.1==2) then
 ((cm.f k a0 a1.2.2.2.1.2.2.1).bind fun r1 =>
 (some r1))
 else
 ((bz.f k a0 (a1.2.2.2.1.2.2.1,(a1.1,(a1.2.1,(a1.2.2.1,(a1.2.2.2.1.2.1,())))))).bind fun r2 =>
 (some r2)))
def f (k:Nat):=t k
end gj
namespace eT
abbrev Rs:Type:=Option ((List (Ty.d aC)) × Unit)
abbrev T0:Type:=List (Ty.d aC)→Int→Int→List (Ty.d aC)→Rs
def b0 (k:Nat) (L0:T0):T0:=fun x0 x1 x2 x3 =>
 (bif (decide (x2<x1)) then
 (bF x2 (x0.length:Int)
 (bif ((List.getD x0 (Int.toNat x2) (Ty.z aC)).2.2.2.1.1==5) then
 (bF x2 (x0.length:Int)
 (bif ((List.getD x0 (Int.toNat x2) (Ty.z aC)).2.2.2.1.1==4) then
 (bF x2 (x0.length:Int)
 (rm (Ty.bytes aC) (0+1)
 (L0 x0 x1 (aJ (x2+1)) ([]++[(List.getD x0 (Int.toNat x2) (Ty.z aC))]))))
 else
 (L0 x0 x1 (aJ (x2+1)) [])))
 else
 (bF x2 (x0.length:Int)
 (bif ((List.getD x0 (Int.toNat x2) (Ty.z aC)).2.2.2.1.1==4) then
 (bF x2 (x0.length:Int)
 (rm (Ty.bytes aC) (List.length x3+1)
 (L0 x0 x1 (aJ (x2+1)) (x3++[(List.getD x0 (Int.toNat x2) (Ty.z aC))]))))
 else
 (L0 x0 x1 (aJ (x2+1)) x3)))))
 else
 (some (x3,())))
def l0 (k:Nat):Nat→T0
 | 0=>fun _ _ _ _=>none
 | n+1=>b0 k (l0 k n)
def t (k:Nat) (L0:T0) (a0:List (Ty.d aC)) (a1:Int):Rs :=
 (L0 a0 a1 0 [])
def f (k:Nat):=t k (l0 k k)
end eT
namespace cA
abbrev Rs:Type:=Option ((Ty.d fj) × Unit)
abbrev T1:Type:=List (Ty.d aC)→Int→Int→List (Ty.d aB)→Int→Int→List (Ty.d aB)→Int→Int→List (Ty.d aC)→Rs
abbrev T0:Type:=List (Ty.d aC)→Int→List (Ty.d aB)→Int→Int→List (Ty.d aB)→Int→Int→Rs
def b1 (k:Nat) (L0:T0) (L1:T1):T1:=fun x0 x1 x2 x3 x4 x5 x6 x7 x8 x9 =>
 (bif (decide (x2<(x9.length:Int))) then
 (bF x2 (x9.length:Int)
 ((gj.f k x6 (List.getD x9 (Int.toNat x2) (Ty.z aC))).bind fun r3 =>
 (L1 x0 x1 (aJ (x2+1)) x3 x4 x5 r3.1 x7 x8 x9)))
 else
 (bif (decide ((x6.length:Int) > 20)) then
 (L0 x0 (aJ (x1+1)) x3 x4 x5 x6 x7 2)
 else
 (L0 x0 (aJ (x1+1)) x3 x4 x5 x6 x7 x8)))
def l1 (k:Nat) (L0:T0):Nat→T1
 | 0=>fun _ _ _ _ _ _ _ _ _ _=>none
 | n+1=>b1 k L0 (l1 k L0 n)
def b0 (k:Nat) (L1:T1) (L0:T0):T0:=fun x0 x1 x2 x3 x4 x5 x6 x7 =>
 (bif (decide (x1<(x0.length:Int))) then
 (bif (x7==0) then
 (bF x1 (x0.length:Int)
 (bif ((List.getD x0 (Int.toNat x1) (Ty.z aC)).2.2.2.1.1==3) then
 ((i7.f k x0 x1 (List.getD x0 (Int.toNat x1) (Ty.z aC)).2.2.2.1.2.1).bind fun r1 =>
 ((iX.f k (List.getD x0 (Int.toNat x1) (Ty.z aC)).2.2.2.1 r1.1).bind fun r2 =>
 (bif (!r2.1) then
 (L0 x0 (aJ (x1+1)) x2 x3 x4 x5 (if (List.getD x0 (Int.toNat x1) (Ty.z aC)).2.2.2.1.2.1 > x6 then (List.getD x0 (Int.toNat x1) (Ty.z aC)).2.2.2.1.2.1 else x6) x7)
 else
 (L1 x0 x1 0 x2 x3 x4 x5 (if (List.getD x0 (Int.toNat x1) (Ty.z aC)).2.2.2.1.2.1 > x6 then (List.getD x0 (Int.toNat x1) (Ty.z aC)).2.2.2.1.2.1 else x6) x7 r1.1))))
 else
 (bif ((List.getD x0 (Int.toNat x1) (Ty.z aC)).2.2.2.1.1==5) then
 ((eT.f k x0 x1).bind fun r4 =>
 ((iX.f k (List.getD x0 (Int.toNat x1) (Ty.z aC)).2.2.2.1 r4.1).bind fun r5 =>
 (bif (!r5.1) then
 (L0 x0 (aJ (x1+1)) x2 x3 x4 x5 (if (List.getD x0 (Int.toNat x1) (Ty.z aC)).2.2.2.1.2.1 > x6 then (List.getD x0 (Int.toNat x1) (Ty.z aC)).2.2.2.1.2.1 else x6) 1)
 else
 (L1 x0 x1 0 x2 x3 x4 x5 (if (List.getD x0 (Int.toNat x1) (Ty.z aC)).2.2.2.1.2.1 > x6 then (List.getD x0 (Int.toNat x1) (Ty.z aC)).2.2.2.1.2.1 else x6) x7 r4.1))))
 else
 (L0 x0 (aJ (x1+1)) x2 x3 x4 x5 (if (List.getD x0 (Int.toNat x1) (Ty.z aC)).2.2.2.1.2.1 > x6 then (List.getD x0 (Int.toNat x1) (Ty.z aC)).2.2.2.1.2.1 else x6) x7))))
 else
 (bif (x7==0) then
 ((eT.f k x0 (x0.length:Int)).bind fun r6 =>
 (bif (decide ((List.length r6.1:Int) > 0)) then
 (some ((x5,(x6,(1,()))),()))
 else
 (some ((x5,(x6,(x7,()))),()))))
 else
 (some ((x5,(x6,(x7,()))),()))))
 else
 (bif (x7==0) then
 ((eT.f k x0 (x0.length:Int)).bind fun r7 =>
 (bif (decide ((List.length r7.1:Int) > 0)) then
 (some ((x5,(x6,(1,()))),()))
 else
 (some ((x5,(x6,(x7,()))),()))))
 else
 (some ((x5,(x6,(x7,()))),()))))
def l0 (k:Nat):Nat→T0
 | 0=>fun _ _ _ _ _ _ _ _=>none
 | n+1=>b0 k (l1 k (l0 k n) k) (l0 k n)
def t (k:Nat) (L0:T0) (a0:Ty.d fj) (a1:List (Ty.d aC)):Rs :=
 (rm (Ty.bytes aB) (0+List.length a0.1)
 (L0 a1 0 [] 0 0 ([]++a0.1) a0.2.1 a0.2.2.1))
def f (k:Nat):=t k (l0 k k)
end cA
namespace bi
abbrev Rs:Type:=Option ((Ty.d aA) × Int × Unit)
abbrev T0:Type:=Int→List (Ty.d aL)→Int→Int→Bool→List (Ty.d aL)→Int→Int→Bool→List ByteArray→Rs
def b0 (k:Nat) (L0:T0):T0:=fun x0 x1 x2 x3 x4 x5 x6 x7 x8 x9 =>
 (bif (decide (x0<(x9.length:Int))) then
 (bF x0 (x9.length:Int)
 ((g7.f k (x1,(x2,(x3,(x4,())))) (List.getD x9 (Int.toNat x0) (Ty.z .str))).bind fun r2 =>
 (bif (r2.2.1 != 0) then
 ((aV.f k r2.2.1).bind fun r3 =>
 (some (r2.1,r3)))
 else
 (L0 (aJ (x0+1)) r2.1.1 r2.1.2.1 r2.1.2.2.1 r2.1.2.2.2.1 x5 x6 x7 x8 x9))))
 else
 (some ((x1,(x2,(x3,(x4,())))),(0,()))))
def l0 (k:Nat):Nat→T0
 | 0=>fun _ _ _ _ _ _ _ _ _ _=>none
 | n+1=>b0 k (l0 k n)
def t (k:Nat) (L0:T0) (a0:Ty.d aA) (a1:Ty.d cY):Rs :=
 ((bL.f k a0 a1).bind fun r1 =>
 (L0 0 a0.1 a0.2.1 a0.2.2.1 a0.2.2.2.1 [] 0 0 false r1.1))
def f (k:Nat):=t k (l0 k k)
end bi
namespace fy
abbrev Rs:Type:=Option ((Ty.d aE) × (Ty.d aA) × Int × Unit)
def t (k:Nat) (a0:Ty.d aA):Rs :=
 ((bi.f k a0 (0,([],()))).bind fun r1 =>
 (bif (r1.2.1 != 0) then
 (some (((0,([],())),([],(0,(0,(0,()))))),r1))
 else
 ((aU.f k 1).bind fun r2 =>
 ((gU.f k r1.1 r2.1).bind fun r3 =>
 (bif (r3.2.1 != 0) then
 ((aV.f k r3.2.1).bind fun r4 =>
 (some (((0,([],())),([],(0,(0,(0,()))))),(r3.1,r4))))
 else
 ((eC.f k r3.1 (2,([1],()))).bind fun r5 =>
 (bif (r5.2.1 != 0) then
 (some (((0,([],())),([],(0,(0,(0,()))))),r5))
 else
 (some (((2,([1],())),([],(1,(0,(0,()))))),(r5.1,(0,())))))))))))
def f (k:Nat):=t k
end fy
namespace au
abbrev Rs:Type:=Option ((Ty.d aE) × (Ty.d aA) × Int × Unit)
abbrev T1:Type:=Int→List Int→List (Ty.d aB)→Int→Int→Int→Int→List (Ty.d aL)→Int→Int→Bool→List Int→List (Ty.d aB)→Int→Int→Int→Int→List Int→Int→List (Ty.d aL)→Int→Int→Bool→List (Ty.d aB)→Int→Int→Int→Int→List (Ty.d aB)→Int→Int→List (Ty.d aC)→Rs
abbrev T2:Type:=Int→List Int→List (Ty.d aB)→Int→Int→Int→Int→List (Ty.d aL)→Int→Int→Bool→List Int→List (Ty.d aB)→Int→Int→Int→Int→List Int→Int→List (Ty.d aL)→Int→Int→Bool→List (Ty.d aB)→Int→Int→Int→Int→List (Ty.d aB)→Int→Int→List (Ty.d aC)→Rs
abbrev T0:Type:=Int→Int→List (Ty.d aL)→Int→Int→Bool→List Int→List (Ty.d aB)→Int→Int→Int→Int→List (Ty.d aL)→Int→Int→Bool→List Int→List (Ty.d aB)→Int→Int→Int→Int→List Int→Int→Rs
def b1 (k:Nat) (L1:T1):T1:=fun x0 x1 x2 x3 x4 x5 x6 x7 x8 x9 x10 x11 x12 x13 x14 x15 x16 x17 x18 x19 x20 x21 x22 x23 x24 x25 x26 x27 x28 x29 x30 x31 =>
 (bif (decide (x0<(x17.length:Int))) then
 (bF x0 (x17.length:Int)
 ((aU.f k (List.getD x17 (Int.toNat x0) (Ty.z (.int .i64)))).bind fun r23 =>
 ((ba.f k (x19,(x20,(x21,(x22,())))) r23.1).bind fun r24 =>
 (bF x0 (x17.length:Int)
 ((cX.f k (List.getD x17 (Int.toNat x0) (Ty.z (.int .i64)))).bind fun r25 =>
 ((ba.f k (x19,(x20,(x21,(x22,())))) r25.1).bind fun r26 =>
 ((bJ.f k r26.1).bind fun r27 =>
 (bif (x0==0) then
 (bif r26.2.1 then
 (bif r27.2.1 then
 (bF 0 (x17.length:Int)
 ((gK.f k (List.getD x17 0 (Ty.z (.int .i64))) r24.1 r27.1).bind fun r28 =>
 (bif r28.1 then
 (bF 0 (x17.length:Int)
 (L1 (aJ (x0+1)) x1 x2 x3 x4 x5 x6 x7 x8 x9 x10 x11 x12 x13 x14 x15 x16 x17 x18 x19 x20 x21 x22 x23 x24 x25 x26 (List.getD x17 0 (Ty.z (.int .i64))) r27.1.2.2.1 r27.1.2.1 x30 x31))
 else
 (bF x0 (x17.length:Int)
 ((bX.f k (List.getD x17 (Int.toNat x0) (Ty.z (.int .i64))) r24.1).bind fun r29 =>
 (rm (Ty.bytes aC) (List.length x31+List.length r29.1)
 (L1 (aJ (x0+1)) x1 x2 x3 x4 x5 x6 x7 x8 x9 x10 x11 x12 x13 x14 x15 x16 x17 x18 x19 x20 x21 x22 x23 x24 x25 x26 x27 x28 x29 x30 (x31++r29.1))))))))
 else
 (bF x0 (x17.length:Int)
 ((bX.f k (List.getD x17 (Int.toNat x0) (Ty.z (.int .i64))) r24.1).bind fun r30 =>
 (rm (Ty.bytes aC) (List.length x31+List.length r30.1)
 (L1 (aJ (x0+1)) x1 x2 x3 x4 x5 x6 x7 x8 x9 x10 x11 x12 x13 x14 x15 x16 x17 x18 x19 x20 x21 x22 x23 x24 x25 x26 x27 x28 x29 x30 (x31++r30.1))))))
 else
 (bF x0 (x17.length:Int)
 ((bX.f k (List.getD x17 (Int.toNat x0) (Ty.z (.int .i64))) r24.1).bind fun r31 =>
 (rm (Ty.bytes aC) (List.length x31+List.length r31.1)
 (L1 (aJ (x0+1)) x1 x2 x3 x4 x5 x6 x7 x8 x9 x10 x11 x12 x13 x14 x15 x16 x17 x18 x19 x20 x21 x22 x23 x24 x25 x26 x27 x28 x29 x30 (x31++r31.1))))))
 else
 (bF x0 (x17.length:Int)
 ((bX.f k (List.getD x17 (Int.toNat x0) (Ty.z (.int .i64))) r24.1).bind fun r32 =>
 (rm (Ty.bytes aC) (List.length x31+List.length r32.1)
 (L1 (aJ (x0+1)) x1 x2 x3 x4 x5 x6 x7 x8 x9 x10 x11 x12 x13 x14 x15 x16 x17 x18 x19 x20 x21 x22 x23 x24 x25 x26 x27 x28 x29 x30 (x31++r32.1)))))))))))))
 else
 ((cA.f k (x28,(x29,(x30,()))) x31).bind fun r33 =>
 (bif (r33.1.2.2.1 != 0) then
 (some (((x13,(x11,())),(x12,(x14,(x15,(x16,()))))),((x19,(x20,(x21,(x22,())))),(3,()))))
 else
 ((bi.f k (x19,(x20,(x21,(x22,())))) (x18,(x17,()))).bind fun r34 =>
 (bif (r34.2.1 != 0) then
 (some (((x13,(x11,())),(x12,(x14,(x15,(x16,()))))),r34))
 else
 (some (((x24,(x17,())),(r33.1.1,((aJ (r33.1.2.1+1)),(x26,(x27,()))))),(r34.1,(0,())))))))))
def l1 (k:Nat):Nat→T1
 | 0=>fun _ _ _ _ _ _ _ _ _ _ _ _ _ _ _ _ _ _ _ _ _ _ _ _ _ _ _ _ _ _ _ _=>none
 | n+1=>b1 k (l1 k n)
def b2 (k:Nat) (L2:T2):T2:=fun x0 x1 x2 x3 x4 x5 x6 x7 x8 x9 x10 x11 x12 x13 x14 x15 x16 x17 x18 x19 x20 x21 x22 x23 x24 x25 x26 x27 x28 x29 x30 x31 =>
 (bif (decide (x0<(x17.length:Int))) then
 (bF x0 (x17.length:Int)
 ((aU.f k (List.getD x17 (Int.toNat x0) (Ty.z (.int .i64)))).bind fun r38 =>
 ((ba.f k (x19,(x20,(x21,(x22,())))) r38.1).bind fun r39 =>
 (bF x0 (x17.length:Int)
 ((cX.f k (List.getD x17 (Int.toNat x0) (Ty.z (.int .i64)))).bind fun r40 =>
 ((ba.f k (x19,(x20,(x21,(x22,())))) r40.1).bind fun r41 =>
 ((bJ.f k r41.1).bind fun r42 =>
 (bif (x0==0) then
 (bif r41.2.1 then
 (bif r42.2.1 then
 (bF 0 (x17.length:Int)
 ((gK.f k (List.getD x17 0 (Ty.z (.int .i64))) r39.1 r42.1).bind fun r43 =>
 (bif r43.1 then
 (bF 0 (x17.length:Int)
 (L2 (aJ (x0+1)) x1 x2 x3 x4 x5 x6 x7 x8 x9 x10 x11 x12 x13 x14 x15 x16 x17 x18 x19 x20 x21 x22 x23 x24 x25 x26 (List.getD x17 0 (Ty.z (.int .i64))) r42.1.2.2.1 r42.1.2.1 x30 x31))
 else
 (bF x0 (x17.length:Int)
 ((bX.f k (List.getD x17 (Int.toNat x0) (Ty.z (.int .i64))) r39.1).bind fun r44 =>
 (rm (Ty.bytes aC) (List.length x31+List.length r44.1)
 (L2 (aJ (x0+1)) x1 x2 x3 x4 x5 x6 x7 x8 x9 x10 x11 x12 x13 x14 x15 x16 x17 x18 x19 x20 x21 x22 x23 x24 x25 x26 x27 x28 x29 x30 (x31++r44.1))))))))
 else
 (bF x0 (x17.length:Int)
 ((bX.f k (List.getD x17 (Int.toNat x0) (Ty.z (.int .i64))) r39.1).bind fun r45 =>
 (rm (Ty.bytes aC) (List.length x31+List.length r45.1)
 (L2 (aJ (x0+1)) x1 x2 x3 x4 x5 x6 x7 x8 x9 x10 x11 x12 x13 x14 x15 x16 x17 x18 x19 x20 x21 x22 x23 x24 x25 x26 x27 x28 x29 x30 (x31++r45.1))))))
 else
 (bF x0 (x17.length:Int)
 ((bX.f k (List.getD x17 (Int.toNat x0) (Ty.z (.int .i64))) r39.1).bind fun r46 =>
 (rm (Ty.bytes aC) (List.length x31+List.length r46.1)
 (L2 (aJ (x0+1)) x1 x2 x3 x4 x5 x6 x7 x8 x9 x10 x11 x12 x13 x14 x15 x16 x17 x18 x19 x20 x21 x22 x23 x24 x25 x26 x27 x28 x29 x30 (x31++r46.1))))))
 else
 (bF x0 (x17.length:Int)
 ((bX.f k (List.getD x17 (Int.toNat x0) (Ty.z (.int .i64))) r39.1).bind fun r47 =>
 (rm (Ty.bytes aC) (List.length x31+List.length r47.1)
 (L2 (aJ (x0+1)) x1 x2 x3 x4 x5 x6 x7 x8 x9 x10 x11 x12 x13 x14 x15 x16 x17 x18 x19 x20 x21 x22 x23 x24 x25 x26 x27 x28 x29 x30 (x31++r47.1)))))))))))))
 else
 ((cA.f k (x28,(x29,(x30,()))) x31).bind fun r48 =>
 (bif (r48.1.2.2.1 != 0) then
 (some (((x13,(x11,())),(x12,(x14,(x15,(x16,()))))),((x19,(x20,(x21,(x22,())))),(3,()))))
 else
 ((bi.f k (x19,(x20,(x21,(x22,())))) (x18,(x17,()))).bind fun r49 =>
 (bif (r49.2.1 != 0) then
 (some (((x13,(x11,())),(x12,(x14,(x15,(x16,()))))),r49))
 else
 (some (((x24,(x17,())),(r48.1.1,((aJ (r48.1.2.1+1)),(x26,(x27,()))))),(r49.1,(0,())))))))))
def l2 (k:Nat):Nat→T2
 | 0=>fun _ _ _ _ _ _ _ _ _ _ _ _ _ _ _ _ _ _ _ _ _ _ _ _ _ _ _ _ _ _ _ _=>none
 | n+1=>b2 k (l2 k n)
def b0 (k:Nat) (L1:T1) (L2:T2) (L0:T0):T0:=fun x0 x1 x2 x3 x4 x5 x6 x7 x8 x9 x10 x11 x12 x13 x14 x15 x16 x17 x18 x19 x20 x21 x22 x23 =>
 (bif (decide (x1<(x22.length:Int))) then
 (bF x1 (x22.length:Int)
 ((aU.f k (List.getD x22 (Int.toNat x1) (Ty.z (.int .i64)))).bind fun r8 =>
 ((ba.f k (x2,(x3,(x4,(x5,())))) r8.1).bind fun r9 =>
 ((bS.f k r9.1).bind fun r10 =>
 (bif (!r9.2.1) then
 ((bw.f k (x2,(x3,(x4,(x5,()))))).bind fun r11 =>
 (some (((x18,(x16,())),(x17,(x19,(x20,(x21,()))))),(r11.1,(3,())))))
 else
 (bF x1 (x22.length:Int)
 (bif ((List.getD x22 (Int.toNat x1) (Ty.z (.int .i64))) != x0) then
 (bif (decide (r10.2.1<(ByteArray.size r9.1:Int))) then
 ((bw.f k (x2,(x3,(x4,(x5,()))))).bind fun r12 =>
 (some (((x18,(x16,())),(x17,(x19,(x20,(x21,()))))),(r12.1,(3,())))))
 else
 (L0 x0 (aJ (x1+1)) x2 x3 x4 x5 x6 x7 x8 x9 x10 x11 x12 x13 x14 x15 x16 x17 x18 x19 x20 x21 x22 x23))
 else
 (L0 x0 (aJ (x1+1)) x2 x3 x4 x5 x6 x7 x8 x9 x10 x11 x12 x13 x14 x15 x16 x17 x18 x19 x20 x21 x22 x23))))))))
 else
 ((aU.f k x0).bind fun r13 =>
 ((ba.f k (x2,(x3,(x4,(x5,())))) r13.1).bind fun r14 =>
 ((bS.f k r14.1).bind fun r15 =>
 ((bw.f k (x2,(x3,(x4,(x5,()))))).bind fun r16 =>
 (bif (decide (r15.2.1<(ByteArray.size r14.1:Int))) then
 ((aU.f k x0).bind fun r17 =>
 ((hO.f k r16.1 r17.1 r15.2.1).bind fun r18 =>
 (bif (r18.2.1 != 0) then
 ((aV.f k r18.2.1).bind fun r19 =>
 (some (((x18,(x16,())),(x17,(x19,(x20,(x21,()))))),(r18.1,r19))))
 else
 ((aU.f k x0).bind fun r20 =>
 ((dw.f k r18.1 r20.1).bind fun r21 =>
 (bif (r21.2.1 != 0) then
 ((aV.f k r21.2.1).bind fun r22 =>
 (some (((x18,(x16,())),(x17,(x19,(x20,(x21,()))))),(r21.1,r22))))
 else
 (L1 0 x6 x7 x8 x9 x10 x11 x12 x13 x14 x15 x16 x17 x18 x19 x20 x21 x22 x23 r21.1.1 r21.1.2.1 r21.1.2.2.1 r21.1.2.2.2.1 [] x23 0 r15.2.1 0 [] 0 0 [])))))))
 else
 ((aU.f k x0).bind fun r35 =>
 ((dw.f k r16.1 r35.1).bind fun r36 =>
 (bif (r36.2.1 != 0) then
 ((aV.f k r36.2.1).bind fun r37 =>
 (some (((x18,(x16,())),(x17,(x19,(x20,(x21,()))))),(r36.1,r37))))
 else
 (L2 0 x6 x7 x8 x9 x10 x11 x12 x13 x14 x15 x16 x17 x18 x19 x20 x21 x22 x23 r36.1.1 r36.1.2.1 r36.1.2.2.1 r36.1.2.2.2.1 [] x23 0 r15.2.1 0 [] 0 0 []))))))))))
def l0 (k:Nat):Nat→T0
 | 0=>fun _ _ _ _ _ _ _ _ _ _ _ _ _ _ _ _ _ _ _ _ _ _ _ _=>none
 | n+1=>b0 k (l1 k k) (l2 k k) (l0 k n)
def t (k:Nat) (L0:T0) (a0:Ty.d aA):Rs :=
 ((bE.f k a0).bind fun r1 =>
 (bif (!r1.1) then
 ((bw.f k a0).bind fun r2 =>
 (some (((0,([],())),([],(0,(0,(0,()))))),(r2.1,(4,())))))
 else
 (bif a0.2.2.2.1 then
 ((bw.f k a0).bind fun r3 =>
 (some (((0,([],())),([],(0,(0,(0,()))))),(r3.1,(1,())))))
 else
 ((ba.f k a0 (⟨#[108,105,118,101]⟩:ByteArray)).bind fun r4 =>
 (bif (!r4.2.1) then
 ((fy.f k a0).bind fun r5 =>
 (some r5))
 else
 ((bH.f k r4.1).bind fun r6 =>
 (bif (!r6.2.1) then
 ((bw.f k a0).bind fun r7 =>
 (some (((0,([],())),([],(0,(0,(0,()))))),(r7.1,(3,())))))
 else
 (bF (aJ ((List.length r6.1.2.1:Int)-1)) (List.length r6.1.2.1:Int)
 (L0 (List.getD r6.1.2.1 (Int.toNat (aJ ((List.length r6.1.2.1:Int)-1))) (Ty.z (.int .i64))) 0 a0.1 a0.2.1 a0.2.2.1 a0.2.2.2.1 [] [] 0 0 0 0 [] 0 0 false [] [] 0 0 0 0 r6.1.2.1 r6.1.1)))))))))
def f (k:Nat):=t k (l0 k k)
end au
namespace dt
abbrev Rs:Type:=Option ((Ty.d dc) × Int × Unit)
def t (k:Nat) (a0:Ty.d aA):Rs :=
 ((au.f k a0).bind fun r1 =>
 (uy (Ty.bytes du) 3
 (some (((r1.2.2.1==0),(r1.1,(r1.2.1,((List.replicate (Int.toNat 3) (Ty.z du)),())))),r1.2.2))))
def f (k:Nat):=t k
end dt
namespace co
abbrev Rs:Type:=Option ((Ty.d aE) × Unit)
def t (k:Nat) (a0:Ty.d aE):Rs :=
 (rm (Ty.bytes (.int .i64)) (0+List.length a0.1.2.1)
 (rm (Ty.bytes aB) (0+List.length a0.2.1)
 (some (((a0.1.1,(([]++a0.1.2.1),())),(([]++a0.2.1),a0.2.2)),()))))
def f (k:Nat):=t k
end co
namespace eJ
abbrev Rs:Type:=Option ((Ty.d du) × Unit)
def t (k:Nat) (a0:Ty.d du):Rs :=
 (rm (Ty.bytes eh) (0+List.length a0.2.1)
 (rm (Ty.bytes dI) (0+List.length a0.2.2.1)
 (some ((a0.1,(([]++a0.2.1),(([]++a0.2.2.1),()))),()))))
def f (k:Nat):=t k
end eJ
namespace eI
abbrev Rs:Type:=Option ((Ty.d dc) × Unit)
abbrev T0:Type:=Int→List Int→List (Ty.d aB)→List (Ty.d aL)→Bool→Int→Int→Int→Int→Int→Int→Bool→List (Ty.d du)→List Int→List (Ty.d aB)→List (Ty.d aL)→List (Ty.d du)→Bool→Int→Int→Int→Int→Int→Int→Bool→List (Ty.d du)→Rs
def b0 (k:Nat) (L0:T0):T0:=fun x0 x1 x2 x3 x4 x5 x6 x7 x8 x9 x10 x11 x12 x13 x14 x15 x16 x17 x18 x19 x20 x21 x22 x23 x24 x25 =>
 (bif (decide (x0<(x12.length:Int))) then
 (bF x0 (x12.length:Int)
 ((eJ.f k (List.getD x12 (Int.toNat x0) (Ty.z du))).bind fun r3 =>
 (rm (Ty.bytes du) (List.length x25+1)
 (L0 (aJ (x0+1)) x1 x2 x3 x4 x5 x6 x7 x8 x9 x10 x11 x12 x13 x14 x15 x16 x17 x18 x19 x20 x21 x22 x23 x24 (x25++[r3.1])))))
 else
 (some ((x4,(((x5,(x1,())),(x2,(x6,(x7,(x8,()))))),((x3,(x9,(x10,(x11,())))),(x25,())))),())))
def l0 (k:Nat):Nat→T0
 | 0=>fun _ _ _ _ _ _ _ _ _ _ _ _ _ _ _ _ _ _ _ _ _ _ _ _ _ _=>none
 | n+1=>b0 k (l0 k n)
def t (k:Nat) (L0:T0) (a0:Ty.d dc):Rs :=
 ((co.f k a0.2.1).bind fun r1 =>
 ((bw.f k a0.2.2.1).bind fun r2 =>
 (L0 0 r1.1.1.2.1 r1.1.2.1 r2.1.1 a0.1 r1.1.1.1 r1.1.2.2.1 r1.1.2.2.2.1 r1.1.2.2.2.2.1 r2.1.2.1 r2.1.2.2.1 r2.1.2.2.2.1 a0.2.2.2.1 [] [] [] [] false 0 0 0 0 0 0 false [])))
def f (k:Nat):=t k (l0 k k)
end eI
namespace k6
abbrev Rs:Type:=Option (Int × Unit)
def t (k:Nat) (a0:Ty.d aA):Rs :=
 ((bE.f k a0).bind fun r1 =>
 (bif (!r1.1) then
 (some (0,()))
 else
 ((dW.f k a0).bind fun r2 =>
 (some r2))))
def f (k:Nat):=t k
end k6
namespace ic
abbrev Rs:Type:=Option ((Ty.d b7) × Bool × Unit)
def t (k:Nat) (a0:ByteArray) (a1:Int) (a2:Int):Rs :=
 ((aS.f k a1 0 (ByteArray.size a0:Int)).bind fun r1 =>
 (bif (!r1.1) then
 (some ((0,(0,(ByteArray.empty,(ByteArray.empty,(0,(0,())))))),(false,())))
 else
 ((aS.f k a2 1 (aJ ((ByteArray.size a0:Int)-a1))).bind fun r2 =>
 (bif (!r2.1) then
 (some ((0,(0,(ByteArray.empty,(ByteArray.empty,(0,(0,())))))),(false,())))
 else
 (Cb a1 (aJ (a1+a2)) (ByteArray.size a0:Int)
 ((dP.f k (ByteArray.extract a0 (Int.toNat a1) (Int.toNat (aJ (a1+a2))))).bind fun r3 =>
 ((dh.f k r3.1).bind fun r4 =>
 (bif (r3.2.1 != a2) then
 (some ((0,(0,(ByteArray.empty,(ByteArray.empty,(0,(0,())))))),(false,())))
 else
 (bif (!r4.2.1) then
 (some ((0,(0,(ByteArray.empty,(ByteArray.empty,(0,(0,())))))),(false,())))
 else
 (some (r4.1,(true,()))))))))))))
def f (k:Nat):=t k
end ic
namespace cB
abbrev Rs:Type:=Option (Bool × Unit)
abbrev T1:Type:=Int→Int→List Int→List (Ty.d aB)→Int→Int→Int→List (Ty.d aL)→Int→Int→Bool→Rs
abbrev T0:Type:=Int→Int→List Int→List (Ty.d aB)→Int→Int→Int→List (Ty.d aL)→Int→Int→Bool→Rs
def b1 (k:Nat) (L1:T1):T1:=fun x0 x1 x2 x3 x4 x5 x6 x7 x8 x9 x10 =>
 (bif (decide (x0<(x3.length:Int))) then
 (bF x0 (x3.length:Int)
 ((aU.f k (List.getD x3 (Int.toNat x0) (Ty.z aB)).2.1).bind fun r8 =>
 ((ba.f k (x7,(x8,(x9,(x10,())))) r8.1).bind fun r9 =>
 ((ic.f k r9.1 (List.getD x3 (Int.toNat x0) (Ty.z aB)).2.2.1 (List.getD x3 (Int.toNat x0) (Ty.z aB)).2.2.2.1).bind fun r10 =>
 (bif (!r10.2.1) then
 (some (false,()))
 else
 (bif (!(seq r10.1.2.2.1 (List.getD x3 (Int.toNat x0) (Ty.z aB)).1)) then
 (some (false,()))
 else
 (bif (r10.1.2.1 != (List.getD x3 (Int.toNat x0) (Ty.z aB)).2.2.2.2.1) then
 (some (false,()))
 else
 (bif (r10.1.1 != 1) then
 (bif (r10.1.1 != 4) then
 (some (false,()))
 else
 (bif (decide ((List.getD x3 (Int.toNat x0) (Ty.z aB)).2.2.2.2.1≥x4)) then
 (some (false,()))
 else
 (L1 (aJ (x0+1)) x1 x2 x3 x4 x5 x6 x7 x8 x9 x10)))
 else
 (bif (decide ((List.getD x3 (Int.toNat x0) (Ty.z aB)).2.2.2.2.1≥x4)) then
 (some (false,()))
 else
 (L1 (aJ (x0+1)) x1 x2 x3 x4 x5 x6 x7 x8 x9 x10))))))))))
 else
 (some (true,())))
def l1 (k:Nat):Nat→T1
 | 0=>fun _ _ _ _ _ _ _ _ _ _ _=>none
 | n+1=>b1 k (l1 k n)
def b0 (k:Nat) (L1:T1) (L0:T0):T0:=fun x0 x1 x2 x3 x4 x5 x6 x7 x8 x9 x10 =>
 (bif (decide (x0<(x2.length:Int))) then
 (bF x0 (x2.length:Int)
 ((aU.f k (List.getD x2 (Int.toNat x0) (Ty.z (.int .i64)))).bind fun r5 =>
 ((ba.f k (x7,(x8,(x9,(x10,())))) r5.1).bind fun r6 =>
 ((bS.f k r6.1).bind fun r7 =>
 (bif (!r6.2.1) then
 (some (false,()))
 else
 (bif (decide (r7.2.1<(ByteArray.size r6.1:Int))) then
 (some (false,()))
 else
 (bif ((aJ (x0+1))==(x2.length:Int)) then
 (bif (x5 != (ByteArray.size r6.1:Int)) then
 (some (false,()))
 else
 (L0 (aJ (x0+1)) x1 x2 x3 x4 x5 x6 x7 x8 x9 x10))
 else
 (L0 (aJ (x0+1)) x1 x2 x3 x4 x5 x6 x7 x8 x9 x10))))))))
 else
 (L1 0 x1 x2 x3 x4 x5 x6 x7 x8 x9 x10))
def l0 (k:Nat):Nat→T0
 | 0=>fun _ _ _ _ _ _ _ _ _ _ _=>none
 | n+1=>b0 k (l1 k k) (l0 k n)
def t (k:Nat) (L0:T0) (a0:Ty.d aE) (a1:Ty.d aA):Rs :=
 ((bE.f k a1).bind fun r1 =>
 (bif (!r1.1) then
 (some (false,()))
 else
 ((dF.f k a0.1).bind fun r2 =>
 (bif (!r2.1) then
 (some (false,()))
 else
 ((eR.f k a0.2.1).bind fun r3 =>
 (bif (!r3.1) then
 (some (false,()))
 else
 ((aS.f k a0.2.2.1 1 1000001).bind fun r4 =>
 (bif (!r4.1) then
 (some (false,()))
 else
 (L0 0 a0.1.1 a0.1.2.1 a0.2.1 a0.2.2.1 a0.2.2.2.1 a0.2.2.2.2.1 a1.1 a1.2.1 a1.2.2.1 a1.2.2.2.1)))))))))
def f (k:Nat):=t k (l0 k k)
end cB
namespace eU
abbrev Rs:Type:=Option ((Ty.d aB) × Bool × Unit)
abbrev T0:Type:=List (Ty.d aB)→ByteArray→Int→ByteArray→Int→Int→Int→Int→Rs
def b0 (k:Nat) (L0:T0):T0:=fun x0 x1 x2 x3 x4 x5 x6 x7 =>
 (bif (decide (x2<(x0.length:Int))) then
 (bF x2 (x0.length:Int)
 (bif (seq (List.getD x0 (Int.toNat x2) (Ty.z aB)).1 x1) then
 (bF x2 (x0.length:Int)
 (some ((List.getD x0 (Int.toNat x2) (Ty.z aB)),(true,()))))
 else
 (L0 x0 x1 (aJ (x2+1)) x3 x4 x5 x6 x7)))
 else
 (some ((ByteArray.empty,(0,(0,(0,(0,()))))),(false,()))))
def l0 (k:Nat):Nat→T0
 | 0=>fun _ _ _ _ _ _ _ _=>none
 | n+1=>b0 k (l0 k n)
def t (k:Nat) (L0:T0) (a0:List (Ty.d aB)) (a1:ByteArray):Rs :=
 (L0 a0 a1 0 ByteArray.empty 0 0 0 0)
def f (k:Nat):=t k (l0 k k)
end eU
namespace kQ
abbrev Rs:Type:=Option ((Ty.d aL) × Int × Unit)
def t (k:Nat) (a0:Ty.d aE) (a1:Ty.d aA) (a2:ByteArray):Rs :=
 ((eU.f k a0.2.1 a2).bind fun r1 =>
 (bif (!r1.2.1) then
 (some ((ByteArray.empty,(ByteArray.empty,(0,()))),(8,())))
 else
 ((aU.f k r1.1.2.1).bind fun r2 =>
 ((ba.f k a1 r2.1).bind fun r3 =>
 ((ic.f k r3.1 r1.1.2.2.1 r1.1.2.2.2.1).bind fun r4 =>
 (bif (!r3.2.1) then
 (some ((ByteArray.empty,(ByteArray.empty,(0,()))),(3,())))
 else
 (bif (!r4.2.1) then
 (some ((ByteArray.empty,(ByteArray.empty,(0,()))),(3,())))
 else
 (bif (!(seq r4.1.2.2.1 a2)) then
 (some ((ByteArray.empty,(ByteArray.empty,(0,()))),(3,())))
 else
 (bif (r4.1.1 != 1) then
 (bif (r4.1.1 != 4) then
 (some ((ByteArray.empty,(ByteArray.empty,(0,()))),(3,())))
 else
 (some ((a2,(r4.1.2.2.2.1,(r4.1.2.1,()))),(0,()))))
 else
 (some ((a2,(r4.1.2.2.2.1,(r4.1.2.1,()))),(0,()))))))))))))
def f (k:Nat):=t k
end kQ
namespace eO
abbrev Rs:Type:=Option ((List (Ty.d aL)) × Int × Unit)
abbrev T0:Type:=Int→Int→List Int→List (Ty.d aB)→Int→Int→Int→List (Ty.d aL)→Int→Int→Bool→List (Ty.d aL)→Rs
def b0 (k:Nat) (L0:T0):T0:=fun x0 x1 x2 x3 x4 x5 x6 x7 x8 x9 x10 x11 =>
 (bif (decide (x0<(x3.length:Int))) then
 (bF x0 (x3.length:Int)
 ((kQ.f k ((x1,(x2,())),(x3,(x4,(x5,(x6,()))))) (x7,(x8,(x9,(x10,())))) (List.getD x3 (Int.toNat x0) (Ty.z aB)).1).bind fun r1 =>
 (bif (r1.2.1 != 0) then
 (some ([],r1.2))
 else
 (rm (Ty.bytes aL) (List.length x11+1)
 (L0 (aJ (x0+1)) x1 x2 x3 x4 x5 x6 x7 x8 x9 x10 (x11++[r1.1]))))))
 else
 (some (x11,(0,()))))
def l0 (k:Nat):Nat→T0
 | 0=>fun _ _ _ _ _ _ _ _ _ _ _ _=>none
 | n+1=>b0 k (l0 k n)
def t (k:Nat) (L0:T0) (a0:Ty.d aE) (a1:Ty.d aA):Rs :=
 (L0 0 a0.1.1 a0.1.2.1 a0.2.1 a0.2.2.1 a0.2.2.2.1 a0.2.2.2.2.1 a1.1 a1.2.1 a1.2.2.1 a1.2.2.2.1 [])
def f (k:Nat):=t k (l0 k k)
end eO
namespace k9
abbrev Rs:Type:=Option ((Ty.d b7) × Unit)
def t (k:Nat) (a0:Ty.d aL):Rs :=
 (some ((4,(a0.2.2.1,(a0.1,(a0.2.1,(0,(0,())))))),()))
def f (k:Nat):=t k
end k9
namespace gZ
abbrev Rs:Type:=Option ((Ty.d b7) × Unit)
def t (k:Nat) (a0:List (Ty.d b7)) (a1:Int) (a2:Int):Rs :=
 ((fX.f k a0).bind fun r1 =>
 (some ((a2,(a1,(ByteArray.empty,(ByteArray.empty,((List.length a0:Int),r1))))),())))
def f (k:Nat):=t k
end gZ
namespace dT
abbrev Rs:Type:=Option ((Ty.d aA) × (List (Ty.d aB)) × Int × Unit)
abbrev T0:Type:=Int→List (Ty.d aL)→Int→Int→Int→Int→List (Ty.d aL)→Int→Int→Bool→List (Ty.d aB)→List (Ty.d aL)→Int→Int→Bool→List (Ty.d b7)→Rs
def b0 (k:Nat) (L0:T0):T0:=fun x0 x1 x2 x3 x4 x5 x6 x7 x8 x9 x10 x11 x12 x13 x14 x15 =>
 (bif (decide (x5<(x1.length:Int))) then
 (bif (x3==0) then
 (bF x5 (x1.length:Int)
 ((k9.f k (List.getD x1 (Int.toNat x5) (Ty.z aL))).bind fun r3 =>
 ((cC.f k r3.1).bind fun r4 =>
 ((fH.f k r4.1).bind fun r5 =>
 ((aU.f k x0).bind fun r6 =>
 ((dZ.f k (x11,(x12,(x13,(x14,())))) r6.1 r5.1).bind fun r7 =>
 (rm (Ty.bytes b7) (List.length x15+1)
 (rm (Ty.bytes aB) (List.length x10+1)
 (L0 x0 x1 x2 r7.2.1 (aJ (x4+(ByteArray.size r5.1:Int))) (aJ (x5+1)) x6 x7 x8 x9 (x10++[(r3.1.2.2.1,(x0,(x4,((ByteArray.size r5.1:Int),(r3.1.2.1,())))))]) r7.1.1 r7.1.2.1 r7.1.2.2.1 r7.1.2.2.2.1 (x15++[r3.1]))))))))))
 else
 (bif (x3==0) then
 ((aU.f k x0).bind fun r8 =>
 ((gZ.f k x15 x2 5).bind fun r9 =>
 ((cC.f k r9.1).bind fun r10 =>
 ((fH.f k r10.1).bind fun r11 =>
 ((dZ.f k (x11,(x12,(x13,(x14,())))) r8.1 r11.1).bind fun r12 =>
 (bif (r12.2.1==0) then
 ((aU.f k x0).bind fun r13 =>
 ((dw.f k r12.1 r13.1).bind fun r14 =>
 ((aV.f k r14.2.1).bind fun r15 =>
 (some (r14.1,(x10,r15))))))
 else
 ((aV.f k r12.2.1).bind fun r16 =>
 (some (r12.1,(x10,r16))))))))))
 else
 (bif (x3==0) then
 ((aU.f k x0).bind fun r17 =>
 ((dw.f k (x11,(x12,(x13,(x14,())))) r17.1).bind fun r18 =>
 ((aV.f k r18.2.1).bind fun r19 =>
 (some (r18.1,(x10,r19))))))
 else
 ((aV.f k x3).bind fun r20 =>
 (some ((x11,(x12,(x13,(x14,())))),(x10,r20)))))))
 else
 (bif (x3==0) then
 ((aU.f k x0).bind fun r21 =>
 ((gZ.f k x15 x2 5).bind fun r22 =>
 ((cC.f k r22.1).bind fun r23 =>
 ((fH.f k r23.1).bind fun r24 =>
 ((dZ.f k (x11,(x12,(x13,(x14,())))) r21.1 r24.1).bind fun r25 =>
 (bif (r25.2.1==0) then
 ((aU.f k x0).bind fun r26 =>
 ((dw.f k r25.1 r26.1).bind fun r27 =>
 ((aV.f k r27.2.1).bind fun r28 =>
 (some (r27.1,(x10,r28))))))
 else
 ((aV.f k r25.2.1).bind fun r29 =>
 (some (r25.1,(x10,r29))))))))))
 else
 (bif (x3==0) then
 ((aU.f k x0).bind fun r30 =>
 ((dw.f k (x11,(x12,(x13,(x14,())))) r30.1).bind fun r31 =>
 ((aV.f k r31.2.1).bind fun r32 =>
 (some (r31.1,(x10,r32))))))
 else
 ((aV.f k x3).bind fun r33 =>
 (some ((x11,(x12,(x13,(x14,())))),(x10,r33)))))))
def l0 (k:Nat):Nat→T0
 | 0=>fun _ _ _ _ _ _ _ _ _ _ _ _ _ _ _ _=>none
 | n+1=>b0 k (l0 k n)
def t (k:Nat) (L0:T0) (a0:Ty.d aA) (a1:Int) (a2:List (Ty.d aL)) (a3:Int):Rs :=
 ((aU.f k a1).bind fun r1 =>
 ((dS.f k a0 r1.1).bind fun r2 =>
 (L0 a1 a2 a3 r2.2.1 0 0 [] 0 0 false [] r2.1.1 r2.1.2.1 r2.1.2.2.1 r2.1.2.2.2.1 [])))
def f (k:Nat):=t k (l0 k k)
end dT
namespace br
abbrev Rs:Type:=Option ((Ty.d aA) × Int × Unit)
abbrev T0:Type:=List ByteArray→Int→List (Ty.d aL)→Int→Int→Bool→List (Ty.d aL)→Int→Int→Bool→Rs
def b0 (k:Nat) (L0:T0):T0:=fun x0 x1 x2 x3 x4 x5 x6 x7 x8 x9 =>
 (bif (decide (x1<(x0.length:Int))) then
 (bF x1 (x0.length:Int)
 ((b_.f k (x2,(x3,(x4,(x5,())))) (List.getD x0 (Int.toNat x1) (Ty.z .str))).bind fun r1 =>
 (bif (decide (r1.1<0)) then
 (L0 x0 (aJ (x1+1)) x2 x3 x4 x5 x6 x7 x8 x9)
 else
 (bF x1 (x0.length:Int)
 ((g7.f k (x2,(x3,(x4,(x5,())))) (List.getD x0 (Int.toNat x1) (Ty.z .str))).bind fun r2 =>
 (bif (r2.2.1 != 0) then
 (some r2)
 else
 (L0 x0 (aJ (x1+1)) r2.1.1 r2.1.2.1 r2.1.2.2.1 r2.1.2.2.2.1 x6 x7 x8 x9)))))))
 else
 (some ((x2,(x3,(x4,(x5,())))),(0,()))))
def l0 (k:Nat):Nat→T0
 | 0=>fun _ _ _ _ _ _ _ _ _ _=>none
 | n+1=>b0 k (l0 k n)
def t (k:Nat) (L0:T0) (a0:Ty.d aA) (a1:List ByteArray):Rs :=
 (L0 a1 0 a0.1 a0.2.1 a0.2.2.1 a0.2.2.2.1 [] 0 0 false)
def f (k:Nat):=t k (l0 k k)
end br
namespace dR
abbrev Rs:Type:=Option ((Ty.d aE) × (Ty.d aA) × Int × Unit)
def t (k:Nat) (a0:Ty.d aE) (a1:Ty.d aA) (a2:Int) (a3:Int):Rs :=
 (bif (a3 != 2) then
 (some (a0,(a1,(a3,()))))
 else
 ((aU.f k a2).bind fun r1 =>
 ((aU.f k (aJ (a2+1))).bind fun r2 =>
 ((cX.f k a2).bind fun r3 =>
 ((br.f k a1 [(⟨#[116,101,109,112]⟩:ByteArray),r1.1,r2.1,r3.1]).bind fun r4 =>
 (bif (r4.2.1 != 0) then
 ((aV.f k r4.2.1).bind fun r5 =>
 (some (a0,(r4.1,r5))))
 else
 (some (a0,(r4.1,(a3,()))))))))))
def f (k:Nat):=t k
end dR
namespace bj
abbrev Rs:Type:=Option ((Ty.d aE) × (Ty.d aA) × Int × Unit)
abbrev T0:Type:=Int→List Int→List (Ty.d aB)→Int→Int→Int→Int→List Int→List (Ty.d aB)→Int→Int→Int→Int→List (Ty.d aL)→Int→Int→Bool→List (Ty.d aL)→Int→Int→Bool→List Int→Rs
def b0 (k:Nat) (L0:T0):T0:=fun x0 x1 x2 x3 x4 x5 x6 x7 x8 x9 x10 x11 x12 x13 x14 x15 x16 x17 x18 x19 x20 x21 =>
 (bif (decide (x0<(x21.length:Int))) then
 (bF x0 (x21.length:Int)
 ((aU.f k (List.getD x21 (Int.toNat x0) (Ty.z (.int .i64)))).bind fun r18 =>
 (bF x0 (x21.length:Int)
 ((cX.f k (List.getD x21 (Int.toNat x0) (Ty.z (.int .i64)))).bind fun r19 =>
 ((br.f k (x17,(x18,(x19,(x20,())))) [r18.1,r19.1]).bind fun r20 =>
 (bif (r20.2.1 != 0) then
 ((aV.f k r20.2.1).bind fun r21 =>
 (some (((x3,(x1,())),(x2,(x4,(x5,(x6,()))))),(r20.1,r21))))
 else
 (L0 (aJ (x0+1)) x1 x2 x3 x4 x5 x6 x7 x8 x9 x10 x11 x12 x13 x14 x15 x16 r20.1.1 r20.1.2.1 r20.1.2.2.1 r20.1.2.2.2.1 x21)))))))
 else
 (some (((x3,(x1,())),(x2,(x4,(x5,(x6,()))))),((x17,(x18,(x19,(x20,())))),(0,())))))
def l0 (k:Nat):Nat→T0
 | 0=>fun _ _ _ _ _ _ _ _ _ _ _ _ _ _ _ _ _ _ _ _ _ _=>none
 | n+1=>b0 k (l0 k n)
def t (k:Nat) (L0:T0) (a0:Ty.d aE) (a1:Ty.d aA) (a2:List (Ty.d aL)):Rs :=
 ((dT.f k a1 a0.1.1 a2 (aJ (a0.2.2.1-1))).bind fun r1 =>
 (bif (r1.2.2.1 != 0) then
 ((dR.f k (((aJ (a0.1.1+2)),a0.1.2),a0.2) r1.1 a0.1.1 r1.2.2.1).bind fun r2 =>
 (some r2))
 else
 ((aU.f k (aJ (a0.1.1+1))).bind fun r3 =>
 ((dS.f k r1.1 r3.1).bind fun r4 =>
 (bif (r4.2.1 != 0) then
 ((aV.f k r4.2.1).bind fun r5 =>
 ((dR.f k (((aJ (a0.1.1+2)),a0.1.2),a0.2) r4.1 a0.1.1 r5.1).bind fun r6 =>
 (some r6)))
 else
 ((aU.f k a0.1.1).bind fun r7 =>
 ((ba.f k r4.1 r7.1).bind fun r8 =>
 ((dU.f k a0.1.1 r8.1).bind fun r9 =>
 ((cX.f k a0.1.1).bind fun r10 =>
 ((dM.f k r9.1).bind fun r11 =>
 ((gL.f k r4.1 r10.1 r11.1).bind fun r12 =>
 (bif (r12.2.1==2) then
 ((cX.f k a0.1.1).bind fun r13 =>
 ((br.f k r12.1 [r13.1]).bind fun r14 =>
 (bif (r14.2.1 != 0) then
 ((aV.f k r14.2.1).bind fun r15 =>
 (some ((((aJ (a0.1.1+2)),a0.1.2),a0.2),(r14.1,r15))))
 else
 (rm (Ty.bytes (.int .i64)) (0+List.length a0.1.2.1)
 ((eC.f k r14.1 ((aJ (a0.1.1+2)),([a0.1.1,(aJ (a0.1.1+1))],()))).bind fun r16 =>
 (bif (r16.2.1 != 0) then
 ((dR.f k (((aJ (a0.1.1+2)),a0.1.2),a0.2) r16.1 a0.1.1 r16.2.1).bind fun r17 =>
 (some r17))
 else
 (L0 0 [a0.1.1,(aJ (a0.1.1+1))] r1.2.1 (aJ (a0.1.1+2)) a0.2.2.1 0 0 [] [] 0 0 0 0 [] 0 0 false r16.1.1 r16.1.2.1 r16.1.2.2.1 r16.1.2.2.2.1 ([]++a0.1.2.1))))))))
 else
 (bif (r12.2.1 != 0) then
 ((aV.f k r12.2.1).bind fun r22 =>
 (some ((((aJ (a0.1.1+2)),a0.1.2),a0.2),(r12.1,r22))))
 else
 (rm (Ty.bytes (.int .i64)) (0+List.length a0.1.2.1)
 ((eC.f k r12.1 ((aJ (a0.1.1+2)),([a0.1.1,(aJ (a0.1.1+1))],()))).bind fun r23 =>
 (bif (r23.2.1 != 0) then
 ((dR.f k (((aJ (a0.1.1+2)),a0.1.2),a0.2) r23.1 a0.1.1 r23.2.1).bind fun r24 =>
 (some r24))
 else
 (L0 0 [a0.1.1,(aJ (a0.1.1+1))] r1.2.1 (aJ (a0.1.1+2)) a0.2.2.1 0 0 [] [] 0 0 0 0 [] 0 0 false r23.1.1 r23.1.2.1 r23.1.2.2.1 r23.1.2.2.2.1 ([]++a0.1.2.1))))))))))))))))))
def f (k:Nat):=t k (l0 k k)
end bj
namespace jm
abbrev Rs:Type:=Option ((Ty.d aE) × (Ty.d aA) × Int × Unit)
def t (k:Nat) (a0:Ty.d aE) (a1:Ty.d aA):Rs :=
 ((co.f k a0).bind fun r1 =>
 ((bw.f k a1).bind fun r2 =>
 ((cB.f k a0 a1).bind fun r3 =>
 (bif (!r3.1) then
 (some (r1.1,(r2.1,(4,()))))
 else
 (bif (decide ((aJ (a0.1.1+2)) > 100000)) then
 (some (r1.1,(r2.1,(5,()))))
 else
 ((eO.f k a0 a1).bind fun r4 =>
 (bif (r4.2.1 != 0) then
 (some (r1.1,(r2.1,r4.2)))
 else
 ((bj.f k r1.1 r2.1 r4.1).bind fun r5 =>
 (some r5)))))))))
def f (k:Nat):=t k
end jm
namespace ez
abbrev Rs:Type:=Option ((List ByteArray) × Unit)
abbrev T0:Type:=List (Ty.d aB)→Int→List ByteArray→Rs
def b0 (k:Nat) (L0:T0):T0:=fun x0 x1 x2 =>
 (bif (decide (x1<(x0.length:Int))) then
 (bF x1 (x0.length:Int)
 (rm (Ty.bytes .str) (List.length x2+1)
 (L0 x0 (aJ (x1+1)) (x2++[(List.getD x0 (Int.toNat x1) (Ty.z aB)).1]))))
 else
 (some (x2,())))
def l0 (k:Nat):Nat→T0
 | 0=>fun _ _ _=>none
 | n+1=>b0 k (l0 k n)
def t (k:Nat) (L0:T0) (a0:List (Ty.d aB)):Rs :=
 (L0 a0 0 [])
def f (k:Nat):=t k (l0 k k)
end ez
namespace dL
abbrev Rs:Type:=Option ((Ty.d dI) × Bool × Unit)
abbrev T0:Type:=ByteArray→Int→Bool→List (Ty.d eh)→List (Ty.d dI)→ByteArray→Bool→ByteArray→Rs
def b0 (k:Nat) (L0:T0):T0:=fun x0 x1 x2 x3 x4 x5 x6 x7 =>
 (bif (decide (x1≥0)) then
 (bF x1 (x4.length:Int)
 (bif (seq (List.getD x4 (Int.toNat x1) (Ty.z dI)).1 x0) then
 (bF x1 (x4.length:Int)
 (some ((List.getD x4 (Int.toNat x1) (Ty.z dI)),(true,()))))
 else
 (L0 x0 (aJ (x1-1)) x2 x3 x4 x5 x6 x7)))
 else
 (some ((ByteArray.empty,(false,(ByteArray.empty,()))),(false,()))))
def l0 (k:Nat):Nat→T0
 | 0=>fun _ _ _ _ _ _ _ _=>none
 | n+1=>b0 k (l0 k n)
def t (k:Nat) (L0:T0) (a0:Ty.d du) (a1:ByteArray):Rs :=
 (L0 a1 (aJ ((List.length a0.2.2.1:Int)-1)) a0.1 a0.2.1 a0.2.2.1 ByteArray.empty false ByteArray.empty)
def f (k:Nat):=t k (l0 k k)
end dL
namespace fB
abbrev Rs:Type:=Option ((Ty.d du) × Int × Unit)
abbrev T0:Type:=ByteArray→Int→Int→Bool→List (Ty.d eh)→List (Ty.d dI)→List (Ty.d eh)→List (Ty.d dI)→Bool→List (Ty.d eh)→List (Ty.d dI)→Bool→Rs
def b0 (k:Nat) (L0:T0):T0:=fun x0 x1 x2 x3 x4 x5 x6 x7 x8 x9 x10 x11 =>
 (bif (decide (x2<(x4.length:Int))) then
 (bF x2 (x4.length:Int)
 (bif (seq (List.getD x4 (Int.toNat x2) (Ty.z eh)).1 x0) then
 (bF x2 (x4.length:Int)
 (bif ((List.getD x4 (Int.toNat x2) (Ty.z eh)).2.1 != x1) then
 (some ((x11,(x9,(x10,()))),(7,())))
 else
 (some ((x11,(x9,(x10,()))),(0,())))))
 else
 (L0 x0 x1 (aJ (x2+1)) x3 x4 x5 x6 x7 x8 x9 x10 x11)))
 else
 (bif (decide ((x4.length:Int)≥20)) then
 (some ((x11,(x9,(x10,()))),(5,())))
 else
 (rm (Ty.bytes eh) (List.length x9+1)
 (some ((x11,((x9++[(x0,(x1,()))]),(x10,()))),(0,()))))))
def l0 (k:Nat):Nat→T0
 | 0=>fun _ _ _ _ _ _ _ _ _ _ _ _=>none
 | n+1=>b0 k (l0 k n)
def t (k:Nat) (L0:T0) (a0:Ty.d du) (a1:ByteArray) (a2:Int):Rs :=
 ((eJ.f k a0).bind fun r1 =>
 (bif (!a0.1) then
 (some (r1.1,(4,())))
 else
 ((cZ.f k a1).bind fun r2 =>
 (bif (!r2.1) then
 (some (r1.1,(4,())))
 else
 (L0 a1 a2 0 a0.1 a0.2.1 a0.2.2.1 [] [] false r1.1.2.1 r1.1.2.2.1 r1.1.1)))))
def f (k:Nat):=t k (l0 k k)
end fB
namespace eo
abbrev Rs:Type:=Option ((Ty.d dc) × (Ty.d qZ) × Unit)
def t (k:Nat) (a0:Ty.d dc) (a1:Ty.d bg):Rs :=
 (bF a1.2.1 (List.length a0.2.2.2.1:Int)
 ((cZ.f k a1.2.2.1).bind fun r1 =>
 (bif (!r1.1) then
 (some (a0,((4,(ByteArray.empty,([],()))),())))
 else
 ((dL.f k (List.getD a0.2.2.2.1 (Int.toNat a1.2.1) (Ty.z du)) a1.2.2.1).bind fun r2 =>
 (bif r2.2.1 then
 (bif r2.1.2.1 then
 (some (a0,((8,(ByteArray.empty,([],()))),())))
 else
 (some (a0,((0,(r2.1.2.2.1,([],()))),()))))
 else
 ((kQ.f k a0.2.1 a0.2.2.1 a1.2.2.1).bind fun r3 =>
 (bif (r3.2.1==3) then
 (some (a0,((r3.2.1,(ByteArray.empty,([],()))),())))
 else
 ((fB.f k (List.getD a0.2.2.2.1 (Int.toNat a1.2.1) (Ty.z du)) a1.2.2.1 r3.1.2.2.1).bind fun r4 =>
 (bif (r4.2.1 != 0) then
 (some (a0,((r4.2.1,(ByteArray.empty,([],()))),())))
 else
 (bF a1.2.1 (List.length a0.2.2.2.1:Int)
 (let l5:=(List.set a0.2.2.2.1 (Int.toNat a1.2.1) r4.1);
 (some ((a0.1,(a0.2.1,(a0.2.2.1,(l5,())))),((r3.2.1,(r3.1.2.1,([],()))),()))))))))))))))
def f (k:Nat):=t k
end eo
namespace gE
abbrev Rs:Type:=Option (Bool × Unit)
abbrev T0:Type:=List (Ty.d aB)→Int→Bool→List (Ty.d eh)→List (Ty.d dI)→Rs
def b0 (k:Nat) (L0:T0):T0:=fun x0 x1 x2 x3 x4 =>
 (bif (decide (x1<(x3.length:Int))) then
 (bF x1 (x3.length:Int)
 ((eU.f k x0 (List.getD x3 (Int.toNat x1) (Ty.z eh)).1).bind fun r1 =>
 (bF x1 (x3.length:Int)
 (bif (r1.1.2.2.2.2.1 != (List.getD x3 (Int.toNat x1) (Ty.z eh)).2.1) then
 (some (false,()))
 else
 (L0 x0 (aJ (x1+1)) x2 x3 x4)))))
 else
 (some (true,())))
def l0 (k:Nat):Nat→T0
 | 0=>fun _ _ _ _ _=>none
 | n+1=>b0 k (l0 k n)
def t (k:Nat) (L0:T0) (a0:Ty.d du) (a1:List (Ty.d aB)):Rs :=
 (L0 a1 0 a0.1 a0.2.1 a0.2.2.1)
def f (k:Nat):=t k (l0 k k)
end gE
namespace bI
abbrev Rs:Type:=Option ((List (Ty.d dI)) × Unit)
abbrev T1:Type:=Int→Bool→Int→Bool→List (Ty.d eh)→List (Ty.d dI)→List (Ty.d dI)→Rs
abbrev T0:Type:=Int→Bool→List (Ty.d eh)→List (Ty.d dI)→List (Ty.d dI)→Rs
def b1 (k:Nat) (L0:T0) (L1:T1):T1:=fun x0 x1 x2 x3 x4 x5 x6 =>
 (bif (decide (x2<x0)) then
 (bif x1 then
 (bF x2 (x5.length:Int)
 (bF x0 (x5.length:Int)
 (L1 x0 (!(seq (List.getD x5 (Int.toNat x2) (Ty.z dI)).1 (List.getD x5 (Int.toNat x0) (Ty.z dI)).1)) (aJ (x2+1)) x3 x4 x5 x6)))
 else
 (L1 x0 false (aJ (x2+1)) x3 x4 x5 x6))
 else
 (bif x1 then
 (bF x0 (x5.length:Int)
 ((dL.f k (x3,(x4,(x5,()))) (List.getD x5 (Int.toNat x0) (Ty.z dI)).1).bind fun r1 =>
 (rm (Ty.bytes dI) (List.length x6+1)
 (L0 (aJ (x0+1)) x3 x4 x5 (x6++[r1.1])))))
 else
 (L0 (aJ (x0+1)) x3 x4 x5 x6)))
def l1 (k:Nat) (L0:T0):Nat→T1
 | 0=>fun _ _ _ _ _ _ _=>none
 | n+1=>b1 k L0 (l1 k L0 n)
def b0 (k:Nat) (L1:T1) (L0:T0):T0:=fun x0 x1 x2 x3 x4 =>
 (bif (decide (x0<(x3.length:Int))) then
 (L1 x0 true 0 x1 x2 x3 x4)
 else
 (some (x4,())))
def l0 (k:Nat):Nat→T0
 | 0=>fun _ _ _ _ _=>none
 | n+1=>b0 k (l1 k (l0 k n) k) (l0 k n)
def t (k:Nat) (L0:T0) (a0:Ty.d du):Rs :=
 (L0 0 a0.1 a0.2.1 a0.2.2.1 [])
def f (k:Nat):=t k (l0 k k)
end bI
namespace cF
abbrev Rs:Type:=Option (Bool × Unit)
abbrev T0:Type:=List (Ty.d dI)→Int→Rs
def b0 (k:Nat) (L0:T0):T0:=fun x0 x1 =>
 (bif (decide (x1<(x0.length:Int))) then
 (bF x1 (x0.length:Int)
 ((cZ.f k (List.getD x0 (Int.toNat x1) (Ty.z dI)).1).bind fun r1 =>
 (bif (!r1.1) then
 (some (false,()))
 else
 (bF x1 (x0.length:Int)
 (bif (decide ((ByteArray.size (List.getD x0 (Int.toNat x1) (Ty.z dI)).2.2.1:Int) > 24)) then
 (some (false,()))
 else
 (bF x1 (x0.length:Int)
 (bif (List.getD x0 (Int.toNat x1) (Ty.z dI)).2.1 then
 (bF x1 (x0.length:Int)
 (bif (!(seq (List.getD x0 (Int.toNat x1) (Ty.z dI)).2.2.1 (⟨#[]⟩:ByteArray))) then
 (some (false,()))
 else
 (L0 x0 (aJ (x1+1)))))
 else
 (L0 x0 (aJ (x1+1))))))))))
 else
 (some (true,())))
def l0 (k:Nat):Nat→T0
 | 0=>fun _ _=>none
 | n+1=>b0 k (l0 k n)
def t (k:Nat) (L0:T0) (a0:List (Ty.d dI)):Rs :=
 (bif (decide ((List.length a0:Int) > 8)) then
 (some (false,()))
 else
 (L0 a0 0))
def f (k:Nat):=t k (l0 k k)
end cF
namespace d6
abbrev Rs:Type:=Option (Int × Unit)
abbrev T1:Type:=List (Ty.d dI)→Int→List (Ty.d aB)→Rs
abbrev T0:Type:=List (Ty.d aB)→List (Ty.d dI)→Int→Rs
def b1 (k:Nat) (L1:T1):T1:=fun x0 x1 x2 =>
 (bif (decide (x1<(x0.length:Int))) then
 (bF x1 (x0.length:Int)
 (bif (List.getD x0 (Int.toNat x1) (Ty.z dI)).2.1 then
 (bF x1 (x0.length:Int)
 ((cm.f k x2 (List.getD x0 (Int.toNat x1) (Ty.z dI)).1).bind fun r2 =>
 (L1 x0 (aJ (x1+1)) r2.1)))
 else
 (bF x1 (x0.length:Int)
 ((bz.f k x2 ((List.getD x0 (Int.toNat x1) (Ty.z dI)).1,(0,(0,(0,(0,())))))).bind fun r3 =>
 (L1 x0 (aJ (x1+1)) r3.1)))))
 else
 (some ((x2.length:Int),())))
def l1 (k:Nat):Nat→T1
 | 0=>fun _ _ _=>none
 | n+1=>b1 k (l1 k n)
def b0 (k:Nat) (L1:T1):T0:=fun x0 x1 x2 =>
 (bif (decide (x2<(x1.length:Int))) then
 (bF x2 (x1.length:Int)
 (bif (List.getD x1 (Int.toNat x2) (Ty.z dI)).2.1 then
 (bF x2 (x1.length:Int)
 ((cm.f k x0 (List.getD x1 (Int.toNat x2) (Ty.z dI)).1).bind fun r1 =>
 (L1 x1 (aJ (x2+1)) r1.1)))
 else
 (bF x2 (x1.length:Int)
 ((bz.f k x0 ((List.getD x1 (Int.toNat x2) (Ty.z dI)).1,(0,(0,(0,(0,())))))).bind fun r4 =>
 (L1 x1 (aJ (x2+1)) r4.1)))))
 else
 (some ((x0.length:Int),())))
def l0 (k:Nat):Nat→T0
 | 0=>fun _ _ _=>none
 | n+1=>b0 k (l1 k n)
def t (k:Nat) (L0:T0) (a0:List (Ty.d aB)) (a1:List (Ty.d dI)):Rs :=
 (L0 a0 a1 0)
def f (k:Nat):=t k (l0 k k)
end d6
namespace ck
abbrev Rs:Type:=Option (ByteArray × Unit)
def t (k:Nat) (a0:Ty.d aE):Rs :=
 (bF (aJ ((List.length a0.1.2.1:Int)-1)) (List.length a0.1.2.1:Int)
 ((aU.f k (List.getD a0.1.2.1 (Int.toNat (aJ ((List.length a0.1.2.1:Int)-1))) (Ty.z (.int .i64)))).bind fun r1 =>
 (some r1)))
def f (k:Nat):=t k
end ck
namespace fK
abbrev Rs:Type:=Option ((Ty.d aE) × (Ty.d aA) × Int × Unit)
def t (k:Nat) (a0:Ty.d aE) (a1:Ty.d aA):Rs :=
 (bif (decide ((List.length a0.1.2.1:Int)≥60)) then
 (some (a0,(a1,(5,()))))
 else
 (bif (decide (a0.1.1≥100000)) then
 (some (a0,(a1,(5,()))))
 else
 ((ck.f k a0).bind fun r1 =>
 ((dw.f k a1 r1.1).bind fun r2 =>
 (bif (r2.2.1 != 0) then
 ((aV.f k r2.2.1).bind fun r3 =>
 (some (a0,(r2.1,r3))))
 else
 ((aU.f k a0.1.1).bind fun r4 =>
 ((dS.f k r2.1 r4.1).bind fun r5 =>
 (bif (r5.2.1 != 0) then
 ((aV.f k r5.2.1).bind fun r6 =>
 (some ((((aJ (a0.1.1+1)),a0.1.2),a0.2),(r5.1,r6))))
 else
 (rm (Ty.bytes (.int .i64)) (0+List.length a0.1.2.1)
 (rm (Ty.bytes (.int .i64)) (List.length ([]++a0.1.2.1)+1)
 ((eC.f k r5.1 ((aJ (a0.1.1+1)),((([]++a0.1.2.1)++[a0.1.1]),()))).bind fun r7 =>
 (bif (r7.2.1==2) then
 ((aU.f k a0.1.1).bind fun r8 =>
 ((br.f k r7.1 [(⟨#[116,101,109,112]⟩:ByteArray),r8.1]).bind fun r9 =>
 (bif (r9.2.1 != 0) then
 ((aV.f k r9.2.1).bind fun r10 =>
 (some ((((aJ (a0.1.1+1)),a0.1.2),a0.2),(r9.1,r10))))
 else
 (some ((((aJ (a0.1.1+1)),a0.1.2),a0.2),(r9.1,r7.2))))))
 else
 (bif (r7.2.1 != 0) then
 (some ((((aJ (a0.1.1+1)),a0.1.2),a0.2),r7))
 else
 (some ((((aJ (a0.1.1+1)),((([]++a0.1.2.1)++[a0.1.1]),())),(a0.2.1,(a0.2.2.1,(0,a0.2.2.2.2)))),(r7.1,(0,())))))))))))))))))
def f (k:Nat):=t k
end fK
namespace dl
abbrev Rs:Type:=Option ((Ty.d aE) × (Ty.d aA) × (Ty.d aC) × Int × Unit)
def t (k:Nat) (a0:Ty.d aE) (a1:Ty.d aA) (a2:Ty.d b7):Rs :=
 ((cC.f k a2).bind fun r1 =>
 ((fH.f k r1.1).bind fun r2 =>
 (bif (decide (a0.2.2.2.1 > 0)) then
 (bif (decide ((aJ (a0.2.2.2.1+(ByteArray.size r2.1:Int))) > 200)) then
 ((fK.f k a0 a1).bind fun r3 =>
 (bif (r3.2.2.1 != 0) then
 (some (r3.1,(r3.2.1,((0,(0,(0,((0,(0,(ByteArray.empty,(ByteArray.empty,(0,(0,())))))),())))),r3.2.2))))
 else
 ((ck.f k r3.1).bind fun r4 =>
 ((dZ.f k r3.2.1 r4.1 r2.1).bind fun r5 =>
 (bif (r5.2.1 != 0) then
 ((aV.f k r5.2.1).bind fun r6 =>
 (some (r3.1,(r5.1,((0,(0,(0,((0,(0,(ByteArray.empty,(ByteArray.empty,(0,(0,())))))),())))),r6)))))
 else
 (bF (aJ ((List.length r3.1.1.2.1:Int)-1)) (List.length r3.1.1.2.1:Int)
 (some ((r3.1.1,(r3.1.2.1,(r3.1.2.2.1,((aJ (r3.1.2.2.2.1+(ByteArray.size r2.1:Int))),r3.1.2.2.2.2)))),(r5.1,(((List.getD r3.1.1.2.1 (Int.toNat (aJ ((List.length r3.1.1.2.1:Int)-1))) (Ty.z (.int .i64))),(r3.1.2.2.2.1,((ByteArray.size r2.1:Int),(a2,())))),(0,())))))))))))
 else
 ((ck.f k a0).bind fun r7 =>
 ((dZ.f k a1 r7.1 r2.1).bind fun r8 =>
 (bif (r8.2.1 != 0) then
 ((aV.f k r8.2.1).bind fun r9 =>
 (some (a0,(r8.1,((0,(0,(0,((0,(0,(ByteArray.empty,(ByteArray.empty,(0,(0,())))))),())))),r9)))))
 else
 (bF (aJ ((List.length a0.1.2.1:Int)-1)) (List.length a0.1.2.1:Int)
 (some ((a0.1,(a0.2.1,(a0.2.2.1,((aJ (a0.2.2.2.1+(ByteArray.size r2.1:Int))),a0.2.2.2.2)))),(r8.1,(((List.getD a0.1.2.1 (Int.toNat (aJ ((List.length a0.1.2.1:Int)-1))) (Ty.z (.int .i64))),(a0.2.2.2.1,((ByteArray.size r2.1:Int),(a2,())))),(0,()))))))))))
 else
 ((ck.f k a0).bind fun r10 =>
 ((dZ.f k a1 r10.1 r2.1).bind fun r11 =>
 (bif (r11.2.1 != 0) then
 ((aV.f k r11.2.1).bind fun r12 =>
 (some (a0,(r11.1,((0,(0,(0,((0,(0,(ByteArray.empty,(ByteArray.empty,(0,(0,())))))),())))),r12)))))
 else
 (bF (aJ ((List.length a0.1.2.1:Int)-1)) (List.length a0.1.2.1:Int)
 (some ((a0.1,(a0.2.1,(a0.2.2.1,((aJ (a0.2.2.2.1+(ByteArray.size r2.1:Int))),a0.2.2.2.2)))),(r11.1,(((List.getD a0.1.2.1 (Int.toNat (aJ ((List.length a0.1.2.1:Int)-1))) (Ty.z (.int .i64))),(a0.2.2.2.1,((ByteArray.size r2.1:Int),(a2,())))),(0,()))))))))))))
def f (k:Nat):=t k
end dl
namespace bR
abbrev Rs:Type:=Option ((Ty.d aE) × (Ty.d aA) × Int × Unit)
abbrev T0:Type:=Int→Int→List (Ty.d dI)→List Int→List (Ty.d aB)→Int→Int→Int→Int→List (Ty.d aL)→Int→Int→Bool→List Int→List (Ty.d aB)→Int→Int→Int→Int→List (Ty.d aL)→Int→Int→Bool→List (Ty.d b7)→List (Ty.d aB)→Rs
def b0 (k:Nat) (L0:T0):T0:=fun x0 x1 x2 x3 x4 x5 x6 x7 x8 x9 x10 x11 x12 x13 x14 x15 x16 x17 x18 x19 x20 x21 x22 x23 x24 =>
 (bif (decide (x1<(x2.length:Int))) then
 (bF x1 (x2.length:Int)
 (bF x1 (x2.length:Int)
 (bF x1 (x2.length:Int)
 (bif (List.getD x2 (Int.toNat x1) (Ty.z dI)).2.1 then
 ((dl.f k ((x5,(x3,())),(x4,(x6,(x7,(x8,()))))) (x9,(x10,(x11,(x12,())))) (2,(x0,((List.getD x2 (Int.toNat x1) (Ty.z dI)).1,((List.getD x2 (Int.toNat x1) (Ty.z dI)).2.2.1,(0,(0,()))))))).bind fun r1 =>
 (bif (r1.2.2.2.1 != 0) then
 (some (r1.1,(r1.2.1,r1.2.2.2)))
 else
 ((gj.f k x24 r1.2.2.1).bind fun r2 =>
 (rm (Ty.bytes b7) (List.length x23+1)
 (L0 x0 (aJ (x1+1)) x2 r1.1.1.2.1 r1.1.2.1 r1.1.1.1 r1.1.2.2.1 r1.1.2.2.2.1 r1.1.2.2.2.2.1 r1.2.1.1 r1.2.1.2.1 r1.2.1.2.2.1 r1.2.1.2.2.2.1 x13 x14 x15 x16 x17 x18 x19 x20 x21 x22 (x23++[(2,(x0,((List.getD x2 (Int.toNat x1) (Ty.z dI)).1,((List.getD x2 (Int.toNat x1) (Ty.z dI)).2.2.1,(0,(0,()))))))]) r2.1)))))
 else
 ((dl.f k ((x5,(x3,())),(x4,(x6,(x7,(x8,()))))) (x9,(x10,(x11,(x12,())))) (1,(x0,((List.getD x2 (Int.toNat x1) (Ty.z dI)).1,((List.getD x2 (Int.toNat x1) (Ty.z dI)).2.2.1,(0,(0,()))))))).bind fun r3 =>
 (bif (r3.2.2.2.1 != 0) then
 (some (r3.1,(r3.2.1,r3.2.2.2)))
 else
 ((gj.f k x24 r3.2.2.1).bind fun r4 =>
 (rm (Ty.bytes b7) (List.length x23+1)
 (L0 x0 (aJ (x1+1)) x2 r3.1.1.2.1 r3.1.2.1 r3.1.1.1 r3.1.2.2.1 r3.1.2.2.2.1 r3.1.2.2.2.2.1 r3.2.1.1 r3.2.1.2.1 r3.2.1.2.2.1 r3.2.1.2.2.2.1 x13 x14 x15 x16 x17 x18 x19 x20 x21 x22 (x23++[(1,(x0,((List.getD x2 (Int.toNat x1) (Ty.z dI)).1,((List.getD x2 (Int.toNat x1) (Ty.z dI)).2.2.1,(0,(0,()))))))]) r4.1)))))))))
 else
 ((gZ.f k x23 x0 3).bind fun r5 =>
 ((dl.f k ((x5,(x3,())),(x4,(x6,(x7,(x8,()))))) (x9,(x10,(x11,(x12,())))) r5.1).bind fun r6 =>
 (bif (r6.2.2.2.1 != 0) then
 (some (r6.1,(r6.2.1,r6.2.2.2)))
 else
 ((ck.f k r6.1).bind fun r7 =>
 ((dw.f k r6.2.1 r7.1).bind fun r8 =>
 (bif (r8.2.1 != 0) then
 ((aV.f k r8.2.1).bind fun r9 =>
 (some (r6.1,(r8.1,r9))))
 else
 (some ((r6.1.1,(x24,r6.1.2.2)),(r8.1,(0,())))))))))))
def l0 (k:Nat):Nat→T0
 | 0=>fun _ _ _ _ _ _ _ _ _ _ _ _ _ _ _ _ _ _ _ _ _ _ _ _ _=>none
 | n+1=>b0 k (l0 k n)
def t (k:Nat) (L0:T0) (a0:Ty.d aE) (a1:Ty.d aA) (a2:List (Ty.d dI)):Rs :=
 (rm (Ty.bytes aB) (0+List.length a0.2.1)
 (L0 a0.2.2.1 0 a2 a0.1.2.1 a0.2.1 a0.1.1 (aJ (a0.2.2.1+1)) a0.2.2.2.1 a0.2.2.2.2.1 a1.1 a1.2.1 a1.2.2.1 a1.2.2.2.1 [] [] 0 0 0 0 [] 0 0 false [] ([]++a0.2.1)))
def f (k:Nat):=t k (l0 k k)
end bR
namespace gW
abbrev Rs:Type:=Option ((Ty.d aE) × (Ty.d aA) × Int × Unit)
def t (k:Nat) (a0:Ty.d aE) (a1:Ty.d aA) (a2:List (Ty.d dI)):Rs :=
 ((co.f k a0).bind fun r1 =>
 ((bw.f k a1).bind fun r2 =>
 ((cB.f k a0 a1).bind fun r3 =>
 (bif (!r3.1) then
 (some (r1.1,(r2.1,(4,()))))
 else
 ((cF.f k a2).bind fun r4 =>
 (bif (!r4.1) then
 (some (r1.1,(r2.1,(4,()))))
 else
 (bif ((List.length a2:Int)==0) then
 (some (r1.1,(r2.1,(0,()))))
 else
 ((d6.f k a0.2.1 a2).bind fun r5 =>
 (bif (decide (r5.1 > 20)) then
 (some (r1.1,(r2.1,(5,()))))
 else
 (bif (decide (a0.2.2.1 > 1000000)) then
 (some (r1.1,(r2.1,(5,()))))
 else
 ((bR.f k r1.1 r2.1 a2).bind fun r6 =>
 (some r6))))))))))))
def f (k:Nat):=t k
end gW
namespace d_
abbrev Rs:Type:=Option ((Ty.d dc) × (Ty.d qZ) × Unit)
def t (k:Nat) (a0:Ty.d dc) (a1:Ty.d bg):Rs :=
 (bF a1.2.1 (List.length a0.2.2.2.1:Int)
 (bF a1.2.1 (List.length a0.2.2.2.1:Int)
 (let l1:=(List.set a0.2.2.2.1 (Int.toNat a1.2.1) (false,([],([],()))));
 ((gE.f k (List.getD a0.2.2.2.1 (Int.toNat a1.2.1) (Ty.z du)) a0.2.1.2.1).bind fun r2 =>
 (bif (!r2.1) then
 (some ((a0.1,(a0.2.1,(a0.2.2.1,(l1,())))),((7,(ByteArray.empty,([],()))),())))
 else
 ((bI.f k (List.getD a0.2.2.2.1 (Int.toNat a1.2.1) (Ty.z du))).bind fun r3 =>
 ((gW.f k a0.2.1 a0.2.2.1 r3.1).bind fun r4 =>
 (some ((a0.1,(r4.1,(r4.2.1,(l1,())))),((r4.2.2.1,(ByteArray.empty,([],()))),()))))))))))
def f (k:Nat):=t k
end d_
namespace er
abbrev Rs:Type:=Option ((Ty.d du) × Bool × Unit)
def t (k:Nat) (a0:Ty.d du) (a1:Ty.d dI):Rs :=
 ((eJ.f k a0).bind fun r1 =>
 (bif (!a0.1) then
 (some (r1.1,(false,())))
 else
 ((cF.f k [a1]).bind fun r2 =>
 (bif (!r2.1) then
 (some (r1.1,(false,())))
 else
 (rm (Ty.bytes dI) (List.length r1.1.2.2.1+1)
 ((bI.f k (r1.1.1,(r1.1.2.1,((r1.1.2.2.1++[a1]),())))).bind fun r3 =>
 (bif (decide ((List.length r3.1:Int) > 8)) then
 ((eJ.f k a0).bind fun r4 =>
 (some (r4.1,(false,()))))
 else
 (bif (decide ((List.length (r1.1.2.2.1++[a1]):Int) > 50)) then
 ((eJ.f k a0).bind fun r5 =>
 (some (r5.1,(false,()))))
 else
 (some ((r1.1.1,(r1.1.2.1,((r1.1.2.2.1++[a1]),()))),(true,())))))))))))
def f (k:Nat):=t k
end er
namespace dG
abbrev Rs:Type:=Option ((Ty.d dc) × (Ty.d qZ) × Unit)
def t (k:Nat) (a0:Ty.d dc) (a1:Ty.d bg):Rs :=
 ((eI.f k a0).bind fun r1 =>
 (bif (a1.1==10) then
 (bif a0.1 then
 (some (r1.1,((4,(ByteArray.empty,([],()))),())))
 else
 ((dt.f k a0.2.2.1).bind fun r2 =>
 (some (r2.1,((r2.2.1,(ByteArray.empty,([],()))),())))))
 else
 (bif (a1.1==11) then
 ((bE.f k a0.2.2.1).bind fun r3 =>
 (bif (!r3.1) then
 (some (r1.1,((4,(ByteArray.empty,([],()))),())))
 else
 ((k6.f k a0.2.2.1).bind fun r4 =>
 ((aS.f k a1.2.2.2.2.1 0 (aJ (100000-r4.1))).bind fun r5 =>
 (bif (!r5.1) then
 (some (r1.1,((4,(ByteArray.empty,([],()))),())))
 else
 ((k6.f k a0.2.2.1).bind fun r6 =>
 (some ((r1.1.1,(r1.1.2.1,((r1.1.2.2.1.1,((aJ (r6.1+a1.2.2.2.2.1)),r1.1.2.2.1.2.2)),r1.1.2.2.2))),((0,(ByteArray.empty,([],()))),())))))))))
 else
 (bif (!a0.1) then
 (some (r1.1,((6,(ByteArray.empty,([],()))),())))
 else
 (bif (a1.1==7) then
 ((jm.f k r1.1.2.1 r1.1.2.2.1).bind fun r7 =>
 (some ((r1.1.1,(r7.1,(r7.2.1,r1.1.2.2.2))),((r7.2.2.1,(ByteArray.empty,([],()))),()))))
 else
 (bif (a1.1==8) then
 ((ez.f k r1.1.2.1.2.1).bind fun r8 =>
 (some (r1.1,((0,(ByteArray.empty,r8)),()))))
 else
 (bif (a1.1==9) then
 (uy (Ty.bytes du) 3
 (some ((false,(((0,([],())),([],(0,(0,(0,()))))),(r1.1.2.2.1,((List.replicate (Int.toNat 3) (Ty.z du)),())))),((0,(ByteArray.empty,([],()))),()))))
 else
 ((aS.f k a1.2.1 0 (aJ ((List.length a0.2.2.2.1:Int)-1))).bind fun r9 =>
 (bif (!r9.1) then
 (some (r1.1,((4,(ByteArray.empty,([],()))),())))
 else
 ((aS.f k a1.1 1 6).bind fun r10 =>
 (bif (!r10.1) then
 (some (r1.1,((4,(ByteArray.empty,([],()))),())))
 else
 (bif (a1.1==1) then
 (bF a1.2.1 (List.length a0.2.2.2.1:Int)
 (bif (List.getD a0.2.2.2.1 (Int.toNat a1.2.1) (Ty.z du)).1 then
 (some (r1.1,((4,(ByteArray.empty,([],()))),())))
 else
 (bif (a1.1 != 1) then
 (bF a1.2.1 (List.length a0.2.2.2.1:Int)
 (bif (!(List.getD a0.2.2.2.1 (Int.toNat a1.2.1) (Ty.z du)).1) then
 (some (r1.1,((4,(ByteArray.empty,([],()))),())))
 else
 (bif (a1.1==1) then
 (bF a1.2.1 (List.length r1.1.2.2.2.1:Int)
 (let l11:=(List.set r1.1.2.2.2.1 (Int.toNat a1.2.1) (true,([],([],()))));
 (some ((r1.1.1,(r1.1.2.1,(r1.1.2.2.1,(l11,())))),((0,(ByteArray.empty,([],()))),())))))
 else
 (bif (a1.1==6) then
 (bF a1.2.1 (List.length r1.1.2.2.2.1:Int)
 (let l12:=(List.set r1.1.2.2.2.1 (Int.toNat a1.2.1) (false,([],([],()))));
 (some ((r1.1.1,(r1.1.2.1,(r1.1.2.2.1,(l12,())))),((0,(ByteArray.empty,([],()))),())))))
 else
 (bif (a1.1==2) then
 ((eo.f k r1.1 a1).bind fun r13 =>
 (some r13))
 else
 (bif (a1.1==5) then
 ((d_.f k r1.1 a1).bind fun r14 =>
 (some r14))
 else
 ((cF.f k [(a1.2.2.1,((a1.1==4),(a1.2.2.2.1,())))]).bind fun r15 =>
 (bif (!r15.1) then
 (some (r1.1,((4,(ByteArray.empty,([],()))),())))
 else
 (bF a1.2.1 (List.length r1.1.2.2.2.1:Int)
 ((er.f k (List.getD r1.1.2.2.2.1 (Int.toNat a1.2.1) (Ty.z du)) (a1.2.2.1,((a1.1==4),(a1.2.2.2.1,())))).bind fun r16 =>
 (bif (!r16.2.1) then
 (some (r1.1,((5,(ByteArray.empty,([],()))),())))
 else
 (bF a1.2.1 (List.length r1.1.2.2.2.1:Int)
 (let l17:=(List.set r1.1.2.2.2.1 (Int.toNat a1.2.1) r16.1);
 (some ((r1.1.1,(r1.1.2.1,(r1.1.2.2.1,(l17,())))),((0,(ByteArray.empty,([],()))),()))))))))))))))))
 else
 (bif (a1.1==1) then
 (bF a1.2.1 (List.length r1.1.2.2.2.1:Int)
 (let l18:=(List.set r1.1.2.2.2.1 (Int.toNat a1.2.1) (true,([],([],()))));
 (some ((r1.1.1,(r1.1.2.1,(r1.1.2.2.1,(l18,())))),((0,(ByteArray.empty,([],()))),())))))
 else
 (bif (a1.1==6) then
 (bF a1.2.1 (List.length r1.1.2.2.2.1:Int)
 (let l19:=(List.set r1.1.2.2.2.1 (Int.toNat a1.2.1) (false,([],([],()))));
 (some ((r1.1.1,(r1.1.2.1,(r1.1.2.2.1,(l19,())))),((0,(ByteArray.empty,([],()))),())))))
 else
 (bif (a1.1==2) then
 ((eo.f k r1.1 a1).bind fun r20 =>
 (some r20))
 else
 (bif (a1.1==5) then
 ((d_.f k r1.1 a1).bind fun r21 =>
 (some r21))
 else
 ((cF.f k [(a1.2.2.1,((a1.1==4),(a1.2.2.2.1,())))]).bind fun r22 =>
 (bif (!r22.1) then
 (some (r1.1,((4,(ByteArray.empty,([],()))),())))
 else
 (bF a1.2.1 (List.length r1.1.2.2.2.1:Int)
 ((er.f k (List.getD r1.1.2.2.2.1 (Int.toNat a1.2.1) (Ty.z du)) (a1.2.2.1,((a1.1==4),(a1.2.2.2.1,())))).bind fun r23 =>
 (bif (!r23.2.1) then
 (some (r1.1,((5,(ByteArray.empty,([],()))),())))
 else
 (bF a1.2.1 (List.length r1.1.2.2.2.1:Int)
 (let l24:=(List.set r1.1.2.2.2.1 (Int.toNat a1.2.1) r23.1);
 (some ((r1.1.1,(r1.1.2.1,(r1.1.2.2.1,(l24,())))),((0,(ByteArray.empty,([],()))),())))))))))))))))))
 else
 (bif (a1.1 != 1) then
 (bF a1.2.1 (List.length a0.2.2.2.1:Int)
 (bif (!(List.getD a0.2.2.2.1 (Int.toNat a1.2.1) (Ty.z du)).1) then
 (some (r1.1,((4,(ByteArray.empty,([],()))),())))
 else
 (bif (a1.1==1) then
 (bF a1.2.1 (List.length r1.1.2.2.2.1:Int)
 (let l25:=(List.set r1.1.2.2.2.1 (Int.toNat a1.2.1) (true,([],([],()))));
 (some ((r1.1.1,(r1.1.2.1,(r1.1.2.2.1,(l25,())))),((0,(ByteArray.empty,([],()))),())))))
 else
 (bif (a1.1==6) then
 (bF a1.2.1 (List.length r1.1.2.2.2.1:Int)
 (let l26:=(List.set r1.1.2.2.2.1 (Int.toNat a1.2.1) (false,([],([],()))));
 (some ((r1.1.1,(r1.1.2.1,(r1.1.2.2.1,(l26,())))),((0,(ByteArray.empty,([],()))),())))))
 else
 (bif (a1.1==2) then
 ((eo.f k r1.1 a1).bind fun r27 =>
 (some r27))
 else
 (bif (a1.1==5) then
 ((d_.f k r1.1 a1).bind fun r28 =>
 (some r28))
 else
 ((cF.f k [(a1.2.2.1,((a1.1==4),(a1.2.2.2.1,())))]).bind fun r29 =>
 (bif (!r29.1) then
 (some (r1.1,((4,(ByteArray.empty,([],()))),())))
 else
 (bF a1.2.1 (List.length r1.1.2.2.2.1:Int)
 ((er.f k (List.getD r1.1.2.2.2.1 (Int.toNat a1.2.1) (Ty.z du)) (a1.2.2.1,((a1.1==4),(a1.2.2.2.1,())))).bind fun r30 =>
 (bif (!r30.2.1) then
 (some (r1.1,((5,(ByteArray.empty,([],()))),())))
 else
 (bF a1.2.1 (List.length r1.1.2.2.2.1:Int)
 (let l31:=(List.set r1.1.2.2.2.1 (Int.toNat a1.2.1) r30.1);
 (some ((r1.1.1,(r1.1.2.1,(r1.1.2.2.1,(l31,())))),((0,(ByteArray.empty,([],()))),()))))))))))))))))
 else
 (bif (a1.1==1) then
 (bF a1.2.1 (List.length r1.1.2.2.2.1:Int)
 (let l32:=(List.set r1.1.2.2.2.1 (Int.toNat a1.2.1) (true,([],([],()))));
 (some ((r1.1.1,(r1.1.2.1,(r1.1.2.2.1,(l32,())))),((0,(ByteArray.empty,([],()))),())))))
 else
 (bif (a1.1==6) then
 (bF a1.2.1 (List.length r1.1.2.2.2.1:Int)
 (let l33:=(List.set r1.1.2.2.2.1 (Int.toNat a1.2.1) (false,([],([],()))));
 (some ((r1.1.1,(r1.1.2.1,(r1.1.2.2.1,(l33,())))),((0,(ByteArray.empty,([],()))),())))))
 else
 (bif (a1.1==2) then
 ((eo.f k r1.1 a1).bind fun r34 =>
 (some r34))
 else
 (bif (a1.1==5) then
 ((d_.f k r1.1 a1).bind fun r35 =>
 (some r35))
 else
 ((cF.f k [(a1.2.2.1,((a1.1==4),(a1.2.2.2.1,())))]).bind fun r36 =>
 (bif (!r36.1) then
 (some (r1.1,((4,(ByteArray.empty,([],()))),())))
 else
 (bF a1.2.1 (List.length r1.1.2.2.2.1:Int)
 ((er.f k (List.getD r1.1.2.2.2.1 (Int.toNat a1.2.1) (Ty.z du)) (a1.2.2.1,((a1.1==4),(a1.2.2.2.1,())))).bind fun r37 =>
 (bif (!r37.2.1) then
 (some (r1.1,((5,(ByteArray.empty,([],()))),())))
 else
 (bF a1.2.1 (List.length r1.1.2.2.2.1:Int)
 (let l38:=(List.set r1.1.2.2.2.1 (Int.toNat a1.2.1) r37.1);
 (some ((r1.1.1,(r1.1.2.1,(r1.1.2.2.1,(l38,())))),((0,(ByteArray.empty,([],()))),())))))))))))))))))))))))))))
def f (k:Nat):=t k
end dG
namespace mT
abbrev Rs:Type:=Option (Int × Unit)
def t (k:Nat) (a0:List Int) (a1:Int):Rs :=
 (bif (decide (a1<(List.length a0:Int))) then
 (bF a1 (List.length a0:Int)
 (some ((aJ (List.getD a0 (Int.toNat a1) (Ty.z (.int .u8)))),())))
 else
 (some ((Int.tmod (aJ ((aJ (a1*37))+(aJ ((List.length a0:Int)*11)))) 256),())))
def f (k:Nat):=t k
end mT
namespace ax
abbrev Rs:Type:=Option (Bool × Unit)
def t (k:Nat) (a0:Int) (a1:Int) (a2:Int):Rs :=
 (bif (decide (a0≥a1)) then
 (some ((decide (a0≤a2)),()))
 else
 (some (false,())))
def f (k:Nat):=t k
end ax
namespace fe
abbrev Rs:Type:=Option (Bool × Unit)
abbrev T0:Type:=ByteArray→Int→Rs
def b0 (k:Nat) (L0:T0):T0:=fun x0 x1 =>
 (bif (decide (x1<(ByteArray.size x0:Int))) then
 (bF x1 (ByteArray.size x0:Int)
 (bif (decide ((di x0 x1)≥97)) then
 (bF x1 (ByteArray.size x0:Int)
 (bif (!(decide ((di x0 x1)≤122))) then
 (bF x1 (ByteArray.size x0:Int)
 (bif (decide ((di x0 x1)≥48)) then
 (bF x1 (ByteArray.size x0:Int)
 (bif (!(decide ((di x0 x1)≤57))) then
 (some (false,()))
 else
 (L0 x0 (aJ (x1+1)))))
 else
 (some (false,()))))
 else
 (L0 x0 (aJ (x1+1)))))
 else
 (bF x1 (ByteArray.size x0:Int)
 (bif (decide ((di x0 x1)≥48)) then
 (bF x1 (ByteArray.size x0:Int)
 (bif (!(decide ((di x0 x1)≤57))) then
 (some (false,()))
 else
 (L0 x0 (aJ (x1+1)))))
 else
 (some (false,()))))))
 else
 ((ax.f k (ByteArray.size x0:Int) 1 12).bind fun r1 =>
 (some r1)))
def l0 (k:Nat):Nat→T0
 | 0=>fun _ _=>none
 | n+1=>b0 k (l0 k n)
def t (k:Nat) (L0:T0) (a0:ByteArray):Rs :=
 (L0 a0 0)
def f (k:Nat):=t k (l0 k k)
end fe
namespace db
abbrev Rs:Type:=Option (Bool × Unit)
abbrev T0:Type:=Int→List (Ty.d aL)→Int→Int→List (Ty.d aL)→Int→Int→Bool→Rs
def b0 (k:Nat) (L0:T0):T0:=fun x0 x1 x2 x3 x4 x5 x6 x7 =>
 (bif (decide (x3<x2)) then
 (bF x3 (x1.length:Int)
 ((fe.f k (List.getD x1 (Int.toNat x3) (Ty.z aL)).1).bind fun r3 =>
 (bif (!r3.1) then
 (some (false,()))
 else
 ((ax.f k (List.getD x1 (Int.toNat x3) (Ty.z aL)).2.2.1 0 (ByteArray.size (List.getD x1 (Int.toNat x3) (Ty.z aL)).2.1:Int)).bind fun r4 =>
 (bif (!r4.1) then
 (some (false,()))
 else
 (bif (decide (x3 > 0)) then
 (bF (aJ (x3-1)) (x4.length:Int)
 (bif (!(mo (List.getD x4 (Int.toNat (aJ (x3-1))) (Ty.z aL)).1 (List.getD x1 (Int.toNat x3) (Ty.z aL)).1)) then
 (some (false,()))
 else
 (L0 (aJ (x0+(ByteArray.size (List.getD x1 (Int.toNat x3) (Ty.z aL)).2.1:Int))) x1 x2 (aJ (x3+1)) x4 x5 x6 x7)))
 else
 (L0 (aJ (x0+(ByteArray.size (List.getD x1 (Int.toNat x3) (Ty.z aL)).2.1:Int))) x1 x2 (aJ (x3+1)) x4 x5 x6 x7)))))))
 else
 (some ((decide (x0≤x5)),())))
def l0 (k:Nat):Nat→T0
 | 0=>fun _ _ _ _ _ _ _ _=>none
 | n+1=>b0 k (l0 k n)
def t (k:Nat) (L0:T0) (a0:Ty.d aA):Rs :=
 (bif (decide ((List.length a0.1:Int) > 130)) then
 (some (false,()))
 else
 ((ax.f k a0.2.1 0 100000).bind fun r1 =>
 (bif (!r1.1) then
 (some (false,()))
 else
 ((ax.f k a0.2.2.1 (-1) 100000).bind fun r2 =>
 (bif (!r2.1) then
 (some (false,()))
 else
 (L0 0 a0.1 (List.length a0.1:Int) 0 a0.1 a0.2.1 a0.2.2.1 a0.2.2.2.1))))))
def f (k:Nat):=t k (l0 k k)
end db
namespace da
abbrev Rs:Type:=Option (Bool × Unit)
abbrev T0:Type:=List Int→Int→Int→Int→List Int→Rs
def b0 (k:Nat) (L0:T0):T0:=fun x0 x1 x2 x3 x4 =>
 (bif (decide (x2<x1)) then
 (bF x2 (x0.length:Int)
 ((ax.f k (List.getD x0 (Int.toNat x2) (Ty.z (.int .i64))) 1 (aJ (x3-1))).bind fun r1 =>
 (bif (!r1.1) then
 (some (false,()))
 else
 (bif (decide (x2 > 0)) then
 (bF (aJ (x2-1)) (x4.length:Int)
 (bif (decide ((List.getD x4 (Int.toNat (aJ (x2-1))) (Ty.z (.int .i64)))≥(List.getD x0 (Int.toNat x2) (Ty.z (.int .i64))))) then
 (some (false,()))
 else
 (L0 x0 x1 (aJ (x2+1)) x3 x4)))
 else
 (L0 x0 x1 (aJ (x2+1)) x3 x4)))))
 else
 ((ax.f k x3 1 100000).bind fun r2 =>
 (bif r2.1 then
 ((ax.f k (x4.length:Int) 1 60).bind fun r3 =>
 (some r3))
 else
 (some (false,())))))
def l0 (k:Nat):Nat→T0
 | 0=>fun _ _ _ _ _=>none
 | n+1=>b0 k (l0 k n)
def t (k:Nat) (L0:T0) (a0:Ty.d cY):Rs :=
 (L0 a0.2.1 (List.length a0.2.1:Int) 0 a0.1 a0.2.1)
def f (k:Nat):=t k (l0 k k)
end da
namespace gH
abbrev Rs:Type:=Option (Bool × Unit)
def t (k:Nat) (a0:ByteArray):Rs :=
 ((ax.f k (ByteArray.size a0:Int) 1 8).bind fun r1 =>
 (some r1))
def f (k:Nat):=t k
end gH
namespace fU
abbrev Rs:Type:=Option (Bool × Unit)
abbrev T0:Type:=List (Ty.d aB)→List (Ty.d aB)→Int→Int→Rs
def b0 (k:Nat) (L0:T0):T0:=fun x0 x1 x2 x3 =>
 (bif (decide (x3<x2)) then
 (bF x3 (x1.length:Int)
 ((gH.f k (List.getD x1 (Int.toNat x3) (Ty.z aB)).1).bind fun r1 =>
 (bif (!r1.1) then
 (some (false,()))
 else
 ((ax.f k (List.getD x1 (Int.toNat x3) (Ty.z aB)).2.1 1 100000).bind fun r2 =>
 (bif (!r2.1) then
 (some (false,()))
 else
 (bif (decide ((List.getD x1 (Int.toNat x3) (Ty.z aB)).2.2.1<0)) then
 (some (false,()))
 else
 ((ax.f k (List.getD x1 (Int.toNat x3) (Ty.z aB)).2.2.2.1 1 210).bind fun r3 =>
 (bif (!r3.1) then
 (some (false,()))
 else
 ((ax.f k (List.getD x1 (Int.toNat x3) (Ty.z aB)).2.2.2.2.1 1 1000000).bind fun r4 =>
 (bif (!r4.1) then
 (some (false,()))
 else
 (bif (decide (x3 > 0)) then
 (bF (aJ (x3-1)) (x0.length:Int)
 (bif (!(mo (List.getD x0 (Int.toNat (aJ (x3-1))) (Ty.z aB)).1 (List.getD x1 (Int.toNat x3) (Ty.z aB)).1)) then
 (some (false,()))
 else
 (L0 x0 x1 x2 (aJ (x3+1)))))
 else
 (L0 x0 x1 x2 (aJ (x3+1))))))))))))))
 else
 (some ((decide ((x0.length:Int)≤20)),())))
def l0 (k:Nat):Nat→T0
 | 0=>fun _ _ _ _=>none
 | n+1=>b0 k (l0 k n)
def t (k:Nat) (L0:T0) (a0:List (Ty.d aB)):Rs :=
 (L0 a0 a0 (List.length a0:Int) 0)
def f (k:Nat):=t k (l0 k k)
end fU
namespace lx
abbrev Rs:Type:=Option (ByteArray × Unit)
def t (k:Nat) (a0:Int):Rs :=
 ((mA.f k a0).bind fun r1 =>
 (some r1))
def f (k:Nat):=t k
end lx
namespace jj
abbrev Rs:Type:=Option (ByteArray × Unit)
def t (k:Nat) (a0:ByteArray) (a1:Int):Rs :=
 ((ax.f k a1 1 100000).bind fun r1 =>
 (bif (!r1.1) then
 (some ((⟨#[]⟩:ByteArray),()))
 else
 ((lx.f k a1).bind fun r2 =>
 (ke a0 r2.1
 (some ((a0++r2.1),()))))))
def f (k:Nat):=t k
end jj
namespace fq
abbrev Rs:Type:=Option (ByteArray × Unit)
def t (k:Nat) (a0:Int):Rs :=
 ((jj.f k (⟨#[115,101,103]⟩:ByteArray) a0).bind fun r1 =>
 (some r1))
def f (k:Nat):=t k
end fq
namespace fc
abbrev Rs:Type:=Option (Int × Unit)
abbrev T0:Type:=ByteArray→List (Ty.d aL)→Int→Int→Rs
def b0 (k:Nat) (L0:T0):T0:=fun x0 x1 x2 x3 =>
 (bif (decide (x3<x2)) then
 (bF x3 (x1.length:Int)
 (bif (seq (List.getD x1 (Int.toNat x3) (Ty.z aL)).1 x0) then
 (some (x3,()))
 else
 (L0 x0 x1 x2 (aJ (x3+1)))))
 else
 (some ((-1),())))
def l0 (k:Nat):Nat→T0
 | 0=>fun _ _ _ _=>none
 | n+1=>b0 k (l0 k n)
def t (k:Nat) (L0:T0) (a0:Ty.d aA) (a1:ByteArray):Rs :=
 (L0 a1 a0.1 (List.length a0.1:Int) 0)
def f (k:Nat):=t k (l0 k k)
end fc
namespace fO
abbrev Rs:Type:=Option (ByteArray × Bool × Unit)
def t (k:Nat) (a0:Ty.d aA) (a1:ByteArray):Rs :=
 ((fc.f k a0 a1).bind fun r1 =>
 (bif (decide (r1.1<0)) then
 (some ((⟨#[]⟩:ByteArray),(false,())))
 else
 ((db.f k a0).bind fun r2 =>
 (bif (!r2.1) then
 (some ((⟨#[]⟩:ByteArray),(false,())))
 else
 (bF r1.1 (List.length a0.1:Int)
 (some ((List.getD a0.1 (Int.toNat r1.1) (Ty.z aL)).2.1,(true,()))))))))
def f (k:Nat):=t k
end fO
namespace cT
abbrev Rs:Type:=Option (Int × Int × Unit)
abbrev T0:Type:=ByteArray→Int→Int→Rs
def b0 (k:Nat) (L0:T0):T0:=fun x0 x1 x2 =>
 (bif (decide (x2<7)) then
 (bif (decide (x2<(ByteArray.size x0:Int))) then
 (bF x2 (ByteArray.size x0:Int)
 (bif (decide ((aJ (7*x2))<0)) then none else
 (bif (decide ((aJ (di x0 x2))≥128)) then
 (L0 x0 (aJ (x1+(aJ ((Int.tmod (aJ (di x0 x2)) 128)*2 ^ (min (Int.toNat (aJ (7*x2))) (IntKind.bits .i64)))))) (aJ (x2+1)))
 else
 (bif ((aJ (di x0 x2))==0) then
 (bif (decide (x2 > 0)) then
 (some (0,(0,())))
 else
 (some ((aJ (x1+(aJ ((Int.tmod (aJ (di x0 x2)) 128)*2 ^ (min (Int.toNat (aJ (7*x2))) (IntKind.bits .i64)))))),((aJ (x2+1)),()))))
 else
 (some ((aJ (x1+(aJ ((Int.tmod (aJ (di x0 x2)) 128)*2 ^ (min (Int.toNat (aJ (7*x2))) (IntKind.bits .i64)))))),((aJ (x2+1)),())))))))
 else
 (some (0,(0,()))))
 else
 (some (0,(0,()))))
def l0 (k:Nat):Nat→T0
 | 0=>fun _ _ _=>none
 | n+1=>b0 k (l0 k n)
def t (k:Nat) (L0:T0) (a0:ByteArray):Rs :=
 (L0 a0 0 0)
def f (k:Nat):=t k (l0 k k)
end cT
namespace fC
abbrev Rs:Type:=Option (ByteArray × Unit)
abbrev T0:Type:=Int→List Int→Rs
def b0 (k:Nat) (L0:T0):T0:=fun x0 x1 =>
 (bif (decide (x0 > 127)) then
 (rm (Ty.bytes (.int .u8)) (List.length x1+1)
 (L0 (aJ (Int.tdiv x0 128)) (x1++[(IntKind.wrap .u8 (aJ ((Int.tmod x0 128)+128)))])))
 else
 (rm (Ty.bytes (.int .u8)) (List.length x1+1)
 (some ((bytesOf (x1++[(IntKind.wrap .u8 x0)])),()))))
def l0 (k:Nat):Nat→T0
 | 0=>fun _ _=>none
 | n+1=>b0 k (l0 k n)
def t (k:Nat) (L0:T0) (a0:Int):Rs :=
 ((ax.f k a0 0 562949953421311).bind fun r1 =>
 (bif (!r1.1) then
 (some ((⟨#[]⟩:ByteArray),()))
 else
 (L0 a0 [])))
def f (k:Nat):=t k (l0 k k)
end fC
namespace eY
abbrev Rs:Type:=Option (ByteArray × Unit)
def t (k:Nat) (a0:ByteArray):Rs :=
 ((fC.f k (ByteArray.size a0:Int)).bind fun r1 =>
 (ke r1.1 a0
 (some ((r1.1++a0),()))))
def f (k:Nat):=t k
end eY
namespace gA
abbrev Rs:Type:=Option (Int × Unit)
abbrev T1:Type:=ByteArray→Int→Int→Int→Rs
abbrev T0:Type:=ByteArray→Int→Int→Rs
def b1 (k:Nat) (L0:T0) (L1:T1):T1:=fun x0 x1 x2 x3 =>
 (bif (decide (x3<8)) then
 (bif ((IntKind.wrap .u32 (((BitVec.ofInt (IntKind.bits .u32) x1 &&& BitVec.ofInt (IntKind.bits .u32) 1).toNat:Int)))==1) then
 (L1 x0 (IntKind.wrap .u32 (((BitVec.ofInt (IntKind.bits .u32) (Int.fdiv x1 (2 ^ (Int.toNat 1))) ^^^ BitVec.ofInt (IntKind.bits .u32) 2197175160).toNat:Int))) x2 (aJ (x3+1)))
 else
 (L1 x0 (Int.fdiv x1 (2 ^ (Int.toNat 1))) x2 (aJ (x3+1))))
 else
 (L0 x0 x1 (aJ (x2+1))))
def l1 (k:Nat) (L0:T0):Nat→T1
 | 0=>fun _ _ _ _=>none
 | n+1=>b1 k L0 (l1 k L0 n)
def b0 (k:Nat) (L1:T1) (L0:T0):T0:=fun x0 x1 x2 =>
 (bif (decide (x2<(ByteArray.size x0:Int))) then
 (bF x2 (ByteArray.size x0:Int)
 (L1 x0 (IntKind.wrap .u32 (((BitVec.ofInt (IntKind.bits .u32) x1 ^^^ BitVec.ofInt (IntKind.bits .u32) (IntKind.wrap .u32 (di x0 x2))).toNat:Int))) x2 0))
 else
 (some ((aJ (DO .u32 x1)),())))
def l0 (k:Nat):Nat→T0
 | 0=>fun _ _ _=>none
 | n+1=>b0 k (l1 k (l0 k n) k) (l0 k n)
def t (k:Nat) (L0:T0) (a0:ByteArray):Rs :=
 (L0 a0 4294967295 0)
def f (k:Nat):=t k (l0 k k)
end gA
namespace df
abbrev Rs:Type:=Option (ByteArray × Unit)
abbrev T0:Type:=Int→Int→List Int→Rs
def b0 (k:Nat) (L0:T0):T0:=fun x0 x1 x2 =>
 (bif (decide (x1≥0)) then
 (bif (decide ((aJ (8*x1))<0)) then none else
 (rm (Ty.bytes (.int .u8)) (List.length x2+1)
 (L0 x0 (aJ (x1-1)) (x2++[(IntKind.wrap .u8 (Int.fdiv x0 (2 ^ (min (Int.toNat (aJ (8*x1))) (IntKind.bits .i64)))))]))))
 else
 (some ((bytesOf x2),())))
def l0 (k:Nat):Nat→T0
 | 0=>fun _ _ _=>none
 | n+1=>b0 k (l0 k n)
def t (k:Nat) (L0:T0) (a0:Int) (a1:Int):Rs :=
 ((ax.f k a1 1 7).bind fun r1 =>
 (bif (!r1.1) then
 (some ((⟨#[]⟩:ByteArray),()))
 else
 (bif (decide ((aJ (8*a1))<0)) then none else
 ((ax.f k a0 0 (aJ ((aJ (1*2 ^ (min (Int.toNat (aJ (8*a1))) (IntKind.bits .i64))))-1))).bind fun r2 =>
 (bif (!r2.1) then
 (some ((⟨#[]⟩:ByteArray),()))
 else
 (L0 a0 (aJ (a1-1)) []))))))
def f (k:Nat):=t k (l0 k k)
end df
namespace jy
abbrev Rs:Type:=Option (ByteArray × Unit)
def t (k:Nat) (a0:ByteArray):Rs :=
 (bif (decide ((ByteArray.size a0:Int) > 200)) then
 (some ((⟨#[]⟩:ByteArray),()))
 else
 ((eY.f k a0).bind fun r1 =>
 ((gA.f k r1.1).bind fun r2 =>
 ((df.f k r2.1 4).bind fun r3 =>
 (ke r3.1 r1.1
 (some ((r3.1++r1.1),())))))))
def f (k:Nat):=t k
end jy
namespace e_
abbrev Rs:Type:=Option (ByteArray × Int × Unit)
def t (k:Nat) (a0:ByteArray):Rs :=
 (bif (decide ((ByteArray.size a0:Int)<4)) then
 (some ((⟨#[]⟩:ByteArray),(0,())))
 else
 (pJ 4 (ByteArray.size a0:Int)
 ((cT.f k (ByteArray.extract a0 4 (ByteArray.size a0))).bind fun r1 =>
 (bif (r1.2.1==0) then
 (some ((⟨#[]⟩:ByteArray),(0,())))
 else
 (bif (decide (r1.1 > 200)) then
 (some ((⟨#[]⟩:ByteArray),(0,())))
 else
 (bif (decide (r1.1 > (aJ ((aJ ((ByteArray.size a0:Int)-4))-r1.2.1)))) then
 (some ((⟨#[]⟩:ByteArray),(0,())))
 else
 (Cb (aJ (4+r1.2.1)) (aJ ((aJ (4+r1.2.1))+r1.1)) (ByteArray.size a0:Int)
 ((jy.f k (ByteArray.extract a0 (Int.toNat (aJ (4+r1.2.1))) (Int.toNat (aJ ((aJ (4+r1.2.1))+r1.1))))).bind fun r2 =>
 (pJ (aJ ((aJ (4+r1.2.1))+r1.1)) (ByteArray.size a0:Int)
 (bif (!(seq r2.1 (ByteArray.extract a0 0 (Int.toNat (aJ ((aJ (4+r1.2.1))+r1.1)))))) then
 (some ((⟨#[]⟩:ByteArray),(0,())))
 else
 (some ((ByteArray.extract a0 (Int.toNat (aJ (4+r1.2.1))) (Int.toNat (aJ ((aJ (4+r1.2.1))+r1.1)))),((aJ ((aJ (4+r1.2.1))+r1.1)),())))))))))))))
def f (k:Nat):=t k
end e_
namespace ap
abbrev Rs:Type:=Option ((Ty.d jR) × Int × Unit)
def t (k:Nat) (a0:Ty.d jR):Rs :=
 ((cT.f k a0.1).bind fun r1 =>
 (bif a0.2.1 then
 (some ((a0.1,(true,())),(0,())))
 else
 (bif (r1.2.1==0) then
 (some ((a0.1,(true,())),(0,())))
 else
 (pJ r1.2.1 (ByteArray.size a0.1:Int)
 (some (((ByteArray.extract a0.1 (Int.toNat r1.2.1) (ByteArray.size a0.1)),a0.2),(r1.1,())))))))
def f (k:Nat):=t k
end ap
namespace an
abbrev Rs:Type:=Option ((Ty.d jR) × ByteArray × Unit)
def t (k:Nat) (a0:Ty.d jR) (a1:Int):Rs :=
 (bif a0.2.1 then
 (some ((a0.1,(true,())),((⟨#[]⟩:ByteArray),())))
 else
 (bif (decide (a1 > (ByteArray.size a0.1:Int))) then
 (some ((a0.1,(true,())),((⟨#[]⟩:ByteArray),())))
 else
 (pJ a1 (ByteArray.size a0.1:Int)
 (pJ a1 (ByteArray.size a0.1:Int)
 (some (((ByteArray.extract a0.1 (Int.toNat a1) (ByteArray.size a0.1)),a0.2),((ByteArray.extract a0.1 0 (Int.toNat a1)),())))))))
def f (k:Nat):=t k
end an
namespace aj
abbrev Rs:Type:=Option ((Ty.d jR) × ByteArray × Unit)
def t (k:Nat) (a0:Ty.d jR):Rs :=
 ((ap.f k a0).bind fun r1 =>
 ((an.f k r1.1 r1.2.1).bind fun r2 =>
 (some r2)))
def f (k:Nat):=t k
end aj
namespace fV
abbrev Rs:Type:=Option (Bool × Unit)
def t (k:Nat) (a0:Ty.d b7):Rs :=
 (bif (a0.1==1) then
 (bif (a0.1==1) then
 ((gH.f k a0.2.2.1).bind fun r1 =>
 (bif r1.1 then
 (bif (decide ((ByteArray.size a0.2.2.2.1:Int)≤24)) then
 ((ax.f k a0.2.1 1 1000000).bind fun r2 =>
 (bif r2.1 then
 (some (((a0.1==a0.1)&&((a0.2.1==a0.2.1)&&((seq a0.2.2.1 a0.2.2.1)&&((seq a0.2.2.2.1 a0.2.2.2.1)&&((a0.2.2.2.2.1==0)&&(a0.2.2.2.2.2.1==0)))))),()))
 else
 (some (false,()))))
 else
 (some (false,())))
 else
 (some (false,()))))
 else
 (bif (a0.1==2) then
 ((gH.f k a0.2.2.1).bind fun r3 =>
 (bif r3.1 then
 ((ax.f k a0.2.1 1 1000000).bind fun r4 =>
 (bif r4.1 then
 (some (((a0.1==a0.1)&&((a0.2.1==a0.2.1)&&((seq a0.2.2.1 a0.2.2.1)&&((seq a0.2.2.2.1 ByteArray.empty)&&((a0.2.2.2.2.1==0)&&(a0.2.2.2.2.2.1==0)))))),()))
 else
 (some (false,()))))
 else
 (some (false,()))))
 else
 (bif (a0.1==3) then
 ((ax.f k a0.2.2.2.2.1 0 8).bind fun r5 =>
 (bif r5.1 then
 ((ax.f k a0.2.2.2.2.2.1 0 4294967295).bind fun r6 =>
 (bif r6.1 then
 ((ax.f k a0.2.1 1 1000000).bind fun r7 =>
 (bif r7.1 then
 (some (((a0.1==a0.1)&&((a0.2.1==a0.2.1)&&((seq a0.2.2.1 ByteArray.empty)&&((seq a0.2.2.2.1 ByteArray.empty)&&((a0.2.2.2.2.1==a0.2.2.2.2.1)&&(a0.2.2.2.2.2.1==a0.2.2.2.2.2.1)))))),()))
 else
 (some (false,()))))
 else
 (some (false,()))))
 else
 (some (false,()))))
 else
 (bif (a0.1==5) then
 ((ax.f k a0.2.2.2.2.1 0 20).bind fun r8 =>
 (bif r8.1 then
 ((ax.f k a0.2.2.2.2.2.1 0 4294967295).bind fun r9 =>
 (bif r9.1 then
 ((ax.f k a0.2.1 0 1000000).bind fun r10 =>
 (bif r10.1 then
 (some (((a0.1==a0.1)&&((a0.2.1==a0.2.1)&&((seq a0.2.2.1 ByteArray.empty)&&((seq a0.2.2.2.1 ByteArray.empty)&&((a0.2.2.2.2.1==a0.2.2.2.2.1)&&(a0.2.2.2.2.2.1==a0.2.2.2.2.2.1)))))),()))
 else
 (some (false,()))))
 else
 (some (false,()))))
 else
 (some (false,()))))
 else
 (some (false,()))))))
 else
 (bif (a0.1==4) then
 ((gH.f k a0.2.2.1).bind fun r11 =>
 (bif r11.1 then
 (bif (decide ((ByteArray.size a0.2.2.2.1:Int)≤24)) then
 ((ax.f k a0.2.1 1 1000000).bind fun r12 =>
 (bif r12.1 then
 (some (((a0.1==a0.1)&&((a0.2.1==a0.2.1)&&((seq a0.2.2.1 a0.2.2.1)&&((seq a0.2.2.2.1 a0.2.2.2.1)&&((a0.2.2.2.2.1==0)&&(a0.2.2.2.2.2.1==0)))))),()))
 else
 (some (false,()))))
 else
 (some (false,())))
 else
 (some (false,()))))
 else
 (bif (a0.1==2) then
 ((gH.f k a0.2.2.1).bind fun r13 =>
 (bif r13.1 then
 ((ax.f k a0.2.1 1 1000000).bind fun r14 =>
 (bif r14.1 then
 (some (((a0.1==a0.1)&&((a0.2.1==a0.2.1)&&((seq a0.2.2.1 a0.2.2.1)&&((seq a0.2.2.2.1 ByteArray.empty)&&((a0.2.2.2.2.1==0)&&(a0.2.2.2.2.2.1==0)))))),()))
 else
 (some (false,()))))
 else
 (some (false,()))))
 else
 (bif (a0.1==3) then
 ((ax.f k a0.2.2.2.2.1 0 8).bind fun r15 =>
 (bif r15.1 then
 ((ax.f k a0.2.2.2.2.2.1 0 4294967295).bind fun r16 =>
 (bif r16.1 then
 ((ax.f k a0.2.1 1 1000000).bind fun r17 =>
 (bif r17.1 then
 (some (((a0.1==a0.1)&&((a0.2.1==a0.2.1)&&((seq a0.2.2.1 ByteArray.empty)&&((seq a0.2.2.2.1 ByteArray.empty)&&((a0.2.2.2.2.1==a0.2.2.2.2.1)&&(a0.2.2.2.2.2.1==a0.2.2.2.2.2.1)))))),()))
 else
 (some (false,()))))
 else
 (some (false,()))))
 else
 (some (false,()))))
 else
 (bif (a0.1==5) then
 ((ax.f k a0.2.2.2.2.1 0 20).bind fun r18 =>
 (bif r18.1 then
 ((ax.f k a0.2.2.2.2.2.1 0 4294967295).bind fun r19 =>
 (bif r19.1 then
 ((ax.f k a0.2.1 0 1000000).bind fun r20 =>
 (bif r20.1 then
 (some (((a0.1==a0.1)&&((a0.2.1==a0.2.1)&&((seq a0.2.2.1 ByteArray.empty)&&((seq a0.2.2.2.1 ByteArray.empty)&&((a0.2.2.2.2.1==a0.2.2.2.2.1)&&(a0.2.2.2.2.2.1==a0.2.2.2.2.2.1)))))),()))
 else
 (some (false,()))))
 else
 (some (false,()))))
 else
 (some (false,()))))
 else
 (some (false,())))))))
def f (k:Nat):=t k
end fV
namespace bd
abbrev Rs:Type:=Option (Int × Bool × Unit)
abbrev T0:Type:=ByteArray→Int→Int→Int→Rs
def b0 (k:Nat) (L0:T0):T0:=fun x0 x1 x2 x3 =>
 (bif (decide (x3<x2)) then
 (bF x3 (ByteArray.size x0:Int)
 (L0 x0 (aJ (((BitVec.ofInt (IntKind.bits .i64) (aJ (x1*2 ^ (min (Int.toNat 8) (IntKind.bits .i64)))) ||| BitVec.ofInt (IntKind.bits .i64) (aJ (di x0 x3))).toNat:Int))) x2 (aJ (x3+1))))
 else
 (some (x1,(true,()))))
def l0 (k:Nat):Nat→T0
 | 0=>fun _ _ _ _=>none
 | n+1=>b0 k (l0 k n)
def t (k:Nat) (L0:T0) (a0:ByteArray) (a1:Int):Rs :=
 ((ax.f k a1 1 7).bind fun r1 =>
 (bif (!r1.1) then
 (some (0,(false,())))
 else
 (bif (decide ((ByteArray.size a0:Int)<a1)) then
 (some (0,(false,())))
 else
 (L0 a0 0 a1 0))))
def f (k:Nat):=t k (l0 k k)
end bd
namespace cV
abbrev Rs:Type:=Option ((Ty.d b7) × Bool × Unit)
def t (k:Nat) (a0:ByteArray):Rs :=
 ((ap.f k (a0,(false,()))).bind fun r1 =>
 ((ap.f k r1.1).bind fun r2 =>
 (bif (r1.2.1==1) then
 (bif (r1.2.1==1) then
 ((aj.f k r2.1).bind fun r3 =>
 ((aj.f k r3.1).bind fun r4 =>
 (bif r4.1.2.1 then
 (some ((0,(0,(ByteArray.empty,(ByteArray.empty,(0,(0,())))))),(false,())))
 else
 (bif (!(seq r4.1.1 (⟨#[]⟩:ByteArray))) then
 (some ((0,(0,(ByteArray.empty,(ByteArray.empty,(0,(0,())))))),(false,())))
 else
 ((fV.f k (r1.2.1,(r2.2.1,(r3.2.1,(r4.2.1,(0,(0,()))))))).bind fun r5 =>
 (bif (!r5.1) then
 (some ((0,(0,(ByteArray.empty,(ByteArray.empty,(0,(0,())))))),(false,())))
 else
 (some ((r1.2.1,(r2.2.1,(r3.2.1,(r4.2.1,(0,(0,())))))),(true,())))))))))
 else
 (bif (r1.2.1==2) then
 ((aj.f k r2.1).bind fun r6 =>
 (bif r6.1.2.1 then
 (some ((0,(0,(ByteArray.empty,(ByteArray.empty,(0,(0,())))))),(false,())))
 else
 (bif (!(seq r6.1.1 (⟨#[]⟩:ByteArray))) then
 (some ((0,(0,(ByteArray.empty,(ByteArray.empty,(0,(0,())))))),(false,())))
 else
 ((fV.f k (r1.2.1,(r2.2.1,(r6.2.1,(ByteArray.empty,(0,(0,()))))))).bind fun r7 =>
 (bif (!r7.1) then
 (some ((0,(0,(ByteArray.empty,(ByteArray.empty,(0,(0,())))))),(false,())))
 else
 (some ((r1.2.1,(r2.2.1,(r6.2.1,(ByteArray.empty,(0,(0,())))))),(true,()))))))))
 else
 ((ap.f k r2.1).bind fun r8 =>
 ((an.f k r8.1 4).bind fun r9 =>
 ((bd.f k r9.2.1 4).bind fun r10 =>
 (bif r9.1.2.1 then
 (some ((0,(0,(ByteArray.empty,(ByteArray.empty,(0,(0,())))))),(false,())))
 else
 (bif (!(seq r9.1.1 (⟨#[]⟩:ByteArray))) then
 (some ((0,(0,(ByteArray.empty,(ByteArray.empty,(0,(0,())))))),(false,())))
 else
 ((fV.f k (r1.2.1,(r2.2.1,(ByteArray.empty,(ByteArray.empty,(r8.2.1,(r10.1,()))))))).bind fun r11 =>
 (bif (!r11.1) then
 (some ((0,(0,(ByteArray.empty,(ByteArray.empty,(0,(0,())))))),(false,())))
 else
 (some ((r1.2.1,(r2.2.1,(ByteArray.empty,(ByteArray.empty,(r8.2.1,(r10.1,())))))),(true,()))))))))))))
 else
 (bif (r1.2.1==4) then
 ((aj.f k r2.1).bind fun r12 =>
 ((aj.f k r12.1).bind fun r13 =>
 (bif r13.1.2.1 then
 (some ((0,(0,(ByteArray.empty,(ByteArray.empty,(0,(0,())))))),(false,())))
 else
 (bif (!(seq r13.1.1 (⟨#[]⟩:ByteArray))) then
 (some ((0,(0,(ByteArray.empty,(ByteArray.empty,(0,(0,())))))),(false,())))
 else
 ((fV.f k (r1.2.1,(r2.2.1,(r12.2.1,(r13.2.1,(0,(0,()))))))).bind fun r14 =>
 (bif (!r14.1) then
 (some ((0,(0,(ByteArray.empty,(ByteArray.empty,(0,(0,())))))),(false,())))
 else
 (some ((r1.2.1,(r2.2.1,(r12.2.1,(r13.2.1,(0,(0,())))))),(true,())))))))))
 else
 (bif (r1.2.1==2) then
 ((aj.f k r2.1).bind fun r15 =>
 (bif r15.1.2.1 then
 (some ((0,(0,(ByteArray.empty,(ByteArray.empty,(0,(0,())))))),(false,())))
 else
 (bif (!(seq r15.1.1 (⟨#[]⟩:ByteArray))) then
 (some ((0,(0,(ByteArray.empty,(ByteArray.empty,(0,(0,())))))),(false,())))
 else
 ((fV.f k (r1.2.1,(r2.2.1,(r15.2.1,(ByteArray.empty,(0,(0,()))))))).bind fun r16 =>
 (bif (!r16.1) then
 (some ((0,(0,(ByteArray.empty,(ByteArray.empty,(0,(0,())))))),(false,())))
 else
 (some ((r1.2.1,(r2.2.1,(r15.2.1,(ByteArray.empty,(0,(0,())))))),(true,()))))))))
 else
 ((ap.f k r2.1).bind fun r17 =>
 ((an.f k r17.1 4).bind fun r18 =>
 ((bd.f k r18.2.1 4).bind fun r19 =>
 (bif r18.1.2.1 then
 (some ((0,(0,(ByteArray.empty,(ByteArray.empty,(0,(0,())))))),(false,())))
 else
 (bif (!(seq r18.1.1 (⟨#[]⟩:ByteArray))) then
 (some ((0,(0,(ByteArray.empty,(ByteArray.empty,(0,(0,())))))),(false,())))
 else
 ((fV.f k (r1.2.1,(r2.2.1,(ByteArray.empty,(ByteArray.empty,(r17.2.1,(r19.1,()))))))).bind fun r20 =>
 (bif (!r20.1) then
 (some ((0,(0,(ByteArray.empty,(ByteArray.empty,(0,(0,())))))),(false,())))
 else
 (some ((r1.2.1,(r2.2.1,(ByteArray.empty,(ByteArray.empty,(r17.2.1,(r19.1,())))))),(true,())))))))))))))))
def f (k:Nat):=t k
end cV
namespace dK
abbrev Rs:Type:=Option ((List (Ty.d c_)) × Int × Unit)
abbrev T0:Type:=ByteArray→Int→List (Ty.d c_)→Rs
def b0 (k:Nat) (L0:T0):T0:=fun x0 x1 x2 =>
 (pJ x1 (ByteArray.size x0:Int)
 ((e_.f k (ByteArray.extract x0 (Int.toNat x1) (ByteArray.size x0))).bind fun r1 =>
 ((cV.f k r1.1).bind fun r2 =>
 (bif (r1.2.1==0) then
 (some (x2,(x1,())))
 else
 (bif (!r2.2.1) then
 (some (x2,(x1,())))
 else
 (rm (Ty.bytes c_) (List.length x2+1)
 (L0 x0 (aJ (x1+r1.2.1)) (x2++[(x1,(r1.2.1,(r2.1,())))]))))))))
def l0 (k:Nat):Nat→T0
 | 0=>fun _ _ _=>none
 | n+1=>b0 k (l0 k n)
def t (k:Nat) (L0:T0) (a0:ByteArray):Rs :=
 (L0 a0 0 [])
def f (k:Nat):=t k (l0 k k)
end dK
namespace ii
abbrev Rs:Type:=Option ((Ty.d b7) × Bool × Unit)
def t (k:Nat) (a0:ByteArray) (a1:Int) (a2:Int):Rs :=
 ((ax.f k a1 0 (ByteArray.size a0:Int)).bind fun r1 =>
 (bif (!r1.1) then
 (some ((0,(0,(ByteArray.empty,(ByteArray.empty,(0,(0,())))))),(false,())))
 else
 ((ax.f k a2 0 (aJ ((ByteArray.size a0:Int)-a1))).bind fun r2 =>
 (bif (!r2.1) then
 (some ((0,(0,(ByteArray.empty,(ByteArray.empty,(0,(0,())))))),(false,())))
 else
 (Cb a1 (aJ (a1+a2)) (ByteArray.size a0:Int)
 ((e_.f k (ByteArray.extract a0 (Int.toNat a1) (Int.toNat (aJ (a1+a2))))).bind fun r3 =>
 (bif (r3.2.1==0) then
 (some ((0,(0,(ByteArray.empty,(ByteArray.empty,(0,(0,())))))),(false,())))
 else
 (bif (r3.2.1 != a2) then
 (some ((0,(0,(ByteArray.empty,(ByteArray.empty,(0,(0,())))))),(false,())))
 else
 ((cV.f k r3.1).bind fun r4 =>
 (some r4))))))))))
def f (k:Nat):=t k
end ii
namespace cU
abbrev Rs:Type:=Option (Bool × Unit)
abbrev T1:Type:=List (Ty.d aB)→Int→Int→Int→List Int→List (Ty.d aB)→Int→Int→Int→List (Ty.d aL)→Int→Int→Bool→Rs
abbrev T0:Type:=List Int→Int→Int→Int→List Int→List (Ty.d aB)→Int→Int→Int→List (Ty.d aL)→Int→Int→Bool→Rs
def b1 (k:Nat) (L1:T1):T1:=fun x0 x1 x2 x3 x4 x5 x6 x7 x8 x9 x10 x11 x12 =>
 (bif (decide (x2<x1)) then
 (bF x2 (x0.length:Int)
 ((fq.f k (List.getD x0 (Int.toNat x2) (Ty.z aB)).2.1).bind fun r8 =>
 ((fO.f k (x9,(x10,(x11,(x12,())))) r8.1).bind fun r9 =>
 ((ii.f k r9.1 (List.getD x0 (Int.toNat x2) (Ty.z aB)).2.2.1 (List.getD x0 (Int.toNat x2) (Ty.z aB)).2.2.2.1).bind fun r10 =>
 (bif (!r10.2.1) then
 (some (false,()))
 else
 (bif (r10.1.1 != 1) then
 (bif (r10.1.1 != 4) then
 (some (false,()))
 else
 (bif (!(seq r10.1.2.2.1 (List.getD x0 (Int.toNat x2) (Ty.z aB)).1)) then
 (some (false,()))
 else
 (bif (r10.1.2.1 != (List.getD x0 (Int.toNat x2) (Ty.z aB)).2.2.2.2.1) then
 (some (false,()))
 else
 (bif (decide ((List.getD x0 (Int.toNat x2) (Ty.z aB)).2.2.2.2.1≥x6)) then
 (some (false,()))
 else
 (L1 x0 x1 (aJ (x2+1)) x3 x4 x5 x6 x7 x8 x9 x10 x11 x12)))))
 else
 (bif (!(seq r10.1.2.2.1 (List.getD x0 (Int.toNat x2) (Ty.z aB)).1)) then
 (some (false,()))
 else
 (bif (r10.1.2.1 != (List.getD x0 (Int.toNat x2) (Ty.z aB)).2.2.2.2.1) then
 (some (false,()))
 else
 (bif (decide ((List.getD x0 (Int.toNat x2) (Ty.z aB)).2.2.2.2.1≥x6)) then
 (some (false,()))
 else
 (L1 x0 x1 (aJ (x2+1)) x3 x4 x5 x6 x7 x8 x9 x10 x11 x12))))))))))
 else
 (some (true,())))
def l1 (k:Nat):Nat→T1
 | 0=>fun _ _ _ _ _ _ _ _ _ _ _ _ _=>none
 | n+1=>b1 k (l1 k n)
def b0 (k:Nat) (L1:T1) (L0:T0):T0:=fun x0 x1 x2 x3 x4 x5 x6 x7 x8 x9 x10 x11 x12 =>
 (bif (decide (x2<x1)) then
 (bF x2 (x0.length:Int)
 ((fq.f k (List.getD x0 (Int.toNat x2) (Ty.z (.int .i64)))).bind fun r5 =>
 ((fO.f k (x9,(x10,(x11,(x12,())))) r5.1).bind fun r6 =>
 ((dK.f k r6.1).bind fun r7 =>
 (bif (!r6.2.1) then
 (some (false,()))
 else
 (bif (r7.2.1 != (ByteArray.size r6.1:Int)) then
 (some (false,()))
 else
 (bif (x2==(aJ ((x4.length:Int)-1))) then
 (bif (x7 != r7.2.1) then
 (some (false,()))
 else
 (L0 x0 x1 (aJ (x2+1)) x3 x4 x5 x6 x7 x8 x9 x10 x11 x12))
 else
 (L0 x0 x1 (aJ (x2+1)) x3 x4 x5 x6 x7 x8 x9 x10 x11 x12))))))))
 else
 (L1 x5 (x5.length:Int) 0 x3 x4 x5 x6 x7 x8 x9 x10 x11 x12))
def l0 (k:Nat):Nat→T0
 | 0=>fun _ _ _ _ _ _ _ _ _ _ _ _ _=>none
 | n+1=>b0 k (l1 k k) (l0 k n)
def t (k:Nat) (L0:T0) (a0:Ty.d aE) (a1:Ty.d aA):Rs :=
 ((db.f k a1).bind fun r1 =>
 (bif (!r1.1) then
 (some (false,()))
 else
 ((da.f k a0.1).bind fun r2 =>
 (bif (!r2.1) then
 (some (false,()))
 else
 ((fU.f k a0.2.1).bind fun r3 =>
 (bif (!r3.1) then
 (some (false,()))
 else
 ((ax.f k a0.2.2.1 1 1000001).bind fun r4 =>
 (bif (!r4.1) then
 (some (false,()))
 else
 (L0 a0.1.2.1 (List.length a0.1.2.1:Int) 0 a0.1.1 a0.1.2.1 a0.2.1 a0.2.2.1 a0.2.2.2.1 a0.2.2.2.2.1 a1.1 a1.2.1 a1.2.2.1 a1.2.2.2.1)))))))))
def f (k:Nat):=t k (l0 k k)
end cU
namespace gR
abbrev Rs:Type:=Option (ByteArray × Unit)
abbrev T0:Type:=Int→List (Ty.d dE)→Int→Int→Rs
def b0 (k:Nat) (L0:T0):T0:=fun x0 x1 x2 x3 =>
 (bif (decide (x3<x2)) then
 (bF x3 (x1.length:Int)
 (bif ((List.getD x1 (Int.toNat x3) (Ty.z dE)).1==x0) then
 (some (List.getD x1 (Int.toNat x3) (Ty.z dE)).2)
 else
 (L0 x0 x1 x2 (aJ (x3+1)))))
 else
 (some ((⟨#[]⟩:ByteArray),())))
def l0 (k:Nat):Nat→T0
 | 0=>fun _ _ _ _=>none
 | n+1=>b0 k (l0 k n)
def t (k:Nat) (L0:T0) (a0:Ty.d ay) (a1:Int):Rs :=
 (L0 a1 a0.2.1 (List.length a0.2.1:Int) 0)
def f (k:Nat):=t k (l0 k k)
end gR
namespace dA
abbrev Rs:Type:=Option ((Ty.d ja) × Unit)
abbrev T0:Type:=List Int→Int→Int→List (Ty.d aL)→Int→Int→Bool→Int→List (Ty.d dE)→List (Ty.d mN)→Int→List (Ty.d mN)→Int→Rs
def b0 (k:Nat) (L0:T0):T0:=fun x0 x1 x2 x3 x4 x5 x6 x7 x8 x9 x10 x11 x12 =>
 (bif (decide (x2<x1)) then
 (bF x2 (x0.length:Int)
 ((fq.f k (List.getD x0 (Int.toNat x2) (Ty.z (.int .i64)))).bind fun r2 =>
 ((fO.f k (x3,(x4,(x5,(x6,())))) r2.1).bind fun r3 =>
 ((gR.f k (x7,(x8,())) (List.getD x0 (Int.toNat x2) (Ty.z (.int .i64)))).bind fun r4 =>
 ((h_.f k r3.1 r4.1).bind fun r5 =>
 (bif r5.1 then
 (pJ (ByteArray.size r4.1:Int) (ByteArray.size r3.1:Int)
 (rm (Ty.bytes mN) (List.length x11+1)
 (L0 x0 x1 (aJ (x2+1)) x3 x4 x5 x6 x7 x8 x9 x10 (x11++[((List.getD x0 (Int.toNat x2) (Ty.z (.int .i64))),((ByteArray.size r4.1:Int),((ByteArray.extract r3.1 (Int.toNat (ByteArray.size r4.1:Int)) (ByteArray.size r3.1)),())))]) x12)))
 else
 (rm (Ty.bytes mN) (List.length x11+1)
 (L0 x0 x1 (aJ (x2+1)) x3 x4 x5 x6 x7 x8 x9 x10 (x11++[((List.getD x0 (Int.toNat x2) (Ty.z (.int .i64))),(0,(r3.1,())))]) x12))))))))
 else
 (some ((x12,(x11,())),())))
def l0 (k:Nat):Nat→T0
 | 0=>fun _ _ _ _ _ _ _ _ _ _ _ _ _=>none
 | n+1=>b0 k (l0 k n)
def t (k:Nat) (L0:T0) (a0:Ty.d aE) (a1:Ty.d aA) (a2:Ty.d ay):Rs :=
 ((cU.f k a0 a1).bind fun r1 =>
 (bif (!r1.1) then
 (some ((0,([],())),()))
 else
 (L0 a0.1.2.1 (List.length a0.1.2.1:Int) 0 a1.1 a1.2.1 a1.2.2.1 a1.2.2.2.1 a2.1 a2.2.1 [] 0 [] a0.1.1)))
def f (k:Nat):=t k (l0 k k)
end dA
namespace bK
abbrev Rs:Type:=Option ((Ty.d ay) × Bool × Unit)
abbrev T0:Type:=List (Ty.d mN)→Int→Int→Int→List (Ty.d dE)→List (Ty.d dE)→Int→List (Ty.d dE)→Int→List (Ty.d dE)→Int→List Int→Int→Rs
def b0 (k:Nat) (L0:T0):T0:=fun x0 x1 x2 x3 x4 x5 x6 x7 x8 x9 x10 x11 x12 =>
 (bif (decide (x2<x1)) then
 (bF x2 (x0.length:Int)
 ((gR.f k (x3,(x4,())) (List.getD x0 (Int.toNat x2) (Ty.z mN)).1).bind fun r1 =>
 ((ax.f k (List.getD x0 (Int.toNat x2) (Ty.z mN)).2.1 0 (ByteArray.size r1.1:Int)).bind fun r2 =>
 (bif (!r2.1) then
 (some ((x8,(x7,())),(false,())))
 else
 (pJ (List.getD x0 (Int.toNat x2) (Ty.z mN)).2.1 (ByteArray.size r1.1:Int)
 (ke (ByteArray.extract r1.1 0 (Int.toNat (List.getD x0 (Int.toNat x2) (Ty.z mN)).2.1)) (List.getD x0 (Int.toNat x2) (Ty.z mN)).2.2.1
 (rm (Ty.bytes dE) (List.length x9+1)
 (rm (Ty.bytes (.int .i64)) (List.length x11+1)
 (L0 x0 x1 (aJ (x2+1)) x3 x4 x5 x6 x7 x8 (x9++[((List.getD x0 (Int.toNat x2) (Ty.z mN)).1,(((ByteArray.extract r1.1 0 (Int.toNat (List.getD x0 (Int.toNat x2) (Ty.z mN)).2.1))++(List.getD x0 (Int.toNat x2) (Ty.z mN)).2.2.1),()))]) x10 (x11++[(List.getD x0 (Int.toNat x2) (Ty.z mN)).1]) x12)))))))))
 else
 ((da.f k (x12,(x11,()))).bind fun r3 =>
 (bif (!r3.1) then
 (some ((x8,(x7,())),(false,())))
 else
 (some ((x10,(x9,())),(true,()))))))
def l0 (k:Nat):Nat→T0
 | 0=>fun _ _ _ _ _ _ _ _ _ _ _ _ _=>none
 | n+1=>b0 k (l0 k n)
def t (k:Nat) (L0:T0) (a0:Ty.d ay) (a1:Ty.d ja):Rs :=
 (rm (Ty.bytes dE) (List.length a0.2.1)
 (L0 a1.2.1 (List.length a1.2.1:Int) 0 a0.1 a0.2.1 [] 0 a0.2.1 a0.1 [] a1.1 [] a1.1))
def f (k:Nat):=t k (l0 k k)
end bK
namespace c9
abbrev Rs:Type:=Option (Int × Unit)
abbrev T0:Type:=Int→List (Ty.d mN)→Int→Int→Rs
def b0 (k:Nat) (L0:T0):T0:=fun x0 x1 x2 x3 =>
 (bif (decide (x3<x2)) then
 (bF x3 (x1.length:Int)
 (L0 (aJ (x0+(ByteArray.size (List.getD x1 (Int.toNat x3) (Ty.z mN)).2.2.1:Int))) x1 x2 (aJ (x3+1))))
 else
 (some (x0,())))
def l0 (k:Nat):Nat→T0
 | 0=>fun _ _ _ _=>none
 | n+1=>b0 k (l0 k n)
def t (k:Nat) (L0:T0) (a0:Ty.d ja):Rs :=
 (L0 0 a0.2.1 (List.length a0.2.1:Int) 0)
def f (k:Nat):=t k (l0 k k)
end c9
namespace fY
abbrev Rs:Type:=Option ((List (Ty.d aC)) × Unit)
abbrev T0:Type:=Int→List (Ty.d c_)→Int→Int→List (Ty.d aC)→Rs
def b0 (k:Nat) (L0:T0):T0:=fun x0 x1 x2 x3 x4 =>
 (bif (decide (x3<x2)) then
 (bF x3 (x1.length:Int)
 (rm (Ty.bytes aC) (List.length x4+1)
 (L0 x0 x1 x2 (aJ (x3+1)) (x4++[(x0,(List.getD x1 (Int.toNat x3) (Ty.z c_)))]))))
 else
 (some (x4,())))
def l0 (k:Nat):Nat→T0
 | 0=>fun _ _ _ _ _=>none
 | n+1=>b0 k (l0 k n)
def t (k:Nat) (L0:T0) (a0:Int) (a1:List (Ty.d c_)):Rs :=
 (L0 a0 a1 (List.length a1:Int) 0 [])
def f (k:Nat):=t k (l0 k k)
end fY
namespace eE
abbrev Rs:Type:=Option ((List (Ty.d aB)) × Unit)
def t (k:Nat) (a0:List (Ty.d aB)):Rs :=
 (rm (Ty.bytes aB) (List.length a0)
 (some (a0,())))
def f (k:Nat):=t k
end eE
namespace ch
abbrev Rs:Type:=Option ((List (Ty.d aC)) × Unit)
abbrev T0:Type:=List (Ty.d aC)→Int→Int→Int→Int→ByteArray→ByteArray→Int→Int→List (Ty.d aC)→Rs
def b0 (k:Nat) (L0:T0):T0:=fun x0 x1 x2 x3 x4 x5 x6 x7 x8 x9 =>
 (bif (decide (x2<x1)) then
 (bF x2 (x0.length:Int)
 (bif (x3==3) then
 (bif ((List.getD x0 (Int.toNat x2) (Ty.z aC)).2.2.2.1.2.1 != x4) then
 (L0 x0 x1 (aJ (x2+1)) x3 x4 x5 x6 x7 x8 x9)
 else
 (bif ((List.getD x0 (Int.toNat x2) (Ty.z aC)).2.2.2.1.1==x3) then
 (L0 x0 x1 (aJ (x2+1)) x3 x4 x5 x6 x7 x8 [])
 else
 (bif (x3==3) then
 (bif ((List.getD x0 (Int.toNat x2) (Ty.z aC)).2.2.2.1.1==1) then
 (rm (Ty.bytes aC) (List.length x9+1)
 (L0 x0 x1 (aJ (x2+1)) x3 x4 x5 x6 x7 x8 (x9++[(List.getD x0 (Int.toNat x2) (Ty.z aC))])))
 else
 (bif ((List.getD x0 (Int.toNat x2) (Ty.z aC)).2.2.2.1.1==2) then
 (bif ((List.getD x0 (Int.toNat x2) (Ty.z aC)).2.2.2.1.1==2) then
 (rm (Ty.bytes aC) (List.length x9+1)
 (L0 x0 x1 (aJ (x2+1)) x3 x4 x5 x6 x7 x8 (x9++[(List.getD x0 (Int.toNat x2) (Ty.z aC))])))
 else
 (L0 x0 x1 (aJ (x2+1)) x3 x4 x5 x6 x7 x8 x9))
 else
 (bif (x3==5) then
 (bif ((List.getD x0 (Int.toNat x2) (Ty.z aC)).2.2.2.1.1==4) then
 (rm (Ty.bytes aC) (List.length x9+1)
 (L0 x0 x1 (aJ (x2+1)) x3 x4 x5 x6 x7 x8 (x9++[(List.getD x0 (Int.toNat x2) (Ty.z aC))])))
 else
 (L0 x0 x1 (aJ (x2+1)) x3 x4 x5 x6 x7 x8 x9))
 else
 (L0 x0 x1 (aJ (x2+1)) x3 x4 x5 x6 x7 x8 x9))))
 else
 (bif (x3==5) then
 (bif ((List.getD x0 (Int.toNat x2) (Ty.z aC)).2.2.2.1.1==4) then
 (rm (Ty.bytes aC) (List.length x9+1)
 (L0 x0 x1 (aJ (x2+1)) x3 x4 x5 x6 x7 x8 (x9++[(List.getD x0 (Int.toNat x2) (Ty.z aC))])))
 else
 (L0 x0 x1 (aJ (x2+1)) x3 x4 x5 x6 x7 x8 x9))
 else
 (L0 x0 x1 (aJ (x2+1)) x3 x4 x5 x6 x7 x8 x9)))))
 else
 (bif ((List.getD x0 (Int.toNat x2) (Ty.z aC)).2.2.2.1.1==x3) then
 (L0 x0 x1 (aJ (x2+1)) x3 x4 x5 x6 x7 x8 [])
 else
 (bif (x3==3) then
 (bif ((List.getD x0 (Int.toNat x2) (Ty.z aC)).2.2.2.1.1==1) then
 (rm (Ty.bytes aC) (List.length x9+1)
 (L0 x0 x1 (aJ (x2+1)) x3 x4 x5 x6 x7 x8 (x9++[(List.getD x0 (Int.toNat x2) (Ty.z aC))])))
 else
 (bif ((List.getD x0 (Int.toNat x2) (Ty.z aC)).2.2.2.1.1==2) then
 (bif ((List.getD x0 (Int.toNat x2) (Ty.z aC)).2.2.2.1.1==2) then
 (rm (Ty.bytes aC) (List.length x9+1)
 (L0 x0 x1 (aJ (x2+1)) x3 x4 x5 x6 x7 x8 (x9++[(List.getD x0 (Int.toNat x2) (Ty.z aC))])))
 else
 (L0 x0 x1 (aJ (x2+1)) x3 x4 x5 x6 x7 x8 x9))
 else
 (bif (x3==5) then
 (bif ((List.getD x0 (Int.toNat x2) (Ty.z aC)).2.2.2.1.1==4) then
 (rm (Ty.bytes aC) (List.length x9+1)
 (L0 x0 x1 (aJ (x2+1)) x3 x4 x5 x6 x7 x8 (x9++[(List.getD x0 (Int.toNat x2) (Ty.z aC))])))
 else
 (L0 x0 x1 (aJ (x2+1)) x3 x4 x5 x6 x7 x8 x9))
 else
 (L0 x0 x1 (aJ (x2+1)) x3 x4 x5 x6 x7 x8 x9))))
 else
 (bif (x3==5) then
 (bif ((List.getD x0 (Int.toNat x2) (Ty.z aC)).2.2.2.1.1==4) then
 (rm (Ty.bytes aC) (List.length x9+1)
 (L0 x0 x1 (aJ (x2+1)) x3 x4 x5 x6 x7 x8 (x9++[(List.getD x0 (Int.toNat x2) (Ty.z aC))])))
 else
 (L0 x0 x1 (aJ (x2+1)) x3 x4 x5 x6 x7 x8 x9))
 else
 (L0 x0 x1 (aJ (x2+1)) x3 x4 x5 x6 x7 x8 x9))))))
 else
 (some (x9,())))
def l0 (k:Nat):Nat→T0
 | 0=>fun _ _ _ _ _ _ _ _ _ _=>none
 | n+1=>b0 k (l0 k n)
def t (k:Nat) (L0:T0) (a0:List (Ty.d aC)) (a1:Ty.d b7):Rs :=
 (L0 a0 (List.length a0:Int) 0 a1.1 a1.2.1 a1.2.2.1 a1.2.2.2.1 a1.2.2.2.2.1 a1.2.2.2.2.2.1 [])
def f (k:Nat):=t k (l0 k k)
end ch
namespace iz
abbrev Rs:Type:=Option (ByteArray × Unit)
abbrev T0:Type:=ByteArray→List Int→Int→Int→Rs
def b0 (k:Nat) (L0:T0):T0:=fun x0 x1 x2 x3 =>
 (bif (decide (x3<x2)) then
 (bF x3 (x1.length:Int)
 ((fC.f k (List.getD x1 (Int.toNat x3) (Ty.z (.int .i64)))).bind fun r1 =>
 (ke x0 r1.1
 (L0 (x0++r1.1) x1 x2 (aJ (x3+1))))))
 else
 (some (x0,())))
def l0 (k:Nat):Nat→T0
 | 0=>fun _ _ _ _=>none
 | n+1=>b0 k (l0 k n)
def t (k:Nat) (L0:T0) (a0:List Int):Rs :=
 (L0 (⟨#[]⟩:ByteArray) a0 (List.length a0:Int) 0)
def f (k:Nat):=t k (l0 k k)
end iz
namespace iU
abbrev Rs:Type:=Option (ByteArray × Unit)
def t (k:Nat) (a0:Ty.d b7):Rs :=
 ((fV.f k a0).bind fun r1 =>
 (bif (!r1.1) then
 (some ((⟨#[]⟩:ByteArray),()))
 else
 ((iz.f k [a0.1,a0.2.1]).bind fun r2 =>
 (bif (a0.1==1) then
 (bif (a0.1==1) then
 ((eY.f k a0.2.2.1).bind fun r3 =>
 (ke r2.1 r3.1
 ((eY.f k a0.2.2.2.1).bind fun r4 =>
 (ke (r2.1++r3.1) r4.1
 (some (((r2.1++r3.1)++r4.1),()))))))
 else
 (bif (a0.1==2) then
 ((eY.f k a0.2.2.1).bind fun r5 =>
 (ke r2.1 r5.1
 (some ((r2.1++r5.1),()))))
 else
 ((fC.f k a0.2.2.2.2.1).bind fun r6 =>
 (ke r2.1 r6.1
 ((df.f k a0.2.2.2.2.2.1 4).bind fun r7 =>
 (ke (r2.1++r6.1) r7.1
 (some (((r2.1++r6.1)++r7.1),()))))))))
 else
 (bif (a0.1==4) then
 ((eY.f k a0.2.2.1).bind fun r8 =>
 (ke r2.1 r8.1
 ((eY.f k a0.2.2.2.1).bind fun r9 =>
 (ke (r2.1++r8.1) r9.1
 (some (((r2.1++r8.1)++r9.1),()))))))
 else
 (bif (a0.1==2) then
 ((eY.f k a0.2.2.1).bind fun r10 =>
 (ke r2.1 r10.1
 (some ((r2.1++r10.1),()))))
 else
 ((fC.f k a0.2.2.2.2.1).bind fun r11 =>
 (ke r2.1 r11.1
 ((df.f k a0.2.2.2.2.2.1 4).bind fun r12 =>
 (ke (r2.1++r11.1) r12.1
 (some (((r2.1++r11.1)++r12.1),()))))))))))))
def f (k:Nat):=t k
end iU
namespace iB
abbrev Rs:Type:=Option (Int × Unit)
abbrev T0:Type:=ByteArray→List (Ty.d b7)→Int→Int→Rs
def b0 (k:Nat) (L0:T0):T0:=fun x0 x1 x2 x3 =>
 (bif (decide (x3<x2)) then
 (bF x3 (x1.length:Int)
 ((iU.f k (List.getD x1 (Int.toNat x3) (Ty.z b7))).bind fun r1 =>
 (ke x0 r1.1
 (L0 (x0++r1.1) x1 x2 (aJ (x3+1))))))
 else
 ((gA.f k x0).bind fun r2 =>
 (some r2)))
def l0 (k:Nat):Nat→T0
 | 0=>fun _ _ _ _=>none
 | n+1=>b0 k (l0 k n)
def t (k:Nat) (L0:T0) (a0:List (Ty.d b7)):Rs :=
 (L0 (⟨#[]⟩:ByteArray) a0 (List.length a0:Int) 0)
def f (k:Nat):=t k (l0 k k)
end iB
namespace ga
abbrev Rs:Type:=Option (Bool × Unit)
abbrev T0:Type:=List (Ty.d aC)→Int→Int→Int→Int→ByteArray→ByteArray→Int→Int→List (Ty.d b7)→Rs
def b0 (k:Nat) (L0:T0):T0:=fun x0 x1 x2 x3 x4 x5 x6 x7 x8 x9 =>
 (bif (decide (x2<x1)) then
 (bF x2 (x0.length:Int)
 (rm (Ty.bytes b7) (List.length x9+1)
 (L0 x0 x1 (aJ (x2+1)) x3 x4 x5 x6 x7 x8 (x9++[(List.getD x0 (Int.toNat x2) (Ty.z aC)).2.2.2.1]))))
 else
 (bif (x7==(x9.length:Int)) then
 ((iB.f k x9).bind fun r1 =>
 (some ((x8==r1.1),())))
 else
 (some (false,()))))
def l0 (k:Nat):Nat→T0
 | 0=>fun _ _ _ _ _ _ _ _ _ _=>none
 | n+1=>b0 k (l0 k n)
def t (k:Nat) (L0:T0) (a0:Ty.d b7) (a1:List (Ty.d aC)):Rs :=
 (L0 a1 (List.length a1:Int) 0 a0.1 a0.2.1 a0.2.2.1 a0.2.2.2.1 a0.2.2.2.2.1 a0.2.2.2.2.2.1 [])
def f (k:Nat):=t k (l0 k k)
end ga
namespace dD
abbrev Rs:Type:=Option ((List (Ty.d aB)) × Unit)
abbrev T0:Type:=ByteArray→List (Ty.d aB)→Int→Int→List (Ty.d aB)→Rs
def b0 (k:Nat) (L0:T0):T0:=fun x0 x1 x2 x3 x4 =>
 (bif (decide (x3<x2)) then
 (bF x3 (x1.length:Int)
 (bif (!(seq (List.getD x1 (Int.toNat x3) (Ty.z aB)).1 x0)) then
 (rm (Ty.bytes aB) (List.length x4+1)
 (L0 x0 x1 x2 (aJ (x3+1)) (x4++[(List.getD x1 (Int.toNat x3) (Ty.z aB))])))
 else
 (L0 x0 x1 x2 (aJ (x3+1)) x4)))
 else
 (some (x4,())))
def l0 (k:Nat):Nat→T0
 | 0=>fun _ _ _ _ _=>none
 | n+1=>b0 k (l0 k n)
def t (k:Nat) (L0:T0) (a0:List (Ty.d aB)) (a1:ByteArray):Rs :=
 (L0 a1 a0 (List.length a0:Int) 0 [])
def f (k:Nat):=t k (l0 k k)
end dD
namespace ek
abbrev Rs:Type:=Option ((List (Ty.d aB)) × Unit)
abbrev T0:Type:=Int→ByteArray→Int→Int→Int→Int→List (Ty.d aB)→Rs
def b0 (k:Nat) (L0:T0):T0:=fun x0 x1 x2 x3 x4 x5 x6 =>
 (bif (decide (x0<(x6.length:Int))) then
 (bF x0 (x6.length:Int)
 (bif ((mo (List.getD x6 (Int.toNat x0) (Ty.z aB)).1 x1)||(seq (List.getD x6 (Int.toNat x0) (Ty.z aB)).1 x1)) then
 (L0 (aJ (x0+1)) x1 x2 x3 x4 x5 x6)
 else
 (pJ x0 (x6.length:Int)
 ((eE.f k (List.take (Int.toNat x0) x6)).bind fun r2 =>
 (rm (Ty.bytes aB) (List.length r2.1+1)
 (pJ x0 (x6.length:Int)
 (rm (Ty.bytes aB) (List.length (r2.1++[(x1,(x2,(x3,(x4,(x5,())))))])+List.length (List.drop (Int.toNat x0) x6))
 (some (((r2.1++[(x1,(x2,(x3,(x4,(x5,())))))])++(List.drop (Int.toNat x0) x6)),())))))))))
 else
 (pJ x0 (x6.length:Int)
 ((eE.f k (List.take (Int.toNat x0) x6)).bind fun r3 =>
 (rm (Ty.bytes aB) (List.length r3.1+1)
 (pJ x0 (x6.length:Int)
 (rm (Ty.bytes aB) (List.length (r3.1++[(x1,(x2,(x3,(x4,(x5,())))))])+List.length (List.drop (Int.toNat x0) x6))
 (some (((r3.1++[(x1,(x2,(x3,(x4,(x5,())))))])++(List.drop (Int.toNat x0) x6)),()))))))))
def l0 (k:Nat):Nat→T0
 | 0=>fun _ _ _ _ _ _ _=>none
 | n+1=>b0 k (l0 k n)
def t (k:Nat) (L0:T0) (a0:List (Ty.d aB)) (a1:Ty.d aB):Rs :=
 ((dD.f k a0 a1.1).bind fun r1 =>
 (L0 0 a1.1 a1.2.1 a1.2.2.1 a1.2.2.2.1 a1.2.2.2.2.1 r1.1))
def f (k:Nat):=t k (l0 k k)
end ek
namespace bx
abbrev Rs:Type:=Option ((Ty.d fj) × Unit)
abbrev T0:Type:=List (Ty.d aC)→Int→Int→List (Ty.d aB)→Int→Int→Rs
def b0 (k:Nat) (L0:T0):T0:=fun x0 x1 x2 x3 x4 x5 =>
 (bif (decide (x2<x1)) then
 (bF x2 (x0.length:Int)
 (bif ((List.getD x0 (Int.toNat x2) (Ty.z aC)).2.2.2.1.1==2) then
 ((dD.f k x3 (List.getD x0 (Int.toNat x2) (Ty.z aC)).2.2.2.1.2.2.1).bind fun r1 =>
 (L0 x0 x1 (aJ (x2+1)) r1.1 x4 x5))
 else
 ((ek.f k x3 ((List.getD x0 (Int.toNat x2) (Ty.z aC)).2.2.2.1.2.2.1,((List.getD x0 (Int.toNat x2) (Ty.z aC)).1,((List.getD x0 (Int.toNat x2) (Ty.z aC)).2.1,((List.getD x0 (Int.toNat x2) (Ty.z aC)).2.2.1,((List.getD x0 (Int.toNat x2) (Ty.z aC)).2.2.2.1.2.1,())))))).bind fun r2 =>
 (L0 x0 x1 (aJ (x2+1)) r2.1 x4 x5))))
 else
 (bif (decide ((x3.length:Int) > 20)) then
 (some ((x3,(x4,(2,()))),()))
 else
 (some ((x3,(x4,(x5,()))),()))))
def l0 (k:Nat):Nat→T0
 | 0=>fun _ _ _ _ _ _=>none
 | n+1=>b0 k (l0 k n)
def t (k:Nat) (L0:T0) (a0:Ty.d fj) (a1:List (Ty.d aC)):Rs :=
 (L0 a1 (List.length a1:Int) 0 a0.1 a0.2.1 a0.2.2.1)
def f (k:Nat):=t k (l0 k k)
end bx
namespace f_
abbrev Rs:Type:=Option ((Ty.d fj) × Unit)
abbrev T0:Type:=List (Ty.d aC)→List (Ty.d aC)→Int→Int→List (Ty.d aB)→Int→Int→List (Ty.d aB)→Int→Int→Rs
def b0 (k:Nat) (L0:T0):T0:=fun x0 x1 x2 x3 x4 x5 x6 x7 x8 x9 =>
 (bif (decide (x3<x2)) then
 (bF x3 (x1.length:Int)
 (bif (x9 != 0) then
 (some ((x7,(x8,(x9,()))),()))
 else
 (bif ((List.getD x1 (Int.toNat x3) (Ty.z aC)).2.2.2.1.1 != 3) then
 (bif ((List.getD x1 (Int.toNat x3) (Ty.z aC)).2.2.2.1.1 != 5) then
 (L0 x0 x1 x2 (aJ (x3+1)) x4 x5 x6 x7 (if (List.getD x1 (Int.toNat x3) (Ty.z aC)).2.2.2.1.2.1 > x8 then (List.getD x1 (Int.toNat x3) (Ty.z aC)).2.2.2.1.2.1 else x8) x9)
 else
 (pJ x3 (x0.length:Int)
 ((ch.f k (List.take (Int.toNat x3) x0) (List.getD x1 (Int.toNat x3) (Ty.z aC)).2.2.2.1).bind fun r2 =>
 ((ga.f k (List.getD x1 (Int.toNat x3) (Ty.z aC)).2.2.2.1 r2.1).bind fun r3 =>
 (bif r3.1 then
 ((bx.f k (x7,((if (List.getD x1 (Int.toNat x3) (Ty.z aC)).2.2.2.1.2.1 > x8 then (List.getD x1 (Int.toNat x3) (Ty.z aC)).2.2.2.1.2.1 else x8),(x9,()))) r2.1).bind fun r4 =>
 (L0 x0 x1 x2 (aJ (x3+1)) x4 x5 x6 r4.1.1 r4.1.2.1 r4.1.2.2.1))
 else
 (bif ((List.getD x1 (Int.toNat x3) (Ty.z aC)).2.2.2.1.1==5) then
 (L0 x0 x1 x2 (aJ (x3+1)) x4 x5 x6 x7 (if (List.getD x1 (Int.toNat x3) (Ty.z aC)).2.2.2.1.2.1 > x8 then (List.getD x1 (Int.toNat x3) (Ty.z aC)).2.2.2.1.2.1 else x8) 1)
 else
 (L0 x0 x1 x2 (aJ (x3+1)) x4 x5 x6 x7 (if (List.getD x1 (Int.toNat x3) (Ty.z aC)).2.2.2.1.2.1 > x8 then (List.getD x1 (Int.toNat x3) (Ty.z aC)).2.2.2.1.2.1 else x8) x9)))))))
 else
 (pJ x3 (x0.length:Int)
 ((ch.f k (List.take (Int.toNat x3) x0) (List.getD x1 (Int.toNat x3) (Ty.z aC)).2.2.2.1).bind fun r5 =>
 ((ga.f k (List.getD x1 (Int.toNat x3) (Ty.z aC)).2.2.2.1 r5.1).bind fun r6 =>
 (bif r6.1 then
 ((bx.f k (x7,((if (List.getD x1 (Int.toNat x3) (Ty.z aC)).2.2.2.1.2.1 > x8 then (List.getD x1 (Int.toNat x3) (Ty.z aC)).2.2.2.1.2.1 else x8),(x9,()))) r5.1).bind fun r7 =>
 (L0 x0 x1 x2 (aJ (x3+1)) x4 x5 x6 r7.1.1 r7.1.2.1 r7.1.2.2.1))
 else
 (bif ((List.getD x1 (Int.toNat x3) (Ty.z aC)).2.2.2.1.1==5) then
 (L0 x0 x1 x2 (aJ (x3+1)) x4 x5 x6 x7 (if (List.getD x1 (Int.toNat x3) (Ty.z aC)).2.2.2.1.2.1 > x8 then (List.getD x1 (Int.toNat x3) (Ty.z aC)).2.2.2.1.2.1 else x8) 1)
 else
 (L0 x0 x1 x2 (aJ (x3+1)) x4 x5 x6 x7 (if (List.getD x1 (Int.toNat x3) (Ty.z aC)).2.2.2.1.2.1 > x8 then (List.getD x1 (Int.toNat x3) (Ty.z aC)).2.2.2.1.2.1 else x8) x9)))))))))
 else
 (bif (x9==0) then
 ((ch.f k x0 (5,(0,(ByteArray.empty,(ByteArray.empty,(0,(0,()))))))).bind fun r8 =>
 (bif (decide ((List.length r8.1:Int) > 0)) then
 (some ((x7,(x8,(1,()))),()))
 else
 (some ((x7,(x8,(x9,()))),()))))
 else
 (some ((x7,(x8,(x9,()))),()))))
def l0 (k:Nat):Nat→T0
 | 0=>fun _ _ _ _ _ _ _ _ _ _=>none
 | n+1=>b0 k (l0 k n)
def t (k:Nat) (L0:T0) (a0:Ty.d fj) (a1:List (Ty.d aC)):Rs :=
 ((eE.f k a0.1).bind fun r1 =>
 (L0 a1 a1 (List.length a1:Int) 0 [] 0 0 r1.1 a0.2.1 a0.2.2.1))
def f (k:Nat):=t k (l0 k k)
end f_
namespace aq
abbrev Rs:Type:=Option ((List (Ty.d aL)) × Bool × Unit)
abbrev T1:Type:=Int→Int→Int→List (Ty.d dE)→List (Ty.d aL)→List (Ty.d aB)→Rs
abbrev T0:Type:=List (Ty.d dE)→Int→Int→Int→List (Ty.d dE)→List (Ty.d aC)→Rs
def b1 (k:Nat) (L1:T1):T1:=fun x0 x1 x2 x3 x4 x5 =>
 (bif (decide (x1<x0)) then
 (bF x1 (x5.length:Int)
 ((gR.f k (x2,(x3,())) (List.getD x5 (Int.toNat x1) (Ty.z aB)).2.1).bind fun r4 =>
 ((ii.f k r4.1 (List.getD x5 (Int.toNat x1) (Ty.z aB)).2.2.1 (List.getD x5 (Int.toNat x1) (Ty.z aB)).2.2.2.1).bind fun r5 =>
 (bif (!r5.2.1) then
 (some ([],(false,())))
 else
 (rm (Ty.bytes aL) (List.length x4+1)
 (L1 x0 (aJ (x1+1)) x2 x3 (x4++[(r5.1.2.2.1,(r5.1.2.2.2.1,(r5.1.2.1,())))]) x5))))))
 else
 (some (x4,(true,()))))
def l1 (k:Nat):Nat→T1
 | 0=>fun _ _ _ _ _ _=>none
 | n+1=>b1 k (l1 k n)
def b0 (k:Nat) (L1:T1) (L0:T0):T0:=fun x0 x1 x2 x3 x4 x5 =>
 (bif (decide (x2<x1)) then
 (bF x2 (x0.length:Int)
 ((dK.f k (List.getD x0 (Int.toNat x2) (Ty.z dE)).2.1).bind fun r1 =>
 (bif (r1.2.1 != (ByteArray.size (List.getD x0 (Int.toNat x2) (Ty.z dE)).2.1:Int)) then
 (some ([],(false,())))
 else
 ((fY.f k (List.getD x0 (Int.toNat x2) (Ty.z dE)).1 r1.1).bind fun r2 =>
 (rm (Ty.bytes aC) (List.length x5+List.length r2.1)
 (L0 x0 x1 (aJ (x2+1)) x3 x4 (x5++r2.1)))))))
 else
 ((f_.f k ([],(0,(0,()))) x5).bind fun r3 =>
 (bif (r3.1.2.2.1 != 0) then
 (some ([],(false,())))
 else
 (L1 (List.length r3.1.1:Int) 0 x3 x4 [] r3.1.1))))
def l0 (k:Nat):Nat→T0
 | 0=>fun _ _ _ _ _ _=>none
 | n+1=>b0 k (l1 k k) (l0 k n)
def t (k:Nat) (L0:T0) (a0:Ty.d ay):Rs :=
 (L0 a0.2.1 (List.length a0.2.1:Int) 0 a0.1 a0.2.1 [])
def f (k:Nat):=t k (l0 k k)
end aq
namespace bC
abbrev Rs:Type:=Option (Bool × Unit)
abbrev T0:Type:=Int→Int→List (Ty.d dE)→Int→List (Ty.d dE)→Rs
def b0 (k:Nat) (L0:T0):T0:=fun x0 x1 x2 x3 x4 =>
 (bif (decide (x0<(x2.length:Int))) then
 (bF x0 (x2.length:Int)
 (bF x0 (x4.length:Int)
 (bif (!(((List.getD x2 (Int.toNat x0) (Ty.z dE)).1==(List.getD x4 (Int.toNat x0) (Ty.z dE)).1)&&(seq (List.getD x2 (Int.toNat x0) (Ty.z dE)).2.1 (List.getD x4 (Int.toNat x0) (Ty.z dE)).2.1))) then
 (some (false,()))
 else
 (L0 (aJ (x0+1)) x1 x2 x3 x4))))
 else
 (some (true,())))
def l0 (k:Nat):Nat→T0
 | 0=>fun _ _ _ _ _=>none
 | n+1=>b0 k (l0 k n)
def t (k:Nat) (L0:T0) (a0:Ty.d ay) (a1:Ty.d ay):Rs :=
 (bif (a0.1 != a1.1) then
 (some (false,()))
 else
 (bif ((List.length a0.2.1:Int) != (List.length a1.2.1:Int)) then
 (some (false,()))
 else
 (L0 0 a0.1 a0.2.1 a1.1 a1.2.1)))
def f (k:Nat):=t k (l0 k k)
end bC
namespace bq
abbrev Rs:Type:=Option (Bool × Unit)
abbrev T0:Type:=List (Ty.d aL)→List (Ty.d aL)→Int→Rs
def b0 (k:Nat) (L0:T0):T0:=fun x0 x1 x2 =>
 (bif (decide (x2<(x0.length:Int))) then
 (bF x2 (x0.length:Int)
 (bF x2 (x1.length:Int)
 (bif (!((seq (List.getD x0 (Int.toNat x2) (Ty.z aL)).1 (List.getD x1 (Int.toNat x2) (Ty.z aL)).1)&&((seq (List.getD x0 (Int.toNat x2) (Ty.z aL)).2.1 (List.getD x1 (Int.toNat x2) (Ty.z aL)).2.1)&&((List.getD x0 (Int.toNat x2) (Ty.z aL)).2.2.1==(List.getD x1 (Int.toNat x2) (Ty.z aL)).2.2.1)))) then
 (some (false,()))
 else
 (L0 x0 x1 (aJ (x2+1))))))
 else
 (some (true,())))
def l0 (k:Nat):Nat→T0
 | 0=>fun _ _ _=>none
 | n+1=>b0 k (l0 k n)
def t (k:Nat) (L0:T0) (a0:List (Ty.d aL)) (a1:List (Ty.d aL)):Rs :=
 (bif ((List.length a0:Int) != (List.length a1:Int)) then
 (some (false,()))
 else
 (L0 a0 a1 0))
def f (k:Nat):=t k (l0 k k)
end bq
namespace am
abbrev Rs:Type:=Option (Bool × Unit)
abbrev T1:Type:=List Int→Int→Int→List (Ty.d bg)→Int→Int→List Int→List (Ty.d aB)→List (Ty.d aL)→List (Ty.d du)→Bool→Int→Int→Int→Int→Int→Int→Bool→List (Ty.d dE)→Int→Rs
abbrev T0:Type:=List Int→Int→Int→List (Ty.d bg)→Int→Int→List Int→List (Ty.d aB)→List (Ty.d aL)→List (Ty.d du)→Bool→Int→Int→Int→Int→Int→Int→Bool→List (Ty.d dE)→Int→Rs
def b1 (k:Nat) (L1:T1):T1:=fun x0 x1 x2 x3 x4 x5 x6 x7 x8 x9 x10 x11 x12 x13 x14 x15 x16 x17 x18 x19 =>
 (bif (decide (x2<(x3.length:Int))) then
 (bif (decide (x2<40)) then
 (bF x2 (x3.length:Int)
 ((dG.f k (x10,(((x11,(x6,())),(x7,(x12,(x13,(x14,()))))),((x8,(x15,(x16,(x17,())))),(x9,())))) (List.getD x3 (Int.toNat x2) (Ty.z bg))).bind fun r6 =>
 (bif (!r6.1.1) then
 (L1 x0 x1 (aJ (x2+1)) x3 x4 x5 r6.1.2.1.1.2.1 r6.1.2.1.2.1 r6.1.2.2.1.1 r6.1.2.2.2.1 r6.1.1 r6.1.2.1.1.1 r6.1.2.1.2.2.1 r6.1.2.1.2.2.2.1 r6.1.2.1.2.2.2.2.1 r6.1.2.2.1.2.1 r6.1.2.2.1.2.2.1 r6.1.2.2.1.2.2.2.1 x18 x19)
 else
 ((mT.f k x0 x2).bind fun r7 =>
 (bif ((Int.tmod r7.1 3) != 0) then
 (L1 x0 x1 (aJ (x2+1)) x3 x4 x5 r6.1.2.1.1.2.1 r6.1.2.1.2.1 r6.1.2.2.1.1 r6.1.2.2.2.1 r6.1.1 r6.1.2.1.1.1 r6.1.2.1.2.2.1 r6.1.2.1.2.2.2.1 r6.1.2.1.2.2.2.2.1 r6.1.2.2.1.2.1 r6.1.2.2.1.2.2.1 r6.1.2.2.1.2.2.2.1 x18 x19)
 else
 ((dA.f k r6.1.2.1 r6.1.2.2.1 (x19,(x18,()))).bind fun r8 =>
 ((bK.f k (x19,(x18,())) r8.1).bind fun r9 =>
 (bif (!r9.2.1) then
 (some (false,()))
 else
 ((c9.f k r8.1).bind fun r10 =>
 (L1 x0 (aJ (x1+r10.1)) (aJ (x2+1)) x3 x4 x5 r6.1.2.1.1.2.1 r6.1.2.1.2.1 r6.1.2.2.1.1 r6.1.2.2.2.1 r6.1.1 r6.1.2.1.1.1 r6.1.2.1.2.2.1 r6.1.2.1.2.2.2.1 r6.1.2.1.2.2.2.2.1 r6.1.2.2.1.2.1 r6.1.2.2.1.2.2.1 r6.1.2.2.1.2.2.2.1 r9.1.2.1 r9.1.1))))))))))
 else
 (bif (!x10) then
 (some ((decide (x1≥0)),()))
 else
 ((dA.f k ((x11,(x6,())),(x7,(x12,(x13,(x14,()))))) (x8,(x15,(x16,(x17,())))) (x19,(x18,()))).bind fun r11 =>
 ((bK.f k (x19,(x18,())) r11.1).bind fun r12 =>
 ((aq.f k r12.1).bind fun r13 =>
 ((dA.f k ((x11,(x6,())),(x7,(x12,(x13,(x14,()))))) (x8,(x15,(x16,(x17,())))) (0,([],()))).bind fun r14 =>
 ((bK.f k (0,([],())) r14.1).bind fun r15 =>
 ((eO.f k ((x11,(x6,())),(x7,(x12,(x13,(x14,()))))) (x8,(x15,(x16,(x17,()))))).bind fun r16 =>
 (bif r12.2.1 then
 (bif r13.2.1 then
 ((bC.f k r12.1 r15.1).bind fun r17 =>
 (bif r17.1 then
 ((bq.f k r13.1 r16.1).bind fun r18 =>
 (bif r18.1 then
 (some ((r12.1.1==x11),()))
 else
 (some (false,()))))
 else
 (some (false,()))))
 else
 (some (false,())))
 else
 (some (false,())))))))))))
 else
 (bif (!x10) then
 (some ((decide (x1≥0)),()))
 else
 ((dA.f k ((x11,(x6,())),(x7,(x12,(x13,(x14,()))))) (x8,(x15,(x16,(x17,())))) (x19,(x18,()))).bind fun r19 =>
 ((bK.f k (x19,(x18,())) r19.1).bind fun r20 =>
 ((aq.f k r20.1).bind fun r21 =>
 ((dA.f k ((x11,(x6,())),(x7,(x12,(x13,(x14,()))))) (x8,(x15,(x16,(x17,())))) (0,([],()))).bind fun r22 =>
 ((bK.f k (0,([],())) r22.1).bind fun r23 =>
 ((eO.f k ((x11,(x6,())),(x7,(x12,(x13,(x14,()))))) (x8,(x15,(x16,(x17,()))))).bind fun r24 =>
 (bif r20.2.1 then
 (bif r21.2.1 then
 ((bC.f k r20.1 r23.1).bind fun r25 =>
 (bif r25.1 then
 ((bq.f k r21.1 r24.1).bind fun r26 =>
 (bif r26.1 then
 (some ((r20.1.1==x11),()))
 else
 (some (false,()))))
 else
 (some (false,()))))
 else
 (some (false,())))
 else
 (some (false,())))))))))))
def l1 (k:Nat):Nat→T1
 | 0=>fun _ _ _ _ _ _ _ _ _ _ _ _ _ _ _ _ _ _ _ _=>none
 | n+1=>b1 k (l1 k n)
def b0 (k:Nat) (L1:T1):T0:=fun x0 x1 x2 x3 x4 x5 x6 x7 x8 x9 x10 x11 x12 x13 x14 x15 x16 x17 x18 x19 =>
 (bif (decide (x2<(x3.length:Int))) then
 (bif (decide (x2<40)) then
 (bF x2 (x3.length:Int)
 ((dG.f k (x10,(((x11,(x6,())),(x7,(x12,(x13,(x14,()))))),((x8,(x15,(x16,(x17,())))),(x9,())))) (List.getD x3 (Int.toNat x2) (Ty.z bg))).bind fun r5 =>
 (bif (!r5.1.1) then
 (L1 x0 x1 (aJ (x2+1)) x3 x4 x5 r5.1.2.1.1.2.1 r5.1.2.1.2.1 r5.1.2.2.1.1 r5.1.2.2.2.1 r5.1.1 r5.1.2.1.1.1 r5.1.2.1.2.2.1 r5.1.2.1.2.2.2.1 r5.1.2.1.2.2.2.2.1 r5.1.2.2.1.2.1 r5.1.2.2.1.2.2.1 r5.1.2.2.1.2.2.2.1 x18 x19)
 else
 ((mT.f k x0 x2).bind fun r27 =>
 (bif ((Int.tmod r27.1 3) != 0) then
 (L1 x0 x1 (aJ (x2+1)) x3 x4 x5 r5.1.2.1.1.2.1 r5.1.2.1.2.1 r5.1.2.2.1.1 r5.1.2.2.2.1 r5.1.1 r5.1.2.1.1.1 r5.1.2.1.2.2.1 r5.1.2.1.2.2.2.1 r5.1.2.1.2.2.2.2.1 r5.1.2.2.1.2.1 r5.1.2.2.1.2.2.1 r5.1.2.2.1.2.2.2.1 x18 x19)
 else
 ((dA.f k r5.1.2.1 r5.1.2.2.1 (x19,(x18,()))).bind fun r28 =>
 ((bK.f k (x19,(x18,())) r28.1).bind fun r29 =>
 (bif (!r29.2.1) then
 (some (false,()))
 else
 ((c9.f k r28.1).bind fun r30 =>
 (L1 x0 (aJ (x1+r30.1)) (aJ (x2+1)) x3 x4 x5 r5.1.2.1.1.2.1 r5.1.2.1.2.1 r5.1.2.2.1.1 r5.1.2.2.2.1 r5.1.1 r5.1.2.1.1.1 r5.1.2.1.2.2.1 r5.1.2.1.2.2.2.1 r5.1.2.1.2.2.2.2.1 r5.1.2.2.1.2.1 r5.1.2.2.1.2.2.1 r5.1.2.2.1.2.2.2.1 r29.1.2.1 r29.1.1))))))))))
 else
 (bif (!x10) then
 (some ((decide (x1≥0)),()))
 else
 ((dA.f k ((x11,(x6,())),(x7,(x12,(x13,(x14,()))))) (x8,(x15,(x16,(x17,())))) (x19,(x18,()))).bind fun r31 =>
 ((bK.f k (x19,(x18,())) r31.1).bind fun r32 =>
 ((aq.f k r32.1).bind fun r33 =>
 ((dA.f k ((x11,(x6,())),(x7,(x12,(x13,(x14,()))))) (x8,(x15,(x16,(x17,())))) (0,([],()))).bind fun r34 =>
 ((bK.f k (0,([],())) r34.1).bind fun r35 =>
 ((eO.f k ((x11,(x6,())),(x7,(x12,(x13,(x14,()))))) (x8,(x15,(x16,(x17,()))))).bind fun r36 =>
 (bif r32.2.1 then
 (bif r33.2.1 then
 ((bC.f k r32.1 r35.1).bind fun r37 =>
 (bif r37.1 then
 ((bq.f k r33.1 r36.1).bind fun r38 =>
 (bif r38.1 then
 (some ((r32.1.1==x11),()))
 else
 (some (false,()))))
 else
 (some (false,()))))
 else
 (some (false,())))
 else
 (some (false,())))))))))))
 else
 (bif (!x10) then
 (some ((decide (x1≥0)),()))
 else
 ((dA.f k ((x11,(x6,())),(x7,(x12,(x13,(x14,()))))) (x8,(x15,(x16,(x17,())))) (x19,(x18,()))).bind fun r39 =>
 ((bK.f k (x19,(x18,())) r39.1).bind fun r40 =>
 ((aq.f k r40.1).bind fun r41 =>
 ((dA.f k ((x11,(x6,())),(x7,(x12,(x13,(x14,()))))) (x8,(x15,(x16,(x17,())))) (0,([],()))).bind fun r42 =>
 ((bK.f k (0,([],())) r42.1).bind fun r43 =>
 ((eO.f k ((x11,(x6,())),(x7,(x12,(x13,(x14,()))))) (x8,(x15,(x16,(x17,()))))).bind fun r44 =>
 (bif r40.2.1 then
 (bif r41.2.1 then
 ((bC.f k r40.1 r43.1).bind fun r45 =>
 (bif r45.1 then
 ((bq.f k r41.1 r44.1).bind fun r46 =>
 (bif r46.1 then
 (some ((r40.1.1==x11),()))
 else
 (some (false,()))))
 else
 (some (false,()))))
 else
 (some (false,())))
 else
 (some (false,())))))))))))
def l0 (k:Nat):Nat→T0
 | 0=>fun _ _ _ _ _ _ _ _ _ _ _ _ _ _ _ _ _ _ _ _=>none
 | n+1=>b0 k (l1 k n)
def t (k:Nat) (L0:T0) (a0:List Int):Rs :=
 ((o8.f k a0).bind fun r1 =>
 (bif r1.1 then
 (some (true,()))
 else
 ((gw.f k a0).bind fun r2 =>
 ((iZ.f k 20000).bind fun r3 =>
 ((dt.f k r3.1).bind fun r4 =>
 (bif (r4.2.1 != 0) then
 (some (true,()))
 else
 (L0 a0 0 0 r2.1.2.2.1 r2.1.1 r2.1.2.1 r4.1.2.1.1.2.1 r4.1.2.1.2.1 r4.1.2.2.1.1 r4.1.2.2.2.1 r4.1.1 r4.1.2.1.1.1 r4.1.2.1.2.2.1 r4.1.2.1.2.2.2.1 r4.1.2.1.2.2.2.2.1 r4.1.2.2.1.2.1 r4.1.2.2.1.2.2.1 r4.1.2.2.1.2.2.2.1 [] 0)))))))
def f (k:Nat):=t k (l0 k k)
end am
end Go.Proofs.YtnpijgnfpdcjbaaGreatDoor.G

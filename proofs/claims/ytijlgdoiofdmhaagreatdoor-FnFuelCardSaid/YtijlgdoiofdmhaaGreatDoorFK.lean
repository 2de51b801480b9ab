/- Functions, as V runs them. -/
import Derived.Test.YtijlgdoiofdmhaaGreatDoorVWords
import Derived.Test.YtijlgdoiofdmhaaGreatDoorXLib
set_option linter.unusedVariables false
namespace Go.Proofs.YtijlgdoiofdmhaaGreatDoor.G
open Go.V
abbrev aW:Ty := .pair .str (.pair .bool (.pair .str .unit))
abbrev na:Ty := .pair (.int .i64) (.pair (.slice aW) .unit)
abbrev ac:Ty := .pair (.int .i64) (.pair .str (.pair (.slice .str) .unit))
abbrev aE:Ty := .pair .str (.pair .str (.pair (.int .i64) .unit))
abbrev aA:Ty := .pair (.slice aE) (.pair (.int .i64) (.pair (.int .i64) (.pair .bool .unit)))
abbrev bL:Ty := .pair (.int .i64) (.pair (.slice (.int .i64)) .unit)
abbrev a_:Ty := .pair .str (.pair (.int .i64) (.pair (.int .i64) (.pair (.int .i64) (.pair (.int .i64) .unit))))
abbrev aG:Ty := .pair bL (.pair (.slice a_) (.pair (.int .i64) (.pair (.int .i64) (.pair (.int .i64) .unit))))
abbrev bV:Ty := .pair .str (.pair (.int .i64) .unit)
abbrev ai:Ty := .pair .bool (.pair (.slice bV) (.pair (.slice aW) .unit))
abbrev af:Ty := .pair .bool (.pair aG (.pair aA (.pair (.slice ai) .unit)))
abbrev iK:Ty := .pair (.slice a_) (.pair (.int .i64) (.pair (.int .i64) .unit))
abbrev fV:Ty := .pair (.int .i64) (.pair (.int .i64) (.pair (.slice a_) .unit))
abbrev bR:Ty := .pair (.int .i64) (.pair (.int .i64) (.pair .str (.pair .str (.pair (.int .i64) (.pair (.int .i64) .unit)))))
abbrev aD:Ty := .pair (.int .i64) (.pair (.int .i64) (.pair (.int .i64) (.pair bR .unit)))
abbrev d6:Ty := .pair af (.pair (.slice ac) (.pair (.slice na) (.pair (.slice aW) .unit)))
abbrev aZ:Ty := .pair (.int .i64) (.pair (.int .i64) (.pair .str (.pair .str (.pair (.int .i64) .unit))))
abbrev kQ:Ty := .pair (.int .i64) (.pair (.int .i64) (.pair (.slice aZ) .unit))
abbrev bU:Ty := .pair (.int .i64) (.pair (.int .i64) (.pair bR .unit))
abbrev fm:Ty := .pair (.slice (.int .u8)) (.pair (.int .i64) (.pair (.int .i64) .unit))
abbrev nO:Ty := .pair .str (.pair .bool .unit)
abbrev au:Ty := .pair aA (.pair (.int .i64) .unit)
abbrev uI:Ty:=aE
variable (k:Nat)
namespace qz
abbrev Rs:Type:=Option (Bool × Unit)
def t (k:Nat) (a0:List Int):Rs :=
 (some ((decide ((a0.length:Int) > 1048576)),()))
def f:=t k
end qz
namespace i7
abbrev Rs:Type:=Option (Unit × (Ty.d fm) × Unit)
abbrev T0:Type:=List Int→Int→Int→Rs
def b0 (k:Nat) (L0:T0):T0:=fun x0 x1 x2 =>
 (cond (decide (x2<(x0.length:Int))) (cond (decide (x2<4000)) (b9 x2 (x0.length:Int) (L0 x0 (aH (((BitVec.ofInt (IntKind.bits .i64) (aH ((aH ((aH (x1*131))+(aH (x0.getD x2.toNat (Ty.z (.int .u8))))))+7)) &&& BitVec.ofInt (IntKind.bits .i64) 1073741823).toNat:Int))) (aH (x2+1)))) (some ((),((x0,(0,(x1,()))),())))) (some ((),((x0,(0,(x1,()))),()))))
def l0:Nat→T0
 | 0=>fun _ _ _=>none
 | n+1=>b0 k (l0 n)
def t (k:Nat) (L0:T0) (a0:List Int):Rs :=
 (L0 a0 (aH (10101+(a0.length:Int))) 0)
def f:=t k (l0 k k)
end i7
namespace fk
abbrev Rs:Type:=Option ((Ty.d fm) × Int × Unit)
def t (k:Nat) (a0:Ty.d fm):Rs :=
 (cond (decide (a0.2.1<(a0.1.length:Int))) (b9 a0.2.1 (a0.1.length:Int) (some ((a0.1,((aH (a0.2.1+1)),((aH ((aH (a0.2.2.1*6364136223846793005))+1442695040888963407)),()))),((aH (((BitVec.ofInt (IntKind.bits .i64) (aH ((aH (((BitVec.ofInt (IntKind.bits .i64) (aH (((BitVec.ofInt (IntKind.bits .i64) (Int.fdiv (aH ((aH (a0.2.2.1*6364136223846793005))+1442695040888963407)) (2 ^ (Int.toNat 33))) ^^^ BitVec.ofInt (IntKind.bits .i64) (Int.fdiv (aH ((aH (a0.2.2.1*6364136223846793005))+1442695040888963407)) (2 ^ (Int.toNat 45)))).toNat:Int))) &&& BitVec.ofInt (IntKind.bits .i64) 255).toNat:Int)))+(aH (a0.1.getD a0.2.1.toNat (Ty.z (.int .u8)))))) &&& BitVec.ofInt (IntKind.bits .i64) 255).toNat:Int))),())))) (some ((a0.1,(a0.2.1,((aH ((aH (a0.2.2.1*6364136223846793005))+1442695040888963407)),()))),((aH (((BitVec.ofInt (IntKind.bits .i64) (aH (((BitVec.ofInt (IntKind.bits .i64) (Int.fdiv (aH ((aH (a0.2.2.1*6364136223846793005))+1442695040888963407)) (2 ^ (Int.toNat 33))) ^^^ BitVec.ofInt (IntKind.bits .i64) (Int.fdiv (aH ((aH (a0.2.2.1*6364136223846793005))+1442695040888963407)) (2 ^ (Int.toNat 45)))).toNat:Int))) &&& BitVec.ofInt (IntKind.bits .i64) 255).toNat:Int))),()))))
def f:=t k
end fk
namespace aj
abbrev Rs:Type:=Option ((Ty.d fm) × Int × Unit)
def t (a0:Ty.d fm) (a1:Int):Rs :=
 (cond (decide (a1≤0)) (some (a0,(0,()))) (cond (decide (a1≤256)) ((fk.f k a0).bind fun r1=>bif (decide (a1=0)) then none else (some (r1.1,((Int.tmod r1.2.1 a1),())))) ((fk.f k a0).bind fun r2=>(fk.f k r2.1).bind fun r3=>(fk.f k r3.1).bind fun r4=>(fk.f k r4.1).bind fun r5=>bif (decide (a1=0)) then none else (some (r5.1,((Int.tmod (aH ((aH ((aH ((aH (r2.2.1*16777216))+(aH (r3.2.1*65536))))+(aH (r4.2.1*256))))+r5.2.1)) a1),()))))))
def f:=t k
end aj
namespace aQ
abbrev Rs:Type:=Option ((Ty.d fm) × Int × Unit)
def t (a0:Ty.d fm) (a1:List Int):Rs :=
 ((aj.f k a0 (a1.length:Int)).bind fun r1=>b9 r1.2.1 (a1.length:Int) (some (r1.1,((a1.getD r1.2.1.toNat (Ty.z (.int .i64))),()))))
def f:=t k
end aQ
namespace dF
abbrev Rs:Type:=Option ((Ty.d fm) × ByteArray × Unit)
def t (a0:Ty.d fm) (a1:List ByteArray):Rs :=
 ((aj.f k a0 (a1.length:Int)).bind fun r1=>b9 r1.2.1 (a1.length:Int) (some (r1.1,((a1.getD r1.2.1.toNat (Ty.z .str)),()))))
def f:=t k
end dF
namespace ja
abbrev Rs:Type:=Option ((Ty.d fm) × ByteArray × Unit)
def t (a0:Ty.d fm):Rs :=
 ((dF.f k a0 [(⟨#[97]⟩:ByteArray),(⟨#[98]⟩:ByteArray),(⟨#[99]⟩:ByteArray),(⟨#[107,101,121]⟩:ByteArray),(⟨#[108,111,110,103,110,97,109,101]⟩:ByteArray)]).bind fun r1=>some r1)
def f:=t k
end ja
namespace fi
abbrev Rs:Type:=Option ((Ty.d fm) × ByteArray × Unit)
abbrev T0:Type:=Int→Int→List Int→Int→Int→List Int→Rs
def b0 (L0:T0):T0:=fun x0 x1 x2 x3 x4 x5 =>
 (cond (decide (x1 > 0)) ((fk.f k (x2,(x3,(x4,())))).bind fun r3=>cond (x0==1) (cond (x0==2) (rm (Ty.bytes (.int .u8)) (x5.length+1) (L0 x0 (aH (x1-1)) r3.1.1 r3.1.2.1 r3.1.2.2.1 (x5++[(IntKind.wrap .u8 (aH (97+(Int.tmod (Int.tmod r3.2.1 2) 4))))]))) (rm (Ty.bytes (.int .u8)) (x5.length+1) (L0 x0 (aH (x1-1)) r3.1.1 r3.1.2.1 r3.1.2.2.1 (x5++[(IntKind.wrap .u8 (Int.tmod r3.2.1 2))])))) (cond (x0==2) (rm (Ty.bytes (.int .u8)) (x5.length+1) (L0 x0 (aH (x1-1)) r3.1.1 r3.1.2.1 r3.1.2.2.1 (x5++[(IntKind.wrap .u8 (aH (97+(Int.tmod r3.2.1 4))))]))) (rm (Ty.bytes (.int .u8)) (x5.length+1) (L0 x0 (aH (x1-1)) r3.1.1 r3.1.2.1 r3.1.2.2.1 (x5++[(IntKind.wrap .u8 r3.2.1)]))))) (some ((x2,(x3,(x4,()))),((bytesOf x5),()))))
def l0:Nat→T0
 | 0=>fun _ _ _ _ _ _=>none
 | n+1=>b0 k (l0 n)
def t (L0:T0) (a0:Ty.d fm) (a1:Int):Rs :=
 ((aj.f k a0 4).bind fun r1=>(aj.f k r1.1 (aH (a1+1))).bind fun r2=>L0 r1.2.1 r2.2.1 r2.1.1 r2.1.2.1 r2.1.2.2.1 [])
def f:=t k (l0 k k)
end fi
namespace kE
abbrev Rs:Type:=Option ((Ty.d fm) × (Ty.d aZ) × Unit)
def t (a0:Ty.d fm):Rs :=
 ((aQ.f k a0 [1,2,2,3,3,3,4,5,5,6,7,8,1,5]).bind fun r1=>(aj.f k r1.1 3).bind fun r2=>cond (r1.2.1==2) (cond (r1.2.1==2) ((ja.f k r2.1).bind fun r3=>(aj.f k r3.1 40).bind fun r4=>cond (r4.2.1==0) (some (r4.1,((9,(0,(ByteArray.empty,(ByteArray.empty,(0,()))))),()))) (cond (r4.2.1==1) (cond (r4.2.1==1) (some (r4.1,((10,(0,(ByteArray.empty,(ByteArray.empty,(0,()))))),()))) (cond (r4.2.1==3) ((aQ.f k r4.1 [(-1),3]).bind fun r5=>some (r5.1,((r1.2.1,(r5.2.1,(r3.2.1,(ByteArray.empty,(0,()))))),()))) (cond (r4.2.1==4) ((dF.f k r4.1 [(⟨#[]⟩:ByteArray),(⟨#[110,105,110,101,98,121,116,101,115]⟩:ByteArray)]).bind fun r6=>some (r6.1,((r1.2.1,(r2.2.1,(r6.2.1,(ByteArray.empty,(0,()))))),()))) (cond (r4.2.1==5) ((aQ.f k r4.1 [0,12]).bind fun r7=>some (r7.1,((r7.2.1,(r2.2.1,(r3.2.1,(ByteArray.empty,(0,()))))),()))) (some (r4.1,((r1.2.1,(r2.2.1,(r3.2.1,(ByteArray.empty,(0,()))))),()))))))) (cond (r4.2.1==2) (some (r4.1,((10,(0,(ByteArray.empty,(ByteArray.empty,(0,()))))),()))) (cond (r4.2.1==3) ((aQ.f k r4.1 [(-1),3]).bind fun r8=>some (r8.1,((r1.2.1,(r8.2.1,(r3.2.1,(ByteArray.empty,(0,()))))),()))) (cond (r4.2.1==4) ((dF.f k r4.1 [(⟨#[]⟩:ByteArray),(⟨#[110,105,110,101,98,121,116,101,115]⟩:ByteArray)]).bind fun r9=>some (r9.1,((r1.2.1,(r2.2.1,(r9.2.1,(ByteArray.empty,(0,()))))),()))) (cond (r4.2.1==5) ((aQ.f k r4.1 [0,12]).bind fun r10=>some (r10.1,((r10.2.1,(r2.2.1,(r3.2.1,(ByteArray.empty,(0,()))))),()))) (some (r4.1,((r1.2.1,(r2.2.1,(r3.2.1,(ByteArray.empty,(0,()))))),()))))))))) (cond (r1.2.1==3) ((ja.f k r2.1).bind fun r11=>(fi.f k r11.1 12).bind fun r12=>(aj.f k r12.1 40).bind fun r13=>cond (r13.2.1==0) (some (r13.1,((9,(0,(ByteArray.empty,(ByteArray.empty,(0,()))))),()))) (cond (r13.2.1==1) (cond (r13.2.1==1) (some (r13.1,((10,(0,(ByteArray.empty,(ByteArray.empty,(0,()))))),()))) (cond (r13.2.1==3) ((aQ.f k r13.1 [(-1),3]).bind fun r14=>some (r14.1,((r1.2.1,(r14.2.1,(r11.2.1,(r12.2.1,(0,()))))),()))) (cond (r13.2.1==4) ((dF.f k r13.1 [(⟨#[]⟩:ByteArray),(⟨#[110,105,110,101,98,121,116,101,115]⟩:ByteArray)]).bind fun r15=>some (r15.1,((r1.2.1,(r2.2.1,(r15.2.1,(r12.2.1,(0,()))))),()))) (cond (r13.2.1==5) ((aQ.f k r13.1 [0,12]).bind fun r16=>some (r16.1,((r16.2.1,(r2.2.1,(r11.2.1,(r12.2.1,(0,()))))),()))) (some (r13.1,((r1.2.1,(r2.2.1,(r11.2.1,(r12.2.1,(0,()))))),()))))))) (cond (r13.2.1==2) (some (r13.1,((10,(0,(ByteArray.empty,(ByteArray.empty,(0,()))))),()))) (cond (r13.2.1==3) ((aQ.f k r13.1 [(-1),3]).bind fun r17=>some (r17.1,((r1.2.1,(r17.2.1,(r11.2.1,(r12.2.1,(0,()))))),()))) (cond (r13.2.1==4) ((dF.f k r13.1 [(⟨#[]⟩:ByteArray),(⟨#[110,105,110,101,98,121,116,101,115]⟩:ByteArray)]).bind fun r18=>some (r18.1,((r1.2.1,(r2.2.1,(r18.2.1,(r12.2.1,(0,()))))),()))) (cond (r13.2.1==5) ((aQ.f k r13.1 [0,12]).bind fun r19=>some (r19.1,((r19.2.1,(r2.2.1,(r11.2.1,(r12.2.1,(0,()))))),()))) (some (r13.1,((r1.2.1,(r2.2.1,(r11.2.1,(r12.2.1,(0,()))))),()))))))))) ((aj.f k r2.1 40).bind fun r20=>cond (r20.2.1==0) (some (r20.1,((9,(0,(ByteArray.empty,(ByteArray.empty,(0,()))))),()))) (cond (r20.2.1==1) (cond (r20.2.1==1) (some (r20.1,((10,(0,(ByteArray.empty,(ByteArray.empty,(0,()))))),()))) (cond (r20.2.1==3) ((aQ.f k r20.1 [(-1),3]).bind fun r21=>some (r21.1,((r1.2.1,(r21.2.1,(ByteArray.empty,(ByteArray.empty,(0,()))))),()))) (cond (r20.2.1==4) ((dF.f k r20.1 [(⟨#[]⟩:ByteArray),(⟨#[110,105,110,101,98,121,116,101,115]⟩:ByteArray)]).bind fun r22=>some (r22.1,((r1.2.1,(r2.2.1,(r22.2.1,(ByteArray.empty,(0,()))))),()))) (cond (r20.2.1==5) ((aQ.f k r20.1 [0,12]).bind fun r23=>some (r23.1,((r23.2.1,(r2.2.1,(ByteArray.empty,(ByteArray.empty,(0,()))))),()))) (some (r20.1,((r1.2.1,(r2.2.1,(ByteArray.empty,(ByteArray.empty,(0,()))))),()))))))) (cond (r20.2.1==2) (some (r20.1,((10,(0,(ByteArray.empty,(ByteArray.empty,(0,()))))),()))) (cond (r20.2.1==3) ((aQ.f k r20.1 [(-1),3]).bind fun r24=>some (r24.1,((r1.2.1,(r24.2.1,(ByteArray.empty,(ByteArray.empty,(0,()))))),()))) (cond (r20.2.1==4) ((dF.f k r20.1 [(⟨#[]⟩:ByteArray),(⟨#[110,105,110,101,98,121,116,101,115]⟩:ByteArray)]).bind fun r25=>some (r25.1,((r1.2.1,(r2.2.1,(r25.2.1,(ByteArray.empty,(0,()))))),()))) (cond (r20.2.1==5) ((aQ.f k r20.1 [0,12]).bind fun r26=>some (r26.1,((r26.2.1,(r2.2.1,(ByteArray.empty,(ByteArray.empty,(0,()))))),()))) (some (r20.1,((r1.2.1,(r2.2.1,(ByteArray.empty,(ByteArray.empty,(0,()))))),()))))))))))) (cond (r1.2.1==4) ((ja.f k r2.1).bind fun r27=>(aj.f k r27.1 40).bind fun r28=>cond (r28.2.1==0) (some (r28.1,((9,(0,(ByteArray.empty,(ByteArray.empty,(0,()))))),()))) (cond (r28.2.1==1) (cond (r28.2.1==1) (some (r28.1,((10,(0,(ByteArray.empty,(ByteArray.empty,(0,()))))),()))) (cond (r28.2.1==3) ((aQ.f k r28.1 [(-1),3]).bind fun r29=>some (r29.1,((r1.2.1,(r29.2.1,(r27.2.1,(ByteArray.empty,(0,()))))),()))) (cond (r28.2.1==4) ((dF.f k r28.1 [(⟨#[]⟩:ByteArray),(⟨#[110,105,110,101,98,121,116,101,115]⟩:ByteArray)]).bind fun r30=>some (r30.1,((r1.2.1,(r2.2.1,(r30.2.1,(ByteArray.empty,(0,()))))),()))) (cond (r28.2.1==5) ((aQ.f k r28.1 [0,12]).bind fun r31=>some (r31.1,((r31.2.1,(r2.2.1,(r27.2.1,(ByteArray.empty,(0,()))))),()))) (some (r28.1,((r1.2.1,(r2.2.1,(r27.2.1,(ByteArray.empty,(0,()))))),()))))))) (cond (r28.2.1==2) (some (r28.1,((10,(0,(ByteArray.empty,(ByteArray.empty,(0,()))))),()))) (cond (r28.2.1==3) ((aQ.f k r28.1 [(-1),3]).bind fun r32=>some (r32.1,((r1.2.1,(r32.2.1,(r27.2.1,(ByteArray.empty,(0,()))))),()))) (cond (r28.2.1==4) ((dF.f k r28.1 [(⟨#[]⟩:ByteArray),(⟨#[110,105,110,101,98,121,116,101,115]⟩:ByteArray)]).bind fun r33=>some (r33.1,((r1.2.1,(r2.2.1,(r33.2.1,(ByteArray.empty,(0,()))))),()))) (cond (r28.2.1==5) ((aQ.f k r28.1 [0,12]).bind fun r34=>some (r34.1,((r34.2.1,(r2.2.1,(r27.2.1,(ByteArray.empty,(0,()))))),()))) (some (r28.1,((r1.2.1,(r2.2.1,(r27.2.1,(ByteArray.empty,(0,()))))),()))))))))) (cond (r1.2.1==3) ((ja.f k r2.1).bind fun r35=>(fi.f k r35.1 12).bind fun r36=>(aj.f k r36.1 40).bind fun r37=>cond (r37.2.1==0) (some (r37.1,((9,(0,(ByteArray.empty,(ByteArray.empty,(0,()))))),()))) (cond (r37.2.1==1) (cond (r37.2.1==1) (some (r37.1,((10,(0,(ByteArray.empty,(ByteArray.empty,(0,()))))),()))) (cond (r37.2.1==3) ((aQ.f k r37.1 [(-1),3]).bind fun r38=>some (r38.1,((r1.2.1,(r38.2.1,(r35.2.1,(r36.2.1,(0,()))))),()))) (cond (r37.2.1==4) ((dF.f k r37.1 [(⟨#[]⟩:ByteArray),(⟨#[110,105,110,101,98,121,116,101,115]⟩:ByteArray)]).bind fun r39=>some (r39.1,((r1.2.1,(r2.2.1,(r39.2.1,(r36.2.1,(0,()))))),()))) (cond (r37.2.1==5) ((aQ.f k r37.1 [0,12]).bind fun r40=>some (r40.1,((r40.2.1,(r2.2.1,(r35.2.1,(r36.2.1,(0,()))))),()))) (some (r37.1,((r1.2.1,(r2.2.1,(r35.2.1,(r36.2.1,(0,()))))),()))))))) (cond (r37.2.1==2) (some (r37.1,((10,(0,(ByteArray.empty,(ByteArray.empty,(0,()))))),()))) (cond (r37.2.1==3) ((aQ.f k r37.1 [(-1),3]).bind fun r41=>some (r41.1,((r1.2.1,(r41.2.1,(r35.2.1,(r36.2.1,(0,()))))),()))) (cond (r37.2.1==4) ((dF.f k r37.1 [(⟨#[]⟩:ByteArray),(⟨#[110,105,110,101,98,121,116,101,115]⟩:ByteArray)]).bind fun r42=>some (r42.1,((r1.2.1,(r2.2.1,(r42.2.1,(r36.2.1,(0,()))))),()))) (cond (r37.2.1==5) ((aQ.f k r37.1 [0,12]).bind fun r43=>some (r43.1,((r43.2.1,(r2.2.1,(r35.2.1,(r36.2.1,(0,()))))),()))) (some (r37.1,((r1.2.1,(r2.2.1,(r35.2.1,(r36.2.1,(0,()))))),()))))))))) ((aj.f k r2.1 40).bind fun r44=>cond (r44.2.1==0) (some (r44.1,((9,(0,(ByteArray.empty,(ByteArray.empty,(0,()))))),()))) (cond (r44.2.1==1) (cond (r44.2.1==1) (some (r44.1,((10,(0,(ByteArray.empty,(ByteArray.empty,(0,()))))),()))) (cond (r44.2.1==3) ((aQ.f k r44.1 [(-1),3]).bind fun r45=>some (r45.1,((r1.2.1,(r45.2.1,(ByteArray.empty,(ByteArray.empty,(0,()))))),()))) (cond (r44.2.1==4) ((dF.f k r44.1 [(⟨#[]⟩:ByteArray),(⟨#[110,105,110,101,98,121,116,101,115]⟩:ByteArray)]).bind fun r46=>some (r46.1,((r1.2.1,(r2.2.1,(r46.2.1,(ByteArray.empty,(0,()))))),()))) (cond (r44.2.1==5) ((aQ.f k r44.1 [0,12]).bind fun r47=>some (r47.1,((r47.2.1,(r2.2.1,(ByteArray.empty,(ByteArray.empty,(0,()))))),()))) (some (r44.1,((r1.2.1,(r2.2.1,(ByteArray.empty,(ByteArray.empty,(0,()))))),()))))))) (cond (r44.2.1==2) (some (r44.1,((10,(0,(ByteArray.empty,(ByteArray.empty,(0,()))))),()))) (cond (r44.2.1==3) ((aQ.f k r44.1 [(-1),3]).bind fun r48=>some (r48.1,((r1.2.1,(r48.2.1,(ByteArray.empty,(ByteArray.empty,(0,()))))),()))) (cond (r44.2.1==4) ((dF.f k r44.1 [(⟨#[]⟩:ByteArray),(⟨#[110,105,110,101,98,121,116,101,115]⟩:ByteArray)]).bind fun r49=>some (r49.1,((r1.2.1,(r2.2.1,(r49.2.1,(ByteArray.empty,(0,()))))),()))) (cond (r44.2.1==5) ((aQ.f k r44.1 [0,12]).bind fun r50=>some (r50.1,((r50.2.1,(r2.2.1,(ByteArray.empty,(ByteArray.empty,(0,()))))),()))) (some (r44.1,((r1.2.1,(r2.2.1,(ByteArray.empty,(ByteArray.empty,(0,()))))),()))))))))))))
def f:=t k
end kE
namespace aS
abbrev Rs:Type:=Option (Bool × Unit)
def t (k:Nat) (a0:Int) (a1:Int) (a2:Int):Rs :=
 (cond (decide (a0≥a1)) (some ((decide (a0≤a2)),())) (some (false,())))
def f:=t k
end aS
namespace cy
abbrev Rs:Type:=Option ((Ty.d fm) × Bool × Unit)
def t (a0:Ty.d fm) (a1:Int):Rs :=
 ((aj.f k a0 a1).bind fun r1=>some (r1.1,((r1.2.1==0),())))
def f:=t k
end cy
namespace fR
abbrev Rs:Type:=Option ((Ty.d fm) × (List (Ty.d aZ)) × Unit)
abbrev T0:Type:=Int→List Int→Int→Int→List (Ty.d aZ)→List Bool→Rs
def b0 (L0:T0):T0:=fun x0 x1 x2 x3 x4 x5 =>
 (cond (decide (x0 > 0)) ((kE.f k (x1,(x2,(x3,())))).bind fun r2=>cond (decide (r2.2.1.1≤6)) ((aS.f k r2.2.1.2.1 0 2).bind fun r3=>cond r3.1 (b9 r2.2.1.2.1 (x5.length:Int) (cond (!(x5.getD r2.2.1.2.1.toNat (Ty.z .bool))) ((cy.f k r2.1 8).bind fun r4=>cond (!r4.2.1) (b9 r2.2.1.2.1 (x5.length:Int) (cond (x5.getD r2.2.1.2.1.toNat (Ty.z .bool)) ((cy.f k r4.1 8).bind fun r5=>cond (!r5.2.1) (b9 r2.2.1.2.1 (x5.length:Int) (let l6:=(x5.set r2.2.1.2.1.toNat false);(rm (Ty.bytes aZ) (x4.length+1) (L0 (aH (x0-1)) r5.1.1 r5.1.2.1 r5.1.2.2.1 (x4++[(5,(r2.2.1.2.1,(ByteArray.empty,(ByteArray.empty,(0,())))))]) l6)))) (b9 r2.2.1.2.1 (x5.length:Int) (let l7:=(x5.set r2.2.1.2.1.toNat true);(rm (Ty.bytes aZ) (x4.length+1) (L0 (aH (x0-1)) r5.1.1 r5.1.2.1 r5.1.2.2.1 (x4++[(1,(r2.2.1.2.1,(ByteArray.empty,(ByteArray.empty,(0,())))))]) l7))))) (b9 r2.2.1.2.1 (x5.length:Int) (let l8:=(x5.set r2.2.1.2.1.toNat true);(rm (Ty.bytes aZ) (x4.length+1) (L0 (aH (x0-1)) r4.1.1 r4.1.2.1 r4.1.2.2.1 (x4++[(1,(r2.2.1.2.1,(ByteArray.empty,(ByteArray.empty,(0,())))))]) l8)))))) (b9 r2.2.1.2.1 (x5.length:Int) (cond (x5.getD r2.2.1.2.1.toNat (Ty.z .bool)) (cond (r2.2.1.1==1) ((cy.f k r4.1 8).bind fun r9=>cond (!r9.2.1) (b9 r2.2.1.2.1 (x5.length:Int) (let l10:=(x5.set r2.2.1.2.1.toNat false);(rm (Ty.bytes aZ) (x4.length+1) (L0 (aH (x0-1)) r9.1.1 r9.1.2.1 r9.1.2.2.1 (x4++[(5,r2.2.1.2)]) l10)))) (cond (r2.2.1.1 != 5) (b9 r2.2.1.2.1 (x5.length:Int) (let l11:=(x5.set r2.2.1.2.1.toNat (r2.2.1.1 != 6));(cond (r2.2.1.1==9) (xG (Ty.bytes .bool) 3 (rm (Ty.bytes aZ) (x4.length+1) (rm (Ty.bytes aZ) (List.length (x4++[r2.2.1])+1) (L0 (aH (x0-1)) r9.1.1 r9.1.2.1 r9.1.2.2.1 ((x4++[r2.2.1])++[(10,(0,(ByteArray.empty,(ByteArray.empty,(0,())))))]) (List.replicate (Int.toNat 3) (Ty.z .bool)))))) (rm (Ty.bytes aZ) (x4.length+1) (L0 (aH (x0-1)) r9.1.1 r9.1.2.1 r9.1.2.2.1 (x4++[r2.2.1]) l11))))) (b9 r2.2.1.2.1 (x5.length:Int) (let l12:=(x5.set r2.2.1.2.1.toNat false);(cond (r2.2.1.1==9) (xG (Ty.bytes .bool) 3 (rm (Ty.bytes aZ) (x4.length+1) (rm (Ty.bytes aZ) (List.length (x4++[r2.2.1])+1) (L0 (aH (x0-1)) r9.1.1 r9.1.2.1 r9.1.2.2.1 ((x4++[r2.2.1])++[(10,(0,(ByteArray.empty,(ByteArray.empty,(0,())))))]) (List.replicate (Int.toNat 3) (Ty.z .bool)))))) (rm (Ty.bytes aZ) (x4.length+1) (L0 (aH (x0-1)) r9.1.1 r9.1.2.1 r9.1.2.2.1 (x4++[r2.2.1]) l12))))))) (cond (r2.2.1.1 != 5) (b9 r2.2.1.2.1 (x5.length:Int) (let l13:=(x5.set r2.2.1.2.1.toNat (r2.2.1.1 != 6));(cond (r2.2.1.1==9) (xG (Ty.bytes .bool) 3 (rm (Ty.bytes aZ) (x4.length+1) (rm (Ty.bytes aZ) (List.length (x4++[r2.2.1])+1) (L0 (aH (x0-1)) r4.1.1 r4.1.2.1 r4.1.2.2.1 ((x4++[r2.2.1])++[(10,(0,(ByteArray.empty,(ByteArray.empty,(0,())))))]) (List.replicate (Int.toNat 3) (Ty.z .bool)))))) (rm (Ty.bytes aZ) (x4.length+1) (L0 (aH (x0-1)) r4.1.1 r4.1.2.1 r4.1.2.2.1 (x4++[r2.2.1]) l13))))) (b9 r2.2.1.2.1 (x5.length:Int) (let l14:=(x5.set r2.2.1.2.1.toNat false);(cond (r2.2.1.1==9) (xG (Ty.bytes .bool) 3 (rm (Ty.bytes aZ) (x4.length+1) (rm (Ty.bytes aZ) (List.length (x4++[r2.2.1])+1) (L0 (aH (x0-1)) r4.1.1 r4.1.2.1 r4.1.2.2.1 ((x4++[r2.2.1])++[(10,(0,(ByteArray.empty,(ByteArray.empty,(0,())))))]) (List.replicate (Int.toNat 3) (Ty.z .bool)))))) (rm (Ty.bytes aZ) (x4.length+1) (L0 (aH (x0-1)) r4.1.1 r4.1.2.1 r4.1.2.2.1 (x4++[r2.2.1]) l14))))))) (cond (r2.2.1.1 != 5) (b9 r2.2.1.2.1 (x5.length:Int) (let l15:=(x5.set r2.2.1.2.1.toNat (r2.2.1.1 != 6));(cond (r2.2.1.1==9) (xG (Ty.bytes .bool) 3 (rm (Ty.bytes aZ) (x4.length+1) (rm (Ty.bytes aZ) (List.length (x4++[r2.2.1])+1) (L0 (aH (x0-1)) r4.1.1 r4.1.2.1 r4.1.2.2.1 ((x4++[r2.2.1])++[(10,(0,(ByteArray.empty,(ByteArray.empty,(0,())))))]) (List.replicate (Int.toNat 3) (Ty.z .bool)))))) (rm (Ty.bytes aZ) (x4.length+1) (L0 (aH (x0-1)) r4.1.1 r4.1.2.1 r4.1.2.2.1 (x4++[r2.2.1]) l15))))) (b9 r2.2.1.2.1 (x5.length:Int) (let l16:=(x5.set r2.2.1.2.1.toNat false);(cond (r2.2.1.1==9) (xG (Ty.bytes .bool) 3 (rm (Ty.bytes aZ) (x4.length+1) (rm (Ty.bytes aZ) (List.length (x4++[r2.2.1])+1) (L0 (aH (x0-1)) r4.1.1 r4.1.2.1 r4.1.2.2.1 ((x4++[r2.2.1])++[(10,(0,(ByteArray.empty,(ByteArray.empty,(0,())))))]) (List.replicate (Int.toNat 3) (Ty.z .bool)))))) (rm (Ty.bytes aZ) (x4.length+1) (L0 (aH (x0-1)) r4.1.1 r4.1.2.1 r4.1.2.2.1 (x4++[r2.2.1]) l16))))))))) (b9 r2.2.1.2.1 (x5.length:Int) (cond (x5.getD r2.2.1.2.1.toNat (Ty.z .bool)) (cond (r2.2.1.1==1) ((cy.f k r2.1 8).bind fun r17=>cond (!r17.2.1) (b9 r2.2.1.2.1 (x5.length:Int) (let l18:=(x5.set r2.2.1.2.1.toNat false);(rm (Ty.bytes aZ) (x4.length+1) (L0 (aH (x0-1)) r17.1.1 r17.1.2.1 r17.1.2.2.1 (x4++[(5,r2.2.1.2)]) l18)))) (cond (r2.2.1.1 != 5) (b9 r2.2.1.2.1 (x5.length:Int) (let l19:=(x5.set r2.2.1.2.1.toNat (r2.2.1.1 != 6));(cond (r2.2.1.1==9) (xG (Ty.bytes .bool) 3 (rm (Ty.bytes aZ) (x4.length+1) (rm (Ty.bytes aZ) (List.length (x4++[r2.2.1])+1) (L0 (aH (x0-1)) r17.1.1 r17.1.2.1 r17.1.2.2.1 ((x4++[r2.2.1])++[(10,(0,(ByteArray.empty,(ByteArray.empty,(0,())))))]) (List.replicate (Int.toNat 3) (Ty.z .bool)))))) (rm (Ty.bytes aZ) (x4.length+1) (L0 (aH (x0-1)) r17.1.1 r17.1.2.1 r17.1.2.2.1 (x4++[r2.2.1]) l19))))) (b9 r2.2.1.2.1 (x5.length:Int) (let l20:=(x5.set r2.2.1.2.1.toNat false);(cond (r2.2.1.1==9) (xG (Ty.bytes .bool) 3 (rm (Ty.bytes aZ) (x4.length+1) (rm (Ty.bytes aZ) (List.length (x4++[r2.2.1])+1) (L0 (aH (x0-1)) r17.1.1 r17.1.2.1 r17.1.2.2.1 ((x4++[r2.2.1])++[(10,(0,(ByteArray.empty,(ByteArray.empty,(0,())))))]) (List.replicate (Int.toNat 3) (Ty.z .bool)))))) (rm (Ty.bytes aZ) (x4.length+1) (L0 (aH (x0-1)) r17.1.1 r17.1.2.1 r17.1.2.2.1 (x4++[r2.2.1]) l20))))))) (cond (r2.2.1.1 != 5) (b9 r2.2.1.2.1 (x5.length:Int) (let l21:=(x5.set r2.2.1.2.1.toNat (r2.2.1.1 != 6));(cond (r2.2.1.1==9) (xG (Ty.bytes .bool) 3 (rm (Ty.bytes aZ) (x4.length+1) (rm (Ty.bytes aZ) (List.length (x4++[r2.2.1])+1) (L0 (aH (x0-1)) r2.1.1 r2.1.2.1 r2.1.2.2.1 ((x4++[r2.2.1])++[(10,(0,(ByteArray.empty,(ByteArray.empty,(0,())))))]) (List.replicate (Int.toNat 3) (Ty.z .bool)))))) (rm (Ty.bytes aZ) (x4.length+1) (L0 (aH (x0-1)) r2.1.1 r2.1.2.1 r2.1.2.2.1 (x4++[r2.2.1]) l21))))) (b9 r2.2.1.2.1 (x5.length:Int) (let l22:=(x5.set r2.2.1.2.1.toNat false);(cond (r2.2.1.1==9) (xG (Ty.bytes .bool) 3 (rm (Ty.bytes aZ) (x4.length+1) (rm (Ty.bytes aZ) (List.length (x4++[r2.2.1])+1) (L0 (aH (x0-1)) r2.1.1 r2.1.2.1 r2.1.2.2.1 ((x4++[r2.2.1])++[(10,(0,(ByteArray.empty,(ByteArray.empty,(0,())))))]) (List.replicate (Int.toNat 3) (Ty.z .bool)))))) (rm (Ty.bytes aZ) (x4.length+1) (L0 (aH (x0-1)) r2.1.1 r2.1.2.1 r2.1.2.2.1 (x4++[r2.2.1]) l22))))))) (cond (r2.2.1.1 != 5) (b9 r2.2.1.2.1 (x5.length:Int) (let l23:=(x5.set r2.2.1.2.1.toNat (r2.2.1.1 != 6));(cond (r2.2.1.1==9) (xG (Ty.bytes .bool) 3 (rm (Ty.bytes aZ) (x4.length+1) (rm (Ty.bytes aZ) (List.length (x4++[r2.2.1])+1) (L0 (aH (x0-1)) r2.1.1 r2.1.2.1 r2.1.2.2.1 ((x4++[r2.2.1])++[(10,(0,(ByteArray.empty,(ByteArray.empty,(0,())))))]) (List.replicate (Int.toNat 3) (Ty.z .bool)))))) (rm (Ty.bytes aZ) (x4.length+1) (L0 (aH (x0-1)) r2.1.1 r2.1.2.1 r2.1.2.2.1 (x4++[r2.2.1]) l23))))) (b9 r2.2.1.2.1 (x5.length:Int) (let l24:=(x5.set r2.2.1.2.1.toNat false);(cond (r2.2.1.1==9) (xG (Ty.bytes .bool) 3 (rm (Ty.bytes aZ) (x4.length+1) (rm (Ty.bytes aZ) (List.length (x4++[r2.2.1])+1) (L0 (aH (x0-1)) r2.1.1 r2.1.2.1 r2.1.2.2.1 ((x4++[r2.2.1])++[(10,(0,(ByteArray.empty,(ByteArray.empty,(0,())))))]) (List.replicate (Int.toNat 3) (Ty.z .bool)))))) (rm (Ty.bytes aZ) (x4.length+1) (L0 (aH (x0-1)) r2.1.1 r2.1.2.1 r2.1.2.2.1 (x4++[r2.2.1]) l24)))))))))) (cond (r2.2.1.1==9) (xG (Ty.bytes .bool) 3 (rm (Ty.bytes aZ) (x4.length+1) (rm (Ty.bytes aZ) (List.length (x4++[r2.2.1])+1) (L0 (aH (x0-1)) r2.1.1 r2.1.2.1 r2.1.2.2.1 ((x4++[r2.2.1])++[(10,(0,(ByteArray.empty,(ByteArray.empty,(0,())))))]) (List.replicate (Int.toNat 3) (Ty.z .bool)))))) (rm (Ty.bytes aZ) (x4.length+1) (L0 (aH (x0-1)) r2.1.1 r2.1.2.1 r2.1.2.2.1 (x4++[r2.2.1]) x5)))) (cond (r2.2.1.1==9) (xG (Ty.bytes .bool) 3 (rm (Ty.bytes aZ) (x4.length+1) (rm (Ty.bytes aZ) (List.length (x4++[r2.2.1])+1) (L0 (aH (x0-1)) r2.1.1 r2.1.2.1 r2.1.2.2.1 ((x4++[r2.2.1])++[(10,(0,(ByteArray.empty,(ByteArray.empty,(0,())))))]) (List.replicate (Int.toNat 3) (Ty.z .bool)))))) (rm (Ty.bytes aZ) (x4.length+1) (L0 (aH (x0-1)) r2.1.1 r2.1.2.1 r2.1.2.2.1 (x4++[r2.2.1]) x5)))) (some ((x1,(x2,(x3,()))),(x4,()))))
def l0:Nat→T0
 | 0=>fun _ _ _ _ _ _=>none
 | n+1=>b0 k (l0 n)
def t (L0:T0) (a0:Ty.d fm) (a1:Int):Rs :=
 (xG (Ty.bytes .bool) 3 ((aj.f k a0 (aH (a1+1))).bind fun r1=>L0 r1.2.1 r1.1.1 r1.1.2.1 r1.1.2.2.1 [] (List.replicate (Int.toNat 3) (Ty.z .bool))))
def f:=t k (l0 k k)
end fR
namespace im
abbrev Rs:Type:=Option ((Ty.d fm) × (Ty.d kQ) × Unit)
def t (a0:Ty.d fm) (a1:Int):Rs :=
 ((fR.f k a0 a1).bind fun r1=>(aj.f k r1.1 6).bind fun r2=>cond (r2.2.1==0) ((aj.f k r2.1 300).bind fun r3=>some (r3.1,(((aH (100+r3.2.1)),((-1),r1.2)),()))) (cond (r2.2.1==1) ((aj.f k r2.1 (aH ((r1.2.1.length:Int)+1))).bind fun r4=>oh r4.2.1 (r1.2.1.length:Int) (rm (Ty.bytes aZ) (0+List.length (r1.2.1.take r4.2.1.toNat)) ((aj.f k r4.1 120).bind fun r5=>rm (Ty.bytes aZ) (List.length ([]++(r1.2.1.take r4.2.1.toNat))+1) (oh r4.2.1 (r1.2.1.length:Int) (rm (Ty.bytes aZ) (List.length (([]++(r1.2.1.take r4.2.1.toNat))++[(11,(0,(ByteArray.empty,(ByteArray.empty,r5.2))))])+List.length (r1.2.1.drop r4.2.1.toNat)) (some (r5.1,((100000,((-1),(((([]++(r1.2.1.take r4.2.1.toNat))++[(11,(0,(ByteArray.empty,(ByteArray.empty,r5.2))))])++(r1.2.1.drop r4.2.1.toNat)),()))),())))))))) (some (r2.1,((100000,((-1),r1.2)),())))))
def f:=t k
end im
namespace jQ
abbrev Rs:Type:=Option ((Ty.d kQ) × Unit)
def t (a0:List Int):Rs :=
 ((i7.f k a0).bind fun r1=>(im.f k r1.2.1 40).bind fun r2=>(aj.f k r2.1 6).bind fun r3=>cond (r3.2.1==0) (cond (r3.2.1==0) ((aj.f k r3.1 60).bind fun r4=>(cy.f k r4.1 20).bind fun r5=>cond r5.2.1 ((aQ.f k r5.1 [(-1),100001,0,9]).bind fun r6=>some ((r6.2.1,(r4.2.1,r2.2.1.2.2)),())) (some ((r2.2.1.1,(r4.2.1,r2.2.1.2.2)),()))) (cond (r3.2.1==2) ((aQ.f k r3.1 [(-2),(-1),0,100001]).bind fun r7=>(cy.f k r7.1 20).bind fun r8=>cond r8.2.1 ((aQ.f k r8.1 [(-1),100001,0,9]).bind fun r9=>some ((r9.2.1,(r7.2.1,r2.2.1.2.2)),())) (some ((r2.2.1.1,(r7.2.1,r2.2.1.2.2)),()))) ((cy.f k r3.1 20).bind fun r10=>cond r10.2.1 ((aQ.f k r10.1 [(-1),100001,0,9]).bind fun r11=>some ((r11.2.1,r2.2.1.2),())) (some r2.2)))) (cond (r3.2.1==1) ((aj.f k r3.1 60).bind fun r12=>(cy.f k r12.1 20).bind fun r13=>cond r13.2.1 ((aQ.f k r13.1 [(-1),100001,0,9]).bind fun r14=>some ((r14.2.1,(r12.2.1,r2.2.1.2.2)),())) (some ((r2.2.1.1,(r12.2.1,r2.2.1.2.2)),()))) (cond (r3.2.1==2) ((aQ.f k r3.1 [(-2),(-1),0,100001]).bind fun r15=>(cy.f k r15.1 20).bind fun r16=>cond r16.2.1 ((aQ.f k r16.1 [(-1),100001,0,9]).bind fun r17=>some ((r17.2.1,(r15.2.1,r2.2.1.2.2)),())) (some ((r2.2.1.1,(r15.2.1,r2.2.1.2.2)),()))) ((cy.f k r3.1 20).bind fun r18=>cond r18.2.1 ((aQ.f k r18.1 [(-1),100001,0,9]).bind fun r19=>some ((r19.2.1,r2.2.1.2),())) (some r2.2)))))
def f:=t k
end jQ
namespace qI
abbrev Rs:Type:=Option (Int × Unit)
def t (k:Nat) (a0:List Int) (a1:Int):Rs :=
 (cond (decide (a1<(a0.length:Int))) (b9 a1 (a0.length:Int) (some ((aH (a0.getD a1.toNat (Ty.z (.int .u8)))),()))) (some ((Int.tmod (aH ((aH (a1*37))+(aH ((a0.length:Int)*11)))) 256),())))
def f:=t k
end qI
namespace ab
abbrev Rs:Type:=Option (Bool × Unit)
def t (k:Nat) (a0:Int) (a1:Int) (a2:Int):Rs :=
 (cond (decide (a0≥a1)) (some ((decide (a0≤a2)),())) (some (false,())))
def f:=t k
end ab
namespace k0
abbrev Rs:Type:=Option ((Ty.d aA) × Unit)
def t (a0:Int):Rs :=
 ((ab.f k a0 0 100000).bind fun r1=>cond (!r1.1) (some (([],(0,(0,(false,())))),())) (some (([],(a0,((-1),(false,())))),())))
def f:=t k
end k0
namespace bE
abbrev Rs:Type:=Option ((Ty.d aA) × Unit)
def t (k:Nat) (a0:Ty.d aA):Rs :=
 (rm (Ty.bytes aE) (a0.1.length) (some (a0,())))
def f:=t k
end bE
namespace fA
abbrev Rs:Type:=Option (Bool × Unit)
abbrev T0:Type:=ByteArray→Int→Rs
def b0 (L0:T0):T0:=fun x0 x1 =>
 (cond (decide (x1<(x0.size:Int))) (b9 x1 (x0.size:Int) (cond (decide ((fG x0 x1)≥97)) (b9 x1 (x0.size:Int) (cond (!(decide ((fG x0 x1)≤122))) (b9 x1 (x0.size:Int) (cond (decide ((fG x0 x1)≥48)) (b9 x1 (x0.size:Int) (cond (!(decide ((fG x0 x1)≤57))) (some (false,())) (L0 x0 (aH (x1+1))))) (some (false,())))) (L0 x0 (aH (x1+1))))) (b9 x1 (x0.size:Int) (cond (decide ((fG x0 x1)≥48)) (b9 x1 (x0.size:Int) (cond (!(decide ((fG x0 x1)≤57))) (some (false,())) (L0 x0 (aH (x1+1))))) (some (false,())))))) ((ab.f k (x0.size:Int) 1 12).bind fun r1=>some r1))
def l0:Nat→T0
 | 0=>fun _ _=>none
 | n+1=>b0 k (l0 n)
def t (k:Nat) (L0:T0) (a0:ByteArray):Rs :=
 (L0 a0 0)
def f:=t k (l0 k k)
end fA
namespace b8
abbrev Rs:Type:=Option (Bool × Unit)
abbrev T0:Type:=Int→List (Ty.d aE)→Int→Int→List (Ty.d aE)→Int→Int→Bool→Rs
def b0 (L0:T0):T0:=fun x0 x1 x2 x3 x4 x5 x6 x7 =>
 (cond (decide (x3<x2)) (b9 x3 (x1.length:Int) ((fA.f k (x1.getD x3.toNat (Ty.z aE)).1).bind fun r3=>cond (!r3.1) (some (false,())) ((ab.f k (x1.getD x3.toNat (Ty.z aE)).2.2.1 0 (ByteArray.size (x1.getD x3.toNat (Ty.z aE)).2.1:Int)).bind fun r4=>cond (!r4.1) (some (false,())) (cond (decide (x3 > 0)) (b9 (aH (x3-1)) (x4.length:Int) (cond (!(ox (x4.getD (aH (x3-1)).toNat (Ty.z aE)).1 (x1.getD x3.toNat (Ty.z aE)).1)) (some (false,())) (L0 (aH (x0+(ByteArray.size (x1.getD x3.toNat (Ty.z aE)).2.1:Int))) x1 x2 (aH (x3+1)) x4 x5 x6 x7))) (L0 (aH (x0+(ByteArray.size (x1.getD x3.toNat (Ty.z aE)).2.1:Int))) x1 x2 (aH (x3+1)) x4 x5 x6 x7))))) (some ((decide (x0≤x5)),())))
def l0:Nat→T0
 | 0=>fun _ _ _ _ _ _ _ _=>none
 | n+1=>b0 k (l0 n)
def t (L0:T0) (a0:Ty.d aA):Rs :=
 (cond (decide ((a0.1.length:Int) > 130)) (some (false,())) ((ab.f k a0.2.1 0 100000).bind fun r1=>cond (!r1.1) (some (false,())) ((ab.f k a0.2.2.1 (-1) 100000).bind fun r2=>cond (!r2.1) (some (false,())) (L0 0 a0.1 (a0.1.length:Int) 0 a0.1 a0.2.1 a0.2.2.1 a0.2.2.2.1))))
def f:=t k (l0 k k)
end b8
namespace jS
abbrev Rs:Type:=Option ((Ty.d aA) × Unit)
def t (a0:Ty.d aA) (a1:Int):Rs :=
 ((bE.f k a0).bind fun r1=>(b8.f k a0).bind fun r2=>cond r2.1 ((ab.f k a1 (-1) 100000).bind fun r3=>cond r3.1 (some ((r1.1.1,(r1.1.2.1,(a1,(false,())))),())) (some r1)) (some r1))
def f:=t k
end jS
namespace ba
abbrev Rs:Type:=Option (Int × Unit)
abbrev T0:Type:=ByteArray→List (Ty.d aE)→Int→Int→Rs
def b0 (k:Nat) (L0:T0):T0:=fun x0 x1 x2 x3 =>
 (cond (decide (x3<x2)) (b9 x3 (x1.length:Int) (cond (seq (x1.getD x3.toNat (Ty.z aE)).1 x0) (some (x3,())) (L0 x0 x1 x2 (aH (x3+1))))) (some ((-1),())))
def l0:Nat→T0
 | 0=>fun _ _ _ _=>none
 | n+1=>b0 k (l0 n)
def t (k:Nat) (L0:T0) (a0:Ty.d aA) (a1:ByteArray):Rs :=
 (L0 a1 a0.1 (a0.1.length:Int) 0)
def f:=t k (l0 k k)
end ba
namespace bq
abbrev Rs:Type:=Option (ByteArray × Bool × Unit)
def t (a0:Ty.d aA) (a1:ByteArray):Rs :=
 ((ba.f k a0 a1).bind fun r1=>cond (decide (r1.1<0)) (some ((⟨#[]⟩:ByteArray),(false,()))) ((b8.f k a0).bind fun r2=>cond (!r2.1) (some ((⟨#[]⟩:ByteArray),(false,()))) (b9 r1.1 (a0.1.length:Int) (some ((a0.1.getD r1.1.toNat (Ty.z aE)).2.1,(true,()))))))
def f:=t k
end bq
namespace dK
abbrev Rs:Type:=Option (Int × Int × Unit)
abbrev T0:Type:=ByteArray→Int→Int→Rs
def b0 (k:Nat) (L0:T0):T0:=fun x0 x1 x2 =>
 (cond (decide (x2<7)) (cond (decide (x2<(x0.size:Int))) (b9 x2 (x0.size:Int) (bif (decide ((aH (7*x2))<0)) then none else (cond (decide ((aH (fG x0 x2))≥128)) (L0 x0 (aH (x1+(aH ((Int.tmod (aH (fG x0 x2)) 128)*2 ^ (min (aH (7*x2)).toNat (IntKind.bits .i64)))))) (aH (x2+1))) (cond ((aH (fG x0 x2))==0) (cond (decide (x2 > 0)) (some (0,(0,()))) (some ((aH (x1+(aH ((Int.tmod (aH (fG x0 x2)) 128)*2 ^ (min (aH (7*x2)).toNat (IntKind.bits .i64)))))),((aH (x2+1)),())))) (some ((aH (x1+(aH ((Int.tmod (aH (fG x0 x2)) 128)*2 ^ (min (aH (7*x2)).toNat (IntKind.bits .i64)))))),((aH (x2+1)),()))))))) (some (0,(0,())))) (some (0,(0,()))))
def l0:Nat→T0
 | 0=>fun _ _ _=>none
 | n+1=>b0 k (l0 n)
def t (k:Nat) (L0:T0) (a0:ByteArray):Rs :=
 (L0 a0 0 0)
def f:=t k (l0 k k)
end dK
namespace gN
abbrev Rs:Type:=Option (ByteArray × Unit)
abbrev T0:Type:=Int→List Int→Rs
def b0 (k:Nat) (L0:T0):T0:=fun x0 x1 =>
 (cond (decide (x0 > 127)) (rm (Ty.bytes (.int .u8)) (x1.length+1) (L0 (aH (Int.tdiv x0 128)) (x1++[(IntKind.wrap .u8 (aH ((Int.tmod x0 128)+128)))]))) (rm (Ty.bytes (.int .u8)) (x1.length+1) (some ((bytesOf (x1++[(IntKind.wrap .u8 x0)])),()))))
def l0:Nat→T0
 | 0=>fun _ _=>none
 | n+1=>b0 k (l0 n)
def t (L0:T0) (a0:Int):Rs :=
 ((ab.f k a0 0 562949953421311).bind fun r1=>cond (!r1.1) (some ((⟨#[]⟩:ByteArray),())) (L0 a0 []))
def f:=t k (l0 k k)
end gN
namespace ez
abbrev Rs:Type:=Option (ByteArray × Unit)
def t (a0:ByteArray):Rs :=
 ((gN.f k (a0.size:Int)).bind fun r1=>mK r1.1 a0 (some ((r1.1++a0),())))
def f:=t k
end ez
namespace gy
abbrev Rs:Type:=Option (Int × Unit)
abbrev T1:Type:=ByteArray→Int→Int→Int→Rs
abbrev T0:Type:=ByteArray→Int→Int→Rs
def b1 (k:Nat) (L0:T0) (L1:T1):T1:=fun x0 x1 x2 x3 =>
 (cond (decide (x3<8)) (cond ((IntKind.wrap .u32 (((BitVec.ofInt (IntKind.bits .u32) x1 &&& BitVec.ofInt (IntKind.bits .u32) 1).toNat:Int)))==1) (L1 x0 (IntKind.wrap .u32 (((BitVec.ofInt (IntKind.bits .u32) (Int.fdiv x1 (2 ^ (Int.toNat 1))) ^^^ BitVec.ofInt (IntKind.bits .u32) 2197175160).toNat:Int))) x2 (aH (x3+1))) (L1 x0 (Int.fdiv x1 (2 ^ (Int.toNat 1))) x2 (aH (x3+1)))) (L0 x0 x1 (aH (x2+1))))
def l1 (L0:T0):Nat→T1
 | 0=>fun _ _ _ _=>none
 | n+1=>b1 k L0 (l1 L0 n)
def b0 (k:Nat) (L1:T1) (L0:T0):T0:=fun x0 x1 x2 =>
 (cond (decide (x2<(x0.size:Int))) (b9 x2 (x0.size:Int) (L1 x0 (IntKind.wrap .u32 (((BitVec.ofInt (IntKind.bits .u32) x1 ^^^ BitVec.ofInt (IntKind.bits .u32) (IntKind.wrap .u32 (fG x0 x2))).toNat:Int))) x2 0)) (some ((aH (Ga .u32 x1)),())))
def l0:Nat→T0
 | 0=>fun _ _ _=>none
 | n+1=>b0 k (l1 k (l0 n) k) (l0 n)
def t (k:Nat) (L0:T0) (a0:ByteArray):Rs :=
 (L0 a0 4294967295 0)
def f:=t k (l0 k k)
end gy
namespace eF
abbrev Rs:Type:=Option (ByteArray × Unit)
abbrev T0:Type:=Int→Int→List Int→Rs
def b0 (k:Nat) (L0:T0):T0:=fun x0 x1 x2 =>
 (cond (decide (x1≥0)) (bif (decide ((aH (8*x1))<0)) then none else (rm (Ty.bytes (.int .u8)) (x2.length+1) (L0 x0 (aH (x1-1)) (x2++[(IntKind.wrap .u8 (Int.fdiv x0 (2 ^ (min (aH (8*x1)).toNat (IntKind.bits .i64)))))])))) (some ((bytesOf x2),())))
def l0:Nat→T0
 | 0=>fun _ _ _=>none
 | n+1=>b0 k (l0 n)
def t (L0:T0) (a0:Int) (a1:Int):Rs :=
 ((ab.f k a1 1 7).bind fun r1=>cond (!r1.1) (some ((⟨#[]⟩:ByteArray),())) (bif (decide ((aH (8*a1))<0)) then none else ((ab.f k a0 0 (aH ((aH (1*2 ^ (min (aH (8*a1)).toNat (IntKind.bits .i64))))-1))).bind fun r2=>cond (!r2.1) (some ((⟨#[]⟩:ByteArray),())) (L0 a0 (aH (a1-1)) []))))
def f:=t k (l0 k k)
end eF
namespace i_
abbrev Rs:Type:=Option (ByteArray × Unit)
def t (a0:ByteArray):Rs :=
 (cond (decide ((a0.size:Int) > 200)) (some ((⟨#[]⟩:ByteArray),())) ((ez.f k a0).bind fun r1=>(gy.f k r1.1).bind fun r2=>(eF.f k r2.1 4).bind fun r3=>mK r3.1 r1.1 (some ((r3.1++r1.1),()))))
def f:=t k
end i_
namespace eS
abbrev Rs:Type:=Option (ByteArray × Int × Unit)
def t (a0:ByteArray):Rs :=
 (cond (decide ((a0.size:Int)<4)) (some ((⟨#[]⟩:ByteArray),(0,()))) (oh 4 (a0.size:Int) ((dK.f k (a0.extract 4 (a0.size))).bind fun r1=>cond (r1.2.1==0) (some ((⟨#[]⟩:ByteArray),(0,()))) (cond (decide (r1.1 > 200)) (some ((⟨#[]⟩:ByteArray),(0,()))) (cond (decide (r1.1 > (aH ((aH ((a0.size:Int)-4))-r1.2.1)))) (some ((⟨#[]⟩:ByteArray),(0,()))) (GW (aH (4+r1.2.1)) (aH ((aH (4+r1.2.1))+r1.1)) (a0.size:Int) ((i_.f k (a0.extract (aH (4+r1.2.1)).toNat (aH ((aH (4+r1.2.1))+r1.1)).toNat)).bind fun r2=>oh (aH ((aH (4+r1.2.1))+r1.1)) (a0.size:Int) (cond (!(seq r2.1 (a0.extract 0 (aH ((aH (4+r1.2.1))+r1.1)).toNat))) (some ((⟨#[]⟩:ByteArray),(0,()))) (some ((a0.extract (aH (4+r1.2.1)).toNat (aH ((aH (4+r1.2.1))+r1.1)).toNat),((aH ((aH (4+r1.2.1))+r1.1)),())))))))))))
def f:=t k
end eS
namespace aL
abbrev Rs:Type:=Option ((Ty.d nO) × Int × Unit)
def t (a0:Ty.d nO):Rs :=
 ((dK.f k a0.1).bind fun r1=>cond a0.2.1 (some ((a0.1,(true,())),(0,()))) (cond (r1.2.1==0) (some ((a0.1,(true,())),(0,()))) (oh r1.2.1 (a0.1.size:Int) (some (((a0.1.extract r1.2.1.toNat (a0.1.size)),a0.2),(r1.1,()))))))
def f:=t k
end aL
namespace dR
abbrev Rs:Type:=Option (Bool × Unit)
abbrev T0:Type:=List Int→Int→Int→Int→List Int→Rs
def b0 (L0:T0):T0:=fun x0 x1 x2 x3 x4 =>
 (cond (decide (x2<x1)) (b9 x2 (x0.length:Int) ((ab.f k (x0.getD x2.toNat (Ty.z (.int .i64))) 1 (aH (x3-1))).bind fun r1=>cond (!r1.1) (some (false,())) (cond (decide (x2 > 0)) (b9 (aH (x2-1)) (x4.length:Int) (cond (decide ((x4.getD (aH (x2-1)).toNat (Ty.z (.int .i64)))≥(x0.getD x2.toNat (Ty.z (.int .i64))))) (some (false,())) (L0 x0 x1 (aH (x2+1)) x3 x4))) (L0 x0 x1 (aH (x2+1)) x3 x4)))) ((ab.f k x3 1 100000).bind fun r2=>cond r2.1 ((ab.f k (x4.length:Int) 1 60).bind fun r3=>some r3) (some (false,()))))
def l0:Nat→T0
 | 0=>fun _ _ _ _ _=>none
 | n+1=>b0 k (l0 n)
def t (k:Nat) (L0:T0) (a0:Ty.d bL):Rs :=
 (L0 a0.2.1 (a0.2.1.length:Int) 0 a0.1 a0.2.1)
def f:=t k (l0 k k)
end dR
namespace bA
abbrev Rs:Type:=Option ((Ty.d bL) × Bool × Unit)
abbrev T0:Type:=ByteArray→Int→Int→Int→List Int→Int→ByteArray→Bool→List Int→Int→Rs
def b0 (L0:T0):T0:=fun x0 x1 x2 x3 x4 x5 x6 x7 x8 x9 =>
 (cond (decide (x3<x2)) (cond (!x7) ((aL.f k (x6,(x7,()))).bind fun r4=>rm (Ty.bytes (.int .i64)) (x8.length+1) (L0 x0 x1 x2 (aH (x3+1)) x4 x5 r4.1.1 r4.1.2.1 (x8++[r4.2.1]) x9)) (cond (x1==0) (some ((0,([],())),(false,()))) (cond (x1 != (x0.size:Int)) (some ((0,([],())),(false,()))) (cond x7 (some ((0,([],())),(false,()))) (cond (!(seq x6 (⟨#[]⟩:ByteArray))) (some ((0,([],())),(false,()))) ((dR.f k (x9,(x8,()))).bind fun r5=>cond (!r5.1) (some ((0,([],())),(false,()))) (some ((x9,(x8,())),(true,()))))))))) (cond (x1==0) (some ((0,([],())),(false,()))) (cond (x1 != (x0.size:Int)) (some ((0,([],())),(false,()))) (cond x7 (some ((0,([],())),(false,()))) (cond (!(seq x6 (⟨#[]⟩:ByteArray))) (some ((0,([],())),(false,()))) ((dR.f k (x9,(x8,()))).bind fun r6=>cond (!r6.1) (some ((0,([],())),(false,()))) (some ((x9,(x8,())),(true,())))))))))
def l0:Nat→T0
 | 0=>fun _ _ _ _ _ _ _ _ _ _=>none
 | n+1=>b0 k (l0 n)
def t (L0:T0) (a0:ByteArray):Rs :=
 ((eS.f k a0).bind fun r1=>(aL.f k (r1.1,(false,()))).bind fun r2=>(aL.f k r2.1).bind fun r3=>L0 a0 r1.2.1 r3.2.1 0 [] 0 r3.1.1 r3.1.2.1 [] r2.2.1)
def f:=t k (l0 k k)
end bA
namespace oI
abbrev Rs:Type:=Option (ByteArray × Unit)
def t (a0:Int):Rs :=
 ((oO.f k a0).bind fun r1=>some r1)
def f:=t k
end oI
namespace kG
abbrev Rs:Type:=Option (ByteArray × Unit)
def t (a0:ByteArray) (a1:Int):Rs :=
 ((ab.f k a1 1 100000).bind fun r1=>cond (!r1.1) (some ((⟨#[]⟩:ByteArray),())) ((oI.f k a1).bind fun r2=>mK a0 r2.1 (some ((a0++r2.1),()))))
def f:=t k
end kG
namespace ar
abbrev Rs:Type:=Option (ByteArray × Unit)
def t (a0:Int):Rs :=
 ((kG.f k (⟨#[115,101,103]⟩:ByteArray) a0).bind fun r1=>some r1)
def f:=t k
end ar
namespace ax
abbrev Rs:Type:=Option ((Ty.d nO) × ByteArray × Unit)
def t (k:Nat) (a0:Ty.d nO) (a1:Int):Rs :=
 (cond a0.2.1 (some ((a0.1,(true,())),((⟨#[]⟩:ByteArray),()))) (cond (decide (a1 > (a0.1.size:Int))) (some ((a0.1,(true,())),((⟨#[]⟩:ByteArray),()))) (oh a1 (a0.1.size:Int) (oh a1 (a0.1.size:Int) (some (((a0.1.extract a1.toNat (a0.1.size)),a0.2),((a0.1.extract 0 a1.toNat),())))))))
def f:=t k
end ax
namespace aq
abbrev Rs:Type:=Option ((Ty.d nO) × ByteArray × Unit)
def t (a0:Ty.d nO):Rs :=
 ((aL.f k a0).bind fun r1=>(ax.f k r1.1 r1.2.1).bind fun r2=>some r2)
def f:=t k
end aq
namespace eI
abbrev Rs:Type:=Option (Bool × Unit)
def t (a0:ByteArray):Rs :=
 ((ab.f k (a0.size:Int) 1 8).bind fun r1=>some r1)
def f:=t k
end eI
namespace gl
abbrev Rs:Type:=Option (Bool × Unit)
def t (a0:Ty.d bR):Rs :=
 (cond (a0.1==1) (cond (a0.1==1) ((eI.f k a0.2.2.1).bind fun r1=>cond r1.1 (cond (decide ((a0.2.2.2.1.size:Int)≤24)) ((ab.f k a0.2.1 1 1000000).bind fun r2=>cond r2.1 (some (((a0.1==a0.1)&&((a0.2.1==a0.2.1)&&((seq a0.2.2.1 a0.2.2.1)&&((seq a0.2.2.2.1 a0.2.2.2.1)&&((a0.2.2.2.2.1==0)&&(a0.2.2.2.2.2.1==0)))))),())) (some (false,()))) (some (false,()))) (some (false,()))) (cond (a0.1==2) ((eI.f k a0.2.2.1).bind fun r3=>cond r3.1 ((ab.f k a0.2.1 1 1000000).bind fun r4=>cond r4.1 (some (((a0.1==a0.1)&&((a0.2.1==a0.2.1)&&((seq a0.2.2.1 a0.2.2.1)&&((seq a0.2.2.2.1 ByteArray.empty)&&((a0.2.2.2.2.1==0)&&(a0.2.2.2.2.2.1==0)))))),())) (some (false,()))) (some (false,()))) (cond (a0.1==3) ((ab.f k a0.2.2.2.2.1 0 8).bind fun r5=>cond r5.1 ((ab.f k a0.2.2.2.2.2.1 0 4294967295).bind fun r6=>cond r6.1 ((ab.f k a0.2.1 1 1000000).bind fun r7=>cond r7.1 (some (((a0.1==a0.1)&&((a0.2.1==a0.2.1)&&((seq a0.2.2.1 ByteArray.empty)&&((seq a0.2.2.2.1 ByteArray.empty)&&((a0.2.2.2.2.1==a0.2.2.2.2.1)&&(a0.2.2.2.2.2.1==a0.2.2.2.2.2.1)))))),())) (some (false,()))) (some (false,()))) (some (false,()))) (cond (a0.1==5) ((ab.f k a0.2.2.2.2.1 0 20).bind fun r8=>cond r8.1 ((ab.f k a0.2.2.2.2.2.1 0 4294967295).bind fun r9=>cond r9.1 ((ab.f k a0.2.1 0 1000000).bind fun r10=>cond r10.1 (some (((a0.1==a0.1)&&((a0.2.1==a0.2.1)&&((seq a0.2.2.1 ByteArray.empty)&&((seq a0.2.2.2.1 ByteArray.empty)&&((a0.2.2.2.2.1==a0.2.2.2.2.1)&&(a0.2.2.2.2.2.1==a0.2.2.2.2.2.1)))))),())) (some (false,()))) (some (false,()))) (some (false,()))) (some (false,())))))) (cond (a0.1==4) ((eI.f k a0.2.2.1).bind fun r11=>cond r11.1 (cond (decide ((a0.2.2.2.1.size:Int)≤24)) ((ab.f k a0.2.1 1 1000000).bind fun r12=>cond r12.1 (some (((a0.1==a0.1)&&((a0.2.1==a0.2.1)&&((seq a0.2.2.1 a0.2.2.1)&&((seq a0.2.2.2.1 a0.2.2.2.1)&&((a0.2.2.2.2.1==0)&&(a0.2.2.2.2.2.1==0)))))),())) (some (false,()))) (some (false,()))) (some (false,()))) (cond (a0.1==2) ((eI.f k a0.2.2.1).bind fun r13=>cond r13.1 ((ab.f k a0.2.1 1 1000000).bind fun r14=>cond r14.1 (some (((a0.1==a0.1)&&((a0.2.1==a0.2.1)&&((seq a0.2.2.1 a0.2.2.1)&&((seq a0.2.2.2.1 ByteArray.empty)&&((a0.2.2.2.2.1==0)&&(a0.2.2.2.2.2.1==0)))))),())) (some (false,()))) (some (false,()))) (cond (a0.1==3) ((ab.f k a0.2.2.2.2.1 0 8).bind fun r15=>cond r15.1 ((ab.f k a0.2.2.2.2.2.1 0 4294967295).bind fun r16=>cond r16.1 ((ab.f k a0.2.1 1 1000000).bind fun r17=>cond r17.1 (some (((a0.1==a0.1)&&((a0.2.1==a0.2.1)&&((seq a0.2.2.1 ByteArray.empty)&&((seq a0.2.2.2.1 ByteArray.empty)&&((a0.2.2.2.2.1==a0.2.2.2.2.1)&&(a0.2.2.2.2.2.1==a0.2.2.2.2.2.1)))))),())) (some (false,()))) (some (false,()))) (some (false,()))) (cond (a0.1==5) ((ab.f k a0.2.2.2.2.1 0 20).bind fun r18=>cond r18.1 ((ab.f k a0.2.2.2.2.2.1 0 4294967295).bind fun r19=>cond r19.1 ((ab.f k a0.2.1 0 1000000).bind fun r20=>cond r20.1 (some (((a0.1==a0.1)&&((a0.2.1==a0.2.1)&&((seq a0.2.2.1 ByteArray.empty)&&((seq a0.2.2.2.1 ByteArray.empty)&&((a0.2.2.2.2.1==a0.2.2.2.2.1)&&(a0.2.2.2.2.2.1==a0.2.2.2.2.2.1)))))),())) (some (false,()))) (some (false,()))) (some (false,()))) (some (false,())))))))
def f:=t k
end gl
namespace cE
abbrev Rs:Type:=Option (Int × Bool × Unit)
abbrev T0:Type:=ByteArray→Int→Int→Int→Rs
def b0 (k:Nat) (L0:T0):T0:=fun x0 x1 x2 x3 =>
 (cond (decide (x3<x2)) (b9 x3 (x0.size:Int) (L0 x0 (aH (((BitVec.ofInt (IntKind.bits .i64) (aH (x1*2 ^ (min (Int.toNat 8) (IntKind.bits .i64)))) ||| BitVec.ofInt (IntKind.bits .i64) (aH (fG x0 x3))).toNat:Int))) x2 (aH (x3+1)))) (some (x1,(true,()))))
def l0:Nat→T0
 | 0=>fun _ _ _ _=>none
 | n+1=>b0 k (l0 n)
def t (L0:T0) (a0:ByteArray) (a1:Int):Rs :=
 ((ab.f k a1 1 7).bind fun r1=>cond (!r1.1) (some (0,(false,()))) (cond (decide ((a0.size:Int)<a1)) (some (0,(false,()))) (L0 a0 0 a1 0)))
def f:=t k (l0 k k)
end cE
namespace dL
abbrev Rs:Type:=Option ((Ty.d bR) × Bool × Unit)
def t (a0:ByteArray):Rs :=
 ((aL.f k (a0,(false,()))).bind fun r1=>(aL.f k r1.1).bind fun r2=>cond (r1.2.1==1) (cond (r1.2.1==1) ((aq.f k r2.1).bind fun r3=>(aq.f k r3.1).bind fun r4=>cond r4.1.2.1 (some ((0,(0,(ByteArray.empty,(ByteArray.empty,(0,(0,())))))),(false,()))) (cond (!(seq r4.1.1 (⟨#[]⟩:ByteArray))) (some ((0,(0,(ByteArray.empty,(ByteArray.empty,(0,(0,())))))),(false,()))) ((gl.f k (r1.2.1,(r2.2.1,(r3.2.1,(r4.2.1,(0,(0,()))))))).bind fun r5=>cond (!r5.1) (some ((0,(0,(ByteArray.empty,(ByteArray.empty,(0,(0,())))))),(false,()))) (some ((r1.2.1,(r2.2.1,(r3.2.1,(r4.2.1,(0,(0,())))))),(true,())))))) (cond (r1.2.1==2) ((aq.f k r2.1).bind fun r6=>cond r6.1.2.1 (some ((0,(0,(ByteArray.empty,(ByteArray.empty,(0,(0,())))))),(false,()))) (cond (!(seq r6.1.1 (⟨#[]⟩:ByteArray))) (some ((0,(0,(ByteArray.empty,(ByteArray.empty,(0,(0,())))))),(false,()))) ((gl.f k (r1.2.1,(r2.2.1,(r6.2.1,(ByteArray.empty,(0,(0,()))))))).bind fun r7=>cond (!r7.1) (some ((0,(0,(ByteArray.empty,(ByteArray.empty,(0,(0,())))))),(false,()))) (some ((r1.2.1,(r2.2.1,(r6.2.1,(ByteArray.empty,(0,(0,())))))),(true,())))))) ((aL.f k r2.1).bind fun r8=>(ax.f k r8.1 4).bind fun r9=>(cE.f k r9.2.1 4).bind fun r10=>cond r9.1.2.1 (some ((0,(0,(ByteArray.empty,(ByteArray.empty,(0,(0,())))))),(false,()))) (cond (!(seq r9.1.1 (⟨#[]⟩:ByteArray))) (some ((0,(0,(ByteArray.empty,(ByteArray.empty,(0,(0,())))))),(false,()))) ((gl.f k (r1.2.1,(r2.2.1,(ByteArray.empty,(ByteArray.empty,(r8.2.1,(r10.1,()))))))).bind fun r11=>cond (!r11.1) (some ((0,(0,(ByteArray.empty,(ByteArray.empty,(0,(0,())))))),(false,()))) (some ((r1.2.1,(r2.2.1,(ByteArray.empty,(ByteArray.empty,(r8.2.1,(r10.1,())))))),(true,())))))))) (cond (r1.2.1==4) ((aq.f k r2.1).bind fun r12=>(aq.f k r12.1).bind fun r13=>cond r13.1.2.1 (some ((0,(0,(ByteArray.empty,(ByteArray.empty,(0,(0,())))))),(false,()))) (cond (!(seq r13.1.1 (⟨#[]⟩:ByteArray))) (some ((0,(0,(ByteArray.empty,(ByteArray.empty,(0,(0,())))))),(false,()))) ((gl.f k (r1.2.1,(r2.2.1,(r12.2.1,(r13.2.1,(0,(0,()))))))).bind fun r14=>cond (!r14.1) (some ((0,(0,(ByteArray.empty,(ByteArray.empty,(0,(0,())))))),(false,()))) (some ((r1.2.1,(r2.2.1,(r12.2.1,(r13.2.1,(0,(0,())))))),(true,())))))) (cond (r1.2.1==2) ((aq.f k r2.1).bind fun r15=>cond r15.1.2.1 (some ((0,(0,(ByteArray.empty,(ByteArray.empty,(0,(0,())))))),(false,()))) (cond (!(seq r15.1.1 (⟨#[]⟩:ByteArray))) (some ((0,(0,(ByteArray.empty,(ByteArray.empty,(0,(0,())))))),(false,()))) ((gl.f k (r1.2.1,(r2.2.1,(r15.2.1,(ByteArray.empty,(0,(0,()))))))).bind fun r16=>cond (!r16.1) (some ((0,(0,(ByteArray.empty,(ByteArray.empty,(0,(0,())))))),(false,()))) (some ((r1.2.1,(r2.2.1,(r15.2.1,(ByteArray.empty,(0,(0,())))))),(true,())))))) ((aL.f k r2.1).bind fun r17=>(ax.f k r17.1 4).bind fun r18=>(cE.f k r18.2.1 4).bind fun r19=>cond r18.1.2.1 (some ((0,(0,(ByteArray.empty,(ByteArray.empty,(0,(0,())))))),(false,()))) (cond (!(seq r18.1.1 (⟨#[]⟩:ByteArray))) (some ((0,(0,(ByteArray.empty,(ByteArray.empty,(0,(0,())))))),(false,()))) ((gl.f k (r1.2.1,(r2.2.1,(ByteArray.empty,(ByteArray.empty,(r17.2.1,(r19.1,()))))))).bind fun r20=>cond (!r20.1) (some ((0,(0,(ByteArray.empty,(ByteArray.empty,(0,(0,())))))),(false,()))) (some ((r1.2.1,(r2.2.1,(ByteArray.empty,(ByteArray.empty,(r17.2.1,(r19.1,())))))),(true,())))))))))
def f:=t k
end dL
namespace dP
abbrev Rs:Type:=Option ((List (Ty.d bU)) × Int × Unit)
abbrev T0:Type:=ByteArray→Int→List (Ty.d bU)→Rs
def b0 (L0:T0):T0:=fun x0 x1 x2 =>
 (oh x1 (x0.size:Int) ((eS.f k (x0.extract x1.toNat (x0.size))).bind fun r1=>(dL.f k r1.1).bind fun r2=>cond (r1.2.1==0) (some (x2,(x1,()))) (cond (!r2.2.1) (some (x2,(x1,()))) (rm (Ty.bytes bU) (x2.length+1) (L0 x0 (aH (x1+r1.2.1)) (x2++[(x1,(r1.2.1,(r2.1,())))]))))))
def l0:Nat→T0
 | 0=>fun _ _ _=>none
 | n+1=>b0 k (l0 n)
def t (k:Nat) (L0:T0) (a0:ByteArray):Rs :=
 (L0 a0 0 [])
def f:=t k (l0 k k)
end dP
namespace fU
abbrev Rs:Type:=Option ((List (Ty.d aD)) × Unit)
abbrev T0:Type:=Int→List (Ty.d bU)→Int→Int→List (Ty.d aD)→Rs
def b0 (k:Nat) (L0:T0):T0:=fun x0 x1 x2 x3 x4 =>
 (cond (decide (x3<x2)) (b9 x3 (x1.length:Int) (rm (Ty.bytes aD) (x4.length+1) (L0 x0 x1 x2 (aH (x3+1)) (x4++[(x0,(x1.getD x3.toNat (Ty.z bU)))])))) (some (x4,())))
def l0:Nat→T0
 | 0=>fun _ _ _ _ _=>none
 | n+1=>b0 k (l0 n)
def t (k:Nat) (L0:T0) (a0:Int) (a1:List (Ty.d bU)):Rs :=
 (L0 a0 a1 (a1.length:Int) 0 [])
def f:=t k (l0 k k)
end fU
namespace bS
abbrev Rs:Type:=Option ((Ty.d au) × (List (List (Ty.d aD))) × Int × Bool × Unit)
abbrev T0:Type:=Int→List Int→Int→Int→List (Ty.d aE)→Int→Int→Bool→Int→Int→List Int→List (List (Ty.d aD))→Rs
def b0 (L0:T0):T0:=fun x0 x1 x2 x3 x4 x5 x6 x7 x8 x9 x10 x11 =>
 (cond (decide (x3<x2)) (b9 x3 (x1.length:Int) ((ar.f k (x1.getD x3.toNat (Ty.z (.int .i64)))).bind fun r1=>(bq.f k (x4,(x5,(x6,(x7,())))) r1.1).bind fun r2=>(dP.f k r2.1).bind fun r3=>cond (!r2.2.1) (some (((x4,(x5,(x6,(x7,())))),(x8,())),([],(0,(false,()))))) (cond (decide (x3<(aH ((x10.length:Int)-1)))) (cond (r3.2.1 != (r2.1.size:Int)) (some (((x4,(x5,(x6,(x7,())))),(x8,())),([],(0,(false,()))))) ((fU.f k (x1.getD x3.toNat (Ty.z (.int .i64))) r3.1).bind fun r4=>rm (Ty.bytes (.slice aD)) (x11.length+1) (L0 r3.2.1 x1 x2 (aH (x3+1)) x4 x5 x6 x7 x8 x9 x10 (x11++[r4.1])))) ((fU.f k (x1.getD x3.toNat (Ty.z (.int .i64))) r3.1).bind fun r5=>rm (Ty.bytes (.slice aD)) (x11.length+1) (L0 r3.2.1 x1 x2 (aH (x3+1)) x4 x5 x6 x7 x8 x9 x10 (x11++[r5.1])))))) (some (((x4,(x5,(x6,(x7,())))),(x8,())),(x11,(x0,(true,()))))))
def l0:Nat→T0
 | 0=>fun _ _ _ _ _ _ _ _ _ _ _ _=>none
 | n+1=>b0 k (l0 n)
def t (k:Nat) (L0:T0) (a0:Ty.d au) (a1:Ty.d bL):Rs :=
 (L0 0 a1.2.1 (a1.2.1.length:Int) 0 a0.1.1 a0.1.2.1 a0.1.2.2.1 a0.1.2.2.2.1 a0.2.1 a1.1 a1.2.1 [])
def f:=t k (l0 k k)
end bS
namespace fK
abbrev Rs:Type:=Option ((Ty.d aA) × ByteArray × Int × Int × Unit)
def t (a0:Ty.d aA) (a1:ByteArray) (a2:Int):Rs :=
 ((ba.f k a0 a1).bind fun r1=>cond (decide (r1.1<0)) (some (a0,(a1,(a2,(3,()))))) (b9 r1.1 (a0.1.length:Int) ((ab.f k a2 0 (ByteArray.size (a0.1.getD r1.1.toNat (Ty.z aE)).2.1:Int)).bind fun r2=>cond (!r2.1) (some (a0,(a1,(a2,(5,()))))) (oh a2 (ByteArray.size (a0.1.getD r1.1.toNat (Ty.z aE)).2.1:Int) (let l3:=(a0.1.set r1.1.toNat ((a0.1.getD r1.1.toNat (Ty.z aE)).1,((ByteArray.extract (a0.1.getD r1.1.toNat (Ty.z aE)).2.1 0 a2.toNat),(a0.1.getD r1.1.toNat (Ty.z aE)).2.2)));(let l4:=(l3.set r1.1.toNat ((l3.getD r1.1.toNat (Ty.z aE)).1,((l3.getD r1.1.toNat (Ty.z aE)).2.1,((if a2<(a0.1.getD r1.1.toNat (Ty.z aE)).2.2.1 then a2 else (a0.1.getD r1.1.toNat (Ty.z aE)).2.2.1),(l3.getD r1.1.toNat (Ty.z aE)).2.2.2))));(some ((l4,a0.2),(a1,(a2,(0,())))))))))))
def f:=t k
end fK
namespace fg
abbrev Rs:Type:=Option (ByteArray × Int × (Ty.d aA) × Int × Unit)
def t (a0:Ty.d aA) (a1:ByteArray) (a2:Int):Rs :=
 ((bE.f k a0).bind fun r1=>(b8.f k a0).bind fun r2=>cond (!r2.1) (some (a1,(a2,(r1.1,(5,()))))) (cond a0.2.2.2.1 (some (a1,(a2,((r1.1.1,(r1.1.2.1,(r1.1.2.2.1,(true,())))),(1,()))))) (cond (a0.2.2.1==0) (some (a1,(a2,((r1.1.1,(r1.1.2.1,(r1.1.2.2.1,(true,())))),(1,()))))) (cond (decide (a0.2.2.1 > 0)) ((fK.f k (r1.1.1,(r1.1.2.1,((aH (r1.1.2.2.1-1)),r1.1.2.2.2))) a1 a2).bind fun r3=>some (r3.2.1,(r3.2.2.1,(r3.1,r3.2.2.2)))) ((fK.f k r1.1 a1 a2).bind fun r4=>some (r4.2.1,(r4.2.2.1,(r4.1,r4.2.2.2))))))))
def f:=t k
end fg
namespace jO
abbrev Rs:Type:=Option ((Ty.d aA) × Int × Unit)
def t (a0:Ty.d aA) (a1:ByteArray) (a2:Int):Rs :=
 ((fg.f k a0 a1 a2).bind fun r1=>some r1.2.2)
def f:=t k
end jO
namespace mg
abbrev Rs:Type:=Option (Int × Unit)
def t (k:Nat) (a0:Int):Rs :=
 (cond (a0==0) (some (0,())) (cond (a0==1) (some (1,())) (cond (a0==2) (some (2,())) (some (3,())))))
def f:=t k
end mg
namespace b_
abbrev Rs:Type:=Option ((Ty.d au) × Unit)
def t (a0:Ty.d au) (a1:Ty.d aA) (a2:Int):Rs :=
 ((mg.f k a2).bind fun r1=>some ((a1,r1),()))
def f:=t k
end b_
namespace il
abbrev Rs:Type:=Option ((Ty.d aA) × ByteArray × Int × Unit)
def t (a0:Ty.d aA) (a1:ByteArray):Rs :=
 ((ba.f k a0 a1).bind fun r1=>cond (decide (r1.1<0)) (some (a0,(a1,(3,())))) (b9 r1.1 (a0.1.length:Int) (b9 r1.1 (a0.1.length:Int) (let l2:=(a0.1.set r1.1.toNat ((a0.1.getD r1.1.toNat (Ty.z aE)).1,((a0.1.getD r1.1.toNat (Ty.z aE)).2.1,((ByteArray.size (a0.1.getD r1.1.toNat (Ty.z aE)).2.1:Int),(a0.1.getD r1.1.toNat (Ty.z aE)).2.2.2))));(some ((l2,a0.2),(a1,(0,()))))))))
def f:=t k
end il
namespace iR
abbrev Rs:Type:=Option (ByteArray × (Ty.d aA) × Int × Unit)
def t (a0:Ty.d aA) (a1:ByteArray):Rs :=
 ((bE.f k a0).bind fun r1=>(b8.f k a0).bind fun r2=>cond (!r2.1) (some (a1,(r1.1,(5,())))) (cond a0.2.2.2.1 (some (a1,((r1.1.1,(r1.1.2.1,(r1.1.2.2.1,(true,())))),(1,())))) (cond (a0.2.2.1==0) (some (a1,((r1.1.1,(r1.1.2.1,(r1.1.2.2.1,(true,())))),(1,())))) (cond (decide (a0.2.2.1 > 0)) ((il.f k (r1.1.1,(r1.1.2.1,((aH (r1.1.2.2.1-1)),r1.1.2.2.2))) a1).bind fun r3=>some (r3.2.1,(r3.1,r3.2.2))) ((il.f k r1.1 a1).bind fun r4=>some (r4.2.1,(r4.1,r4.2.2)))))))
def f:=t k
end iR
namespace mr
abbrev Rs:Type:=Option ((Ty.d aA) × Int × Unit)
def t (a0:Ty.d aA) (a1:ByteArray):Rs :=
 ((iR.f k a0 a1).bind fun r1=>some r1.2)
def f:=t k
end mr
namespace bT
abbrev Rs:Type:=Option ((Ty.d au) × Unit)
def t (a0:Ty.d au) (a1:ByteArray):Rs :=
 (cond (a0.2.1==0) ((mr.f k a0.1 a1).bind fun r1=>(b_.f k a0 r1.1 r1.2.1).bind fun r2=>some r2) (some (a0,())))
def f:=t k
end bT
namespace di
abbrev Rs:Type:=Option (ByteArray × Unit)
def t (a0:Int):Rs :=
 ((kG.f k (⟨#[104,105,110,116]⟩:ByteArray) a0).bind fun r1=>some r1)
def f:=t k
end di
namespace fF
abbrev Rs:Type:=Option (Bool × Unit)
abbrev T0:Type:=List (Ty.d a_)→List (Ty.d a_)→Int→Int→Rs
def b0 (L0:T0):T0:=fun x0 x1 x2 x3 =>
 (cond (decide (x3<x2)) (b9 x3 (x1.length:Int) ((eI.f k (x1.getD x3.toNat (Ty.z a_)).1).bind fun r1=>cond (!r1.1) (some (false,())) ((ab.f k (x1.getD x3.toNat (Ty.z a_)).2.1 1 100000).bind fun r2=>cond (!r2.1) (some (false,())) (cond (decide ((x1.getD x3.toNat (Ty.z a_)).2.2.1<0)) (some (false,())) ((ab.f k (x1.getD x3.toNat (Ty.z a_)).2.2.2.1 1 210).bind fun r3=>cond (!r3.1) (some (false,())) ((ab.f k (x1.getD x3.toNat (Ty.z a_)).2.2.2.2.1 1 1000000).bind fun r4=>cond (!r4.1) (some (false,())) (cond (decide (x3 > 0)) (b9 (aH (x3-1)) (x0.length:Int) (cond (!(ox (x0.getD (aH (x3-1)).toNat (Ty.z a_)).1 (x1.getD x3.toNat (Ty.z a_)).1)) (some (false,())) (L0 x0 x1 x2 (aH (x3+1))))) (L0 x0 x1 x2 (aH (x3+1)))))))))) (some ((decide ((x0.length:Int)≤20)),())))
def l0:Nat→T0
 | 0=>fun _ _ _ _=>none
 | n+1=>b0 k (l0 n)
def t (k:Nat) (L0:T0) (a0:List (Ty.d a_)):Rs :=
 (L0 a0 a0 (a0.length:Int) 0)
def f:=t k (l0 k k)
end fF
namespace eZ
abbrev Rs:Type:=Option (Bool × Unit)
abbrev T0:Type:=List (Ty.d a_)→Int→Int→Int→Int→List (Ty.d a_)→Rs
def b0 (L0:T0):T0:=fun x0 x1 x2 x3 x4 x5 =>
 (cond (decide (x2<x1)) (b9 x2 (x0.length:Int) (b9 0 (x5.length:Int) (cond ((x0.getD x2.toNat (Ty.z a_)).2.1 != (x5.getD 0 (Ty.z a_)).2.1) (some (false,())) (cond (decide ((x0.getD x2.toNat (Ty.z a_)).2.2.1 > 100000)) (some (false,())) (L0 x0 x1 (aH (x2+1)) x3 x4 x5))))) ((ab.f k x3 0 100000).bind fun r1=>cond r1.1 ((ab.f k x4 0 1000000).bind fun r2=>cond r2.1 ((fF.f k x5).bind fun r3=>some r3) (some (false,()))) (some (false,()))))
def l0:Nat→T0
 | 0=>fun _ _ _ _ _ _=>none
 | n+1=>b0 k (l0 n)
def t (k:Nat) (L0:T0) (a0:Ty.d fV):Rs :=
 (L0 a0.2.2.1 (a0.2.2.1.length:Int) 0 a0.1 a0.2.1 a0.2.2.1)
def f:=t k (l0 k k)
end eZ
namespace dt
abbrev Rs:Type:=Option (ByteArray × Unit)
abbrev T0:Type:=ByteArray→List Int→Int→Int→Rs
def b0 (L0:T0):T0:=fun x0 x1 x2 x3 =>
 (cond (decide (x3<x2)) (b9 x3 (x1.length:Int) ((gN.f k (x1.getD x3.toNat (Ty.z (.int .i64)))).bind fun r1=>mK x0 r1.1 (L0 (x0++r1.1) x1 x2 (aH (x3+1))))) (some (x0,())))
def l0:Nat→T0
 | 0=>fun _ _ _ _=>none
 | n+1=>b0 k (l0 n)
def t (k:Nat) (L0:T0) (a0:List Int):Rs :=
 (L0 (⟨#[]⟩:ByteArray) a0 (a0.length:Int) 0)
def f:=t k (l0 k k)
end dt
namespace dN
abbrev Rs:Type:=Option (ByteArray × Unit)
abbrev T0:Type:=ByteArray→List (Ty.d a_)→Int→Int→Rs
def b0 (L0:T0):T0:=fun x0 x1 x2 x3 =>
 (cond (decide (x3<x2)) (b9 x3 (x1.length:Int) ((ez.f k (x1.getD x3.toNat (Ty.z a_)).1).bind fun r3=>(dt.f k [(x1.getD x3.toNat (Ty.z a_)).2.1,(x1.getD x3.toNat (Ty.z a_)).2.2.1,(x1.getD x3.toNat (Ty.z a_)).2.2.2.1,(x1.getD x3.toNat (Ty.z a_)).2.2.2.2.1]).bind fun r4=>mK r3.1 r4.1 (mK x0 (r3.1++r4.1) (L0 (x0++(r3.1++r4.1)) x1 x2 (aH (x3+1)))))) ((gy.f k x0).bind fun r5=>(eF.f k r5.1 4).bind fun r6=>mK r6.1 x0 (some ((r6.1++x0),()))))
def l0:Nat→T0
 | 0=>fun _ _ _ _=>none
 | n+1=>b0 k (l0 n)
def t (L0:T0) (a0:Ty.d fV):Rs :=
 ((eZ.f k a0).bind fun r1=>cond (!r1.1) (some ((⟨#[]⟩:ByteArray),())) ((dt.f k [a0.1,a0.2.1,(a0.2.2.1.length:Int)]).bind fun r2=>L0 r2.1 a0.2.2.1 (a0.2.2.1.length:Int) 0))
def f:=t k (l0 k k)
end dN
namespace bD
abbrev Rs:Type:=Option ((Ty.d fV) × Bool × Unit)
abbrev T0:Type:=ByteArray→Int→Int→List (Ty.d a_)→Int→Int→ByteArray→Bool→List (Ty.d a_)→Int→Int→Rs
def b0 (L0:T0):T0:=fun x0 x1 x2 x3 x4 x5 x6 x7 x8 x9 x10 =>
 (cond (decide (x2<x1)) (cond (!x7) ((aq.f k (x6,(x7,()))).bind fun r5=>(aL.f k r5.1).bind fun r6=>(aL.f k r6.1).bind fun r7=>(aL.f k r7.1).bind fun r8=>(aL.f k r8.1).bind fun r9=>rm (Ty.bytes a_) (x8.length+1) (L0 x0 x1 (aH (x2+1)) x3 x4 x5 r9.1.1 r9.1.2.1 (x8++[(r5.2.1,(r6.2.1,(r7.2.1,(r8.2.1,r9.2))))]) x9 x10)) (cond x7 (some ((0,(0,([],()))),(false,()))) ((eZ.f k (x9,(x10,(x8,())))).bind fun r10=>cond (!r10.1) (some ((0,(0,([],()))),(false,()))) ((dN.f k (x9,(x10,(x8,())))).bind fun r11=>cond (!(seq r11.1 x0)) (some ((0,(0,([],()))),(false,()))) (some ((x9,(x10,(x8,()))),(true,()))))))) (cond x7 (some ((0,(0,([],()))),(false,()))) ((eZ.f k (x9,(x10,(x8,())))).bind fun r12=>cond (!r12.1) (some ((0,(0,([],()))),(false,()))) ((dN.f k (x9,(x10,(x8,())))).bind fun r13=>cond (!(seq r13.1 x0)) (some ((0,(0,([],()))),(false,()))) (some ((x9,(x10,(x8,()))),(true,())))))))
def l0:Nat→T0
 | 0=>fun _ _ _ _ _ _ _ _ _ _ _=>none
 | n+1=>b0 k (l0 n)
def t (L0:T0) (a0:ByteArray):Rs :=
 ((ax.f k (a0,(false,())) 4).bind fun r1=>(aL.f k r1.1).bind fun r2=>(aL.f k r2.1).bind fun r3=>(aL.f k r3.1).bind fun r4=>L0 a0 r4.2.1 0 [] 0 0 r4.1.1 r4.1.2.1 [] r2.2.1 r3.2.1)
def f:=t k (l0 k k)
end bD
namespace gg
abbrev Rs:Type:=Option (ByteArray × Unit)
def t (a0:Ty.d bR):Rs :=
 ((gl.f k a0).bind fun r1=>cond (!r1.1) (some ((⟨#[]⟩:ByteArray),())) ((dt.f k [a0.1,a0.2.1]).bind fun r2=>cond (a0.1==1) (cond (a0.1==1) ((ez.f k a0.2.2.1).bind fun r3=>mK r2.1 r3.1 ((ez.f k a0.2.2.2.1).bind fun r4=>mK (r2.1++r3.1) r4.1 (some (((r2.1++r3.1)++r4.1),())))) (cond (a0.1==2) ((ez.f k a0.2.2.1).bind fun r5=>mK r2.1 r5.1 (some ((r2.1++r5.1),()))) ((gN.f k a0.2.2.2.2.1).bind fun r6=>mK r2.1 r6.1 ((eF.f k a0.2.2.2.2.2.1 4).bind fun r7=>mK (r2.1++r6.1) r7.1 (some (((r2.1++r6.1)++r7.1),())))))) (cond (a0.1==4) ((ez.f k a0.2.2.1).bind fun r8=>mK r2.1 r8.1 ((ez.f k a0.2.2.2.1).bind fun r9=>mK (r2.1++r8.1) r9.1 (some (((r2.1++r8.1)++r9.1),())))) (cond (a0.1==2) ((ez.f k a0.2.2.1).bind fun r10=>mK r2.1 r10.1 (some ((r2.1++r10.1),()))) ((gN.f k a0.2.2.2.2.1).bind fun r11=>mK r2.1 r11.1 ((eF.f k a0.2.2.2.2.2.1 4).bind fun r12=>mK (r2.1++r11.1) r12.1 (some (((r2.1++r11.1)++r12.1),()))))))))
def f:=t k
end gg
namespace gk
abbrev Rs:Type:=Option (Int × Unit)
abbrev T0:Type:=ByteArray→List (Ty.d bR)→Int→Int→Rs
def b0 (L0:T0):T0:=fun x0 x1 x2 x3 =>
 (cond (decide (x3<x2)) (b9 x3 (x1.length:Int) ((gg.f k (x1.getD x3.toNat (Ty.z bR))).bind fun r1=>mK x0 r1.1 (L0 (x0++r1.1) x1 x2 (aH (x3+1))))) ((gy.f k x0).bind fun r2=>some r2))
def l0:Nat→T0
 | 0=>fun _ _ _ _=>none
 | n+1=>b0 k (l0 n)
def t (k:Nat) (L0:T0) (a0:List (Ty.d bR)):Rs :=
 (L0 (⟨#[]⟩:ByteArray) a0 (a0.length:Int) 0)
def f:=t k (l0 k k)
end gk
namespace iF
abbrev Rs:Type:=Option (Bool × Unit)
abbrev T0:Type:=List (Ty.d aD)→Int→Int→Int→Int→ByteArray→ByteArray→Int→Int→List (Ty.d bR)→Rs
def b0 (L0:T0):T0:=fun x0 x1 x2 x3 x4 x5 x6 x7 x8 x9 =>
 (cond (decide (x2<x1)) (b9 x2 (x0.length:Int) (rm (Ty.bytes bR) (x9.length+1) (L0 x0 x1 (aH (x2+1)) x3 x4 x5 x6 x7 x8 (x9++[(x0.getD x2.toNat (Ty.z aD)).2.2.2.1])))) (cond (x7==(x9.length:Int)) ((gk.f k x9).bind fun r1=>some ((x8==r1.1),())) (some (false,()))))
def l0:Nat→T0
 | 0=>fun _ _ _ _ _ _ _ _ _ _=>none
 | n+1=>b0 k (l0 n)
def t (k:Nat) (L0:T0) (a0:Ty.d bR) (a1:List (Ty.d aD)):Rs :=
 (L0 a1 (a1.length:Int) 0 a0.1 a0.2.1 a0.2.2.1 a0.2.2.2.1 a0.2.2.2.2.1 a0.2.2.2.2.2.1 [])
def f:=t k (l0 k k)
end iF
namespace eu
abbrev Rs:Type:=Option ((Ty.d fV) × Bool × Unit)
abbrev T0:Type:=Int→List (Ty.d bU)→List (Ty.d bU)→Int→Int→List (Ty.d a_)→Int→Int→List (Ty.d a_)→Int→Int→Rs
def b0 (k:Nat) (L0:T0):T0:=fun x0 x1 x2 x3 x4 x5 x6 x7 x8 x9 x10 =>
 (cond (decide (x4<x3)) (b9 x4 (x2.length:Int) (cond ((x2.getD x4.toNat (Ty.z bU)).2.2.1.1 != 4) (some ((0,(0,([],()))),(false,()))) (cond (decide ((x2.getD x4.toNat (Ty.z bU)).2.2.1.2.1 > x10)) (some ((0,(0,([],()))),(false,()))) (cond (decide (x4 > 0)) (b9 (aH (x4-1)) (x1.length:Int) (cond (!(ox (x1.getD (aH (x4-1)).toNat (Ty.z bU)).2.2.1.2.2.1 (x2.getD x4.toNat (Ty.z bU)).2.2.1.2.2.1)) (some ((0,(0,([],()))),(false,()))) (rm (Ty.bytes a_) (x8.length+1) (L0 x0 x1 x2 x3 (aH (x4+1)) x5 x6 x7 (x8++[((x2.getD x4.toNat (Ty.z bU)).2.2.1.2.2.1,(x0,((x2.getD x4.toNat (Ty.z bU)).1,((x2.getD x4.toNat (Ty.z bU)).2.1,((x2.getD x4.toNat (Ty.z bU)).2.2.1.2.1,())))))]) x9 x10)))) (rm (Ty.bytes a_) (x8.length+1) (L0 x0 x1 x2 x3 (aH (x4+1)) x5 x6 x7 (x8++[((x2.getD x4.toNat (Ty.z bU)).2.2.1.2.2.1,(x0,((x2.getD x4.toNat (Ty.z bU)).1,((x2.getD x4.toNat (Ty.z bU)).2.1,((x2.getD x4.toNat (Ty.z bU)).2.2.1.2.1,())))))]) x9 x10)))))) (some ((x9,(x10,(x8,()))),(true,()))))
def l0:Nat→T0
 | 0=>fun _ _ _ _ _ _ _ _ _ _ _=>none
 | n+1=>b0 k (l0 n)
def t (L0:T0) (a0:Int) (a1:ByteArray):Rs :=
 ((dP.f k a1).bind fun r1=>cond (decide ((aH ((r1.1.length:Int)-1))<0)) (some ((0,(0,([],()))),(false,()))) (cond (r1.2.1 != (a1.size:Int)) (some ((0,(0,([],()))),(false,()))) ((ab.f k a0 1 100000).bind fun r2=>cond (!r2.1) (some ((0,(0,([],()))),(false,()))) (b9 (aH ((r1.1.length:Int)-1)) (r1.1.length:Int) (cond ((r1.1.getD (aH ((r1.1.length:Int)-1)).toNat (Ty.z bU)).2.2.1.1 != 5) (some ((0,(0,([],()))),(false,()))) (b9 (aH ((r1.1.length:Int)-1)) (r1.1.length:Int) (oh (aH ((r1.1.length:Int)-1)) (r1.1.length:Int) ((fU.f k a0 (r1.1.take (aH ((r1.1.length:Int)-1)).toNat)).bind fun r3=>(iF.f k (r1.1.getD (aH ((r1.1.length:Int)-1)).toNat (Ty.z bU)).2.2.1 r3.1).bind fun r4=>cond (!r4.1) (some ((0,(0,([],()))),(false,()))) (b9 (aH ((r1.1.length:Int)-1)) (r1.1.length:Int) (oh (aH ((r1.1.length:Int)-1)) (r1.1.length:Int) (L0 a0 r1.1 (r1.1.take (aH ((r1.1.length:Int)-1)).toNat) ((r1.1.take (aH ((r1.1.length:Int)-1)).toNat).length:Int) 0 [] 0 0 [] r1.2.1 (r1.1.getD (aH ((r1.1.length:Int)-1)).toNat (Ty.z bU)).2.2.1.2.1)))))))))))
def f:=t k (l0 k k)
end eu
namespace gD
abbrev Rs:Type:=Option (Bool × Unit)
abbrev T0:Type:=List (Ty.d a_)→List (Ty.d a_)→Int→Int→Rs
def b0 (k:Nat) (L0:T0):T0:=fun x0 x1 x2 x3 =>
 (cond (decide (x3<x2)) (b9 x3 (x0.length:Int) (b9 x3 (x1.length:Int) (cond (!((seq (x0.getD x3.toNat (Ty.z a_)).1 (x1.getD x3.toNat (Ty.z a_)).1)&&(((x0.getD x3.toNat (Ty.z a_)).2.1==(x1.getD x3.toNat (Ty.z a_)).2.1)&&(((x0.getD x3.toNat (Ty.z a_)).2.2.1==(x1.getD x3.toNat (Ty.z a_)).2.2.1)&&(((x0.getD x3.toNat (Ty.z a_)).2.2.2.1==(x1.getD x3.toNat (Ty.z a_)).2.2.2.1)&&((x0.getD x3.toNat (Ty.z a_)).2.2.2.2.1==(x1.getD x3.toNat (Ty.z a_)).2.2.2.2.1)))))) (some (false,())) (L0 x0 x1 x2 (aH (x3+1)))))) (some (true,())))
def l0:Nat→T0
 | 0=>fun _ _ _ _=>none
 | n+1=>b0 k (l0 n)
def t (k:Nat) (L0:T0) (a0:List (Ty.d a_)) (a1:List (Ty.d a_)):Rs :=
 (cond ((a0.length:Int) != (a1.length:Int)) (some (false,())) (L0 a0 a1 (a0.length:Int) 0))
def f:=t k (l0 k k)
end gD
namespace jJ
abbrev Rs:Type:=Option (Bool × Unit)
def t (a0:Int) (a1:ByteArray) (a2:Ty.d fV):Rs :=
 ((eu.f k a0 a1).bind fun r1=>cond r1.2.1 (cond (r1.1.1==a2.1) (cond (r1.1.2.1==a2.2.1) ((gD.f k r1.1.2.2.1 a2.2.2.1).bind fun r2=>some r2) (some (false,()))) (some (false,()))) (some (false,())))
def f:=t k
end jJ
namespace dI
abbrev Rs:Type:=Option ((Ty.d au) × (Ty.d iK) × Bool × Unit)
def t (a0:Ty.d au) (a1:Int):Rs :=
 ((di.f k a1).bind fun r1=>(bq.f k a0.1 r1.1).bind fun r2=>(bD.f k r2.1).bind fun r3=>(ar.f k a1).bind fun r4=>(bq.f k a0.1 r4.1).bind fun r5=>cond (!r2.2.1) (some (a0,(([],(0,(0,()))),(false,())))) (cond (!r3.2.1) (some (a0,(([],(0,(0,()))),(false,())))) ((jJ.f k a1 r5.1 r3.1).bind fun r6=>cond (!r6.1) (some (a0,(([],(0,(0,()))),(false,())))) (some (a0,((r3.1.2.2.1,(r3.1.2.1,(0,()))),(true,())))))))
def f:=t k
end dI
namespace cM
abbrev Rs:Type:=Option ((List (Ty.d a_)) × Unit)
def t (k:Nat) (a0:List (Ty.d a_)):Rs :=
 (rm (Ty.bytes a_) (a0.length) (some (a0,())))
def f:=t k
end cM
namespace dU
abbrev Rs:Type:=Option ((List (Ty.d aD)) × Unit)
abbrev T0:Type:=List (Ty.d aD)→Int→Int→Int→Int→ByteArray→ByteArray→Int→Int→List (Ty.d aD)→Rs
def b0 (k:Nat) (L0:T0):T0:=fun x0 x1 x2 x3 x4 x5 x6 x7 x8 x9 =>
 (cond (decide (x2<x1)) (b9 x2 (x0.length:Int) (cond (x3==3) (cond ((x0.getD x2.toNat (Ty.z aD)).2.2.2.1.2.1 != x4) (L0 x0 x1 (aH (x2+1)) x3 x4 x5 x6 x7 x8 x9) (cond ((x0.getD x2.toNat (Ty.z aD)).2.2.2.1.1==x3) (L0 x0 x1 (aH (x2+1)) x3 x4 x5 x6 x7 x8 []) (cond (x3==3) (cond ((x0.getD x2.toNat (Ty.z aD)).2.2.2.1.1==1) (rm (Ty.bytes aD) (x9.length+1) (L0 x0 x1 (aH (x2+1)) x3 x4 x5 x6 x7 x8 (x9++[(x0.getD x2.toNat (Ty.z aD))]))) (cond ((x0.getD x2.toNat (Ty.z aD)).2.2.2.1.1==2) (cond ((x0.getD x2.toNat (Ty.z aD)).2.2.2.1.1==2) (rm (Ty.bytes aD) (x9.length+1) (L0 x0 x1 (aH (x2+1)) x3 x4 x5 x6 x7 x8 (x9++[(x0.getD x2.toNat (Ty.z aD))]))) (L0 x0 x1 (aH (x2+1)) x3 x4 x5 x6 x7 x8 x9)) (cond (x3==5) (cond ((x0.getD x2.toNat (Ty.z aD)).2.2.2.1.1==4) (rm (Ty.bytes aD) (x9.length+1) (L0 x0 x1 (aH (x2+1)) x3 x4 x5 x6 x7 x8 (x9++[(x0.getD x2.toNat (Ty.z aD))]))) (L0 x0 x1 (aH (x2+1)) x3 x4 x5 x6 x7 x8 x9)) (L0 x0 x1 (aH (x2+1)) x3 x4 x5 x6 x7 x8 x9)))) (cond (x3==5) (cond ((x0.getD x2.toNat (Ty.z aD)).2.2.2.1.1==4) (rm (Ty.bytes aD) (x9.length+1) (L0 x0 x1 (aH (x2+1)) x3 x4 x5 x6 x7 x8 (x9++[(x0.getD x2.toNat (Ty.z aD))]))) (L0 x0 x1 (aH (x2+1)) x3 x4 x5 x6 x7 x8 x9)) (L0 x0 x1 (aH (x2+1)) x3 x4 x5 x6 x7 x8 x9))))) (cond ((x0.getD x2.toNat (Ty.z aD)).2.2.2.1.1==x3) (L0 x0 x1 (aH (x2+1)) x3 x4 x5 x6 x7 x8 []) (cond (x3==3) (cond ((x0.getD x2.toNat (Ty.z aD)).2.2.2.1.1==1) (rm (Ty.bytes aD) (x9.length+1) (L0 x0 x1 (aH (x2+1)) x3 x4 x5 x6 x7 x8 (x9++[(x0.getD x2.toNat (Ty.z aD))]))) (cond ((x0.getD x2.toNat (Ty.z aD)).2.2.2.1.1==2) (cond ((x0.getD x2.toNat (Ty.z aD)).2.2.2.1.1==2) (rm (Ty.bytes aD) (x9.length+1) (L0 x0 x1 (aH (x2+1)) x3 x4 x5 x6 x7 x8 (x9++[(x0.getD x2.toNat (Ty.z aD))]))) (L0 x0 x1 (aH (x2+1)) x3 x4 x5 x6 x7 x8 x9)) (cond (x3==5) (cond ((x0.getD x2.toNat (Ty.z aD)).2.2.2.1.1==4) (rm (Ty.bytes aD) (x9.length+1) (L0 x0 x1 (aH (x2+1)) x3 x4 x5 x6 x7 x8 (x9++[(x0.getD x2.toNat (Ty.z aD))]))) (L0 x0 x1 (aH (x2+1)) x3 x4 x5 x6 x7 x8 x9)) (L0 x0 x1 (aH (x2+1)) x3 x4 x5 x6 x7 x8 x9)))) (cond (x3==5) (cond ((x0.getD x2.toNat (Ty.z aD)).2.2.2.1.1==4) (rm (Ty.bytes aD) (x9.length+1) (L0 x0 x1 (aH (x2+1)) x3 x4 x5 x6 x7 x8 (x9++[(x0.getD x2.toNat (Ty.z aD))]))) (L0 x0 x1 (aH (x2+1)) x3 x4 x5 x6 x7 x8 x9)) (L0 x0 x1 (aH (x2+1)) x3 x4 x5 x6 x7 x8 x9)))))) (some (x9,())))
def l0:Nat→T0
 | 0=>fun _ _ _ _ _ _ _ _ _ _=>none
 | n+1=>b0 k (l0 n)
def t (k:Nat) (L0:T0) (a0:List (Ty.d aD)) (a1:Ty.d bR):Rs :=
 (L0 a0 (a0.length:Int) 0 a1.1 a1.2.1 a1.2.2.1 a1.2.2.2.1 a1.2.2.2.2.1 a1.2.2.2.2.2.1 [])
def f:=t k (l0 k k)
end dU
namespace cG
abbrev Rs:Type:=Option ((List (Ty.d a_)) × Unit)
abbrev T0:Type:=ByteArray→List (Ty.d a_)→Int→Int→List (Ty.d a_)→Rs
def b0 (k:Nat) (L0:T0):T0:=fun x0 x1 x2 x3 x4 =>
 (cond (decide (x3<x2)) (b9 x3 (x1.length:Int) (cond (!(seq (x1.getD x3.toNat (Ty.z a_)).1 x0)) (rm (Ty.bytes a_) (x4.length+1) (L0 x0 x1 x2 (aH (x3+1)) (x4++[(x1.getD x3.toNat (Ty.z a_))]))) (L0 x0 x1 x2 (aH (x3+1)) x4))) (some (x4,())))
def l0:Nat→T0
 | 0=>fun _ _ _ _ _=>none
 | n+1=>b0 k (l0 n)
def t (k:Nat) (L0:T0) (a0:List (Ty.d a_)) (a1:ByteArray):Rs :=
 (L0 a1 a0 (a0.length:Int) 0 [])
def f:=t k (l0 k k)
end cG
namespace dQ
abbrev Rs:Type:=Option ((List (Ty.d a_)) × Unit)
abbrev T0:Type:=Int→ByteArray→Int→Int→Int→Int→List (Ty.d a_)→Rs
def b0 (L0:T0):T0:=fun x0 x1 x2 x3 x4 x5 x6 =>
 (cond (decide (x0<(x6.length:Int))) (b9 x0 (x6.length:Int) (cond ((ox (x6.getD x0.toNat (Ty.z a_)).1 x1)||(seq (x6.getD x0.toNat (Ty.z a_)).1 x1)) (L0 (aH (x0+1)) x1 x2 x3 x4 x5 x6) (oh x0 (x6.length:Int) ((cM.f k (x6.take x0.toNat)).bind fun r2=>rm (Ty.bytes a_) (r2.1.length+1) (oh x0 (x6.length:Int) (rm (Ty.bytes a_) (List.length (r2.1++[(x1,(x2,(x3,(x4,(x5,())))))])+List.length (x6.drop x0.toNat)) (some (((r2.1++[(x1,(x2,(x3,(x4,(x5,())))))])++(x6.drop x0.toNat)),())))))))) (oh x0 (x6.length:Int) ((cM.f k (x6.take x0.toNat)).bind fun r3=>rm (Ty.bytes a_) (r3.1.length+1) (oh x0 (x6.length:Int) (rm (Ty.bytes a_) (List.length (r3.1++[(x1,(x2,(x3,(x4,(x5,())))))])+List.length (x6.drop x0.toNat)) (some (((r3.1++[(x1,(x2,(x3,(x4,(x5,())))))])++(x6.drop x0.toNat)),())))))))
def l0:Nat→T0
 | 0=>fun _ _ _ _ _ _ _=>none
 | n+1=>b0 k (l0 n)
def t (L0:T0) (a0:List (Ty.d a_)) (a1:Ty.d a_):Rs :=
 ((cG.f k a0 a1.1).bind fun r1=>L0 0 a1.1 a1.2.1 a1.2.2.1 a1.2.2.2.1 a1.2.2.2.2.1 r1.1)
def f:=t k (l0 k k)
end dQ
namespace cR
abbrev Rs:Type:=Option ((Ty.d iK) × Unit)
abbrev T0:Type:=List (Ty.d aD)→Int→Int→List (Ty.d a_)→Int→Int→Rs
def b0 (L0:T0):T0:=fun x0 x1 x2 x3 x4 x5 =>
 (cond (decide (x2<x1)) (b9 x2 (x0.length:Int) (cond ((x0.getD x2.toNat (Ty.z aD)).2.2.2.1.1==2) ((cG.f k x3 (x0.getD x2.toNat (Ty.z aD)).2.2.2.1.2.2.1).bind fun r1=>L0 x0 x1 (aH (x2+1)) r1.1 x4 x5) ((dQ.f k x3 ((x0.getD x2.toNat (Ty.z aD)).2.2.2.1.2.2.1,((x0.getD x2.toNat (Ty.z aD)).1,((x0.getD x2.toNat (Ty.z aD)).2.1,((x0.getD x2.toNat (Ty.z aD)).2.2.1,((x0.getD x2.toNat (Ty.z aD)).2.2.2.1.2.1,())))))).bind fun r2=>L0 x0 x1 (aH (x2+1)) r2.1 x4 x5))) (cond (decide ((x3.length:Int) > 20)) (some ((x3,(x4,(2,()))),())) (some ((x3,(x4,(x5,()))),()))))
def l0:Nat→T0
 | 0=>fun _ _ _ _ _ _=>none
 | n+1=>b0 k (l0 n)
def t (k:Nat) (L0:T0) (a0:Ty.d iK) (a1:List (Ty.d aD)):Rs :=
 (L0 a1 (a1.length:Int) 0 a0.1 a0.2.1 a0.2.2.1)
def f:=t k (l0 k k)
end cR
namespace dw
abbrev Rs:Type:=Option ((Ty.d iK) × Unit)
abbrev T0:Type:=List (Ty.d aD)→List (Ty.d aD)→Int→Int→List (Ty.d a_)→Int→Int→List (Ty.d a_)→Int→Int→Rs
def b0 (L0:T0):T0:=fun x0 x1 x2 x3 x4 x5 x6 x7 x8 x9 =>
 (cond (decide (x3<x2)) (b9 x3 (x1.length:Int) (cond (x9 != 0) (some ((x7,(x8,(x9,()))),())) (cond ((x1.getD x3.toNat (Ty.z aD)).2.2.2.1.1 != 3) (cond ((x1.getD x3.toNat (Ty.z aD)).2.2.2.1.1 != 5) (L0 x0 x1 x2 (aH (x3+1)) x4 x5 x6 x7 (if (x1.getD x3.toNat (Ty.z aD)).2.2.2.1.2.1 > x8 then (x1.getD x3.toNat (Ty.z aD)).2.2.2.1.2.1 else x8) x9) (oh x3 (x0.length:Int) ((dU.f k (x0.take x3.toNat) (x1.getD x3.toNat (Ty.z aD)).2.2.2.1).bind fun r2=>(iF.f k (x1.getD x3.toNat (Ty.z aD)).2.2.2.1 r2.1).bind fun r3=>cond r3.1 ((cR.f k (x7,((if (x1.getD x3.toNat (Ty.z aD)).2.2.2.1.2.1 > x8 then (x1.getD x3.toNat (Ty.z aD)).2.2.2.1.2.1 else x8),(x9,()))) r2.1).bind fun r4=>L0 x0 x1 x2 (aH (x3+1)) x4 x5 x6 r4.1.1 r4.1.2.1 r4.1.2.2.1) (cond ((x1.getD x3.toNat (Ty.z aD)).2.2.2.1.1==5) (L0 x0 x1 x2 (aH (x3+1)) x4 x5 x6 x7 (if (x1.getD x3.toNat (Ty.z aD)).2.2.2.1.2.1 > x8 then (x1.getD x3.toNat (Ty.z aD)).2.2.2.1.2.1 else x8) 1) (L0 x0 x1 x2 (aH (x3+1)) x4 x5 x6 x7 (if (x1.getD x3.toNat (Ty.z aD)).2.2.2.1.2.1 > x8 then (x1.getD x3.toNat (Ty.z aD)).2.2.2.1.2.1 else x8) x9))))) (oh x3 (x0.length:Int) ((dU.f k (x0.take x3.toNat) (x1.getD x3.toNat (Ty.z aD)).2.2.2.1).bind fun r5=>(iF.f k (x1.getD x3.toNat (Ty.z aD)).2.2.2.1 r5.1).bind fun r6=>cond r6.1 ((cR.f k (x7,((if (x1.getD x3.toNat (Ty.z aD)).2.2.2.1.2.1 > x8 then (x1.getD x3.toNat (Ty.z aD)).2.2.2.1.2.1 else x8),(x9,()))) r5.1).bind fun r7=>L0 x0 x1 x2 (aH (x3+1)) x4 x5 x6 r7.1.1 r7.1.2.1 r7.1.2.2.1) (cond ((x1.getD x3.toNat (Ty.z aD)).2.2.2.1.1==5) (L0 x0 x1 x2 (aH (x3+1)) x4 x5 x6 x7 (if (x1.getD x3.toNat (Ty.z aD)).2.2.2.1.2.1 > x8 then (x1.getD x3.toNat (Ty.z aD)).2.2.2.1.2.1 else x8) 1) (L0 x0 x1 x2 (aH (x3+1)) x4 x5 x6 x7 (if (x1.getD x3.toNat (Ty.z aD)).2.2.2.1.2.1 > x8 then (x1.getD x3.toNat (Ty.z aD)).2.2.2.1.2.1 else x8) x9))))))) (cond (x9==0) ((dU.f k x0 (5,(0,(ByteArray.empty,(ByteArray.empty,(0,(0,()))))))).bind fun r8=>cond (decide ((r8.1.length:Int) > 0)) (some ((x7,(x8,(1,()))),())) (some ((x7,(x8,(x9,()))),()))) (some ((x7,(x8,(x9,()))),()))))
def l0:Nat→T0
 | 0=>fun _ _ _ _ _ _ _ _ _ _=>none
 | n+1=>b0 k (l0 n)
def t (L0:T0) (a0:Ty.d iK) (a1:List (Ty.d aD)):Rs :=
 ((cM.f k a0.1).bind fun r1=>L0 a1 a1 (a1.length:Int) 0 [] 0 0 r1.1 a0.2.1 a0.2.2.1)
def f:=t k (l0 k k)
end dw
namespace m9
abbrev Rs:Type:=Option (Int × Bool × Unit)
def t (a0:ByteArray):Rs :=
 ((ia.f k a0 (⟨#[115,101,103]⟩:ByteArray)).bind fun r1=>cond (!r1.2.1) ((ia.f k a0 (⟨#[104,105,110,116]⟩:ByteArray)).bind fun r2=>(d8.f k r2.1).bind fun r3=>cond (!r2.2.1) (some (0,(false,()))) (cond (!r3.2.1) (some (0,(false,()))) ((ab.f k r3.1 1 100000).bind fun r4=>cond (!r4.1) (some (0,(false,()))) (some (r3.1,(true,())))))) ((d8.f k r1.1).bind fun r5=>cond (!r1.2.1) (some (0,(false,()))) (cond (!r5.2.1) (some (0,(false,()))) ((ab.f k r5.1 1 100000).bind fun r6=>cond (!r6.1) (some (0,(false,()))) (some (r5.1,(true,())))))))
def f:=t k
end m9
namespace h9
abbrev Rs:Type:=Option (Bool × Unit)
abbrev T0:Type:=Int→List Int→Int→Int→Rs
def b0 (k:Nat) (L0:T0):T0:=fun x0 x1 x2 x3 =>
 (cond (decide (x3<x2)) (b9 x3 (x1.length:Int) (cond ((x1.getD x3.toNat (Ty.z (.int .i64)))==x0) (some (true,())) (L0 x0 x1 x2 (aH (x3+1))))) (some (false,())))
def l0:Nat→T0
 | 0=>fun _ _ _ _=>none
 | n+1=>b0 k (l0 n)
def t (k:Nat) (L0:T0) (a0:List Int) (a1:Int):Rs :=
 (L0 a1 a0 (a0.length:Int) 0)
def f:=t k (l0 k k)
end h9
namespace gF
abbrev Rs:Type:=Option ((List ByteArray) × Unit)
abbrev T0:Type:=List (Ty.d aE)→Int→Int→Int→List Int→List ByteArray→Rs
def b0 (L0:T0):T0:=fun x0 x1 x2 x3 x4 x5 =>
 (cond (decide (x2<x1)) (b9 x2 (x0.length:Int) ((m9.f k (x0.getD x2.toNat (Ty.z aE)).1).bind fun r2=>cond (seq (x0.getD x2.toNat (Ty.z aE)).1 (⟨#[116,101,109,112]⟩:ByteArray)) (rm (Ty.bytes .str) (x5.length+1) (L0 x0 x1 (aH (x2+1)) x3 x4 (x5++[(x0.getD x2.toNat (Ty.z aE)).1]))) (cond r2.2.1 ((h9.f k x4 r2.1).bind fun r3=>cond (!r3.1) (rm (Ty.bytes .str) (x5.length+1) (L0 x0 x1 (aH (x2+1)) x3 x4 (x5++[(x0.getD x2.toNat (Ty.z aE)).1]))) (L0 x0 x1 (aH (x2+1)) x3 x4 x5)) (L0 x0 x1 (aH (x2+1)) x3 x4 x5)))) (some (x5,())))
def l0:Nat→T0
 | 0=>fun _ _ _ _ _ _=>none
 | n+1=>b0 k (l0 n)
def t (L0:T0) (a0:Ty.d aA) (a1:Ty.d bL):Rs :=
 ((b8.f k a0).bind fun r1=>cond (!r1.1) (some ([],())) (L0 a0.1 (a0.1.length:Int) 0 a1.1 a1.2.1 []))
def f:=t k (l0 k k)
end gF
namespace fI
abbrev Rs:Type:=Option ((Ty.d aA) × Unit)
def t (a0:Ty.d aA) (a1:ByteArray):Rs :=
 ((ba.f k a0 a1).bind fun r1=>cond (decide (r1.1≥0)) (oh r1.1 (a0.1.length:Int) (rm (Ty.bytes aE) ((a0.1.take r1.1.toNat).length) (oh (aH (r1.1+1)) (a0.1.length:Int) (rm (Ty.bytes aE) ((a0.1.take r1.1.toNat).length+List.length (a0.1.drop (aH (r1.1+1)).toNat)) (some ((((a0.1.take r1.1.toNat)++(a0.1.drop (aH (r1.1+1)).toNat)),a0.2),())))))) (some (a0,())))
def f:=t k
end fI
namespace gW
abbrev Rs:Type:=Option ((Ty.d aA) × ByteArray × Int × Unit)
def t (a0:Ty.d aA) (a1:ByteArray):Rs :=
 ((ba.f k a0 a1).bind fun r1=>cond (decide (r1.1<0)) (some (a0,(a1,(3,())))) ((fI.f k a0 a1).bind fun r2=>some (r2.1,(a1,(0,())))))
def f:=t k
end gW
namespace gn
abbrev Rs:Type:=Option (ByteArray × (Ty.d aA) × Int × Unit)
def t (a0:Ty.d aA) (a1:ByteArray):Rs :=
 ((bE.f k a0).bind fun r1=>(b8.f k a0).bind fun r2=>cond (!r2.1) (some (a1,(r1.1,(5,())))) (cond a0.2.2.2.1 (some (a1,((r1.1.1,(r1.1.2.1,(r1.1.2.2.1,(true,())))),(1,())))) (cond (a0.2.2.1==0) (some (a1,((r1.1.1,(r1.1.2.1,(r1.1.2.2.1,(true,())))),(1,())))) (cond (decide (a0.2.2.1 > 0)) ((gW.f k (r1.1.1,(r1.1.2.1,((aH (r1.1.2.2.1-1)),r1.1.2.2.2))) a1).bind fun r3=>some (r3.2.1,(r3.1,r3.2.2))) ((gW.f k r1.1 a1).bind fun r4=>some (r4.2.1,(r4.1,r4.2.2)))))))
def f:=t k
end gn
namespace kr
abbrev Rs:Type:=Option ((Ty.d aA) × Int × Unit)
def t (a0:Ty.d aA) (a1:ByteArray):Rs :=
 ((gn.f k a0 a1).bind fun r1=>some r1.2)
def f:=t k
end kr
namespace bN
abbrev Rs:Type:=Option ((Ty.d au) × Unit)
def t (a0:Ty.d au) (a1:ByteArray):Rs :=
 (cond (a0.2.1==0) ((ba.f k a0.1 a1).bind fun r1=>cond (decide (r1.1≥0)) ((kr.f k a0.1 a1).bind fun r2=>(b_.f k a0 r2.1 r2.2.1).bind fun r3=>some r3) (some (a0,()))) (some (a0,())))
def f:=t k
end bN
namespace ah
abbrev Rs:Type:=Option ((Ty.d au) × Unit)
abbrev T0:Type:=Int→Int→List (Ty.d aE)→Int→Int→Bool→Int→List ByteArray→Rs
def b0 (L0:T0):T0:=fun x0 x1 x2 x3 x4 x5 x6 x7 =>
 (cond (decide (x1<x0)) (b9 x1 (x7.length:Int) ((bN.f k ((x2,(x3,(x4,(x5,())))),(x6,())) (x7.getD x1.toNat (Ty.z .str))).bind fun r2=>L0 x0 (aH (x1+1)) r2.1.1.1 r2.1.1.2.1 r2.1.1.2.2.1 r2.1.1.2.2.2.1 r2.1.2.1 x7)) (some (((x2,(x3,(x4,(x5,())))),(x6,())),())))
def l0:Nat→T0
 | 0=>fun _ _ _ _ _ _ _ _=>none
 | n+1=>b0 k (l0 n)
def t (L0:T0) (a0:Ty.d au) (a1:Ty.d bL):Rs :=
 ((gF.f k a0.1 a1).bind fun r1=>L0 (r1.1.length:Int) 0 a0.1.1 a0.1.2.1 a0.1.2.2.1 a0.1.2.2.2.1 a0.2.1 r1.1)
def f:=t k (l0 k k)
end ah
namespace aT
abbrev Rs:Type:=Option ((Ty.d au) × (Ty.d aG) × Unit)
abbrev T0:Type:=List (List (Ty.d aD))→Int→Int→List (Ty.d aE)→Int→Int→Bool→Int→List Int→List (Ty.d a_)→Int→Int→Int→Int→List Int→Int→List (Ty.d a_)→Int→Int→Int→Int→List (Ty.d a_)→Int→Int→List (Ty.d aD)→Rs
abbrev T1:Type:=Int→Int→List (Ty.d aE)→Int→Int→Bool→Int→List Int→List (Ty.d a_)→Int→Int→Int→Int→List Int→Int→List (Ty.d a_)→Int→Int→Int→Int→List (Ty.d a_)→Int→Int→List (Ty.d aD)→List (List (Ty.d aD))→Rs
abbrev T2:Type:=List (List (Ty.d aD))→Int→Int→List (Ty.d aE)→Int→Int→Bool→Int→List Int→List (Ty.d a_)→Int→Int→Int→Int→List Int→Int→List (Ty.d a_)→Int→Int→Int→Int→List (Ty.d a_)→Int→Int→List (Ty.d aD)→Rs
abbrev T3:Type:=Int→Int→List (Ty.d aE)→Int→Int→Bool→Int→List Int→List (Ty.d a_)→Int→Int→Int→Int→List Int→Int→List (Ty.d a_)→Int→Int→Int→Int→List (Ty.d a_)→Int→Int→List (Ty.d aD)→List (List (Ty.d aD))→Rs
def b0 (L0:T0):T0:=fun x0 x1 x2 x3 x4 x5 x6 x7 x8 x9 x10 x11 x12 x13 x14 x15 x16 x17 x18 x19 x20 x21 x22 x23 x24 =>
 (cond (decide (x2<x1)) (b9 x2 (x0.length:Int) (rm (Ty.bytes aD) (x24.length+List.length (x0.getD x2.toNat (Ty.z (.slice aD)))) (L0 x0 x1 (aH (x2+1)) x3 x4 x5 x6 x7 x8 x9 x10 x11 x12 x13 x14 x15 x16 x17 x18 x19 x20 x21 x22 x23 (x24++(x0.getD x2.toNat (Ty.z (.slice aD))))))) ((dw.f k (x21,(x22,(x23,()))) x24).bind fun r9=>cond (r9.1.2.2.1 != 0) (some (((x3,(x4,(x5,(x6,())))),(3,())),(((0,([],())),([],(0,(0,(0,()))))),()))) ((ah.f k ((x3,(x4,(x5,(x6,())))),(x7,())) (x15,(x14,()))).bind fun r10=>some (r10.1,(((x17,(x14,())),(r9.1.1,((aH (r9.1.2.1+1)),(x19,(x20,()))))),())))))
def l0:Nat→T0
 | 0=>fun _ _ _ _ _ _ _ _ _ _ _ _ _ _ _ _ _ _ _ _ _ _ _ _ _=>none
 | n+1=>b0 k (l0 n)
def b1 (L1:T1):T1:=fun x0 x1 x2 x3 x4 x5 x6 x7 x8 x9 x10 x11 x12 x13 x14 x15 x16 x17 x18 x19 x20 x21 x22 x23 x24 =>
 (cond (decide (x1<x0)) (b9 x1 (x24.length:Int) (rm (Ty.bytes aD) (x23.length+List.length (x24.getD x1.toNat (Ty.z (.slice aD)))) (L1 x0 (aH (x1+1)) x2 x3 x4 x5 x6 x7 x8 x9 x10 x11 x12 x13 x14 x15 x16 x17 x18 x19 x20 x21 x22 (x23++(x24.getD x1.toNat (Ty.z (.slice aD)))) x24))) ((dw.f k (x20,(x21,(x22,()))) x23).bind fun r11=>cond (r11.1.2.2.1 != 0) (some (((x2,(x3,(x4,(x5,())))),(3,())),(((0,([],())),([],(0,(0,(0,()))))),()))) ((ah.f k ((x2,(x3,(x4,(x5,())))),(x6,())) (x14,(x13,()))).bind fun r12=>some (r12.1,(((x16,(x13,())),(r11.1.1,((aH (r11.1.2.1+1)),(x18,(x19,()))))),())))))
def l1:Nat→T1
 | 0=>fun _ _ _ _ _ _ _ _ _ _ _ _ _ _ _ _ _ _ _ _ _ _ _ _ _=>none
 | n+1=>b1 k (l1 n)
def b2 (L2:T2):T2:=fun x0 x1 x2 x3 x4 x5 x6 x7 x8 x9 x10 x11 x12 x13 x14 x15 x16 x17 x18 x19 x20 x21 x22 x23 x24 =>
 (cond (decide (x2<x1)) (b9 x2 (x0.length:Int) (rm (Ty.bytes aD) (x24.length+List.length (x0.getD x2.toNat (Ty.z (.slice aD)))) (L2 x0 x1 (aH (x2+1)) x3 x4 x5 x6 x7 x8 x9 x10 x11 x12 x13 x14 x15 x16 x17 x18 x19 x20 x21 x22 x23 (x24++(x0.getD x2.toNat (Ty.z (.slice aD))))))) ((dw.f k (x21,(x22,(x23,()))) x24).bind fun r15=>cond (r15.1.2.2.1 != 0) (some (((x3,(x4,(x5,(x6,())))),(3,())),(((0,([],())),([],(0,(0,(0,()))))),()))) ((ah.f k ((x3,(x4,(x5,(x6,())))),(x7,())) (x15,(x14,()))).bind fun r16=>some (r16.1,(((x17,(x14,())),(r15.1.1,((aH (r15.1.2.1+1)),(x19,(x20,()))))),())))))
def l2:Nat→T2
 | 0=>fun _ _ _ _ _ _ _ _ _ _ _ _ _ _ _ _ _ _ _ _ _ _ _ _ _=>none
 | n+1=>b2 k (l2 n)
def b3 (L3:T3):T3:=fun x0 x1 x2 x3 x4 x5 x6 x7 x8 x9 x10 x11 x12 x13 x14 x15 x16 x17 x18 x19 x20 x21 x22 x23 x24 =>
 (cond (decide (x1<x0)) (b9 x1 (x24.length:Int) (rm (Ty.bytes aD) (x23.length+List.length (x24.getD x1.toNat (Ty.z (.slice aD)))) (L3 x0 (aH (x1+1)) x2 x3 x4 x5 x6 x7 x8 x9 x10 x11 x12 x13 x14 x15 x16 x17 x18 x19 x20 x21 x22 (x23++(x24.getD x1.toNat (Ty.z (.slice aD)))) x24))) ((dw.f k (x20,(x21,(x22,()))) x23).bind fun r17=>cond (r17.1.2.2.1 != 0) (some (((x2,(x3,(x4,(x5,())))),(3,())),(((0,([],())),([],(0,(0,(0,()))))),()))) ((ah.f k ((x2,(x3,(x4,(x5,())))),(x6,())) (x14,(x13,()))).bind fun r18=>some (r18.1,(((x16,(x13,())),(r17.1.1,((aH (r17.1.2.1+1)),(x18,(x19,()))))),())))))
def l3:Nat→T3
 | 0=>fun _ _ _ _ _ _ _ _ _ _ _ _ _ _ _ _ _ _ _ _ _ _ _ _ _=>none
 | n+1=>b3 k (l3 n)
def t (L0:T0) (L1:T1) (L2:T2) (L3:T3) (a0:Ty.d au) (a1:ByteArray):Rs :=
 ((bA.f k a1).bind fun r1=>(bS.f k a0 r1.1).bind fun r2=>cond (!r1.2.1) (some ((r2.1.1,(3,())),(((0,([],())),([],(0,(0,(0,()))))),()))) (cond (!r2.2.2.2.1) (some ((r2.1.1,(3,())),(((0,([],())),([],(0,(0,(0,()))))),()))) (b9 (aH ((r1.1.2.1.length:Int)-1)) (r1.1.2.1.length:Int) ((ar.f k (r1.1.2.1.getD (aH ((r1.1.2.1.length:Int)-1)).toNat (Ty.z (.int .i64)))).bind fun r3=>(bq.f k r2.1.1 r3.1).bind fun r4=>cond ((r4.1.size:Int) != r2.2.2.1) ((jO.f k r2.1.1 r3.1 r2.2.2.1).bind fun r5=>(b_.f k r2.1 r5.1 r5.2.1).bind fun r6=>(bT.f k r6.1 r3.1).bind fun r7=>cond (r7.1.2.1 != 0) (some (r7.1,(((0,([],())),([],(0,(0,(0,()))))),()))) (b9 0 (r1.1.2.1.length:Int) ((dI.f k r7.1 (r1.1.2.1.getD 0 (Ty.z (.int .i64)))).bind fun r8=>cond r8.2.2.1 (b9 0 (r1.1.2.1.length:Int) (oh 1 (r2.2.1.length:Int) (L0 (r2.2.1.drop 1) ((r2.2.1.drop 1).length:Int) 0 r8.1.1.1 r8.1.1.2.1 r8.1.1.2.2.1 r8.1.1.2.2.2.1 r8.1.2.1 [] [] 0 0 0 0 r1.1.2.1 r1.1.1 [] r1.1.1 0 r2.2.2.1 (r1.1.2.1.getD 0 (Ty.z (.int .i64))) r8.2.1.1 r8.2.1.2.1 r8.2.1.2.2.1 []))) (L1 (r2.2.1.length:Int) 0 r8.1.1.1 r8.1.1.2.1 r8.1.1.2.2.1 r8.1.1.2.2.2.1 r8.1.2.1 [] [] 0 0 0 0 r1.1.2.1 r1.1.1 [] r1.1.1 0 r2.2.2.1 0 r8.2.1.1 r8.2.1.2.1 r8.2.1.2.2.1 [] r2.2.1)))) ((bT.f k r2.1 r3.1).bind fun r13=>cond (r13.1.2.1 != 0) (some (r13.1,(((0,([],())),([],(0,(0,(0,()))))),()))) (b9 0 (r1.1.2.1.length:Int) ((dI.f k r13.1 (r1.1.2.1.getD 0 (Ty.z (.int .i64)))).bind fun r14=>cond r14.2.2.1 (b9 0 (r1.1.2.1.length:Int) (oh 1 (r2.2.1.length:Int) (L2 (r2.2.1.drop 1) ((r2.2.1.drop 1).length:Int) 0 r14.1.1.1 r14.1.1.2.1 r14.1.1.2.2.1 r14.1.1.2.2.2.1 r14.1.2.1 [] [] 0 0 0 0 r1.1.2.1 r1.1.1 [] r1.1.1 0 r2.2.2.1 (r1.1.2.1.getD 0 (Ty.z (.int .i64))) r14.2.1.1 r14.2.1.2.1 r14.2.1.2.2.1 []))) (L3 (r2.2.1.length:Int) 0 r14.1.1.1 r14.1.1.2.1 r14.1.1.2.2.1 r14.1.1.2.2.2.1 r14.1.2.1 [] [] 0 0 0 0 r1.1.2.1 r1.1.1 [] r1.1.1 0 r2.2.2.1 0 r14.2.1.1 r14.2.1.2.1 r14.2.1.2.2.1 [] r2.2.1))))))))
def f:=t k (l0 k k) (l1 k k) (l2 k k) (l3 k k)
end aT
namespace dY
abbrev Rs:Type:=Option ((Ty.d aA) × Unit)
abbrev T0:Type:=Int→List (Ty.d aE)→Int→Int→Bool→ByteArray→ByteArray→Int→Rs
def b0 (k:Nat) (L0:T0):T0:=fun x0 x1 x2 x3 x4 x5 x6 x7 =>
 (cond (decide (x0<(x1.length:Int))) (b9 x0 (x1.length:Int) (cond (ox (x1.getD x0.toNat (Ty.z aE)).1 x5) (L0 (aH (x0+1)) x1 x2 x3 x4 x5 x6 x7) (oh x0 (x1.length:Int) (rm (Ty.bytes aE) ((x1.take x0.toNat).length) (rm (Ty.bytes aE) ((x1.take x0.toNat).length+1) (oh x0 (x1.length:Int) (rm (Ty.bytes aE) (List.length ((x1.take x0.toNat)++[(x5,(x6,(x7,())))])+List.length (x1.drop x0.toNat)) (some (((((x1.take x0.toNat)++[(x5,(x6,(x7,())))])++(x1.drop x0.toNat)),(x2,(x3,(x4,())))),()))))))))) (oh x0 (x1.length:Int) (rm (Ty.bytes aE) ((x1.take x0.toNat).length) (rm (Ty.bytes aE) ((x1.take x0.toNat).length+1) (oh x0 (x1.length:Int) (rm (Ty.bytes aE) (List.length ((x1.take x0.toNat)++[(x5,(x6,(x7,())))])+List.length (x1.drop x0.toNat)) (some (((((x1.take x0.toNat)++[(x5,(x6,(x7,())))])++(x1.drop x0.toNat)),(x2,(x3,(x4,())))),()))))))))
def l0:Nat→T0
 | 0=>fun _ _ _ _ _ _ _ _=>none
 | n+1=>b0 k (l0 n)
def t (k:Nat) (L0:T0) (a0:Ty.d aA) (a1:Ty.d aE):Rs :=
 (L0 0 a0.1 a0.2.1 a0.2.2.1 a0.2.2.2.1 a1.1 a1.2.1 a1.2.2.1)
def f:=t k (l0 k k)
end dY
namespace gY
abbrev Rs:Type:=Option ((Ty.d aA) × ByteArray × Int × Unit)
def t (a0:Ty.d aA) (a1:ByteArray):Rs :=
 ((fA.f k a1).bind fun r1=>cond (!r1.1) (some (a0,(a1,(5,())))) ((ba.f k a0 a1).bind fun r2=>cond (decide (r2.1≥0)) (some (a0,(a1,(4,())))) (cond (decide ((a0.1.length:Int)≥130)) (some (a0,(a1,(2,())))) ((dY.f k a0 (a1,(ByteArray.empty,(0,())))).bind fun r3=>some (r3.1,(a1,(0,())))))))
def f:=t k
end gY
namespace gj
abbrev Rs:Type:=Option (ByteArray × (Ty.d aA) × Int × Unit)
def t (a0:Ty.d aA) (a1:ByteArray):Rs :=
 ((bE.f k a0).bind fun r1=>(b8.f k a0).bind fun r2=>cond (!r2.1) (some (a1,(r1.1,(5,())))) (cond a0.2.2.2.1 (some (a1,((r1.1.1,(r1.1.2.1,(r1.1.2.2.1,(true,())))),(1,())))) (cond (a0.2.2.1==0) (some (a1,((r1.1.1,(r1.1.2.1,(r1.1.2.2.1,(true,())))),(1,())))) (cond (decide (a0.2.2.1 > 0)) ((gY.f k (r1.1.1,(r1.1.2.1,((aH (r1.1.2.2.1-1)),r1.1.2.2.2))) a1).bind fun r3=>some (r3.2.1,(r3.1,r3.2.2))) ((gY.f k r1.1 a1).bind fun r4=>some (r4.2.1,(r4.1,r4.2.2)))))))
def f:=t k
end gj
namespace kj
abbrev Rs:Type:=Option ((Ty.d aA) × Int × Unit)
def t (a0:Ty.d aA) (a1:ByteArray):Rs :=
 ((gj.f k a0 a1).bind fun r1=>some r1.2)
def f:=t k
end kj
namespace dl
abbrev Rs:Type:=Option ((Ty.d au) × Unit)
def t (a0:Ty.d au) (a1:ByteArray):Rs :=
 (cond (a0.2.1==0) ((kj.f k a0.1 a1).bind fun r1=>(b_.f k a0 r1.1 r1.2.1).bind fun r2=>some r2) (some (a0,())))
def f:=t k
end dl
namespace jL
abbrev Rs:Type:=Option (ByteArray × Unit)
def t (a0:Ty.d bL):Rs :=
 ((dR.f k a0).bind fun r1=>cond (!r1.1) (some ((⟨#[]⟩:ByteArray),())) ((dt.f k [a0.1,(a0.2.1.length:Int)]).bind fun r2=>(dt.f k a0.2.1).bind fun r3=>mK r2.1 r3.1 ((i_.f k (r2.1++r3.1)).bind fun r4=>some r4)))
def f:=t k
end jL
namespace d_
abbrev Rs:Type:=Option ((Ty.d au) × Unit)
def t (a0:Ty.d au) (a1:ByteArray):Rs :=
 ((bN.f k a0 a1).bind fun r1=>(dl.f k r1.1 a1).bind fun r2=>some r2)
def f:=t k
end d_
namespace iE
abbrev Rs:Type:=Option (Int × Unit)
abbrev T0:Type:=Int→List (Ty.d aE)→Int→Int→Rs
def b0 (k:Nat) (L0:T0):T0:=fun x0 x1 x2 x3 =>
 (cond (decide (x3<x2)) (b9 x3 (x1.length:Int) (L0 (aH (x0+(ByteArray.size (x1.getD x3.toNat (Ty.z aE)).2.1:Int))) x1 x2 (aH (x3+1)))) (some (x0,())))
def l0:Nat→T0
 | 0=>fun _ _ _ _=>none
 | n+1=>b0 k (l0 n)
def t (k:Nat) (L0:T0) (a0:Ty.d aA):Rs :=
 (L0 0 a0.1 (a0.1.length:Int) 0)
def f:=t k (l0 k k)
end iE
namespace ga
abbrev Rs:Type:=Option ((Ty.d aA) × ByteArray × ByteArray × Int × Unit)
def t (a0:Ty.d aA) (a1:ByteArray) (a2:ByteArray):Rs :=
 ((ba.f k a0 a1).bind fun r1=>cond (decide (r1.1<0)) (some (a0,(a1,(a2,(3,()))))) ((iE.f k a0).bind fun r2=>cond (decide ((a2.size:Int) > (aH (a0.2.1-r2.1)))) (some (a0,(a1,(a2,(2,()))))) (b9 r1.1 (a0.1.length:Int) (mK (a0.1.getD r1.1.toNat (Ty.z aE)).2.1 a2 (b9 r1.1 (a0.1.length:Int) (let l3:=(a0.1.set r1.1.toNat ((a0.1.getD r1.1.toNat (Ty.z aE)).1,(((a0.1.getD r1.1.toNat (Ty.z aE)).2.1++a2),(a0.1.getD r1.1.toNat (Ty.z aE)).2.2)));(some ((l3,a0.2),(a1,(a2,(0,())))))))))))
def f:=t k
end ga
namespace gm
abbrev Rs:Type:=Option (ByteArray × ByteArray × (Ty.d aA) × Int × Unit)
def t (a0:Ty.d aA) (a1:ByteArray) (a2:ByteArray):Rs :=
 ((bE.f k a0).bind fun r1=>(b8.f k a0).bind fun r2=>cond (!r2.1) (some (a1,(a2,(r1.1,(5,()))))) (cond a0.2.2.2.1 (some (a1,(a2,((r1.1.1,(r1.1.2.1,(r1.1.2.2.1,(true,())))),(1,()))))) (cond (a0.2.2.1==0) (some (a1,(a2,((r1.1.1,(r1.1.2.1,(r1.1.2.2.1,(true,())))),(1,()))))) (cond (decide (a0.2.2.1 > 0)) ((ga.f k (r1.1.1,(r1.1.2.1,((aH (r1.1.2.2.1-1)),r1.1.2.2.2))) a1 a2).bind fun r3=>some (r3.2.1,(r3.2.2.1,(r3.1,r3.2.2.2)))) ((ga.f k r1.1 a1 a2).bind fun r4=>some (r4.2.1,(r4.2.2.1,(r4.1,r4.2.2.2))))))))
def f:=t k
end gm
namespace km
abbrev Rs:Type:=Option ((Ty.d aA) × Int × Unit)
def t (a0:Ty.d aA) (a1:ByteArray) (a2:ByteArray):Rs :=
 ((gm.f k a0 a1 a2).bind fun r1=>some r1.2.2)
def f:=t k
end km
namespace cW
abbrev Rs:Type:=Option ((Ty.d au) × Unit)
def t (a0:Ty.d au) (a1:ByteArray) (a2:ByteArray):Rs :=
 (cond (a0.2.1==0) ((km.f k a0.1 a1 a2).bind fun r1=>(b_.f k a0 r1.1 r1.2.1).bind fun r2=>some r2) (some (a0,())))
def f:=t k
end cW
namespace dj
abbrev Rs:Type:=Option ((Ty.d au) × Unit)
def t (a0:Ty.d au) (a1:ByteArray) (a2:ByteArray):Rs :=
 ((d_.f k a0 a1).bind fun r1=>(cW.f k r1.1 a1 a2).bind fun r2=>(bT.f k r2.1 a1).bind fun r3=>some r3)
def f:=t k
end dj
namespace gd
abbrev Rs:Type:=Option ((Ty.d aA) × ByteArray × ByteArray × Int × Unit)
def t (a0:Ty.d aA) (a1:ByteArray) (a2:ByteArray):Rs :=
 ((ba.f k a0 a1).bind fun r1=>(fA.f k a2).bind fun r2=>cond (!r2.1) (some (a0,(a1,(a2,(5,()))))) (cond (decide (r1.1<0)) (some (a0,(a1,(a2,(3,()))))) (b9 r1.1 (a0.1.length:Int) ((fI.f k a0 a1).bind fun r3=>(fI.f k r3.1 a2).bind fun r4=>(dY.f k r4.1 (a2,(a0.1.getD r1.1.toNat (Ty.z aE)).2)).bind fun r5=>some (r5.1,(a1,(a2,(0,()))))))))
def f:=t k
end gd
namespace gi
abbrev Rs:Type:=Option (ByteArray × ByteArray × (Ty.d aA) × Int × Unit)
def t (a0:Ty.d aA) (a1:ByteArray) (a2:ByteArray):Rs :=
 ((bE.f k a0).bind fun r1=>(b8.f k a0).bind fun r2=>cond (!r2.1) (some (a1,(a2,(r1.1,(5,()))))) (cond a0.2.2.2.1 (some (a1,(a2,((r1.1.1,(r1.1.2.1,(r1.1.2.2.1,(true,())))),(1,()))))) (cond (a0.2.2.1==0) (some (a1,(a2,((r1.1.1,(r1.1.2.1,(r1.1.2.2.1,(true,())))),(1,()))))) (cond (decide (a0.2.2.1 > 0)) ((gd.f k (r1.1.1,(r1.1.2.1,((aH (r1.1.2.2.1-1)),r1.1.2.2.2))) a1 a2).bind fun r3=>some (r3.2.1,(r3.2.2.1,(r3.1,r3.2.2.2)))) ((gd.f k r1.1 a1 a2).bind fun r4=>some (r4.2.1,(r4.2.2.1,(r4.1,r4.2.2.2))))))))
def f:=t k
end gi
namespace kp
abbrev Rs:Type:=Option ((Ty.d aA) × Int × Unit)
def t (a0:Ty.d aA) (a1:ByteArray) (a2:ByteArray):Rs :=
 ((gi.f k a0 a1 a2).bind fun r1=>some r1.2.2)
def f:=t k
end kp
namespace fS
abbrev Rs:Type:=Option ((Ty.d au) × Unit)
def t (a0:Ty.d au) (a1:ByteArray) (a2:ByteArray):Rs :=
 (cond (a0.2.1==0) ((kp.f k a0.1 a1 a2).bind fun r1=>(b_.f k a0 r1.1 r1.2.1).bind fun r2=>some r2) (some (a0,())))
def f:=t k
end fS
namespace cH
abbrev Rs:Type:=Option ((Ty.d au) × Unit)
def t (a0:Ty.d au) (a1:Ty.d bL):Rs :=
 ((jL.f k a1).bind fun r1=>(dj.f k a0 (⟨#[116,101,109,112]⟩:ByteArray) r1.1).bind fun r2=>(fS.f k r2.1 (⟨#[116,101,109,112]⟩:ByteArray) (⟨#[108,105,118,101]⟩:ByteArray)).bind fun r3=>some r3)
def f:=t k
end cH
namespace g8
abbrev Rs:Type:=Option ((Ty.d au) × (Ty.d aG) × Unit)
def t (a0:Ty.d au):Rs :=
 ((ah.f k a0 (0,([],()))).bind fun r1=>(ar.f k 1).bind fun r2=>(dl.f k r1.1 r2.1).bind fun r3=>(cH.f k r3.1 (2,([1],()))).bind fun r4=>some (r4.1,(((2,([1],())),([],(1,(0,(0,()))))),())))
def f:=t k
end g8
namespace mn
abbrev Rs:Type:=Option ((Ty.d aG) × (Ty.d aA) × Int × Unit)
def t (a0:Ty.d aA):Rs :=
 ((bE.f k a0).bind fun r1=>(b8.f k a0).bind fun r2=>cond (!r2.1) (some (((0,([],())),([],(0,(0,(0,()))))),(r1.1,(4,())))) (cond a0.2.2.2.1 (some (((0,([],())),([],(0,(0,(0,()))))),(r1.1,(1,())))) ((bq.f k a0 (⟨#[108,105,118,101]⟩:ByteArray)).bind fun r3=>cond r3.2.1 ((aT.f k (r1.1,(0,())) r3.1).bind fun r4=>cond (r4.1.2.1 != 0) (some (((0,([],())),([],(0,(0,(0,()))))),r4.1)) (some (r4.2.1,(r4.1.1,(0,()))))) ((g8.f k (r1.1,(0,()))).bind fun r5=>cond (r5.1.2.1 != 0) (some (((0,([],())),([],(0,(0,(0,()))))),r5.1)) (some (r5.2.1,(r5.1.1,(0,()))))))))
def f:=t k
end mn
namespace fz
abbrev Rs:Type:=Option ((Ty.d af) × Int × Unit)
def t (a0:Ty.d aA):Rs :=
 ((mn.f k a0).bind fun r1=>xG (Ty.bytes ai) 3 (some (((r1.2.2.1==0),(r1.1,(r1.2.1,((List.replicate (Int.toNat 3) (Ty.z ai)),())))),r1.2.2)))
def f:=t k
end fz
namespace df
abbrev Rs:Type:=Option ((Ty.d bL) × Unit)
def t (k:Nat) (a0:Ty.d bL):Rs :=
 (rm (Ty.bytes (.int .i64)) (a0.2.1.length) (some (a0,())))
def f:=t k
end df
namespace cQ
abbrev Rs:Type:=Option ((Ty.d aG) × Unit)
def t (a0:Ty.d aG):Rs :=
 ((df.f k a0.1).bind fun r1=>(cM.f k a0.2.1).bind fun r2=>some ((r1.1,(r2.1,a0.2.2)),()))
def f:=t k
end cQ
namespace kJ
abbrev Rs:Type:=Option ((List (Ty.d aW)) × Unit)
def t (k:Nat) (a0:List (Ty.d aW)):Rs :=
 (rm (Ty.bytes aW) (a0.length) (some (a0,())))
def f:=t k
end kJ
namespace eO
abbrev Rs:Type:=Option ((Ty.d ai) × Unit)
def t (a0:Ty.d ai):Rs :=
 (rm (Ty.bytes bV) (a0.2.1.length) ((kJ.f k a0.2.2.1).bind fun r1=>some ((a0.1,(a0.2.1,r1)),())))
def f:=t k
end eO
namespace eW
abbrev Rs:Type:=Option ((List (Ty.d ai)) × Unit)
abbrev T0:Type:=List (Ty.d ai)→Int→Int→List (Ty.d ai)→Rs
def b0 (L0:T0):T0:=fun x0 x1 x2 x3 =>
 (cond (decide (x2<x1)) (b9 x2 (x0.length:Int) ((eO.f k (x0.getD x2.toNat (Ty.z ai))).bind fun r1=>rm (Ty.bytes ai) (x3.length+1) (L0 x0 x1 (aH (x2+1)) (x3++[r1.1])))) (some (x3,())))
def l0:Nat→T0
 | 0=>fun _ _ _ _=>none
 | n+1=>b0 k (l0 n)
def t (k:Nat) (L0:T0) (a0:List (Ty.d ai)):Rs :=
 (L0 a0 (a0.length:Int) 0 [])
def f:=t k (l0 k k)
end eW
namespace gA
abbrev Rs:Type:=Option ((Ty.d af) × Unit)
def t (a0:Ty.d af):Rs :=
 ((cQ.f k a0.2.1).bind fun r1=>(bE.f k a0.2.2.1).bind fun r2=>(eW.f k a0.2.2.2.1).bind fun r3=>some ((a0.1,(r1.1,(r2.1,r3))),()))
def f:=t k
end gA
namespace gb
abbrev Rs:Type:=Option ((List (Ty.d aW)) × Unit)
abbrev T1:Type:=Int→List (Ty.d aW)→Int→Int→Int→Int→List (Ty.d aW)→ByteArray→Bool→ByteArray→Rs
abbrev T0:Type:=List (Ty.d aW)→Int→Int→List (Ty.d aW)→Rs
def b1 (k:Nat) (L0:T0) (L1:T1):T1:=fun x0 x1 x2 x3 x4 x5 x6 x7 x8 x9 =>
 (cond (decide (x5<x4)) (b9 x5 (x6.length:Int) (cond (seq (x6.getD x5.toNat (Ty.z aW)).1 x7) (L1 x5 x1 x2 x3 x4 (aH (x5+1)) x6 x7 x8 x9) (L1 x0 x1 x2 x3 x4 (aH (x5+1)) x6 x7 x8 x9))) (cond (decide (x0≥0)) (b9 x0 (x6.length:Int) (let l1:=(x6.set x0.toNat (x7,(x8,(x9,()))));(L0 x1 x2 (aH (x3+1)) l1))) (rm (Ty.bytes aW) (x6.length+1) (L0 x1 x2 (aH (x3+1)) (x6++[(x7,(x8,(x9,())))])))))
def l1 (L0:T0):Nat→T1
 | 0=>fun _ _ _ _ _ _ _ _ _ _=>none
 | n+1=>b1 k L0 (l1 L0 n)
def b0 (k:Nat) (L1:T1) (L0:T0):T0:=fun x0 x1 x2 x3 =>
 (cond (decide (x2<x1)) (b9 x2 (x0.length:Int) (L1 (-1) x0 x1 x2 (x3.length:Int) 0 x3 (x0.getD x2.toNat (Ty.z aW)).1 (x0.getD x2.toNat (Ty.z aW)).2.1 (x0.getD x2.toNat (Ty.z aW)).2.2.1)) (some (x3,())))
def l0:Nat→T0
 | 0=>fun _ _ _ _=>none
 | n+1=>b0 k (l1 k (l0 n) k) (l0 n)
def t (k:Nat) (L0:T0) (a0:List (Ty.d aW)):Rs :=
 (L0 a0 (a0.length:Int) 0 [])
def f:=t k (l0 k k)
end gb
namespace eV
abbrev Rs:Type:=Option ((List (Ty.d aW)) × Unit)
def t (a0:Ty.d ai):Rs :=
 ((gb.f k a0.2.2.1).bind fun r1=>some r1)
def f:=t k
end eV
namespace kx
abbrev Rs:Type:=Option ((List (Ty.d aW)) × Unit)
def t (a0:Ty.d af) (a1:Ty.d aZ):Rs :=
 (cond (a1.1 != 5) (some ([],())) (cond (!a0.1) (some ([],())) ((ab.f k a1.2.1 0 (aH ((a0.2.2.2.1.length:Int)-1))).bind fun r1=>cond (!r1.1) (some ([],())) (b9 a1.2.1 (a0.2.2.2.1.length:Int) (cond (!(a0.2.2.2.1.getD a1.2.1.toNat (Ty.z ai)).1) (some ([],())) (b9 a1.2.1 (a0.2.2.2.1.length:Int) ((eV.f k (a0.2.2.2.1.getD a1.2.1.toNat (Ty.z ai))).bind fun r2=>some r2)))))))
def f:=t k
end kx
namespace eN
abbrev Rs:Type:=Option ((List ByteArray) × Unit)
abbrev T0:Type:=List (Ty.d a_)→Int→Int→List ByteArray→Rs
def b0 (k:Nat) (L0:T0):T0:=fun x0 x1 x2 x3 =>
 (cond (decide (x2<x1)) (b9 x2 (x0.length:Int) (rm (Ty.bytes .str) (x3.length+1) (L0 x0 x1 (aH (x2+1)) (x3++[(x0.getD x2.toNat (Ty.z a_)).1])))) (some (x3,())))
def l0:Nat→T0
 | 0=>fun _ _ _ _=>none
 | n+1=>b0 k (l0 n)
def t (k:Nat) (L0:T0) (a0:List (Ty.d a_)):Rs :=
 (L0 a0 (a0.length:Int) 0 [])
def f:=t k (l0 k k)
end eN
namespace fh
abbrev Rs:Type:=Option ((Ty.d a_) × Bool × Unit)
abbrev T0:Type:=ByteArray→List (Ty.d a_)→Int→Int→ByteArray→Int→Int→Int→Int→Rs
def b0 (k:Nat) (L0:T0):T0:=fun x0 x1 x2 x3 x4 x5 x6 x7 x8 =>
 (cond (decide (x3<x2)) (b9 x3 (x1.length:Int) (cond (seq (x1.getD x3.toNat (Ty.z a_)).1 x0) (some ((x1.getD x3.toNat (Ty.z a_)),(true,()))) (L0 x0 x1 x2 (aH (x3+1)) x4 x5 x6 x7 x8))) (some ((ByteArray.empty,(0,(0,(0,(0,()))))),(false,()))))
def l0:Nat→T0
 | 0=>fun _ _ _ _ _ _ _ _ _=>none
 | n+1=>b0 k (l0 n)
def t (k:Nat) (L0:T0) (a0:List (Ty.d a_)) (a1:ByteArray):Rs :=
 (L0 a1 a0 (a0.length:Int) 0 ByteArray.empty 0 0 0 0)
def f:=t k (l0 k k)
end fh
namespace kF
abbrev Rs:Type:=Option ((Ty.d bR) × Bool × Unit)
def t (a0:ByteArray) (a1:Int) (a2:Int):Rs :=
 ((ab.f k a1 0 (a0.size:Int)).bind fun r1=>cond (!r1.1) (some ((0,(0,(ByteArray.empty,(ByteArray.empty,(0,(0,())))))),(false,()))) ((ab.f k a2 0 (aH ((a0.size:Int)-a1))).bind fun r2=>cond (!r2.1) (some ((0,(0,(ByteArray.empty,(ByteArray.empty,(0,(0,())))))),(false,()))) (GW a1 (aH (a1+a2)) (a0.size:Int) ((eS.f k (a0.extract a1.toNat (aH (a1+a2)).toNat)).bind fun r3=>cond (r3.2.1==0) (some ((0,(0,(ByteArray.empty,(ByteArray.empty,(0,(0,())))))),(false,()))) (cond (r3.2.1 != a2) (some ((0,(0,(ByteArray.empty,(ByteArray.empty,(0,(0,())))))),(false,()))) ((dL.f k r3.1).bind fun r4=>some r4))))))
def f:=t k
end kF
namespace mR
abbrev Rs:Type:=Option ((Ty.d aE) × Int × Unit)
def t (a0:Ty.d aG) (a1:Ty.d aA) (a2:ByteArray):Rs :=
 ((fh.f k a0.2.1 a2).bind fun r1=>cond (!r1.2.1) (some ((ByteArray.empty,(ByteArray.empty,(0,()))),(8,()))) ((ar.f k r1.1.2.1).bind fun r2=>(bq.f k a1 r2.1).bind fun r3=>(kF.f k r3.1 r1.1.2.2.1 r1.1.2.2.2.1).bind fun r4=>cond (!r4.2.1) (some ((ByteArray.empty,(ByteArray.empty,(0,()))),(3,()))) (cond (r4.1.1 != 1) (cond (r4.1.1 != 4) (some ((ByteArray.empty,(ByteArray.empty,(0,()))),(3,()))) (cond (!(seq r4.1.2.2.1 a2)) (some ((ByteArray.empty,(ByteArray.empty,(0,()))),(3,()))) (some ((r4.1.2.2.1,(r4.1.2.2.2.1,(r4.1.2.1,()))),(0,()))))) (cond (!(seq r4.1.2.2.1 a2)) (some ((ByteArray.empty,(ByteArray.empty,(0,()))),(3,()))) (some ((r4.1.2.2.1,(r4.1.2.2.2.1,(r4.1.2.1,()))),(0,())))))))
def f:=t k
end mR
namespace jY
abbrev Rs:Type:=Option ((List (Ty.d aE)) × Int × Unit)
abbrev T0:Type:=Int→Int→Int→List Int→List (Ty.d a_)→Int→Int→Int→List (Ty.d aE)→Int→Int→Bool→List (Ty.d aE)→List ByteArray→Rs
def b0 (L0:T0):T0:=fun x0 x1 x2 x3 x4 x5 x6 x7 x8 x9 x10 x11 x12 x13 =>
 (cond (decide (x1<x0)) (b9 x1 (x13.length:Int) ((mR.f k ((x2,(x3,())),(x4,(x5,(x6,(x7,()))))) (x8,(x9,(x10,(x11,())))) (x13.getD x1.toNat (Ty.z .str))).bind fun r2=>cond (r2.2.1 != 0) (some ([],r2.2)) (rm (Ty.bytes aE) (x12.length+1) (L0 x0 (aH (x1+1)) x2 x3 x4 x5 x6 x7 x8 x9 x10 x11 (x12++[r2.1]) x13)))) (some (x12,(0,()))))
def l0:Nat→T0
 | 0=>fun _ _ _ _ _ _ _ _ _ _ _ _ _ _=>none
 | n+1=>b0 k (l0 n)
def t (L0:T0) (a0:Ty.d aG) (a1:Ty.d aA):Rs :=
 ((eN.f k a0.2.1).bind fun r1=>L0 (r1.1.length:Int) 0 a0.1.1 a0.1.2.1 a0.2.1 a0.2.2.1 a0.2.2.2.1 a0.2.2.2.2.1 a1.1 a1.2.1 a1.2.2.1 a1.2.2.2.1 [] r1.1)
def f:=t k (l0 k k)
end jY
namespace cm
abbrev Rs:Type:=Option (Bool × Unit)
abbrev T1:Type:=List (Ty.d a_)→Int→Int→Int→List Int→List (Ty.d a_)→Int→Int→Int→List (Ty.d aE)→Int→Int→Bool→Rs
abbrev T0:Type:=List Int→Int→Int→Int→List Int→List (Ty.d a_)→Int→Int→Int→List (Ty.d aE)→Int→Int→Bool→Rs
def b1 (L1:T1):T1:=fun x0 x1 x2 x3 x4 x5 x6 x7 x8 x9 x10 x11 x12 =>
 (cond (decide (x2<x1)) (b9 x2 (x0.length:Int) ((ar.f k (x0.getD x2.toNat (Ty.z a_)).2.1).bind fun r8=>(bq.f k (x9,(x10,(x11,(x12,())))) r8.1).bind fun r9=>(kF.f k r9.1 (x0.getD x2.toNat (Ty.z a_)).2.2.1 (x0.getD x2.toNat (Ty.z a_)).2.2.2.1).bind fun r10=>cond (!r10.2.1) (some (false,())) (cond (r10.1.1 != 1) (cond (r10.1.1 != 4) (some (false,())) (cond (!(seq r10.1.2.2.1 (x0.getD x2.toNat (Ty.z a_)).1)) (some (false,())) (cond (r10.1.2.1 != (x0.getD x2.toNat (Ty.z a_)).2.2.2.2.1) (some (false,())) (cond (decide ((x0.getD x2.toNat (Ty.z a_)).2.2.2.2.1≥x6)) (some (false,())) (L1 x0 x1 (aH (x2+1)) x3 x4 x5 x6 x7 x8 x9 x10 x11 x12))))) (cond (!(seq r10.1.2.2.1 (x0.getD x2.toNat (Ty.z a_)).1)) (some (false,())) (cond (r10.1.2.1 != (x0.getD x2.toNat (Ty.z a_)).2.2.2.2.1) (some (false,())) (cond (decide ((x0.getD x2.toNat (Ty.z a_)).2.2.2.2.1≥x6)) (some (false,())) (L1 x0 x1 (aH (x2+1)) x3 x4 x5 x6 x7 x8 x9 x10 x11 x12))))))) (some (true,())))
def l1:Nat→T1
 | 0=>fun _ _ _ _ _ _ _ _ _ _ _ _ _=>none
 | n+1=>b1 k (l1 n)
def b0 (L1:T1) (L0:T0):T0:=fun x0 x1 x2 x3 x4 x5 x6 x7 x8 x9 x10 x11 x12 =>
 (cond (decide (x2<x1)) (b9 x2 (x0.length:Int) ((ar.f k (x0.getD x2.toNat (Ty.z (.int .i64)))).bind fun r5=>(bq.f k (x9,(x10,(x11,(x12,())))) r5.1).bind fun r6=>(dP.f k r6.1).bind fun r7=>cond (!r6.2.1) (some (false,())) (cond (r7.2.1 != (r6.1.size:Int)) (some (false,())) (cond (x2==(aH ((x4.length:Int)-1))) (cond (x7 != r7.2.1) (some (false,())) (L0 x0 x1 (aH (x2+1)) x3 x4 x5 x6 x7 x8 x9 x10 x11 x12)) (L0 x0 x1 (aH (x2+1)) x3 x4 x5 x6 x7 x8 x9 x10 x11 x12))))) (L1 x5 (x5.length:Int) 0 x3 x4 x5 x6 x7 x8 x9 x10 x11 x12))
def l0:Nat→T0
 | 0=>fun _ _ _ _ _ _ _ _ _ _ _ _ _=>none
 | n+1=>b0 k (l1 k k) (l0 n)
def t (L0:T0) (a0:Ty.d aG) (a1:Ty.d aA):Rs :=
 ((b8.f k a1).bind fun r1=>cond (!r1.1) (some (false,())) ((dR.f k a0.1).bind fun r2=>cond (!r2.1) (some (false,())) ((fF.f k a0.2.1).bind fun r3=>cond (!r3.1) (some (false,())) ((ab.f k a0.2.2.1 1 1000001).bind fun r4=>cond (!r4.1) (some (false,())) (L0 a0.1.2.1 (a0.1.2.1.length:Int) 0 a0.1.1 a0.1.2.1 a0.2.1 a0.2.2.1 a0.2.2.2.1 a0.2.2.2.2.1 a1.1 a1.2.1 a1.2.2.1 a1.2.2.2.1)))))
def f:=t k (l0 k k)
end cm
namespace iQ
abbrev Rs:Type:=Option ((List (Ty.d bR)) × Unit)
abbrev T0:Type:=List (Ty.d aE)→Int→List (Ty.d aE)→Int→Int→List (Ty.d bR)→Rs
def b0 (L0:T0):T0:=fun x0 x1 x2 x3 x4 x5 =>
 (cond (decide (x4<x3)) (b9 x4 (x2.length:Int) (rm (Ty.bytes bR) (x5.length+1) (L0 x0 x1 x2 x3 (aH (x4+1)) (x5++[(4,((x2.getD x4.toNat (Ty.z aE)).2.2.1,((x2.getD x4.toNat (Ty.z aE)).1,((x2.getD x4.toNat (Ty.z aE)).2.1,(0,(0,()))))))])))) ((gk.f k x5).bind fun r1=>rm (Ty.bytes bR) (x5.length+1) (some ((x5++[(5,(x1,(ByteArray.empty,(ByteArray.empty,((x0.length:Int),r1)))))]),()))))
def l0:Nat→T0
 | 0=>fun _ _ _ _ _ _=>none
 | n+1=>b0 k (l0 n)
def t (k:Nat) (L0:T0) (a0:List (Ty.d aE)) (a1:Int):Rs :=
 (L0 a0 a1 a0 (a0.length:Int) 0 [])
def f:=t k (l0 k k)
end iQ
namespace bI
abbrev Rs:Type:=Option ((Ty.d au) × (List (Ty.d a_)) × Unit)
abbrev T0:Type:=Int→Int→List (Ty.d bR)→Int→Int→List (Ty.d aE)→Int→Int→Bool→Int→List (Ty.d a_)→Rs
def b0 (L0:T0):T0:=fun x0 x1 x2 x3 x4 x5 x6 x7 x8 x9 x10 =>
 (cond (decide (x4<x3)) (b9 x4 (x2.length:Int) ((gg.f k (x2.getD x4.toNat (Ty.z bR))).bind fun r3=>(i_.f k r3.1).bind fun r4=>(ar.f k x0).bind fun r5=>(cW.f k ((x5,(x6,(x7,(x8,())))),(x9,())) r5.1 r4.1).bind fun r6=>cond ((x2.getD x4.toNat (Ty.z bR)).1==4) (rm (Ty.bytes a_) (x10.length+1) (L0 x0 (aH (x1+(r4.1.size:Int))) x2 x3 (aH (x4+1)) r6.1.1.1 r6.1.1.2.1 r6.1.1.2.2.1 r6.1.1.2.2.2.1 r6.1.2.1 (x10++[((x2.getD x4.toNat (Ty.z bR)).2.2.1,(x0,(x1,((r4.1.size:Int),((x2.getD x4.toNat (Ty.z bR)).2.1,())))))]))) (L0 x0 (aH (x1+(r4.1.size:Int))) x2 x3 (aH (x4+1)) r6.1.1.1 r6.1.1.2.1 r6.1.1.2.2.1 r6.1.1.2.2.2.1 r6.1.2.1 x10))) ((ar.f k x0).bind fun r7=>(bT.f k ((x5,(x6,(x7,(x8,())))),(x9,())) r7.1).bind fun r8=>(ar.f k (aH (x0+1))).bind fun r9=>(d_.f k r8.1 r9.1).bind fun r10=>some (r10.1,(x10,()))))
def l0:Nat→T0
 | 0=>fun _ _ _ _ _ _ _ _ _ _ _=>none
 | n+1=>b0 k (l0 n)
def t (L0:T0) (a0:Ty.d au) (a1:Int) (a2:List (Ty.d bR)):Rs :=
 ((ar.f k a1).bind fun r1=>(d_.f k a0 r1.1).bind fun r2=>L0 a1 0 a2 (a2.length:Int) 0 r2.1.1.1 r2.1.1.2.1 r2.1.1.2.2.1 r2.1.1.2.2.2.1 r2.1.2.1 [])
def f:=t k (l0 k k)
end bI
namespace dz
abbrev Rs:Type:=Option ((Ty.d au) × Unit)
def t (a0:Ty.d au) (a1:Int):Rs :=
 (cond (a0.2.1 != 0) (some (a0,())) ((ar.f k a1).bind fun r1=>(bq.f k a0.1 r1.1).bind fun r2=>(eu.f k a1 r2.1).bind fun r3=>(di.f k a1).bind fun r4=>(dN.f k r3.1).bind fun r5=>(dj.f k a0 r4.1 r5.1).bind fun r6=>cond (r6.1.2.1==2) ((di.f k a1).bind fun r7=>(bN.f k (r6.1.1,(0,())) r7.1).bind fun r8=>some r8) (some r6)))
def f:=t k
end dz
namespace ag
abbrev Rs:Type:=Option ((Ty.d au) × Unit)
abbrev T1:Type:=List ByteArray→Int→Int→Int→Int→Bool→Int→List (Ty.d aE)→Int→Int→Bool→Int→Rs
abbrev T0:Type:=List ByteArray→Int→Int→List (Ty.d aE)→Int→Int→Bool→Int→Int→Int→Bool→Int→Rs
def b1 (L1:T1):T1:=fun x0 x1 x2 x3 x4 x5 x6 x7 x8 x9 x10 x11 =>
 (cond (decide (x2<x1)) (b9 x2 (x0.length:Int) ((bN.f k ((x7,(x8,(x9,(x10,())))),(x11,())) (x0.getD x2.toNat (Ty.z .str))).bind fun r2=>L1 x0 x1 (aH (x2+1)) x3 x4 x5 x6 r2.1.1.1 r2.1.1.2.1 r2.1.1.2.2.1 r2.1.1.2.2.2.1 r2.1.2.1)) (cond (x11 != 0) (some (((x7,(x8,(x9,(x10,())))),(x11,())),())) (some (((x7,(x8,(x9,(x10,())))),(x6,())),()))))
def l1:Nat→T1
 | 0=>fun _ _ _ _ _ _ _ _ _ _ _ _=>none
 | n+1=>b1 k (l1 n)
def b0 (L1:T1):T0:=fun x0 x1 x2 x3 x4 x5 x6 x7 x8 x9 x10 x11 =>
 (cond (decide (x2<x1)) (b9 x2 (x0.length:Int) ((bN.f k ((x3,(x8,(x9,(x10,())))),(x11,())) (x0.getD x2.toNat (Ty.z .str))).bind fun r1=>L1 x0 x1 (aH (x2+1)) x4 x5 x6 x7 r1.1.1.1 r1.1.1.2.1 r1.1.1.2.2.1 r1.1.1.2.2.2.1 r1.1.2.1)) (cond (x11 != 0) (some (((x3,(x8,(x9,(x10,())))),(x11,())),())) (some (((x3,(x8,(x9,(x10,())))),(x7,())),()))))
def l0:Nat→T0
 | 0=>fun _ _ _ _ _ _ _ _ _ _ _ _=>none
 | n+1=>b0 k (l1 k n)
def t (k:Nat) (L0:T0) (a0:Ty.d au) (a1:List ByteArray):Rs :=
 (cond (a0.2.1 != 2) (some (a0,())) (L0 a1 (a1.length:Int) 0 a0.1.1 a0.1.2.1 a0.1.2.2.1 a0.1.2.2.2.1 a0.2.1 a0.1.2.1 a0.1.2.2.1 a0.1.2.2.2.1 0))
def f:=t k (l0 k k)
end ag
namespace cT
abbrev Rs:Type:=Option ((Ty.d aG) × (Ty.d au) × Unit)
abbrev T0:Type:=Int→Int→List Int→List (Ty.d a_)→Int→Int→Int→Int→List (Ty.d aE)→Int→Int→Bool→Int→List Int→Rs
def b0 (L0:T0):T0:=fun x0 x1 x2 x3 x4 x5 x6 x7 x8 x9 x10 x11 x12 x13 =>
 (cond (decide (x1<x0)) (b9 x1 (x13.length:Int) ((ar.f k (x13.getD x1.toNat (Ty.z (.int .i64)))).bind fun r9=>(bN.f k ((x8,(x9,(x10,(x11,())))),(x12,())) r9.1).bind fun r10=>(di.f k (x13.getD x1.toNat (Ty.z (.int .i64)))).bind fun r11=>(bN.f k r10.1 r11.1).bind fun r12=>L0 x0 (aH (x1+1)) x2 x3 x4 x5 x6 x7 r12.1.1.1 r12.1.1.2.1 r12.1.1.2.2.1 r12.1.1.2.2.2.1 r12.1.2.1 x13)) (some (((x4,(x2,())),(x3,(x5,(x6,(x7,()))))),(((x8,(x9,(x10,(x11,())))),(x12,())),()))))
def l0:Nat→T0
 | 0=>fun _ _ _ _ _ _ _ _ _ _ _ _ _ _=>none
 | n+1=>b0 k (l0 n)
def t (L0:T0) (a0:Ty.d aG) (a1:Ty.d au) (a2:List (Ty.d aE)):Rs :=
 ((iQ.f k a2 (aH (a0.2.2.1-1))).bind fun r1=>(bI.f k a1 a0.1.1 r1.1).bind fun r2=>(dz.f k r2.1 a0.1.1).bind fun r3=>cond (r3.1.2.1==0) ((cH.f k r3.1 ((aH (a0.1.1+2)),([a0.1.1,(aH (a0.1.1+1))],()))).bind fun r4=>cond (r4.1.2.1 != 0) ((ar.f k a0.1.1).bind fun r5=>(ar.f k (aH (a0.1.1+1))).bind fun r6=>(di.f k a0.1.1).bind fun r7=>(ag.f k r4.1 [(⟨#[116,101,109,112]⟩:ByteArray),r5.1,r6.1,r7.1]).bind fun r8=>some ((((aH (a0.1.1+2)),a0.1.2),a0.2),r8)) (L0 (a0.1.2.1.length:Int) 0 [a0.1.1,(aH (a0.1.1+1))] r2.2.1 (aH (a0.1.1+2)) a0.2.2.1 0 0 r4.1.1.1 r4.1.1.2.1 r4.1.1.2.2.1 r4.1.1.2.2.2.1 r4.1.2.1 a0.1.2.1)) (cond (r3.1.2.1 != 0) ((ar.f k a0.1.1).bind fun r13=>(ar.f k (aH (a0.1.1+1))).bind fun r14=>(di.f k a0.1.1).bind fun r15=>(ag.f k r3.1 [(⟨#[116,101,109,112]⟩:ByteArray),r13.1,r14.1,r15.1]).bind fun r16=>some ((((aH (a0.1.1+2)),a0.1.2),a0.2),r16)) (L0 (a0.1.2.1.length:Int) 0 [a0.1.1,(aH (a0.1.1+1))] r2.2.1 (aH (a0.1.1+2)) a0.2.2.1 0 0 r3.1.1.1 r3.1.1.2.1 r3.1.1.2.2.1 r3.1.1.2.2.2.1 r3.1.2.1 a0.1.2.1)))
def f:=t k (l0 k k)
end cT
namespace kw
abbrev Rs:Type:=Option ((Ty.d aG) × (Ty.d aA) × Int × Unit)
def t (a0:Ty.d aG) (a1:Ty.d aA):Rs :=
 ((cQ.f k a0).bind fun r1=>(bE.f k a1).bind fun r2=>(jY.f k a0 a1).bind fun r3=>(cm.f k a0 a1).bind fun r4=>cond (!r4.1) (some (r1.1,(r2.1,(4,())))) (cond (decide ((aH (a0.1.1+2)) > 100000)) (some (r1.1,(r2.1,(5,())))) (cond (r3.2.1 != 0) (some (r1.1,(r2.1,r3.2))) ((cT.f k r1.1 (r2.1,(0,())) r3.1).bind fun r5=>some (r5.1,r5.2.1)))))
def f:=t k
end kw
namespace ky
abbrev Rs:Type:=Option (Bool × Unit)
def t (a0:List (Ty.d ai)) (a1:Ty.d aZ):Rs :=
 ((ab.f k a1.1 1 6).bind fun r1=>cond r1.1 ((ab.f k a1.2.1 0 (aH ((a0.length:Int)-1))).bind fun r2=>cond r2.1 (b9 a1.2.1 (a0.length:Int) (some (((a0.getD a1.2.1.toNat (Ty.z ai)).1==(a1.1 != 1)),()))) (some (false,()))) (some (false,())))
def f:=t k
end ky
namespace fM
abbrev Rs:Type:=Option ((Ty.d aW) × Bool × Unit)
abbrev T0:Type:=ByteArray→Int→Bool→List (Ty.d bV)→List (Ty.d aW)→ByteArray→Bool→ByteArray→Rs
def b0 (k:Nat) (L0:T0):T0:=fun x0 x1 x2 x3 x4 x5 x6 x7 =>
 (cond (decide (x1≥0)) (b9 x1 (x4.length:Int) (cond (seq (x4.getD x1.toNat (Ty.z aW)).1 x0) (b9 x1 (x4.length:Int) (some ((x4.getD x1.toNat (Ty.z aW)),(true,())))) (L0 x0 (aH (x1-1)) x2 x3 x4 x5 x6 x7))) (some ((ByteArray.empty,(false,(ByteArray.empty,()))),(false,()))))
def l0:Nat→T0
 | 0=>fun _ _ _ _ _ _ _ _=>none
 | n+1=>b0 k (l0 n)
def t (k:Nat) (L0:T0) (a0:Ty.d ai) (a1:ByteArray):Rs :=
 (L0 a1 (aH ((a0.2.2.1.length:Int)-1)) a0.1 a0.2.1 a0.2.2.1 ByteArray.empty false ByteArray.empty)
def f:=t k (l0 k k)
end fM
namespace pI
abbrev Rs:Type:=Option ((Ty.d ac) × Bool × Unit)
def t (a0:Ty.d ai) (a1:ByteArray):Rs :=
 ((fM.f k a0 a1).bind fun r1=>cond (!r1.2.1) (some ((0,(ByteArray.empty,([],()))),(false,()))) (cond r1.1.2.1 (some ((8,(ByteArray.empty,([],()))),(true,()))) (some ((0,(r1.1.2.2.1,([],()))),(true,())))))
def f:=t k
end pI
namespace gM
abbrev Rs:Type:=Option ((Ty.d ai) × Int × Unit)
abbrev T0:Type:=ByteArray→Int→Bool→List (Ty.d bV)→Int→Int→Bool→List (Ty.d bV)→List (Ty.d aW)→List (Ty.d bV)→List (Ty.d aW)→Bool→List (Ty.d bV)→List (Ty.d aW)→Bool→Rs
def b0 (k:Nat) (L0:T0):T0:=fun x0 x1 x2 x3 x4 x5 x6 x7 x8 x9 x10 x11 x12 x13 x14 =>
 (cond (decide (x5<x4)) (b9 x5 (x3.length:Int) (cond (!(seq (x3.getD x5.toNat (Ty.z bV)).1 x0)) (L0 x0 x1 x2 x3 x4 (aH (x5+1)) x6 x7 x8 x9 x10 x11 x12 x13 x14) (cond ((x3.getD x5.toNat (Ty.z bV)).2.1 != x1) (some ((x14,(x12,(x13,()))),(7,()))) (L0 x0 x1 true x3 x4 (aH (x5+1)) x6 x7 x8 x9 x10 x11 x12 x13 x14)))) (cond x2 (some ((x14,(x12,(x13,()))),(0,()))) (cond (decide ((x7.length:Int)≥20)) (some ((x14,(x12,(x13,()))),(5,()))) (rm (Ty.bytes bV) (x12.length+1) (some ((x14,((x12++[(x0,(x1,()))]),(x13,()))),(0,())))))))
def l0:Nat→T0
 | 0=>fun _ _ _ _ _ _ _ _ _ _ _ _ _ _ _=>none
 | n+1=>b0 k (l0 n)
def t (L0:T0) (a0:Ty.d ai) (a1:ByteArray) (a2:Int):Rs :=
 ((eO.f k a0).bind fun r1=>cond (!a0.1) (some (r1.1,(4,()))) ((eI.f k a1).bind fun r2=>cond (!r2.1) (some (r1.1,(4,()))) (L0 a1 a2 false a0.2.1 (a0.2.1.length:Int) 0 a0.1 a0.2.1 a0.2.2.1 [] [] false r1.1.2.1 r1.1.2.2.1 r1.1.1)))
def f:=t k (l0 k k)
end gM
namespace nh
abbrev Rs:Type:=Option ((Ty.d ai) × (Ty.d ac) × Unit)
def t (a0:Ty.d ai) (a1:ByteArray) (a2:Ty.d aE) (a3:Int):Rs :=
 ((gM.f k a0 a1 a2.2.2.1).bind fun r1=>cond (r1.2.1 != 0) (some (r1.1,((r1.2.1,(ByteArray.empty,([],()))),()))) (some (r1.1,((a3,(a2.2.1,([],()))),()))))
def f:=t k
end nh
namespace cw
abbrev Rs:Type:=Option ((Ty.d d6) × (Ty.d ac) × Unit)
def t (a0:Ty.d d6) (a1:Ty.d aZ):Rs :=
 (b9 a1.2.1 (a0.1.2.2.2.1.length:Int) ((eI.f k a1.2.2.1).bind fun r1=>cond (!r1.1) (some (a0,((4,(ByteArray.empty,([],()))),()))) ((pI.f k (a0.1.2.2.2.1.getD a1.2.1.toNat (Ty.z ai)) a1.2.2.1).bind fun r2=>cond r2.2.1 (some (a0,(r2.1,()))) ((mR.f k a0.1.2.1 a0.1.2.2.1 a1.2.2.1).bind fun r3=>cond (r3.2.1==3) (some (a0,((r3.2.1,(ByteArray.empty,([],()))),()))) ((nh.f k (a0.1.2.2.2.1.getD a1.2.1.toNat (Ty.z ai)) a1.2.2.1 r3.1 r3.2.1).bind fun r4=>let l5:=(a0.1.2.2.2.1.set a1.2.1.toNat r4.1);(some (((a0.1.1,(a0.1.2.1,(a0.1.2.2.1,(l5,())))),a0.2),r4.2)))))))
def f:=t k
end cw
namespace gS
abbrev Rs:Type:=Option (Bool × Unit)
def t (a0:Ty.d aW):Rs :=
 ((eI.f k a0.1).bind fun r1=>cond r1.1 (cond (decide ((a0.2.2.1.size:Int)≤24)) (cond (!a0.2.1) (some (true,())) (some ((seq a0.2.2.1 (⟨#[]⟩:ByteArray)),()))) (some (false,()))) (some (false,())))
def f:=t k
end gS
namespace jK
abbrev Rs:Type:=Option ((Ty.d ai) × Bool × Unit)
def t (a0:Ty.d ai) (a1:Ty.d aW):Rs :=
 ((eO.f k a0).bind fun r1=>rm (Ty.bytes aW) (r1.1.2.2.1.length+1) (cond (!a0.1) ((eO.f k a0).bind fun r2=>some (r2.1,(false,()))) ((gS.f k a1).bind fun r3=>cond (!r3.1) ((eO.f k a0).bind fun r4=>some (r4.1,(false,()))) ((eV.f k (r1.1.1,(r1.1.2.1,((r1.1.2.2.1++[a1]),())))).bind fun r5=>cond (decide ((r5.1.length:Int) > 8)) ((eO.f k a0).bind fun r6=>some (r6.1,(false,()))) (cond (decide ((List.length (r1.1.2.2.1++[a1]):Int) > 50)) ((eO.f k a0).bind fun r7=>some (r7.1,(false,()))) (some ((r1.1.1,(r1.1.2.1,((r1.1.2.2.1++[a1]),()))),(true,()))))))))
def f:=t k
end jK
namespace l9
abbrev Rs:Type:=Option ((Ty.d ai) × (Ty.d ac) × Unit)
def t (a0:Ty.d ai) (a1:Ty.d aZ):Rs :=
 ((jK.f k a0 (a1.2.2.1,((a1.1==4),(a1.2.2.2.1,())))).bind fun r1=>(gS.f k (a1.2.2.1,((a1.1==4),(a1.2.2.2.1,())))).bind fun r2=>cond (!r2.1) (some (r1.1,((4,(ByteArray.empty,([],()))),()))) (cond (!r1.2.1) (some (r1.1,((5,(ByteArray.empty,([],()))),()))) (some (r1.1,((0,(ByteArray.empty,([],()))),())))))
def f:=t k
end l9
namespace i8
abbrev Rs:Type:=Option (Bool × Unit)
abbrev T0:Type:=List (Ty.d a_)→List (Ty.d bV)→Int→Int→Rs
def b0 (L0:T0):T0:=fun x0 x1 x2 x3 =>
 (cond (decide (x3<x2)) (b9 x3 (x1.length:Int) ((fh.f k x0 (x1.getD x3.toNat (Ty.z bV)).1).bind fun r1=>cond (r1.1.2.2.2.2.1 != (x1.getD x3.toNat (Ty.z bV)).2.1) (some (false,())) (L0 x0 x1 x2 (aH (x3+1))))) (some (true,())))
def l0:Nat→T0
 | 0=>fun _ _ _ _=>none
 | n+1=>b0 k (l0 n)
def t (k:Nat) (L0:T0) (a0:Ty.d ai) (a1:List (Ty.d a_)):Rs :=
 (L0 a1 a0.2.1 (a0.2.1.length:Int) 0)
def f:=t k (l0 k k)
end i8
namespace fw
abbrev Rs:Type:=Option (Bool × Unit)
abbrev T0:Type:=List (Ty.d aW)→List (Ty.d aW)→Int→Int→Rs
def b0 (L0:T0):T0:=fun x0 x1 x2 x3 =>
 (cond (decide (x3<x2)) (b9 x3 (x1.length:Int) ((gS.f k (x1.getD x3.toNat (Ty.z aW))).bind fun r1=>cond (!r1.1) (some (false,())) (L0 x0 x1 x2 (aH (x3+1))))) (some ((decide ((x0.length:Int)≤8)),())))
def l0:Nat→T0
 | 0=>fun _ _ _ _=>none
 | n+1=>b0 k (l0 n)
def t (k:Nat) (L0:T0) (a0:List (Ty.d aW)):Rs :=
 (L0 a0 a0 (a0.length:Int) 0)
def f:=t k (l0 k k)
end fw
namespace gf
abbrev Rs:Type:=Option ((List (Ty.d a_)) × Unit)
abbrev T1:Type:=List (Ty.d a_)→List (Ty.d aW)→Int→Int→List (Ty.d a_)→Rs
abbrev T0:Type:=List (Ty.d a_)→List (Ty.d a_)→List (Ty.d aW)→Int→Int→Rs
def b1 (L1:T1):T1:=fun x0 x1 x2 x3 x4 =>
 (cond (decide (x3<x2)) (b9 x3 (x1.length:Int) (cond (x1.getD x3.toNat (Ty.z aW)).2.1 ((cG.f k x4 (x1.getD x3.toNat (Ty.z aW)).1).bind fun r2=>L1 x0 x1 x2 (aH (x3+1)) r2.1) (b9 x3 (x0.length:Int) ((dQ.f k x4 (x0.getD x3.toNat (Ty.z a_))).bind fun r3=>L1 x0 x1 x2 (aH (x3+1)) r3.1)))) (some (x4,())))
def l1:Nat→T1
 | 0=>fun _ _ _ _ _=>none
 | n+1=>b1 k (l1 n)
def b0 (L1:T1):T0:=fun x0 x1 x2 x3 x4 =>
 (cond (decide (x4<x3)) (b9 x4 (x2.length:Int) (cond (x2.getD x4.toNat (Ty.z aW)).2.1 ((cG.f k x0 (x2.getD x4.toNat (Ty.z aW)).1).bind fun r1=>L1 x1 x2 x3 (aH (x4+1)) r1.1) (b9 x4 (x1.length:Int) ((dQ.f k x0 (x1.getD x4.toNat (Ty.z a_))).bind fun r4=>L1 x1 x2 x3 (aH (x4+1)) r4.1)))) (some (x0,())))
def l0:Nat→T0
 | 0=>fun _ _ _ _ _=>none
 | n+1=>b0 k (l1 k n)
def t (k:Nat) (L0:T0) (a0:List (Ty.d a_)) (a1:List (Ty.d aW)) (a2:List (Ty.d a_)):Rs :=
 (L0 a0 a2 a1 (a1.length:Int) 0)
def f:=t k (l0 k k)
end gf
namespace fO
abbrev Rs:Type:=Option (Int × Unit)
abbrev T0:Type:=List (Ty.d a_)→List (Ty.d aW)→List (Ty.d aW)→Int→Int→List (Ty.d a_)→Rs
def b0 (L0:T0):T0:=fun x0 x1 x2 x3 x4 x5 =>
 (cond (decide (x4<x3)) (b9 x4 (x2.length:Int) (rm (Ty.bytes a_) (x5.length+1) (L0 x0 x1 x2 x3 (aH (x4+1)) (x5++[((x2.getD x4.toNat (Ty.z aW)).1,(0,(0,(0,(0,())))))])))) ((gf.f k x0 x1 x5).bind fun r1=>some ((r1.1.length:Int),())))
def l0:Nat→T0
 | 0=>fun _ _ _ _ _ _=>none
 | n+1=>b0 k (l0 n)
def t (k:Nat) (L0:T0) (a0:List (Ty.d a_)) (a1:List (Ty.d aW)):Rs :=
 (L0 a0 a1 a1 (a1.length:Int) 0 [])
def f:=t k (l0 k k)
end fO
namespace eU
abbrev Rs:Type:=Option ((List (Ty.d bR)) × Unit)
abbrev T0:Type:=List (Ty.d aW)→Int→List (Ty.d aW)→Int→Int→List (Ty.d bR)→Rs
def b0 (L0:T0):T0:=fun x0 x1 x2 x3 x4 x5 =>
 (cond (decide (x4<x3)) (b9 x4 (x2.length:Int) (cond (x2.getD x4.toNat (Ty.z aW)).2.1 (rm (Ty.bytes bR) (x5.length+1) (L0 x0 x1 x2 x3 (aH (x4+1)) (x5++[(2,(x1,((x2.getD x4.toNat (Ty.z aW)).1,(ByteArray.empty,(0,(0,()))))))]))) (rm (Ty.bytes bR) (x5.length+1) (L0 x0 x1 x2 x3 (aH (x4+1)) (x5++[(1,(x1,((x2.getD x4.toNat (Ty.z aW)).1,((x2.getD x4.toNat (Ty.z aW)).2.2.1,(0,(0,()))))))]))))) ((gk.f k x5).bind fun r1=>rm (Ty.bytes bR) (x5.length+1) (some ((x5++[(3,(x1,(ByteArray.empty,(ByteArray.empty,((x0.length:Int),r1)))))]),()))))
def l0:Nat→T0
 | 0=>fun _ _ _ _ _ _=>none
 | n+1=>b0 k (l0 n)
def t (k:Nat) (L0:T0) (a0:List (Ty.d aW)) (a1:Int):Rs :=
 (L0 a0 a1 a0 (a0.length:Int) 0 [])
def f:=t k (l0 k k)
end eU
namespace bj
abbrev Rs:Type:=Option ((Ty.d aG) × ByteArray × Unit)
def t (a0:Ty.d aG):Rs :=
 (b9 (aH ((a0.1.2.1.length:Int)-1)) (a0.1.2.1.length:Int) ((ar.f k (a0.1.2.1.getD (aH ((a0.1.2.1.length:Int)-1)).toNat (Ty.z (.int .i64)))).bind fun r1=>some (a0,r1)))
def f:=t k
end bj
namespace g7
abbrev Rs:Type:=Option ((Ty.d aG) × (Ty.d au) × Unit)
def t (a0:Ty.d aG) (a1:Ty.d au):Rs :=
 (cond (decide ((a0.1.2.1.length:Int)≥60)) (some (a0,((a1.1,(5,())),()))) (cond (decide (a0.1.1≥100000)) (some (a0,((a1.1,(5,())),()))) ((bj.f k a0).bind fun r1=>(bT.f k a1 r1.2.1).bind fun r2=>cond (r2.1.2.1 != 0) (some (r1.1,r2)) ((ar.f k r1.1.1.1).bind fun r3=>(d_.f k r2.1 r3.1).bind fun r4=>cond (r4.1.2.1 != 0) (some ((((aH (r1.1.1.1+1)),r1.1.1.2),r1.1.2),r4)) ((df.f k ((aH (r1.1.1.1+1)),r1.1.1.2)).bind fun r5=>rm (Ty.bytes (.int .i64)) (r5.1.2.1.length+1) ((cH.f k r4.1 (r5.1.1,((r5.1.2.1++[r1.1.1.1]),()))).bind fun r6=>cond (r6.1.2.1 != 0) ((ar.f k r1.1.1.1).bind fun r7=>(ag.f k r6.1 [(⟨#[116,101,109,112]⟩:ByteArray),r7.1]).bind fun r8=>some ((((aH (r1.1.1.1+1)),r1.1.1.2),r1.1.2),r8)) (some (((r5.1.1,((r5.1.2.1++[r1.1.1.1]),())),(r1.1.2.1,(r1.1.2.2.1,(0,r1.1.2.2.2.2)))),r6))))))))
def f:=t k
end g7
namespace gh
abbrev Rs:Type:=Option ((Ty.d aG) × (Ty.d au) × (Ty.d a_) × Unit)
def t (a0:Ty.d aG) (a1:Ty.d au) (a2:Ty.d bR):Rs :=
 ((gg.f k a2).bind fun r1=>(i_.f k r1.1).bind fun r2=>cond (decide (a0.2.2.2.1 > 0)) (cond (decide ((aH (a0.2.2.2.1+(r2.1.size:Int))) > 200)) ((g7.f k a0 a1).bind fun r3=>cond (r3.2.1.2.1 != 0) (some (r3.1,(r3.2.1,((ByteArray.empty,(0,(0,(0,(0,()))))),())))) (b9 (aH ((r3.1.1.2.1.length:Int)-1)) (r3.1.1.2.1.length:Int) ((bj.f k r3.1).bind fun r4=>(cW.f k r3.2.1 r4.2.1 r2.1).bind fun r5=>cond (r5.1.2.1==0) (some ((r4.1.1,(r4.1.2.1,(r4.1.2.2.1,((aH (r4.1.2.2.2.1+(r2.1.size:Int))),r4.1.2.2.2.2)))),(r5.1,((a2.2.2.1,((r3.1.1.2.1.getD (aH ((r3.1.1.2.1.length:Int)-1)).toNat (Ty.z (.int .i64))),(r3.1.2.2.2.1,((r2.1.size:Int),(a2.2.1,()))))),())))) (some (r4.1,(r5.1,((a2.2.2.1,((r3.1.1.2.1.getD (aH ((r3.1.1.2.1.length:Int)-1)).toNat (Ty.z (.int .i64))),(r3.1.2.2.2.1,((r2.1.size:Int),(a2.2.1,()))))),()))))))) (cond (a1.2.1 != 0) (some (a0,(a1,((ByteArray.empty,(0,(0,(0,(0,()))))),())))) (b9 (aH ((a0.1.2.1.length:Int)-1)) (a0.1.2.1.length:Int) ((bj.f k a0).bind fun r6=>(cW.f k a1 r6.2.1 r2.1).bind fun r7=>cond (r7.1.2.1==0) (some ((r6.1.1,(r6.1.2.1,(r6.1.2.2.1,((aH (r6.1.2.2.2.1+(r2.1.size:Int))),r6.1.2.2.2.2)))),(r7.1,((a2.2.2.1,((a0.1.2.1.getD (aH ((a0.1.2.1.length:Int)-1)).toNat (Ty.z (.int .i64))),(a0.2.2.2.1,((r2.1.size:Int),(a2.2.1,()))))),())))) (some (r6.1,(r7.1,((a2.2.2.1,((a0.1.2.1.getD (aH ((a0.1.2.1.length:Int)-1)).toNat (Ty.z (.int .i64))),(a0.2.2.2.1,((r2.1.size:Int),(a2.2.1,()))))),())))))))) (cond (a1.2.1 != 0) (some (a0,(a1,((ByteArray.empty,(0,(0,(0,(0,()))))),())))) (b9 (aH ((a0.1.2.1.length:Int)-1)) (a0.1.2.1.length:Int) ((bj.f k a0).bind fun r8=>(cW.f k a1 r8.2.1 r2.1).bind fun r9=>cond (r9.1.2.1==0) (some ((r8.1.1,(r8.1.2.1,(r8.1.2.2.1,((aH (r8.1.2.2.2.1+(r2.1.size:Int))),r8.1.2.2.2.2)))),(r9.1,((a2.2.2.1,((a0.1.2.1.getD (aH ((a0.1.2.1.length:Int)-1)).toNat (Ty.z (.int .i64))),(a0.2.2.2.1,((r2.1.size:Int),(a2.2.1,()))))),())))) (some (r8.1,(r9.1,((a2.2.2.1,((a0.1.2.1.getD (aH ((a0.1.2.1.length:Int)-1)).toNat (Ty.z (.int .i64))),(a0.2.2.2.1,((r2.1.size:Int),(a2.2.1,()))))),()))))))))
def f:=t k
end gh
namespace iD
abbrev Rs:Type:=Option ((List (Ty.d a_)) × Unit)
abbrev T0:Type:=List (Ty.d a_)→List (Ty.d aW)→Int→Int→List (Ty.d a_)→Rs
def b0 (L0:T0):T0:=fun x0 x1 x2 x3 x4 =>
 (cond (decide (x3<x2)) (b9 x3 (x1.length:Int) (cond (x1.getD x3.toNat (Ty.z aW)).2.1 ((cG.f k x4 (x1.getD x3.toNat (Ty.z aW)).1).bind fun r1=>L0 x0 x1 x2 (aH (x3+1)) r1.1) (b9 x3 (x0.length:Int) ((dQ.f k x4 (x0.getD x3.toNat (Ty.z a_))).bind fun r2=>L0 x0 x1 x2 (aH (x3+1)) r2.1)))) (some (x4,())))
def l0:Nat→T0
 | 0=>fun _ _ _ _ _=>none
 | n+1=>b0 k (l0 n)
def t (k:Nat) (L0:T0) (a0:List (Ty.d a_)) (a1:List (Ty.d aW)) (a2:List (Ty.d a_)):Rs :=
 (L0 a2 a1 (a1.length:Int) 0 a0)
def f:=t k (l0 k k)
end iD
namespace cF
abbrev Rs:Type:=Option ((Ty.d aG) × (Ty.d au) × Unit)
abbrev T0:Type:=List (Ty.d aW)→Int→Int→List Int→List (Ty.d a_)→Int→Int→Int→Int→List (Ty.d aE)→Int→Int→Bool→Int→List (Ty.d a_)→List (Ty.d bR)→Rs
def b0 (L0:T0):T0:=fun x0 x1 x2 x3 x4 x5 x6 x7 x8 x9 x10 x11 x12 x13 x14 x15 =>
 (cond (decide (x2<x1)) (b9 x2 (x15.length:Int) ((gh.f k ((x5,(x3,())),(x4,(x6,(x7,(x8,()))))) ((x9,(x10,(x11,(x12,())))),(x13,())) (x15.getD x2.toNat (Ty.z bR))).bind fun r2=>cond (r2.2.1.2.1 != 0) (some (r2.1,(r2.2.1,()))) (rm (Ty.bytes a_) (x14.length+1) (L0 x0 x1 (aH (x2+1)) r2.1.1.2.1 r2.1.2.1 r2.1.1.1 r2.1.2.2.1 r2.1.2.2.2.1 r2.1.2.2.2.2.1 r2.2.1.1.1 r2.2.1.1.2.1 r2.2.1.1.2.2.1 r2.2.1.1.2.2.2.1 r2.2.1.2.1 (x14++[r2.2.2.1]) x15)))) ((bj.f k ((x5,(x3,())),(x4,(x6,(x7,(x8,())))))).bind fun r3=>(bT.f k ((x9,(x10,(x11,(x12,())))),(x13,())) r3.2.1).bind fun r4=>cond (r4.1.2.1==0) ((iD.f k r3.1.2.1 x0 x14).bind fun r5=>some ((r3.1.1,(r5.1,r3.1.2.2)),r4)) (some (r3.1,r4))))
def l0:Nat→T0
 | 0=>fun _ _ _ _ _ _ _ _ _ _ _ _ _ _ _ _=>none
 | n+1=>b0 k (l0 n)
def t (L0:T0) (a0:Ty.d aG) (a1:Ty.d au) (a2:List (Ty.d aW)):Rs :=
 ((eU.f k a2 a0.2.2.1).bind fun r1=>L0 a2 (r1.1.length:Int) 0 a0.1.2.1 a0.2.1 a0.1.1 (aH (a0.2.2.1+1)) a0.2.2.2.1 a0.2.2.2.2.1 a1.1.1 a1.1.2.1 a1.1.2.2.1 a1.1.2.2.2.1 a1.2.1 [] r1.1)
def f:=t k (l0 k k)
end cF
namespace kC
abbrev Rs:Type:=Option ((Ty.d aG) × (Ty.d aA) × Int × Unit)
def t (a0:Ty.d aG) (a1:Ty.d aA) (a2:List (Ty.d aW)):Rs :=
 ((cQ.f k a0).bind fun r1=>(bE.f k a1).bind fun r2=>(cm.f k a0 a1).bind fun r3=>cond (!r3.1) (some (r1.1,(r2.1,(4,())))) ((fw.f k a2).bind fun r4=>cond (!r4.1) (some (r1.1,(r2.1,(4,())))) (cond ((a2.length:Int)==0) (some (r1.1,(r2.1,(0,())))) ((fO.f k a0.2.1 a2).bind fun r5=>cond (decide (r5.1 > 20)) (some (r1.1,(r2.1,(5,())))) (cond (decide (a0.2.2.1 > 1000000)) (some (r1.1,(r2.1,(5,())))) ((cF.f k r1.1 (r2.1,(0,())) a2).bind fun r6=>some (r6.1,r6.2.1)))))))
def f:=t k
end kC
namespace bW
abbrev Rs:Type:=Option ((Ty.d d6) × (Ty.d ac) × Unit)
def t (a0:Ty.d d6) (a1:Ty.d aZ):Rs :=
 ((ky.f k a0.1.2.2.2.1 a1).bind fun r1=>cond (!r1.1) (some (a0,((4,(ByteArray.empty,([],()))),()))) (b9 a1.2.1 (a0.1.2.2.2.1.length:Int) (cond (a1.1==1) (let l2:=(a0.1.2.2.2.1.set a1.2.1.toNat (true,([],([],()))));(some (((a0.1.1,(a0.1.2.1,(a0.1.2.2.1,(l2,())))),a0.2),((0,(ByteArray.empty,([],()))),())))) (cond (a1.1==6) (let l3:=(a0.1.2.2.2.1.set a1.2.1.toNat (false,([],([],()))));(some (((a0.1.1,(a0.1.2.1,(a0.1.2.2.1,(l3,())))),a0.2),((0,(ByteArray.empty,([],()))),())))) (cond (a1.1==2) ((cw.f k a0 a1).bind fun r4=>some r4) (cond (a1.1==3) (cond (a1.1==3) ((l9.f k (a0.1.2.2.2.1.getD a1.2.1.toNat (Ty.z ai)) a1).bind fun r5=>let l6:=(a0.1.2.2.2.1.set a1.2.1.toNat r5.1);(some (((a0.1.1,(a0.1.2.1,(a0.1.2.2.1,(l6,())))),a0.2),r5.2))) (cond (a1.1==5) (let l7:=(a0.1.2.2.2.1.set a1.2.1.toNat (false,([],([],()))));((i8.f k (a0.1.2.2.2.1.getD a1.2.1.toNat (Ty.z ai)) a0.1.2.1.2.1).bind fun r8=>cond (!r8.1) (some (((a0.1.1,(a0.1.2.1,(a0.1.2.2.1,(l7,())))),a0.2),((7,(ByteArray.empty,([],()))),()))) ((eV.f k (a0.1.2.2.2.1.getD a1.2.1.toNat (Ty.z ai))).bind fun r9=>(kC.f k a0.1.2.1 a0.1.2.2.1 r9.1).bind fun r10=>some (((a0.1.1,(r10.1,(r10.2.1,(l7,())))),a0.2),((r10.2.2.1,(ByteArray.empty,([],()))),()))))) (some (a0,((0,(ByteArray.empty,([],()))),()))))) (cond (a1.1==4) ((l9.f k (a0.1.2.2.2.1.getD a1.2.1.toNat (Ty.z ai)) a1).bind fun r11=>let l12:=(a0.1.2.2.2.1.set a1.2.1.toNat r11.1);(some (((a0.1.1,(a0.1.2.1,(a0.1.2.2.1,(l12,())))),a0.2),r11.2))) (cond (a1.1==5) (let l13:=(a0.1.2.2.2.1.set a1.2.1.toNat (false,([],([],()))));((i8.f k (a0.1.2.2.2.1.getD a1.2.1.toNat (Ty.z ai)) a0.1.2.1.2.1).bind fun r14=>cond (!r14.1) (some (((a0.1.1,(a0.1.2.1,(a0.1.2.2.1,(l13,())))),a0.2),((7,(ByteArray.empty,([],()))),()))) ((eV.f k (a0.1.2.2.2.1.getD a1.2.1.toNat (Ty.z ai))).bind fun r15=>(kC.f k a0.1.2.1 a0.1.2.2.1 r15.1).bind fun r16=>some (((a0.1.1,(r16.1,(r16.2.1,(l13,())))),a0.2),((r16.2.2.1,(ByteArray.empty,([],()))),()))))) (some (a0,((0,(ByteArray.empty,([],()))),())))))))))))
def f:=t k
end bW
namespace bC
abbrev Rs:Type:=Option ((Ty.d d6) × (Ty.d ac) × Unit)
def t (a0:Ty.d d6) (a1:Ty.d aZ):Rs :=
 (cond (a1.1==10) (cond a0.1.1 (some (a0,((4,(ByteArray.empty,([],()))),()))) (cond (a1.1==10) ((fz.f k a0.1.2.2.1).bind fun r1=>some ((r1.1,a0.2),((r1.2.1,(ByteArray.empty,([],()))),()))) (cond (a1.1==11) ((iE.f k a0.1.2.2.1).bind fun r2=>(b8.f k a0.1.2.2.1).bind fun r3=>cond (!r3.1) (some (a0,((4,(ByteArray.empty,([],()))),()))) ((ab.f k a1.2.2.2.2.1 0 (aH (100000-r2.1))).bind fun r4=>cond (!r4.1) (some (a0,((4,(ByteArray.empty,([],()))),()))) (some (((a0.1.1,(a0.1.2.1,((a0.1.2.2.1.1,((aH (r2.1+a1.2.2.2.2.1)),a0.1.2.2.1.2.2)),a0.1.2.2.2))),a0.2),((0,(ByteArray.empty,([],()))),()))))) (cond (!a0.1.1) (some (a0,((6,(ByteArray.empty,([],()))),()))) (cond (a1.1==7) ((kw.f k a0.1.2.1 a0.1.2.2.1).bind fun r5=>some (((a0.1.1,(r5.1,(r5.2.1,a0.1.2.2.2))),a0.2),((r5.2.2.1,(ByteArray.empty,([],()))),()))) (cond (a1.1==8) ((eN.f k a0.1.2.1.2.1).bind fun r6=>some (a0,((0,(ByteArray.empty,r6)),()))) (cond (a1.1==9) (xG (Ty.bytes ai) 3 (some (((false,(((0,([],())),([],(0,(0,(0,()))))),(a0.1.2.2.1,((List.replicate (Int.toNat 3) (Ty.z ai)),())))),a0.2),((0,(ByteArray.empty,([],()))),())))) ((bW.f k a0 a1).bind fun r7=>some r7)))))))) (cond (a1.1==10) ((fz.f k a0.1.2.2.1).bind fun r8=>some ((r8.1,a0.2),((r8.2.1,(ByteArray.empty,([],()))),()))) (cond (a1.1==11) ((iE.f k a0.1.2.2.1).bind fun r9=>(b8.f k a0.1.2.2.1).bind fun r10=>cond (!r10.1) (some (a0,((4,(ByteArray.empty,([],()))),()))) ((ab.f k a1.2.2.2.2.1 0 (aH (100000-r9.1))).bind fun r11=>cond (!r11.1) (some (a0,((4,(ByteArray.empty,([],()))),()))) (some (((a0.1.1,(a0.1.2.1,((a0.1.2.2.1.1,((aH (r9.1+a1.2.2.2.2.1)),a0.1.2.2.1.2.2)),a0.1.2.2.2))),a0.2),((0,(ByteArray.empty,([],()))),()))))) (cond (!a0.1.1) (some (a0,((6,(ByteArray.empty,([],()))),()))) (cond (a1.1==7) ((kw.f k a0.1.2.1 a0.1.2.2.1).bind fun r12=>some (((a0.1.1,(r12.1,(r12.2.1,a0.1.2.2.2))),a0.2),((r12.2.2.1,(ByteArray.empty,([],()))),()))) (cond (a1.1==8) ((eN.f k a0.1.2.1.2.1).bind fun r13=>some (a0,((0,(ByteArray.empty,r13)),()))) (cond (a1.1==9) (xG (Ty.bytes ai) 3 (some (((false,(((0,([],())),([],(0,(0,(0,()))))),(a0.1.2.2.1,((List.replicate (Int.toNat 3) (Ty.z ai)),())))),a0.2),((0,(ByteArray.empty,([],()))),())))) ((bW.f k a0 a1).bind fun r14=>some r14))))))))
def f:=t k
end bC
namespace jf
abbrev Rs:Type:=Option ((Ty.d d6) × Unit)
abbrev T1:Type:=List (Ty.d aZ)→Int→Int→List Int→List (Ty.d a_)→List (Ty.d aE)→List (Ty.d ai)→List (Ty.d ac)→List (Ty.d na)→List (Ty.d aW)→Bool→Int→Int→Int→Int→Int→Int→Bool→List Int→List (Ty.d a_)→List (Ty.d aE)→List (Ty.d ai)→List (Ty.d ac)→List (Ty.d na)→List (Ty.d aW)→Bool→Int→Int→Int→Int→Int→Int→Bool→Rs
abbrev T0:Type:=List (Ty.d aZ)→Int→Int→List Int→List (Ty.d a_)→List (Ty.d aE)→List (Ty.d ai)→List (Ty.d ac)→List (Ty.d na)→List (Ty.d aW)→Bool→Int→Int→Int→Int→Int→Int→Bool→List Int→List (Ty.d a_)→List (Ty.d aE)→List (Ty.d ai)→List (Ty.d ac)→List (Ty.d na)→List (Ty.d aW)→Bool→Int→Int→Int→Int→Int→Int→Bool→Rs
def b1 (L1:T1):T1:=fun x0 x1 x2 x3 x4 x5 x6 x7 x8 x9 x10 x11 x12 x13 x14 x15 x16 x17 x18 x19 x20 x21 x22 x23 x24 x25 x26 x27 x28 x29 x30 x31 x32 =>
 (cond (decide (x2<x1)) (b9 x2 (x0.length:Int) (cond (decide (x2≥300)) (some (((x25,(((x26,(x18,())),(x19,(x27,(x28,(x29,()))))),((x20,(x30,(x31,(x32,())))),(x21,())))),(x22,(x23,(x24,())))),())) ((kx.f k (x25,(((x26,(x18,())),(x19,(x27,(x28,(x29,()))))),((x20,(x30,(x31,(x32,())))),(x21,())))) (x0.getD x2.toNat (Ty.z aZ))).bind fun r4=>(bC.f k ((x25,(((x26,(x18,())),(x19,(x27,(x28,(x29,()))))),((x20,(x30,(x31,(x32,())))),(x21,())))),(x22,(x23,(x24,())))) (x0.getD x2.toNat (Ty.z aZ))).bind fun r5=>rm (Ty.bytes ac) (r5.1.2.1.length+1) (cond (r5.2.1.1==1) (some ((r5.1.1,((r5.1.2.1++[r5.2.1]),(r5.1.2.2.1,r4))),())) (cond (r5.2.1.1==0) (cond (decide ((r4.1.length:Int) > 0)) (rm (Ty.bytes na) (r5.1.2.2.1.length+1) (L1 x0 x1 (aH (x2+1)) x3 x4 x5 x6 x7 x8 x9 x10 x11 x12 x13 x14 x15 x16 x17 r5.1.1.2.1.1.2.1 r5.1.1.2.1.2.1 r5.1.1.2.2.1.1 r5.1.1.2.2.2.1 (r5.1.2.1++[r5.2.1]) (r5.1.2.2.1++[(x27,r4)]) r5.1.2.2.2.1 r5.1.1.1 r5.1.1.2.1.1.1 r5.1.1.2.1.2.2.1 r5.1.1.2.1.2.2.2.1 r5.1.1.2.1.2.2.2.2.1 r5.1.1.2.2.1.2.1 r5.1.1.2.2.1.2.2.1 r5.1.1.2.2.1.2.2.2.1)) (L1 x0 x1 (aH (x2+1)) x3 x4 x5 x6 x7 x8 x9 x10 x11 x12 x13 x14 x15 x16 x17 r5.1.1.2.1.1.2.1 r5.1.1.2.1.2.1 r5.1.1.2.2.1.1 r5.1.1.2.2.2.1 (r5.1.2.1++[r5.2.1]) r5.1.2.2.1 r5.1.2.2.2.1 r5.1.1.1 r5.1.1.2.1.1.1 r5.1.1.2.1.2.2.1 r5.1.1.2.1.2.2.2.1 r5.1.1.2.1.2.2.2.2.1 r5.1.1.2.2.1.2.1 r5.1.1.2.2.1.2.2.1 r5.1.1.2.2.1.2.2.2.1)) (L1 x0 x1 (aH (x2+1)) x3 x4 x5 x6 x7 x8 x9 x10 x11 x12 x13 x14 x15 x16 x17 r5.1.1.2.1.1.2.1 r5.1.1.2.1.2.1 r5.1.1.2.2.1.1 r5.1.1.2.2.2.1 (r5.1.2.1++[r5.2.1]) r5.1.2.2.1 r5.1.2.2.2.1 r5.1.1.1 r5.1.1.2.1.1.1 r5.1.1.2.1.2.2.1 r5.1.1.2.1.2.2.2.1 r5.1.1.2.1.2.2.2.2.1 r5.1.1.2.2.1.2.1 r5.1.1.2.2.1.2.2.1 r5.1.1.2.2.1.2.2.2.1)))))) (some (((x25,(((x26,(x18,())),(x19,(x27,(x28,(x29,()))))),((x20,(x30,(x31,(x32,())))),(x21,())))),(x22,(x23,(x24,())))),())))
def l1:Nat→T1
 | 0=>fun _ _ _ _ _ _ _ _ _ _ _ _ _ _ _ _ _ _ _ _ _ _ _ _ _ _ _ _ _ _ _ _ _=>none
 | n+1=>b1 k (l1 n)
def b0 (L1:T1):T0:=fun x0 x1 x2 x3 x4 x5 x6 x7 x8 x9 x10 x11 x12 x13 x14 x15 x16 x17 x18 x19 x20 x21 x22 x23 x24 x25 x26 x27 x28 x29 x30 x31 x32 =>
 (cond (decide (x2<x1)) (b9 x2 (x0.length:Int) (cond (decide (x2≥300)) (some (((x25,(((x26,(x18,())),(x19,(x27,(x28,(x29,()))))),((x20,(x30,(x31,(x32,())))),(x21,())))),(x22,(x23,(x24,())))),())) ((kx.f k (x25,(((x26,(x18,())),(x19,(x27,(x28,(x29,()))))),((x20,(x30,(x31,(x32,())))),(x21,())))) (x0.getD x2.toNat (Ty.z aZ))).bind fun r2=>(bC.f k ((x25,(((x26,(x18,())),(x19,(x27,(x28,(x29,()))))),((x20,(x30,(x31,(x32,())))),(x21,())))),(x22,(x23,(x24,())))) (x0.getD x2.toNat (Ty.z aZ))).bind fun r3=>rm (Ty.bytes ac) (r3.1.2.1.length+1) (cond (r3.2.1.1==1) (some ((r3.1.1,((r3.1.2.1++[r3.2.1]),(r3.1.2.2.1,r2))),())) (cond (r3.2.1.1==0) (cond (decide ((r2.1.length:Int) > 0)) (rm (Ty.bytes na) (r3.1.2.2.1.length+1) (L1 x0 x1 (aH (x2+1)) x3 x4 x5 x6 x7 x8 x9 x10 x11 x12 x13 x14 x15 x16 x17 r3.1.1.2.1.1.2.1 r3.1.1.2.1.2.1 r3.1.1.2.2.1.1 r3.1.1.2.2.2.1 (r3.1.2.1++[r3.2.1]) (r3.1.2.2.1++[(x27,r2)]) r3.1.2.2.2.1 r3.1.1.1 r3.1.1.2.1.1.1 r3.1.1.2.1.2.2.1 r3.1.1.2.1.2.2.2.1 r3.1.1.2.1.2.2.2.2.1 r3.1.1.2.2.1.2.1 r3.1.1.2.2.1.2.2.1 r3.1.1.2.2.1.2.2.2.1)) (L1 x0 x1 (aH (x2+1)) x3 x4 x5 x6 x7 x8 x9 x10 x11 x12 x13 x14 x15 x16 x17 r3.1.1.2.1.1.2.1 r3.1.1.2.1.2.1 r3.1.1.2.2.1.1 r3.1.1.2.2.2.1 (r3.1.2.1++[r3.2.1]) r3.1.2.2.1 r3.1.2.2.2.1 r3.1.1.1 r3.1.1.2.1.1.1 r3.1.1.2.1.2.2.1 r3.1.1.2.1.2.2.2.1 r3.1.1.2.1.2.2.2.2.1 r3.1.1.2.2.1.2.1 r3.1.1.2.2.1.2.2.1 r3.1.1.2.2.1.2.2.2.1)) (L1 x0 x1 (aH (x2+1)) x3 x4 x5 x6 x7 x8 x9 x10 x11 x12 x13 x14 x15 x16 x17 r3.1.1.2.1.1.2.1 r3.1.1.2.1.2.1 r3.1.1.2.2.1.1 r3.1.1.2.2.2.1 (r3.1.2.1++[r3.2.1]) r3.1.2.2.1 r3.1.2.2.2.1 r3.1.1.1 r3.1.1.2.1.1.1 r3.1.1.2.1.2.2.1 r3.1.1.2.1.2.2.2.1 r3.1.1.2.1.2.2.2.2.1 r3.1.1.2.2.1.2.1 r3.1.1.2.2.1.2.2.1 r3.1.1.2.2.1.2.2.2.1)))))) (some (((x25,(((x26,(x18,())),(x19,(x27,(x28,(x29,()))))),((x20,(x30,(x31,(x32,())))),(x21,())))),(x22,(x23,(x24,())))),())))
def l0:Nat→T0
 | 0=>fun _ _ _ _ _ _ _ _ _ _ _ _ _ _ _ _ _ _ _ _ _ _ _ _ _ _ _ _ _ _ _ _ _=>none
 | n+1=>b0 k (l1 k n)
def t (L0:T0) (a0:Ty.d af) (a1:List (Ty.d aZ)):Rs :=
 ((gA.f k a0).bind fun r1=>L0 a1 (a1.length:Int) 0 [] [] [] [] [] [] [] false 0 0 0 0 0 0 false r1.1.2.1.1.2.1 r1.1.2.1.2.1 r1.1.2.2.1.1 r1.1.2.2.2.1 [] [] [] r1.1.1 r1.1.2.1.1.1 r1.1.2.1.2.2.1 r1.1.2.1.2.2.2.1 r1.1.2.1.2.2.2.2.1 r1.1.2.2.1.2.1 r1.1.2.2.1.2.2.1 r1.1.2.2.1.2.2.2.1)
def f:=t k (l0 k k)
end jf
namespace m3
abbrev Rs:Type:=Option ((Ty.d d6) × Unit)
def t (a0:Ty.d kQ):Rs :=
 ((ab.f k a0.1 0 100000).bind fun r1=>cond (!r1.1) (some (((false,(((0,([],())),([],(0,(0,(0,()))))),(([],(0,(0,(false,())))),([],())))),([],([],([],())))),())) ((ab.f k a0.2.1 (-1) 100000).bind fun r2=>cond (!r2.1) (some (((false,(((0,([],())),([],(0,(0,(0,()))))),(([],(0,(0,(false,())))),([],())))),([],([],([],())))),())) ((k0.f k a0.1).bind fun r3=>(jS.f k r3.1 a0.2.1).bind fun r4=>(fz.f k r4.1).bind fun r5=>cond (r5.2.1 != 0) (some ((r5.1,([],([],([],())))),())) ((jf.f k r5.1 a0.2.2.1).bind fun r6=>some r6))))
def f:=t k
end m3
namespace jy
abbrev Rs:Type:=Option ((Ty.d aA) × Unit)
def t (a0:Int):Rs :=
 ((aS.f k a0 0 100000).bind fun r1=>cond (!r1.1) (some (([],(0,(0,(false,())))),())) (some (([],(a0,((-1),(false,())))),())))
def f:=t k
end jy
namespace cC
abbrev Rs:Type:=Option ((Ty.d aA) × Unit)
def t (k:Nat) (a0:Ty.d aA):Rs :=
 (rm (Ty.bytes aE) (0+List.length a0.1) (some ((([]++a0.1),a0.2),())))
def f:=t k
end cC
namespace eh
abbrev Rs:Type:=Option (Int × Unit)
abbrev T0:Type:=Int→Int→List (Ty.d aE)→Int→Int→Bool→Rs
def b0 (k:Nat) (L0:T0):T0:=fun x0 x1 x2 x3 x4 x5 =>
 (cond (decide (x1<(x2.length:Int))) (b9 x1 (x2.length:Int) (L0 (aH (x0+(ByteArray.size (x2.getD x1.toNat (Ty.z aE)).2.1:Int))) (aH (x1+1)) x2 x3 x4 x5)) (some (x0,())))
def l0:Nat→T0
 | 0=>fun _ _ _ _ _ _=>none
 | n+1=>b0 k (l0 n)
def t (k:Nat) (L0:T0) (a0:Ty.d aA):Rs :=
 (L0 0 0 a0.1 a0.2.1 a0.2.2.1 a0.2.2.2.1)
def f:=t k (l0 k k)
end eh
namespace eg
abbrev Rs:Type:=Option (Bool × Unit)
abbrev T0:Type:=ByteArray→Int→Rs
def b0 (L0:T0):T0:=fun x0 x1 =>
 (cond (decide (x1<(x0.size:Int))) (b9 x1 (x0.size:Int) (cond (decide ((fG x0 x1)≥97)) (b9 x1 (x0.size:Int) (cond (decide ((fG x0 x1)≤122)) (L0 x0 (aH (x1+1))) (b9 x1 (x0.size:Int) (cond (decide ((fG x0 x1)≥48)) (b9 x1 (x0.size:Int) (cond (!(decide ((fG x0 x1)≤57))) (some (false,())) (L0 x0 (aH (x1+1))))) (some (false,())))))) (b9 x1 (x0.size:Int) (cond (decide ((fG x0 x1)≥48)) (b9 x1 (x0.size:Int) (cond (!(decide ((fG x0 x1)≤57))) (some (false,())) (L0 x0 (aH (x1+1))))) (some (false,())))))) ((aS.f k (x0.size:Int) 1 12).bind fun r1=>some r1))
def l0:Nat→T0
 | 0=>fun _ _=>none
 | n+1=>b0 k (l0 n)
def t (k:Nat) (L0:T0) (a0:ByteArray):Rs :=
 (L0 a0 0)
def f:=t k (l0 k k)
end eg
namespace bQ
abbrev Rs:Type:=Option (Bool × Unit)
abbrev T0:Type:=Int→List (Ty.d aE)→Int→Int→Bool→Rs
def b0 (L0:T0):T0:=fun x0 x1 x2 x3 x4 =>
 (cond (decide (x0<(x1.length:Int))) (b9 x0 (x1.length:Int) ((eg.f k (x1.getD x0.toNat (Ty.z aE)).1).bind fun r4=>cond (!r4.1) (some (false,())) (b9 x0 (x1.length:Int) (b9 x0 (x1.length:Int) ((aS.f k (x1.getD x0.toNat (Ty.z aE)).2.2.1 0 (ByteArray.size (x1.getD x0.toNat (Ty.z aE)).2.1:Int)).bind fun r5=>cond (!r5.1) (some (false,())) (cond (decide (x0 > 0)) (b9 x0 (x1.length:Int) (b9 (aH (x0-1)) (x1.length:Int) (cond ((ox (x1.getD x0.toNat (Ty.z aE)).1 (x1.getD (aH (x0-1)).toNat (Ty.z aE)).1)||(seq (x1.getD x0.toNat (Ty.z aE)).1 (x1.getD (aH (x0-1)).toNat (Ty.z aE)).1)) (some (false,())) (L0 (aH (x0+1)) x1 x2 x3 x4)))) (L0 (aH (x0+1)) x1 x2 x3 x4))))))) (some (true,())))
def l0:Nat→T0
 | 0=>fun _ _ _ _ _=>none
 | n+1=>b0 k (l0 n)
def t (L0:T0) (a0:Ty.d aA):Rs :=
 (cond (decide ((a0.1.length:Int) > 130)) (some (false,())) ((aS.f k a0.2.1 0 100000).bind fun r1=>cond (!r1.1) (some (false,())) ((aS.f k a0.2.2.1 (-1) 100000).bind fun r2=>cond (!r2.1) (some (false,())) ((eh.f k a0).bind fun r3=>cond (decide (r3.1 > a0.2.1)) (some (false,())) (L0 0 a0.1 a0.2.1 a0.2.2.1 a0.2.2.2.1)))))
def f:=t k (l0 k k)
end bQ
namespace jN
abbrev Rs:Type:=Option ((Ty.d aA) × Unit)
def t (a0:Ty.d aA) (a1:Int):Rs :=
 ((cC.f k a0).bind fun r1=>(bQ.f k a0).bind fun r2=>cond r2.1 ((aS.f k a1 (-1) 100000).bind fun r3=>cond r3.1 (some ((r1.1.1,(r1.1.2.1,(a1,(false,())))),())) (some r1)) (some r1))
def f:=t k
end jN
namespace bY
abbrev Rs:Type:=Option (Int × Unit)
abbrev T0:Type:=ByteArray→Int→List (Ty.d aE)→Int→Int→Bool→Rs
def b0 (k:Nat) (L0:T0):T0:=fun x0 x1 x2 x3 x4 x5 =>
 (cond (decide (x1<(x2.length:Int))) (b9 x1 (x2.length:Int) (cond (seq (x2.getD x1.toNat (Ty.z aE)).1 x0) (some (x1,())) (L0 x0 (aH (x1+1)) x2 x3 x4 x5))) (some ((-1),())))
def l0:Nat→T0
 | 0=>fun _ _ _ _ _ _=>none
 | n+1=>b0 k (l0 n)
def t (k:Nat) (L0:T0) (a0:Ty.d aA) (a1:ByteArray):Rs :=
 (L0 a1 0 a0.1 a0.2.1 a0.2.2.1 a0.2.2.2.1)
def f:=t k (l0 k k)
end bY
namespace cD
abbrev Rs:Type:=Option (ByteArray × Bool × Unit)
def t (a0:Ty.d aA) (a1:ByteArray):Rs :=
 ((bQ.f k a0).bind fun r1=>cond (!r1.1) (some ((⟨#[]⟩:ByteArray),(false,()))) ((bY.f k a0 a1).bind fun r2=>cond (decide (r2.1<0)) (some ((⟨#[]⟩:ByteArray),(false,()))) (b9 r2.1 (a0.1.length:Int) (some ((a0.1.getD r2.1.toNat (Ty.z aE)).2.1,(true,()))))))
def f:=t k
end cD
namespace ek
abbrev Rs:Type:=Option (ByteArray × Unit)
abbrev T0:Type:=Int→ByteArray→Bool→Rs
def b0 (k:Nat) (L0:T0):T0:=fun x0 x1 x2 =>
 (cond (x0 != 0) (cond (decide ((Int.tmod x0 10)<0)) (mK (bytesOf [(IntKind.wrap .u8 (aH (48+(aH (0-(Int.tmod x0 10))))))]) x1 (L0 (aH (Int.tdiv x0 10)) ((bytesOf [(IntKind.wrap .u8 (aH (48+(aH (0-(Int.tmod x0 10))))))])++x1) x2)) (mK (bytesOf [(IntKind.wrap .u8 (aH (48+(Int.tmod x0 10))))]) x1 (L0 (aH (Int.tdiv x0 10)) ((bytesOf [(IntKind.wrap .u8 (aH (48+(Int.tmod x0 10))))])++x1) x2))) (cond x2 (mK (⟨#[45]⟩:ByteArray) x1 (some (((⟨#[45]⟩:ByteArray)++x1),()))) (some (x1,()))))
def l0:Nat→T0
 | 0=>fun _ _ _=>none
 | n+1=>b0 k (l0 n)
def t (k:Nat) (L0:T0) (a0:Int):Rs :=
 (cond (a0==0) (some ((⟨#[48]⟩:ByteArray),())) (L0 a0 (⟨#[]⟩:ByteArray) (decide (a0<0))))
def f:=t k (l0 k k)
end ek
namespace fZ
abbrev Rs:Type:=Option (Int × Bool × Unit)
abbrev T0:Type:=ByteArray→Int→Int→Int→Rs
def b0 (L0:T0):T0:=fun x0 x1 x2 x3 =>
 (cond (decide (x3<(x0.size:Int))) (cond (decide (x3<11)) (b9 x3 (x0.size:Int) (cond (decide ((fG x0 x3)≥48)) (b9 x3 (x0.size:Int) (cond (decide ((fG x0 x3)≤57)) (b9 x3 (x0.size:Int) (L0 x0 (aH ((aH (x1*10))+(aH (IntKind.wrap .u8 ((fG x0 x3)-48))))) (aH (x2+1)) (aH (x3+1)))) (L0 x0 x1 x2 (aH (x3+1))))) (L0 x0 x1 x2 (aH (x3+1))))) (cond (decide ((x0.size:Int) > 0)) (b9 0 (x0.size:Int) (cond ((fG x0 0)==45) (cond (decide (x2 > 9)) (some (0,(false,()))) (cond (decide ((x0.size:Int) > 10)) (some (0,(false,()))) ((ek.f k (aH (0-x1))).bind fun r1=>cond (!(seq r1.1 x0)) (some (0,(false,()))) (some ((aH (0-x1)),(true,())))))) (cond (decide (x2 > 9)) (some (0,(false,()))) (cond (decide ((x0.size:Int) > 10)) (some (0,(false,()))) ((ek.f k x1).bind fun r2=>cond (!(seq r2.1 x0)) (some (0,(false,()))) (some (x1,(true,())))))))) (cond (decide (x2 > 9)) (some (0,(false,()))) (cond (decide ((x0.size:Int) > 10)) (some (0,(false,()))) ((ek.f k x1).bind fun r3=>cond (!(seq r3.1 x0)) (some (0,(false,()))) (some (x1,(true,())))))))) (cond (decide ((x0.size:Int) > 0)) (b9 0 (x0.size:Int) (cond ((fG x0 0)==45) (cond (decide (x2 > 9)) (some (0,(false,()))) (cond (decide ((x0.size:Int) > 10)) (some (0,(false,()))) ((ek.f k (aH (0-x1))).bind fun r4=>cond (!(seq r4.1 x0)) (some (0,(false,()))) (some ((aH (0-x1)),(true,())))))) (cond (decide (x2 > 9)) (some (0,(false,()))) (cond (decide ((x0.size:Int) > 10)) (some (0,(false,()))) ((ek.f k x1).bind fun r5=>cond (!(seq r5.1 x0)) (some (0,(false,()))) (some (x1,(true,())))))))) (cond (decide (x2 > 9)) (some (0,(false,()))) (cond (decide ((x0.size:Int) > 10)) (some (0,(false,()))) ((ek.f k x1).bind fun r6=>cond (!(seq r6.1 x0)) (some (0,(false,()))) (some (x1,(true,()))))))))
def l0:Nat→T0
 | 0=>fun _ _ _ _=>none
 | n+1=>b0 k (l0 n)
def t (k:Nat) (L0:T0) (a0:ByteArray):Rs :=
 (L0 a0 0 0 0)
def f:=t k (l0 k k)
end fZ
namespace aa
abbrev Rs:Type:=Option (ByteArray × Unit)
def t (a0:Int):Rs :=
 ((aS.f k a0 1 100000).bind fun r1=>cond (!r1.1) (some ((⟨#[]⟩:ByteArray),())) ((ek.f k a0).bind fun r2=>mK (⟨#[115,101,103]⟩:ByteArray) r2.1 (some (((⟨#[115,101,103]⟩:ByteArray)++r2.1),()))))
def f:=t k
end aa
namespace dO
abbrev Rs:Type:=Option (ByteArray × Unit)
def t (a0:Int):Rs :=
 ((aS.f k a0 1 100000).bind fun r1=>cond (!r1.1) (some ((⟨#[]⟩:ByteArray),())) ((ek.f k a0).bind fun r2=>mK (⟨#[104,105,110,116]⟩:ByteArray) r2.1 (some (((⟨#[104,105,110,116]⟩:ByteArray)++r2.1),()))))
def f:=t k
end dO
namespace iz
abbrev Rs:Type:=Option (Int × Bool × Unit)
abbrev T0:Type:=ByteArray→Int→Rs
def b0 (L0:T0):T0:=fun x0 x1 =>
 (cond (decide (x1≤4)) (cond (decide ((x0.size:Int) > x1)) (oh x1 (x0.size:Int) ((fZ.f k (x0.extract x1.toNat (x0.size))).bind fun r1=>cond r1.2.1 (cond (decide (r1.1≥1)) ((aa.f k r1.1).bind fun r2=>cond (seq r2.1 x0) (some (r1.1,(true,()))) ((dO.f k r1.1).bind fun r3=>cond (seq r3.1 x0) (some (r1.1,(true,()))) (L0 x0 (aH (x1+1))))) (L0 x0 (aH (x1+1)))) (L0 x0 (aH (x1+1))))) (L0 x0 (aH (x1+1)))) (some (0,(false,()))))
def l0:Nat→T0
 | 0=>fun _ _=>none
 | n+1=>b0 k (l0 n)
def t (k:Nat) (L0:T0) (a0:ByteArray):Rs :=
 (L0 a0 3)
def f:=t k (l0 k k)
end iz
namespace bX
abbrev Rs:Type:=Option ((List ByteArray) × Unit)
abbrev T1:Type:=Int→Int→Bool→Bool→Int→List (Ty.d aE)→Int→Int→Bool→Int→List Int→List ByteArray→Rs
abbrev T0:Type:=Int→List (Ty.d aE)→Int→Int→Bool→Int→List Int→List ByteArray→Rs
def b1 (k:Nat) (L0:T0) (L1:T1):T1:=fun x0 x1 x2 x3 x4 x5 x6 x7 x8 x9 x10 x11 =>
 (cond (decide (x4<(x10.length:Int))) (cond x3 (L1 x0 x1 x2 true (aH (x4+1)) x5 x6 x7 x8 x9 x10 x11) (b9 x4 (x10.length:Int) (L1 x0 x1 x2 ((x10.getD x4.toNat (Ty.z (.int .i64)))==x1) (aH (x4+1)) x5 x6 x7 x8 x9 x10 x11))) (cond x2 (cond (!x3) (b9 x0 (x5.length:Int) (rm (Ty.bytes .str) (x11.length+1) (L0 (aH (x0+1)) x5 x6 x7 x8 x9 x10 (x11++[(x5.getD x0.toNat (Ty.z aE)).1])))) (b9 x0 (x5.length:Int) (cond (seq (x5.getD x0.toNat (Ty.z aE)).1 (⟨#[116,101,109,112]⟩:ByteArray)) (b9 x0 (x5.length:Int) (rm (Ty.bytes .str) (x11.length+1) (L0 (aH (x0+1)) x5 x6 x7 x8 x9 x10 (x11++[(x5.getD x0.toNat (Ty.z aE)).1])))) (L0 (aH (x0+1)) x5 x6 x7 x8 x9 x10 x11)))) (b9 x0 (x5.length:Int) (cond (seq (x5.getD x0.toNat (Ty.z aE)).1 (⟨#[116,101,109,112]⟩:ByteArray)) (b9 x0 (x5.length:Int) (rm (Ty.bytes .str) (x11.length+1) (L0 (aH (x0+1)) x5 x6 x7 x8 x9 x10 (x11++[(x5.getD x0.toNat (Ty.z aE)).1])))) (L0 (aH (x0+1)) x5 x6 x7 x8 x9 x10 x11)))))
def l1 (L0:T0):Nat→T1
 | 0=>fun _ _ _ _ _ _ _ _ _ _ _ _=>none
 | n+1=>b1 k L0 (l1 L0 n)
def b0 (L1:T1) (L0:T0):T0:=fun x0 x1 x2 x3 x4 x5 x6 x7 =>
 (cond (decide (x0<(x1.length:Int))) (b9 x0 (x1.length:Int) ((iz.f k (x1.getD x0.toNat (Ty.z aE)).1).bind fun r2=>L1 x0 r2.1 r2.2.1 false 0 x1 x2 x3 x4 x5 x6 x7)) (some (x7,())))
def l0:Nat→T0
 | 0=>fun _ _ _ _ _ _ _ _=>none
 | n+1=>b0 k (l1 k (l0 n) k) (l0 n)
def t (L0:T0) (a0:Ty.d aA) (a1:Ty.d bL):Rs :=
 ((bQ.f k a0).bind fun r1=>cond (!r1.1) (some ([],())) (L0 0 a0.1 a0.2.1 a0.2.2.1 a0.2.2.2.1 a1.1 a1.2.1 []))
def f:=t k (l0 k k)
end bX
namespace dZ
abbrev Rs:Type:=Option ((Ty.d aA) × Int × Unit)
def t (a0:Ty.d aA):Rs :=
 ((cC.f k a0).bind fun r1=>(bQ.f k a0).bind fun r2=>cond (!r2.1) (some (r1.1,(5,()))) (cond a0.2.2.2.1 (some ((r1.1.1,(r1.1.2.1,(r1.1.2.2.1,(true,())))),(1,()))) (cond (a0.2.2.1==0) (some ((r1.1.1,(r1.1.2.1,(r1.1.2.2.1,(true,())))),(1,()))) (cond (decide (a0.2.2.1 > 0)) (some ((r1.1.1,(r1.1.2.1,((aH (a0.2.2.1-1)),r1.1.2.2.2))),(0,()))) (some (r1.1,(0,())))))))
def f:=t k
end dZ
namespace fo
abbrev Rs:Type:=Option ((List (Ty.d aE)) × Unit)
def t (k:Nat) (a0:List (Ty.d aE)) (a1:Int):Rs :=
 (oh a1 (a0.length:Int) (rm (Ty.bytes aE) (0+List.length (a0.take a1.toNat)) (oh (aH (a1+1)) (a0.length:Int) (rm (Ty.bytes aE) (List.length ([]++(a0.take a1.toNat))+List.length (a0.drop (aH (a1+1)).toNat)) (some ((([]++(a0.take a1.toNat))++(a0.drop (aH (a1+1)).toNat)),()))))))
def f:=t k
end fo
namespace fp
abbrev Rs:Type:=Option ((Ty.d aA) × Int × Unit)
def t (a0:Ty.d aA) (a1:ByteArray):Rs :=
 ((dZ.f k a0).bind fun r1=>cond (r1.2.1 != 0) (some r1) ((bY.f k a0 a1).bind fun r2=>cond (decide (r2.1<0)) (some (r1.1,(3,()))) ((fo.f k r1.1.1 r2.1).bind fun r3=>some ((r3.1,r1.1.2),(0,())))))
def f:=t k
end fp
namespace aY
abbrev Rs:Type:=Option (Int × Unit)
def t (k:Nat) (a0:Int):Rs :=
 (cond (a0==0) (some (0,())) (cond (a0==1) (some (1,())) (cond (a0==2) (some (2,())) (some (3,())))))
def f:=t k
end aY
namespace fP
abbrev Rs:Type:=Option ((Ty.d aA) × Int × Unit)
abbrev T1:Type:=Int→List (Ty.d aE)→Int→Int→Bool→List (Ty.d aE)→Int→Int→Bool→List ByteArray→Rs
abbrev T0:Type:=Int→List (Ty.d aE)→Int→Int→Bool→List (Ty.d aE)→Int→Int→Bool→List ByteArray→Rs
def b1 (L1:T1):T1:=fun x0 x1 x2 x3 x4 x5 x6 x7 x8 x9 =>
 (cond (decide (x0<(x9.length:Int))) (b9 x0 (x9.length:Int) ((fp.f k (x1,(x2,(x3,(x4,())))) (x9.getD x0.toNat (Ty.z .str))).bind fun r4=>cond (r4.2.1 != 0) ((aY.f k r4.2.1).bind fun r5=>some (r4.1,r5)) (L1 (aH (x0+1)) r4.1.1 r4.1.2.1 r4.1.2.2.1 r4.1.2.2.2.1 x5 x6 x7 x8 x9))) (some ((x1,(x2,(x3,(x4,())))),(0,()))))
def l1:Nat→T1
 | 0=>fun _ _ _ _ _ _ _ _ _ _=>none
 | n+1=>b1 k (l1 n)
def b0 (L1:T1):T0:=fun x0 x1 x2 x3 x4 x5 x6 x7 x8 x9 =>
 (cond (decide (x0<(x9.length:Int))) (b9 x0 (x9.length:Int) ((fp.f k (x1,(x2,(x3,(x4,())))) (x9.getD x0.toNat (Ty.z .str))).bind fun r2=>cond (r2.2.1 != 0) ((aY.f k r2.2.1).bind fun r3=>some (r2.1,r3)) (L1 (aH (x0+1)) r2.1.1 r2.1.2.1 r2.1.2.2.1 r2.1.2.2.2.1 x5 x6 x7 x8 x9))) (some ((x1,(x2,(x3,(x4,())))),(0,()))))
def l0:Nat→T0
 | 0=>fun _ _ _ _ _ _ _ _ _ _=>none
 | n+1=>b0 k (l1 k n)
def t (L0:T0) (a0:Ty.d aA) (a1:Ty.d bL):Rs :=
 ((bX.f k a0 a1).bind fun r1=>L0 0 a0.1 a0.2.1 a0.2.2.1 a0.2.2.2.1 [] 0 0 false r1.1)
def f:=t k (l0 k k)
end fP
namespace dm
abbrev Rs:Type:=Option ((List (Ty.d aE)) × Unit)
abbrev T0:Type:=List (Ty.d aE)→Bool→Int→ByteArray→ByteArray→Int→List (Ty.d aE)→Rs
def b0 (k:Nat) (L0:T0):T0:=fun x0 x1 x2 x3 x4 x5 x6 =>
 (cond (decide (x2<(x0.length:Int))) (cond (!x1) (b9 x2 (x0.length:Int) (cond (!((ox (x0.getD x2.toNat (Ty.z aE)).1 x3)||(seq (x0.getD x2.toNat (Ty.z aE)).1 x3))) (rm (Ty.bytes aE) (x6.length+1) (b9 x2 (x0.length:Int) (rm (Ty.bytes aE) (List.length (x6++[(x3,(x4,(x5,())))])+1) (L0 x0 true (aH (x2+1)) x3 x4 x5 ((x6++[(x3,(x4,(x5,())))])++[(x0.getD x2.toNat (Ty.z aE))]))))) (b9 x2 (x0.length:Int) (rm (Ty.bytes aE) (x6.length+1) (L0 x0 x1 (aH (x2+1)) x3 x4 x5 (x6++[(x0.getD x2.toNat (Ty.z aE))])))))) (b9 x2 (x0.length:Int) (rm (Ty.bytes aE) (x6.length+1) (L0 x0 x1 (aH (x2+1)) x3 x4 x5 (x6++[(x0.getD x2.toNat (Ty.z aE))]))))) (cond (!x1) (rm (Ty.bytes aE) (x6.length+1) (some ((x6++[(x3,(x4,(x5,())))]),()))) (some (x6,()))))
def l0:Nat→T0
 | 0=>fun _ _ _ _ _ _ _=>none
 | n+1=>b0 k (l0 n)
def t (k:Nat) (L0:T0) (a0:List (Ty.d aE)) (a1:Ty.d aE):Rs :=
 (L0 a0 false 0 a1.1 a1.2.1 a1.2.2.1 [])
def f:=t k (l0 k k)
end dm
namespace iv
abbrev Rs:Type:=Option ((Ty.d aA) × Int × Unit)
def t (a0:Ty.d aA) (a1:ByteArray):Rs :=
 ((dZ.f k a0).bind fun r1=>cond (r1.2.1 != 0) (some r1) ((eg.f k a1).bind fun r2=>cond (!r2.1) (some (r1.1,(5,()))) ((bY.f k a0 a1).bind fun r3=>cond (decide (r3.1≥0)) (some (r1.1,(4,()))) (cond (decide ((a0.1.length:Int)≥130)) (some (r1.1,(2,()))) ((dm.f k r1.1.1 (a1,(ByteArray.empty,(0,())))).bind fun r4=>some ((r4.1,r1.1.2),(0,())))))))
def f:=t k
end iv
namespace dy
abbrev Rs:Type:=Option (Bool × Unit)
abbrev T0:Type:=Int→Int→List Int→Rs
def b0 (L0:T0):T0:=fun x0 x1 x2 =>
 (cond (decide (x0<(x2.length:Int))) (b9 x0 (x2.length:Int) ((aS.f k (x2.getD x0.toNat (Ty.z (.int .i64))) 1 (aH (x1-1))).bind fun r3=>cond (!r3.1) (some (false,())) (cond (decide (x0 > 0)) (b9 x0 (x2.length:Int) (b9 (aH (x0-1)) (x2.length:Int) (cond (decide ((x2.getD x0.toNat (Ty.z (.int .i64)))≤(x2.getD (aH (x0-1)).toNat (Ty.z (.int .i64))))) (some (false,())) (L0 (aH (x0+1)) x1 x2)))) (L0 (aH (x0+1)) x1 x2)))) (some (true,())))
def l0:Nat→T0
 | 0=>fun _ _ _=>none
 | n+1=>b0 k (l0 n)
def t (L0:T0) (a0:Ty.d bL):Rs :=
 ((aS.f k a0.1 1 100000).bind fun r1=>cond (!r1.1) (some (false,())) ((aS.f k (a0.2.1.length:Int) 1 60).bind fun r2=>cond (!r2.1) (some (false,())) (L0 0 a0.1 a0.2.1)))
def f:=t k (l0 k k)
end dy
namespace bw
abbrev Rs:Type:=Option (ByteArray × Unit)
abbrev T0:Type:=Int→List Int→Rs
def b0 (k:Nat) (L0:T0):T0:=fun x0 x1 =>
 (cond (decide (x0≥128)) (rm (Ty.bytes (.int .u8)) (x1.length+1) (L0 (aH (Int.tdiv x0 128)) (x1++[(IntKind.wrap .u8 (aH (128+(Int.tmod x0 128))))]))) (rm (Ty.bytes (.int .u8)) (x1.length+1) (some ((bytesOf (x1++[(IntKind.wrap .u8 x0)])),()))))
def l0:Nat→T0
 | 0=>fun _ _=>none
 | n+1=>b0 k (l0 n)
def t (L0:T0) (a0:Int):Rs :=
 ((aS.f k a0 0 562949953421311).bind fun r1=>cond (!r1.1) (some ((⟨#[]⟩:ByteArray),())) (L0 a0 []))
def f:=t k (l0 k k)
end bw
namespace gz
abbrev Rs:Type:=Option (Int × Unit)
abbrev T1:Type:=ByteArray→Int→Int→Int→Rs
abbrev T0:Type:=ByteArray→Int→Int→Rs
def b1 (k:Nat) (L0:T0) (L1:T1):T1:=fun x0 x1 x2 x3 =>
 (cond (decide (x3<8)) (cond ((Int.tmod x1 2)==1) (L1 x0 (aH (((BitVec.ofInt (IntKind.bits .i64) (aH (Int.tdiv x1 2)) ^^^ BitVec.ofInt (IntKind.bits .i64) 2197175160).toNat:Int))) x2 (aH (x3+1))) (L1 x0 (aH (Int.tdiv x1 2)) x2 (aH (x3+1)))) (L0 x0 x1 (aH (x2+1))))
def l1 (L0:T0):Nat→T1
 | 0=>fun _ _ _ _=>none
 | n+1=>b1 k L0 (l1 L0 n)
def b0 (k:Nat) (L1:T1) (L0:T0):T0:=fun x0 x1 x2 =>
 (cond (decide (x2<(x0.size:Int))) (b9 x2 (x0.size:Int) (L1 x0 (aH (((BitVec.ofInt (IntKind.bits .i64) x1 ^^^ BitVec.ofInt (IntKind.bits .i64) (aH (fG x0 x2))).toNat:Int))) x2 0)) (some ((aH (4294967295-x1)),())))
def l0:Nat→T0
 | 0=>fun _ _ _=>none
 | n+1=>b0 k (l1 k (l0 n) k) (l0 n)
def t (k:Nat) (L0:T0) (a0:ByteArray):Rs :=
 (L0 a0 4294967295 0)
def f:=t k (l0 k k)
end gz
namespace eH
abbrev Rs:Type:=Option (ByteArray × Unit)
abbrev T0:Type:=Int→Int→ByteArray→Int→Rs
def b0 (k:Nat) (L0:T0):T0:=fun x0 x1 x2 x3 =>
 (cond (decide (x3<x1)) (mK (bytesOf [(IntKind.wrap .u8 (Int.tmod x0 256))]) x2 (L0 (aH (Int.tdiv x0 256)) x1 ((bytesOf [(IntKind.wrap .u8 (Int.tmod x0 256))])++x2) (aH (x3+1)))) (cond (decide (x0 > 0)) (some ((⟨#[]⟩:ByteArray),())) (some (x2,()))))
def l0:Nat→T0
 | 0=>fun _ _ _ _=>none
 | n+1=>b0 k (l0 n)
def t (L0:T0) (a0:Int) (a1:Int):Rs :=
 ((aS.f k a1 1 7).bind fun r1=>cond (!r1.1) (some ((⟨#[]⟩:ByteArray),())) (cond (decide (a0<0)) (some ((⟨#[]⟩:ByteArray),())) (L0 a0 a1 (⟨#[]⟩:ByteArray) 0)))
def f:=t k (l0 k k)
end eH
namespace gR
abbrev Rs:Type:=Option (ByteArray × Unit)
def t (a0:ByteArray):Rs :=
 (cond (decide ((a0.size:Int) > 200)) (some ((⟨#[]⟩:ByteArray),())) ((bw.f k (a0.size:Int)).bind fun r1=>mK r1.1 a0 ((gz.f k (r1.1++a0)).bind fun r2=>(eH.f k r2.1 4).bind fun r3=>mK r3.1 (r1.1++a0) (some ((r3.1++(r1.1++a0)),())))))
def f:=t k
end gR
namespace dk
abbrev Rs:Type:=Option (ByteArray × Unit)
abbrev T0:Type:=ByteArray→Int→Int→List Int→Rs
def b0 (L0:T0):T0:=fun x0 x1 x2 x3 =>
 (cond (decide (x1<(x3.length:Int))) (b9 x1 (x3.length:Int) ((bw.f k (x3.getD x1.toNat (Ty.z (.int .i64)))).bind fun r4=>mK x0 r4.1 (L0 (x0++r4.1) (aH (x1+1)) x2 x3))) ((gR.f k x0).bind fun r5=>some r5))
def l0:Nat→T0
 | 0=>fun _ _ _ _=>none
 | n+1=>b0 k (l0 n)
def t (L0:T0) (a0:Ty.d bL):Rs :=
 ((dy.f k a0).bind fun r1=>cond (!r1.1) (some ((⟨#[]⟩:ByteArray),())) ((bw.f k a0.1).bind fun r2=>(bw.f k (a0.2.1.length:Int)).bind fun r3=>mK r2.1 r3.1 (L0 (r2.1++r3.1) 0 a0.1 a0.2.1)))
def f:=t k (l0 k k)
end dk
namespace eX
abbrev Rs:Type:=Option ((Ty.d aA) × Int × Unit)
def t (a0:Ty.d aA) (a1:ByteArray):Rs :=
 ((bY.f k a0 a1).bind fun r1=>cond (decide (r1.1≥0)) ((fp.f k a0 a1).bind fun r2=>cond (r2.2.1 != 0) (some r2) ((iv.f k r2.1 a1).bind fun r3=>some r3)) ((iv.f k a0 a1).bind fun r4=>some r4))
def f:=t k
end eX
namespace eo
abbrev Rs:Type:=Option ((Ty.d aA) × Int × Unit)
def t (a0:Ty.d aA) (a1:ByteArray) (a2:ByteArray):Rs :=
 ((dZ.f k a0).bind fun r1=>cond (r1.2.1 != 0) (some r1) ((bY.f k a0 a1).bind fun r2=>cond (decide (r2.1<0)) (some (r1.1,(3,()))) ((eh.f k a0).bind fun r3=>cond (decide ((a2.size:Int) > (aH (a0.2.1-r3.1)))) (some (r1.1,(2,()))) (b9 r2.1 (a0.1.length:Int) (mK (a0.1.getD r2.1.toNat (Ty.z aE)).2.1 a2 (b9 r2.1 (r1.1.1.length:Int) (let l4:=(r1.1.1.set r2.1.toNat ((r1.1.1.getD r2.1.toNat (Ty.z aE)).1,(((a0.1.getD r2.1.toNat (Ty.z aE)).2.1++a2),(r1.1.1.getD r2.1.toNat (Ty.z aE)).2.2)));(some ((l4,r1.1.2),(0,()))))))))))
def f:=t k
end eo
namespace fN
abbrev Rs:Type:=Option ((Ty.d aA) × Int × Unit)
def t (a0:Ty.d aA) (a1:ByteArray):Rs :=
 ((dZ.f k a0).bind fun r1=>cond (r1.2.1 != 0) (some r1) ((bY.f k a0 a1).bind fun r2=>cond (decide (r2.1<0)) (some (r1.1,(3,()))) (b9 r2.1 (a0.1.length:Int) (b9 r2.1 (r1.1.1.length:Int) (let l3:=(r1.1.1.set r2.1.toNat ((r1.1.1.getD r2.1.toNat (Ty.z aE)).1,((r1.1.1.getD r2.1.toNat (Ty.z aE)).2.1,((ByteArray.size (a0.1.getD r2.1.toNat (Ty.z aE)).2.1:Int),(r1.1.1.getD r2.1.toNat (Ty.z aE)).2.2.2))));(some ((l3,r1.1.2),(0,()))))))))
def f:=t k
end fN
namespace ik
abbrev Rs:Type:=Option ((Ty.d aA) × Int × Unit)
def t (a0:Ty.d aA) (a1:ByteArray) (a2:ByteArray):Rs :=
 ((eX.f k a0 a1).bind fun r1=>cond (r1.2.1==0) ((eo.f k r1.1 a1 a2).bind fun r2=>cond (r2.2.1==0) ((fN.f k r2.1 a1).bind fun r3=>some r3) (some r2)) (cond (r1.2.1==0) ((fN.f k r1.1 a1).bind fun r4=>some r4) (some r1)))
def f:=t k
end ik
namespace kl
abbrev Rs:Type:=Option ((Ty.d aA) × Int × Unit)
def t (a0:Ty.d aA) (a1:ByteArray) (a2:ByteArray):Rs :=
 ((dZ.f k a0).bind fun r1=>cond (r1.2.1 != 0) (some r1) ((eg.f k a2).bind fun r2=>cond (!r2.1) (some (r1.1,(5,()))) ((bY.f k a0 a1).bind fun r3=>cond (decide (r3.1<0)) (some (r1.1,(3,()))) (cond (seq a1 a2) (some (r1.1,(0,()))) (b9 r3.1 (a0.1.length:Int) ((fo.f k r1.1.1 r3.1).bind fun r4=>(bY.f k (r4.1,r1.1.2) a2).bind fun r5=>cond (decide (r5.1≥0)) ((fo.f k r4.1 r5.1).bind fun r6=>(dm.f k r6.1 (a2,(a0.1.getD r3.1.toNat (Ty.z aE)).2)).bind fun r7=>some ((r7.1,r1.1.2),(0,()))) ((dm.f k r4.1 (a2,(a0.1.getD r3.1.toNat (Ty.z aE)).2)).bind fun r8=>some ((r8.1,r1.1.2),(0,())))))))))
def f:=t k
end kl
namespace fa
abbrev Rs:Type:=Option ((Ty.d aA) × Int × Unit)
def t (a0:Ty.d aA) (a1:Ty.d bL):Rs :=
 ((bQ.f k a0).bind fun r1=>cond (!r1.1) ((cC.f k a0).bind fun r2=>some (r2.1,(4,()))) ((dy.f k a1).bind fun r3=>cond (!r3.1) ((cC.f k a0).bind fun r4=>some (r4.1,(4,()))) ((dk.f k a1).bind fun r5=>(ik.f k a0 (⟨#[116,101,109,112]⟩:ByteArray) r5.1).bind fun r6=>cond (r6.2.1==0) ((kl.f k r6.1 (⟨#[116,101,109,112]⟩:ByteArray) (⟨#[108,105,118,101]⟩:ByteArray)).bind fun r7=>(aY.f k r7.2.1).bind fun r8=>some (r7.1,r8)) ((aY.f k r6.2.1).bind fun r9=>some (r6.1,r9)))))
def f:=t k
end fa
namespace jT
abbrev Rs:Type:=Option ((Ty.d aG) × (Ty.d aA) × Int × Unit)
def t (a0:Ty.d aA):Rs :=
 ((fP.f k a0 (0,([],()))).bind fun r1=>cond (r1.2.1 != 0) (some (((0,([],())),([],(0,(0,(0,()))))),r1)) ((aa.f k 1).bind fun r2=>(iv.f k r1.1 r2.1).bind fun r3=>cond (r3.2.1 != 0) ((aY.f k r3.2.1).bind fun r4=>some (((0,([],())),([],(0,(0,(0,()))))),(r3.1,r4))) ((fa.f k r3.1 (2,([1],()))).bind fun r5=>cond (r5.2.1 != 0) (some (((0,([],())),([],(0,(0,(0,()))))),r5)) (some (((2,([1],())),([],(1,(0,(0,()))))),(r5.1,(0,())))))))
def f:=t k
end jT
namespace aw
abbrev Rs:Type:=Option (Int × Int × Unit)
abbrev T1:Type:=ByteArray→Int→Int→Int→Rs
abbrev T0:Type:=ByteArray→Int→Rs
def b1 (L0:T0) (L1:T1):T1:=fun x0 x1 x2 x3 =>
 (cond (decide (x3≥0)) (b9 x3 (x0.size:Int) (L1 x0 x1 (aH ((aH (x2*128))+(Int.tmod (aH (fG x0 x3)) 128))) (aH (x3-1)))) ((bw.f k x2).bind fun r1=>oh x1 (x0.size:Int) (cond (seq r1.1 (x0.extract 0 x1.toNat)) (some (x2,(x1,()))) (L0 x0 (aH (x1+1))))))
def l1 (L0:T0):Nat→T1
 | 0=>fun _ _ _ _=>none
 | n+1=>b1 k L0 (l1 L0 n)
def b0 (k:Nat) (L1:T1) (L0:T0):T0:=fun x0 x1 =>
 (cond (decide (x1≤7)) (cond (decide (x1≤(x0.size:Int))) (L1 x0 x1 0 (aH (x1-1))) (some (0,(0,())))) (some (0,(0,()))))
def l0:Nat→T0
 | 0=>fun _ _=>none
 | n+1=>b0 k (l1 k (l0 n) k) (l0 n)
def t (k:Nat) (L0:T0) (a0:ByteArray):Rs :=
 (L0 a0 1)
def f:=t k (l0 k k)
end aw
namespace eP
abbrev Rs:Type:=Option (ByteArray × Int × Unit)
def t (a0:ByteArray):Rs :=
 (cond (decide ((a0.size:Int)<5)) (some ((⟨#[]⟩:ByteArray),(0,()))) (oh 4 (a0.size:Int) ((aw.f k (a0.extract 4 (a0.size))).bind fun r1=>cond (r1.2.1==0) (some ((⟨#[]⟩:ByteArray),(0,()))) (cond (decide (r1.1 > 200)) (some ((⟨#[]⟩:ByteArray),(0,()))) (cond (decide (r1.1 > (aH ((aH ((a0.size:Int)-4))-r1.2.1)))) (some ((⟨#[]⟩:ByteArray),(0,()))) (GW (aH (4+r1.2.1)) (aH ((aH (4+r1.2.1))+r1.1)) (a0.size:Int) (oh (aH ((aH (4+r1.2.1))+r1.1)) (a0.size:Int) ((gR.f k (a0.extract (aH (4+r1.2.1)).toNat (aH ((aH (4+r1.2.1))+r1.1)).toNat)).bind fun r2=>cond (!(seq (a0.extract 0 (aH ((aH (4+r1.2.1))+r1.1)).toNat) r2.1)) (some ((⟨#[]⟩:ByteArray),(0,()))) (some ((a0.extract (aH (4+r1.2.1)).toNat (aH ((aH (4+r1.2.1))+r1.1)).toNat),((aH ((aH (4+r1.2.1))+r1.1)),())))))))))))
def f:=t k
end eP
namespace bf
abbrev Rs:Type:=Option ((Ty.d bL) × Bool × Unit)
abbrev T0:Type:=ByteArray→ByteArray→Int→Int→Int→List Int→Int→List Int→Int→Rs
def b0 (L0:T0):T0:=fun x0 x1 x2 x3 x4 x5 x6 x7 x8 =>
 (cond (decide (x4<x2)) (cond (decide (x4<60)) (oh x3 (x1.size:Int) ((aw.f k (x1.extract x3.toNat (x1.size))).bind fun r4=>rm (Ty.bytes (.int .i64)) (x7.length+1) (L0 x0 x1 x2 (aH (x3+r4.2.1)) (aH (x4+1)) x5 x6 (x7++[r4.1]) x8))) ((dk.f k (x8,(x7,()))).bind fun r5=>cond (!(seq r5.1 x0)) (some ((0,([],())),(false,()))) (some ((x8,(x7,())),(true,()))))) ((dk.f k (x8,(x7,()))).bind fun r6=>cond (!(seq r6.1 x0)) (some ((0,([],())),(false,()))) (some ((x8,(x7,())),(true,())))))
def l0:Nat→T0
 | 0=>fun _ _ _ _ _ _ _ _ _=>none
 | n+1=>b0 k (l0 n)
def t (L0:T0) (a0:ByteArray):Rs :=
 ((eP.f k a0).bind fun r1=>(aw.f k r1.1).bind fun r2=>cond (r1.2.1 != (a0.size:Int)) (some ((0,([],())),(false,()))) (cond (r1.2.1==0) (some ((0,([],())),(false,()))) (cond (r2.2.1==0) (some ((0,([],())),(false,()))) (oh r2.2.1 (r1.1.size:Int) ((aw.f k (r1.1.extract r2.2.1.toNat (r1.1.size))).bind fun r3=>L0 a0 r1.1 r3.1 (aH (r2.2.1+r3.2.1)) 0 [] 0 [] r2.1)))))
def f:=t k (l0 k k)
end bf
namespace dE
abbrev Rs:Type:=Option (ByteArray × ByteArray × Bool × Unit)
def t (a0:ByteArray):Rs :=
 ((aw.f k a0).bind fun r1=>cond (r1.2.1==0) (some ((⟨#[]⟩:ByteArray),((⟨#[]⟩:ByteArray),(false,())))) (cond (decide (r1.1 > (aH ((a0.size:Int)-r1.2.1)))) (some ((⟨#[]⟩:ByteArray),((⟨#[]⟩:ByteArray),(false,())))) (GW r1.2.1 (aH (r1.2.1+r1.1)) (a0.size:Int) (oh (aH (r1.2.1+r1.1)) (a0.size:Int) (some ((a0.extract r1.2.1.toNat (aH (r1.2.1+r1.1)).toNat),((a0.extract (aH (r1.2.1+r1.1)).toNat (a0.size)),(true,()))))))))
def f:=t k
end dE
namespace dA
abbrev Rs:Type:=Option (Bool × Unit)
def t (a0:ByteArray):Rs :=
 ((aS.f k (a0.size:Int) 1 8).bind fun r1=>some r1)
def f:=t k
end dA
namespace ll
abbrev Rs:Type:=Option (Bool × Unit)
def t (a0:Ty.d bR):Rs :=
 ((aS.f k a0.2.1 0 1000000).bind fun r1=>cond (!r1.1) (some (false,())) (cond (a0.2.1==0) (cond (a0.1 != 5) (some (false,())) (cond (a0.1==1) (cond (a0.1==1) ((dA.f k a0.2.2.1).bind fun r2=>cond r2.1 (cond (decide ((a0.2.2.2.1.size:Int)≤24)) (cond (a0.2.2.2.2.1==0) (some ((a0.2.2.2.2.2.1==0),())) (some (false,()))) (some (false,()))) (some (false,()))) (cond (a0.1==2) ((dA.f k a0.2.2.1).bind fun r3=>cond r3.1 (cond (seq a0.2.2.2.1 (⟨#[]⟩:ByteArray)) (cond (a0.2.2.2.2.1==0) (some ((a0.2.2.2.2.2.1==0),())) (some (false,()))) (some (false,()))) (some (false,()))) (cond (a0.1==3) (cond (seq a0.2.2.1 (⟨#[]⟩:ByteArray)) (cond (seq a0.2.2.2.1 (⟨#[]⟩:ByteArray)) ((aS.f k a0.2.2.2.2.1 0 8).bind fun r4=>cond r4.1 ((aS.f k a0.2.2.2.2.2.1 0 4294967295).bind fun r5=>some r5) (some (false,()))) (some (false,()))) (some (false,()))) (cond (a0.1==5) (cond (seq a0.2.2.1 (⟨#[]⟩:ByteArray)) (cond (seq a0.2.2.2.1 (⟨#[]⟩:ByteArray)) ((aS.f k a0.2.2.2.2.1 0 20).bind fun r6=>cond r6.1 ((aS.f k a0.2.2.2.2.2.1 0 4294967295).bind fun r7=>some r7) (some (false,()))) (some (false,()))) (some (false,()))) (some (false,())))))) (cond (a0.1==4) ((dA.f k a0.2.2.1).bind fun r8=>cond r8.1 (cond (decide ((a0.2.2.2.1.size:Int)≤24)) (cond (a0.2.2.2.2.1==0) (some ((a0.2.2.2.2.2.1==0),())) (some (false,()))) (some (false,()))) (some (false,()))) (cond (a0.1==2) ((dA.f k a0.2.2.1).bind fun r9=>cond r9.1 (cond (seq a0.2.2.2.1 (⟨#[]⟩:ByteArray)) (cond (a0.2.2.2.2.1==0) (some ((a0.2.2.2.2.2.1==0),())) (some (false,()))) (some (false,()))) (some (false,()))) (cond (a0.1==3) (cond (seq a0.2.2.1 (⟨#[]⟩:ByteArray)) (cond (seq a0.2.2.2.1 (⟨#[]⟩:ByteArray)) ((aS.f k a0.2.2.2.2.1 0 8).bind fun r10=>cond r10.1 ((aS.f k a0.2.2.2.2.2.1 0 4294967295).bind fun r11=>some r11) (some (false,()))) (some (false,()))) (some (false,()))) (cond (a0.1==5) (cond (seq a0.2.2.1 (⟨#[]⟩:ByteArray)) (cond (seq a0.2.2.2.1 (⟨#[]⟩:ByteArray)) ((aS.f k a0.2.2.2.2.1 0 20).bind fun r12=>cond r12.1 ((aS.f k a0.2.2.2.2.2.1 0 4294967295).bind fun r13=>some r13) (some (false,()))) (some (false,()))) (some (false,()))) (some (false,())))))))) (cond (a0.1==1) (cond (a0.1==1) ((dA.f k a0.2.2.1).bind fun r14=>cond r14.1 (cond (decide ((a0.2.2.2.1.size:Int)≤24)) (cond (a0.2.2.2.2.1==0) (some ((a0.2.2.2.2.2.1==0),())) (some (false,()))) (some (false,()))) (some (false,()))) (cond (a0.1==2) ((dA.f k a0.2.2.1).bind fun r15=>cond r15.1 (cond (seq a0.2.2.2.1 (⟨#[]⟩:ByteArray)) (cond (a0.2.2.2.2.1==0) (some ((a0.2.2.2.2.2.1==0),())) (some (false,()))) (some (false,()))) (some (false,()))) (cond (a0.1==3) (cond (seq a0.2.2.1 (⟨#[]⟩:ByteArray)) (cond (seq a0.2.2.2.1 (⟨#[]⟩:ByteArray)) ((aS.f k a0.2.2.2.2.1 0 8).bind fun r16=>cond r16.1 ((aS.f k a0.2.2.2.2.2.1 0 4294967295).bind fun r17=>some r17) (some (false,()))) (some (false,()))) (some (false,()))) (cond (a0.1==5) (cond (seq a0.2.2.1 (⟨#[]⟩:ByteArray)) (cond (seq a0.2.2.2.1 (⟨#[]⟩:ByteArray)) ((aS.f k a0.2.2.2.2.1 0 20).bind fun r18=>cond r18.1 ((aS.f k a0.2.2.2.2.2.1 0 4294967295).bind fun r19=>some r19) (some (false,()))) (some (false,()))) (some (false,()))) (some (false,())))))) (cond (a0.1==4) ((dA.f k a0.2.2.1).bind fun r20=>cond r20.1 (cond (decide ((a0.2.2.2.1.size:Int)≤24)) (cond (a0.2.2.2.2.1==0) (some ((a0.2.2.2.2.2.1==0),())) (some (false,()))) (some (false,()))) (some (false,()))) (cond (a0.1==2) ((dA.f k a0.2.2.1).bind fun r21=>cond r21.1 (cond (seq a0.2.2.2.1 (⟨#[]⟩:ByteArray)) (cond (a0.2.2.2.2.1==0) (some ((a0.2.2.2.2.2.1==0),())) (some (false,()))) (some (false,()))) (some (false,()))) (cond (a0.1==3) (cond (seq a0.2.2.1 (⟨#[]⟩:ByteArray)) (cond (seq a0.2.2.2.1 (⟨#[]⟩:ByteArray)) ((aS.f k a0.2.2.2.2.1 0 8).bind fun r22=>cond r22.1 ((aS.f k a0.2.2.2.2.2.1 0 4294967295).bind fun r23=>some r23) (some (false,()))) (some (false,()))) (some (false,()))) (cond (a0.1==5) (cond (seq a0.2.2.1 (⟨#[]⟩:ByteArray)) (cond (seq a0.2.2.2.1 (⟨#[]⟩:ByteArray)) ((aS.f k a0.2.2.2.2.1 0 20).bind fun r24=>cond r24.1 ((aS.f k a0.2.2.2.2.2.1 0 4294967295).bind fun r25=>some r25) (some (false,()))) (some (false,()))) (some (false,()))) (some (false,())))))))))
def f:=t k
end ll
namespace cg
abbrev Rs:Type:=Option (ByteArray × Unit)
def t (a0:Ty.d bR):Rs :=
 ((ll.f k a0).bind fun r1=>cond (!r1.1) (some ((⟨#[]⟩:ByteArray),())) ((bw.f k a0.1).bind fun r2=>(bw.f k a0.2.1).bind fun r3=>mK r2.1 r3.1 (cond (a0.1==1) (cond (a0.1==1) ((bw.f k (a0.2.2.1.size:Int)).bind fun r4=>mK (r2.1++r3.1) r4.1 (mK ((r2.1++r3.1)++r4.1) a0.2.2.1 ((bw.f k (a0.2.2.2.1.size:Int)).bind fun r5=>mK (((r2.1++r3.1)++r4.1)++a0.2.2.1) r5.1 (mK ((((r2.1++r3.1)++r4.1)++a0.2.2.1)++r5.1) a0.2.2.2.1 (some ((((((r2.1++r3.1)++r4.1)++a0.2.2.1)++r5.1)++a0.2.2.2.1),())))))) (cond (a0.1==2) ((bw.f k (a0.2.2.1.size:Int)).bind fun r6=>mK (r2.1++r3.1) r6.1 (mK ((r2.1++r3.1)++r6.1) a0.2.2.1 (some ((((r2.1++r3.1)++r6.1)++a0.2.2.1),())))) ((bw.f k a0.2.2.2.2.1).bind fun r7=>mK (r2.1++r3.1) r7.1 ((eH.f k a0.2.2.2.2.2.1 4).bind fun r8=>mK ((r2.1++r3.1)++r7.1) r8.1 (some ((((r2.1++r3.1)++r7.1)++r8.1),())))))) (cond (a0.1==4) ((bw.f k (a0.2.2.1.size:Int)).bind fun r9=>mK (r2.1++r3.1) r9.1 (mK ((r2.1++r3.1)++r9.1) a0.2.2.1 ((bw.f k (a0.2.2.2.1.size:Int)).bind fun r10=>mK (((r2.1++r3.1)++r9.1)++a0.2.2.1) r10.1 (mK ((((r2.1++r3.1)++r9.1)++a0.2.2.1)++r10.1) a0.2.2.2.1 (some ((((((r2.1++r3.1)++r9.1)++a0.2.2.1)++r10.1)++a0.2.2.2.1),())))))) (cond (a0.1==2) ((bw.f k (a0.2.2.1.size:Int)).bind fun r11=>mK (r2.1++r3.1) r11.1 (mK ((r2.1++r3.1)++r11.1) a0.2.2.1 (some ((((r2.1++r3.1)++r11.1)++a0.2.2.1),())))) ((bw.f k a0.2.2.2.2.1).bind fun r12=>mK (r2.1++r3.1) r12.1 ((eH.f k a0.2.2.2.2.2.1 4).bind fun r13=>mK ((r2.1++r3.1)++r12.1) r13.1 (some ((((r2.1++r3.1)++r12.1)++r13.1),())))))))))
def f:=t k
end cg
namespace br
abbrev Rs:Type:=Option (Int × Bool × Unit)
abbrev T0:Type:=ByteArray→Int→Int→Int→Rs
def b0 (k:Nat) (L0:T0):T0:=fun x0 x1 x2 x3 =>
 (cond (decide (x3<x1)) (b9 x3 (x0.size:Int) (L0 x0 x1 (aH ((aH (x2*256))+(aH (fG x0 x3)))) (aH (x3+1)))) (some (x2,(true,()))))
def l0:Nat→T0
 | 0=>fun _ _ _ _=>none
 | n+1=>b0 k (l0 n)
def t (L0:T0) (a0:ByteArray) (a1:Int):Rs :=
 ((aS.f k a1 1 7).bind fun r1=>cond (!r1.1) (some (0,(false,()))) (cond (decide ((a0.size:Int)<a1)) (some (0,(false,()))) (L0 a0 a1 0 0)))
def f:=t k (l0 k k)
end br
namespace fE
abbrev Rs:Type:=Option ((Ty.d bR) × Bool × Unit)
def t (a0:ByteArray):Rs :=
 ((aw.f k a0).bind fun r1=>oh r1.2.1 (a0.size:Int) ((aw.f k (a0.extract r1.2.1.toNat (a0.size))).bind fun r2=>cond (r1.2.1==0) (some ((0,(0,(ByteArray.empty,(ByteArray.empty,(0,(0,())))))),(false,()))) (cond (r2.2.1==0) (some ((0,(0,(ByteArray.empty,(ByteArray.empty,(0,(0,())))))),(false,()))) (oh (aH (r1.2.1+r2.2.1)) (a0.size:Int) (cond (r1.1==1) (cond (r1.1==1) ((dE.f k (a0.extract (aH (r1.2.1+r2.2.1)).toNat (a0.size))).bind fun r3=>(dE.f k r3.2.1).bind fun r4=>(cg.f k (r1.1,(r2.1,(r3.1,(r4.1,(0,(0,()))))))).bind fun r5=>cond (!(seq r5.1 a0)) (some ((0,(0,(ByteArray.empty,(ByteArray.empty,(0,(0,())))))),(false,()))) (cond (seq a0 (⟨#[]⟩:ByteArray)) (some ((0,(0,(ByteArray.empty,(ByteArray.empty,(0,(0,())))))),(false,()))) (some ((r1.1,(r2.1,(r3.1,(r4.1,(0,(0,())))))),(true,()))))) (cond (r1.1==2) ((dE.f k (a0.extract (aH (r1.2.1+r2.2.1)).toNat (a0.size))).bind fun r6=>(cg.f k (r1.1,(r2.1,(r6.1,(ByteArray.empty,(0,(0,()))))))).bind fun r7=>cond (!(seq r7.1 a0)) (some ((0,(0,(ByteArray.empty,(ByteArray.empty,(0,(0,())))))),(false,()))) (cond (seq a0 (⟨#[]⟩:ByteArray)) (some ((0,(0,(ByteArray.empty,(ByteArray.empty,(0,(0,())))))),(false,()))) (some ((r1.1,(r2.1,(r6.1,(ByteArray.empty,(0,(0,())))))),(true,()))))) ((aw.f k (a0.extract (aH (r1.2.1+r2.2.1)).toNat (a0.size))).bind fun r8=>oh r8.2.1 ((a0.extract (aH (r1.2.1+r2.2.1)).toNat (a0.size)).size:Int) ((br.f k ((a0.extract (aH (r1.2.1+r2.2.1)).toNat (a0.size)).extract r8.2.1.toNat ((a0.extract (aH (r1.2.1+r2.2.1)).toNat (a0.size)).size)) 4).bind fun r9=>(cg.f k (r1.1,(r2.1,(ByteArray.empty,(ByteArray.empty,(r8.1,(r9.1,()))))))).bind fun r10=>cond (!(seq r10.1 a0)) (some ((0,(0,(ByteArray.empty,(ByteArray.empty,(0,(0,())))))),(false,()))) (cond (seq a0 (⟨#[]⟩:ByteArray)) (some ((0,(0,(ByteArray.empty,(ByteArray.empty,(0,(0,())))))),(false,()))) (some ((r1.1,(r2.1,(ByteArray.empty,(ByteArray.empty,(r8.1,(r9.1,())))))),(true,())))))))) (cond (r1.1==4) ((dE.f k (a0.extract (aH (r1.2.1+r2.2.1)).toNat (a0.size))).bind fun r11=>(dE.f k r11.2.1).bind fun r12=>(cg.f k (r1.1,(r2.1,(r11.1,(r12.1,(0,(0,()))))))).bind fun r13=>cond (!(seq r13.1 a0)) (some ((0,(0,(ByteArray.empty,(ByteArray.empty,(0,(0,())))))),(false,()))) (cond (seq a0 (⟨#[]⟩:ByteArray)) (some ((0,(0,(ByteArray.empty,(ByteArray.empty,(0,(0,())))))),(false,()))) (some ((r1.1,(r2.1,(r11.1,(r12.1,(0,(0,())))))),(true,()))))) (cond (r1.1==2) ((dE.f k (a0.extract (aH (r1.2.1+r2.2.1)).toNat (a0.size))).bind fun r14=>(cg.f k (r1.1,(r2.1,(r14.1,(ByteArray.empty,(0,(0,()))))))).bind fun r15=>cond (!(seq r15.1 a0)) (some ((0,(0,(ByteArray.empty,(ByteArray.empty,(0,(0,())))))),(false,()))) (cond (seq a0 (⟨#[]⟩:ByteArray)) (some ((0,(0,(ByteArray.empty,(ByteArray.empty,(0,(0,())))))),(false,()))) (some ((r1.1,(r2.1,(r14.1,(ByteArray.empty,(0,(0,())))))),(true,()))))) ((aw.f k (a0.extract (aH (r1.2.1+r2.2.1)).toNat (a0.size))).bind fun r16=>oh r16.2.1 ((a0.extract (aH (r1.2.1+r2.2.1)).toNat (a0.size)).size:Int) ((br.f k ((a0.extract (aH (r1.2.1+r2.2.1)).toNat (a0.size)).extract r16.2.1.toNat ((a0.extract (aH (r1.2.1+r2.2.1)).toNat (a0.size)).size)) 4).bind fun r17=>(cg.f k (r1.1,(r2.1,(ByteArray.empty,(ByteArray.empty,(r16.1,(r17.1,()))))))).bind fun r18=>cond (!(seq r18.1 a0)) (some ((0,(0,(ByteArray.empty,(ByteArray.empty,(0,(0,())))))),(false,()))) (cond (seq a0 (⟨#[]⟩:ByteArray)) (some ((0,(0,(ByteArray.empty,(ByteArray.empty,(0,(0,())))))),(false,()))) (some ((r1.1,(r2.1,(ByteArray.empty,(ByteArray.empty,(r16.1,(r17.1,())))))),(true,())))))))))))))
def f:=t k
end fE
namespace bp
abbrev Rs:Type:=Option ((List (Ty.d bU)) × Int × Unit)
abbrev T0:Type:=ByteArray→Int→List (Ty.d bU)→Rs
def b0 (L0:T0):T0:=fun x0 x1 x2 =>
 (cond (decide (x1<(x0.size:Int))) (oh x1 (x0.size:Int) ((eP.f k (x0.extract x1.toNat (x0.size))).bind fun r1=>(fE.f k r1.1).bind fun r2=>cond (r1.2.1==0) (some (x2,(x1,()))) (cond (!r2.2.1) (some (x2,(x1,()))) (rm (Ty.bytes bU) (x2.length+1) (L0 x0 (aH (x1+r1.2.1)) (x2++[(x1,(r1.2.1,(r2.1,())))])))))) (some (x2,(x1,()))))
def l0:Nat→T0
 | 0=>fun _ _ _=>none
 | n+1=>b0 k (l0 n)
def t (k:Nat) (L0:T0) (a0:ByteArray):Rs :=
 (L0 a0 0 [])
def f:=t k (l0 k k)
end bp
namespace jR
abbrev Rs:Type:=Option ((Ty.d aA) × Int × Unit)
def t (a0:Ty.d aA) (a1:ByteArray) (a2:Int):Rs :=
 ((dZ.f k a0).bind fun r1=>cond (r1.2.1 != 0) (some r1) ((bY.f k a0 a1).bind fun r2=>cond (decide (r2.1<0)) (some (r1.1,(3,()))) (b9 r2.1 (a0.1.length:Int) ((aS.f k a2 0 (ByteArray.size (a0.1.getD r2.1.toNat (Ty.z aE)).2.1:Int)).bind fun r3=>cond (!r3.1) (some (r1.1,(5,()))) (b9 r2.1 (a0.1.length:Int) (oh a2 (ByteArray.size (a0.1.getD r2.1.toNat (Ty.z aE)).2.1:Int) (b9 r2.1 (r1.1.1.length:Int) (let l4:=(r1.1.1.set r2.1.toNat ((r1.1.1.getD r2.1.toNat (Ty.z aE)).1,((ByteArray.extract (a0.1.getD r2.1.toNat (Ty.z aE)).2.1 0 a2.toNat),(r1.1.1.getD r2.1.toNat (Ty.z aE)).2.2)));(b9 r2.1 (a0.1.length:Int) (b9 r2.1 (l4.length:Int) (let l5:=(l4.set r2.1.toNat ((l4.getD r2.1.toNat (Ty.z aE)).1,((l4.getD r2.1.toNat (Ty.z aE)).2.1,((if a2<(a0.1.getD r2.1.toNat (Ty.z aE)).2.2.1 then a2 else (a0.1.getD r2.1.toNat (Ty.z aE)).2.2.1),(l4.getD r2.1.toNat (Ty.z aE)).2.2.2))));(some ((l5,r1.1.2),(0,()))))))))))))))
def f:=t k
end jR
namespace c_
abbrev Rs:Type:=Option ((List Int) × Int × Unit)
abbrev T0:Type:=ByteArray→Int→Int→Int→List Int→Rs
def b0 (L0:T0):T0:=fun x0 x1 x2 x3 x4 =>
 (cond (decide (x3<x2)) (oh x1 (x0.size:Int) ((aw.f k (x0.extract x1.toNat (x0.size))).bind fun r1=>cond (r1.2.1==0) (xG (Ty.bytes (.int .i64)) x2 (some ((List.replicate x2.toNat (Ty.z (.int .i64))),((-1),())))) (rm (Ty.bytes (.int .i64)) (x4.length+1) (L0 x0 (aH (x1+r1.2.1)) x2 (aH (x3+1)) (x4++[r1.1]))))) (some (x4,(x1,()))))
def l0:Nat→T0
 | 0=>fun _ _ _ _ _=>none
 | n+1=>b0 k (l0 n)
def t (k:Nat) (L0:T0) (a0:ByteArray) (a1:Int) (a2:Int):Rs :=
 (L0 a0 a1 a2 0 [])
def f:=t k (l0 k k)
end c_
namespace fy
abbrev Rs:Type:=Option (Bool × Unit)
abbrev T0:Type:=List (Ty.d a_)→Int→Rs
def b0 (L0:T0):T0:=fun x0 x1 =>
 (cond (decide (x1<(x0.length:Int))) (b9 x1 (x0.length:Int) ((dA.f k (x0.getD x1.toNat (Ty.z a_)).1).bind fun r1=>cond (!r1.1) (some (false,())) ((aS.f k (x0.getD x1.toNat (Ty.z a_)).2.1 1 100000).bind fun r2=>cond (!r2.1) (some (false,())) (cond (decide ((x0.getD x1.toNat (Ty.z a_)).2.2.1<0)) (some (false,())) ((aS.f k (x0.getD x1.toNat (Ty.z a_)).2.2.2.1 1 210).bind fun r3=>cond (!r3.1) (some (false,())) ((aS.f k (x0.getD x1.toNat (Ty.z a_)).2.2.2.2.1 1 1000000).bind fun r4=>cond (!r4.1) (some (false,())) (cond (decide (x1 > 0)) (b9 (aH (x1-1)) (x0.length:Int) (cond ((ox (x0.getD x1.toNat (Ty.z a_)).1 (x0.getD (aH (x1-1)).toNat (Ty.z a_)).1)||(seq (x0.getD x1.toNat (Ty.z a_)).1 (x0.getD (aH (x1-1)).toNat (Ty.z a_)).1)) (some (false,())) (L0 x0 (aH (x1+1))))) (L0 x0 (aH (x1+1)))))))))) (some (true,())))
def l0:Nat→T0
 | 0=>fun _ _=>none
 | n+1=>b0 k (l0 n)
def t (k:Nat) (L0:T0) (a0:List (Ty.d a_)):Rs :=
 (cond (decide ((a0.length:Int) > 20)) (some (false,())) (L0 a0 0))
def f:=t k (l0 k k)
end fy
namespace iS
abbrev Rs:Type:=Option (Bool × Unit)
abbrev T0:Type:=Int→Int→Int→List (Ty.d a_)→Rs
def b0 (k:Nat) (L0:T0):T0:=fun x0 x1 x2 x3 =>
 (cond (decide (x0<(x3.length:Int))) (b9 x0 (x3.length:Int) (b9 0 (x3.length:Int) (cond ((x3.getD x0.toNat (Ty.z a_)).2.1 != (x3.getD 0 (Ty.z a_)).2.1) (some (false,())) (b9 x0 (x3.length:Int) (cond (decide ((x3.getD x0.toNat (Ty.z a_)).2.2.1 > 100000)) (some (false,())) (L0 (aH (x0+1)) x1 x2 x3)))))) (some (true,())))
def l0:Nat→T0
 | 0=>fun _ _ _ _=>none
 | n+1=>b0 k (l0 n)
def t (L0:T0) (a0:Ty.d fV):Rs :=
 ((aS.f k a0.1 0 100000).bind fun r1=>cond (!r1.1) (some (false,())) ((aS.f k a0.2.1 0 1000000).bind fun r2=>cond (!r2.1) (some (false,())) ((fy.f k a0.2.2.1).bind fun r3=>cond (!r3.1) (some (false,())) (L0 0 a0.1 a0.2.1 a0.2.2.1))))
def f:=t k (l0 k k)
end iS
namespace eJ
abbrev Rs:Type:=Option (ByteArray × Unit)
abbrev T0:Type:=ByteArray→Int→Int→Int→List (Ty.d a_)→Rs
def b0 (L0:T0):T0:=fun x0 x1 x2 x3 x4 =>
 (cond (decide (x1<(x4.length:Int))) (b9 x1 (x4.length:Int) ((bw.f k (ByteArray.size (x4.getD x1.toNat (Ty.z a_)).1:Int)).bind fun r5=>mK x0 r5.1 (mK (x0++r5.1) (x4.getD x1.toNat (Ty.z a_)).1 ((bw.f k (x4.getD x1.toNat (Ty.z a_)).2.1).bind fun r6=>mK ((x0++r5.1)++(x4.getD x1.toNat (Ty.z a_)).1) r6.1 ((bw.f k (x4.getD x1.toNat (Ty.z a_)).2.2.1).bind fun r7=>mK (((x0++r5.1)++(x4.getD x1.toNat (Ty.z a_)).1)++r6.1) r7.1 ((bw.f k (x4.getD x1.toNat (Ty.z a_)).2.2.2.1).bind fun r8=>mK ((((x0++r5.1)++(x4.getD x1.toNat (Ty.z a_)).1)++r6.1)++r7.1) r8.1 ((bw.f k (x4.getD x1.toNat (Ty.z a_)).2.2.2.2.1).bind fun r9=>mK (((((x0++r5.1)++(x4.getD x1.toNat (Ty.z a_)).1)++r6.1)++r7.1)++r8.1) r9.1 (L0 ((((((x0++r5.1)++(x4.getD x1.toNat (Ty.z a_)).1)++r6.1)++r7.1)++r8.1)++r9.1) (aH (x1+1)) x2 x3 x4)))))))) ((gz.f k x0).bind fun r10=>(eH.f k r10.1 4).bind fun r11=>mK r11.1 x0 (some ((r11.1++x0),()))))
def l0:Nat→T0
 | 0=>fun _ _ _ _ _=>none
 | n+1=>b0 k (l0 n)
def t (L0:T0) (a0:Ty.d fV):Rs :=
 ((iS.f k a0).bind fun r1=>cond (!r1.1) (some ((⟨#[]⟩:ByteArray),())) ((bw.f k a0.1).bind fun r2=>(bw.f k a0.2.1).bind fun r3=>mK r2.1 r3.1 ((bw.f k (a0.2.2.1.length:Int)).bind fun r4=>mK (r2.1++r3.1) r4.1 (L0 ((r2.1++r3.1)++r4.1) 0 a0.1 a0.2.1 a0.2.2.1))))
def f:=t k (l0 k k)
end eJ
namespace bd
abbrev Rs:Type:=Option ((Ty.d fV) × Bool × Unit)
abbrev T0:Type:=ByteArray→Int→Int→List (Ty.d a_)→Int→Int→List Int→List (Ty.d a_)→Int→Int→Rs
def b0 (L0:T0):T0:=fun x0 x1 x2 x3 x4 x5 x6 x7 x8 x9 =>
 (b9 2 (x6.length:Int) (cond (decide (x2<(x6.getD 2 (Ty.z (.int .i64))))) (oh x1 (x0.size:Int) ((dE.f k (x0.extract x1.toNat (x0.size))).bind fun r2=>(c_.f k r2.2.1 0 4).bind fun r3=>cond (!r2.2.2.1) (some ((0,(0,([],()))),(false,()))) (cond (decide (r3.2.1<0)) (some ((0,(0,([],()))),(false,()))) (b9 0 (r3.1.length:Int) (b9 1 (r3.1.length:Int) (b9 2 (r3.1.length:Int) (b9 3 (r3.1.length:Int) (rm (Ty.bytes a_) (x7.length+1) (L0 x0 (aH ((aH ((x0.size:Int)-(r2.2.1.size:Int)))+r3.2.1)) (aH (x2+1)) x3 x4 x5 x6 (x7++[(r2.1,((r3.1.getD 0 (Ty.z (.int .i64))),((r3.1.getD 1 (Ty.z (.int .i64))),((r3.1.getD 2 (Ty.z (.int .i64))),((r3.1.getD 3 (Ty.z (.int .i64))),())))))]) x8 x9))))))))) ((eJ.f k (x8,(x9,(x7,())))).bind fun r4=>cond (!(seq r4.1 x0)) (some ((0,(0,([],()))),(false,()))) (some ((x8,(x9,(x7,()))),(true,()))))))
def l0:Nat→T0
 | 0=>fun _ _ _ _ _ _ _ _ _ _=>none
 | n+1=>b0 k (l0 n)
def t (L0:T0) (a0:ByteArray):Rs :=
 (cond (decide ((a0.size:Int)<4)) (some ((0,(0,([],()))),(false,()))) ((c_.f k a0 4 3).bind fun r1=>cond (decide (r1.2.1<0)) (some ((0,(0,([],()))),(false,()))) (b9 2 (r1.1.length:Int) (cond (decide ((r1.1.getD 2 (Ty.z (.int .i64))) > 20)) (some ((0,(0,([],()))),(false,()))) (b9 0 (r1.1.length:Int) (b9 1 (r1.1.length:Int) (L0 a0 r1.2.1 0 [] 0 0 r1.1 [] (r1.1.getD 0 (Ty.z (.int .i64))) (r1.1.getD 1 (Ty.z (.int .i64))))))))))
def f:=t k (l0 k k)
end bd
namespace gu
abbrev Rs:Type:=Option (Int × Unit)
abbrev T0:Type:=List (Ty.d bR)→ByteArray→Int→Rs
def b0 (L0:T0):T0:=fun x0 x1 x2 =>
 (cond (decide (x2<(x0.length:Int))) (b9 x2 (x0.length:Int) ((cg.f k (x0.getD x2.toNat (Ty.z bR))).bind fun r1=>mK x1 r1.1 (L0 x0 (x1++r1.1) (aH (x2+1))))) ((gz.f k x1).bind fun r2=>some r2))
def l0:Nat→T0
 | 0=>fun _ _ _=>none
 | n+1=>b0 k (l0 n)
def t (k:Nat) (L0:T0) (a0:List (Ty.d bR)):Rs :=
 (L0 a0 (⟨#[]⟩:ByteArray) 0)
def f:=t k (l0 k k)
end gu
namespace f8
abbrev Rs:Type:=Option ((Ty.d fV) × Bool × Unit)
abbrev T0:Type:=Int→Int→List (Ty.d a_)→Int→Int→List (Ty.d bU)→List (Ty.d a_)→Int→Int→List (Ty.d bR)→Rs
def b0 (L0:T0):T0:=fun x0 x1 x2 x3 x4 x5 x6 x7 x8 x9 =>
 (cond (decide ((aH (x1+1))<(x5.length:Int))) (b9 x1 (x5.length:Int) (cond ((x5.getD x1.toNat (Ty.z bU)).2.2.1.1 != 4) (some ((0,(0,([],()))),(false,()))) (cond (decide ((x5.getD x1.toNat (Ty.z bU)).2.2.1.2.1 > x8)) (some ((0,(0,([],()))),(false,()))) (cond (decide (x1 > 0)) (b9 (aH (x1-1)) (x5.length:Int) (cond ((ox (x5.getD x1.toNat (Ty.z bU)).2.2.1.2.2.1 (x5.getD (aH (x1-1)).toNat (Ty.z bU)).2.2.1.2.2.1)||(seq (x5.getD x1.toNat (Ty.z bU)).2.2.1.2.2.1 (x5.getD (aH (x1-1)).toNat (Ty.z bU)).2.2.1.2.2.1)) (some ((0,(0,([],()))),(false,()))) (rm (Ty.bytes bR) (x9.length+1) (b9 x1 (x5.length:Int) (b9 x1 (x5.length:Int) (rm (Ty.bytes a_) (x6.length+1) (L0 x0 (aH (x1+1)) x2 x3 x4 x5 (x6++[((x5.getD x1.toNat (Ty.z bU)).2.2.1.2.2.1,(x0,((x5.getD x1.toNat (Ty.z bU)).1,((x5.getD x1.toNat (Ty.z bU)).2.1,((x5.getD x1.toNat (Ty.z bU)).2.2.1.2.1,())))))]) x7 x8 (x9++[(x5.getD x1.toNat (Ty.z bU)).2.2.1])))))))) (rm (Ty.bytes bR) (x9.length+1) (b9 x1 (x5.length:Int) (b9 x1 (x5.length:Int) (rm (Ty.bytes a_) (x6.length+1) (L0 x0 (aH (x1+1)) x2 x3 x4 x5 (x6++[((x5.getD x1.toNat (Ty.z bU)).2.2.1.2.2.1,(x0,((x5.getD x1.toNat (Ty.z bU)).1,((x5.getD x1.toNat (Ty.z bU)).2.1,((x5.getD x1.toNat (Ty.z bU)).2.2.1.2.1,())))))]) x7 x8 (x9++[(x5.getD x1.toNat (Ty.z bU)).2.2.1])))))))))) (b9 (aH ((x5.length:Int)-1)) (x5.length:Int) (cond ((x5.getD (aH ((x5.length:Int)-1)).toNat (Ty.z bU)).2.2.1.2.2.2.2.1 != (x9.length:Int)) (some ((0,(0,([],()))),(false,()))) ((gu.f k x9).bind fun r3=>cond ((x5.getD (aH ((x5.length:Int)-1)).toNat (Ty.z bU)).2.2.1.2.2.2.2.2.1 != r3.1) (some ((0,(0,([],()))),(false,()))) (some ((x7,(x8,(x6,()))),(true,())))))))
def l0:Nat→T0
 | 0=>fun _ _ _ _ _ _ _ _ _ _=>none
 | n+1=>b0 k (l0 n)
def t (L0:T0) (a0:Int) (a1:ByteArray):Rs :=
 ((bp.f k a1).bind fun r1=>cond (r1.2.1 != (a1.size:Int)) (some ((0,(0,([],()))),(false,()))) (cond ((r1.1.length:Int)==0) (some ((0,(0,([],()))),(false,()))) (b9 (aH ((r1.1.length:Int)-1)) (r1.1.length:Int) (cond ((r1.1.getD (aH ((r1.1.length:Int)-1)).toNat (Ty.z bU)).2.2.1.1 != 5) (some ((0,(0,([],()))),(false,()))) ((aa.f k a0).bind fun r2=>cond (seq r2.1 (⟨#[]⟩:ByteArray)) (some ((0,(0,([],()))),(false,()))) (b9 (aH ((r1.1.length:Int)-1)) (r1.1.length:Int) (L0 a0 0 [] 0 0 r1.1 [] (a1.size:Int) (r1.1.getD (aH ((r1.1.length:Int)-1)).toNat (Ty.z bU)).2.2.1.2.1 [])))))))
def f:=t k (l0 k k)
end f8
namespace gG
abbrev Rs:Type:=Option (Bool × Unit)
abbrev T0:Type:=List (Ty.d a_)→List (Ty.d a_)→Int→Rs
def b0 (k:Nat) (L0:T0):T0:=fun x0 x1 x2 =>
 (cond (decide (x2<(x0.length:Int))) (b9 x2 (x0.length:Int) (b9 x2 (x1.length:Int) (cond (!((seq (x0.getD x2.toNat (Ty.z a_)).1 (x1.getD x2.toNat (Ty.z a_)).1)&&(((x0.getD x2.toNat (Ty.z a_)).2.1==(x1.getD x2.toNat (Ty.z a_)).2.1)&&(((x0.getD x2.toNat (Ty.z a_)).2.2.1==(x1.getD x2.toNat (Ty.z a_)).2.2.1)&&(((x0.getD x2.toNat (Ty.z a_)).2.2.2.1==(x1.getD x2.toNat (Ty.z a_)).2.2.2.1)&&((x0.getD x2.toNat (Ty.z a_)).2.2.2.2.1==(x1.getD x2.toNat (Ty.z a_)).2.2.2.2.1)))))) (some (false,())) (L0 x0 x1 (aH (x2+1)))))) (some (true,())))
def l0:Nat→T0
 | 0=>fun _ _ _=>none
 | n+1=>b0 k (l0 n)
def t (k:Nat) (L0:T0) (a0:List (Ty.d a_)) (a1:List (Ty.d a_)):Rs :=
 (cond ((a0.length:Int) != (a1.length:Int)) (some (false,())) (L0 a0 a1 0))
def f:=t k (l0 k k)
end gG
namespace ig
abbrev Rs:Type:=Option (Bool × Unit)
def t (a0:Int) (a1:ByteArray) (a2:Ty.d fV):Rs :=
 ((f8.f k a0 a1).bind fun r1=>cond r1.2.1 (cond (r1.1.1==a2.1) (cond (r1.1.2.1==a2.2.1) ((gG.f k r1.1.2.2.1 a2.2.2.1).bind fun r2=>some r2) (some (false,()))) (some (false,()))) (some (false,())))
def f:=t k
end ig
namespace bu
abbrev Rs:Type:=Option ((List (Ty.d aD)) × Unit)
abbrev T0:Type:=Int→Int→List (Ty.d aD)→List (Ty.d bU)→Rs
def b0 (k:Nat) (L0:T0):T0:=fun x0 x1 x2 x3 =>
 (cond (decide (x1<(x3.length:Int))) (b9 x1 (x3.length:Int) (b9 x1 (x3.length:Int) (b9 x1 (x3.length:Int) (rm (Ty.bytes aD) (x2.length+1) (L0 x0 (aH (x1+1)) (x2++[(x0,((x3.getD x1.toNat (Ty.z bU)).1,((x3.getD x1.toNat (Ty.z bU)).2.1,(x3.getD x1.toNat (Ty.z bU)).2.2)))]) x3))))) (some (x2,())))
def l0:Nat→T0
 | 0=>fun _ _ _ _=>none
 | n+1=>b0 k (l0 n)
def t (L0:T0) (a0:Int) (a1:ByteArray):Rs :=
 ((bp.f k a1).bind fun r1=>L0 a0 0 [] r1.1)
def f:=t k (l0 k k)
end bu
namespace jU
abbrev Rs:Type:=Option ((List (Ty.d aD)) × Unit)
abbrev T0:Type:=List (Ty.d aD)→Int→Int→Int→List (Ty.d aD)→Rs
def b0 (k:Nat) (L0:T0):T0:=fun x0 x1 x2 x3 x4 =>
 (cond (decide (x3<x1)) (b9 x3 (x0.length:Int) (cond ((x0.getD x3.toNat (Ty.z aD)).2.2.2.1.2.1==x2) (cond ((x0.getD x3.toNat (Ty.z aD)).2.2.2.1.1==3) (cond ((x0.getD x3.toNat (Ty.z aD)).2.2.2.1.2.1==x2) (cond ((x0.getD x3.toNat (Ty.z aD)).2.2.2.1.1==1) (b9 x3 (x0.length:Int) (rm (Ty.bytes aD) (0+1) (L0 x0 x1 x2 (aH (x3+1)) ([]++[(x0.getD x3.toNat (Ty.z aD))])))) (cond ((x0.getD x3.toNat (Ty.z aD)).2.2.2.1.1==2) (b9 x3 (x0.length:Int) (rm (Ty.bytes aD) (0+1) (L0 x0 x1 x2 (aH (x3+1)) ([]++[(x0.getD x3.toNat (Ty.z aD))])))) (L0 x0 x1 x2 (aH (x3+1)) []))) (L0 x0 x1 x2 (aH (x3+1)) [])) (cond ((x0.getD x3.toNat (Ty.z aD)).2.2.2.1.2.1==x2) (cond ((x0.getD x3.toNat (Ty.z aD)).2.2.2.1.1==1) (b9 x3 (x0.length:Int) (rm (Ty.bytes aD) (x4.length+1) (L0 x0 x1 x2 (aH (x3+1)) (x4++[(x0.getD x3.toNat (Ty.z aD))])))) (cond ((x0.getD x3.toNat (Ty.z aD)).2.2.2.1.1==2) (b9 x3 (x0.length:Int) (rm (Ty.bytes aD) (x4.length+1) (L0 x0 x1 x2 (aH (x3+1)) (x4++[(x0.getD x3.toNat (Ty.z aD))])))) (L0 x0 x1 x2 (aH (x3+1)) x4))) (L0 x0 x1 x2 (aH (x3+1)) x4))) (cond ((x0.getD x3.toNat (Ty.z aD)).2.2.2.1.2.1==x2) (cond ((x0.getD x3.toNat (Ty.z aD)).2.2.2.1.1==1) (b9 x3 (x0.length:Int) (rm (Ty.bytes aD) (x4.length+1) (L0 x0 x1 x2 (aH (x3+1)) (x4++[(x0.getD x3.toNat (Ty.z aD))])))) (cond ((x0.getD x3.toNat (Ty.z aD)).2.2.2.1.1==2) (b9 x3 (x0.length:Int) (rm (Ty.bytes aD) (x4.length+1) (L0 x0 x1 x2 (aH (x3+1)) (x4++[(x0.getD x3.toNat (Ty.z aD))])))) (L0 x0 x1 x2 (aH (x3+1)) x4))) (L0 x0 x1 x2 (aH (x3+1)) x4)))) (some (x4,())))
def l0:Nat→T0
 | 0=>fun _ _ _ _ _=>none
 | n+1=>b0 k (l0 n)
def t (k:Nat) (L0:T0) (a0:List (Ty.d aD)) (a1:Int) (a2:Int):Rs :=
 (L0 a0 a1 a2 0 [])
def f:=t k (l0 k k)
end jU
namespace h_
abbrev Rs:Type:=Option ((List (Ty.d bR)) × Unit)
abbrev T0:Type:=List (Ty.d aD)→Int→List (Ty.d bR)→Rs
def b0 (k:Nat) (L0:T0):T0:=fun x0 x1 x2 =>
 (cond (decide (x1<(x0.length:Int))) (b9 x1 (x0.length:Int) (rm (Ty.bytes bR) (x2.length+1) (L0 x0 (aH (x1+1)) (x2++[(x0.getD x1.toNat (Ty.z aD)).2.2.2.1])))) (some (x2,())))
def l0:Nat→T0
 | 0=>fun _ _ _=>none
 | n+1=>b0 k (l0 n)
def t (k:Nat) (L0:T0) (a0:List (Ty.d aD)):Rs :=
 (L0 a0 0 [])
def f:=t k (l0 k k)
end h_
namespace jz
abbrev Rs:Type:=Option (Bool × Unit)
def t (a0:Ty.d bR) (a1:List (Ty.d aD)):Rs :=
 (cond (a0.2.2.2.2.1==(a1.length:Int)) ((h_.f k a1).bind fun r1=>(gu.f k r1.1).bind fun r2=>some ((a0.2.2.2.2.2.1==r2.1),())) (some (false,())))
def f:=t k
end jz
namespace da
abbrev Rs:Type:=Option ((List (Ty.d a_)) × Unit)
abbrev T0:Type:=List (Ty.d a_)→ByteArray→Int→List (Ty.d a_)→Rs
def b0 (k:Nat) (L0:T0):T0:=fun x0 x1 x2 x3 =>
 (cond (decide (x2<(x0.length:Int))) (b9 x2 (x0.length:Int) (cond (!(seq (x0.getD x2.toNat (Ty.z a_)).1 x1)) (b9 x2 (x0.length:Int) (rm (Ty.bytes a_) (x3.length+1) (L0 x0 x1 (aH (x2+1)) (x3++[(x0.getD x2.toNat (Ty.z a_))])))) (L0 x0 x1 (aH (x2+1)) x3))) (some (x3,())))
def l0:Nat→T0
 | 0=>fun _ _ _ _=>none
 | n+1=>b0 k (l0 n)
def t (k:Nat) (L0:T0) (a0:List (Ty.d a_)) (a1:ByteArray):Rs :=
 (L0 a0 a1 0 [])
def f:=t k (l0 k k)
end da
namespace cU
abbrev Rs:Type:=Option ((List (Ty.d a_)) × Unit)
abbrev T0:Type:=List (Ty.d a_)→Bool→Int→ByteArray→Int→Int→Int→Int→List (Ty.d a_)→Rs
def b0 (k:Nat) (L0:T0):T0:=fun x0 x1 x2 x3 x4 x5 x6 x7 x8 =>
 (cond (decide (x2<(x0.length:Int))) (b9 x2 (x0.length:Int) (cond (seq (x0.getD x2.toNat (Ty.z a_)).1 x3) (L0 x0 x1 (aH (x2+1)) x3 x4 x5 x6 x7 x8) (cond (!x1) (b9 x2 (x0.length:Int) (cond (!((ox (x0.getD x2.toNat (Ty.z a_)).1 x3)||(seq (x0.getD x2.toNat (Ty.z a_)).1 x3))) (rm (Ty.bytes a_) (x8.length+1) (b9 x2 (x0.length:Int) (rm (Ty.bytes a_) (List.length (x8++[(x3,(x4,(x5,(x6,(x7,())))))])+1) (L0 x0 true (aH (x2+1)) x3 x4 x5 x6 x7 ((x8++[(x3,(x4,(x5,(x6,(x7,())))))])++[(x0.getD x2.toNat (Ty.z a_))]))))) (b9 x2 (x0.length:Int) (rm (Ty.bytes a_) (x8.length+1) (L0 x0 x1 (aH (x2+1)) x3 x4 x5 x6 x7 (x8++[(x0.getD x2.toNat (Ty.z a_))])))))) (b9 x2 (x0.length:Int) (rm (Ty.bytes a_) (x8.length+1) (L0 x0 x1 (aH (x2+1)) x3 x4 x5 x6 x7 (x8++[(x0.getD x2.toNat (Ty.z a_))]))))))) (cond (!x1) (rm (Ty.bytes a_) (x8.length+1) (some ((x8++[(x3,(x4,(x5,(x6,(x7,())))))]),()))) (some (x8,()))))
def l0:Nat→T0
 | 0=>fun _ _ _ _ _ _ _ _ _=>none
 | n+1=>b0 k (l0 n)
def t (k:Nat) (L0:T0) (a0:List (Ty.d a_)) (a1:Ty.d a_):Rs :=
 (L0 a0 false 0 a1.1 a1.2.1 a1.2.2.1 a1.2.2.2.1 a1.2.2.2.2.1 [])
def f:=t k (l0 k k)
end cU
namespace j6
abbrev Rs:Type:=Option ((List (Ty.d a_)) × Unit)
def t (a0:List (Ty.d a_)) (a1:Ty.d aD):Rs :=
 (cond (a1.2.2.2.1.1==2) ((da.f k a0 a1.2.2.2.1.2.2.1).bind fun r1=>some r1) ((cU.f k a0 (a1.2.2.2.1.2.2.1,(a1.1,(a1.2.1,(a1.2.2.1,(a1.2.2.2.1.2.1,())))))).bind fun r2=>some r2))
def f:=t k
end j6
namespace g9
abbrev Rs:Type:=Option ((List (Ty.d aD)) × Unit)
abbrev T0:Type:=List (Ty.d aD)→Int→Int→List (Ty.d aD)→Rs
def b0 (k:Nat) (L0:T0):T0:=fun x0 x1 x2 x3 =>
 (cond (decide (x2<x1)) (b9 x2 (x0.length:Int) (cond ((x0.getD x2.toNat (Ty.z aD)).2.2.2.1.1==5) (b9 x2 (x0.length:Int) (cond ((x0.getD x2.toNat (Ty.z aD)).2.2.2.1.1==4) (b9 x2 (x0.length:Int) (rm (Ty.bytes aD) (0+1) (L0 x0 x1 (aH (x2+1)) ([]++[(x0.getD x2.toNat (Ty.z aD))])))) (L0 x0 x1 (aH (x2+1)) []))) (b9 x2 (x0.length:Int) (cond ((x0.getD x2.toNat (Ty.z aD)).2.2.2.1.1==4) (b9 x2 (x0.length:Int) (rm (Ty.bytes aD) (x3.length+1) (L0 x0 x1 (aH (x2+1)) (x3++[(x0.getD x2.toNat (Ty.z aD))])))) (L0 x0 x1 (aH (x2+1)) x3))))) (some (x3,())))
def l0:Nat→T0
 | 0=>fun _ _ _ _=>none
 | n+1=>b0 k (l0 n)
def t (k:Nat) (L0:T0) (a0:List (Ty.d aD)) (a1:Int):Rs :=
 (L0 a0 a1 0 [])
def f:=t k (l0 k k)
end g9
namespace ck
abbrev Rs:Type:=Option ((Ty.d iK) × Unit)
abbrev T1:Type:=List (Ty.d aD)→Int→Int→List (Ty.d a_)→Int→Int→List (Ty.d a_)→Int→Int→List (Ty.d aD)→Rs
abbrev T0:Type:=List (Ty.d aD)→Int→List (Ty.d a_)→Int→Int→List (Ty.d a_)→Int→Int→Rs
def b1 (L0:T0) (L1:T1):T1:=fun x0 x1 x2 x3 x4 x5 x6 x7 x8 x9 =>
 (cond (decide (x2<(x9.length:Int))) (b9 x2 (x9.length:Int) ((j6.f k x6 (x9.getD x2.toNat (Ty.z aD))).bind fun r3=>L1 x0 x1 (aH (x2+1)) x3 x4 x5 r3.1 x7 x8 x9)) (cond (decide ((x6.length:Int) > 20)) (L0 x0 (aH (x1+1)) x3 x4 x5 x6 x7 2) (L0 x0 (aH (x1+1)) x3 x4 x5 x6 x7 x8)))
def l1 (L0:T0):Nat→T1
 | 0=>fun _ _ _ _ _ _ _ _ _ _=>none
 | n+1=>b1 k L0 (l1 L0 n)
def b0 (L1:T1) (L0:T0):T0:=fun x0 x1 x2 x3 x4 x5 x6 x7 =>
 (cond (decide (x1<(x0.length:Int))) (cond (x7==0) (b9 x1 (x0.length:Int) (cond ((x0.getD x1.toNat (Ty.z aD)).2.2.2.1.1==3) ((jU.f k x0 x1 (x0.getD x1.toNat (Ty.z aD)).2.2.2.1.2.1).bind fun r1=>(jz.f k (x0.getD x1.toNat (Ty.z aD)).2.2.2.1 r1.1).bind fun r2=>cond (!r2.1) (L0 x0 (aH (x1+1)) x2 x3 x4 x5 (if (x0.getD x1.toNat (Ty.z aD)).2.2.2.1.2.1 > x6 then (x0.getD x1.toNat (Ty.z aD)).2.2.2.1.2.1 else x6) x7) (L1 x0 x1 0 x2 x3 x4 x5 (if (x0.getD x1.toNat (Ty.z aD)).2.2.2.1.2.1 > x6 then (x0.getD x1.toNat (Ty.z aD)).2.2.2.1.2.1 else x6) x7 r1.1)) (cond ((x0.getD x1.toNat (Ty.z aD)).2.2.2.1.1==5) ((g9.f k x0 x1).bind fun r4=>(jz.f k (x0.getD x1.toNat (Ty.z aD)).2.2.2.1 r4.1).bind fun r5=>cond (!r5.1) (L0 x0 (aH (x1+1)) x2 x3 x4 x5 (if (x0.getD x1.toNat (Ty.z aD)).2.2.2.1.2.1 > x6 then (x0.getD x1.toNat (Ty.z aD)).2.2.2.1.2.1 else x6) 1) (L1 x0 x1 0 x2 x3 x4 x5 (if (x0.getD x1.toNat (Ty.z aD)).2.2.2.1.2.1 > x6 then (x0.getD x1.toNat (Ty.z aD)).2.2.2.1.2.1 else x6) x7 r4.1)) (L0 x0 (aH (x1+1)) x2 x3 x4 x5 (if (x0.getD x1.toNat (Ty.z aD)).2.2.2.1.2.1 > x6 then (x0.getD x1.toNat (Ty.z aD)).2.2.2.1.2.1 else x6) x7)))) (cond (x7==0) ((g9.f k x0 (x0.length:Int)).bind fun r6=>cond (decide ((r6.1.length:Int) > 0)) (some ((x5,(x6,(1,()))),())) (some ((x5,(x6,(x7,()))),()))) (some ((x5,(x6,(x7,()))),())))) (cond (x7==0) ((g9.f k x0 (x0.length:Int)).bind fun r7=>cond (decide ((r7.1.length:Int) > 0)) (some ((x5,(x6,(1,()))),())) (some ((x5,(x6,(x7,()))),()))) (some ((x5,(x6,(x7,()))),()))))
def l0:Nat→T0
 | 0=>fun _ _ _ _ _ _ _ _=>none
 | n+1=>b0 k (l1 k (l0 n) k) (l0 n)
def t (k:Nat) (L0:T0) (a0:Ty.d iK) (a1:List (Ty.d aD)):Rs :=
 (rm (Ty.bytes a_) (0+List.length a0.1) (L0 a1 0 [] 0 0 ([]++a0.1) a0.2.1 a0.2.2.1))
def f:=t k (l0 k k)
end ck
namespace bG
abbrev Rs:Type:=Option ((Ty.d aA) × Int × Unit)
abbrev T0:Type:=Int→List (Ty.d aE)→Int→Int→Bool→List (Ty.d aE)→Int→Int→Bool→List ByteArray→Rs
def b0 (L0:T0):T0:=fun x0 x1 x2 x3 x4 x5 x6 x7 x8 x9 =>
 (cond (decide (x0<(x9.length:Int))) (b9 x0 (x9.length:Int) ((fp.f k (x1,(x2,(x3,(x4,())))) (x9.getD x0.toNat (Ty.z .str))).bind fun r2=>cond (r2.2.1 != 0) ((aY.f k r2.2.1).bind fun r3=>some (r2.1,r3)) (L0 (aH (x0+1)) r2.1.1 r2.1.2.1 r2.1.2.2.1 r2.1.2.2.2.1 x5 x6 x7 x8 x9))) (some ((x1,(x2,(x3,(x4,())))),(0,()))))
def l0:Nat→T0
 | 0=>fun _ _ _ _ _ _ _ _ _ _=>none
 | n+1=>b0 k (l0 n)
def t (L0:T0) (a0:Ty.d aA) (a1:Ty.d bL):Rs :=
 ((bX.f k a0 a1).bind fun r1=>L0 0 a0.1 a0.2.1 a0.2.2.1 a0.2.2.2.1 [] 0 0 false r1.1)
def f:=t k (l0 k k)
end bG
namespace cK
abbrev Rs:Type:=Option ((Ty.d aG) × (Ty.d aA) × Int × Unit)
abbrev T1:Type:=Int→List Int→List (Ty.d a_)→Int→Int→Int→Int→List (Ty.d aE)→Int→Int→Bool→List Int→List (Ty.d a_)→Int→Int→Int→Int→List Int→Int→List (Ty.d aE)→Int→Int→Bool→List (Ty.d a_)→Int→Int→Int→Int→List (Ty.d a_)→Int→Int→List (Ty.d aD)→Rs
abbrev T2:Type:=Int→List Int→List (Ty.d a_)→Int→Int→Int→Int→List (Ty.d aE)→Int→Int→Bool→List Int→List (Ty.d a_)→Int→Int→Int→Int→List Int→Int→List (Ty.d aE)→Int→Int→Bool→List (Ty.d a_)→Int→Int→Int→Int→List (Ty.d a_)→Int→Int→List (Ty.d aD)→Rs
abbrev T0:Type:=Int→Int→List (Ty.d aE)→Int→Int→Bool→List Int→List (Ty.d a_)→Int→Int→Int→Int→List (Ty.d aE)→Int→Int→Bool→List Int→List (Ty.d a_)→Int→Int→Int→Int→List Int→Int→Rs
def b1 (L1:T1):T1:=fun x0 x1 x2 x3 x4 x5 x6 x7 x8 x9 x10 x11 x12 x13 x14 x15 x16 x17 x18 x19 x20 x21 x22 x23 x24 x25 x26 x27 x28 x29 x30 x31 =>
 (cond (decide (x0<(x17.length:Int))) (b9 x0 (x17.length:Int) ((aa.f k (x17.getD x0.toNat (Ty.z (.int .i64)))).bind fun r23=>(cD.f k (x19,(x20,(x21,(x22,())))) r23.1).bind fun r24=>b9 x0 (x17.length:Int) ((dO.f k (x17.getD x0.toNat (Ty.z (.int .i64)))).bind fun r25=>(cD.f k (x19,(x20,(x21,(x22,())))) r25.1).bind fun r26=>(bd.f k r26.1).bind fun r27=>cond (x0==0) (cond r26.2.1 (cond r27.2.1 (b9 0 (x17.length:Int) ((ig.f k (x17.getD 0 (Ty.z (.int .i64))) r24.1 r27.1).bind fun r28=>cond r28.1 (b9 0 (x17.length:Int) (L1 (aH (x0+1)) x1 x2 x3 x4 x5 x6 x7 x8 x9 x10 x11 x12 x13 x14 x15 x16 x17 x18 x19 x20 x21 x22 x23 x24 x25 x26 (x17.getD 0 (Ty.z (.int .i64))) r27.1.2.2.1 r27.1.2.1 x30 x31)) (b9 x0 (x17.length:Int) ((bu.f k (x17.getD x0.toNat (Ty.z (.int .i64))) r24.1).bind fun r29=>rm (Ty.bytes aD) (x31.length+List.length r29.1) (L1 (aH (x0+1)) x1 x2 x3 x4 x5 x6 x7 x8 x9 x10 x11 x12 x13 x14 x15 x16 x17 x18 x19 x20 x21 x22 x23 x24 x25 x26 x27 x28 x29 x30 (x31++r29.1)))))) (b9 x0 (x17.length:Int) ((bu.f k (x17.getD x0.toNat (Ty.z (.int .i64))) r24.1).bind fun r30=>rm (Ty.bytes aD) (x31.length+List.length r30.1) (L1 (aH (x0+1)) x1 x2 x3 x4 x5 x6 x7 x8 x9 x10 x11 x12 x13 x14 x15 x16 x17 x18 x19 x20 x21 x22 x23 x24 x25 x26 x27 x28 x29 x30 (x31++r30.1))))) (b9 x0 (x17.length:Int) ((bu.f k (x17.getD x0.toNat (Ty.z (.int .i64))) r24.1).bind fun r31=>rm (Ty.bytes aD) (x31.length+List.length r31.1) (L1 (aH (x0+1)) x1 x2 x3 x4 x5 x6 x7 x8 x9 x10 x11 x12 x13 x14 x15 x16 x17 x18 x19 x20 x21 x22 x23 x24 x25 x26 x27 x28 x29 x30 (x31++r31.1))))) (b9 x0 (x17.length:Int) ((bu.f k (x17.getD x0.toNat (Ty.z (.int .i64))) r24.1).bind fun r32=>rm (Ty.bytes aD) (x31.length+List.length r32.1) (L1 (aH (x0+1)) x1 x2 x3 x4 x5 x6 x7 x8 x9 x10 x11 x12 x13 x14 x15 x16 x17 x18 x19 x20 x21 x22 x23 x24 x25 x26 x27 x28 x29 x30 (x31++r32.1))))))) ((ck.f k (x28,(x29,(x30,()))) x31).bind fun r33=>cond (r33.1.2.2.1 != 0) (some (((x13,(x11,())),(x12,(x14,(x15,(x16,()))))),((x19,(x20,(x21,(x22,())))),(3,())))) ((bG.f k (x19,(x20,(x21,(x22,())))) (x18,(x17,()))).bind fun r34=>cond (r34.2.1 != 0) (some (((x13,(x11,())),(x12,(x14,(x15,(x16,()))))),r34)) (some (((x24,(x17,())),(r33.1.1,((aH (r33.1.2.1+1)),(x26,(x27,()))))),(r34.1,(0,())))))))
def l1:Nat→T1
 | 0=>fun _ _ _ _ _ _ _ _ _ _ _ _ _ _ _ _ _ _ _ _ _ _ _ _ _ _ _ _ _ _ _ _=>none
 | n+1=>b1 k (l1 n)
def b2 (L2:T2):T2:=fun x0 x1 x2 x3 x4 x5 x6 x7 x8 x9 x10 x11 x12 x13 x14 x15 x16 x17 x18 x19 x20 x21 x22 x23 x24 x25 x26 x27 x28 x29 x30 x31 =>
 (cond (decide (x0<(x17.length:Int))) (b9 x0 (x17.length:Int) ((aa.f k (x17.getD x0.toNat (Ty.z (.int .i64)))).bind fun r38=>(cD.f k (x19,(x20,(x21,(x22,())))) r38.1).bind fun r39=>b9 x0 (x17.length:Int) ((dO.f k (x17.getD x0.toNat (Ty.z (.int .i64)))).bind fun r40=>(cD.f k (x19,(x20,(x21,(x22,())))) r40.1).bind fun r41=>(bd.f k r41.1).bind fun r42=>cond (x0==0) (cond r41.2.1 (cond r42.2.1 (b9 0 (x17.length:Int) ((ig.f k (x17.getD 0 (Ty.z (.int .i64))) r39.1 r42.1).bind fun r43=>cond r43.1 (b9 0 (x17.length:Int) (L2 (aH (x0+1)) x1 x2 x3 x4 x5 x6 x7 x8 x9 x10 x11 x12 x13 x14 x15 x16 x17 x18 x19 x20 x21 x22 x23 x24 x25 x26 (x17.getD 0 (Ty.z (.int .i64))) r42.1.2.2.1 r42.1.2.1 x30 x31)) (b9 x0 (x17.length:Int) ((bu.f k (x17.getD x0.toNat (Ty.z (.int .i64))) r39.1).bind fun r44=>rm (Ty.bytes aD) (x31.length+List.length r44.1) (L2 (aH (x0+1)) x1 x2 x3 x4 x5 x6 x7 x8 x9 x10 x11 x12 x13 x14 x15 x16 x17 x18 x19 x20 x21 x22 x23 x24 x25 x26 x27 x28 x29 x30 (x31++r44.1)))))) (b9 x0 (x17.length:Int) ((bu.f k (x17.getD x0.toNat (Ty.z (.int .i64))) r39.1).bind fun r45=>rm (Ty.bytes aD) (x31.length+List.length r45.1) (L2 (aH (x0+1)) x1 x2 x3 x4 x5 x6 x7 x8 x9 x10 x11 x12 x13 x14 x15 x16 x17 x18 x19 x20 x21 x22 x23 x24 x25 x26 x27 x28 x29 x30 (x31++r45.1))))) (b9 x0 (x17.length:Int) ((bu.f k (x17.getD x0.toNat (Ty.z (.int .i64))) r39.1).bind fun r46=>rm (Ty.bytes aD) (x31.length+List.length r46.1) (L2 (aH (x0+1)) x1 x2 x3 x4 x5 x6 x7 x8 x9 x10 x11 x12 x13 x14 x15 x16 x17 x18 x19 x20 x21 x22 x23 x24 x25 x26 x27 x28 x29 x30 (x31++r46.1))))) (b9 x0 (x17.length:Int) ((bu.f k (x17.getD x0.toNat (Ty.z (.int .i64))) r39.1).bind fun r47=>rm (Ty.bytes aD) (x31.length+List.length r47.1) (L2 (aH (x0+1)) x1 x2 x3 x4 x5 x6 x7 x8 x9 x10 x11 x12 x13 x14 x15 x16 x17 x18 x19 x20 x21 x22 x23 x24 x25 x26 x27 x28 x29 x30 (x31++r47.1))))))) ((ck.f k (x28,(x29,(x30,()))) x31).bind fun r48=>cond (r48.1.2.2.1 != 0) (some (((x13,(x11,())),(x12,(x14,(x15,(x16,()))))),((x19,(x20,(x21,(x22,())))),(3,())))) ((bG.f k (x19,(x20,(x21,(x22,())))) (x18,(x17,()))).bind fun r49=>cond (r49.2.1 != 0) (some (((x13,(x11,())),(x12,(x14,(x15,(x16,()))))),r49)) (some (((x24,(x17,())),(r48.1.1,((aH (r48.1.2.1+1)),(x26,(x27,()))))),(r49.1,(0,())))))))
def l2:Nat→T2
 | 0=>fun _ _ _ _ _ _ _ _ _ _ _ _ _ _ _ _ _ _ _ _ _ _ _ _ _ _ _ _ _ _ _ _=>none
 | n+1=>b2 k (l2 n)
def b0 (L1:T1) (L2:T2) (L0:T0):T0:=fun x0 x1 x2 x3 x4 x5 x6 x7 x8 x9 x10 x11 x12 x13 x14 x15 x16 x17 x18 x19 x20 x21 x22 x23 =>
 (cond (decide (x1<(x22.length:Int))) (b9 x1 (x22.length:Int) ((aa.f k (x22.getD x1.toNat (Ty.z (.int .i64)))).bind fun r8=>(cD.f k (x2,(x3,(x4,(x5,())))) r8.1).bind fun r9=>(bp.f k r9.1).bind fun r10=>cond (!r9.2.1) ((cC.f k (x2,(x3,(x4,(x5,()))))).bind fun r11=>some (((x18,(x16,())),(x17,(x19,(x20,(x21,()))))),(r11.1,(3,())))) (b9 x1 (x22.length:Int) (cond ((x22.getD x1.toNat (Ty.z (.int .i64))) != x0) (cond (decide (r10.2.1<(r9.1.size:Int))) ((cC.f k (x2,(x3,(x4,(x5,()))))).bind fun r12=>some (((x18,(x16,())),(x17,(x19,(x20,(x21,()))))),(r12.1,(3,())))) (L0 x0 (aH (x1+1)) x2 x3 x4 x5 x6 x7 x8 x9 x10 x11 x12 x13 x14 x15 x16 x17 x18 x19 x20 x21 x22 x23)) (L0 x0 (aH (x1+1)) x2 x3 x4 x5 x6 x7 x8 x9 x10 x11 x12 x13 x14 x15 x16 x17 x18 x19 x20 x21 x22 x23))))) ((aa.f k x0).bind fun r13=>(cD.f k (x2,(x3,(x4,(x5,())))) r13.1).bind fun r14=>(bp.f k r14.1).bind fun r15=>(cC.f k (x2,(x3,(x4,(x5,()))))).bind fun r16=>cond (decide (r15.2.1<(r14.1.size:Int))) ((aa.f k x0).bind fun r17=>(jR.f k r16.1 r17.1 r15.2.1).bind fun r18=>cond (r18.2.1 != 0) ((aY.f k r18.2.1).bind fun r19=>some (((x18,(x16,())),(x17,(x19,(x20,(x21,()))))),(r18.1,r19))) ((aa.f k x0).bind fun r20=>(fN.f k r18.1 r20.1).bind fun r21=>cond (r21.2.1 != 0) ((aY.f k r21.2.1).bind fun r22=>some (((x18,(x16,())),(x17,(x19,(x20,(x21,()))))),(r21.1,r22))) (L1 0 x6 x7 x8 x9 x10 x11 x12 x13 x14 x15 x16 x17 x18 x19 x20 x21 x22 x23 r21.1.1 r21.1.2.1 r21.1.2.2.1 r21.1.2.2.2.1 [] x23 0 r15.2.1 0 [] 0 0 []))) ((aa.f k x0).bind fun r35=>(fN.f k r16.1 r35.1).bind fun r36=>cond (r36.2.1 != 0) ((aY.f k r36.2.1).bind fun r37=>some (((x18,(x16,())),(x17,(x19,(x20,(x21,()))))),(r36.1,r37))) (L2 0 x6 x7 x8 x9 x10 x11 x12 x13 x14 x15 x16 x17 x18 x19 x20 x21 x22 x23 r36.1.1 r36.1.2.1 r36.1.2.2.1 r36.1.2.2.2.1 [] x23 0 r15.2.1 0 [] 0 0 []))))
def l0:Nat→T0
 | 0=>fun _ _ _ _ _ _ _ _ _ _ _ _ _ _ _ _ _ _ _ _ _ _ _ _=>none
 | n+1=>b0 k (l1 k k) (l2 k k) (l0 n)
def t (L0:T0) (a0:Ty.d aA):Rs :=
 ((bQ.f k a0).bind fun r1=>cond (!r1.1) ((cC.f k a0).bind fun r2=>some (((0,([],())),([],(0,(0,(0,()))))),(r2.1,(4,())))) (cond a0.2.2.2.1 ((cC.f k a0).bind fun r3=>some (((0,([],())),([],(0,(0,(0,()))))),(r3.1,(1,())))) ((cD.f k a0 (⟨#[108,105,118,101]⟩:ByteArray)).bind fun r4=>cond (!r4.2.1) ((jT.f k a0).bind fun r5=>some r5) ((bf.f k r4.1).bind fun r6=>cond (!r6.2.1) ((cC.f k a0).bind fun r7=>some (((0,([],())),([],(0,(0,(0,()))))),(r7.1,(3,())))) (b9 (aH ((r6.1.2.1.length:Int)-1)) (r6.1.2.1.length:Int) (L0 (r6.1.2.1.getD (aH ((r6.1.2.1.length:Int)-1)).toNat (Ty.z (.int .i64))) 0 a0.1 a0.2.1 a0.2.2.1 a0.2.2.2.1 [] [] 0 0 0 0 [] 0 0 false [] [] 0 0 0 0 r6.1.2.1 r6.1.1))))))
def f:=t k (l0 k k)
end cK
namespace gX
abbrev Rs:Type:=Option ((Ty.d af) × Int × Unit)
def t (a0:Ty.d aA):Rs :=
 ((cK.f k a0).bind fun r1=>xG (Ty.bytes ai) 3 (some (((r1.2.2.1==0),(r1.1,(r1.2.1,((List.replicate (Int.toNat 3) (Ty.z ai)),())))),r1.2.2)))
def f:=t k
end gX
namespace db
abbrev Rs:Type:=Option ((Ty.d aG) × Unit)
def t (k:Nat) (a0:Ty.d aG):Rs :=
 (rm (Ty.bytes (.int .i64)) (0+List.length a0.1.2.1) (rm (Ty.bytes a_) (0+List.length a0.2.1) (some (((a0.1.1,(([]++a0.1.2.1),())),(([]++a0.2.1),a0.2.2)),()))))
def f:=t k
end db
namespace fY
abbrev Rs:Type:=Option ((Ty.d ai) × Unit)
def t (k:Nat) (a0:Ty.d ai):Rs :=
 (rm (Ty.bytes bV) (0+List.length a0.2.1) (rm (Ty.bytes aW) (0+List.length a0.2.2.1) (some ((a0.1,(([]++a0.2.1),(([]++a0.2.2.1),()))),()))))
def f:=t k
end fY
namespace eR
abbrev Rs:Type:=Option ((Ty.d af) × Unit)
abbrev T0:Type:=Int→List Int→List (Ty.d a_)→List (Ty.d aE)→Bool→Int→Int→Int→Int→Int→Int→Bool→List (Ty.d ai)→List Int→List (Ty.d a_)→List (Ty.d aE)→List (Ty.d ai)→Bool→Int→Int→Int→Int→Int→Int→Bool→List (Ty.d ai)→Rs
def b0 (L0:T0):T0:=fun x0 x1 x2 x3 x4 x5 x6 x7 x8 x9 x10 x11 x12 x13 x14 x15 x16 x17 x18 x19 x20 x21 x22 x23 x24 x25 =>
 (cond (decide (x0<(x12.length:Int))) (b9 x0 (x12.length:Int) ((fY.f k (x12.getD x0.toNat (Ty.z ai))).bind fun r3=>rm (Ty.bytes ai) (x25.length+1) (L0 (aH (x0+1)) x1 x2 x3 x4 x5 x6 x7 x8 x9 x10 x11 x12 x13 x14 x15 x16 x17 x18 x19 x20 x21 x22 x23 x24 (x25++[r3.1])))) (some ((x4,(((x5,(x1,())),(x2,(x6,(x7,(x8,()))))),((x3,(x9,(x10,(x11,())))),(x25,())))),())))
def l0:Nat→T0
 | 0=>fun _ _ _ _ _ _ _ _ _ _ _ _ _ _ _ _ _ _ _ _ _ _ _ _ _ _=>none
 | n+1=>b0 k (l0 n)
def t (L0:T0) (a0:Ty.d af):Rs :=
 ((db.f k a0.2.1).bind fun r1=>(cC.f k a0.2.2.1).bind fun r2=>L0 0 r1.1.1.2.1 r1.1.2.1 r2.1.1 a0.1 r1.1.1.1 r1.1.2.2.1 r1.1.2.2.2.1 r1.1.2.2.2.2.1 r2.1.2.1 r2.1.2.2.1 r2.1.2.2.2.1 a0.2.2.2.1 [] [] [] [] false 0 0 0 0 0 0 false [])
def f:=t k (l0 k k)
end eR
namespace eG
abbrev Rs:Type:=Option ((Ty.d aW) × Bool × Unit)
abbrev T0:Type:=ByteArray→Int→Bool→List (Ty.d bV)→List (Ty.d aW)→ByteArray→Bool→ByteArray→Rs
def b0 (k:Nat) (L0:T0):T0:=fun x0 x1 x2 x3 x4 x5 x6 x7 =>
 (cond (decide (x1≥0)) (b9 x1 (x4.length:Int) (cond (seq (x4.getD x1.toNat (Ty.z aW)).1 x0) (b9 x1 (x4.length:Int) (some ((x4.getD x1.toNat (Ty.z aW)),(true,())))) (L0 x0 (aH (x1-1)) x2 x3 x4 x5 x6 x7))) (some ((ByteArray.empty,(false,(ByteArray.empty,()))),(false,()))))
def l0:Nat→T0
 | 0=>fun _ _ _ _ _ _ _ _=>none
 | n+1=>b0 k (l0 n)
def t (k:Nat) (L0:T0) (a0:Ty.d ai) (a1:ByteArray):Rs :=
 (L0 a1 (aH ((a0.2.2.1.length:Int)-1)) a0.1 a0.2.1 a0.2.2.1 ByteArray.empty false ByteArray.empty)
def f:=t k (l0 k k)
end eG
namespace bM
abbrev Rs:Type:=Option ((List (Ty.d aW)) × Unit)
abbrev T1:Type:=Int→Bool→Int→Bool→List (Ty.d bV)→List (Ty.d aW)→List (Ty.d aW)→Rs
abbrev T0:Type:=Int→Bool→List (Ty.d bV)→List (Ty.d aW)→List (Ty.d aW)→Rs
def b1 (L0:T0) (L1:T1):T1:=fun x0 x1 x2 x3 x4 x5 x6 =>
 (cond (decide (x2<x0)) (cond x1 (b9 x2 (x5.length:Int) (b9 x0 (x5.length:Int) (L1 x0 (!(seq (x5.getD x2.toNat (Ty.z aW)).1 (x5.getD x0.toNat (Ty.z aW)).1)) (aH (x2+1)) x3 x4 x5 x6))) (L1 x0 false (aH (x2+1)) x3 x4 x5 x6)) (cond x1 (b9 x0 (x5.length:Int) ((eG.f k (x3,(x4,(x5,()))) (x5.getD x0.toNat (Ty.z aW)).1).bind fun r1=>rm (Ty.bytes aW) (x6.length+1) (L0 (aH (x0+1)) x3 x4 x5 (x6++[r1.1])))) (L0 (aH (x0+1)) x3 x4 x5 x6)))
def l1 (L0:T0):Nat→T1
 | 0=>fun _ _ _ _ _ _ _=>none
 | n+1=>b1 k L0 (l1 L0 n)
def b0 (k:Nat) (L1:T1) (L0:T0):T0:=fun x0 x1 x2 x3 x4 =>
 (cond (decide (x0<(x3.length:Int))) (L1 x0 true 0 x1 x2 x3 x4) (some (x4,())))
def l0:Nat→T0
 | 0=>fun _ _ _ _ _=>none
 | n+1=>b0 k (l1 k (l0 n) k) (l0 n)
def t (k:Nat) (L0:T0) (a0:Ty.d ai):Rs :=
 (L0 0 a0.1 a0.2.1 a0.2.2.1 [])
def f:=t k (l0 k k)
end bM
namespace mD
abbrev Rs:Type:=Option (Int × Unit)
def t (a0:Ty.d aA):Rs :=
 ((bQ.f k a0).bind fun r1=>cond (!r1.1) (some (0,())) ((eh.f k a0).bind fun r2=>some r2))
def f:=t k
end mD
namespace kK
abbrev Rs:Type:=Option ((Ty.d bR) × Bool × Unit)
def t (a0:ByteArray) (a1:Int) (a2:Int):Rs :=
 ((aS.f k a1 0 (a0.size:Int)).bind fun r1=>cond (!r1.1) (some ((0,(0,(ByteArray.empty,(ByteArray.empty,(0,(0,())))))),(false,()))) ((aS.f k a2 1 (aH ((a0.size:Int)-a1))).bind fun r2=>cond (!r2.1) (some ((0,(0,(ByteArray.empty,(ByteArray.empty,(0,(0,())))))),(false,()))) (GW a1 (aH (a1+a2)) (a0.size:Int) ((eP.f k (a0.extract a1.toNat (aH (a1+a2)).toNat)).bind fun r3=>(fE.f k r3.1).bind fun r4=>cond (r3.2.1 != a2) (some ((0,(0,(ByteArray.empty,(ByteArray.empty,(0,(0,())))))),(false,()))) (cond (!r4.2.1) (some ((0,(0,(ByteArray.empty,(ByteArray.empty,(0,(0,())))))),(false,()))) (some (r4.1,(true,()))))))))
def f:=t k
end kK
namespace ch
abbrev Rs:Type:=Option (Bool × Unit)
abbrev T1:Type:=Int→Int→List Int→List (Ty.d a_)→Int→Int→Int→List (Ty.d aE)→Int→Int→Bool→Rs
abbrev T0:Type:=Int→Int→List Int→List (Ty.d a_)→Int→Int→Int→List (Ty.d aE)→Int→Int→Bool→Rs
def b1 (L1:T1):T1:=fun x0 x1 x2 x3 x4 x5 x6 x7 x8 x9 x10 =>
 (cond (decide (x0<(x3.length:Int))) (b9 x0 (x3.length:Int) ((aa.f k (x3.getD x0.toNat (Ty.z a_)).2.1).bind fun r8=>(cD.f k (x7,(x8,(x9,(x10,())))) r8.1).bind fun r9=>(kK.f k r9.1 (x3.getD x0.toNat (Ty.z a_)).2.2.1 (x3.getD x0.toNat (Ty.z a_)).2.2.2.1).bind fun r10=>cond (!r10.2.1) (some (false,())) (cond (!(seq r10.1.2.2.1 (x3.getD x0.toNat (Ty.z a_)).1)) (some (false,())) (cond (r10.1.2.1 != (x3.getD x0.toNat (Ty.z a_)).2.2.2.2.1) (some (false,())) (cond (r10.1.1 != 1) (cond (r10.1.1 != 4) (some (false,())) (cond (decide ((x3.getD x0.toNat (Ty.z a_)).2.2.2.2.1≥x4)) (some (false,())) (L1 (aH (x0+1)) x1 x2 x3 x4 x5 x6 x7 x8 x9 x10))) (cond (decide ((x3.getD x0.toNat (Ty.z a_)).2.2.2.2.1≥x4)) (some (false,())) (L1 (aH (x0+1)) x1 x2 x3 x4 x5 x6 x7 x8 x9 x10))))))) (some (true,())))
def l1:Nat→T1
 | 0=>fun _ _ _ _ _ _ _ _ _ _ _=>none
 | n+1=>b1 k (l1 n)
def b0 (L1:T1) (L0:T0):T0:=fun x0 x1 x2 x3 x4 x5 x6 x7 x8 x9 x10 =>
 (cond (decide (x0<(x2.length:Int))) (b9 x0 (x2.length:Int) ((aa.f k (x2.getD x0.toNat (Ty.z (.int .i64)))).bind fun r5=>(cD.f k (x7,(x8,(x9,(x10,())))) r5.1).bind fun r6=>(bp.f k r6.1).bind fun r7=>cond (!r6.2.1) (some (false,())) (cond (decide (r7.2.1<(r6.1.size:Int))) (some (false,())) (cond ((aH (x0+1))==(x2.length:Int)) (cond (x5 != (r6.1.size:Int)) (some (false,())) (L0 (aH (x0+1)) x1 x2 x3 x4 x5 x6 x7 x8 x9 x10)) (L0 (aH (x0+1)) x1 x2 x3 x4 x5 x6 x7 x8 x9 x10))))) (L1 0 x1 x2 x3 x4 x5 x6 x7 x8 x9 x10))
def l0:Nat→T0
 | 0=>fun _ _ _ _ _ _ _ _ _ _ _=>none
 | n+1=>b0 k (l1 k k) (l0 n)
def t (L0:T0) (a0:Ty.d aG) (a1:Ty.d aA):Rs :=
 ((bQ.f k a1).bind fun r1=>cond (!r1.1) (some (false,())) ((dy.f k a0.1).bind fun r2=>cond (!r2.1) (some (false,())) ((fy.f k a0.2.1).bind fun r3=>cond (!r3.1) (some (false,())) ((aS.f k a0.2.2.1 1 1000001).bind fun r4=>cond (!r4.1) (some (false,())) (L0 0 a0.1.1 a0.1.2.1 a0.2.1 a0.2.2.1 a0.2.2.2.1 a0.2.2.2.2.1 a1.1 a1.2.1 a1.2.2.1 a1.2.2.2.1)))))
def f:=t k (l0 k k)
end ch
namespace fq
abbrev Rs:Type:=Option ((Ty.d a_) × Bool × Unit)
abbrev T0:Type:=List (Ty.d a_)→ByteArray→Int→ByteArray→Int→Int→Int→Int→Rs
def b0 (k:Nat) (L0:T0):T0:=fun x0 x1 x2 x3 x4 x5 x6 x7 =>
 (cond (decide (x2<(x0.length:Int))) (b9 x2 (x0.length:Int) (cond (seq (x0.getD x2.toNat (Ty.z a_)).1 x1) (b9 x2 (x0.length:Int) (some ((x0.getD x2.toNat (Ty.z a_)),(true,())))) (L0 x0 x1 (aH (x2+1)) x3 x4 x5 x6 x7))) (some ((ByteArray.empty,(0,(0,(0,(0,()))))),(false,()))))
def l0:Nat→T0
 | 0=>fun _ _ _ _ _ _ _ _=>none
 | n+1=>b0 k (l0 n)
def t (k:Nat) (L0:T0) (a0:List (Ty.d a_)) (a1:ByteArray):Rs :=
 (L0 a0 a1 0 ByteArray.empty 0 0 0 0)
def f:=t k (l0 k k)
end fq
namespace mP
abbrev Rs:Type:=Option ((Ty.d aE) × Int × Unit)
def t (a0:Ty.d aG) (a1:Ty.d aA) (a2:ByteArray):Rs :=
 ((fq.f k a0.2.1 a2).bind fun r1=>cond (!r1.2.1) (some ((ByteArray.empty,(ByteArray.empty,(0,()))),(8,()))) ((aa.f k r1.1.2.1).bind fun r2=>(cD.f k a1 r2.1).bind fun r3=>(kK.f k r3.1 r1.1.2.2.1 r1.1.2.2.2.1).bind fun r4=>cond (!r3.2.1) (some ((ByteArray.empty,(ByteArray.empty,(0,()))),(3,()))) (cond (!r4.2.1) (some ((ByteArray.empty,(ByteArray.empty,(0,()))),(3,()))) (cond (!(seq r4.1.2.2.1 a2)) (some ((ByteArray.empty,(ByteArray.empty,(0,()))),(3,()))) (cond (r4.1.1 != 1) (cond (r4.1.1 != 4) (some ((ByteArray.empty,(ByteArray.empty,(0,()))),(3,()))) (some ((a2,(r4.1.2.2.2.1,(r4.1.2.1,()))),(0,())))) (some ((a2,(r4.1.2.2.2.1,(r4.1.2.1,()))),(0,()))))))))
def f:=t k
end mP
namespace jW
abbrev Rs:Type:=Option ((List (Ty.d aE)) × Int × Unit)
abbrev T0:Type:=Int→Int→List Int→List (Ty.d a_)→Int→Int→Int→List (Ty.d aE)→Int→Int→Bool→List (Ty.d aE)→Rs
def b0 (L0:T0):T0:=fun x0 x1 x2 x3 x4 x5 x6 x7 x8 x9 x10 x11 =>
 (cond (decide (x0<(x3.length:Int))) (b9 x0 (x3.length:Int) ((mP.f k ((x1,(x2,())),(x3,(x4,(x5,(x6,()))))) (x7,(x8,(x9,(x10,())))) (x3.getD x0.toNat (Ty.z a_)).1).bind fun r1=>cond (r1.2.1 != 0) (some ([],r1.2)) (rm (Ty.bytes aE) (x11.length+1) (L0 (aH (x0+1)) x1 x2 x3 x4 x5 x6 x7 x8 x9 x10 (x11++[r1.1]))))) (some (x11,(0,()))))
def l0:Nat→T0
 | 0=>fun _ _ _ _ _ _ _ _ _ _ _ _=>none
 | n+1=>b0 k (l0 n)
def t (k:Nat) (L0:T0) (a0:Ty.d aG) (a1:Ty.d aA):Rs :=
 (L0 0 a0.1.1 a0.1.2.1 a0.2.1 a0.2.2.1 a0.2.2.2.1 a0.2.2.2.2.1 a1.1 a1.2.1 a1.2.2.1 a1.2.2.2.1 [])
def f:=t k (l0 k k)
end jW
namespace lr
abbrev Rs:Type:=Option ((Ty.d bR) × Unit)
def t (k:Nat) (a0:Ty.d aE):Rs :=
 (some ((4,(a0.2.2.1,(a0.1,(a0.2.1,(0,(0,())))))),()))
def f:=t k
end lr
namespace ip
abbrev Rs:Type:=Option ((Ty.d bR) × Unit)
def t (a0:List (Ty.d bR)) (a1:Int) (a2:Int):Rs :=
 ((gu.f k a0).bind fun r1=>some ((a2,(a1,(ByteArray.empty,(ByteArray.empty,((a0.length:Int),r1))))),()))
def f:=t k
end ip
namespace eY
abbrev Rs:Type:=Option ((Ty.d aA) × (List (Ty.d a_)) × Int × Unit)
abbrev T0:Type:=Int→List (Ty.d aE)→Int→Int→Int→Int→List (Ty.d aE)→Int→Int→Bool→List (Ty.d a_)→List (Ty.d aE)→Int→Int→Bool→List (Ty.d bR)→Rs
def b0 (L0:T0):T0:=fun x0 x1 x2 x3 x4 x5 x6 x7 x8 x9 x10 x11 x12 x13 x14 x15 =>
 (cond (decide (x5<(x1.length:Int))) (cond (x3==0) (b9 x5 (x1.length:Int) ((lr.f k (x1.getD x5.toNat (Ty.z aE))).bind fun r3=>(cg.f k r3.1).bind fun r4=>(gR.f k r4.1).bind fun r5=>(aa.f k x0).bind fun r6=>(eo.f k (x11,(x12,(x13,(x14,())))) r6.1 r5.1).bind fun r7=>rm (Ty.bytes bR) (x15.length+1) (rm (Ty.bytes a_) (x10.length+1) (L0 x0 x1 x2 r7.2.1 (aH (x4+(r5.1.size:Int))) (aH (x5+1)) x6 x7 x8 x9 (x10++[(r3.1.2.2.1,(x0,(x4,((r5.1.size:Int),(r3.1.2.1,())))))]) r7.1.1 r7.1.2.1 r7.1.2.2.1 r7.1.2.2.2.1 (x15++[r3.1]))))) (cond (x3==0) ((aa.f k x0).bind fun r8=>(ip.f k x15 x2 5).bind fun r9=>(cg.f k r9.1).bind fun r10=>(gR.f k r10.1).bind fun r11=>(eo.f k (x11,(x12,(x13,(x14,())))) r8.1 r11.1).bind fun r12=>cond (r12.2.1==0) ((aa.f k x0).bind fun r13=>(fN.f k r12.1 r13.1).bind fun r14=>(aY.f k r14.2.1).bind fun r15=>some (r14.1,(x10,r15))) ((aY.f k r12.2.1).bind fun r16=>some (r12.1,(x10,r16)))) (cond (x3==0) ((aa.f k x0).bind fun r17=>(fN.f k (x11,(x12,(x13,(x14,())))) r17.1).bind fun r18=>(aY.f k r18.2.1).bind fun r19=>some (r18.1,(x10,r19))) ((aY.f k x3).bind fun r20=>some ((x11,(x12,(x13,(x14,())))),(x10,r20)))))) (cond (x3==0) ((aa.f k x0).bind fun r21=>(ip.f k x15 x2 5).bind fun r22=>(cg.f k r22.1).bind fun r23=>(gR.f k r23.1).bind fun r24=>(eo.f k (x11,(x12,(x13,(x14,())))) r21.1 r24.1).bind fun r25=>cond (r25.2.1==0) ((aa.f k x0).bind fun r26=>(fN.f k r25.1 r26.1).bind fun r27=>(aY.f k r27.2.1).bind fun r28=>some (r27.1,(x10,r28))) ((aY.f k r25.2.1).bind fun r29=>some (r25.1,(x10,r29)))) (cond (x3==0) ((aa.f k x0).bind fun r30=>(fN.f k (x11,(x12,(x13,(x14,())))) r30.1).bind fun r31=>(aY.f k r31.2.1).bind fun r32=>some (r31.1,(x10,r32))) ((aY.f k x3).bind fun r33=>some ((x11,(x12,(x13,(x14,())))),(x10,r33))))))
def l0:Nat→T0
 | 0=>fun _ _ _ _ _ _ _ _ _ _ _ _ _ _ _ _=>none
 | n+1=>b0 k (l0 n)
def t (L0:T0) (a0:Ty.d aA) (a1:Int) (a2:List (Ty.d aE)) (a3:Int):Rs :=
 ((aa.f k a1).bind fun r1=>(eX.f k a0 r1.1).bind fun r2=>L0 a1 a2 a3 r2.2.1 0 0 [] 0 0 false [] r2.1.1 r2.1.2.1 r2.1.2.2.1 r2.1.2.2.2.1 [])
def f:=t k (l0 k k)
end eY
namespace cP
abbrev Rs:Type:=Option ((Ty.d aA) × Int × Unit)
abbrev T0:Type:=List ByteArray→Int→List (Ty.d aE)→Int→Int→Bool→List (Ty.d aE)→Int→Int→Bool→Rs
def b0 (L0:T0):T0:=fun x0 x1 x2 x3 x4 x5 x6 x7 x8 x9 =>
 (cond (decide (x1<(x0.length:Int))) (b9 x1 (x0.length:Int) ((bY.f k (x2,(x3,(x4,(x5,())))) (x0.getD x1.toNat (Ty.z .str))).bind fun r1=>cond (decide (r1.1<0)) (L0 x0 (aH (x1+1)) x2 x3 x4 x5 x6 x7 x8 x9) (b9 x1 (x0.length:Int) ((fp.f k (x2,(x3,(x4,(x5,())))) (x0.getD x1.toNat (Ty.z .str))).bind fun r2=>cond (r2.2.1 != 0) (some r2) (L0 x0 (aH (x1+1)) r2.1.1 r2.1.2.1 r2.1.2.2.1 r2.1.2.2.2.1 x6 x7 x8 x9))))) (some ((x2,(x3,(x4,(x5,())))),(0,()))))
def l0:Nat→T0
 | 0=>fun _ _ _ _ _ _ _ _ _ _=>none
 | n+1=>b0 k (l0 n)
def t (k:Nat) (L0:T0) (a0:Ty.d aA) (a1:List ByteArray):Rs :=
 (L0 a1 0 a0.1 a0.2.1 a0.2.2.1 a0.2.2.2.1 [] 0 0 false)
def f:=t k (l0 k k)
end cP
namespace eT
abbrev Rs:Type:=Option ((Ty.d aG) × (Ty.d aA) × Int × Unit)
def t (a0:Ty.d aG) (a1:Ty.d aA) (a2:Int) (a3:Int):Rs :=
 (cond (a3 != 2) (some (a0,(a1,(a3,())))) ((aa.f k a2).bind fun r1=>(aa.f k (aH (a2+1))).bind fun r2=>(dO.f k a2).bind fun r3=>(cP.f k a1 [(⟨#[116,101,109,112]⟩:ByteArray),r1.1,r2.1,r3.1]).bind fun r4=>cond (r4.2.1 != 0) ((aY.f k r4.2.1).bind fun r5=>some (a0,(r4.1,r5))) (some (a0,(r4.1,(a3,()))))))
def f:=t k
end eT
namespace cI
abbrev Rs:Type:=Option ((Ty.d aG) × (Ty.d aA) × Int × Unit)
abbrev T0:Type:=Int→List Int→List (Ty.d a_)→Int→Int→Int→Int→List Int→List (Ty.d a_)→Int→Int→Int→Int→List (Ty.d aE)→Int→Int→Bool→List (Ty.d aE)→Int→Int→Bool→List Int→Rs
def b0 (L0:T0):T0:=fun x0 x1 x2 x3 x4 x5 x6 x7 x8 x9 x10 x11 x12 x13 x14 x15 x16 x17 x18 x19 x20 x21 =>
 (cond (decide (x0<(x21.length:Int))) (b9 x0 (x21.length:Int) ((aa.f k (x21.getD x0.toNat (Ty.z (.int .i64)))).bind fun r18=>b9 x0 (x21.length:Int) ((dO.f k (x21.getD x0.toNat (Ty.z (.int .i64)))).bind fun r19=>(cP.f k (x17,(x18,(x19,(x20,())))) [r18.1,r19.1]).bind fun r20=>cond (r20.2.1 != 0) ((aY.f k r20.2.1).bind fun r21=>some (((x3,(x1,())),(x2,(x4,(x5,(x6,()))))),(r20.1,r21))) (L0 (aH (x0+1)) x1 x2 x3 x4 x5 x6 x7 x8 x9 x10 x11 x12 x13 x14 x15 x16 r20.1.1 r20.1.2.1 r20.1.2.2.1 r20.1.2.2.2.1 x21)))) (some (((x3,(x1,())),(x2,(x4,(x5,(x6,()))))),((x17,(x18,(x19,(x20,())))),(0,())))))
def l0:Nat→T0
 | 0=>fun _ _ _ _ _ _ _ _ _ _ _ _ _ _ _ _ _ _ _ _ _ _=>none
 | n+1=>b0 k (l0 n)
def t (L0:T0) (a0:Ty.d aG) (a1:Ty.d aA) (a2:List (Ty.d aE)):Rs :=
 ((eY.f k a1 a0.1.1 a2 (aH (a0.2.2.1-1))).bind fun r1=>cond (r1.2.2.1 != 0) ((eT.f k (((aH (a0.1.1+2)),a0.1.2),a0.2) r1.1 a0.1.1 r1.2.2.1).bind fun r2=>some r2) ((aa.f k (aH (a0.1.1+1))).bind fun r3=>(eX.f k r1.1 r3.1).bind fun r4=>cond (r4.2.1 != 0) ((aY.f k r4.2.1).bind fun r5=>(eT.f k (((aH (a0.1.1+2)),a0.1.2),a0.2) r4.1 a0.1.1 r5.1).bind fun r6=>some r6) ((aa.f k a0.1.1).bind fun r7=>(cD.f k r4.1 r7.1).bind fun r8=>(f8.f k a0.1.1 r8.1).bind fun r9=>(dO.f k a0.1.1).bind fun r10=>(eJ.f k r9.1).bind fun r11=>(ik.f k r4.1 r10.1 r11.1).bind fun r12=>cond (r12.2.1==2) ((dO.f k a0.1.1).bind fun r13=>(cP.f k r12.1 [r13.1]).bind fun r14=>cond (r14.2.1 != 0) ((aY.f k r14.2.1).bind fun r15=>some ((((aH (a0.1.1+2)),a0.1.2),a0.2),(r14.1,r15))) (rm (Ty.bytes (.int .i64)) (0+List.length a0.1.2.1) ((fa.f k r14.1 ((aH (a0.1.1+2)),([a0.1.1,(aH (a0.1.1+1))],()))).bind fun r16=>cond (r16.2.1 != 0) ((eT.f k (((aH (a0.1.1+2)),a0.1.2),a0.2) r16.1 a0.1.1 r16.2.1).bind fun r17=>some r17) (L0 0 [a0.1.1,(aH (a0.1.1+1))] r1.2.1 (aH (a0.1.1+2)) a0.2.2.1 0 0 [] [] 0 0 0 0 [] 0 0 false r16.1.1 r16.1.2.1 r16.1.2.2.1 r16.1.2.2.2.1 ([]++a0.1.2.1))))) (cond (r12.2.1 != 0) ((aY.f k r12.2.1).bind fun r22=>some ((((aH (a0.1.1+2)),a0.1.2),a0.2),(r12.1,r22))) (rm (Ty.bytes (.int .i64)) (0+List.length a0.1.2.1) ((fa.f k r12.1 ((aH (a0.1.1+2)),([a0.1.1,(aH (a0.1.1+1))],()))).bind fun r23=>cond (r23.2.1 != 0) ((eT.f k (((aH (a0.1.1+2)),a0.1.2),a0.2) r23.1 a0.1.1 r23.2.1).bind fun r24=>some r24) (L0 0 [a0.1.1,(aH (a0.1.1+1))] r1.2.1 (aH (a0.1.1+2)) a0.2.2.1 0 0 [] [] 0 0 0 0 [] 0 0 false r23.1.1 r23.1.2.1 r23.1.2.2.1 r23.1.2.2.2.1 ([]++a0.1.2.1))))))))
def f:=t k (l0 k k)
end cI
namespace lb
abbrev Rs:Type:=Option ((Ty.d aG) × (Ty.d aA) × Int × Unit)
def t (a0:Ty.d aG) (a1:Ty.d aA):Rs :=
 ((db.f k a0).bind fun r1=>(cC.f k a1).bind fun r2=>(ch.f k a0 a1).bind fun r3=>cond (!r3.1) (some (r1.1,(r2.1,(4,())))) (cond (decide ((aH (a0.1.1+2)) > 100000)) (some (r1.1,(r2.1,(5,())))) ((jW.f k a0 a1).bind fun r4=>cond (r4.2.1 != 0) (some (r1.1,(r2.1,r4.2))) ((cI.f k r1.1 r2.1 r4.1).bind fun r5=>some r5))))
def f:=t k
end lb
namespace gH
abbrev Rs:Type:=Option ((List ByteArray) × Unit)
abbrev T0:Type:=List (Ty.d a_)→Int→List ByteArray→Rs
def b0 (k:Nat) (L0:T0):T0:=fun x0 x1 x2 =>
 (cond (decide (x1<(x0.length:Int))) (b9 x1 (x0.length:Int) (rm (Ty.bytes .str) (x2.length+1) (L0 x0 (aH (x1+1)) (x2++[(x0.getD x1.toNat (Ty.z a_)).1])))) (some (x2,())))
def l0:Nat→T0
 | 0=>fun _ _ _=>none
 | n+1=>b0 k (l0 n)
def t (k:Nat) (L0:T0) (a0:List (Ty.d a_)):Rs :=
 (L0 a0 0 [])
def f:=t k (l0 k k)
end gH
namespace gK
abbrev Rs:Type:=Option ((Ty.d ai) × Int × Unit)
abbrev T0:Type:=ByteArray→Int→Int→Bool→List (Ty.d bV)→List (Ty.d aW)→List (Ty.d bV)→List (Ty.d aW)→Bool→List (Ty.d bV)→List (Ty.d aW)→Bool→Rs
def b0 (k:Nat) (L0:T0):T0:=fun x0 x1 x2 x3 x4 x5 x6 x7 x8 x9 x10 x11 =>
 (cond (decide (x2<(x4.length:Int))) (b9 x2 (x4.length:Int) (cond (seq (x4.getD x2.toNat (Ty.z bV)).1 x0) (b9 x2 (x4.length:Int) (cond ((x4.getD x2.toNat (Ty.z bV)).2.1 != x1) (some ((x11,(x9,(x10,()))),(7,()))) (some ((x11,(x9,(x10,()))),(0,()))))) (L0 x0 x1 (aH (x2+1)) x3 x4 x5 x6 x7 x8 x9 x10 x11))) (cond (decide ((x4.length:Int)≥20)) (some ((x11,(x9,(x10,()))),(5,()))) (rm (Ty.bytes bV) (x9.length+1) (some ((x11,((x9++[(x0,(x1,()))]),(x10,()))),(0,()))))))
def l0:Nat→T0
 | 0=>fun _ _ _ _ _ _ _ _ _ _ _ _=>none
 | n+1=>b0 k (l0 n)
def t (L0:T0) (a0:Ty.d ai) (a1:ByteArray) (a2:Int):Rs :=
 ((fY.f k a0).bind fun r1=>cond (!a0.1) (some (r1.1,(4,()))) ((dA.f k a1).bind fun r2=>cond (!r2.1) (some (r1.1,(4,()))) (L0 a1 a2 0 a0.1 a0.2.1 a0.2.2.1 [] [] false r1.1.2.1 r1.1.2.2.1 r1.1.1)))
def f:=t k (l0 k k)
end gK
namespace gB
abbrev Rs:Type:=Option ((Ty.d af) × (Ty.d ac) × Unit)
def t (a0:Ty.d af) (a1:Ty.d aZ):Rs :=
 (b9 a1.2.1 (a0.2.2.2.1.length:Int) ((dA.f k a1.2.2.1).bind fun r1=>cond (!r1.1) (some (a0,((4,(ByteArray.empty,([],()))),()))) ((eG.f k (a0.2.2.2.1.getD a1.2.1.toNat (Ty.z ai)) a1.2.2.1).bind fun r2=>cond r2.2.1 (cond r2.1.2.1 (some (a0,((8,(ByteArray.empty,([],()))),()))) (some (a0,((0,(r2.1.2.2.1,([],()))),())))) ((mP.f k a0.2.1 a0.2.2.1 a1.2.2.1).bind fun r3=>cond (r3.2.1==3) (some (a0,((r3.2.1,(ByteArray.empty,([],()))),()))) ((gK.f k (a0.2.2.2.1.getD a1.2.1.toNat (Ty.z ai)) a1.2.2.1 r3.1.2.2.1).bind fun r4=>cond (r4.2.1 != 0) (some (a0,((r4.2.1,(ByteArray.empty,([],()))),()))) (b9 a1.2.1 (a0.2.2.2.1.length:Int) (let l5:=(a0.2.2.2.1.set a1.2.1.toNat r4.1);(some ((a0.1,(a0.2.1,(a0.2.2.1,(l5,())))),((r3.2.1,(r3.1.2.1,([],()))),()))))))))))
def f:=t k
end gB
namespace iX
abbrev Rs:Type:=Option (Bool × Unit)
abbrev T0:Type:=List (Ty.d a_)→Int→Bool→List (Ty.d bV)→List (Ty.d aW)→Rs
def b0 (L0:T0):T0:=fun x0 x1 x2 x3 x4 =>
 (cond (decide (x1<(x3.length:Int))) (b9 x1 (x3.length:Int) ((fq.f k x0 (x3.getD x1.toNat (Ty.z bV)).1).bind fun r1=>b9 x1 (x3.length:Int) (cond (r1.1.2.2.2.2.1 != (x3.getD x1.toNat (Ty.z bV)).2.1) (some (false,())) (L0 x0 (aH (x1+1)) x2 x3 x4)))) (some (true,())))
def l0:Nat→T0
 | 0=>fun _ _ _ _ _=>none
 | n+1=>b0 k (l0 n)
def t (k:Nat) (L0:T0) (a0:Ty.d ai) (a1:List (Ty.d a_)):Rs :=
 (L0 a1 0 a0.1 a0.2.1 a0.2.2.1)
def f:=t k (l0 k k)
end iX
namespace co
abbrev Rs:Type:=Option (Bool × Unit)
abbrev T0:Type:=List (Ty.d aW)→Int→Rs
def b0 (L0:T0):T0:=fun x0 x1 =>
 (cond (decide (x1<(x0.length:Int))) (b9 x1 (x0.length:Int) ((dA.f k (x0.getD x1.toNat (Ty.z aW)).1).bind fun r1=>cond (!r1.1) (some (false,())) (b9 x1 (x0.length:Int) (cond (decide ((ByteArray.size (x0.getD x1.toNat (Ty.z aW)).2.2.1:Int) > 24)) (some (false,())) (b9 x1 (x0.length:Int) (cond (x0.getD x1.toNat (Ty.z aW)).2.1 (b9 x1 (x0.length:Int) (cond (!(seq (x0.getD x1.toNat (Ty.z aW)).2.2.1 (⟨#[]⟩:ByteArray))) (some (false,())) (L0 x0 (aH (x1+1))))) (L0 x0 (aH (x1+1))))))))) (some (true,())))
def l0:Nat→T0
 | 0=>fun _ _=>none
 | n+1=>b0 k (l0 n)
def t (k:Nat) (L0:T0) (a0:List (Ty.d aW)):Rs :=
 (cond (decide ((a0.length:Int) > 8)) (some (false,())) (L0 a0 0))
def f:=t k (l0 k k)
end co
namespace dh
abbrev Rs:Type:=Option (Int × Unit)
abbrev T1:Type:=List (Ty.d aW)→Int→List (Ty.d a_)→Rs
abbrev T0:Type:=List (Ty.d a_)→List (Ty.d aW)→Int→Rs
def b1 (L1:T1):T1:=fun x0 x1 x2 =>
 (cond (decide (x1<(x0.length:Int))) (b9 x1 (x0.length:Int) (cond (x0.getD x1.toNat (Ty.z aW)).2.1 (b9 x1 (x0.length:Int) ((da.f k x2 (x0.getD x1.toNat (Ty.z aW)).1).bind fun r2=>L1 x0 (aH (x1+1)) r2.1)) (b9 x1 (x0.length:Int) ((cU.f k x2 ((x0.getD x1.toNat (Ty.z aW)).1,(0,(0,(0,(0,())))))).bind fun r3=>L1 x0 (aH (x1+1)) r3.1)))) (some ((x2.length:Int),())))
def l1:Nat→T1
 | 0=>fun _ _ _=>none
 | n+1=>b1 k (l1 n)
def b0 (L1:T1):T0:=fun x0 x1 x2 =>
 (cond (decide (x2<(x1.length:Int))) (b9 x2 (x1.length:Int) (cond (x1.getD x2.toNat (Ty.z aW)).2.1 (b9 x2 (x1.length:Int) ((da.f k x0 (x1.getD x2.toNat (Ty.z aW)).1).bind fun r1=>L1 x1 (aH (x2+1)) r1.1)) (b9 x2 (x1.length:Int) ((cU.f k x0 ((x1.getD x2.toNat (Ty.z aW)).1,(0,(0,(0,(0,())))))).bind fun r4=>L1 x1 (aH (x2+1)) r4.1)))) (some ((x0.length:Int),())))
def l0:Nat→T0
 | 0=>fun _ _ _=>none
 | n+1=>b0 k (l1 k n)
def t (k:Nat) (L0:T0) (a0:List (Ty.d a_)) (a1:List (Ty.d aW)):Rs :=
 (L0 a0 a1 0)
def f:=t k (l0 k k)
end dh
namespace dV
abbrev Rs:Type:=Option (ByteArray × Unit)
def t (a0:Ty.d aG):Rs :=
 (b9 (aH ((a0.1.2.1.length:Int)-1)) (a0.1.2.1.length:Int) ((aa.f k (a0.1.2.1.getD (aH ((a0.1.2.1.length:Int)-1)).toNat (Ty.z (.int .i64)))).bind fun r1=>some r1))
def f:=t k
end dV
namespace gU
abbrev Rs:Type:=Option ((Ty.d aG) × (Ty.d aA) × Int × Unit)
def t (a0:Ty.d aG) (a1:Ty.d aA):Rs :=
 (cond (decide ((a0.1.2.1.length:Int)≥60)) (some (a0,(a1,(5,())))) (cond (decide (a0.1.1≥100000)) (some (a0,(a1,(5,())))) ((dV.f k a0).bind fun r1=>(fN.f k a1 r1.1).bind fun r2=>cond (r2.2.1 != 0) ((aY.f k r2.2.1).bind fun r3=>some (a0,(r2.1,r3))) ((aa.f k a0.1.1).bind fun r4=>(eX.f k r2.1 r4.1).bind fun r5=>cond (r5.2.1 != 0) ((aY.f k r5.2.1).bind fun r6=>some ((((aH (a0.1.1+1)),a0.1.2),a0.2),(r5.1,r6))) (rm (Ty.bytes (.int .i64)) (0+List.length a0.1.2.1) (rm (Ty.bytes (.int .i64)) (List.length ([]++a0.1.2.1)+1) ((fa.f k r5.1 ((aH (a0.1.1+1)),((([]++a0.1.2.1)++[a0.1.1]),()))).bind fun r7=>cond (r7.2.1==2) ((aa.f k a0.1.1).bind fun r8=>(cP.f k r7.1 [(⟨#[116,101,109,112]⟩:ByteArray),r8.1]).bind fun r9=>cond (r9.2.1 != 0) ((aY.f k r9.2.1).bind fun r10=>some ((((aH (a0.1.1+1)),a0.1.2),a0.2),(r9.1,r10))) (some ((((aH (a0.1.1+1)),a0.1.2),a0.2),(r9.1,r7.2)))) (cond (r7.2.1 != 0) (some ((((aH (a0.1.1+1)),a0.1.2),a0.2),r7)) (some ((((aH (a0.1.1+1)),((([]++a0.1.2.1)++[a0.1.1]),())),(a0.2.1,(a0.2.2.1,(0,a0.2.2.2.2)))),(r7.1,(0,()))))))))))))
def f:=t k
end gU
namespace fH
abbrev Rs:Type:=Option ((Ty.d aG) × (Ty.d aA) × (Ty.d aD) × Int × Unit)
def t (a0:Ty.d aG) (a1:Ty.d aA) (a2:Ty.d bR):Rs :=
 ((cg.f k a2).bind fun r1=>(gR.f k r1.1).bind fun r2=>cond (decide (a0.2.2.2.1 > 0)) (cond (decide ((aH (a0.2.2.2.1+(r2.1.size:Int))) > 200)) ((gU.f k a0 a1).bind fun r3=>cond (r3.2.2.1 != 0) (some (r3.1,(r3.2.1,((0,(0,(0,((0,(0,(ByteArray.empty,(ByteArray.empty,(0,(0,())))))),())))),r3.2.2)))) ((dV.f k r3.1).bind fun r4=>(eo.f k r3.2.1 r4.1 r2.1).bind fun r5=>cond (r5.2.1 != 0) ((aY.f k r5.2.1).bind fun r6=>some (r3.1,(r5.1,((0,(0,(0,((0,(0,(ByteArray.empty,(ByteArray.empty,(0,(0,())))))),())))),r6)))) (b9 (aH ((r3.1.1.2.1.length:Int)-1)) (r3.1.1.2.1.length:Int) (some ((r3.1.1,(r3.1.2.1,(r3.1.2.2.1,((aH (r3.1.2.2.2.1+(r2.1.size:Int))),r3.1.2.2.2.2)))),(r5.1,(((r3.1.1.2.1.getD (aH ((r3.1.1.2.1.length:Int)-1)).toNat (Ty.z (.int .i64))),(r3.1.2.2.2.1,((r2.1.size:Int),(a2,())))),(0,())))))))) ((dV.f k a0).bind fun r7=>(eo.f k a1 r7.1 r2.1).bind fun r8=>cond (r8.2.1 != 0) ((aY.f k r8.2.1).bind fun r9=>some (a0,(r8.1,((0,(0,(0,((0,(0,(ByteArray.empty,(ByteArray.empty,(0,(0,())))))),())))),r9)))) (b9 (aH ((a0.1.2.1.length:Int)-1)) (a0.1.2.1.length:Int) (some ((a0.1,(a0.2.1,(a0.2.2.1,((aH (a0.2.2.2.1+(r2.1.size:Int))),a0.2.2.2.2)))),(r8.1,(((a0.1.2.1.getD (aH ((a0.1.2.1.length:Int)-1)).toNat (Ty.z (.int .i64))),(a0.2.2.2.1,((r2.1.size:Int),(a2,())))),(0,())))))))) ((dV.f k a0).bind fun r10=>(eo.f k a1 r10.1 r2.1).bind fun r11=>cond (r11.2.1 != 0) ((aY.f k r11.2.1).bind fun r12=>some (a0,(r11.1,((0,(0,(0,((0,(0,(ByteArray.empty,(ByteArray.empty,(0,(0,())))))),())))),r12)))) (b9 (aH ((a0.1.2.1.length:Int)-1)) (a0.1.2.1.length:Int) (some ((a0.1,(a0.2.1,(a0.2.2.1,((aH (a0.2.2.2.1+(r2.1.size:Int))),a0.2.2.2.2)))),(r11.1,(((a0.1.2.1.getD (aH ((a0.1.2.1.length:Int)-1)).toNat (Ty.z (.int .i64))),(a0.2.2.2.1,((r2.1.size:Int),(a2,())))),(0,()))))))))
def f:=t k
end fH
namespace bn
abbrev Rs:Type:=Option ((Ty.d aG) × (Ty.d aA) × Int × Unit)
abbrev T0:Type:=Int→Int→List (Ty.d aW)→List Int→List (Ty.d a_)→Int→Int→Int→Int→List (Ty.d aE)→Int→Int→Bool→List Int→List (Ty.d a_)→Int→Int→Int→Int→List (Ty.d aE)→Int→Int→Bool→List (Ty.d bR)→List (Ty.d a_)→Rs
def b0 (L0:T0):T0:=fun x0 x1 x2 x3 x4 x5 x6 x7 x8 x9 x10 x11 x12 x13 x14 x15 x16 x17 x18 x19 x20 x21 x22 x23 x24 =>
 (cond (decide (x1<(x2.length:Int))) (b9 x1 (x2.length:Int) (b9 x1 (x2.length:Int) (b9 x1 (x2.length:Int) (cond (x2.getD x1.toNat (Ty.z aW)).2.1 ((fH.f k ((x5,(x3,())),(x4,(x6,(x7,(x8,()))))) (x9,(x10,(x11,(x12,())))) (2,(x0,((x2.getD x1.toNat (Ty.z aW)).1,((x2.getD x1.toNat (Ty.z aW)).2.2.1,(0,(0,()))))))).bind fun r1=>cond (r1.2.2.2.1 != 0) (some (r1.1,(r1.2.1,r1.2.2.2))) ((j6.f k x24 r1.2.2.1).bind fun r2=>rm (Ty.bytes bR) (x23.length+1) (L0 x0 (aH (x1+1)) x2 r1.1.1.2.1 r1.1.2.1 r1.1.1.1 r1.1.2.2.1 r1.1.2.2.2.1 r1.1.2.2.2.2.1 r1.2.1.1 r1.2.1.2.1 r1.2.1.2.2.1 r1.2.1.2.2.2.1 x13 x14 x15 x16 x17 x18 x19 x20 x21 x22 (x23++[(2,(x0,((x2.getD x1.toNat (Ty.z aW)).1,((x2.getD x1.toNat (Ty.z aW)).2.2.1,(0,(0,()))))))]) r2.1))) ((fH.f k ((x5,(x3,())),(x4,(x6,(x7,(x8,()))))) (x9,(x10,(x11,(x12,())))) (1,(x0,((x2.getD x1.toNat (Ty.z aW)).1,((x2.getD x1.toNat (Ty.z aW)).2.2.1,(0,(0,()))))))).bind fun r3=>cond (r3.2.2.2.1 != 0) (some (r3.1,(r3.2.1,r3.2.2.2))) ((j6.f k x24 r3.2.2.1).bind fun r4=>rm (Ty.bytes bR) (x23.length+1) (L0 x0 (aH (x1+1)) x2 r3.1.1.2.1 r3.1.2.1 r3.1.1.1 r3.1.2.2.1 r3.1.2.2.2.1 r3.1.2.2.2.2.1 r3.2.1.1 r3.2.1.2.1 r3.2.1.2.2.1 r3.2.1.2.2.2.1 x13 x14 x15 x16 x17 x18 x19 x20 x21 x22 (x23++[(1,(x0,((x2.getD x1.toNat (Ty.z aW)).1,((x2.getD x1.toNat (Ty.z aW)).2.2.1,(0,(0,()))))))]) r4.1))))))) ((ip.f k x23 x0 3).bind fun r5=>(fH.f k ((x5,(x3,())),(x4,(x6,(x7,(x8,()))))) (x9,(x10,(x11,(x12,())))) r5.1).bind fun r6=>cond (r6.2.2.2.1 != 0) (some (r6.1,(r6.2.1,r6.2.2.2))) ((dV.f k r6.1).bind fun r7=>(fN.f k r6.2.1 r7.1).bind fun r8=>cond (r8.2.1 != 0) ((aY.f k r8.2.1).bind fun r9=>some (r6.1,(r8.1,r9))) (some ((r6.1.1,(x24,r6.1.2.2)),(r8.1,(0,())))))))
def l0:Nat→T0
 | 0=>fun _ _ _ _ _ _ _ _ _ _ _ _ _ _ _ _ _ _ _ _ _ _ _ _ _=>none
 | n+1=>b0 k (l0 n)
def t (k:Nat) (L0:T0) (a0:Ty.d aG) (a1:Ty.d aA) (a2:List (Ty.d aW)):Rs :=
 (rm (Ty.bytes a_) (0+List.length a0.2.1) (L0 a0.2.2.1 0 a2 a0.1.2.1 a0.2.1 a0.1.1 (aH (a0.2.2.1+1)) a0.2.2.2.1 a0.2.2.2.2.1 a1.1 a1.2.1 a1.2.2.1 a1.2.2.2.1 [] [] 0 0 0 0 [] 0 0 false [] ([]++a0.2.1)))
def f:=t k (l0 k k)
end bn
namespace iw
abbrev Rs:Type:=Option ((Ty.d aG) × (Ty.d aA) × Int × Unit)
def t (a0:Ty.d aG) (a1:Ty.d aA) (a2:List (Ty.d aW)):Rs :=
 ((db.f k a0).bind fun r1=>(cC.f k a1).bind fun r2=>(ch.f k a0 a1).bind fun r3=>cond (!r3.1) (some (r1.1,(r2.1,(4,())))) ((co.f k a2).bind fun r4=>cond (!r4.1) (some (r1.1,(r2.1,(4,())))) (cond ((a2.length:Int)==0) (some (r1.1,(r2.1,(0,())))) ((dh.f k a0.2.1 a2).bind fun r5=>cond (decide (r5.1 > 20)) (some (r1.1,(r2.1,(5,())))) (cond (decide (a0.2.2.1 > 1000000)) (some (r1.1,(r2.1,(5,())))) ((bn.f k r1.1 r2.1 a2).bind fun r6=>some r6))))))
def f:=t k
end iw
namespace dr
abbrev Rs:Type:=Option ((Ty.d af) × (Ty.d ac) × Unit)
def t (a0:Ty.d af) (a1:Ty.d aZ):Rs :=
 (b9 a1.2.1 (a0.2.2.2.1.length:Int) (b9 a1.2.1 (a0.2.2.2.1.length:Int) (let l1:=(a0.2.2.2.1.set a1.2.1.toNat (false,([],([],()))));((iX.f k (a0.2.2.2.1.getD a1.2.1.toNat (Ty.z ai)) a0.2.1.2.1).bind fun r2=>cond (!r2.1) (some ((a0.1,(a0.2.1,(a0.2.2.1,(l1,())))),((7,(ByteArray.empty,([],()))),()))) ((bM.f k (a0.2.2.2.1.getD a1.2.1.toNat (Ty.z ai))).bind fun r3=>(iw.f k a0.2.1 a0.2.2.1 r3.1).bind fun r4=>some ((a0.1,(r4.1,(r4.2.1,(l1,())))),((r4.2.2.1,(ByteArray.empty,([],()))),())))))))
def f:=t k
end dr
namespace g_
abbrev Rs:Type:=Option ((Ty.d ai) × Bool × Unit)
def t (a0:Ty.d ai) (a1:Ty.d aW):Rs :=
 ((fY.f k a0).bind fun r1=>cond (!a0.1) (some (r1.1,(false,()))) ((co.f k [a1]).bind fun r2=>cond (!r2.1) (some (r1.1,(false,()))) (rm (Ty.bytes aW) (r1.1.2.2.1.length+1) ((bM.f k (r1.1.1,(r1.1.2.1,((r1.1.2.2.1++[a1]),())))).bind fun r3=>cond (decide ((r3.1.length:Int) > 8)) ((fY.f k a0).bind fun r4=>some (r4.1,(false,()))) (cond (decide ((List.length (r1.1.2.2.1++[a1]):Int) > 50)) ((fY.f k a0).bind fun r5=>some (r5.1,(false,()))) (some ((r1.1.1,(r1.1.2.1,((r1.1.2.2.1++[a1]),()))),(true,()))))))))
def f:=t k
end g_
namespace cJ
abbrev Rs:Type:=Option ((Ty.d af) × (Ty.d ac) × Unit)
def t (a0:Ty.d af) (a1:Ty.d aZ):Rs :=
 ((eR.f k a0).bind fun r1=>cond (a1.1==10) (cond a0.1 (some (r1.1,((4,(ByteArray.empty,([],()))),()))) ((gX.f k a0.2.2.1).bind fun r2=>some (r2.1,((r2.2.1,(ByteArray.empty,([],()))),())))) (cond (a1.1==11) ((bQ.f k a0.2.2.1).bind fun r3=>cond (!r3.1) (some (r1.1,((4,(ByteArray.empty,([],()))),()))) ((mD.f k a0.2.2.1).bind fun r4=>(aS.f k a1.2.2.2.2.1 0 (aH (100000-r4.1))).bind fun r5=>cond (!r5.1) (some (r1.1,((4,(ByteArray.empty,([],()))),()))) ((mD.f k a0.2.2.1).bind fun r6=>some ((r1.1.1,(r1.1.2.1,((r1.1.2.2.1.1,((aH (r6.1+a1.2.2.2.2.1)),r1.1.2.2.1.2.2)),r1.1.2.2.2))),((0,(ByteArray.empty,([],()))),()))))) (cond (!a0.1) (some (r1.1,((6,(ByteArray.empty,([],()))),()))) (cond (a1.1==7) ((lb.f k r1.1.2.1 r1.1.2.2.1).bind fun r7=>some ((r1.1.1,(r7.1,(r7.2.1,r1.1.2.2.2))),((r7.2.2.1,(ByteArray.empty,([],()))),()))) (cond (a1.1==8) ((gH.f k r1.1.2.1.2.1).bind fun r8=>some (r1.1,((0,(ByteArray.empty,r8)),()))) (cond (a1.1==9) (xG (Ty.bytes ai) 3 (some ((false,(((0,([],())),([],(0,(0,(0,()))))),(r1.1.2.2.1,((List.replicate (Int.toNat 3) (Ty.z ai)),())))),((0,(ByteArray.empty,([],()))),())))) ((aS.f k a1.2.1 0 (aH ((a0.2.2.2.1.length:Int)-1))).bind fun r9=>cond (!r9.1) (some (r1.1,((4,(ByteArray.empty,([],()))),()))) ((aS.f k a1.1 1 6).bind fun r10=>cond (!r10.1) (some (r1.1,((4,(ByteArray.empty,([],()))),()))) (cond (a1.1==1) (b9 a1.2.1 (a0.2.2.2.1.length:Int) (cond (a0.2.2.2.1.getD a1.2.1.toNat (Ty.z ai)).1 (some (r1.1,((4,(ByteArray.empty,([],()))),()))) (cond (a1.1 != 1) (b9 a1.2.1 (a0.2.2.2.1.length:Int) (cond (!(a0.2.2.2.1.getD a1.2.1.toNat (Ty.z ai)).1) (some (r1.1,((4,(ByteArray.empty,([],()))),()))) (cond (a1.1==1) (b9 a1.2.1 (r1.1.2.2.2.1.length:Int) (let l11:=(r1.1.2.2.2.1.set a1.2.1.toNat (true,([],([],()))));(some ((r1.1.1,(r1.1.2.1,(r1.1.2.2.1,(l11,())))),((0,(ByteArray.empty,([],()))),()))))) (cond (a1.1==6) (b9 a1.2.1 (r1.1.2.2.2.1.length:Int) (let l12:=(r1.1.2.2.2.1.set a1.2.1.toNat (false,([],([],()))));(some ((r1.1.1,(r1.1.2.1,(r1.1.2.2.1,(l12,())))),((0,(ByteArray.empty,([],()))),()))))) (cond (a1.1==2) ((gB.f k r1.1 a1).bind fun r13=>some r13) (cond (a1.1==5) ((dr.f k r1.1 a1).bind fun r14=>some r14) ((co.f k [(a1.2.2.1,((a1.1==4),(a1.2.2.2.1,())))]).bind fun r15=>cond (!r15.1) (some (r1.1,((4,(ByteArray.empty,([],()))),()))) (b9 a1.2.1 (r1.1.2.2.2.1.length:Int) ((g_.f k (r1.1.2.2.2.1.getD a1.2.1.toNat (Ty.z ai)) (a1.2.2.1,((a1.1==4),(a1.2.2.2.1,())))).bind fun r16=>cond (!r16.2.1) (some (r1.1,((5,(ByteArray.empty,([],()))),()))) (b9 a1.2.1 (r1.1.2.2.2.1.length:Int) (let l17:=(r1.1.2.2.2.1.set a1.2.1.toNat r16.1);(some ((r1.1.1,(r1.1.2.1,(r1.1.2.2.1,(l17,())))),((0,(ByteArray.empty,([],()))),())))))))))))))) (cond (a1.1==1) (b9 a1.2.1 (r1.1.2.2.2.1.length:Int) (let l18:=(r1.1.2.2.2.1.set a1.2.1.toNat (true,([],([],()))));(some ((r1.1.1,(r1.1.2.1,(r1.1.2.2.1,(l18,())))),((0,(ByteArray.empty,([],()))),()))))) (cond (a1.1==6) (b9 a1.2.1 (r1.1.2.2.2.1.length:Int) (let l19:=(r1.1.2.2.2.1.set a1.2.1.toNat (false,([],([],()))));(some ((r1.1.1,(r1.1.2.1,(r1.1.2.2.1,(l19,())))),((0,(ByteArray.empty,([],()))),()))))) (cond (a1.1==2) ((gB.f k r1.1 a1).bind fun r20=>some r20) (cond (a1.1==5) ((dr.f k r1.1 a1).bind fun r21=>some r21) ((co.f k [(a1.2.2.1,((a1.1==4),(a1.2.2.2.1,())))]).bind fun r22=>cond (!r22.1) (some (r1.1,((4,(ByteArray.empty,([],()))),()))) (b9 a1.2.1 (r1.1.2.2.2.1.length:Int) ((g_.f k (r1.1.2.2.2.1.getD a1.2.1.toNat (Ty.z ai)) (a1.2.2.1,((a1.1==4),(a1.2.2.2.1,())))).bind fun r23=>cond (!r23.2.1) (some (r1.1,((5,(ByteArray.empty,([],()))),()))) (b9 a1.2.1 (r1.1.2.2.2.1.length:Int) (let l24:=(r1.1.2.2.2.1.set a1.2.1.toNat r23.1);(some ((r1.1.1,(r1.1.2.1,(r1.1.2.2.1,(l24,())))),((0,(ByteArray.empty,([],()))),()))))))))))))))) (cond (a1.1 != 1) (b9 a1.2.1 (a0.2.2.2.1.length:Int) (cond (!(a0.2.2.2.1.getD a1.2.1.toNat (Ty.z ai)).1) (some (r1.1,((4,(ByteArray.empty,([],()))),()))) (cond (a1.1==1) (b9 a1.2.1 (r1.1.2.2.2.1.length:Int) (let l25:=(r1.1.2.2.2.1.set a1.2.1.toNat (true,([],([],()))));(some ((r1.1.1,(r1.1.2.1,(r1.1.2.2.1,(l25,())))),((0,(ByteArray.empty,([],()))),()))))) (cond (a1.1==6) (b9 a1.2.1 (r1.1.2.2.2.1.length:Int) (let l26:=(r1.1.2.2.2.1.set a1.2.1.toNat (false,([],([],()))));(some ((r1.1.1,(r1.1.2.1,(r1.1.2.2.1,(l26,())))),((0,(ByteArray.empty,([],()))),()))))) (cond (a1.1==2) ((gB.f k r1.1 a1).bind fun r27=>some r27) (cond (a1.1==5) ((dr.f k r1.1 a1).bind fun r28=>some r28) ((co.f k [(a1.2.2.1,((a1.1==4),(a1.2.2.2.1,())))]).bind fun r29=>cond (!r29.1) (some (r1.1,((4,(ByteArray.empty,([],()))),()))) (b9 a1.2.1 (r1.1.2.2.2.1.length:Int) ((g_.f k (r1.1.2.2.2.1.getD a1.2.1.toNat (Ty.z ai)) (a1.2.2.1,((a1.1==4),(a1.2.2.2.1,())))).bind fun r30=>cond (!r30.2.1) (some (r1.1,((5,(ByteArray.empty,([],()))),()))) (b9 a1.2.1 (r1.1.2.2.2.1.length:Int) (let l31:=(r1.1.2.2.2.1.set a1.2.1.toNat r30.1);(some ((r1.1.1,(r1.1.2.1,(r1.1.2.2.1,(l31,())))),((0,(ByteArray.empty,([],()))),())))))))))))))) (cond (a1.1==1) (b9 a1.2.1 (r1.1.2.2.2.1.length:Int) (let l32:=(r1.1.2.2.2.1.set a1.2.1.toNat (true,([],([],()))));(some ((r1.1.1,(r1.1.2.1,(r1.1.2.2.1,(l32,())))),((0,(ByteArray.empty,([],()))),()))))) (cond (a1.1==6) (b9 a1.2.1 (r1.1.2.2.2.1.length:Int) (let l33:=(r1.1.2.2.2.1.set a1.2.1.toNat (false,([],([],()))));(some ((r1.1.1,(r1.1.2.1,(r1.1.2.2.1,(l33,())))),((0,(ByteArray.empty,([],()))),()))))) (cond (a1.1==2) ((gB.f k r1.1 a1).bind fun r34=>some r34) (cond (a1.1==5) ((dr.f k r1.1 a1).bind fun r35=>some r35) ((co.f k [(a1.2.2.1,((a1.1==4),(a1.2.2.2.1,())))]).bind fun r36=>cond (!r36.1) (some (r1.1,((4,(ByteArray.empty,([],()))),()))) (b9 a1.2.1 (r1.1.2.2.2.1.length:Int) ((g_.f k (r1.1.2.2.2.1.getD a1.2.1.toNat (Ty.z ai)) (a1.2.2.1,((a1.1==4),(a1.2.2.2.1,())))).bind fun r37=>cond (!r37.2.1) (some (r1.1,((5,(ByteArray.empty,([],()))),()))) (b9 a1.2.1 (r1.1.2.2.2.1.length:Int) (let l38:=(r1.1.2.2.2.1.set a1.2.1.toNat r37.1);(some ((r1.1.1,(r1.1.2.1,(r1.1.2.2.1,(l38,())))),((0,(ByteArray.empty,([],()))),()))))))))))))))))))))))
def f:=t k
end cJ
namespace jh
abbrev Rs:Type:=Option ((Ty.d d6) × Unit)
abbrev T1:Type:=List (Ty.d aZ)→Int→List Int→List (Ty.d a_)→List (Ty.d aE)→List (Ty.d ai)→List (Ty.d ac)→List (Ty.d na)→List (Ty.d aW)→Bool→Int→Int→Int→Int→Int→Int→Bool→List (Ty.d ac)→List (Ty.d na)→List (Ty.d aW)→Bool→Int→List Int→List (Ty.d a_)→Int→Int→Int→List (Ty.d aE)→Int→Int→Bool→List (Ty.d ai)→Rs
abbrev T0:Type:=List (Ty.d aZ)→Int→List Int→List (Ty.d a_)→List (Ty.d aE)→List (Ty.d ai)→List (Ty.d ac)→List (Ty.d na)→List (Ty.d aW)→Bool→Int→Int→Int→Int→Int→Int→Bool→List Int→List (Ty.d a_)→List (Ty.d aE)→List (Ty.d ai)→List (Ty.d ac)→List (Ty.d na)→List (Ty.d aW)→Bool→Int→Int→Int→Int→Int→Int→Bool→Rs
def b1 (L1:T1):T1:=fun x0 x1 x2 x3 x4 x5 x6 x7 x8 x9 x10 x11 x12 x13 x14 x15 x16 x17 x18 x19 x20 x21 x22 x23 x24 x25 x26 x27 x28 x29 x30 x31 =>
 (cond (decide (x1<(x0.length:Int))) (cond (decide (x1<300)) (b9 x1 (x0.length:Int) (cond ((x0.getD x1.toNat (Ty.z aZ)).1==5) (cond x20 ((aS.f k (x0.getD x1.toNat (Ty.z aZ)).2.1 0 (aH ((x31.length:Int)-1))).bind fun r5=>cond r5.1 (b9 (x0.getD x1.toNat (Ty.z aZ)).2.1 (x31.length:Int) (cond (x31.getD (Int.toNat (x0.getD x1.toNat (Ty.z aZ)).2.1) (Ty.z ai)).1 (b9 (x0.getD x1.toNat (Ty.z aZ)).2.1 (x31.length:Int) ((bM.f k (x31.getD (Int.toNat (x0.getD x1.toNat (Ty.z aZ)).2.1) (Ty.z ai))).bind fun r6=>(cJ.f k (x20,(((x21,(x22,())),(x23,(x24,(x25,(x26,()))))),((x27,(x28,(x29,(x30,())))),(x31,())))) (x0.getD x1.toNat (Ty.z aZ))).bind fun r7=>rm (Ty.bytes ac) (x17.length+1) (cond (r7.2.1.1==0) (cond (decide ((r6.1.length:Int) > 0)) (rm (Ty.bytes na) (x18.length+1) (cond (r7.2.1.1==1) (some ((r7.1,((x17++[r7.2.1]),((x18++[(x24,r6)]),r6))),())) (L1 x0 (aH (x1+1)) x2 x3 x4 x5 x6 x7 x8 x9 x10 x11 x12 x13 x14 x15 x16 (x17++[r7.2.1]) (x18++[(x24,r6)]) x19 r7.1.1 r7.1.2.1.1.1 r7.1.2.1.1.2.1 r7.1.2.1.2.1 r7.1.2.1.2.2.1 r7.1.2.1.2.2.2.1 r7.1.2.1.2.2.2.2.1 r7.1.2.2.1.1 r7.1.2.2.1.2.1 r7.1.2.2.1.2.2.1 r7.1.2.2.1.2.2.2.1 r7.1.2.2.2.1))) (cond (r7.2.1.1==1) (some ((r7.1,((x17++[r7.2.1]),(x18,r6))),())) (L1 x0 (aH (x1+1)) x2 x3 x4 x5 x6 x7 x8 x9 x10 x11 x12 x13 x14 x15 x16 (x17++[r7.2.1]) x18 x19 r7.1.1 r7.1.2.1.1.1 r7.1.2.1.1.2.1 r7.1.2.1.2.1 r7.1.2.1.2.2.1 r7.1.2.1.2.2.2.1 r7.1.2.1.2.2.2.2.1 r7.1.2.2.1.1 r7.1.2.2.1.2.1 r7.1.2.2.1.2.2.1 r7.1.2.2.1.2.2.2.1 r7.1.2.2.2.1))) (cond (r7.2.1.1==1) (some ((r7.1,((x17++[r7.2.1]),(x18,r6))),())) (L1 x0 (aH (x1+1)) x2 x3 x4 x5 x6 x7 x8 x9 x10 x11 x12 x13 x14 x15 x16 (x17++[r7.2.1]) x18 x19 r7.1.1 r7.1.2.1.1.1 r7.1.2.1.1.2.1 r7.1.2.1.2.1 r7.1.2.1.2.2.1 r7.1.2.1.2.2.2.1 r7.1.2.1.2.2.2.2.1 r7.1.2.2.1.1 r7.1.2.2.1.2.1 r7.1.2.2.1.2.2.1 r7.1.2.2.1.2.2.2.1 r7.1.2.2.2.1))))) ((cJ.f k (x20,(((x21,(x22,())),(x23,(x24,(x25,(x26,()))))),((x27,(x28,(x29,(x30,())))),(x31,())))) (x0.getD x1.toNat (Ty.z aZ))).bind fun r8=>rm (Ty.bytes ac) (x17.length+1) (cond (r8.2.1.1==0) (cond (r8.2.1.1==1) (some ((r8.1,((x17++[r8.2.1]),(x18,([],())))),())) (L1 x0 (aH (x1+1)) x2 x3 x4 x5 x6 x7 x8 x9 x10 x11 x12 x13 x14 x15 x16 (x17++[r8.2.1]) x18 x19 r8.1.1 r8.1.2.1.1.1 r8.1.2.1.1.2.1 r8.1.2.1.2.1 r8.1.2.1.2.2.1 r8.1.2.1.2.2.2.1 r8.1.2.1.2.2.2.2.1 r8.1.2.2.1.1 r8.1.2.2.1.2.1 r8.1.2.2.1.2.2.1 r8.1.2.2.1.2.2.2.1 r8.1.2.2.2.1)) (cond (r8.2.1.1==1) (some ((r8.1,((x17++[r8.2.1]),(x18,([],())))),())) (L1 x0 (aH (x1+1)) x2 x3 x4 x5 x6 x7 x8 x9 x10 x11 x12 x13 x14 x15 x16 (x17++[r8.2.1]) x18 x19 r8.1.1 r8.1.2.1.1.1 r8.1.2.1.1.2.1 r8.1.2.1.2.1 r8.1.2.1.2.2.1 r8.1.2.1.2.2.2.1 r8.1.2.1.2.2.2.2.1 r8.1.2.2.1.1 r8.1.2.2.1.2.1 r8.1.2.2.1.2.2.1 r8.1.2.2.1.2.2.2.1 r8.1.2.2.2.1)))))) ((cJ.f k (x20,(((x21,(x22,())),(x23,(x24,(x25,(x26,()))))),((x27,(x28,(x29,(x30,())))),(x31,())))) (x0.getD x1.toNat (Ty.z aZ))).bind fun r9=>rm (Ty.bytes ac) (x17.length+1) (cond (r9.2.1.1==0) (cond (r9.2.1.1==1) (some ((r9.1,((x17++[r9.2.1]),(x18,([],())))),())) (L1 x0 (aH (x1+1)) x2 x3 x4 x5 x6 x7 x8 x9 x10 x11 x12 x13 x14 x15 x16 (x17++[r9.2.1]) x18 x19 r9.1.1 r9.1.2.1.1.1 r9.1.2.1.1.2.1 r9.1.2.1.2.1 r9.1.2.1.2.2.1 r9.1.2.1.2.2.2.1 r9.1.2.1.2.2.2.2.1 r9.1.2.2.1.1 r9.1.2.2.1.2.1 r9.1.2.2.1.2.2.1 r9.1.2.2.1.2.2.2.1 r9.1.2.2.2.1)) (cond (r9.2.1.1==1) (some ((r9.1,((x17++[r9.2.1]),(x18,([],())))),())) (L1 x0 (aH (x1+1)) x2 x3 x4 x5 x6 x7 x8 x9 x10 x11 x12 x13 x14 x15 x16 (x17++[r9.2.1]) x18 x19 r9.1.1 r9.1.2.1.1.1 r9.1.2.1.1.2.1 r9.1.2.1.2.1 r9.1.2.1.2.2.1 r9.1.2.1.2.2.2.1 r9.1.2.1.2.2.2.2.1 r9.1.2.2.1.1 r9.1.2.2.1.2.1 r9.1.2.2.1.2.2.1 r9.1.2.2.1.2.2.2.1 r9.1.2.2.2.1))))) ((cJ.f k (x20,(((x21,(x22,())),(x23,(x24,(x25,(x26,()))))),((x27,(x28,(x29,(x30,())))),(x31,())))) (x0.getD x1.toNat (Ty.z aZ))).bind fun r10=>rm (Ty.bytes ac) (x17.length+1) (cond (r10.2.1.1==0) (cond (r10.2.1.1==1) (some ((r10.1,((x17++[r10.2.1]),(x18,([],())))),())) (L1 x0 (aH (x1+1)) x2 x3 x4 x5 x6 x7 x8 x9 x10 x11 x12 x13 x14 x15 x16 (x17++[r10.2.1]) x18 x19 r10.1.1 r10.1.2.1.1.1 r10.1.2.1.1.2.1 r10.1.2.1.2.1 r10.1.2.1.2.2.1 r10.1.2.1.2.2.2.1 r10.1.2.1.2.2.2.2.1 r10.1.2.2.1.1 r10.1.2.2.1.2.1 r10.1.2.2.1.2.2.1 r10.1.2.2.1.2.2.2.1 r10.1.2.2.2.1)) (cond (r10.2.1.1==1) (some ((r10.1,((x17++[r10.2.1]),(x18,([],())))),())) (L1 x0 (aH (x1+1)) x2 x3 x4 x5 x6 x7 x8 x9 x10 x11 x12 x13 x14 x15 x16 (x17++[r10.2.1]) x18 x19 r10.1.1 r10.1.2.1.1.1 r10.1.2.1.1.2.1 r10.1.2.1.2.1 r10.1.2.1.2.2.1 r10.1.2.1.2.2.2.1 r10.1.2.1.2.2.2.2.1 r10.1.2.2.1.1 r10.1.2.2.1.2.1 r10.1.2.2.1.2.2.1 r10.1.2.2.1.2.2.2.1 r10.1.2.2.2.1))))) ((cJ.f k (x20,(((x21,(x22,())),(x23,(x24,(x25,(x26,()))))),((x27,(x28,(x29,(x30,())))),(x31,())))) (x0.getD x1.toNat (Ty.z aZ))).bind fun r11=>rm (Ty.bytes ac) (x17.length+1) (cond (r11.2.1.1==0) (cond (r11.2.1.1==1) (some ((r11.1,((x17++[r11.2.1]),(x18,([],())))),())) (L1 x0 (aH (x1+1)) x2 x3 x4 x5 x6 x7 x8 x9 x10 x11 x12 x13 x14 x15 x16 (x17++[r11.2.1]) x18 x19 r11.1.1 r11.1.2.1.1.1 r11.1.2.1.1.2.1 r11.1.2.1.2.1 r11.1.2.1.2.2.1 r11.1.2.1.2.2.2.1 r11.1.2.1.2.2.2.2.1 r11.1.2.2.1.1 r11.1.2.2.1.2.1 r11.1.2.2.1.2.2.1 r11.1.2.2.1.2.2.2.1 r11.1.2.2.2.1)) (cond (r11.2.1.1==1) (some ((r11.1,((x17++[r11.2.1]),(x18,([],())))),())) (L1 x0 (aH (x1+1)) x2 x3 x4 x5 x6 x7 x8 x9 x10 x11 x12 x13 x14 x15 x16 (x17++[r11.2.1]) x18 x19 r11.1.1 r11.1.2.1.1.1 r11.1.2.1.1.2.1 r11.1.2.1.2.1 r11.1.2.1.2.2.1 r11.1.2.1.2.2.2.1 r11.1.2.1.2.2.2.2.1 r11.1.2.2.1.1 r11.1.2.2.1.2.1 r11.1.2.2.1.2.2.1 r11.1.2.2.1.2.2.2.1 r11.1.2.2.2.1)))))) (some (((x20,(((x21,(x22,())),(x23,(x24,(x25,(x26,()))))),((x27,(x28,(x29,(x30,())))),(x31,())))),(x17,(x18,(x19,())))),()))) (some (((x20,(((x21,(x22,())),(x23,(x24,(x25,(x26,()))))),((x27,(x28,(x29,(x30,())))),(x31,())))),(x17,(x18,(x19,())))),())))
def l1:Nat→T1
 | 0=>fun _ _ _ _ _ _ _ _ _ _ _ _ _ _ _ _ _ _ _ _ _ _ _ _ _ _ _ _ _ _ _ _=>none
 | n+1=>b1 k (l1 n)
def b0 (L1:T1):T0:=fun x0 x1 x2 x3 x4 x5 x6 x7 x8 x9 x10 x11 x12 x13 x14 x15 x16 x17 x18 x19 x20 x21 x22 x23 x24 x25 x26 x27 x28 x29 x30 x31 =>
 (cond (decide (x1<(x0.length:Int))) (cond (decide (x1<300)) (b9 x1 (x0.length:Int) (cond ((x0.getD x1.toNat (Ty.z aZ)).1==5) (cond x24 ((aS.f k (x0.getD x1.toNat (Ty.z aZ)).2.1 0 (aH ((x20.length:Int)-1))).bind fun r2=>cond r2.1 (b9 (x0.getD x1.toNat (Ty.z aZ)).2.1 (x20.length:Int) (cond (x20.getD (Int.toNat (x0.getD x1.toNat (Ty.z aZ)).2.1) (Ty.z ai)).1 (b9 (x0.getD x1.toNat (Ty.z aZ)).2.1 (x20.length:Int) ((bM.f k (x20.getD (Int.toNat (x0.getD x1.toNat (Ty.z aZ)).2.1) (Ty.z ai))).bind fun r3=>(cJ.f k (x24,(((x25,(x17,())),(x18,(x26,(x27,(x28,()))))),((x19,(x29,(x30,(x31,())))),(x20,())))) (x0.getD x1.toNat (Ty.z aZ))).bind fun r4=>rm (Ty.bytes ac) (x21.length+1) (cond (r4.2.1.1==0) (cond (decide ((r3.1.length:Int) > 0)) (rm (Ty.bytes na) (x22.length+1) (cond (r4.2.1.1==1) (some ((r4.1,((x21++[r4.2.1]),((x22++[(x26,r3)]),r3))),())) (L1 x0 (aH (x1+1)) x2 x3 x4 x5 x6 x7 x8 x9 x10 x11 x12 x13 x14 x15 x16 (x21++[r4.2.1]) (x22++[(x26,r3)]) x23 r4.1.1 r4.1.2.1.1.1 r4.1.2.1.1.2.1 r4.1.2.1.2.1 r4.1.2.1.2.2.1 r4.1.2.1.2.2.2.1 r4.1.2.1.2.2.2.2.1 r4.1.2.2.1.1 r4.1.2.2.1.2.1 r4.1.2.2.1.2.2.1 r4.1.2.2.1.2.2.2.1 r4.1.2.2.2.1))) (cond (r4.2.1.1==1) (some ((r4.1,((x21++[r4.2.1]),(x22,r3))),())) (L1 x0 (aH (x1+1)) x2 x3 x4 x5 x6 x7 x8 x9 x10 x11 x12 x13 x14 x15 x16 (x21++[r4.2.1]) x22 x23 r4.1.1 r4.1.2.1.1.1 r4.1.2.1.1.2.1 r4.1.2.1.2.1 r4.1.2.1.2.2.1 r4.1.2.1.2.2.2.1 r4.1.2.1.2.2.2.2.1 r4.1.2.2.1.1 r4.1.2.2.1.2.1 r4.1.2.2.1.2.2.1 r4.1.2.2.1.2.2.2.1 r4.1.2.2.2.1))) (cond (r4.2.1.1==1) (some ((r4.1,((x21++[r4.2.1]),(x22,r3))),())) (L1 x0 (aH (x1+1)) x2 x3 x4 x5 x6 x7 x8 x9 x10 x11 x12 x13 x14 x15 x16 (x21++[r4.2.1]) x22 x23 r4.1.1 r4.1.2.1.1.1 r4.1.2.1.1.2.1 r4.1.2.1.2.1 r4.1.2.1.2.2.1 r4.1.2.1.2.2.2.1 r4.1.2.1.2.2.2.2.1 r4.1.2.2.1.1 r4.1.2.2.1.2.1 r4.1.2.2.1.2.2.1 r4.1.2.2.1.2.2.2.1 r4.1.2.2.2.1))))) ((cJ.f k (x24,(((x25,(x17,())),(x18,(x26,(x27,(x28,()))))),((x19,(x29,(x30,(x31,())))),(x20,())))) (x0.getD x1.toNat (Ty.z aZ))).bind fun r12=>rm (Ty.bytes ac) (x21.length+1) (cond (r12.2.1.1==0) (cond (r12.2.1.1==1) (some ((r12.1,((x21++[r12.2.1]),(x22,([],())))),())) (L1 x0 (aH (x1+1)) x2 x3 x4 x5 x6 x7 x8 x9 x10 x11 x12 x13 x14 x15 x16 (x21++[r12.2.1]) x22 x23 r12.1.1 r12.1.2.1.1.1 r12.1.2.1.1.2.1 r12.1.2.1.2.1 r12.1.2.1.2.2.1 r12.1.2.1.2.2.2.1 r12.1.2.1.2.2.2.2.1 r12.1.2.2.1.1 r12.1.2.2.1.2.1 r12.1.2.2.1.2.2.1 r12.1.2.2.1.2.2.2.1 r12.1.2.2.2.1)) (cond (r12.2.1.1==1) (some ((r12.1,((x21++[r12.2.1]),(x22,([],())))),())) (L1 x0 (aH (x1+1)) x2 x3 x4 x5 x6 x7 x8 x9 x10 x11 x12 x13 x14 x15 x16 (x21++[r12.2.1]) x22 x23 r12.1.1 r12.1.2.1.1.1 r12.1.2.1.1.2.1 r12.1.2.1.2.1 r12.1.2.1.2.2.1 r12.1.2.1.2.2.2.1 r12.1.2.1.2.2.2.2.1 r12.1.2.2.1.1 r12.1.2.2.1.2.1 r12.1.2.2.1.2.2.1 r12.1.2.2.1.2.2.2.1 r12.1.2.2.2.1)))))) ((cJ.f k (x24,(((x25,(x17,())),(x18,(x26,(x27,(x28,()))))),((x19,(x29,(x30,(x31,())))),(x20,())))) (x0.getD x1.toNat (Ty.z aZ))).bind fun r13=>rm (Ty.bytes ac) (x21.length+1) (cond (r13.2.1.1==0) (cond (r13.2.1.1==1) (some ((r13.1,((x21++[r13.2.1]),(x22,([],())))),())) (L1 x0 (aH (x1+1)) x2 x3 x4 x5 x6 x7 x8 x9 x10 x11 x12 x13 x14 x15 x16 (x21++[r13.2.1]) x22 x23 r13.1.1 r13.1.2.1.1.1 r13.1.2.1.1.2.1 r13.1.2.1.2.1 r13.1.2.1.2.2.1 r13.1.2.1.2.2.2.1 r13.1.2.1.2.2.2.2.1 r13.1.2.2.1.1 r13.1.2.2.1.2.1 r13.1.2.2.1.2.2.1 r13.1.2.2.1.2.2.2.1 r13.1.2.2.2.1)) (cond (r13.2.1.1==1) (some ((r13.1,((x21++[r13.2.1]),(x22,([],())))),())) (L1 x0 (aH (x1+1)) x2 x3 x4 x5 x6 x7 x8 x9 x10 x11 x12 x13 x14 x15 x16 (x21++[r13.2.1]) x22 x23 r13.1.1 r13.1.2.1.1.1 r13.1.2.1.1.2.1 r13.1.2.1.2.1 r13.1.2.1.2.2.1 r13.1.2.1.2.2.2.1 r13.1.2.1.2.2.2.2.1 r13.1.2.2.1.1 r13.1.2.2.1.2.1 r13.1.2.2.1.2.2.1 r13.1.2.2.1.2.2.2.1 r13.1.2.2.2.1))))) ((cJ.f k (x24,(((x25,(x17,())),(x18,(x26,(x27,(x28,()))))),((x19,(x29,(x30,(x31,())))),(x20,())))) (x0.getD x1.toNat (Ty.z aZ))).bind fun r14=>rm (Ty.bytes ac) (x21.length+1) (cond (r14.2.1.1==0) (cond (r14.2.1.1==1) (some ((r14.1,((x21++[r14.2.1]),(x22,([],())))),())) (L1 x0 (aH (x1+1)) x2 x3 x4 x5 x6 x7 x8 x9 x10 x11 x12 x13 x14 x15 x16 (x21++[r14.2.1]) x22 x23 r14.1.1 r14.1.2.1.1.1 r14.1.2.1.1.2.1 r14.1.2.1.2.1 r14.1.2.1.2.2.1 r14.1.2.1.2.2.2.1 r14.1.2.1.2.2.2.2.1 r14.1.2.2.1.1 r14.1.2.2.1.2.1 r14.1.2.2.1.2.2.1 r14.1.2.2.1.2.2.2.1 r14.1.2.2.2.1)) (cond (r14.2.1.1==1) (some ((r14.1,((x21++[r14.2.1]),(x22,([],())))),())) (L1 x0 (aH (x1+1)) x2 x3 x4 x5 x6 x7 x8 x9 x10 x11 x12 x13 x14 x15 x16 (x21++[r14.2.1]) x22 x23 r14.1.1 r14.1.2.1.1.1 r14.1.2.1.1.2.1 r14.1.2.1.2.1 r14.1.2.1.2.2.1 r14.1.2.1.2.2.2.1 r14.1.2.1.2.2.2.2.1 r14.1.2.2.1.1 r14.1.2.2.1.2.1 r14.1.2.2.1.2.2.1 r14.1.2.2.1.2.2.2.1 r14.1.2.2.2.1))))) ((cJ.f k (x24,(((x25,(x17,())),(x18,(x26,(x27,(x28,()))))),((x19,(x29,(x30,(x31,())))),(x20,())))) (x0.getD x1.toNat (Ty.z aZ))).bind fun r15=>rm (Ty.bytes ac) (x21.length+1) (cond (r15.2.1.1==0) (cond (r15.2.1.1==1) (some ((r15.1,((x21++[r15.2.1]),(x22,([],())))),())) (L1 x0 (aH (x1+1)) x2 x3 x4 x5 x6 x7 x8 x9 x10 x11 x12 x13 x14 x15 x16 (x21++[r15.2.1]) x22 x23 r15.1.1 r15.1.2.1.1.1 r15.1.2.1.1.2.1 r15.1.2.1.2.1 r15.1.2.1.2.2.1 r15.1.2.1.2.2.2.1 r15.1.2.1.2.2.2.2.1 r15.1.2.2.1.1 r15.1.2.2.1.2.1 r15.1.2.2.1.2.2.1 r15.1.2.2.1.2.2.2.1 r15.1.2.2.2.1)) (cond (r15.2.1.1==1) (some ((r15.1,((x21++[r15.2.1]),(x22,([],())))),())) (L1 x0 (aH (x1+1)) x2 x3 x4 x5 x6 x7 x8 x9 x10 x11 x12 x13 x14 x15 x16 (x21++[r15.2.1]) x22 x23 r15.1.1 r15.1.2.1.1.1 r15.1.2.1.1.2.1 r15.1.2.1.2.1 r15.1.2.1.2.2.1 r15.1.2.1.2.2.2.1 r15.1.2.1.2.2.2.2.1 r15.1.2.2.1.1 r15.1.2.2.1.2.1 r15.1.2.2.1.2.2.1 r15.1.2.2.1.2.2.2.1 r15.1.2.2.2.1)))))) (some (((x24,(((x25,(x17,())),(x18,(x26,(x27,(x28,()))))),((x19,(x29,(x30,(x31,())))),(x20,())))),(x21,(x22,(x23,())))),()))) (some (((x24,(((x25,(x17,())),(x18,(x26,(x27,(x28,()))))),((x19,(x29,(x30,(x31,())))),(x20,())))),(x21,(x22,(x23,())))),())))
def l0:Nat→T0
 | 0=>fun _ _ _ _ _ _ _ _ _ _ _ _ _ _ _ _ _ _ _ _ _ _ _ _ _ _ _ _ _ _ _ _=>none
 | n+1=>b0 k (l1 k n)
def t (L0:T0) (a0:Ty.d af) (a1:List (Ty.d aZ)):Rs :=
 ((eR.f k a0).bind fun r1=>L0 a1 0 [] [] [] [] [] [] [] false 0 0 0 0 0 0 false r1.1.2.1.1.2.1 r1.1.2.1.2.1 r1.1.2.2.1.1 r1.1.2.2.2.1 [] [] [] r1.1.1 r1.1.2.1.1.1 r1.1.2.1.2.2.1 r1.1.2.1.2.2.2.1 r1.1.2.1.2.2.2.2.1 r1.1.2.2.1.2.1 r1.1.2.2.1.2.2.1 r1.1.2.2.1.2.2.2.1)
def f:=t k (l0 k k)
end jh
namespace my
abbrev Rs:Type:=Option ((Ty.d d6) × Unit)
def t (a0:Ty.d kQ):Rs :=
 ((aS.f k a0.1 0 100000).bind fun r1=>cond (!r1.1) (some (((false,(((0,([],())),([],(0,(0,(0,()))))),(([],(0,(0,(false,())))),([],())))),([],([],([],())))),())) ((aS.f k a0.2.1 (-1) 100000).bind fun r2=>cond (!r2.1) (some (((false,(((0,([],())),([],(0,(0,(0,()))))),(([],(0,(0,(false,())))),([],())))),([],([],([],())))),())) ((jy.f k a0.1).bind fun r3=>(jN.f k r3.1 a0.2.1).bind fun r4=>(gX.f k r4.1).bind fun r5=>cond (r5.2.1 != 0) (some ((r5.1,([],([],([],())))),())) ((jh.f k r5.1 a0.2.2.1).bind fun r6=>some r6))))
def f:=t k
end my
namespace gE
abbrev Rs:Type:=Option (Bool × Unit)
abbrev T0:Type:=Int→Int→ByteArray→List ByteArray→Int→ByteArray→List ByteArray→Rs
def b0 (k:Nat) (L0:T0):T0:=fun x0 x1 x2 x3 x4 x5 x6 =>
 (cond (decide (x0<(x3.length:Int))) (b9 x0 (x3.length:Int) (b9 x0 (x6.length:Int) (cond (!(seq (x3.getD x0.toNat (Ty.z .str)) (x6.getD x0.toNat (Ty.z .str)))) (some (false,())) (L0 (aH (x0+1)) x1 x2 x3 x4 x5 x6)))) (some (true,())))
def l0:Nat→T0
 | 0=>fun _ _ _ _ _ _ _=>none
 | n+1=>b0 k (l0 n)
def t (k:Nat) (L0:T0) (a0:Ty.d ac) (a1:Ty.d ac):Rs :=
 (cond (a0.1 != a1.1) (some (false,())) (cond (!(seq a0.2.1 a1.2.1)) (some (false,())) (cond ((a0.2.2.1.length:Int) != (a1.2.2.1.length:Int)) (some (false,())) (L0 0 a0.1 a0.2.1 a0.2.2.1 a1.1 a1.2.1 a1.2.2.1))))
def f:=t k (l0 k k)
end gE
namespace d9
abbrev Rs:Type:=Option (Bool × Unit)
abbrev T0:Type:=List (Ty.d ac)→List (Ty.d ac)→Int→Rs
def b0 (L0:T0):T0:=fun x0 x1 x2 =>
 (cond (decide (x2<(x0.length:Int))) (b9 x2 (x0.length:Int) (b9 x2 (x1.length:Int) ((gE.f k (x0.getD x2.toNat (Ty.z ac)) (x1.getD x2.toNat (Ty.z ac))).bind fun r1=>cond (!r1.1) (some (false,())) (L0 x0 x1 (aH (x2+1)))))) (some (true,())))
def l0:Nat→T0
 | 0=>fun _ _ _=>none
 | n+1=>b0 k (l0 n)
def t (k:Nat) (L0:T0) (a0:List (Ty.d ac)) (a1:List (Ty.d ac)):Rs :=
 (cond ((a0.length:Int) != (a1.length:Int)) (some (false,())) (L0 a0 a1 0))
def f:=t k (l0 k k)
end d9
namespace jI
abbrev Rs:Type:=Option (Bool × Unit)
def t (a0:List Int):Rs :=
 ((qz.f k a0).bind fun r1=>cond r1.1 (some (true,())) ((jQ.f k a0).bind fun r2=>cond (decide (r2.1.1<100)) (some (true,())) (cond (decide (r2.1.1 > 100000)) (some (true,())) ((qI.f k a0 0).bind fun r3=>(m3.f k (r2.1.1,(r3.1,r2.1.2.2))).bind fun r4=>(m3.f k (r2.1.1,((-1),r2.1.2.2))).bind fun r5=>(my.f k (r2.1.1,((-1),r2.1.2.2))).bind fun r6=>cond ((r5.1.2.1.length:Int) != (r6.1.2.1.length:Int)) (some (false,())) (cond ((r4.1.2.1.length:Int)==0) (some (((r4.1.2.2.1.length:Int)==0),())) (cond (decide ((r4.1.2.1.length:Int) > (r5.1.2.1.length:Int))) (some (false,())) (cond (decide ((r4.1.2.2.1.length:Int) > (r5.1.2.2.1.length:Int))) (some (false,())) (b9 (aH ((r4.1.2.1.length:Int)-1)) (r4.1.2.1.length:Int) (cond ((r4.1.2.1.getD (aH ((r4.1.2.1.length:Int)-1)).toNat (Ty.z ac)).1==1) (oh (aH ((r4.1.2.1.length:Int)-1)) (r4.1.2.1.length:Int) (oh (aH ((r4.1.2.1.length:Int)-1)) (r5.1.2.1.length:Int) ((d9.f k (r4.1.2.1.take (aH ((r4.1.2.1.length:Int)-1)).toNat) (r5.1.2.1.take (aH ((r4.1.2.1.length:Int)-1)).toNat)).bind fun r7=>cond r7.1 (cond (decide ((aH ((r4.1.2.1.length:Int)-1))<(r4.1.2.1.length:Int))) (some ((r4.1.1.2.2.1.2.2.2.1==(decide ((aH ((r4.1.2.1.length:Int)-1))<(r4.1.2.1.length:Int)))),())) (cond ((r4.1.2.1.length:Int)==(r5.1.2.1.length:Int)) (some ((r4.1.1.2.2.1.2.2.2.1==(decide ((aH ((r4.1.2.1.length:Int)-1))<(r4.1.2.1.length:Int)))),())) (some (false,())))) (some (false,()))))) (oh (r4.1.2.1.length:Int) (r4.1.2.1.length:Int) (oh (r4.1.2.1.length:Int) (r5.1.2.1.length:Int) ((d9.f k (r4.1.2.1.take (Int.toNat (r4.1.2.1.length:Int))) (r5.1.2.1.take (Int.toNat (r4.1.2.1.length:Int)))).bind fun r8=>cond r8.1 (cond (decide ((r4.1.2.1.length:Int)<(r4.1.2.1.length:Int))) (some ((r4.1.1.2.2.1.2.2.2.1==(decide ((r4.1.2.1.length:Int)<(r4.1.2.1.length:Int)))),())) (cond ((r4.1.2.1.length:Int)==(r5.1.2.1.length:Int)) (some ((r4.1.1.2.2.1.2.2.2.1==(decide ((r4.1.2.1.length:Int)<(r4.1.2.1.length:Int)))),())) (some (false,())))) (some (false,()))))))))))))))
def f:=t k
end jI
end Go.Proofs.YtijlgdoiofdmhaaGreatDoor.G

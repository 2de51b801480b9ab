/- Functions, as V runs them. -/
import Derived.Test.YtbgnhoggngbhhaaGreatDoorVWords
import Derived.Test.YtbgnhoggngbhhaaGreatDoorXLib
set_option linter.unusedVariables false
namespace Go.Proofs.YtbgnhoggngbhhaaGreatDoor.G
open Go.V
abbrev aW:Ty := .pair .str (.pair .bool (.pair .str .unit))
abbrev u_:Ty := .pair (.int .i64) (.pair (.slice aW) .unit)
abbrev aG:Ty := .pair (.int .i64) (.pair .str (.pair (.slice .str) .unit))
abbrev aL:Ty := .pair .str (.pair .str (.pair (.int .i64) .unit))
abbrev aA:Ty := .pair (.slice aL) (.pair (.int .i64) (.pair (.int .i64) (.pair .bool .unit)))
abbrev ch:Ty := .pair (.int .i64) (.pair (.slice (.int .i64)) .unit)
abbrev aB:Ty := .pair .str (.pair (.int .i64) (.pair (.int .i64) (.pair (.int .i64) (.pair (.int .i64) .unit))))
abbrev aD:Ty := .pair ch (.pair (.slice aB) (.pair (.int .i64) (.pair (.int .i64) (.pair (.int .i64) .unit))))
abbrev bF:Ty := .pair .str (.pair (.int .i64) .unit)
abbrev aK:Ty := .pair .bool (.pair (.slice bF) (.pair (.slice aW) .unit))
abbrev bO:Ty := .pair .bool (.pair aD (.pair aA (.pair (.slice aK) .unit)))
abbrev kH:Ty := .pair (.slice aB) (.pair (.int .i64) (.pair (.int .i64) .unit))
abbrev iS:Ty := .pair (.int .i64) (.pair (.int .i64) (.pair (.slice aB) .unit))
abbrev cF:Ty := .pair (.int .i64) (.pair (.slice aL) (.pair (.slice .str) (.pair (.slice aW) .unit)))
abbrev af:Ty := .pair .bool (.pair (.slice aL) (.pair (.int .i64) (.pair (.slice aK) .unit)))
abbrev ba:Ty := .pair (.int .i64) (.pair (.int .i64) (.pair .str (.pair .str (.pair (.int .i64) (.pair (.int .i64) .unit)))))
abbrev aM:Ty := .pair (.int .i64) (.pair (.int .i64) (.pair (.int .i64) (.pair ba .unit)))
abbrev gN:Ty := .pair bO (.pair (.slice aG) (.pair (.slice u_) (.pair (.slice aW) .unit)))
abbrev aC:Ty := .pair (.int .i64) (.pair (.int .i64) (.pair .str (.pair .str (.pair (.int .i64) .unit))))
abbrev yF:Ty := .pair (.int .i64) (.pair (.int .i64) (.pair (.slice aC) .unit))
abbrev cz:Ty := .pair (.int .i64) (.pair (.int .i64) (.pair ba .unit))
abbrev fk:Ty := .pair (.slice (.int .u8)) (.pair (.int .i64) (.pair (.int .i64) .unit))
abbrev me:Ty := .pair .str (.pair .bool .unit)
abbrev an:Ty := .pair aA (.pair (.int .i64) .unit)
abbrev cE:Ty:=aL
variable (k:Nat)
namespace qJ
abbrev Rs:Type:=Option (Bool × Unit)
def t (k:Nat) (a0:List Int):Rs :=
 (some ((decide ((a0.length:Int) > 1048576)),()))
def f:=t k
end qJ
namespace gT
abbrev Rs:Type:=Option (Unit × (Ty.d fk) × Unit)
abbrev T0:Type:=List Int→Int→Int→Rs
def b0 (k:Nat) (L0:T0):T0:=fun x0 x1 x2 =>
 (cond (decide (x2<(x0.length:Int))) (cond (decide (x2<4000)) (cD x2 (x0.length:Int) (L0 x0 (aQ (((BitVec.ofInt (IntKind.bits .i64) (aQ ((aQ ((aQ (x1*131))+(aQ (x0.getD x2.toNat (Ty.z (.int .u8))))))+7)) &&& BitVec.ofInt (IntKind.bits .i64) 1073741823).toNat:Int))) (aQ (x2+1)))) (some ((),((x0,(0,(x1,()))),())))) (some ((),((x0,(0,(x1,()))),()))))
def l0:Nat→T0
 | 0=>fun _ _ _=>none
 | n+1=>b0 k (l0 n)
def t (k:Nat) (L0:T0) (a0:List Int):Rs :=
 (L0 a0 (aQ (10101+(a0.length:Int))) 0)
def f:=t k (l0 k k)
end gT
namespace fB
abbrev Rs:Type:=Option ((Ty.d fk) × Int × Unit)
def t (k:Nat) (a0:Ty.d fk):Rs :=
 (cond (decide (a0.2.1<(a0.1.length:Int))) (cD a0.2.1 (a0.1.length:Int) (some ((a0.1,((aQ (a0.2.1+1)),((aQ ((aQ (a0.2.2.1*6364136223846793005))+1442695040888963407)),()))),((aQ (((BitVec.ofInt (IntKind.bits .i64) (aQ ((aQ (((BitVec.ofInt (IntKind.bits .i64) (aQ (((BitVec.ofInt (IntKind.bits .i64) (Int.fdiv (aQ ((aQ (a0.2.2.1*6364136223846793005))+1442695040888963407)) (2 ^ (Int.toNat 33))) ^^^ BitVec.ofInt (IntKind.bits .i64) (Int.fdiv (aQ ((aQ (a0.2.2.1*6364136223846793005))+1442695040888963407)) (2 ^ (Int.toNat 45)))).toNat:Int))) &&& BitVec.ofInt (IntKind.bits .i64) 255).toNat:Int)))+(aQ (a0.1.getD a0.2.1.toNat (Ty.z (.int .u8)))))) &&& BitVec.ofInt (IntKind.bits .i64) 255).toNat:Int))),())))) (some ((a0.1,(a0.2.1,((aQ ((aQ (a0.2.2.1*6364136223846793005))+1442695040888963407)),()))),((aQ (((BitVec.ofInt (IntKind.bits .i64) (aQ (((BitVec.ofInt (IntKind.bits .i64) (Int.fdiv (aQ ((aQ (a0.2.2.1*6364136223846793005))+1442695040888963407)) (2 ^ (Int.toNat 33))) ^^^ BitVec.ofInt (IntKind.bits .i64) (Int.fdiv (aQ ((aQ (a0.2.2.1*6364136223846793005))+1442695040888963407)) (2 ^ (Int.toNat 45)))).toNat:Int))) &&& BitVec.ofInt (IntKind.bits .i64) 255).toNat:Int))),()))))
def f:=t k
end fB
namespace bN
abbrev Rs:Type:=Option ((Ty.d fk) × Int × Unit)
def t (a0:Ty.d fk) (a1:Int):Rs :=
 (cond (decide (a1≤0)) (some (a0,(0,()))) (cond (decide (a1≤256)) ((fB.f k a0).bind fun r1=>bif (decide (a1=0)) then none else (some (r1.1,((Int.tmod r1.2.1 a1),())))) ((fB.f k a0).bind fun r2=>(fB.f k r2.1).bind fun r3=>(fB.f k r3.1).bind fun r4=>(fB.f k r4.1).bind fun r5=>bif (decide (a1=0)) then none else (some (r5.1,((Int.tmod (aQ ((aQ ((aQ ((aQ (r2.2.1*16777216))+(aQ (r3.2.1*65536))))+(aQ (r4.2.1*256))))+r5.2.1)) a1),()))))))
def f:=t k
end bN
namespace ai
abbrev Rs:Type:=Option ((Ty.d fk) × Int × Unit)
def t (a0:Ty.d fk) (a1:List Int):Rs :=
 ((bN.f k a0 (a1.length:Int)).bind fun r1=>cD r1.2.1 (a1.length:Int) (some (r1.1,((a1.getD r1.2.1.toNat (Ty.z (.int .i64))),()))))
def f:=t k
end ai
namespace cr
abbrev Rs:Type:=Option ((Ty.d fk) × ByteArray × Unit)
def t (a0:Ty.d fk) (a1:List ByteArray):Rs :=
 ((bN.f k a0 (a1.length:Int)).bind fun r1=>cD r1.2.1 (a1.length:Int) (some (r1.1,((a1.getD r1.2.1.toNat (Ty.z .str)),()))))
def f:=t k
end cr
namespace ix
abbrev Rs:Type:=Option ((Ty.d fk) × ByteArray × Unit)
def t (a0:Ty.d fk):Rs :=
 ((cr.f k a0 [(⟨#[97]⟩:ByteArray),(⟨#[98]⟩:ByteArray),(⟨#[99]⟩:ByteArray),(⟨#[107,101,121]⟩:ByteArray),(⟨#[108,111,110,103,110,97,109,101]⟩:ByteArray)]).bind fun r1=>some r1)
def f:=t k
end ix
namespace fH
abbrev Rs:Type:=Option ((Ty.d fk) × ByteArray × Unit)
abbrev T0:Type:=Int→Int→List Int→Int→Int→List Int→Rs
def b0 (L0:T0):T0:=fun x0 x1 x2 x3 x4 x5 =>
 (cond (decide (x1 > 0)) ((fB.f k (x2,(x3,(x4,())))).bind fun r3=>cond (x0==1) (cond (x0==2) (rm (Ty.bytes (.int .u8)) (x5.length+1) (L0 x0 (aQ (x1-1)) r3.1.1 r3.1.2.1 r3.1.2.2.1 (x5++[(IntKind.wrap .u8 (aQ (97+(Int.tmod (Int.tmod r3.2.1 2) 4))))]))) (rm (Ty.bytes (.int .u8)) (x5.length+1) (L0 x0 (aQ (x1-1)) r3.1.1 r3.1.2.1 r3.1.2.2.1 (x5++[(IntKind.wrap .u8 (Int.tmod r3.2.1 2))])))) (cond (x0==2) (rm (Ty.bytes (.int .u8)) (x5.length+1) (L0 x0 (aQ (x1-1)) r3.1.1 r3.1.2.1 r3.1.2.2.1 (x5++[(IntKind.wrap .u8 (aQ (97+(Int.tmod r3.2.1 4))))]))) (rm (Ty.bytes (.int .u8)) (x5.length+1) (L0 x0 (aQ (x1-1)) r3.1.1 r3.1.2.1 r3.1.2.2.1 (x5++[(IntKind.wrap .u8 r3.2.1)]))))) (some ((x2,(x3,(x4,()))),((bytesOf x5),()))))
def l0:Nat→T0
 | 0=>fun _ _ _ _ _ _=>none
 | n+1=>b0 k (l0 n)
def t (L0:T0) (a0:Ty.d fk) (a1:Int):Rs :=
 ((bN.f k a0 4).bind fun r1=>(bN.f k r1.1 (aQ (a1+1))).bind fun r2=>L0 r1.2.1 r2.2.1 r2.1.1 r2.1.2.1 r2.1.2.2.1 [])
def f:=t k (l0 k k)
end fH
namespace jO
abbrev Rs:Type:=Option ((Ty.d fk) × (Ty.d aC) × Unit)
def t (a0:Ty.d fk):Rs :=
 ((ai.f k a0 [1,2,2,3,3,3,4,5,5,6,7,8,1,5]).bind fun r1=>(bN.f k r1.1 3).bind fun r2=>cond (r1.2.1==2) (cond (r1.2.1==2) ((ix.f k r2.1).bind fun r3=>(bN.f k r3.1 40).bind fun r4=>cond (r4.2.1==0) (some (r4.1,((9,(0,(ByteArray.empty,(ByteArray.empty,(0,()))))),()))) (cond (r4.2.1==1) (cond (r4.2.1==1) (some (r4.1,((10,(0,(ByteArray.empty,(ByteArray.empty,(0,()))))),()))) (cond (r4.2.1==3) ((ai.f k r4.1 [(-1),3]).bind fun r5=>some (r5.1,((r1.2.1,(r5.2.1,(r3.2.1,(ByteArray.empty,(0,()))))),()))) (cond (r4.2.1==4) ((cr.f k r4.1 [(⟨#[]⟩:ByteArray),(⟨#[110,105,110,101,98,121,116,101,115]⟩:ByteArray)]).bind fun r6=>some (r6.1,((r1.2.1,(r2.2.1,(r6.2.1,(ByteArray.empty,(0,()))))),()))) (cond (r4.2.1==5) ((ai.f k r4.1 [0,12]).bind fun r7=>some (r7.1,((r7.2.1,(r2.2.1,(r3.2.1,(ByteArray.empty,(0,()))))),()))) (some (r4.1,((r1.2.1,(r2.2.1,(r3.2.1,(ByteArray.empty,(0,()))))),()))))))) (cond (r4.2.1==2) (some (r4.1,((10,(0,(ByteArray.empty,(ByteArray.empty,(0,()))))),()))) (cond (r4.2.1==3) ((ai.f k r4.1 [(-1),3]).bind fun r8=>some (r8.1,((r1.2.1,(r8.2.1,(r3.2.1,(ByteArray.empty,(0,()))))),()))) (cond (r4.2.1==4) ((cr.f k r4.1 [(⟨#[]⟩:ByteArray),(⟨#[110,105,110,101,98,121,116,101,115]⟩:ByteArray)]).bind fun r9=>some (r9.1,((r1.2.1,(r2.2.1,(r9.2.1,(ByteArray.empty,(0,()))))),()))) (cond (r4.2.1==5) ((ai.f k r4.1 [0,12]).bind fun r10=>some (r10.1,((r10.2.1,(r2.2.1,(r3.2.1,(ByteArray.empty,(0,()))))),()))) (some (r4.1,((r1.2.1,(r2.2.1,(r3.2.1,(ByteArray.empty,(0,()))))),()))))))))) (cond (r1.2.1==3) ((ix.f k r2.1).bind fun r11=>(fH.f k r11.1 12).bind fun r12=>(bN.f k r12.1 40).bind fun r13=>cond (r13.2.1==0) (some (r13.1,((9,(0,(ByteArray.empty,(ByteArray.empty,(0,()))))),()))) (cond (r13.2.1==1) (cond (r13.2.1==1) (some (r13.1,((10,(0,(ByteArray.empty,(ByteArray.empty,(0,()))))),()))) (cond (r13.2.1==3) ((ai.f k r13.1 [(-1),3]).bind fun r14=>some (r14.1,((r1.2.1,(r14.2.1,(r11.2.1,(r12.2.1,(0,()))))),()))) (cond (r13.2.1==4) ((cr.f k r13.1 [(⟨#[]⟩:ByteArray),(⟨#[110,105,110,101,98,121,116,101,115]⟩:ByteArray)]).bind fun r15=>some (r15.1,((r1.2.1,(r2.2.1,(r15.2.1,(r12.2.1,(0,()))))),()))) (cond (r13.2.1==5) ((ai.f k r13.1 [0,12]).bind fun r16=>some (r16.1,((r16.2.1,(r2.2.1,(r11.2.1,(r12.2.1,(0,()))))),()))) (some (r13.1,((r1.2.1,(r2.2.1,(r11.2.1,(r12.2.1,(0,()))))),()))))))) (cond (r13.2.1==2) (some (r13.1,((10,(0,(ByteArray.empty,(ByteArray.empty,(0,()))))),()))) (cond (r13.2.1==3) ((ai.f k r13.1 [(-1),3]).bind fun r17=>some (r17.1,((r1.2.1,(r17.2.1,(r11.2.1,(r12.2.1,(0,()))))),()))) (cond (r13.2.1==4) ((cr.f k r13.1 [(⟨#[]⟩:ByteArray),(⟨#[110,105,110,101,98,121,116,101,115]⟩:ByteArray)]).bind fun r18=>some (r18.1,((r1.2.1,(r2.2.1,(r18.2.1,(r12.2.1,(0,()))))),()))) (cond (r13.2.1==5) ((ai.f k r13.1 [0,12]).bind fun r19=>some (r19.1,((r19.2.1,(r2.2.1,(r11.2.1,(r12.2.1,(0,()))))),()))) (some (r13.1,((r1.2.1,(r2.2.1,(r11.2.1,(r12.2.1,(0,()))))),()))))))))) ((bN.f k r2.1 40).bind fun r20=>cond (r20.2.1==0) (some (r20.1,((9,(0,(ByteArray.empty,(ByteArray.empty,(0,()))))),()))) (cond (r20.2.1==1) (cond (r20.2.1==1) (some (r20.1,((10,(0,(ByteArray.empty,(ByteArray.empty,(0,()))))),()))) (cond (r20.2.1==3) ((ai.f k r20.1 [(-1),3]).bind fun r21=>some (r21.1,((r1.2.1,(r21.2.1,(ByteArray.empty,(ByteArray.empty,(0,()))))),()))) (cond (r20.2.1==4) ((cr.f k r20.1 [(⟨#[]⟩:ByteArray),(⟨#[110,105,110,101,98,121,116,101,115]⟩:ByteArray)]).bind fun r22=>some (r22.1,((r1.2.1,(r2.2.1,(r22.2.1,(ByteArray.empty,(0,()))))),()))) (cond (r20.2.1==5) ((ai.f k r20.1 [0,12]).bind fun r23=>some (r23.1,((r23.2.1,(r2.2.1,(ByteArray.empty,(ByteArray.empty,(0,()))))),()))) (some (r20.1,((r1.2.1,(r2.2.1,(ByteArray.empty,(ByteArray.empty,(0,()))))),()))))))) (cond (r20.2.1==2) (some (r20.1,((10,(0,(ByteArray.empty,(ByteArray.empty,(0,()))))),()))) (cond (r20.2.1==3) ((ai.f k r20.1 [(-1),3]).bind fun r24=>some (r24.1,((r1.2.1,(r24.2.1,(ByteArray.empty,(ByteArray.empty,(0,()))))),()))) (cond (r20.2.1==4) ((cr.f k r20.1 [(⟨#[]⟩:ByteArray),(⟨#[110,105,110,101,98,121,116,101,115]⟩:ByteArray)]).bind fun r25=>some (r25.1,((r1.2.1,(r2.2.1,(r25.2.1,(ByteArray.empty,(0,()))))),()))) (cond (r20.2.1==5) ((ai.f k r20.1 [0,12]).bind fun r26=>some (r26.1,((r26.2.1,(r2.2.1,(ByteArray.empty,(ByteArray.empty,(0,()))))),()))) (some (r20.1,((r1.2.1,(r2.2.1,(ByteArray.empty,(ByteArray.empty,(0,()))))),()))))))))))) (cond (r1.2.1==4) ((ix.f k r2.1).bind fun r27=>(bN.f k r27.1 40).bind fun r28=>cond (r28.2.1==0) (some (r28.1,((9,(0,(ByteArray.empty,(ByteArray.empty,(0,()))))),()))) (cond (r28.2.1==1) (cond (r28.2.1==1) (some (r28.1,((10,(0,(ByteArray.empty,(ByteArray.empty,(0,()))))),()))) (cond (r28.2.1==3) ((ai.f k r28.1 [(-1),3]).bind fun r29=>some (r29.1,((r1.2.1,(r29.2.1,(r27.2.1,(ByteArray.empty,(0,()))))),()))) (cond (r28.2.1==4) ((cr.f k r28.1 [(⟨#[]⟩:ByteArray),(⟨#[110,105,110,101,98,121,116,101,115]⟩:ByteArray)]).bind fun r30=>some (r30.1,((r1.2.1,(r2.2.1,(r30.2.1,(ByteArray.empty,(0,()))))),()))) (cond (r28.2.1==5) ((ai.f k r28.1 [0,12]).bind fun r31=>some (r31.1,((r31.2.1,(r2.2.1,(r27.2.1,(ByteArray.empty,(0,()))))),()))) (some (r28.1,((r1.2.1,(r2.2.1,(r27.2.1,(ByteArray.empty,(0,()))))),()))))))) (cond (r28.2.1==2) (some (r28.1,((10,(0,(ByteArray.empty,(ByteArray.empty,(0,()))))),()))) (cond (r28.2.1==3) ((ai.f k r28.1 [(-1),3]).bind fun r32=>some (r32.1,((r1.2.1,(r32.2.1,(r27.2.1,(ByteArray.empty,(0,()))))),()))) (cond (r28.2.1==4) ((cr.f k r28.1 [(⟨#[]⟩:ByteArray),(⟨#[110,105,110,101,98,121,116,101,115]⟩:ByteArray)]).bind fun r33=>some (r33.1,((r1.2.1,(r2.2.1,(r33.2.1,(ByteArray.empty,(0,()))))),()))) (cond (r28.2.1==5) ((ai.f k r28.1 [0,12]).bind fun r34=>some (r34.1,((r34.2.1,(r2.2.1,(r27.2.1,(ByteArray.empty,(0,()))))),()))) (some (r28.1,((r1.2.1,(r2.2.1,(r27.2.1,(ByteArray.empty,(0,()))))),()))))))))) (cond (r1.2.1==3) ((ix.f k r2.1).bind fun r35=>(fH.f k r35.1 12).bind fun r36=>(bN.f k r36.1 40).bind fun r37=>cond (r37.2.1==0) (some (r37.1,((9,(0,(ByteArray.empty,(ByteArray.empty,(0,()))))),()))) (cond (r37.2.1==1) (cond (r37.2.1==1) (some (r37.1,((10,(0,(ByteArray.empty,(ByteArray.empty,(0,()))))),()))) (cond (r37.2.1==3) ((ai.f k r37.1 [(-1),3]).bind fun r38=>some (r38.1,((r1.2.1,(r38.2.1,(r35.2.1,(r36.2.1,(0,()))))),()))) (cond (r37.2.1==4) ((cr.f k r37.1 [(⟨#[]⟩:ByteArray),(⟨#[110,105,110,101,98,121,116,101,115]⟩:ByteArray)]).bind fun r39=>some (r39.1,((r1.2.1,(r2.2.1,(r39.2.1,(r36.2.1,(0,()))))),()))) (cond (r37.2.1==5) ((ai.f k r37.1 [0,12]).bind fun r40=>some (r40.1,((r40.2.1,(r2.2.1,(r35.2.1,(r36.2.1,(0,()))))),()))) (some (r37.1,((r1.2.1,(r2.2.1,(r35.2.1,(r36.2.1,(0,()))))),()))))))) (cond (r37.2.1==2) (some (r37.1,((10,(0,(ByteArray.empty,(ByteArray.empty,(0,()))))),()))) (cond (r37.2.1==3) ((ai.f k r37.1 [(-1),3]).bind fun r41=>some (r41.1,((r1.2.1,(r41.2.1,(r35.2.1,(r36.2.1,(0,()))))),()))) (cond (r37.2.1==4) ((cr.f k r37.1 [(⟨#[]⟩:ByteArray),(⟨#[110,105,110,101,98,121,116,101,115]⟩:ByteArray)]).bind fun r42=>some (r42.1,((r1.2.1,(r2.2.1,(r42.2.1,(r36.2.1,(0,()))))),()))) (cond (r37.2.1==5) ((ai.f k r37.1 [0,12]).bind fun r43=>some (r43.1,((r43.2.1,(r2.2.1,(r35.2.1,(r36.2.1,(0,()))))),()))) (some (r37.1,((r1.2.1,(r2.2.1,(r35.2.1,(r36.2.1,(0,()))))),()))))))))) ((bN.f k r2.1 40).bind fun r44=>cond (r44.2.1==0) (some (r44.1,((9,(0,(ByteArray.empty,(ByteArray.empty,(0,()))))),()))) (cond (r44.2.1==1) (cond (r44.2.1==1) (some (r44.1,((10,(0,(ByteArray.empty,(ByteArray.empty,(0,()))))),()))) (cond (r44.2.1==3) ((ai.f k r44.1 [(-1),3]).bind fun r45=>some (r45.1,((r1.2.1,(r45.2.1,(ByteArray.empty,(ByteArray.empty,(0,()))))),()))) (cond (r44.2.1==4) ((cr.f k r44.1 [(⟨#[]⟩:ByteArray),(⟨#[110,105,110,101,98,121,116,101,115]⟩:ByteArray)]).bind fun r46=>some (r46.1,((r1.2.1,(r2.2.1,(r46.2.1,(ByteArray.empty,(0,()))))),()))) (cond (r44.2.1==5) ((ai.f k r44.1 [0,12]).bind fun r47=>some (r47.1,((r47.2.1,(r2.2.1,(ByteArray.empty,(ByteArray.empty,(0,()))))),()))) (some (r44.1,((r1.2.1,(r2.2.1,(ByteArray.empty,(ByteArray.empty,(0,()))))),()))))))) (cond (r44.2.1==2) (some (r44.1,((10,(0,(ByteArray.empty,(ByteArray.empty,(0,()))))),()))) (cond (r44.2.1==3) ((ai.f k r44.1 [(-1),3]).bind fun r48=>some (r48.1,((r1.2.1,(r48.2.1,(ByteArray.empty,(ByteArray.empty,(0,()))))),()))) (cond (r44.2.1==4) ((cr.f k r44.1 [(⟨#[]⟩:ByteArray),(⟨#[110,105,110,101,98,121,116,101,115]⟩:ByteArray)]).bind fun r49=>some (r49.1,((r1.2.1,(r2.2.1,(r49.2.1,(ByteArray.empty,(0,()))))),()))) (cond (r44.2.1==5) ((ai.f k r44.1 [0,12]).bind fun r50=>some (r50.1,((r50.2.1,(r2.2.1,(ByteArray.empty,(ByteArray.empty,(0,()))))),()))) (some (r44.1,((r1.2.1,(r2.2.1,(ByteArray.empty,(ByteArray.empty,(0,()))))),()))))))))))))
def f:=t k
end jO
namespace bP
abbrev Rs:Type:=Option (Bool × Unit)
def t (k:Nat) (a0:Int) (a1:Int) (a2:Int):Rs :=
 (cond (decide (a0≥a1)) (some ((decide (a0≤a2)),())) (some (false,())))
def f:=t k
end bP
namespace gl
abbrev Rs:Type:=Option ((Ty.d fk) × Bool × Unit)
def t (a0:Ty.d fk) (a1:Int):Rs :=
 ((bN.f k a0 a1).bind fun r1=>some (r1.1,((r1.2.1==0),())))
def f:=t k
end gl
namespace eO
abbrev Rs:Type:=Option ((Ty.d fk) × (List (Ty.d aC)) × Unit)
abbrev T0:Type:=Int→List Int→Int→Int→List (Ty.d aC)→List Bool→Rs
def b0 (L0:T0):T0:=fun x0 x1 x2 x3 x4 x5 =>
 (cond (decide (x0 > 0)) ((jO.f k (x1,(x2,(x3,())))).bind fun r2=>cond (decide (r2.2.1.1≤6)) ((bP.f k r2.2.1.2.1 0 2).bind fun r3=>cond r3.1 (cD r2.2.1.2.1 (x5.length:Int) (cond (!(x5.getD r2.2.1.2.1.toNat (Ty.z .bool))) ((gl.f k r2.1 8).bind fun r4=>cond (!r4.2.1) (cD r2.2.1.2.1 (x5.length:Int) (cond (x5.getD r2.2.1.2.1.toNat (Ty.z .bool)) ((gl.f k r4.1 8).bind fun r5=>cond (!r5.2.1) (cD r2.2.1.2.1 (x5.length:Int) (let l6:=(x5.set r2.2.1.2.1.toNat false);(rm (Ty.bytes aC) (x4.length+1) (L0 (aQ (x0-1)) r5.1.1 r5.1.2.1 r5.1.2.2.1 (x4++[(5,(r2.2.1.2.1,(ByteArray.empty,(ByteArray.empty,(0,())))))]) l6)))) (cD r2.2.1.2.1 (x5.length:Int) (let l7:=(x5.set r2.2.1.2.1.toNat true);(rm (Ty.bytes aC) (x4.length+1) (L0 (aQ (x0-1)) r5.1.1 r5.1.2.1 r5.1.2.2.1 (x4++[(1,(r2.2.1.2.1,(ByteArray.empty,(ByteArray.empty,(0,())))))]) l7))))) (cD r2.2.1.2.1 (x5.length:Int) (let l8:=(x5.set r2.2.1.2.1.toNat true);(rm (Ty.bytes aC) (x4.length+1) (L0 (aQ (x0-1)) r4.1.1 r4.1.2.1 r4.1.2.2.1 (x4++[(1,(r2.2.1.2.1,(ByteArray.empty,(ByteArray.empty,(0,())))))]) l8)))))) (cD r2.2.1.2.1 (x5.length:Int) (cond (x5.getD r2.2.1.2.1.toNat (Ty.z .bool)) (cond (r2.2.1.1==1) ((gl.f k r4.1 8).bind fun r9=>cond (!r9.2.1) (cD r2.2.1.2.1 (x5.length:Int) (let l10:=(x5.set r2.2.1.2.1.toNat false);(rm (Ty.bytes aC) (x4.length+1) (L0 (aQ (x0-1)) r9.1.1 r9.1.2.1 r9.1.2.2.1 (x4++[(5,r2.2.1.2)]) l10)))) (cond (r2.2.1.1 != 5) (cD r2.2.1.2.1 (x5.length:Int) (let l11:=(x5.set r2.2.1.2.1.toNat (r2.2.1.1 != 6));(cond (r2.2.1.1==9) (u7 (Ty.bytes .bool) 3 (rm (Ty.bytes aC) (x4.length+1) (rm (Ty.bytes aC) (List.length (x4++[r2.2.1])+1) (L0 (aQ (x0-1)) r9.1.1 r9.1.2.1 r9.1.2.2.1 ((x4++[r2.2.1])++[(10,(0,(ByteArray.empty,(ByteArray.empty,(0,())))))]) (List.replicate (Int.toNat 3) (Ty.z .bool)))))) (rm (Ty.bytes aC) (x4.length+1) (L0 (aQ (x0-1)) r9.1.1 r9.1.2.1 r9.1.2.2.1 (x4++[r2.2.1]) l11))))) (cD r2.2.1.2.1 (x5.length:Int) (let l12:=(x5.set r2.2.1.2.1.toNat false);(cond (r2.2.1.1==9) (u7 (Ty.bytes .bool) 3 (rm (Ty.bytes aC) (x4.length+1) (rm (Ty.bytes aC) (List.length (x4++[r2.2.1])+1) (L0 (aQ (x0-1)) r9.1.1 r9.1.2.1 r9.1.2.2.1 ((x4++[r2.2.1])++[(10,(0,(ByteArray.empty,(ByteArray.empty,(0,())))))]) (List.replicate (Int.toNat 3) (Ty.z .bool)))))) (rm (Ty.bytes aC) (x4.length+1) (L0 (aQ (x0-1)) r9.1.1 r9.1.2.1 r9.1.2.2.1 (x4++[r2.2.1]) l12))))))) (cond (r2.2.1.1 != 5) (cD r2.2.1.2.1 (x5.length:Int) (let l13:=(x5.set r2.2.1.2.1.toNat (r2.2.1.1 != 6));(cond (r2.2.1.1==9) (u7 (Ty.bytes .bool) 3 (rm (Ty.bytes aC) (x4.length+1) (rm (Ty.bytes aC) (List.length (x4++[r2.2.1])+1) (L0 (aQ (x0-1)) r4.1.1 r4.1.2.1 r4.1.2.2.1 ((x4++[r2.2.1])++[(10,(0,(ByteArray.empty,(ByteArray.empty,(0,())))))]) (List.replicate (Int.toNat 3) (Ty.z .bool)))))) (rm (Ty.bytes aC) (x4.length+1) (L0 (aQ (x0-1)) r4.1.1 r4.1.2.1 r4.1.2.2.1 (x4++[r2.2.1]) l13))))) (cD r2.2.1.2.1 (x5.length:Int) (let l14:=(x5.set r2.2.1.2.1.toNat false);(cond (r2.2.1.1==9) (u7 (Ty.bytes .bool) 3 (rm (Ty.bytes aC) (x4.length+1) (rm (Ty.bytes aC) (List.length (x4++[r2.2.1])+1) (L0 (aQ (x0-1)) r4.1.1 r4.1.2.1 r4.1.2.2.1 ((x4++[r2.2.1])++[(10,(0,(ByteArray.empty,(ByteArray.empty,(0,())))))]) (List.replicate (Int.toNat 3) (Ty.z .bool)))))) (rm (Ty.bytes aC) (x4.length+1) (L0 (aQ (x0-1)) r4.1.1 r4.1.2.1 r4.1.2.2.1 (x4++[r2.2.1]) l14))))))) (cond (r2.2.1.1 != 5) (cD r2.2.1.2.1 (x5.length:Int) (let l15:=(x5.set r2.2.1.2.1.toNat (r2.2.1.1 != 6));(cond (r2.2.1.1==9) (u7 (Ty.bytes .bool) 3 (rm (Ty.bytes aC) (x4.length+1) (rm (Ty.bytes aC) (List.length (x4++[r2.2.1])+1) (L0 (aQ (x0-1)) r4.1.1 r4.1.2.1 r4.1.2.2.1 ((x4++[r2.2.1])++[(10,(0,(ByteArray.empty,(ByteArray.empty,(0,())))))]) (List.replicate (Int.toNat 3) (Ty.z .bool)))))) (rm (Ty.bytes aC) (x4.length+1) (L0 (aQ (x0-1)) r4.1.1 r4.1.2.1 r4.1.2.2.1 (x4++[r2.2.1]) l15))))) (cD r2.2.1.2.1 (x5.length:Int) (let l16:=(x5.set r2.2.1.2.1.toNat false);(cond (r2.2.1.1==9) (u7 (Ty.bytes .bool) 3 (rm (Ty.bytes aC) (x4.length+1) (rm (Ty.bytes aC) (List.length (x4++[r2.2.1])+1) (L0 (aQ (x0-1)) r4.1.1 r4.1.2.1 r4.1.2.2.1 ((x4++[r2.2.1])++[(10,(0,(ByteArray.empty,(ByteArray.empty,(0,())))))]) (List.replicate (Int.toNat 3) (Ty.z .bool)))))) (rm (Ty.bytes aC) (x4.length+1) (L0 (aQ (x0-1)) r4.1.1 r4.1.2.1 r4.1.2.2.1 (x4++[r2.2.1]) l16))))))))) (cD r2.2.1.2.1 (x5.length:Int) (cond (x5.getD r2.2.1.2.1.toNat (Ty.z .bool)) (cond (r2.2.1.1==1) ((gl.f k r2.1 8).bind fun r17=>cond (!r17.2.1) (cD r2.2.1.2.1 (x5.length:Int) (let l18:=(x5.set r2.2.1.2.1.toNat false);(rm (Ty.bytes aC) (x4.length+1) (L0 (aQ (x0-1)) r17.1.1 r17.1.2.1 r17.1.2.2.1 (x4++[(5,r2.2.1.2)]) l18)))) (cond (r2.2.1.1 != 5) (cD r2.2.1.2.1 (x5.length:Int) (let l19:=(x5.set r2.2.1.2.1.toNat (r2.2.1.1 != 6));(cond (r2.2.1.1==9) (u7 (Ty.bytes .bool) 3 (rm (Ty.bytes aC) (x4.length+1) (rm (Ty.bytes aC) (List.length (x4++[r2.2.1])+1) (L0 (aQ (x0-1)) r17.1.1 r17.1.2.1 r17.1.2.2.1 ((x4++[r2.2.1])++[(10,(0,(ByteArray.empty,(ByteArray.empty,(0,())))))]) (List.replicate (Int.toNat 3) (Ty.z .bool)))))) (rm (Ty.bytes aC) (x4.length+1) (L0 (aQ (x0-1)) r17.1.1 r17.1.2.1 r17.1.2.2.1 (x4++[r2.2.1]) l19))))) (cD r2.2.1.2.1 (x5.length:Int) (let l20:=(x5.set r2.2.1.2.1.toNat false);(cond (r2.2.1.1==9) (u7 (Ty.bytes .bool) 3 (rm (Ty.bytes aC) (x4.length+1) (rm (Ty.bytes aC) (List.length (x4++[r2.2.1])+1) (L0 (aQ (x0-1)) r17.1.1 r17.1.2.1 r17.1.2.2.1 ((x4++[r2.2.1])++[(10,(0,(ByteArray.empty,(ByteArray.empty,(0,())))))]) (List.replicate (Int.toNat 3) (Ty.z .bool)))))) (rm (Ty.bytes aC) (x4.length+1) (L0 (aQ (x0-1)) r17.1.1 r17.1.2.1 r17.1.2.2.1 (x4++[r2.2.1]) l20))))))) (cond (r2.2.1.1 != 5) (cD r2.2.1.2.1 (x5.length:Int) (let l21:=(x5.set r2.2.1.2.1.toNat (r2.2.1.1 != 6));(cond (r2.2.1.1==9) (u7 (Ty.bytes .bool) 3 (rm (Ty.bytes aC) (x4.length+1) (rm (Ty.bytes aC) (List.length (x4++[r2.2.1])+1) (L0 (aQ (x0-1)) r2.1.1 r2.1.2.1 r2.1.2.2.1 ((x4++[r2.2.1])++[(10,(0,(ByteArray.empty,(ByteArray.empty,(0,())))))]) (List.replicate (Int.toNat 3) (Ty.z .bool)))))) (rm (Ty.bytes aC) (x4.length+1) (L0 (aQ (x0-1)) r2.1.1 r2.1.2.1 r2.1.2.2.1 (x4++[r2.2.1]) l21))))) (cD r2.2.1.2.1 (x5.length:Int) (let l22:=(x5.set r2.2.1.2.1.toNat false);(cond (r2.2.1.1==9) (u7 (Ty.bytes .bool) 3 (rm (Ty.bytes aC) (x4.length+1) (rm (Ty.bytes aC) (List.length (x4++[r2.2.1])+1) (L0 (aQ (x0-1)) r2.1.1 r2.1.2.1 r2.1.2.2.1 ((x4++[r2.2.1])++[(10,(0,(ByteArray.empty,(ByteArray.empty,(0,())))))]) (List.replicate (Int.toNat 3) (Ty.z .bool)))))) (rm (Ty.bytes aC) (x4.length+1) (L0 (aQ (x0-1)) r2.1.1 r2.1.2.1 r2.1.2.2.1 (x4++[r2.2.1]) l22))))))) (cond (r2.2.1.1 != 5) (cD r2.2.1.2.1 (x5.length:Int) (let l23:=(x5.set r2.2.1.2.1.toNat (r2.2.1.1 != 6));(cond (r2.2.1.1==9) (u7 (Ty.bytes .bool) 3 (rm (Ty.bytes aC) (x4.length+1) (rm (Ty.bytes aC) (List.length (x4++[r2.2.1])+1) (L0 (aQ (x0-1)) r2.1.1 r2.1.2.1 r2.1.2.2.1 ((x4++[r2.2.1])++[(10,(0,(ByteArray.empty,(ByteArray.empty,(0,())))))]) (List.replicate (Int.toNat 3) (Ty.z .bool)))))) (rm (Ty.bytes aC) (x4.length+1) (L0 (aQ (x0-1)) r2.1.1 r2.1.2.1 r2.1.2.2.1 (x4++[r2.2.1]) l23))))) (cD r2.2.1.2.1 (x5.length:Int) (let l24:=(x5.set r2.2.1.2.1.toNat false);(cond (r2.2.1.1==9) (u7 (Ty.bytes .bool) 3 (rm (Ty.bytes aC) (x4.length+1) (rm (Ty.bytes aC) (List.length (x4++[r2.2.1])+1) (L0 (aQ (x0-1)) r2.1.1 r2.1.2.1 r2.1.2.2.1 ((x4++[r2.2.1])++[(10,(0,(ByteArray.empty,(ByteArray.empty,(0,())))))]) (List.replicate (Int.toNat 3) (Ty.z .bool)))))) (rm (Ty.bytes aC) (x4.length+1) (L0 (aQ (x0-1)) r2.1.1 r2.1.2.1 r2.1.2.2.1 (x4++[r2.2.1]) l24)))))))))) (cond (r2.2.1.1==9) (u7 (Ty.bytes .bool) 3 (rm (Ty.bytes aC) (x4.length+1) (rm (Ty.bytes aC) (List.length (x4++[r2.2.1])+1) (L0 (aQ (x0-1)) r2.1.1 r2.1.2.1 r2.1.2.2.1 ((x4++[r2.2.1])++[(10,(0,(ByteArray.empty,(ByteArray.empty,(0,())))))]) (List.replicate (Int.toNat 3) (Ty.z .bool)))))) (rm (Ty.bytes aC) (x4.length+1) (L0 (aQ (x0-1)) r2.1.1 r2.1.2.1 r2.1.2.2.1 (x4++[r2.2.1]) x5)))) (cond (r2.2.1.1==9) (u7 (Ty.bytes .bool) 3 (rm (Ty.bytes aC) (x4.length+1) (rm (Ty.bytes aC) (List.length (x4++[r2.2.1])+1) (L0 (aQ (x0-1)) r2.1.1 r2.1.2.1 r2.1.2.2.1 ((x4++[r2.2.1])++[(10,(0,(ByteArray.empty,(ByteArray.empty,(0,())))))]) (List.replicate (Int.toNat 3) (Ty.z .bool)))))) (rm (Ty.bytes aC) (x4.length+1) (L0 (aQ (x0-1)) r2.1.1 r2.1.2.1 r2.1.2.2.1 (x4++[r2.2.1]) x5)))) (some ((x1,(x2,(x3,()))),(x4,()))))
def l0:Nat→T0
 | 0=>fun _ _ _ _ _ _=>none
 | n+1=>b0 k (l0 n)
def t (L0:T0) (a0:Ty.d fk) (a1:Int):Rs :=
 (u7 (Ty.bytes .bool) 3 ((bN.f k a0 (aQ (a1+1))).bind fun r1=>L0 r1.2.1 r1.1.1 r1.1.2.1 r1.1.2.2.1 [] (List.replicate (Int.toNat 3) (Ty.z .bool))))
def f:=t k (l0 k k)
end eO
namespace f_
abbrev Rs:Type:=Option ((List (Ty.d aC)) × Unit)
def t (a0:List Int):Rs :=
 ((gT.f k a0).bind fun r1=>(eO.f k r1.2.1 60).bind fun r2=>some r2.2)
def f:=t k
end f_
namespace jV
abbrev Rs:Type:=Option ((Ty.d af) × Unit)
def t (k:Nat):Rs :=
 (u7 (Ty.bytes aK) 3 (some ((true,([],(1,((List.replicate (Int.toNat 3) (Ty.z aK)),())))),())))
def f:=t k
end jV
namespace eZ
abbrev Rs:Type:=Option ((Ty.d aK) × Unit)
def t (k:Nat) (a0:Ty.d aK):Rs :=
 (rm (Ty.bytes bF) (0+List.length a0.2.1) (rm (Ty.bytes aW) (0+List.length a0.2.2.1) (some ((a0.1,(([]++a0.2.1),(([]++a0.2.2.1),()))),()))))
def f:=t k
end eZ
namespace fM
abbrev Rs:Type:=Option ((List (Ty.d aB)) × Unit)
abbrev T0:Type:=List (Ty.d aL)→Int→List (Ty.d aB)→Rs
def b0 (k:Nat) (L0:T0):T0:=fun x0 x1 x2 =>
 (cond (decide (x1<(x0.length:Int))) (cD x1 (x0.length:Int) (cD x1 (x0.length:Int) (rm (Ty.bytes aB) (x2.length+1) (L0 x0 (aQ (x1+1)) (x2++[((x0.getD x1.toNat (Ty.z aL)).1,(0,(0,(0,(x0.getD x1.toNat (Ty.z aL)).2.2))))]))))) (some (x2,())))
def l0:Nat→T0
 | 0=>fun _ _ _=>none
 | n+1=>b0 k (l0 n)
def t (k:Nat) (L0:T0) (a0:List (Ty.d aL)):Rs :=
 (L0 a0 0 [])
def f:=t k (l0 k k)
end fM
namespace fU
abbrev Rs:Type:=Option ((List ByteArray) × Unit)
abbrev T0:Type:=List (Ty.d aB)→Int→List ByteArray→Rs
def b0 (k:Nat) (L0:T0):T0:=fun x0 x1 x2 =>
 (cond (decide (x1<(x0.length:Int))) (cD x1 (x0.length:Int) (rm (Ty.bytes .str) (x2.length+1) (L0 x0 (aQ (x1+1)) (x2++[(x0.getD x1.toNat (Ty.z aB)).1])))) (some (x2,())))
def l0:Nat→T0
 | 0=>fun _ _ _=>none
 | n+1=>b0 k (l0 n)
def t (k:Nat) (L0:T0) (a0:List (Ty.d aB)):Rs :=
 (L0 a0 0 [])
def f:=t k (l0 k k)
end fU
namespace gM
abbrev Rs:Type:=Option ((Ty.d aB) × Bool × Unit)
abbrev T0:Type:=List (Ty.d aB)→ByteArray→Int→ByteArray→Int→Int→Int→Int→Rs
def b0 (k:Nat) (L0:T0):T0:=fun x0 x1 x2 x3 x4 x5 x6 x7 =>
 (cond (decide (x2<(x0.length:Int))) (cD x2 (x0.length:Int) (cond (seq (x0.getD x2.toNat (Ty.z aB)).1 x1) (cD x2 (x0.length:Int) (some ((x0.getD x2.toNat (Ty.z aB)),(true,())))) (L0 x0 x1 (aQ (x2+1)) x3 x4 x5 x6 x7))) (some ((ByteArray.empty,(0,(0,(0,(0,()))))),(false,()))))
def l0:Nat→T0
 | 0=>fun _ _ _ _ _ _ _ _=>none
 | n+1=>b0 k (l0 n)
def t (k:Nat) (L0:T0) (a0:List (Ty.d aB)) (a1:ByteArray):Rs :=
 (L0 a0 a1 0 ByteArray.empty 0 0 0 0)
def f:=t k (l0 k k)
end gM
namespace hO
abbrev Rs:Type:=Option (Bool × Unit)
abbrev T0:Type:=List (Ty.d aB)→Int→Bool→List (Ty.d bF)→List (Ty.d aW)→Rs
def b0 (L0:T0):T0:=fun x0 x1 x2 x3 x4 =>
 (cond (decide (x1<(x3.length:Int))) (cD x1 (x3.length:Int) ((gM.f k x0 (x3.getD x1.toNat (Ty.z bF)).1).bind fun r1=>cD x1 (x3.length:Int) (cond (r1.1.2.2.2.2.1 != (x3.getD x1.toNat (Ty.z bF)).2.1) (some (false,())) (L0 x0 (aQ (x1+1)) x2 x3 x4)))) (some (true,())))
def l0:Nat→T0
 | 0=>fun _ _ _ _ _=>none
 | n+1=>b0 k (l0 n)
def t (k:Nat) (L0:T0) (a0:Ty.d aK) (a1:List (Ty.d aB)):Rs :=
 (L0 a1 0 a0.1 a0.2.1 a0.2.2.1)
def f:=t k (l0 k k)
end hO
namespace dF
abbrev Rs:Type:=Option ((Ty.d aW) × Bool × Unit)
abbrev T0:Type:=ByteArray→Int→Bool→List (Ty.d bF)→List (Ty.d aW)→ByteArray→Bool→ByteArray→Rs
def b0 (k:Nat) (L0:T0):T0:=fun x0 x1 x2 x3 x4 x5 x6 x7 =>
 (cond (decide (x1≥0)) (cD x1 (x4.length:Int) (cond (seq (x4.getD x1.toNat (Ty.z aW)).1 x0) (cD x1 (x4.length:Int) (some ((x4.getD x1.toNat (Ty.z aW)),(true,())))) (L0 x0 (aQ (x1-1)) x2 x3 x4 x5 x6 x7))) (some ((ByteArray.empty,(false,(ByteArray.empty,()))),(false,()))))
def l0:Nat→T0
 | 0=>fun _ _ _ _ _ _ _ _=>none
 | n+1=>b0 k (l0 n)
def t (k:Nat) (L0:T0) (a0:Ty.d aK) (a1:ByteArray):Rs :=
 (L0 a1 (aQ ((a0.2.2.1.length:Int)-1)) a0.1 a0.2.1 a0.2.2.1 ByteArray.empty false ByteArray.empty)
def f:=t k (l0 k k)
end dF
namespace bI
abbrev Rs:Type:=Option ((List (Ty.d aW)) × Unit)
abbrev T1:Type:=Int→Bool→Int→Bool→List (Ty.d bF)→List (Ty.d aW)→List (Ty.d aW)→Rs
abbrev T0:Type:=Int→Bool→List (Ty.d bF)→List (Ty.d aW)→List (Ty.d aW)→Rs
def b1 (L0:T0) (L1:T1):T1:=fun x0 x1 x2 x3 x4 x5 x6 =>
 (cond (decide (x2<x0)) (cond x1 (cD x2 (x5.length:Int) (cD x0 (x5.length:Int) (L1 x0 (!(seq (x5.getD x2.toNat (Ty.z aW)).1 (x5.getD x0.toNat (Ty.z aW)).1)) (aQ (x2+1)) x3 x4 x5 x6))) (L1 x0 false (aQ (x2+1)) x3 x4 x5 x6)) (cond x1 (cD x0 (x5.length:Int) ((dF.f k (x3,(x4,(x5,()))) (x5.getD x0.toNat (Ty.z aW)).1).bind fun r1=>rm (Ty.bytes aW) (x6.length+1) (L0 (aQ (x0+1)) x3 x4 x5 (x6++[r1.1])))) (L0 (aQ (x0+1)) x3 x4 x5 x6)))
def l1 (L0:T0):Nat→T1
 | 0=>fun _ _ _ _ _ _ _=>none
 | n+1=>b1 k L0 (l1 L0 n)
def b0 (k:Nat) (L1:T1) (L0:T0):T0:=fun x0 x1 x2 x3 x4 =>
 (cond (decide (x0<(x3.length:Int))) (L1 x0 true 0 x1 x2 x3 x4) (some (x4,())))
def l0:Nat→T0
 | 0=>fun _ _ _ _ _=>none
 | n+1=>b0 k (l1 k (l0 n) k) (l0 n)
def t (k:Nat) (L0:T0) (a0:Ty.d aK):Rs :=
 (L0 0 a0.1 a0.2.1 a0.2.2.1 [])
def f:=t k (l0 k k)
end bI
namespace gL
abbrev Rs:Type:=Option ((List (Ty.d aL)) × Unit)
abbrev T0:Type:=List (Ty.d aL)→Bool→Int→ByteArray→ByteArray→Int→List (Ty.d aL)→Rs
def b0 (k:Nat) (L0:T0):T0:=fun x0 x1 x2 x3 x4 x5 x6 =>
 (cond (decide (x2<(x0.length:Int))) (cD x2 (x0.length:Int) (cond (seq (x0.getD x2.toNat (Ty.z aL)).1 x3) (L0 x0 x1 (aQ (x2+1)) x3 x4 x5 x6) (cond (!x1) (cD x2 (x0.length:Int) (cond (!((nT (x0.getD x2.toNat (Ty.z aL)).1 x3)||(seq (x0.getD x2.toNat (Ty.z aL)).1 x3))) (rm (Ty.bytes aL) (x6.length+1) (cD x2 (x0.length:Int) (rm (Ty.bytes aL) (List.length (x6++[(x3,(x4,(x5,())))])+1) (L0 x0 true (aQ (x2+1)) x3 x4 x5 ((x6++[(x3,(x4,(x5,())))])++[(x0.getD x2.toNat (Ty.z aL))]))))) (cD x2 (x0.length:Int) (rm (Ty.bytes aL) (x6.length+1) (L0 x0 x1 (aQ (x2+1)) x3 x4 x5 (x6++[(x0.getD x2.toNat (Ty.z aL))])))))) (cD x2 (x0.length:Int) (rm (Ty.bytes aL) (x6.length+1) (L0 x0 x1 (aQ (x2+1)) x3 x4 x5 (x6++[(x0.getD x2.toNat (Ty.z aL))]))))))) (cond (!x1) (rm (Ty.bytes aL) (x6.length+1) (some ((x6++[(x3,(x4,(x5,())))]),()))) (some (x6,()))))
def l0:Nat→T0
 | 0=>fun _ _ _ _ _ _ _=>none
 | n+1=>b0 k (l0 n)
def t (k:Nat) (L0:T0) (a0:List (Ty.d aL)) (a1:Ty.d aL) (a2:Bool):Rs :=
 (L0 a0 a2 0 a1.1 a1.2.1 a1.2.2.1 [])
def f:=t k (l0 k k)
end gL
namespace iv
abbrev Rs:Type:=Option ((List (Ty.d aL)) × Unit)
abbrev T0:Type:=List (Ty.d aW)→Int→Int→List (Ty.d aL)→Rs
def b0 (L0:T0):T0:=fun x0 x1 x2 x3 =>
 (cond (decide (x2<(x0.length:Int))) (cD x2 (x0.length:Int) (cD x2 (x0.length:Int) (cD x2 (x0.length:Int) ((gL.f k x3 ((x0.getD x2.toNat (Ty.z aW)).1,((x0.getD x2.toNat (Ty.z aW)).2.2.1,(x1,()))) (x0.getD x2.toNat (Ty.z aW)).2.1).bind fun r1=>L0 x0 x1 (aQ (x2+1)) r1.1)))) (some (x3,())))
def l0:Nat→T0
 | 0=>fun _ _ _ _=>none
 | n+1=>b0 k (l0 n)
def t (k:Nat) (L0:T0) (a0:List (Ty.d aL)) (a1:List (Ty.d aW)) (a2:Int):Rs :=
 (rm (Ty.bytes aL) (0+List.length a0) (L0 a1 a2 0 ([]++a0)))
def f:=t k (l0 k k)
end iv
namespace gG
abbrev Rs:Type:=Option ((Ty.d af) × (Ty.d aG) × Unit)
def t (a0:Ty.d af) (a1:Ty.d aK):Rs :=
 ((fM.f k a0.2.1).bind fun r1=>(hO.f k a1 r1.1).bind fun r2=>cond (!r2.1) (some (a0,((7,(ByteArray.empty,([],()))),()))) ((bI.f k a1).bind fun r3=>cond ((r3.1.length:Int)==0) (some (a0,((0,(ByteArray.empty,([],()))),()))) ((iv.f k a0.2.1 r3.1 a0.2.2.1).bind fun r4=>cond (decide ((r4.1.length:Int) > 20)) (some (a0,((5,(ByteArray.empty,([],()))),()))) (cond (decide (a0.2.2.1 > 1000000)) (some (a0,((5,(ByteArray.empty,([],()))),()))) (some ((a0.1,(r4.1,((aQ (a0.2.2.1+1)),a0.2.2.2))),((0,(ByteArray.empty,([],()))),())))))))
def f:=t k
end gG
namespace dX
abbrev Rs:Type:=Option (Bool × Unit)
def t (a0:ByteArray):Rs :=
 ((bP.f k (a0.size:Int) 1 8).bind fun r1=>some r1)
def f:=t k
end dX
namespace eX
abbrev Rs:Type:=Option ((Ty.d aL) × Int × Unit)
abbrev T0:Type:=List (Ty.d aL)→ByteArray→Int→ByteArray→ByteArray→Int→Rs
def b0 (k:Nat) (L0:T0):T0:=fun x0 x1 x2 x3 x4 x5 =>
 (cond (decide (x2<(x0.length:Int))) (cD x2 (x0.length:Int) (cond (seq (x0.getD x2.toNat (Ty.z aL)).1 x1) (cD x2 (x0.length:Int) (some ((x0.getD x2.toNat (Ty.z aL)),(0,())))) (L0 x0 x1 (aQ (x2+1)) x3 x4 x5))) (some ((ByteArray.empty,(ByteArray.empty,(0,()))),(8,()))))
def l0:Nat→T0
 | 0=>fun _ _ _ _ _ _=>none
 | n+1=>b0 k (l0 n)
def t (k:Nat) (L0:T0) (a0:List (Ty.d aL)) (a1:ByteArray):Rs :=
 (L0 a0 a1 0 ByteArray.empty ByteArray.empty 0)
def f:=t k (l0 k k)
end eX
namespace eY
abbrev Rs:Type:=Option ((Ty.d aK) × Int × Unit)
abbrev T0:Type:=ByteArray→Int→Int→Bool→List (Ty.d bF)→List (Ty.d aW)→List (Ty.d bF)→List (Ty.d aW)→Bool→List (Ty.d bF)→List (Ty.d aW)→Bool→Rs
def b0 (k:Nat) (L0:T0):T0:=fun x0 x1 x2 x3 x4 x5 x6 x7 x8 x9 x10 x11 =>
 (cond (decide (x2<(x4.length:Int))) (cD x2 (x4.length:Int) (cond (seq (x4.getD x2.toNat (Ty.z bF)).1 x0) (cD x2 (x4.length:Int) (cond ((x4.getD x2.toNat (Ty.z bF)).2.1 != x1) (some ((x11,(x9,(x10,()))),(7,()))) (some ((x11,(x9,(x10,()))),(0,()))))) (L0 x0 x1 (aQ (x2+1)) x3 x4 x5 x6 x7 x8 x9 x10 x11))) (cond (decide ((x4.length:Int)≥20)) (some ((x11,(x9,(x10,()))),(5,()))) (rm (Ty.bytes bF) (x9.length+1) (some ((x11,((x9++[(x0,(x1,()))]),(x10,()))),(0,()))))))
def l0:Nat→T0
 | 0=>fun _ _ _ _ _ _ _ _ _ _ _ _=>none
 | n+1=>b0 k (l0 n)
def t (L0:T0) (a0:Ty.d aK) (a1:ByteArray) (a2:Int):Rs :=
 ((eZ.f k a0).bind fun r1=>cond (!a0.1) (some (r1.1,(4,()))) ((dX.f k a1).bind fun r2=>cond (!r2.1) (some (r1.1,(4,()))) (L0 a1 a2 0 a0.1 a0.2.1 a0.2.2.1 [] [] false r1.1.2.1 r1.1.2.2.1 r1.1.1)))
def f:=t k (l0 k k)
end eY
namespace ij
abbrev Rs:Type:=Option ((Ty.d af) × (Ty.d aG) × Unit)
def t (a0:Ty.d af) (a1:Ty.d aC) (a2:Ty.d aK):Rs :=
 ((dX.f k a1.2.2.1).bind fun r1=>cond (!r1.1) (some (a0,((4,(ByteArray.empty,([],()))),()))) ((dF.f k a2 a1.2.2.1).bind fun r2=>cond r2.2.1 (cond r2.1.2.1 (some (a0,((8,(ByteArray.empty,([],()))),()))) (cond r2.2.1 (some (a0,((0,(r2.1.2.2.1,([],()))),()))) ((eX.f k a0.2.1 a1.2.2.1).bind fun r3=>(eY.f k a2 a1.2.2.1 r3.1.2.2.1).bind fun r4=>cond (r4.2.1 != 0) (some (a0,((r4.2.1,(ByteArray.empty,([],()))),()))) (cD a1.2.1 (a0.2.2.2.1.length:Int) (let l5:=(a0.2.2.2.1.set a1.2.1.toNat r4.1);(some ((a0.1,(a0.2.1,(a0.2.2.1,(l5,())))),((r3.2.1,(r3.1.2.1,([],()))),())))))))) (cond r2.2.1 (some (a0,((0,(r2.1.2.2.1,([],()))),()))) ((eX.f k a0.2.1 a1.2.2.1).bind fun r6=>(eY.f k a2 a1.2.2.1 r6.1.2.2.1).bind fun r7=>cond (r7.2.1 != 0) (some (a0,((r7.2.1,(ByteArray.empty,([],()))),()))) (cD a1.2.1 (a0.2.2.2.1.length:Int) (let l8:=(a0.2.2.2.1.set a1.2.1.toNat r7.1);(some ((a0.1,(a0.2.1,(a0.2.2.1,(l8,())))),((r6.2.1,(r6.1.2.1,([],()))),())))))))))
def f:=t k
end ij
namespace e_
abbrev Rs:Type:=Option (Bool × Unit)
abbrev T0:Type:=List (Ty.d aW)→Int→Rs
def b0 (L0:T0):T0:=fun x0 x1 =>
 (cond (decide (x1<(x0.length:Int))) (cD x1 (x0.length:Int) ((dX.f k (x0.getD x1.toNat (Ty.z aW)).1).bind fun r1=>cond (!r1.1) (some (false,())) (cD x1 (x0.length:Int) (cond (decide ((ByteArray.size (x0.getD x1.toNat (Ty.z aW)).2.2.1:Int) > 24)) (some (false,())) (cD x1 (x0.length:Int) (cond (x0.getD x1.toNat (Ty.z aW)).2.1 (cD x1 (x0.length:Int) (cond (!(seq (x0.getD x1.toNat (Ty.z aW)).2.2.1 (⟨#[]⟩:ByteArray))) (some (false,())) (L0 x0 (aQ (x1+1))))) (L0 x0 (aQ (x1+1))))))))) (some (true,())))
def l0:Nat→T0
 | 0=>fun _ _=>none
 | n+1=>b0 k (l0 n)
def t (k:Nat) (L0:T0) (a0:List (Ty.d aW)):Rs :=
 (cond (decide ((a0.length:Int) > 8)) (some (false,())) (L0 a0 0))
def f:=t k (l0 k k)
end e_
namespace ik
abbrev Rs:Type:=Option ((Ty.d aK) × Bool × Unit)
def t (a0:Ty.d aK) (a1:Ty.d aW):Rs :=
 ((eZ.f k a0).bind fun r1=>cond (!a0.1) (some (r1.1,(false,()))) ((e_.f k [a1]).bind fun r2=>cond (!r2.1) (some (r1.1,(false,()))) (rm (Ty.bytes aW) (r1.1.2.2.1.length+1) ((bI.f k (r1.1.1,(r1.1.2.1,((r1.1.2.2.1++[a1]),())))).bind fun r3=>cond (decide ((r3.1.length:Int) > 8)) ((eZ.f k a0).bind fun r4=>some (r4.1,(false,()))) (cond (decide ((List.length (r1.1.2.2.1++[a1]):Int) > 50)) ((eZ.f k a0).bind fun r5=>some (r5.1,(false,()))) (some ((r1.1.1,(r1.1.2.1,((r1.1.2.2.1++[a1]),()))),(true,()))))))))
def f:=t k
end ik
namespace bT
abbrev Rs:Type:=Option ((Ty.d af) × (Ty.d aG) × Unit)
abbrev T2:Type:=Int→Int→ByteArray→ByteArray→Int→List (Ty.d aL)→List (Ty.d aK)→Bool→Int→List ByteArray→Int→ByteArray→List (Ty.d aL)→List (Ty.d aK)→Bool→Int→Bool→List (Ty.d bF)→List (Ty.d aW)→Rs
abbrev T1:Type:=Int→Int→ByteArray→ByteArray→Int→List (Ty.d aL)→List (Ty.d aK)→Bool→Int→List ByteArray→Int→ByteArray→List (Ty.d aL)→List (Ty.d aK)→Bool→Int→Rs
abbrev T0:Type:=Int→Bool→List (Ty.d aL)→Int→List (Ty.d aK)→Int→Int→ByteArray→ByteArray→Int→List (Ty.d aL)→List (Ty.d aK)→Bool→Int→List ByteArray→Int→ByteArray→List (Ty.d aL)→List (Ty.d aK)→Bool→Int→Rs
def b2:T2:=fun x0 x1 x2 x3 x4 x5 x6 x7 x8 x9 x10 x11 x12 x13 x14 x15 x16 x17 x18 =>
 ((ik.f k (x16,(x17,(x18,()))) (x2,((x0==4),(x3,())))).bind fun r11=>(e_.f k [(x2,((x0==4),(x3,())))]).bind fun r12=>cond (!r12.1) (some ((x14,(x12,(x15,(x13,())))),((4,(ByteArray.empty,([],()))),()))) (cond (!r11.2.1) (some ((x14,(x12,(x15,(x13,())))),((5,(ByteArray.empty,([],()))),()))) (cD x1 (x13.length:Int) (let l13:=(x13.set x1.toNat r11.1);(some ((x14,(x12,(x15,(l13,())))),((0,(ByteArray.empty,([],()))),())))))))
def l2:Nat→T2
 | 0=>fun _ _ _ _ _ _ _ _ _ _ _ _ _ _ _ _ _ _ _=>none
 | n+1=>b2 k
def b1 (L2:T2):T1:=fun x0 x1 x2 x3 x4 x5 x6 x7 x8 x9 x10 x11 x12 x13 x14 x15 =>
 (cD x1 (x13.length:Int) (cond (x0==1) (cD x1 (x13.length:Int) (let l6:=(x13.set x1.toNat (true,([],([],()))));(some ((x14,(x12,(x15,(l6,())))),((0,(ByteArray.empty,([],()))),()))))) (cond (x0==6) (cD x1 (x13.length:Int) (let l7:=(x13.set x1.toNat (false,([],([],()))));(some ((x14,(x12,(x15,(l7,())))),((0,(ByteArray.empty,([],()))),()))))) (cond (x0==5) (cD x1 (x13.length:Int) (let l8:=(x13.set x1.toNat (false,([],([],()))));((gG.f k (x14,(x12,(x15,(l8,())))) (x13.getD x1.toNat (Ty.z aK))).bind fun r9=>some r9))) (cond (x0==2) ((ij.f k (x14,(x12,(x15,(x13,())))) (x0,(x1,(x2,(x3,(x4,()))))) (x13.getD x1.toNat (Ty.z aK))).bind fun r10=>some r10) (L2 x0 x1 x2 x3 x4 x5 x6 x7 x8 x9 x10 x11 x12 x13 x14 x15 (x13.getD x1.toNat (Ty.z aK)).1 (x13.getD x1.toNat (Ty.z aK)).2.1 (x13.getD x1.toNat (Ty.z aK)).2.2.1))))))
def l1:Nat→T1
 | 0=>fun _ _ _ _ _ _ _ _ _ _ _ _ _ _ _ _=>none
 | n+1=>b1 k (l2 k k)
def b0 (L1:T1) (L0:T0):T0:=fun x0 x1 x2 x3 x4 x5 x6 x7 x8 x9 x10 x11 x12 x13 x14 x15 x16 x17 x18 x19 x20 =>
 (cond (decide (x0<(x4.length:Int))) (cD x0 (x4.length:Int) ((eZ.f k (x4.getD x0.toNat (Ty.z aK))).bind fun r1=>rm (Ty.bytes aK) (x18.length+1) (L0 (aQ (x0+1)) x1 x2 x3 x4 x5 x6 x7 x8 x9 x10 x11 x12 x13 x14 x15 x16 x17 (x18++[r1.1]) x19 x20))) (cond (x5==10) (cond x1 (some ((x19,(x17,(x20,(x18,())))),((4,(ByteArray.empty,([],()))),()))) (u7 (Ty.bytes aK) 3 (some ((true,(x17,(x20,((List.replicate (Int.toNat 3) (Ty.z aK)),())))),((0,(ByteArray.empty,([],()))),()))))) (cond (x5==11) (some ((x19,(x17,(x20,(x18,())))),((0,(ByteArray.empty,([],()))),()))) (cond (!x1) (some ((x19,(x17,(x20,(x18,())))),((6,(ByteArray.empty,([],()))),()))) (cond (x5==7) (some ((x19,(x17,(x20,(x18,())))),((0,(ByteArray.empty,([],()))),()))) (cond (x5==8) ((fM.f k x17).bind fun r2=>(fU.f k r2.1).bind fun r3=>some ((x19,(x17,(x20,(x18,())))),((0,(ByteArray.empty,r3)),()))) (cond (x5==9) (u7 (Ty.bytes aK) 3 (some ((false,(x17,(x20,((List.replicate (Int.toNat 3) (Ty.z aK)),())))),((0,(ByteArray.empty,([],()))),())))) ((bP.f k x6 0 (aQ ((x4.length:Int)-1))).bind fun r4=>cond (!r4.1) (some ((x19,(x17,(x20,(x18,())))),((4,(ByteArray.empty,([],()))),()))) ((bP.f k x5 1 6).bind fun r5=>cond (!r5.1) (some ((x19,(x17,(x20,(x18,())))),((4,(ByteArray.empty,([],()))),()))) (cond (x5==1) (cD x6 (x4.length:Int) (cond (x4.getD x6.toNat (Ty.z aK)).1 (some ((x19,(x17,(x20,(x18,())))),((4,(ByteArray.empty,([],()))),()))) (cond (x5 != 1) (cD x6 (x4.length:Int) (cond (!(x4.getD x6.toNat (Ty.z aK)).1) (some ((x19,(x17,(x20,(x18,())))),((4,(ByteArray.empty,([],()))),()))) (L1 x5 x6 x7 x8 x9 x10 x11 x12 x13 x14 x15 x16 x17 x18 x19 x20))) (L1 x5 x6 x7 x8 x9 x10 x11 x12 x13 x14 x15 x16 x17 x18 x19 x20)))) (cond (x5 != 1) (cD x6 (x4.length:Int) (cond (!(x4.getD x6.toNat (Ty.z aK)).1) (some ((x19,(x17,(x20,(x18,())))),((4,(ByteArray.empty,([],()))),()))) (L1 x5 x6 x7 x8 x9 x10 x11 x12 x13 x14 x15 x16 x17 x18 x19 x20))) (L1 x5 x6 x7 x8 x9 x10 x11 x12 x13 x14 x15 x16 x17 x18 x19 x20))))))))))))
def l0:Nat→T0
 | 0=>fun _ _ _ _ _ _ _ _ _ _ _ _ _ _ _ _ _ _ _ _ _=>none
 | n+1=>b0 k (l1 k k) (l0 n)
def t (k:Nat) (L0:T0) (a0:Ty.d af) (a1:Ty.d aC):Rs :=
 (rm (Ty.bytes aL) (0+List.length a0.2.1) (L0 0 a0.1 a0.2.1 a0.2.2.1 a0.2.2.2.1 a1.1 a1.2.1 a1.2.2.1 a1.2.2.2.1 a1.2.2.2.2.1 [] [] false 0 [] 0 ByteArray.empty ([]++a0.2.1) [] a0.1 a0.2.2.1))
def f:=t k (l0 k k)
end bT
namespace d6
abbrev Rs:Type:=Option ((Ty.d af) × (List (Ty.d aG)) × Unit)
abbrev T1:Type:=List (Ty.d aC)→Int→List (Ty.d aL)→List (Ty.d aK)→Bool→Int→List (Ty.d aL)→List (Ty.d aK)→Bool→Int→List (Ty.d aG)→Rs
abbrev T0:Type:=List (Ty.d aC)→Int→List (Ty.d aL)→List (Ty.d aK)→Bool→Int→List (Ty.d aL)→List (Ty.d aK)→Bool→Int→List (Ty.d aG)→Rs
def b1 (L1:T1):T1:=fun x0 x1 x2 x3 x4 x5 x6 x7 x8 x9 x10 =>
 (cond (decide (x1<(x0.length:Int))) (cond (decide (x1<300)) (cD x1 (x0.length:Int) ((bT.f k (x8,(x6,(x9,(x7,())))) (x0.getD x1.toNat (Ty.z aC))).bind fun r3=>rm (Ty.bytes aG) (x10.length+1) (L1 x0 (aQ (x1+1)) x2 x3 x4 x5 r3.1.2.1 r3.1.2.2.2.1 r3.1.1 r3.1.2.2.1 (x10++[r3.2.1])))) (some ((x8,(x6,(x9,(x7,())))),(x10,())))) (some ((x8,(x6,(x9,(x7,())))),(x10,()))))
def l1:Nat→T1
 | 0=>fun _ _ _ _ _ _ _ _ _ _ _=>none
 | n+1=>b1 k (l1 n)
def b0 (L1:T1):T0:=fun x0 x1 x2 x3 x4 x5 x6 x7 x8 x9 x10 =>
 (cond (decide (x1<(x0.length:Int))) (cond (decide (x1<300)) (cD x1 (x0.length:Int) ((bT.f k (x8,(x6,(x9,(x7,())))) (x0.getD x1.toNat (Ty.z aC))).bind fun r2=>rm (Ty.bytes aG) (x10.length+1) (L1 x0 (aQ (x1+1)) x2 x3 x4 x5 r2.1.2.1 r2.1.2.2.2.1 r2.1.1 r2.1.2.2.1 (x10++[r2.2.1])))) (some ((x8,(x6,(x9,(x7,())))),(x10,())))) (some ((x8,(x6,(x9,(x7,())))),(x10,()))))
def l0:Nat→T0
 | 0=>fun _ _ _ _ _ _ _ _ _ _ _=>none
 | n+1=>b0 k (l1 k n)
def t (L0:T0) (a0:List (Ty.d aC)):Rs :=
 ((jV.f k).bind fun r1=>L0 a0 0 [] [] false 0 r1.1.2.1 r1.1.2.2.2.1 r1.1.1 r1.1.2.2.1 [])
def f:=t k (l0 k k)
end d6
namespace fj
abbrev Rs:Type:=Option (Bool × Unit)
def t (a0:Ty.d aK) (a1:ByteArray):Rs :=
 ((dF.f k a0 a1).bind fun r1=>some r1.2)
def f:=t k
end fj
namespace aH
abbrev Rs:Type:=Option ((List (Ty.d cF)) × Unit)
abbrev T5:Type:=List (Ty.d aC)→List (Ty.d aG)→Int→Int→List (Ty.d cF)→List (Ty.d cF)→List (Ty.d aK)→Rs
abbrev T8:Type:=List (Ty.d aC)→List (Ty.d aG)→Int→Int→Bool→List (Ty.d cF)→List (Ty.d cF)→List (Ty.d aK)→Int→Int→ByteArray→ByteArray→Int→Rs
abbrev T7:Type:=List (Ty.d aC)→List (Ty.d aG)→Int→Int→Int→Bool→List (Ty.d cF)→List (Ty.d cF)→List (Ty.d aK)→Int→Int→ByteArray→ByteArray→Int→Rs
abbrev T6:Type:=List (Ty.d aC)→List (Ty.d aG)→Int→Int→Int→Bool→List (Ty.d cF)→List (Ty.d cF)→List (Ty.d aK)→Int→Int→ByteArray→ByteArray→Int→Rs
abbrev T4:Type:=List (Ty.d aC)→List (Ty.d aG)→Int→Int→Int→Bool→List (Ty.d cF)→List (Ty.d cF)→List (Ty.d aK)→Int→Int→ByteArray→ByteArray→Int→Rs
abbrev T3:Type:=List (Ty.d aC)→List (Ty.d aG)→Int→Int→List (Ty.d cF)→List (Ty.d cF)→List (Ty.d aK)→Int→Int→ByteArray→ByteArray→Int→Rs
abbrev T2:Type:=List (Ty.d aC)→List (Ty.d aG)→Int→Int→List (Ty.d cF)→List (Ty.d cF)→List (Ty.d aK)→Int→Int→ByteArray→ByteArray→Int→Rs
abbrev T1:Type:=List (Ty.d aC)→List (Ty.d aG)→Int→List (Ty.d cF)→List (Ty.d cF)→List (Ty.d aK)→Rs
abbrev T0:Type:=List (Ty.d aC)→List (Ty.d aG)→Int→List (Ty.d cF)→List (Ty.d cF)→List (Ty.d aK)→Rs
def b5 (k:Nat) (L0:T0):T5:=fun x0 x1 x2 x3 x4 x5 x6 =>
 (cD x3 (x5.length:Int) (rm (Ty.bytes cF) (x4.length+1) (cD x3 (x5.length:Int) (let l8:=(x5.set x3.toNat (x3,([],([],([],())))));(cD x3 (x6.length:Int) (let l9:=(x6.set x3.toNat (false,([],([],()))));(L0 x0 x1 (aQ (x2+1)) (x4++[(x5.getD x3.toNat (Ty.z cF))]) l8 l9)))))))
def l5 (L0:T0):Nat→T5
 | 0=>fun _ _ _ _ _ _ _=>none
 | n+1=>b5 k L0
def b8 (k:Nat) (L0:T0):T8:=fun x0 x1 x2 x3 x4 x5 x6 x7 x8 x9 x10 x11 x12 =>
 (cond x4 (cD x3 (x7.length:Int) (rm (Ty.bytes aW) (0+List.length (x7.getD x3.toNat (Ty.z aK)).2.2.1) (rm (Ty.bytes aW) (List.length ([]++(x7.getD x3.toNat (Ty.z aK)).2.2.1)+1) (cD x3 (x7.length:Int) (let l14:=(x7.set x3.toNat ((x7.getD x3.toNat (Ty.z aK)).1,((x7.getD x3.toNat (Ty.z aK)).2.1,((([]++(x7.getD x3.toNat (Ty.z aK)).2.2.1)++[(x10,((x8==4),(x11,())))]),(x7.getD x3.toNat (Ty.z aK)).2.2.2))));(L0 x0 x1 (aQ (x2+1)) x5 x6 l14)))))) (L0 x0 x1 (aQ (x2+1)) x5 x6 x7))
def l8 (L0:T0):Nat→T8
 | 0=>fun _ _ _ _ _ _ _ _ _ _ _ _ _=>none
 | n+1=>b8 k L0
def b7 (k:Nat) (L8:T8) (L0:T0):T7:=fun x0 x1 x2 x3 x4 x5 x6 x7 x8 x9 x10 x11 x12 x13 =>
 (cond x5 (cD x4 (x7.length:Int) (rm (Ty.bytes .str) (0+List.length (x7.getD x4.toNat (Ty.z cF)).2.2.1) (rm (Ty.bytes .str) (List.length ([]++(x7.getD x4.toNat (Ty.z cF)).2.2.1)+1) (cD x4 (x7.length:Int) (let l13:=(x7.set x4.toNat ((x7.getD x4.toNat (Ty.z cF)).1,((x7.getD x4.toNat (Ty.z cF)).2.1,((([]++(x7.getD x4.toNat (Ty.z cF)).2.2.1)++[x11]),(x7.getD x4.toNat (Ty.z cF)).2.2.2))));(L0 x0 x1 (aQ (x2+1)) x6 l13 x8)))))) (cond (x9==3) (L8 x0 x1 x2 x4 (x3==0) x6 x7 x8 x9 x10 x11 x12 x13) (cond (x9==4) (L8 x0 x1 x2 x4 (x3==0) x6 x7 x8 x9 x10 x11 x12 x13) (L8 x0 x1 x2 x4 false x6 x7 x8 x9 x10 x11 x12 x13))))
def l7 (L0:T0):Nat→T7
 | 0=>fun _ _ _ _ _ _ _ _ _ _ _ _ _ _=>none
 | n+1=>b7 k (l8 k L0 k) L0
def b6 (L7:T7) (L0:T0):T6:=fun x0 x1 x2 x3 x4 x5 x6 x7 x8 x9 x10 x11 x12 x13 =>
 (cond x5 (cD x4 (x7.length:Int) (rm (Ty.bytes aL) (0+List.length (x7.getD x4.toNat (Ty.z cF)).2.1) (cD x2 (x1.length:Int) (rm (Ty.bytes aL) (List.length ([]++(x7.getD x4.toNat (Ty.z cF)).2.1)+1) (cD x4 (x7.length:Int) (let l11:=(x7.set x4.toNat ((x7.getD x4.toNat (Ty.z cF)).1,((([]++(x7.getD x4.toNat (Ty.z cF)).2.1)++[(x11,((x1.getD x2.toNat (Ty.z aG)).2.1,(0,())))]),(x7.getD x4.toNat (Ty.z cF)).2.2)));(L0 x0 x1 (aQ (x2+1)) x6 l11 x8))))))) (cond (x9==2) (cD x4 (x8.length:Int) ((fj.f k (x8.getD x4.toNat (Ty.z aK)) x11).bind fun r12=>cond (!r12.1) (L7 x0 x1 x2 x3 x4 (x3==8) x6 x7 x8 x9 x10 x11 x12 x13) (L7 x0 x1 x2 x3 x4 false x6 x7 x8 x9 x10 x11 x12 x13))) (L7 x0 x1 x2 x3 x4 false x6 x7 x8 x9 x10 x11 x12 x13)))
def l6 (L0:T0):Nat→T6
 | 0=>fun _ _ _ _ _ _ _ _ _ _ _ _ _ _=>none
 | n+1=>b6 k (l7 k L0 k) L0
def b4 (L5:T5) (L6:T6) (L0:T0):T4:=fun x0 x1 x2 x3 x4 x5 x6 x7 x8 x9 x10 x11 x12 x13 =>
 (cond x5 (cD x4 (x7.length:Int) (let l3:=(x7.set x4.toNat (x4,([],([],([],())))));(cD x4 (x8.length:Int) (let l4:=(x8.set x4.toNat ((x9==1),([],([],()))));(L0 x0 x1 (aQ (x2+1)) x6 l3 l4))))) (cond (x9==5) (cond (x3==0) (cD x4 (x7.length:Int) (let l5:=(x7.set x4.toNat (x4,(x7.getD x4.toNat (Ty.z cF)).2));(cD x4 (x8.length:Int) ((bI.f k (x8.getD x4.toNat (Ty.z aK))).bind fun r6=>cD x4 (l5.length:Int) (let l7:=(l5.set x4.toNat ((l5.getD x4.toNat (Ty.z cF)).1,((l5.getD x4.toNat (Ty.z cF)).2.1,((l5.getD x4.toNat (Ty.z cF)).2.2.1,r6))));(L5 x0 x1 x2 x4 x6 l7 x8)))))) (cD x4 (x8.length:Int) (cond (!(x8.getD x4.toNat (Ty.z aK)).1) (L0 x0 x1 (aQ (x2+1)) x6 x7 x8) (cond (x9==2) (cD x4 (x8.length:Int) ((fj.f k (x8.getD x4.toNat (Ty.z aK)) x11).bind fun r10=>cond (!r10.1) (L6 x0 x1 x2 x3 x4 (x3==0) x6 x7 x8 x9 x10 x11 x12 x13) (L6 x0 x1 x2 x3 x4 false x6 x7 x8 x9 x10 x11 x12 x13))) (L6 x0 x1 x2 x3 x4 false x6 x7 x8 x9 x10 x11 x12 x13))))) (cD x4 (x8.length:Int) (cond (!(x8.getD x4.toNat (Ty.z aK)).1) (L0 x0 x1 (aQ (x2+1)) x6 x7 x8) (cond (x9==2) (cD x4 (x8.length:Int) ((fj.f k (x8.getD x4.toNat (Ty.z aK)) x11).bind fun r15=>cond (!r15.1) (L6 x0 x1 x2 x3 x4 (x3==0) x6 x7 x8 x9 x10 x11 x12 x13) (L6 x0 x1 x2 x3 x4 false x6 x7 x8 x9 x10 x11 x12 x13))) (L6 x0 x1 x2 x3 x4 false x6 x7 x8 x9 x10 x11 x12 x13))))))
def l4 (L0:T0):Nat→T4
 | 0=>fun _ _ _ _ _ _ _ _ _ _ _ _ _ _=>none
 | n+1=>b4 k (l5 k L0 k) (l6 k L0 k) L0
def b3 (k:Nat) (L4:T4) (L0:T0):T3:=fun x0 x1 x2 x3 x4 x5 x6 x7 x8 x9 x10 x11 =>
 (cond (x7==1) (cond (x3==0) (L4 x0 x1 x2 x3 x8 true x4 x5 x6 x7 x8 x9 x10 x11) (cond (x7==6) (cond (x3==0) (L4 x0 x1 x2 x3 x8 true x4 x5 x6 x7 x8 x9 x10 x11) (cond (x7==5) (cond (x3 != 0) (cond (x3 != 4) (L4 x0 x1 x2 x3 x8 (x3 != 6) x4 x5 x6 x7 x8 x9 x10 x11) (L4 x0 x1 x2 x3 x8 false x4 x5 x6 x7 x8 x9 x10 x11)) (L4 x0 x1 x2 x3 x8 false x4 x5 x6 x7 x8 x9 x10 x11)) (L4 x0 x1 x2 x3 x8 false x4 x5 x6 x7 x8 x9 x10 x11))) (cond (x7==5) (cond (x3 != 0) (cond (x3 != 4) (L4 x0 x1 x2 x3 x8 (x3 != 6) x4 x5 x6 x7 x8 x9 x10 x11) (L4 x0 x1 x2 x3 x8 false x4 x5 x6 x7 x8 x9 x10 x11)) (L4 x0 x1 x2 x3 x8 false x4 x5 x6 x7 x8 x9 x10 x11)) (L4 x0 x1 x2 x3 x8 false x4 x5 x6 x7 x8 x9 x10 x11)))) (cond (x7==6) (cond (x3==0) (L4 x0 x1 x2 x3 x8 true x4 x5 x6 x7 x8 x9 x10 x11) (cond (x7==5) (cond (x3 != 0) (cond (x3 != 4) (L4 x0 x1 x2 x3 x8 (x3 != 6) x4 x5 x6 x7 x8 x9 x10 x11) (L4 x0 x1 x2 x3 x8 false x4 x5 x6 x7 x8 x9 x10 x11)) (L4 x0 x1 x2 x3 x8 false x4 x5 x6 x7 x8 x9 x10 x11)) (L4 x0 x1 x2 x3 x8 false x4 x5 x6 x7 x8 x9 x10 x11))) (cond (x7==5) (cond (x3 != 0) (cond (x3 != 4) (L4 x0 x1 x2 x3 x8 (x3 != 6) x4 x5 x6 x7 x8 x9 x10 x11) (L4 x0 x1 x2 x3 x8 false x4 x5 x6 x7 x8 x9 x10 x11)) (L4 x0 x1 x2 x3 x8 false x4 x5 x6 x7 x8 x9 x10 x11)) (L4 x0 x1 x2 x3 x8 false x4 x5 x6 x7 x8 x9 x10 x11))))
def l3 (L0:T0):Nat→T3
 | 0=>fun _ _ _ _ _ _ _ _ _ _ _ _=>none
 | n+1=>b3 k (l4 k L0 k) L0
def b2 (L3:T3) (L0:T0):T2:=fun x0 x1 x2 x3 x4 x5 x6 x7 x8 x9 x10 x11 =>
 ((bP.f k x8 0 2).bind fun r1=>cond (!r1.1) (L0 x0 x1 (aQ (x2+1)) x4 x5 x6) ((bP.f k x7 1 6).bind fun r2=>cond (!r2.1) (L0 x0 x1 (aQ (x2+1)) x4 x5 x6) (L3 x0 x1 x2 x3 x4 x5 x6 x7 x8 x9 x10 x11)))
def l2 (L0:T0):Nat→T2
 | 0=>fun _ _ _ _ _ _ _ _ _ _ _ _=>none
 | n+1=>b2 k (l3 k L0 k) L0
def b1 (k:Nat) (L2:T2) (L0:T0):T1:=fun x0 x1 x2 x3 x4 x5 =>
 (cD x2 (x0.length:Int) (cD x2 (x1.length:Int) (cond ((x0.getD x2.toNat (Ty.z aC)).1==9) (cond ((x1.getD x2.toNat (Ty.z aG)).1==0) (u7 (Ty.bytes cF) 3 (u7 (Ty.bytes aK) 3 (L2 x0 x1 x2 (x1.getD x2.toNat (Ty.z aG)).1 x3 (List.replicate (Int.toNat 3) (Ty.z cF)) (List.replicate (Int.toNat 3) (Ty.z aK)) (x0.getD x2.toNat (Ty.z aC)).1 (x0.getD x2.toNat (Ty.z aC)).2.1 (x0.getD x2.toNat (Ty.z aC)).2.2.1 (x0.getD x2.toNat (Ty.z aC)).2.2.2.1 (x0.getD x2.toNat (Ty.z aC)).2.2.2.2.1))) (L2 x0 x1 x2 (x1.getD x2.toNat (Ty.z aG)).1 x3 x4 x5 (x0.getD x2.toNat (Ty.z aC)).1 (x0.getD x2.toNat (Ty.z aC)).2.1 (x0.getD x2.toNat (Ty.z aC)).2.2.1 (x0.getD x2.toNat (Ty.z aC)).2.2.2.1 (x0.getD x2.toNat (Ty.z aC)).2.2.2.2.1)) (L2 x0 x1 x2 (x1.getD x2.toNat (Ty.z aG)).1 x3 x4 x5 (x0.getD x2.toNat (Ty.z aC)).1 (x0.getD x2.toNat (Ty.z aC)).2.1 (x0.getD x2.toNat (Ty.z aC)).2.2.1 (x0.getD x2.toNat (Ty.z aC)).2.2.2.1 (x0.getD x2.toNat (Ty.z aC)).2.2.2.2.1))))
def l1 (L0:T0):Nat→T1
 | 0=>fun _ _ _ _ _ _=>none
 | n+1=>b1 k (l2 k L0 k) L0
def b0 (k:Nat) (L1:T1) (L0:T0):T0:=fun x0 x1 x2 x3 x4 x5 =>
 (cond (decide (x2<(x0.length:Int))) (cond (decide (x2<(x1.length:Int))) (L1 x0 x1 x2 x3 x4 x5) (some (x3,()))) (some (x3,())))
def l0:Nat→T0
 | 0=>fun _ _ _ _ _ _=>none
 | n+1=>b0 k (l1 k (l0 n) k) (l0 n)
def t (k:Nat) (L0:T0) (a0:List (Ty.d aC)) (a1:List (Ty.d aG)):Rs :=
 (u7 (Ty.bytes cF) 3 (u7 (Ty.bytes aK) 3 (L0 a0 a1 0 [] (List.replicate (Int.toNat 3) (Ty.z cF)) (List.replicate (Int.toNat 3) (Ty.z aK)))))
def f:=t k (l0 k k)
end aH
namespace nO
abbrev Rs:Type:=Option (Int × Unit)
def t (k:Nat) (a0:List Int) (a1:Int):Rs :=
 (cond (decide (a1<(a0.length:Int))) (cD a1 (a0.length:Int) (some ((aQ (a0.getD a1.toNat (Ty.z (.int .u8)))),()))) (some ((Int.tmod (aQ ((aQ (a1*37))+(aQ ((a0.length:Int)*11)))) 256),())))
def f:=t k
end nO
namespace iR
abbrev Rs:Type:=Option ((Ty.d yF) × Unit)
def t (k:Nat) (a0:List (Ty.d aC)):Rs :=
 (some ((100000,((-1),(a0,()))),()))
def f:=t k
end iR
namespace ac
abbrev Rs:Type:=Option (Bool × Unit)
def t (k:Nat) (a0:Int) (a1:Int) (a2:Int):Rs :=
 (cond (decide (a0≥a1)) (some ((decide (a0≤a2)),())) (some (false,())))
def f:=t k
end ac
namespace jS
abbrev Rs:Type:=Option ((Ty.d aA) × Unit)
def t (a0:Int):Rs :=
 ((ac.f k a0 0 100000).bind fun r1=>cond (!r1.1) (some (([],(0,(0,(false,())))),())) (some (([],(a0,((-1),(false,())))),())))
def f:=t k
end jS
namespace bA
abbrev Rs:Type:=Option ((Ty.d aA) × Unit)
def t (k:Nat) (a0:Ty.d aA):Rs :=
 (rm (Ty.bytes aL) (a0.1.length) (some (a0,())))
def f:=t k
end bA
namespace eC
abbrev Rs:Type:=Option (Bool × Unit)
abbrev T0:Type:=ByteArray→Int→Rs
def b0 (L0:T0):T0:=fun x0 x1 =>
 (cond (decide (x1<(x0.size:Int))) (cD x1 (x0.size:Int) (cond (decide ((jC x0 x1)≥97)) (cD x1 (x0.size:Int) (cond (!(decide ((jC x0 x1)≤122))) (cD x1 (x0.size:Int) (cond (decide ((jC x0 x1)≥48)) (cD x1 (x0.size:Int) (cond (!(decide ((jC x0 x1)≤57))) (some (false,())) (L0 x0 (aQ (x1+1))))) (some (false,())))) (L0 x0 (aQ (x1+1))))) (cD x1 (x0.size:Int) (cond (decide ((jC x0 x1)≥48)) (cD x1 (x0.size:Int) (cond (!(decide ((jC x0 x1)≤57))) (some (false,())) (L0 x0 (aQ (x1+1))))) (some (false,())))))) ((ac.f k (x0.size:Int) 1 12).bind fun r1=>some r1))
def l0:Nat→T0
 | 0=>fun _ _=>none
 | n+1=>b0 k (l0 n)
def t (k:Nat) (L0:T0) (a0:ByteArray):Rs :=
 (L0 a0 0)
def f:=t k (l0 k k)
end eC
namespace ay
abbrev Rs:Type:=Option (Bool × Unit)
abbrev T0:Type:=Int→List (Ty.d aL)→Int→Int→List (Ty.d aL)→Int→Int→Bool→Rs
def b0 (L0:T0):T0:=fun x0 x1 x2 x3 x4 x5 x6 x7 =>
 (cond (decide (x3<x2)) (cD x3 (x1.length:Int) ((eC.f k (x1.getD x3.toNat (Ty.z aL)).1).bind fun r3=>cond (!r3.1) (some (false,())) ((ac.f k (x1.getD x3.toNat (Ty.z aL)).2.2.1 0 (ByteArray.size (x1.getD x3.toNat (Ty.z aL)).2.1:Int)).bind fun r4=>cond (!r4.1) (some (false,())) (cond (decide (x3 > 0)) (cD (aQ (x3-1)) (x4.length:Int) (cond (!(nT (x4.getD (aQ (x3-1)).toNat (Ty.z aL)).1 (x1.getD x3.toNat (Ty.z aL)).1)) (some (false,())) (L0 (aQ (x0+(ByteArray.size (x1.getD x3.toNat (Ty.z aL)).2.1:Int))) x1 x2 (aQ (x3+1)) x4 x5 x6 x7))) (L0 (aQ (x0+(ByteArray.size (x1.getD x3.toNat (Ty.z aL)).2.1:Int))) x1 x2 (aQ (x3+1)) x4 x5 x6 x7))))) (some ((decide (x0≤x5)),())))
def l0:Nat→T0
 | 0=>fun _ _ _ _ _ _ _ _=>none
 | n+1=>b0 k (l0 n)
def t (L0:T0) (a0:Ty.d aA):Rs :=
 (cond (decide ((a0.1.length:Int) > 130)) (some (false,())) ((ac.f k a0.2.1 0 100000).bind fun r1=>cond (!r1.1) (some (false,())) ((ac.f k a0.2.2.1 (-1) 100000).bind fun r2=>cond (!r2.1) (some (false,())) (L0 0 a0.1 (a0.1.length:Int) 0 a0.1 a0.2.1 a0.2.2.1 a0.2.2.2.1))))
def f:=t k (l0 k k)
end ay
namespace ie
abbrev Rs:Type:=Option ((Ty.d aA) × Unit)
def t (a0:Ty.d aA) (a1:Int):Rs :=
 ((bA.f k a0).bind fun r1=>(ay.f k a0).bind fun r2=>cond r2.1 ((ac.f k a1 (-1) 100000).bind fun r3=>cond r3.1 (some ((r1.1.1,(r1.1.2.1,(a1,(false,())))),())) (some r1)) (some r1))
def f:=t k
end ie
namespace bW
abbrev Rs:Type:=Option (Int × Unit)
abbrev T0:Type:=ByteArray→List (Ty.d aL)→Int→Int→Rs
def b0 (k:Nat) (L0:T0):T0:=fun x0 x1 x2 x3 =>
 (cond (decide (x3<x2)) (cD x3 (x1.length:Int) (cond (seq (x1.getD x3.toNat (Ty.z aL)).1 x0) (some (x3,())) (L0 x0 x1 x2 (aQ (x3+1))))) (some ((-1),())))
def l0:Nat→T0
 | 0=>fun _ _ _ _=>none
 | n+1=>b0 k (l0 n)
def t (k:Nat) (L0:T0) (a0:Ty.d aA) (a1:ByteArray):Rs :=
 (L0 a1 a0.1 (a0.1.length:Int) 0)
def f:=t k (l0 k k)
end bW
namespace bq
abbrev Rs:Type:=Option (ByteArray × Bool × Unit)
def t (a0:Ty.d aA) (a1:ByteArray):Rs :=
 ((bW.f k a0 a1).bind fun r1=>cond (decide (r1.1<0)) (some ((⟨#[]⟩:ByteArray),(false,()))) ((ay.f k a0).bind fun r2=>cond (!r2.1) (some ((⟨#[]⟩:ByteArray),(false,()))) (cD r1.1 (a0.1.length:Int) (some ((a0.1.getD r1.1.toNat (Ty.z aL)).2.1,(true,()))))))
def f:=t k
end bq
namespace d9
abbrev Rs:Type:=Option (Int × Int × Unit)
abbrev T0:Type:=ByteArray→Int→Int→Rs
def b0 (k:Nat) (L0:T0):T0:=fun x0 x1 x2 =>
 (cond (decide (x2<7)) (cond (decide (x2<(x0.size:Int))) (cD x2 (x0.size:Int) (bif (decide ((aQ (7*x2))<0)) then none else (cond (decide ((aQ (jC x0 x2))≥128)) (L0 x0 (aQ (x1+(aQ ((Int.tmod (aQ (jC x0 x2)) 128)*2 ^ (min (aQ (7*x2)).toNat (IntKind.bits .i64)))))) (aQ (x2+1))) (cond ((aQ (jC x0 x2))==0) (cond (decide (x2 > 0)) (some (0,(0,()))) (some ((aQ (x1+(aQ ((Int.tmod (aQ (jC x0 x2)) 128)*2 ^ (min (aQ (7*x2)).toNat (IntKind.bits .i64)))))),((aQ (x2+1)),())))) (some ((aQ (x1+(aQ ((Int.tmod (aQ (jC x0 x2)) 128)*2 ^ (min (aQ (7*x2)).toNat (IntKind.bits .i64)))))),((aQ (x2+1)),()))))))) (some (0,(0,())))) (some (0,(0,()))))
def l0:Nat→T0
 | 0=>fun _ _ _=>none
 | n+1=>b0 k (l0 n)
def t (k:Nat) (L0:T0) (a0:ByteArray):Rs :=
 (L0 a0 0 0)
def f:=t k (l0 k k)
end d9
namespace fW
abbrev Rs:Type:=Option (ByteArray × Unit)
abbrev T0:Type:=Int→List Int→Rs
def b0 (k:Nat) (L0:T0):T0:=fun x0 x1 =>
 (cond (decide (x0 > 127)) (rm (Ty.bytes (.int .u8)) (x1.length+1) (L0 (aQ (Int.tdiv x0 128)) (x1++[(IntKind.wrap .u8 (aQ ((Int.tmod x0 128)+128)))]))) (rm (Ty.bytes (.int .u8)) (x1.length+1) (some ((bytesOf (x1++[(IntKind.wrap .u8 x0)])),()))))
def l0:Nat→T0
 | 0=>fun _ _=>none
 | n+1=>b0 k (l0 n)
def t (L0:T0) (a0:Int):Rs :=
 ((ac.f k a0 0 562949953421311).bind fun r1=>cond (!r1.1) (some ((⟨#[]⟩:ByteArray),())) (L0 a0 []))
def f:=t k (l0 k k)
end fW
namespace dz
abbrev Rs:Type:=Option (ByteArray × Unit)
def t (a0:ByteArray):Rs :=
 ((fW.f k (a0.size:Int)).bind fun r1=>o8 r1.1 a0 (some ((r1.1++a0),())))
def f:=t k
end dz
namespace gI
abbrev Rs:Type:=Option (Int × Unit)
abbrev T1:Type:=ByteArray→Int→Int→Int→Rs
abbrev T0:Type:=ByteArray→Int→Int→Rs
def b1 (k:Nat) (L0:T0) (L1:T1):T1:=fun x0 x1 x2 x3 =>
 (cond (decide (x3<8)) (cond ((IntKind.wrap .u32 (((BitVec.ofInt (IntKind.bits .u32) x1 &&& BitVec.ofInt (IntKind.bits .u32) 1).toNat:Int)))==1) (L1 x0 (IntKind.wrap .u32 (((BitVec.ofInt (IntKind.bits .u32) (Int.fdiv x1 (2 ^ (Int.toNat 1))) ^^^ BitVec.ofInt (IntKind.bits .u32) 2197175160).toNat:Int))) x2 (aQ (x3+1))) (L1 x0 (Int.fdiv x1 (2 ^ (Int.toNat 1))) x2 (aQ (x3+1)))) (L0 x0 x1 (aQ (x2+1))))
def l1 (L0:T0):Nat→T1
 | 0=>fun _ _ _ _=>none
 | n+1=>b1 k L0 (l1 L0 n)
def b0 (k:Nat) (L1:T1) (L0:T0):T0:=fun x0 x1 x2 =>
 (cond (decide (x2<(x0.size:Int))) (cD x2 (x0.size:Int) (L1 x0 (IntKind.wrap .u32 (((BitVec.ofInt (IntKind.bits .u32) x1 ^^^ BitVec.ofInt (IntKind.bits .u32) (IntKind.wrap .u32 (jC x0 x2))).toNat:Int))) x2 0)) (some ((aQ (Ha .u32 x1)),())))
def l0:Nat→T0
 | 0=>fun _ _ _=>none
 | n+1=>b0 k (l1 k (l0 n) k) (l0 n)
def t (k:Nat) (L0:T0) (a0:ByteArray):Rs :=
 (L0 a0 4294967295 0)
def f:=t k (l0 k k)
end gI
namespace dh
abbrev Rs:Type:=Option (ByteArray × Unit)
abbrev T0:Type:=Int→Int→List Int→Rs
def b0 (k:Nat) (L0:T0):T0:=fun x0 x1 x2 =>
 (cond (decide (x1≥0)) (bif (decide ((aQ (8*x1))<0)) then none else (rm (Ty.bytes (.int .u8)) (x2.length+1) (L0 x0 (aQ (x1-1)) (x2++[(IntKind.wrap .u8 (Int.fdiv x0 (2 ^ (min (aQ (8*x1)).toNat (IntKind.bits .i64)))))])))) (some ((bytesOf x2),())))
def l0:Nat→T0
 | 0=>fun _ _ _=>none
 | n+1=>b0 k (l0 n)
def t (L0:T0) (a0:Int) (a1:Int):Rs :=
 ((ac.f k a1 1 7).bind fun r1=>cond (!r1.1) (some ((⟨#[]⟩:ByteArray),())) (bif (decide ((aQ (8*a1))<0)) then none else ((ac.f k a0 0 (aQ ((aQ (1*2 ^ (min (aQ (8*a1)).toNat (IntKind.bits .i64))))-1))).bind fun r2=>cond (!r2.1) (some ((⟨#[]⟩:ByteArray),())) (L0 a0 (aQ (a1-1)) []))))
def f:=t k (l0 k k)
end dh
namespace gY
abbrev Rs:Type:=Option (ByteArray × Unit)
def t (a0:ByteArray):Rs :=
 (cond (decide ((a0.size:Int) > 200)) (some ((⟨#[]⟩:ByteArray),())) ((dz.f k a0).bind fun r1=>(gI.f k r1.1).bind fun r2=>(dh.f k r2.1 4).bind fun r3=>o8 r3.1 r1.1 (some ((r3.1++r1.1),()))))
def f:=t k
end gY
namespace dm
abbrev Rs:Type:=Option (ByteArray × Int × Unit)
def t (a0:ByteArray):Rs :=
 (cond (decide ((a0.size:Int)<4)) (some ((⟨#[]⟩:ByteArray),(0,()))) (rP 4 (a0.size:Int) ((d9.f k (a0.extract 4 (a0.size))).bind fun r1=>cond (r1.2.1==0) (some ((⟨#[]⟩:ByteArray),(0,()))) (cond (decide (r1.1 > 200)) (some ((⟨#[]⟩:ByteArray),(0,()))) (cond (decide (r1.1 > (aQ ((aQ ((a0.size:Int)-4))-r1.2.1)))) (some ((⟨#[]⟩:ByteArray),(0,()))) (JI (aQ (4+r1.2.1)) (aQ ((aQ (4+r1.2.1))+r1.1)) (a0.size:Int) ((gY.f k (a0.extract (aQ (4+r1.2.1)).toNat (aQ ((aQ (4+r1.2.1))+r1.1)).toNat)).bind fun r2=>rP (aQ ((aQ (4+r1.2.1))+r1.1)) (a0.size:Int) (cond (!(seq r2.1 (a0.extract 0 (aQ ((aQ (4+r1.2.1))+r1.1)).toNat))) (some ((⟨#[]⟩:ByteArray),(0,()))) (some ((a0.extract (aQ (4+r1.2.1)).toNat (aQ ((aQ (4+r1.2.1))+r1.1)).toNat),((aQ ((aQ (4+r1.2.1))+r1.1)),())))))))))))
def f:=t k
end dm
namespace aO
abbrev Rs:Type:=Option ((Ty.d me) × Int × Unit)
def t (a0:Ty.d me):Rs :=
 ((d9.f k a0.1).bind fun r1=>cond a0.2.1 (some ((a0.1,(true,())),(0,()))) (cond (r1.2.1==0) (some ((a0.1,(true,())),(0,()))) (rP r1.2.1 (a0.1.size:Int) (some (((a0.1.extract r1.2.1.toNat (a0.1.size)),a0.2),(r1.1,()))))))
def f:=t k
end aO
namespace dE
abbrev Rs:Type:=Option (Bool × Unit)
abbrev T0:Type:=List Int→Int→Int→Int→List Int→Rs
def b0 (L0:T0):T0:=fun x0 x1 x2 x3 x4 =>
 (cond (decide (x2<x1)) (cD x2 (x0.length:Int) ((ac.f k (x0.getD x2.toNat (Ty.z (.int .i64))) 1 (aQ (x3-1))).bind fun r1=>cond (!r1.1) (some (false,())) (cond (decide (x2 > 0)) (cD (aQ (x2-1)) (x4.length:Int) (cond (decide ((x4.getD (aQ (x2-1)).toNat (Ty.z (.int .i64)))≥(x0.getD x2.toNat (Ty.z (.int .i64))))) (some (false,())) (L0 x0 x1 (aQ (x2+1)) x3 x4))) (L0 x0 x1 (aQ (x2+1)) x3 x4)))) ((ac.f k x3 1 100000).bind fun r2=>cond r2.1 ((ac.f k (x4.length:Int) 1 60).bind fun r3=>some r3) (some (false,()))))
def l0:Nat→T0
 | 0=>fun _ _ _ _ _=>none
 | n+1=>b0 k (l0 n)
def t (k:Nat) (L0:T0) (a0:Ty.d ch):Rs :=
 (L0 a0.2.1 (a0.2.1.length:Int) 0 a0.1 a0.2.1)
def f:=t k (l0 k k)
end dE
namespace b9
abbrev Rs:Type:=Option ((Ty.d ch) × Bool × Unit)
abbrev T0:Type:=ByteArray→Int→Int→Int→List Int→Int→ByteArray→Bool→List Int→Int→Rs
def b0 (L0:T0):T0:=fun x0 x1 x2 x3 x4 x5 x6 x7 x8 x9 =>
 (cond (decide (x3<x2)) (cond (!x7) ((aO.f k (x6,(x7,()))).bind fun r4=>rm (Ty.bytes (.int .i64)) (x8.length+1) (L0 x0 x1 x2 (aQ (x3+1)) x4 x5 r4.1.1 r4.1.2.1 (x8++[r4.2.1]) x9)) (cond (x1==0) (some ((0,([],())),(false,()))) (cond (x1 != (x0.size:Int)) (some ((0,([],())),(false,()))) (cond x7 (some ((0,([],())),(false,()))) (cond (!(seq x6 (⟨#[]⟩:ByteArray))) (some ((0,([],())),(false,()))) ((dE.f k (x9,(x8,()))).bind fun r5=>cond (!r5.1) (some ((0,([],())),(false,()))) (some ((x9,(x8,())),(true,()))))))))) (cond (x1==0) (some ((0,([],())),(false,()))) (cond (x1 != (x0.size:Int)) (some ((0,([],())),(false,()))) (cond x7 (some ((0,([],())),(false,()))) (cond (!(seq x6 (⟨#[]⟩:ByteArray))) (some ((0,([],())),(false,()))) ((dE.f k (x9,(x8,()))).bind fun r6=>cond (!r6.1) (some ((0,([],())),(false,()))) (some ((x9,(x8,())),(true,())))))))))
def l0:Nat→T0
 | 0=>fun _ _ _ _ _ _ _ _ _ _=>none
 | n+1=>b0 k (l0 n)
def t (L0:T0) (a0:ByteArray):Rs :=
 ((dm.f k a0).bind fun r1=>(aO.f k (r1.1,(false,()))).bind fun r2=>(aO.f k r2.1).bind fun r3=>L0 a0 r1.2.1 r3.2.1 0 [] 0 r3.1.1 r3.1.2.1 [] r2.2.1)
def f:=t k (l0 k k)
end b9
namespace nY
abbrev Rs:Type:=Option (ByteArray × Unit)
def t (a0:Int):Rs :=
 ((nW.f k a0).bind fun r1=>some r1)
def f:=t k
end nY
namespace jZ
abbrev Rs:Type:=Option (ByteArray × Unit)
def t (a0:ByteArray) (a1:Int):Rs :=
 ((ac.f k a1 1 100000).bind fun r1=>cond (!r1.1) (some ((⟨#[]⟩:ByteArray),())) ((nY.f k a1).bind fun r2=>o8 a0 r2.1 (some ((a0++r2.1),()))))
def f:=t k
end jZ
namespace aj
abbrev Rs:Type:=Option (ByteArray × Unit)
def t (a0:Int):Rs :=
 ((jZ.f k (⟨#[115,101,103]⟩:ByteArray) a0).bind fun r1=>some r1)
def f:=t k
end aj
namespace aq
abbrev Rs:Type:=Option ((Ty.d me) × ByteArray × Unit)
def t (k:Nat) (a0:Ty.d me) (a1:Int):Rs :=
 (cond a0.2.1 (some ((a0.1,(true,())),((⟨#[]⟩:ByteArray),()))) (cond (decide (a1 > (a0.1.size:Int))) (some ((a0.1,(true,())),((⟨#[]⟩:ByteArray),()))) (rP a1 (a0.1.size:Int) (rP a1 (a0.1.size:Int) (some (((a0.1.extract a1.toNat (a0.1.size)),a0.2),((a0.1.extract 0 a1.toNat),())))))))
def f:=t k
end aq
namespace am
abbrev Rs:Type:=Option ((Ty.d me) × ByteArray × Unit)
def t (a0:Ty.d me):Rs :=
 ((aO.f k a0).bind fun r1=>(aq.f k r1.1 r1.2.1).bind fun r2=>some r2)
def f:=t k
end am
namespace df
abbrev Rs:Type:=Option (Bool × Unit)
def t (a0:ByteArray):Rs :=
 ((ac.f k (a0.size:Int) 1 8).bind fun r1=>some r1)
def f:=t k
end df
namespace gD
abbrev Rs:Type:=Option (Bool × Unit)
def t (a0:Ty.d ba):Rs :=
 (cond (a0.1==1) (cond (a0.1==1) ((df.f k a0.2.2.1).bind fun r1=>cond r1.1 (cond (decide ((a0.2.2.2.1.size:Int)≤24)) ((ac.f k a0.2.1 1 1000000).bind fun r2=>cond r2.1 (some (((a0.1==a0.1)&&((a0.2.1==a0.2.1)&&((seq a0.2.2.1 a0.2.2.1)&&((seq a0.2.2.2.1 a0.2.2.2.1)&&((a0.2.2.2.2.1==0)&&(a0.2.2.2.2.2.1==0)))))),())) (some (false,()))) (some (false,()))) (some (false,()))) (cond (a0.1==2) ((df.f k a0.2.2.1).bind fun r3=>cond r3.1 ((ac.f k a0.2.1 1 1000000).bind fun r4=>cond r4.1 (some (((a0.1==a0.1)&&((a0.2.1==a0.2.1)&&((seq a0.2.2.1 a0.2.2.1)&&((seq a0.2.2.2.1 ByteArray.empty)&&((a0.2.2.2.2.1==0)&&(a0.2.2.2.2.2.1==0)))))),())) (some (false,()))) (some (false,()))) (cond (a0.1==3) ((ac.f k a0.2.2.2.2.1 0 8).bind fun r5=>cond r5.1 ((ac.f k a0.2.2.2.2.2.1 0 4294967295).bind fun r6=>cond r6.1 ((ac.f k a0.2.1 1 1000000).bind fun r7=>cond r7.1 (some (((a0.1==a0.1)&&((a0.2.1==a0.2.1)&&((seq a0.2.2.1 ByteArray.empty)&&((seq a0.2.2.2.1 ByteArray.empty)&&((a0.2.2.2.2.1==a0.2.2.2.2.1)&&(a0.2.2.2.2.2.1==a0.2.2.2.2.2.1)))))),())) (some (false,()))) (some (false,()))) (some (false,()))) (cond (a0.1==5) ((ac.f k a0.2.2.2.2.1 0 20).bind fun r8=>cond r8.1 ((ac.f k a0.2.2.2.2.2.1 0 4294967295).bind fun r9=>cond r9.1 ((ac.f k a0.2.1 0 1000000).bind fun r10=>cond r10.1 (some (((a0.1==a0.1)&&((a0.2.1==a0.2.1)&&((seq a0.2.2.1 ByteArray.empty)&&((seq a0.2.2.2.1 ByteArray.empty)&&((a0.2.2.2.2.1==a0.2.2.2.2.1)&&(a0.2.2.2.2.2.1==a0.2.2.2.2.2.1)))))),())) (some (false,()))) (some (false,()))) (some (false,()))) (some (false,())))))) (cond (a0.1==4) ((df.f k a0.2.2.1).bind fun r11=>cond r11.1 (cond (decide ((a0.2.2.2.1.size:Int)≤24)) ((ac.f k a0.2.1 1 1000000).bind fun r12=>cond r12.1 (some (((a0.1==a0.1)&&((a0.2.1==a0.2.1)&&((seq a0.2.2.1 a0.2.2.1)&&((seq a0.2.2.2.1 a0.2.2.2.1)&&((a0.2.2.2.2.1==0)&&(a0.2.2.2.2.2.1==0)))))),())) (some (false,()))) (some (false,()))) (some (false,()))) (cond (a0.1==2) ((df.f k a0.2.2.1).bind fun r13=>cond r13.1 ((ac.f k a0.2.1 1 1000000).bind fun r14=>cond r14.1 (some (((a0.1==a0.1)&&((a0.2.1==a0.2.1)&&((seq a0.2.2.1 a0.2.2.1)&&((seq a0.2.2.2.1 ByteArray.empty)&&((a0.2.2.2.2.1==0)&&(a0.2.2.2.2.2.1==0)))))),())) (some (false,()))) (some (false,()))) (cond (a0.1==3) ((ac.f k a0.2.2.2.2.1 0 8).bind fun r15=>cond r15.1 ((ac.f k a0.2.2.2.2.2.1 0 4294967295).bind fun r16=>cond r16.1 ((ac.f k a0.2.1 1 1000000).bind fun r17=>cond r17.1 (some (((a0.1==a0.1)&&((a0.2.1==a0.2.1)&&((seq a0.2.2.1 ByteArray.empty)&&((seq a0.2.2.2.1 ByteArray.empty)&&((a0.2.2.2.2.1==a0.2.2.2.2.1)&&(a0.2.2.2.2.2.1==a0.2.2.2.2.2.1)))))),())) (some (false,()))) (some (false,()))) (some (false,()))) (cond (a0.1==5) ((ac.f k a0.2.2.2.2.1 0 20).bind fun r18=>cond r18.1 ((ac.f k a0.2.2.2.2.2.1 0 4294967295).bind fun r19=>cond r19.1 ((ac.f k a0.2.1 0 1000000).bind fun r20=>cond r20.1 (some (((a0.1==a0.1)&&((a0.2.1==a0.2.1)&&((seq a0.2.2.1 ByteArray.empty)&&((seq a0.2.2.2.1 ByteArray.empty)&&((a0.2.2.2.2.1==a0.2.2.2.2.1)&&(a0.2.2.2.2.2.1==a0.2.2.2.2.2.1)))))),())) (some (false,()))) (some (false,()))) (some (false,()))) (some (false,())))))))
def f:=t k
end gD
namespace cC
abbrev Rs:Type:=Option (Int × Bool × Unit)
abbrev T0:Type:=ByteArray→Int→Int→Int→Rs
def b0 (k:Nat) (L0:T0):T0:=fun x0 x1 x2 x3 =>
 (cond (decide (x3<x2)) (cD x3 (x0.size:Int) (L0 x0 (aQ (((BitVec.ofInt (IntKind.bits .i64) (aQ (x1*2 ^ (min (Int.toNat 8) (IntKind.bits .i64)))) ||| BitVec.ofInt (IntKind.bits .i64) (aQ (jC x0 x3))).toNat:Int))) x2 (aQ (x3+1)))) (some (x1,(true,()))))
def l0:Nat→T0
 | 0=>fun _ _ _ _=>none
 | n+1=>b0 k (l0 n)
def t (L0:T0) (a0:ByteArray) (a1:Int):Rs :=
 ((ac.f k a1 1 7).bind fun r1=>cond (!r1.1) (some (0,(false,()))) (cond (decide ((a0.size:Int)<a1)) (some (0,(false,()))) (L0 a0 0 a1 0)))
def f:=t k (l0 k k)
end cC
namespace d_
abbrev Rs:Type:=Option ((Ty.d ba) × Bool × Unit)
def t (a0:ByteArray):Rs :=
 ((aO.f k (a0,(false,()))).bind fun r1=>(aO.f k r1.1).bind fun r2=>cond (r1.2.1==1) (cond (r1.2.1==1) ((am.f k r2.1).bind fun r3=>(am.f k r3.1).bind fun r4=>cond r4.1.2.1 (some ((0,(0,(ByteArray.empty,(ByteArray.empty,(0,(0,())))))),(false,()))) (cond (!(seq r4.1.1 (⟨#[]⟩:ByteArray))) (some ((0,(0,(ByteArray.empty,(ByteArray.empty,(0,(0,())))))),(false,()))) ((gD.f k (r1.2.1,(r2.2.1,(r3.2.1,(r4.2.1,(0,(0,()))))))).bind fun r5=>cond (!r5.1) (some ((0,(0,(ByteArray.empty,(ByteArray.empty,(0,(0,())))))),(false,()))) (some ((r1.2.1,(r2.2.1,(r3.2.1,(r4.2.1,(0,(0,())))))),(true,())))))) (cond (r1.2.1==2) ((am.f k r2.1).bind fun r6=>cond r6.1.2.1 (some ((0,(0,(ByteArray.empty,(ByteArray.empty,(0,(0,())))))),(false,()))) (cond (!(seq r6.1.1 (⟨#[]⟩:ByteArray))) (some ((0,(0,(ByteArray.empty,(ByteArray.empty,(0,(0,())))))),(false,()))) ((gD.f k (r1.2.1,(r2.2.1,(r6.2.1,(ByteArray.empty,(0,(0,()))))))).bind fun r7=>cond (!r7.1) (some ((0,(0,(ByteArray.empty,(ByteArray.empty,(0,(0,())))))),(false,()))) (some ((r1.2.1,(r2.2.1,(r6.2.1,(ByteArray.empty,(0,(0,())))))),(true,())))))) ((aO.f k r2.1).bind fun r8=>(aq.f k r8.1 4).bind fun r9=>(cC.f k r9.2.1 4).bind fun r10=>cond r9.1.2.1 (some ((0,(0,(ByteArray.empty,(ByteArray.empty,(0,(0,())))))),(false,()))) (cond (!(seq r9.1.1 (⟨#[]⟩:ByteArray))) (some ((0,(0,(ByteArray.empty,(ByteArray.empty,(0,(0,())))))),(false,()))) ((gD.f k (r1.2.1,(r2.2.1,(ByteArray.empty,(ByteArray.empty,(r8.2.1,(r10.1,()))))))).bind fun r11=>cond (!r11.1) (some ((0,(0,(ByteArray.empty,(ByteArray.empty,(0,(0,())))))),(false,()))) (some ((r1.2.1,(r2.2.1,(ByteArray.empty,(ByteArray.empty,(r8.2.1,(r10.1,())))))),(true,())))))))) (cond (r1.2.1==4) ((am.f k r2.1).bind fun r12=>(am.f k r12.1).bind fun r13=>cond r13.1.2.1 (some ((0,(0,(ByteArray.empty,(ByteArray.empty,(0,(0,())))))),(false,()))) (cond (!(seq r13.1.1 (⟨#[]⟩:ByteArray))) (some ((0,(0,(ByteArray.empty,(ByteArray.empty,(0,(0,())))))),(false,()))) ((gD.f k (r1.2.1,(r2.2.1,(r12.2.1,(r13.2.1,(0,(0,()))))))).bind fun r14=>cond (!r14.1) (some ((0,(0,(ByteArray.empty,(ByteArray.empty,(0,(0,())))))),(false,()))) (some ((r1.2.1,(r2.2.1,(r12.2.1,(r13.2.1,(0,(0,())))))),(true,())))))) (cond (r1.2.1==2) ((am.f k r2.1).bind fun r15=>cond r15.1.2.1 (some ((0,(0,(ByteArray.empty,(ByteArray.empty,(0,(0,())))))),(false,()))) (cond (!(seq r15.1.1 (⟨#[]⟩:ByteArray))) (some ((0,(0,(ByteArray.empty,(ByteArray.empty,(0,(0,())))))),(false,()))) ((gD.f k (r1.2.1,(r2.2.1,(r15.2.1,(ByteArray.empty,(0,(0,()))))))).bind fun r16=>cond (!r16.1) (some ((0,(0,(ByteArray.empty,(ByteArray.empty,(0,(0,())))))),(false,()))) (some ((r1.2.1,(r2.2.1,(r15.2.1,(ByteArray.empty,(0,(0,())))))),(true,())))))) ((aO.f k r2.1).bind fun r17=>(aq.f k r17.1 4).bind fun r18=>(cC.f k r18.2.1 4).bind fun r19=>cond r18.1.2.1 (some ((0,(0,(ByteArray.empty,(ByteArray.empty,(0,(0,())))))),(false,()))) (cond (!(seq r18.1.1 (⟨#[]⟩:ByteArray))) (some ((0,(0,(ByteArray.empty,(ByteArray.empty,(0,(0,())))))),(false,()))) ((gD.f k (r1.2.1,(r2.2.1,(ByteArray.empty,(ByteArray.empty,(r17.2.1,(r19.1,()))))))).bind fun r20=>cond (!r20.1) (some ((0,(0,(ByteArray.empty,(ByteArray.empty,(0,(0,())))))),(false,()))) (some ((r1.2.1,(r2.2.1,(ByteArray.empty,(ByteArray.empty,(r17.2.1,(r19.1,())))))),(true,())))))))))
def f:=t k
end d_
namespace dD
abbrev Rs:Type:=Option ((List (Ty.d cz)) × Int × Unit)
abbrev T0:Type:=ByteArray→Int→List (Ty.d cz)→Rs
def b0 (L0:T0):T0:=fun x0 x1 x2 =>
 (rP x1 (x0.size:Int) ((dm.f k (x0.extract x1.toNat (x0.size))).bind fun r1=>(d_.f k r1.1).bind fun r2=>cond (r1.2.1==0) (some (x2,(x1,()))) (cond (!r2.2.1) (some (x2,(x1,()))) (rm (Ty.bytes cz) (x2.length+1) (L0 x0 (aQ (x1+r1.2.1)) (x2++[(x1,(r1.2.1,(r2.1,())))]))))))
def l0:Nat→T0
 | 0=>fun _ _ _=>none
 | n+1=>b0 k (l0 n)
def t (k:Nat) (L0:T0) (a0:ByteArray):Rs :=
 (L0 a0 0 [])
def f:=t k (l0 k k)
end dD
namespace eQ
abbrev Rs:Type:=Option ((List (Ty.d aM)) × Unit)
abbrev T0:Type:=Int→List (Ty.d cz)→Int→Int→List (Ty.d aM)→Rs
def b0 (k:Nat) (L0:T0):T0:=fun x0 x1 x2 x3 x4 =>
 (cond (decide (x3<x2)) (cD x3 (x1.length:Int) (rm (Ty.bytes aM) (x4.length+1) (L0 x0 x1 x2 (aQ (x3+1)) (x4++[(x0,(x1.getD x3.toNat (Ty.z cz)))])))) (some (x4,())))
def l0:Nat→T0
 | 0=>fun _ _ _ _ _=>none
 | n+1=>b0 k (l0 n)
def t (k:Nat) (L0:T0) (a0:Int) (a1:List (Ty.d cz)):Rs :=
 (L0 a0 a1 (a1.length:Int) 0 [])
def f:=t k (l0 k k)
end eQ
namespace bJ
abbrev Rs:Type:=Option ((Ty.d an) × (List (List (Ty.d aM))) × Int × Bool × Unit)
abbrev T0:Type:=Int→List Int→Int→Int→List (Ty.d aL)→Int→Int→Bool→Int→Int→List Int→List (List (Ty.d aM))→Rs
def b0 (L0:T0):T0:=fun x0 x1 x2 x3 x4 x5 x6 x7 x8 x9 x10 x11 =>
 (cond (decide (x3<x2)) (cD x3 (x1.length:Int) ((aj.f k (x1.getD x3.toNat (Ty.z (.int .i64)))).bind fun r1=>(bq.f k (x4,(x5,(x6,(x7,())))) r1.1).bind fun r2=>(dD.f k r2.1).bind fun r3=>cond (!r2.2.1) (some (((x4,(x5,(x6,(x7,())))),(x8,())),([],(0,(false,()))))) (cond (decide (x3<(aQ ((x10.length:Int)-1)))) (cond (r3.2.1 != (r2.1.size:Int)) (some (((x4,(x5,(x6,(x7,())))),(x8,())),([],(0,(false,()))))) ((eQ.f k (x1.getD x3.toNat (Ty.z (.int .i64))) r3.1).bind fun r4=>rm (Ty.bytes (.slice aM)) (x11.length+1) (L0 r3.2.1 x1 x2 (aQ (x3+1)) x4 x5 x6 x7 x8 x9 x10 (x11++[r4.1])))) ((eQ.f k (x1.getD x3.toNat (Ty.z (.int .i64))) r3.1).bind fun r5=>rm (Ty.bytes (.slice aM)) (x11.length+1) (L0 r3.2.1 x1 x2 (aQ (x3+1)) x4 x5 x6 x7 x8 x9 x10 (x11++[r5.1])))))) (some (((x4,(x5,(x6,(x7,())))),(x8,())),(x11,(x0,(true,()))))))
def l0:Nat→T0
 | 0=>fun _ _ _ _ _ _ _ _ _ _ _ _=>none
 | n+1=>b0 k (l0 n)
def t (k:Nat) (L0:T0) (a0:Ty.d an) (a1:Ty.d ch):Rs :=
 (L0 0 a1.2.1 (a1.2.1.length:Int) 0 a0.1.1 a0.1.2.1 a0.1.2.2.1 a0.1.2.2.2.1 a0.2.1 a1.1 a1.2.1 [])
def f:=t k (l0 k k)
end bJ
namespace eH
abbrev Rs:Type:=Option ((Ty.d aA) × ByteArray × Int × Int × Unit)
def t (a0:Ty.d aA) (a1:ByteArray) (a2:Int):Rs :=
 ((bW.f k a0 a1).bind fun r1=>cond (decide (r1.1<0)) (some (a0,(a1,(a2,(3,()))))) (cD r1.1 (a0.1.length:Int) ((ac.f k a2 0 (ByteArray.size (a0.1.getD r1.1.toNat (Ty.z aL)).2.1:Int)).bind fun r2=>cond (!r2.1) (some (a0,(a1,(a2,(5,()))))) (rP a2 (ByteArray.size (a0.1.getD r1.1.toNat (Ty.z aL)).2.1:Int) (let l3:=(a0.1.set r1.1.toNat ((a0.1.getD r1.1.toNat (Ty.z aL)).1,((ByteArray.extract (a0.1.getD r1.1.toNat (Ty.z aL)).2.1 0 a2.toNat),(a0.1.getD r1.1.toNat (Ty.z aL)).2.2)));(let l4:=(l3.set r1.1.toNat ((l3.getD r1.1.toNat (Ty.z aL)).1,((l3.getD r1.1.toNat (Ty.z aL)).2.1,((if a2<(a0.1.getD r1.1.toNat (Ty.z aL)).2.2.1 then a2 else (a0.1.getD r1.1.toNat (Ty.z aL)).2.2.1),(l3.getD r1.1.toNat (Ty.z aL)).2.2.2))));(some ((l4,a0.2),(a1,(a2,(0,())))))))))))
def f:=t k
end eH
namespace fJ
abbrev Rs:Type:=Option (ByteArray × Int × (Ty.d aA) × Int × Unit)
def t (a0:Ty.d aA) (a1:ByteArray) (a2:Int):Rs :=
 ((bA.f k a0).bind fun r1=>(ay.f k a0).bind fun r2=>cond (!r2.1) (some (a1,(a2,(r1.1,(5,()))))) (cond a0.2.2.2.1 (some (a1,(a2,((r1.1.1,(r1.1.2.1,(r1.1.2.2.1,(true,())))),(1,()))))) (cond (a0.2.2.1==0) (some (a1,(a2,((r1.1.1,(r1.1.2.1,(r1.1.2.2.1,(true,())))),(1,()))))) (cond (decide (a0.2.2.1 > 0)) ((eH.f k (r1.1.1,(r1.1.2.1,((aQ (r1.1.2.2.1-1)),r1.1.2.2.2))) a1 a2).bind fun r3=>some (r3.2.1,(r3.2.2.1,(r3.1,r3.2.2.2)))) ((eH.f k r1.1 a1 a2).bind fun r4=>some (r4.2.1,(r4.2.2.1,(r4.1,r4.2.2.2))))))))
def f:=t k
end fJ
namespace ic
abbrev Rs:Type:=Option ((Ty.d aA) × Int × Unit)
def t (a0:Ty.d aA) (a1:ByteArray) (a2:Int):Rs :=
 ((fJ.f k a0 a1 a2).bind fun r1=>some r1.2.2)
def f:=t k
end ic
namespace mG
abbrev Rs:Type:=Option (Int × Unit)
def t (k:Nat) (a0:Int):Rs :=
 (cond (a0==0) (some (0,())) (cond (a0==1) (some (1,())) (cond (a0==2) (some (2,())) (some (3,())))))
def f:=t k
end mG
namespace az
abbrev Rs:Type:=Option ((Ty.d an) × Unit)
def t (a0:Ty.d an) (a1:Ty.d aA) (a2:Int):Rs :=
 ((mG.f k a2).bind fun r1=>some ((a1,r1),()))
def f:=t k
end az
namespace iL
abbrev Rs:Type:=Option ((Ty.d aA) × ByteArray × Int × Unit)
def t (a0:Ty.d aA) (a1:ByteArray):Rs :=
 ((bW.f k a0 a1).bind fun r1=>cond (decide (r1.1<0)) (some (a0,(a1,(3,())))) (cD r1.1 (a0.1.length:Int) (cD r1.1 (a0.1.length:Int) (let l2:=(a0.1.set r1.1.toNat ((a0.1.getD r1.1.toNat (Ty.z aL)).1,((a0.1.getD r1.1.toNat (Ty.z aL)).2.1,((ByteArray.size (a0.1.getD r1.1.toNat (Ty.z aL)).2.1:Int),(a0.1.getD r1.1.toNat (Ty.z aL)).2.2.2))));(some ((l2,a0.2),(a1,(0,()))))))))
def f:=t k
end iL
namespace i7
abbrev Rs:Type:=Option (ByteArray × (Ty.d aA) × Int × Unit)
def t (a0:Ty.d aA) (a1:ByteArray):Rs :=
 ((bA.f k a0).bind fun r1=>(ay.f k a0).bind fun r2=>cond (!r2.1) (some (a1,(r1.1,(5,())))) (cond a0.2.2.2.1 (some (a1,((r1.1.1,(r1.1.2.1,(r1.1.2.2.1,(true,())))),(1,())))) (cond (a0.2.2.1==0) (some (a1,((r1.1.1,(r1.1.2.1,(r1.1.2.2.1,(true,())))),(1,())))) (cond (decide (a0.2.2.1 > 0)) ((iL.f k (r1.1.1,(r1.1.2.1,((aQ (r1.1.2.2.1-1)),r1.1.2.2.2))) a1).bind fun r3=>some (r3.2.1,(r3.1,r3.2.2))) ((iL.f k r1.1 a1).bind fun r4=>some (r4.2.1,(r4.1,r4.2.2)))))))
def f:=t k
end i7
namespace mA
abbrev Rs:Type:=Option ((Ty.d aA) × Int × Unit)
def t (a0:Ty.d aA) (a1:ByteArray):Rs :=
 ((i7.f k a0 a1).bind fun r1=>some r1.2)
def f:=t k
end mA
namespace bL
abbrev Rs:Type:=Option ((Ty.d an) × Unit)
def t (a0:Ty.d an) (a1:ByteArray):Rs :=
 (cond (a0.2.1==0) ((mA.f k a0.1 a1).bind fun r1=>(az.f k a0 r1.1 r1.2.1).bind fun r2=>some r2) (some (a0,())))
def f:=t k
end bL
namespace dP
abbrev Rs:Type:=Option (ByteArray × Unit)
def t (a0:Int):Rs :=
 ((jZ.f k (⟨#[104,105,110,116]⟩:ByteArray) a0).bind fun r1=>some r1)
def f:=t k
end dP
namespace eD
abbrev Rs:Type:=Option (Bool × Unit)
abbrev T0:Type:=List (Ty.d aB)→List (Ty.d aB)→Int→Int→Rs
def b0 (L0:T0):T0:=fun x0 x1 x2 x3 =>
 (cond (decide (x3<x2)) (cD x3 (x1.length:Int) ((df.f k (x1.getD x3.toNat (Ty.z aB)).1).bind fun r1=>cond (!r1.1) (some (false,())) ((ac.f k (x1.getD x3.toNat (Ty.z aB)).2.1 1 100000).bind fun r2=>cond (!r2.1) (some (false,())) (cond (decide ((x1.getD x3.toNat (Ty.z aB)).2.2.1<0)) (some (false,())) ((ac.f k (x1.getD x3.toNat (Ty.z aB)).2.2.2.1 1 210).bind fun r3=>cond (!r3.1) (some (false,())) ((ac.f k (x1.getD x3.toNat (Ty.z aB)).2.2.2.2.1 1 1000000).bind fun r4=>cond (!r4.1) (some (false,())) (cond (decide (x3 > 0)) (cD (aQ (x3-1)) (x0.length:Int) (cond (!(nT (x0.getD (aQ (x3-1)).toNat (Ty.z aB)).1 (x1.getD x3.toNat (Ty.z aB)).1)) (some (false,())) (L0 x0 x1 x2 (aQ (x3+1))))) (L0 x0 x1 x2 (aQ (x3+1)))))))))) (some ((decide ((x0.length:Int)≤20)),())))
def l0:Nat→T0
 | 0=>fun _ _ _ _=>none
 | n+1=>b0 k (l0 n)
def t (k:Nat) (L0:T0) (a0:List (Ty.d aB)):Rs :=
 (L0 a0 a0 (a0.length:Int) 0)
def f:=t k (l0 k k)
end eD
namespace eA
abbrev Rs:Type:=Option (Bool × Unit)
abbrev T0:Type:=List (Ty.d aB)→Int→Int→Int→Int→List (Ty.d aB)→Rs
def b0 (L0:T0):T0:=fun x0 x1 x2 x3 x4 x5 =>
 (cond (decide (x2<x1)) (cD x2 (x0.length:Int) (cD 0 (x5.length:Int) (cond ((x0.getD x2.toNat (Ty.z aB)).2.1 != (x5.getD 0 (Ty.z aB)).2.1) (some (false,())) (cond (decide ((x0.getD x2.toNat (Ty.z aB)).2.2.1 > 100000)) (some (false,())) (L0 x0 x1 (aQ (x2+1)) x3 x4 x5))))) ((ac.f k x3 0 100000).bind fun r1=>cond r1.1 ((ac.f k x4 0 1000000).bind fun r2=>cond r2.1 ((eD.f k x5).bind fun r3=>some r3) (some (false,()))) (some (false,()))))
def l0:Nat→T0
 | 0=>fun _ _ _ _ _ _=>none
 | n+1=>b0 k (l0 n)
def t (k:Nat) (L0:T0) (a0:Ty.d iS):Rs :=
 (L0 a0.2.2.1 (a0.2.2.1.length:Int) 0 a0.1 a0.2.1 a0.2.2.1)
def f:=t k (l0 k k)
end eA
namespace dY
abbrev Rs:Type:=Option (ByteArray × Unit)
abbrev T0:Type:=ByteArray→List Int→Int→Int→Rs
def b0 (L0:T0):T0:=fun x0 x1 x2 x3 =>
 (cond (decide (x3<x2)) (cD x3 (x1.length:Int) ((fW.f k (x1.getD x3.toNat (Ty.z (.int .i64)))).bind fun r1=>o8 x0 r1.1 (L0 (x0++r1.1) x1 x2 (aQ (x3+1))))) (some (x0,())))
def l0:Nat→T0
 | 0=>fun _ _ _ _=>none
 | n+1=>b0 k (l0 n)
def t (k:Nat) (L0:T0) (a0:List Int):Rs :=
 (L0 (⟨#[]⟩:ByteArray) a0 (a0.length:Int) 0)
def f:=t k (l0 k k)
end dY
namespace dA
abbrev Rs:Type:=Option (ByteArray × Unit)
abbrev T0:Type:=ByteArray→List (Ty.d aB)→Int→Int→Rs
def b0 (L0:T0):T0:=fun x0 x1 x2 x3 =>
 (cond (decide (x3<x2)) (cD x3 (x1.length:Int) ((dz.f k (x1.getD x3.toNat (Ty.z aB)).1).bind fun r3=>(dY.f k [(x1.getD x3.toNat (Ty.z aB)).2.1,(x1.getD x3.toNat (Ty.z aB)).2.2.1,(x1.getD x3.toNat (Ty.z aB)).2.2.2.1,(x1.getD x3.toNat (Ty.z aB)).2.2.2.2.1]).bind fun r4=>o8 r3.1 r4.1 (o8 x0 (r3.1++r4.1) (L0 (x0++(r3.1++r4.1)) x1 x2 (aQ (x3+1)))))) ((gI.f k x0).bind fun r5=>(dh.f k r5.1 4).bind fun r6=>o8 r6.1 x0 (some ((r6.1++x0),()))))
def l0:Nat→T0
 | 0=>fun _ _ _ _=>none
 | n+1=>b0 k (l0 n)
def t (L0:T0) (a0:Ty.d iS):Rs :=
 ((eA.f k a0).bind fun r1=>cond (!r1.1) (some ((⟨#[]⟩:ByteArray),())) ((dY.f k [a0.1,a0.2.1,(a0.2.2.1.length:Int)]).bind fun r2=>L0 r2.1 a0.2.2.1 (a0.2.2.1.length:Int) 0))
def f:=t k (l0 k k)
end dA
namespace b_
abbrev Rs:Type:=Option ((Ty.d iS) × Bool × Unit)
abbrev T0:Type:=ByteArray→Int→Int→List (Ty.d aB)→Int→Int→ByteArray→Bool→List (Ty.d aB)→Int→Int→Rs
def b0 (L0:T0):T0:=fun x0 x1 x2 x3 x4 x5 x6 x7 x8 x9 x10 =>
 (cond (decide (x2<x1)) (cond (!x7) ((am.f k (x6,(x7,()))).bind fun r5=>(aO.f k r5.1).bind fun r6=>(aO.f k r6.1).bind fun r7=>(aO.f k r7.1).bind fun r8=>(aO.f k r8.1).bind fun r9=>rm (Ty.bytes aB) (x8.length+1) (L0 x0 x1 (aQ (x2+1)) x3 x4 x5 r9.1.1 r9.1.2.1 (x8++[(r5.2.1,(r6.2.1,(r7.2.1,(r8.2.1,r9.2))))]) x9 x10)) (cond x7 (some ((0,(0,([],()))),(false,()))) ((eA.f k (x9,(x10,(x8,())))).bind fun r10=>cond (!r10.1) (some ((0,(0,([],()))),(false,()))) ((dA.f k (x9,(x10,(x8,())))).bind fun r11=>cond (!(seq r11.1 x0)) (some ((0,(0,([],()))),(false,()))) (some ((x9,(x10,(x8,()))),(true,()))))))) (cond x7 (some ((0,(0,([],()))),(false,()))) ((eA.f k (x9,(x10,(x8,())))).bind fun r12=>cond (!r12.1) (some ((0,(0,([],()))),(false,()))) ((dA.f k (x9,(x10,(x8,())))).bind fun r13=>cond (!(seq r13.1 x0)) (some ((0,(0,([],()))),(false,()))) (some ((x9,(x10,(x8,()))),(true,())))))))
def l0:Nat→T0
 | 0=>fun _ _ _ _ _ _ _ _ _ _ _=>none
 | n+1=>b0 k (l0 n)
def t (L0:T0) (a0:ByteArray):Rs :=
 ((aq.f k (a0,(false,())) 4).bind fun r1=>(aO.f k r1.1).bind fun r2=>(aO.f k r2.1).bind fun r3=>(aO.f k r3.1).bind fun r4=>L0 a0 r4.2.1 0 [] 0 0 r4.1.1 r4.1.2.1 [] r2.2.1 r3.2.1)
def f:=t k (l0 k k)
end b_
namespace fw
abbrev Rs:Type:=Option (ByteArray × Unit)
def t (a0:Ty.d ba):Rs :=
 ((gD.f k a0).bind fun r1=>cond (!r1.1) (some ((⟨#[]⟩:ByteArray),())) ((dY.f k [a0.1,a0.2.1]).bind fun r2=>cond (a0.1==1) (cond (a0.1==1) ((dz.f k a0.2.2.1).bind fun r3=>o8 r2.1 r3.1 ((dz.f k a0.2.2.2.1).bind fun r4=>o8 (r2.1++r3.1) r4.1 (some (((r2.1++r3.1)++r4.1),())))) (cond (a0.1==2) ((dz.f k a0.2.2.1).bind fun r5=>o8 r2.1 r5.1 (some ((r2.1++r5.1),()))) ((fW.f k a0.2.2.2.2.1).bind fun r6=>o8 r2.1 r6.1 ((dh.f k a0.2.2.2.2.2.1 4).bind fun r7=>o8 (r2.1++r6.1) r7.1 (some (((r2.1++r6.1)++r7.1),())))))) (cond (a0.1==4) ((dz.f k a0.2.2.1).bind fun r8=>o8 r2.1 r8.1 ((dz.f k a0.2.2.2.1).bind fun r9=>o8 (r2.1++r8.1) r9.1 (some (((r2.1++r8.1)++r9.1),())))) (cond (a0.1==2) ((dz.f k a0.2.2.1).bind fun r10=>o8 r2.1 r10.1 (some ((r2.1++r10.1),()))) ((fW.f k a0.2.2.2.2.1).bind fun r11=>o8 r2.1 r11.1 ((dh.f k a0.2.2.2.2.2.1 4).bind fun r12=>o8 (r2.1++r11.1) r12.1 (some (((r2.1++r11.1)++r12.1),()))))))))
def f:=t k
end fw
namespace gC
abbrev Rs:Type:=Option (Int × Unit)
abbrev T0:Type:=ByteArray→List (Ty.d ba)→Int→Int→Rs
def b0 (L0:T0):T0:=fun x0 x1 x2 x3 =>
 (cond (decide (x3<x2)) (cD x3 (x1.length:Int) ((fw.f k (x1.getD x3.toNat (Ty.z ba))).bind fun r1=>o8 x0 r1.1 (L0 (x0++r1.1) x1 x2 (aQ (x3+1))))) ((gI.f k x0).bind fun r2=>some r2))
def l0:Nat→T0
 | 0=>fun _ _ _ _=>none
 | n+1=>b0 k (l0 n)
def t (k:Nat) (L0:T0) (a0:List (Ty.d ba)):Rs :=
 (L0 (⟨#[]⟩:ByteArray) a0 (a0.length:Int) 0)
def f:=t k (l0 k k)
end gC
namespace gh
abbrev Rs:Type:=Option (Bool × Unit)
abbrev T0:Type:=List (Ty.d aM)→Int→Int→Int→Int→ByteArray→ByteArray→Int→Int→List (Ty.d ba)→Rs
def b0 (L0:T0):T0:=fun x0 x1 x2 x3 x4 x5 x6 x7 x8 x9 =>
 (cond (decide (x2<x1)) (cD x2 (x0.length:Int) (rm (Ty.bytes ba) (x9.length+1) (L0 x0 x1 (aQ (x2+1)) x3 x4 x5 x6 x7 x8 (x9++[(x0.getD x2.toNat (Ty.z aM)).2.2.2.1])))) (cond (x7==(x9.length:Int)) ((gC.f k x9).bind fun r1=>some ((x8==r1.1),())) (some (false,()))))
def l0:Nat→T0
 | 0=>fun _ _ _ _ _ _ _ _ _ _=>none
 | n+1=>b0 k (l0 n)
def t (k:Nat) (L0:T0) (a0:Ty.d ba) (a1:List (Ty.d aM)):Rs :=
 (L0 a1 (a1.length:Int) 0 a0.1 a0.2.1 a0.2.2.1 a0.2.2.2.1 a0.2.2.2.2.1 a0.2.2.2.2.2.1 [])
def f:=t k (l0 k k)
end gh
namespace dy
abbrev Rs:Type:=Option ((Ty.d iS) × Bool × Unit)
abbrev T0:Type:=Int→List (Ty.d cz)→List (Ty.d cz)→Int→Int→List (Ty.d aB)→Int→Int→List (Ty.d aB)→Int→Int→Rs
def b0 (k:Nat) (L0:T0):T0:=fun x0 x1 x2 x3 x4 x5 x6 x7 x8 x9 x10 =>
 (cond (decide (x4<x3)) (cD x4 (x2.length:Int) (cond ((x2.getD x4.toNat (Ty.z cz)).2.2.1.1 != 4) (some ((0,(0,([],()))),(false,()))) (cond (decide ((x2.getD x4.toNat (Ty.z cz)).2.2.1.2.1 > x10)) (some ((0,(0,([],()))),(false,()))) (cond (decide (x4 > 0)) (cD (aQ (x4-1)) (x1.length:Int) (cond (!(nT (x1.getD (aQ (x4-1)).toNat (Ty.z cz)).2.2.1.2.2.1 (x2.getD x4.toNat (Ty.z cz)).2.2.1.2.2.1)) (some ((0,(0,([],()))),(false,()))) (rm (Ty.bytes aB) (x8.length+1) (L0 x0 x1 x2 x3 (aQ (x4+1)) x5 x6 x7 (x8++[((x2.getD x4.toNat (Ty.z cz)).2.2.1.2.2.1,(x0,((x2.getD x4.toNat (Ty.z cz)).1,((x2.getD x4.toNat (Ty.z cz)).2.1,((x2.getD x4.toNat (Ty.z cz)).2.2.1.2.1,())))))]) x9 x10)))) (rm (Ty.bytes aB) (x8.length+1) (L0 x0 x1 x2 x3 (aQ (x4+1)) x5 x6 x7 (x8++[((x2.getD x4.toNat (Ty.z cz)).2.2.1.2.2.1,(x0,((x2.getD x4.toNat (Ty.z cz)).1,((x2.getD x4.toNat (Ty.z cz)).2.1,((x2.getD x4.toNat (Ty.z cz)).2.2.1.2.1,())))))]) x9 x10)))))) (some ((x9,(x10,(x8,()))),(true,()))))
def l0:Nat→T0
 | 0=>fun _ _ _ _ _ _ _ _ _ _ _=>none
 | n+1=>b0 k (l0 n)
def t (L0:T0) (a0:Int) (a1:ByteArray):Rs :=
 ((dD.f k a1).bind fun r1=>cond (decide ((aQ ((r1.1.length:Int)-1))<0)) (some ((0,(0,([],()))),(false,()))) (cond (r1.2.1 != (a1.size:Int)) (some ((0,(0,([],()))),(false,()))) ((ac.f k a0 1 100000).bind fun r2=>cond (!r2.1) (some ((0,(0,([],()))),(false,()))) (cD (aQ ((r1.1.length:Int)-1)) (r1.1.length:Int) (cond ((r1.1.getD (aQ ((r1.1.length:Int)-1)).toNat (Ty.z cz)).2.2.1.1 != 5) (some ((0,(0,([],()))),(false,()))) (cD (aQ ((r1.1.length:Int)-1)) (r1.1.length:Int) (rP (aQ ((r1.1.length:Int)-1)) (r1.1.length:Int) ((eQ.f k a0 (r1.1.take (aQ ((r1.1.length:Int)-1)).toNat)).bind fun r3=>(gh.f k (r1.1.getD (aQ ((r1.1.length:Int)-1)).toNat (Ty.z cz)).2.2.1 r3.1).bind fun r4=>cond (!r4.1) (some ((0,(0,([],()))),(false,()))) (cD (aQ ((r1.1.length:Int)-1)) (r1.1.length:Int) (rP (aQ ((r1.1.length:Int)-1)) (r1.1.length:Int) (L0 a0 r1.1 (r1.1.take (aQ ((r1.1.length:Int)-1)).toNat) ((r1.1.take (aQ ((r1.1.length:Int)-1)).toNat).length:Int) 0 [] 0 0 [] r1.2.1 (r1.1.getD (aQ ((r1.1.length:Int)-1)).toNat (Ty.z cz)).2.2.1.2.1)))))))))))
def f:=t k (l0 k k)
end dy
namespace fV
abbrev Rs:Type:=Option (Bool × Unit)
abbrev T0:Type:=List (Ty.d aB)→List (Ty.d aB)→Int→Int→Rs
def b0 (k:Nat) (L0:T0):T0:=fun x0 x1 x2 x3 =>
 (cond (decide (x3<x2)) (cD x3 (x0.length:Int) (cD x3 (x1.length:Int) (cond (!((seq (x0.getD x3.toNat (Ty.z aB)).1 (x1.getD x3.toNat (Ty.z aB)).1)&&(((x0.getD x3.toNat (Ty.z aB)).2.1==(x1.getD x3.toNat (Ty.z aB)).2.1)&&(((x0.getD x3.toNat (Ty.z aB)).2.2.1==(x1.getD x3.toNat (Ty.z aB)).2.2.1)&&(((x0.getD x3.toNat (Ty.z aB)).2.2.2.1==(x1.getD x3.toNat (Ty.z aB)).2.2.2.1)&&((x0.getD x3.toNat (Ty.z aB)).2.2.2.2.1==(x1.getD x3.toNat (Ty.z aB)).2.2.2.2.1)))))) (some (false,())) (L0 x0 x1 x2 (aQ (x3+1)))))) (some (true,())))
def l0:Nat→T0
 | 0=>fun _ _ _ _=>none
 | n+1=>b0 k (l0 n)
def t (k:Nat) (L0:T0) (a0:List (Ty.d aB)) (a1:List (Ty.d aB)):Rs :=
 (cond ((a0.length:Int) != (a1.length:Int)) (some (false,())) (L0 a0 a1 (a0.length:Int) 0))
def f:=t k (l0 k k)
end fV
namespace il
abbrev Rs:Type:=Option (Bool × Unit)
def t (a0:Int) (a1:ByteArray) (a2:Ty.d iS):Rs :=
 ((dy.f k a0 a1).bind fun r1=>cond r1.2.1 (cond (r1.1.1==a2.1) (cond (r1.1.2.1==a2.2.1) ((fV.f k r1.1.2.2.1 a2.2.2.1).bind fun r2=>some r2) (some (false,()))) (some (false,()))) (some (false,())))
def f:=t k
end il
namespace d7
abbrev Rs:Type:=Option ((Ty.d an) × (Ty.d kH) × Bool × Unit)
def t (a0:Ty.d an) (a1:Int):Rs :=
 ((dP.f k a1).bind fun r1=>(bq.f k a0.1 r1.1).bind fun r2=>(b_.f k r2.1).bind fun r3=>(aj.f k a1).bind fun r4=>(bq.f k a0.1 r4.1).bind fun r5=>cond (!r2.2.1) (some (a0,(([],(0,(0,()))),(false,())))) (cond (!r3.2.1) (some (a0,(([],(0,(0,()))),(false,())))) ((il.f k a1 r5.1 r3.1).bind fun r6=>cond (!r6.1) (some (a0,(([],(0,(0,()))),(false,())))) (some (a0,((r3.1.2.2.1,(r3.1.2.1,(0,()))),(true,())))))))
def f:=t k
end d7
namespace cJ
abbrev Rs:Type:=Option ((List (Ty.d aB)) × Unit)
def t (k:Nat) (a0:List (Ty.d aB)):Rs :=
 (rm (Ty.bytes aB) (a0.length) (some (a0,())))
def f:=t k
end cJ
namespace dK
abbrev Rs:Type:=Option ((List (Ty.d aM)) × Unit)
abbrev T0:Type:=List (Ty.d aM)→Int→Int→Int→Int→ByteArray→ByteArray→Int→Int→List (Ty.d aM)→Rs
def b0 (k:Nat) (L0:T0):T0:=fun x0 x1 x2 x3 x4 x5 x6 x7 x8 x9 =>
 (cond (decide (x2<x1)) (cD x2 (x0.length:Int) (cond (x3==3) (cond ((x0.getD x2.toNat (Ty.z aM)).2.2.2.1.2.1 != x4) (L0 x0 x1 (aQ (x2+1)) x3 x4 x5 x6 x7 x8 x9) (cond ((x0.getD x2.toNat (Ty.z aM)).2.2.2.1.1==x3) (L0 x0 x1 (aQ (x2+1)) x3 x4 x5 x6 x7 x8 []) (cond (x3==3) (cond ((x0.getD x2.toNat (Ty.z aM)).2.2.2.1.1==1) (rm (Ty.bytes aM) (x9.length+1) (L0 x0 x1 (aQ (x2+1)) x3 x4 x5 x6 x7 x8 (x9++[(x0.getD x2.toNat (Ty.z aM))]))) (cond ((x0.getD x2.toNat (Ty.z aM)).2.2.2.1.1==2) (cond ((x0.getD x2.toNat (Ty.z aM)).2.2.2.1.1==2) (rm (Ty.bytes aM) (x9.length+1) (L0 x0 x1 (aQ (x2+1)) x3 x4 x5 x6 x7 x8 (x9++[(x0.getD x2.toNat (Ty.z aM))]))) (L0 x0 x1 (aQ (x2+1)) x3 x4 x5 x6 x7 x8 x9)) (cond (x3==5) (cond ((x0.getD x2.toNat (Ty.z aM)).2.2.2.1.1==4) (rm (Ty.bytes aM) (x9.length+1) (L0 x0 x1 (aQ (x2+1)) x3 x4 x5 x6 x7 x8 (x9++[(x0.getD x2.toNat (Ty.z aM))]))) (L0 x0 x1 (aQ (x2+1)) x3 x4 x5 x6 x7 x8 x9)) (L0 x0 x1 (aQ (x2+1)) x3 x4 x5 x6 x7 x8 x9)))) (cond (x3==5) (cond ((x0.getD x2.toNat (Ty.z aM)).2.2.2.1.1==4) (rm (Ty.bytes aM) (x9.length+1) (L0 x0 x1 (aQ (x2+1)) x3 x4 x5 x6 x7 x8 (x9++[(x0.getD x2.toNat (Ty.z aM))]))) (L0 x0 x1 (aQ (x2+1)) x3 x4 x5 x6 x7 x8 x9)) (L0 x0 x1 (aQ (x2+1)) x3 x4 x5 x6 x7 x8 x9))))) (cond ((x0.getD x2.toNat (Ty.z aM)).2.2.2.1.1==x3) (L0 x0 x1 (aQ (x2+1)) x3 x4 x5 x6 x7 x8 []) (cond (x3==3) (cond ((x0.getD x2.toNat (Ty.z aM)).2.2.2.1.1==1) (rm (Ty.bytes aM) (x9.length+1) (L0 x0 x1 (aQ (x2+1)) x3 x4 x5 x6 x7 x8 (x9++[(x0.getD x2.toNat (Ty.z aM))]))) (cond ((x0.getD x2.toNat (Ty.z aM)).2.2.2.1.1==2) (cond ((x0.getD x2.toNat (Ty.z aM)).2.2.2.1.1==2) (rm (Ty.bytes aM) (x9.length+1) (L0 x0 x1 (aQ (x2+1)) x3 x4 x5 x6 x7 x8 (x9++[(x0.getD x2.toNat (Ty.z aM))]))) (L0 x0 x1 (aQ (x2+1)) x3 x4 x5 x6 x7 x8 x9)) (cond (x3==5) (cond ((x0.getD x2.toNat (Ty.z aM)).2.2.2.1.1==4) (rm (Ty.bytes aM) (x9.length+1) (L0 x0 x1 (aQ (x2+1)) x3 x4 x5 x6 x7 x8 (x9++[(x0.getD x2.toNat (Ty.z aM))]))) (L0 x0 x1 (aQ (x2+1)) x3 x4 x5 x6 x7 x8 x9)) (L0 x0 x1 (aQ (x2+1)) x3 x4 x5 x6 x7 x8 x9)))) (cond (x3==5) (cond ((x0.getD x2.toNat (Ty.z aM)).2.2.2.1.1==4) (rm (Ty.bytes aM) (x9.length+1) (L0 x0 x1 (aQ (x2+1)) x3 x4 x5 x6 x7 x8 (x9++[(x0.getD x2.toNat (Ty.z aM))]))) (L0 x0 x1 (aQ (x2+1)) x3 x4 x5 x6 x7 x8 x9)) (L0 x0 x1 (aQ (x2+1)) x3 x4 x5 x6 x7 x8 x9)))))) (some (x9,())))
def l0:Nat→T0
 | 0=>fun _ _ _ _ _ _ _ _ _ _=>none
 | n+1=>b0 k (l0 n)
def t (k:Nat) (L0:T0) (a0:List (Ty.d aM)) (a1:Ty.d ba):Rs :=
 (L0 a0 (a0.length:Int) 0 a1.1 a1.2.1 a1.2.2.1 a1.2.2.2.1 a1.2.2.2.2.1 a1.2.2.2.2.2.1 [])
def f:=t k (l0 k k)
end dK
namespace cB
abbrev Rs:Type:=Option ((List (Ty.d aB)) × Unit)
abbrev T0:Type:=ByteArray→List (Ty.d aB)→Int→Int→List (Ty.d aB)→Rs
def b0 (k:Nat) (L0:T0):T0:=fun x0 x1 x2 x3 x4 =>
 (cond (decide (x3<x2)) (cD x3 (x1.length:Int) (cond (!(seq (x1.getD x3.toNat (Ty.z aB)).1 x0)) (rm (Ty.bytes aB) (x4.length+1) (L0 x0 x1 x2 (aQ (x3+1)) (x4++[(x1.getD x3.toNat (Ty.z aB))]))) (L0 x0 x1 x2 (aQ (x3+1)) x4))) (some (x4,())))
def l0:Nat→T0
 | 0=>fun _ _ _ _ _=>none
 | n+1=>b0 k (l0 n)
def t (k:Nat) (L0:T0) (a0:List (Ty.d aB)) (a1:ByteArray):Rs :=
 (L0 a1 a0 (a0.length:Int) 0 [])
def f:=t k (l0 k k)
end cB
namespace dC
abbrev Rs:Type:=Option ((List (Ty.d aB)) × Unit)
abbrev T0:Type:=Int→ByteArray→Int→Int→Int→Int→List (Ty.d aB)→Rs
def b0 (L0:T0):T0:=fun x0 x1 x2 x3 x4 x5 x6 =>
 (cond (decide (x0<(x6.length:Int))) (cD x0 (x6.length:Int) (cond ((nT (x6.getD x0.toNat (Ty.z aB)).1 x1)||(seq (x6.getD x0.toNat (Ty.z aB)).1 x1)) (L0 (aQ (x0+1)) x1 x2 x3 x4 x5 x6) (rP x0 (x6.length:Int) ((cJ.f k (x6.take x0.toNat)).bind fun r2=>rm (Ty.bytes aB) (r2.1.length+1) (rP x0 (x6.length:Int) (rm (Ty.bytes aB) (List.length (r2.1++[(x1,(x2,(x3,(x4,(x5,())))))])+List.length (x6.drop x0.toNat)) (some (((r2.1++[(x1,(x2,(x3,(x4,(x5,())))))])++(x6.drop x0.toNat)),())))))))) (rP x0 (x6.length:Int) ((cJ.f k (x6.take x0.toNat)).bind fun r3=>rm (Ty.bytes aB) (r3.1.length+1) (rP x0 (x6.length:Int) (rm (Ty.bytes aB) (List.length (r3.1++[(x1,(x2,(x3,(x4,(x5,())))))])+List.length (x6.drop x0.toNat)) (some (((r3.1++[(x1,(x2,(x3,(x4,(x5,())))))])++(x6.drop x0.toNat)),())))))))
def l0:Nat→T0
 | 0=>fun _ _ _ _ _ _ _=>none
 | n+1=>b0 k (l0 n)
def t (L0:T0) (a0:List (Ty.d aB)) (a1:Ty.d aB):Rs :=
 ((cB.f k a0 a1.1).bind fun r1=>L0 0 a1.1 a1.2.1 a1.2.2.1 a1.2.2.2.1 a1.2.2.2.2.1 r1.1)
def f:=t k (l0 k k)
end dC
namespace cO
abbrev Rs:Type:=Option ((Ty.d kH) × Unit)
abbrev T0:Type:=List (Ty.d aM)→Int→Int→List (Ty.d aB)→Int→Int→Rs
def b0 (L0:T0):T0:=fun x0 x1 x2 x3 x4 x5 =>
 (cond (decide (x2<x1)) (cD x2 (x0.length:Int) (cond ((x0.getD x2.toNat (Ty.z aM)).2.2.2.1.1==2) ((cB.f k x3 (x0.getD x2.toNat (Ty.z aM)).2.2.2.1.2.2.1).bind fun r1=>L0 x0 x1 (aQ (x2+1)) r1.1 x4 x5) ((dC.f k x3 ((x0.getD x2.toNat (Ty.z aM)).2.2.2.1.2.2.1,((x0.getD x2.toNat (Ty.z aM)).1,((x0.getD x2.toNat (Ty.z aM)).2.1,((x0.getD x2.toNat (Ty.z aM)).2.2.1,((x0.getD x2.toNat (Ty.z aM)).2.2.2.1.2.1,())))))).bind fun r2=>L0 x0 x1 (aQ (x2+1)) r2.1 x4 x5))) (cond (decide ((x3.length:Int) > 20)) (some ((x3,(x4,(2,()))),())) (some ((x3,(x4,(x5,()))),()))))
def l0:Nat→T0
 | 0=>fun _ _ _ _ _ _=>none
 | n+1=>b0 k (l0 n)
def t (k:Nat) (L0:T0) (a0:Ty.d kH) (a1:List (Ty.d aM)):Rs :=
 (L0 a1 (a1.length:Int) 0 a0.1 a0.2.1 a0.2.2.1)
def f:=t k (l0 k k)
end cO
namespace db
abbrev Rs:Type:=Option ((Ty.d kH) × Unit)
abbrev T0:Type:=List (Ty.d aM)→List (Ty.d aM)→Int→Int→List (Ty.d aB)→Int→Int→List (Ty.d aB)→Int→Int→Rs
def b0 (L0:T0):T0:=fun x0 x1 x2 x3 x4 x5 x6 x7 x8 x9 =>
 (cond (decide (x3<x2)) (cD x3 (x1.length:Int) (cond (x9 != 0) (some ((x7,(x8,(x9,()))),())) (cond ((x1.getD x3.toNat (Ty.z aM)).2.2.2.1.1 != 3) (cond ((x1.getD x3.toNat (Ty.z aM)).2.2.2.1.1 != 5) (L0 x0 x1 x2 (aQ (x3+1)) x4 x5 x6 x7 (if (x1.getD x3.toNat (Ty.z aM)).2.2.2.1.2.1 > x8 then (x1.getD x3.toNat (Ty.z aM)).2.2.2.1.2.1 else x8) x9) (rP x3 (x0.length:Int) ((dK.f k (x0.take x3.toNat) (x1.getD x3.toNat (Ty.z aM)).2.2.2.1).bind fun r2=>(gh.f k (x1.getD x3.toNat (Ty.z aM)).2.2.2.1 r2.1).bind fun r3=>cond r3.1 ((cO.f k (x7,((if (x1.getD x3.toNat (Ty.z aM)).2.2.2.1.2.1 > x8 then (x1.getD x3.toNat (Ty.z aM)).2.2.2.1.2.1 else x8),(x9,()))) r2.1).bind fun r4=>L0 x0 x1 x2 (aQ (x3+1)) x4 x5 x6 r4.1.1 r4.1.2.1 r4.1.2.2.1) (cond ((x1.getD x3.toNat (Ty.z aM)).2.2.2.1.1==5) (L0 x0 x1 x2 (aQ (x3+1)) x4 x5 x6 x7 (if (x1.getD x3.toNat (Ty.z aM)).2.2.2.1.2.1 > x8 then (x1.getD x3.toNat (Ty.z aM)).2.2.2.1.2.1 else x8) 1) (L0 x0 x1 x2 (aQ (x3+1)) x4 x5 x6 x7 (if (x1.getD x3.toNat (Ty.z aM)).2.2.2.1.2.1 > x8 then (x1.getD x3.toNat (Ty.z aM)).2.2.2.1.2.1 else x8) x9))))) (rP x3 (x0.length:Int) ((dK.f k (x0.take x3.toNat) (x1.getD x3.toNat (Ty.z aM)).2.2.2.1).bind fun r5=>(gh.f k (x1.getD x3.toNat (Ty.z aM)).2.2.2.1 r5.1).bind fun r6=>cond r6.1 ((cO.f k (x7,((if (x1.getD x3.toNat (Ty.z aM)).2.2.2.1.2.1 > x8 then (x1.getD x3.toNat (Ty.z aM)).2.2.2.1.2.1 else x8),(x9,()))) r5.1).bind fun r7=>L0 x0 x1 x2 (aQ (x3+1)) x4 x5 x6 r7.1.1 r7.1.2.1 r7.1.2.2.1) (cond ((x1.getD x3.toNat (Ty.z aM)).2.2.2.1.1==5) (L0 x0 x1 x2 (aQ (x3+1)) x4 x5 x6 x7 (if (x1.getD x3.toNat (Ty.z aM)).2.2.2.1.2.1 > x8 then (x1.getD x3.toNat (Ty.z aM)).2.2.2.1.2.1 else x8) 1) (L0 x0 x1 x2 (aQ (x3+1)) x4 x5 x6 x7 (if (x1.getD x3.toNat (Ty.z aM)).2.2.2.1.2.1 > x8 then (x1.getD x3.toNat (Ty.z aM)).2.2.2.1.2.1 else x8) x9))))))) (cond (x9==0) ((dK.f k x0 (5,(0,(ByteArray.empty,(ByteArray.empty,(0,(0,()))))))).bind fun r8=>cond (decide ((r8.1.length:Int) > 0)) (some ((x7,(x8,(1,()))),())) (some ((x7,(x8,(x9,()))),()))) (some ((x7,(x8,(x9,()))),()))))
def l0:Nat→T0
 | 0=>fun _ _ _ _ _ _ _ _ _ _=>none
 | n+1=>b0 k (l0 n)
def t (L0:T0) (a0:Ty.d kH) (a1:List (Ty.d aM)):Rs :=
 ((cJ.f k a0.1).bind fun r1=>L0 a1 a1 (a1.length:Int) 0 [] 0 0 r1.1 a0.2.1 a0.2.2.1)
def f:=t k (l0 k k)
end db
namespace lW
abbrev Rs:Type:=Option (Int × Bool × Unit)
def t (a0:ByteArray):Rs :=
 ((iD.f k a0 (⟨#[115,101,103]⟩:ByteArray)).bind fun r1=>cond (!r1.2.1) ((iD.f k a0 (⟨#[104,105,110,116]⟩:ByteArray)).bind fun r2=>(co.f k r2.1).bind fun r3=>cond (!r2.2.1) (some (0,(false,()))) (cond (!r3.2.1) (some (0,(false,()))) ((ac.f k r3.1 1 100000).bind fun r4=>cond (!r4.1) (some (0,(false,()))) (some (r3.1,(true,())))))) ((co.f k r1.1).bind fun r5=>cond (!r1.2.1) (some (0,(false,()))) (cond (!r5.2.1) (some (0,(false,()))) ((ac.f k r5.1 1 100000).bind fun r6=>cond (!r6.1) (some (0,(false,()))) (some (r5.1,(true,())))))))
def f:=t k
end lW
namespace gK
abbrev Rs:Type:=Option (Bool × Unit)
abbrev T0:Type:=Int→List Int→Int→Int→Rs
def b0 (k:Nat) (L0:T0):T0:=fun x0 x1 x2 x3 =>
 (cond (decide (x3<x2)) (cD x3 (x1.length:Int) (cond ((x1.getD x3.toNat (Ty.z (.int .i64)))==x0) (some (true,())) (L0 x0 x1 x2 (aQ (x3+1))))) (some (false,())))
def l0:Nat→T0
 | 0=>fun _ _ _ _=>none
 | n+1=>b0 k (l0 n)
def t (k:Nat) (L0:T0) (a0:List Int) (a1:Int):Rs :=
 (L0 a1 a0 (a0.length:Int) 0)
def f:=t k (l0 k k)
end gK
namespace fP
abbrev Rs:Type:=Option ((List ByteArray) × Unit)
abbrev T0:Type:=List (Ty.d aL)→Int→Int→Int→List Int→List ByteArray→Rs
def b0 (L0:T0):T0:=fun x0 x1 x2 x3 x4 x5 =>
 (cond (decide (x2<x1)) (cD x2 (x0.length:Int) ((lW.f k (x0.getD x2.toNat (Ty.z aL)).1).bind fun r2=>cond (seq (x0.getD x2.toNat (Ty.z aL)).1 (⟨#[116,101,109,112]⟩:ByteArray)) (rm (Ty.bytes .str) (x5.length+1) (L0 x0 x1 (aQ (x2+1)) x3 x4 (x5++[(x0.getD x2.toNat (Ty.z aL)).1]))) (cond r2.2.1 ((gK.f k x4 r2.1).bind fun r3=>cond (!r3.1) (rm (Ty.bytes .str) (x5.length+1) (L0 x0 x1 (aQ (x2+1)) x3 x4 (x5++[(x0.getD x2.toNat (Ty.z aL)).1]))) (L0 x0 x1 (aQ (x2+1)) x3 x4 x5)) (L0 x0 x1 (aQ (x2+1)) x3 x4 x5)))) (some (x5,())))
def l0:Nat→T0
 | 0=>fun _ _ _ _ _ _=>none
 | n+1=>b0 k (l0 n)
def t (L0:T0) (a0:Ty.d aA) (a1:Ty.d ch):Rs :=
 ((ay.f k a0).bind fun r1=>cond (!r1.1) (some ([],())) (L0 a0.1 (a0.1.length:Int) 0 a1.1 a1.2.1 []))
def f:=t k (l0 k k)
end fP
namespace eG
abbrev Rs:Type:=Option ((Ty.d aA) × Unit)
def t (a0:Ty.d aA) (a1:ByteArray):Rs :=
 ((bW.f k a0 a1).bind fun r1=>cond (decide (r1.1≥0)) (rP r1.1 (a0.1.length:Int) (rm (Ty.bytes aL) ((a0.1.take r1.1.toNat).length) (rP (aQ (r1.1+1)) (a0.1.length:Int) (rm (Ty.bytes aL) ((a0.1.take r1.1.toNat).length+List.length (a0.1.drop (aQ (r1.1+1)).toNat)) (some ((((a0.1.take r1.1.toNat)++(a0.1.drop (aQ (r1.1+1)).toNat)),a0.2),())))))) (some (a0,())))
def f:=t k
end eG
namespace fh
abbrev Rs:Type:=Option ((Ty.d aA) × ByteArray × Int × Unit)
def t (a0:Ty.d aA) (a1:ByteArray):Rs :=
 ((bW.f k a0 a1).bind fun r1=>cond (decide (r1.1<0)) (some (a0,(a1,(3,())))) ((eG.f k a0 a1).bind fun r2=>some (r2.1,(a1,(0,())))))
def f:=t k
end fh
namespace gB
abbrev Rs:Type:=Option (ByteArray × (Ty.d aA) × Int × Unit)
def t (a0:Ty.d aA) (a1:ByteArray):Rs :=
 ((bA.f k a0).bind fun r1=>(ay.f k a0).bind fun r2=>cond (!r2.1) (some (a1,(r1.1,(5,())))) (cond a0.2.2.2.1 (some (a1,((r1.1.1,(r1.1.2.1,(r1.1.2.2.1,(true,())))),(1,())))) (cond (a0.2.2.1==0) (some (a1,((r1.1.1,(r1.1.2.1,(r1.1.2.2.1,(true,())))),(1,())))) (cond (decide (a0.2.2.1 > 0)) ((fh.f k (r1.1.1,(r1.1.2.1,((aQ (r1.1.2.2.1-1)),r1.1.2.2.2))) a1).bind fun r3=>some (r3.2.1,(r3.1,r3.2.2))) ((fh.f k r1.1 a1).bind fun r4=>some (r4.2.1,(r4.1,r4.2.2)))))))
def f:=t k
end gB
namespace k9
abbrev Rs:Type:=Option ((Ty.d aA) × Int × Unit)
def t (a0:Ty.d aA) (a1:ByteArray):Rs :=
 ((gB.f k a0 a1).bind fun r1=>some r1.2)
def f:=t k
end k9
namespace bD
abbrev Rs:Type:=Option ((Ty.d an) × Unit)
def t (a0:Ty.d an) (a1:ByteArray):Rs :=
 (cond (a0.2.1==0) ((bW.f k a0.1 a1).bind fun r1=>cond (decide (r1.1≥0)) ((k9.f k a0.1 a1).bind fun r2=>(az.f k a0 r2.1 r2.2.1).bind fun r3=>some r3) (some (a0,()))) (some (a0,())))
def f:=t k
end bD
namespace ag
abbrev Rs:Type:=Option ((Ty.d an) × Unit)
abbrev T0:Type:=Int→Int→List (Ty.d aL)→Int→Int→Bool→Int→List ByteArray→Rs
def b0 (L0:T0):T0:=fun x0 x1 x2 x3 x4 x5 x6 x7 =>
 (cond (decide (x1<x0)) (cD x1 (x7.length:Int) ((bD.f k ((x2,(x3,(x4,(x5,())))),(x6,())) (x7.getD x1.toNat (Ty.z .str))).bind fun r2=>L0 x0 (aQ (x1+1)) r2.1.1.1 r2.1.1.2.1 r2.1.1.2.2.1 r2.1.1.2.2.2.1 r2.1.2.1 x7)) (some (((x2,(x3,(x4,(x5,())))),(x6,())),())))
def l0:Nat→T0
 | 0=>fun _ _ _ _ _ _ _ _=>none
 | n+1=>b0 k (l0 n)
def t (L0:T0) (a0:Ty.d an) (a1:Ty.d ch):Rs :=
 ((fP.f k a0.1 a1).bind fun r1=>L0 (r1.1.length:Int) 0 a0.1.1 a0.1.2.1 a0.1.2.2.1 a0.1.2.2.2.1 a0.2.1 r1.1)
def f:=t k (l0 k k)
end ag
namespace aR
abbrev Rs:Type:=Option ((Ty.d an) × (Ty.d aD) × Unit)
abbrev T0:Type:=List (List (Ty.d aM))→Int→Int→List (Ty.d aL)→Int→Int→Bool→Int→List Int→List (Ty.d aB)→Int→Int→Int→Int→List Int→Int→List (Ty.d aB)→Int→Int→Int→Int→List (Ty.d aB)→Int→Int→List (Ty.d aM)→Rs
abbrev T1:Type:=Int→Int→List (Ty.d aL)→Int→Int→Bool→Int→List Int→List (Ty.d aB)→Int→Int→Int→Int→List Int→Int→List (Ty.d aB)→Int→Int→Int→Int→List (Ty.d aB)→Int→Int→List (Ty.d aM)→List (List (Ty.d aM))→Rs
abbrev T2:Type:=List (List (Ty.d aM))→Int→Int→List (Ty.d aL)→Int→Int→Bool→Int→List Int→List (Ty.d aB)→Int→Int→Int→Int→List Int→Int→List (Ty.d aB)→Int→Int→Int→Int→List (Ty.d aB)→Int→Int→List (Ty.d aM)→Rs
abbrev T3:Type:=Int→Int→List (Ty.d aL)→Int→Int→Bool→Int→List Int→List (Ty.d aB)→Int→Int→Int→Int→List Int→Int→List (Ty.d aB)→Int→Int→Int→Int→List (Ty.d aB)→Int→Int→List (Ty.d aM)→List (List (Ty.d aM))→Rs
def b0 (L0:T0):T0:=fun x0 x1 x2 x3 x4 x5 x6 x7 x8 x9 x10 x11 x12 x13 x14 x15 x16 x17 x18 x19 x20 x21 x22 x23 x24 =>
 (cond (decide (x2<x1)) (cD x2 (x0.length:Int) (rm (Ty.bytes aM) (x24.length+List.length (x0.getD x2.toNat (Ty.z (.slice aM)))) (L0 x0 x1 (aQ (x2+1)) x3 x4 x5 x6 x7 x8 x9 x10 x11 x12 x13 x14 x15 x16 x17 x18 x19 x20 x21 x22 x23 (x24++(x0.getD x2.toNat (Ty.z (.slice aM))))))) ((db.f k (x21,(x22,(x23,()))) x24).bind fun r9=>cond (r9.1.2.2.1 != 0) (some (((x3,(x4,(x5,(x6,())))),(3,())),(((0,([],())),([],(0,(0,(0,()))))),()))) ((ag.f k ((x3,(x4,(x5,(x6,())))),(x7,())) (x15,(x14,()))).bind fun r10=>some (r10.1,(((x17,(x14,())),(r9.1.1,((aQ (r9.1.2.1+1)),(x19,(x20,()))))),())))))
def l0:Nat→T0
 | 0=>fun _ _ _ _ _ _ _ _ _ _ _ _ _ _ _ _ _ _ _ _ _ _ _ _ _=>none
 | n+1=>b0 k (l0 n)
def b1 (L1:T1):T1:=fun x0 x1 x2 x3 x4 x5 x6 x7 x8 x9 x10 x11 x12 x13 x14 x15 x16 x17 x18 x19 x20 x21 x22 x23 x24 =>
 (cond (decide (x1<x0)) (cD x1 (x24.length:Int) (rm (Ty.bytes aM) (x23.length+List.length (x24.getD x1.toNat (Ty.z (.slice aM)))) (L1 x0 (aQ (x1+1)) x2 x3 x4 x5 x6 x7 x8 x9 x10 x11 x12 x13 x14 x15 x16 x17 x18 x19 x20 x21 x22 (x23++(x24.getD x1.toNat (Ty.z (.slice aM)))) x24))) ((db.f k (x20,(x21,(x22,()))) x23).bind fun r11=>cond (r11.1.2.2.1 != 0) (some (((x2,(x3,(x4,(x5,())))),(3,())),(((0,([],())),([],(0,(0,(0,()))))),()))) ((ag.f k ((x2,(x3,(x4,(x5,())))),(x6,())) (x14,(x13,()))).bind fun r12=>some (r12.1,(((x16,(x13,())),(r11.1.1,((aQ (r11.1.2.1+1)),(x18,(x19,()))))),())))))
def l1:Nat→T1
 | 0=>fun _ _ _ _ _ _ _ _ _ _ _ _ _ _ _ _ _ _ _ _ _ _ _ _ _=>none
 | n+1=>b1 k (l1 n)
def b2 (L2:T2):T2:=fun x0 x1 x2 x3 x4 x5 x6 x7 x8 x9 x10 x11 x12 x13 x14 x15 x16 x17 x18 x19 x20 x21 x22 x23 x24 =>
 (cond (decide (x2<x1)) (cD x2 (x0.length:Int) (rm (Ty.bytes aM) (x24.length+List.length (x0.getD x2.toNat (Ty.z (.slice aM)))) (L2 x0 x1 (aQ (x2+1)) x3 x4 x5 x6 x7 x8 x9 x10 x11 x12 x13 x14 x15 x16 x17 x18 x19 x20 x21 x22 x23 (x24++(x0.getD x2.toNat (Ty.z (.slice aM))))))) ((db.f k (x21,(x22,(x23,()))) x24).bind fun r15=>cond (r15.1.2.2.1 != 0) (some (((x3,(x4,(x5,(x6,())))),(3,())),(((0,([],())),([],(0,(0,(0,()))))),()))) ((ag.f k ((x3,(x4,(x5,(x6,())))),(x7,())) (x15,(x14,()))).bind fun r16=>some (r16.1,(((x17,(x14,())),(r15.1.1,((aQ (r15.1.2.1+1)),(x19,(x20,()))))),())))))
def l2:Nat→T2
 | 0=>fun _ _ _ _ _ _ _ _ _ _ _ _ _ _ _ _ _ _ _ _ _ _ _ _ _=>none
 | n+1=>b2 k (l2 n)
def b3 (L3:T3):T3:=fun x0 x1 x2 x3 x4 x5 x6 x7 x8 x9 x10 x11 x12 x13 x14 x15 x16 x17 x18 x19 x20 x21 x22 x23 x24 =>
 (cond (decide (x1<x0)) (cD x1 (x24.length:Int) (rm (Ty.bytes aM) (x23.length+List.length (x24.getD x1.toNat (Ty.z (.slice aM)))) (L3 x0 (aQ (x1+1)) x2 x3 x4 x5 x6 x7 x8 x9 x10 x11 x12 x13 x14 x15 x16 x17 x18 x19 x20 x21 x22 (x23++(x24.getD x1.toNat (Ty.z (.slice aM)))) x24))) ((db.f k (x20,(x21,(x22,()))) x23).bind fun r17=>cond (r17.1.2.2.1 != 0) (some (((x2,(x3,(x4,(x5,())))),(3,())),(((0,([],())),([],(0,(0,(0,()))))),()))) ((ag.f k ((x2,(x3,(x4,(x5,())))),(x6,())) (x14,(x13,()))).bind fun r18=>some (r18.1,(((x16,(x13,())),(r17.1.1,((aQ (r17.1.2.1+1)),(x18,(x19,()))))),())))))
def l3:Nat→T3
 | 0=>fun _ _ _ _ _ _ _ _ _ _ _ _ _ _ _ _ _ _ _ _ _ _ _ _ _=>none
 | n+1=>b3 k (l3 n)
def t (L0:T0) (L1:T1) (L2:T2) (L3:T3) (a0:Ty.d an) (a1:ByteArray):Rs :=
 ((b9.f k a1).bind fun r1=>(bJ.f k a0 r1.1).bind fun r2=>cond (!r1.2.1) (some ((r2.1.1,(3,())),(((0,([],())),([],(0,(0,(0,()))))),()))) (cond (!r2.2.2.2.1) (some ((r2.1.1,(3,())),(((0,([],())),([],(0,(0,(0,()))))),()))) (cD (aQ ((r1.1.2.1.length:Int)-1)) (r1.1.2.1.length:Int) ((aj.f k (r1.1.2.1.getD (aQ ((r1.1.2.1.length:Int)-1)).toNat (Ty.z (.int .i64)))).bind fun r3=>(bq.f k r2.1.1 r3.1).bind fun r4=>cond ((r4.1.size:Int) != r2.2.2.1) ((ic.f k r2.1.1 r3.1 r2.2.2.1).bind fun r5=>(az.f k r2.1 r5.1 r5.2.1).bind fun r6=>(bL.f k r6.1 r3.1).bind fun r7=>cond (r7.1.2.1 != 0) (some (r7.1,(((0,([],())),([],(0,(0,(0,()))))),()))) (cD 0 (r1.1.2.1.length:Int) ((d7.f k r7.1 (r1.1.2.1.getD 0 (Ty.z (.int .i64)))).bind fun r8=>cond r8.2.2.1 (cD 0 (r1.1.2.1.length:Int) (rP 1 (r2.2.1.length:Int) (L0 (r2.2.1.drop 1) ((r2.2.1.drop 1).length:Int) 0 r8.1.1.1 r8.1.1.2.1 r8.1.1.2.2.1 r8.1.1.2.2.2.1 r8.1.2.1 [] [] 0 0 0 0 r1.1.2.1 r1.1.1 [] r1.1.1 0 r2.2.2.1 (r1.1.2.1.getD 0 (Ty.z (.int .i64))) r8.2.1.1 r8.2.1.2.1 r8.2.1.2.2.1 []))) (L1 (r2.2.1.length:Int) 0 r8.1.1.1 r8.1.1.2.1 r8.1.1.2.2.1 r8.1.1.2.2.2.1 r8.1.2.1 [] [] 0 0 0 0 r1.1.2.1 r1.1.1 [] r1.1.1 0 r2.2.2.1 0 r8.2.1.1 r8.2.1.2.1 r8.2.1.2.2.1 [] r2.2.1)))) ((bL.f k r2.1 r3.1).bind fun r13=>cond (r13.1.2.1 != 0) (some (r13.1,(((0,([],())),([],(0,(0,(0,()))))),()))) (cD 0 (r1.1.2.1.length:Int) ((d7.f k r13.1 (r1.1.2.1.getD 0 (Ty.z (.int .i64)))).bind fun r14=>cond r14.2.2.1 (cD 0 (r1.1.2.1.length:Int) (rP 1 (r2.2.1.length:Int) (L2 (r2.2.1.drop 1) ((r2.2.1.drop 1).length:Int) 0 r14.1.1.1 r14.1.1.2.1 r14.1.1.2.2.1 r14.1.1.2.2.2.1 r14.1.2.1 [] [] 0 0 0 0 r1.1.2.1 r1.1.1 [] r1.1.1 0 r2.2.2.1 (r1.1.2.1.getD 0 (Ty.z (.int .i64))) r14.2.1.1 r14.2.1.2.1 r14.2.1.2.2.1 []))) (L3 (r2.2.1.length:Int) 0 r14.1.1.1 r14.1.1.2.1 r14.1.1.2.2.1 r14.1.1.2.2.2.1 r14.1.2.1 [] [] 0 0 0 0 r1.1.2.1 r1.1.1 [] r1.1.1 0 r2.2.2.1 0 r14.2.1.1 r14.2.1.2.1 r14.2.1.2.2.1 [] r2.2.1))))))))
def f:=t k (l0 k k) (l1 k k) (l2 k k) (l3 k k)
end aR
namespace dJ
abbrev Rs:Type:=Option ((Ty.d aA) × Unit)
abbrev T0:Type:=Int→List (Ty.d aL)→Int→Int→Bool→ByteArray→ByteArray→Int→Rs
def b0 (k:Nat) (L0:T0):T0:=fun x0 x1 x2 x3 x4 x5 x6 x7 =>
 (cond (decide (x0<(x1.length:Int))) (cD x0 (x1.length:Int) (cond (nT (x1.getD x0.toNat (Ty.z aL)).1 x5) (L0 (aQ (x0+1)) x1 x2 x3 x4 x5 x6 x7) (rP x0 (x1.length:Int) (rm (Ty.bytes aL) ((x1.take x0.toNat).length) (rm (Ty.bytes aL) ((x1.take x0.toNat).length+1) (rP x0 (x1.length:Int) (rm (Ty.bytes aL) (List.length ((x1.take x0.toNat)++[(x5,(x6,(x7,())))])+List.length (x1.drop x0.toNat)) (some (((((x1.take x0.toNat)++[(x5,(x6,(x7,())))])++(x1.drop x0.toNat)),(x2,(x3,(x4,())))),()))))))))) (rP x0 (x1.length:Int) (rm (Ty.bytes aL) ((x1.take x0.toNat).length) (rm (Ty.bytes aL) ((x1.take x0.toNat).length+1) (rP x0 (x1.length:Int) (rm (Ty.bytes aL) (List.length ((x1.take x0.toNat)++[(x5,(x6,(x7,())))])+List.length (x1.drop x0.toNat)) (some (((((x1.take x0.toNat)++[(x5,(x6,(x7,())))])++(x1.drop x0.toNat)),(x2,(x3,(x4,())))),()))))))))
def l0:Nat→T0
 | 0=>fun _ _ _ _ _ _ _ _=>none
 | n+1=>b0 k (l0 n)
def t (k:Nat) (L0:T0) (a0:Ty.d aA) (a1:Ty.d aL):Rs :=
 (L0 0 a0.1 a0.2.1 a0.2.2.1 a0.2.2.2.1 a1.1 a1.2.1 a1.2.2.1)
def f:=t k (l0 k k)
end dJ
namespace fp
abbrev Rs:Type:=Option ((Ty.d aA) × ByteArray × Int × Unit)
def t (a0:Ty.d aA) (a1:ByteArray):Rs :=
 ((eC.f k a1).bind fun r1=>cond (!r1.1) (some (a0,(a1,(5,())))) ((bW.f k a0 a1).bind fun r2=>cond (decide (r2.1≥0)) (some (a0,(a1,(4,())))) (cond (decide ((a0.1.length:Int)≥130)) (some (a0,(a1,(2,())))) ((dJ.f k a0 (a1,(ByteArray.empty,(0,())))).bind fun r3=>some (r3.1,(a1,(0,())))))))
def f:=t k
end fp
namespace gE
abbrev Rs:Type:=Option (ByteArray × (Ty.d aA) × Int × Unit)
def t (a0:Ty.d aA) (a1:ByteArray):Rs :=
 ((bA.f k a0).bind fun r1=>(ay.f k a0).bind fun r2=>cond (!r2.1) (some (a1,(r1.1,(5,())))) (cond a0.2.2.2.1 (some (a1,((r1.1.1,(r1.1.2.1,(r1.1.2.2.1,(true,())))),(1,())))) (cond (a0.2.2.1==0) (some (a1,((r1.1.1,(r1.1.2.1,(r1.1.2.2.1,(true,())))),(1,())))) (cond (decide (a0.2.2.1 > 0)) ((fp.f k (r1.1.1,(r1.1.2.1,((aQ (r1.1.2.2.1-1)),r1.1.2.2.2))) a1).bind fun r3=>some (r3.2.1,(r3.1,r3.2.2))) ((fp.f k r1.1 a1).bind fun r4=>some (r4.2.1,(r4.1,r4.2.2)))))))
def f:=t k
end gE
namespace k_
abbrev Rs:Type:=Option ((Ty.d aA) × Int × Unit)
def t (a0:Ty.d aA) (a1:ByteArray):Rs :=
 ((gE.f k a0 a1).bind fun r1=>some r1.2)
def f:=t k
end k_
namespace dQ
abbrev Rs:Type:=Option ((Ty.d an) × Unit)
def t (a0:Ty.d an) (a1:ByteArray):Rs :=
 (cond (a0.2.1==0) ((k_.f k a0.1 a1).bind fun r1=>(az.f k a0 r1.1 r1.2.1).bind fun r2=>some r2) (some (a0,())))
def f:=t k
end dQ
namespace ib
abbrev Rs:Type:=Option (ByteArray × Unit)
def t (a0:Ty.d ch):Rs :=
 ((dE.f k a0).bind fun r1=>cond (!r1.1) (some ((⟨#[]⟩:ByteArray),())) ((dY.f k [a0.1,(a0.2.1.length:Int)]).bind fun r2=>(dY.f k a0.2.1).bind fun r3=>o8 r2.1 r3.1 ((gY.f k (r2.1++r3.1)).bind fun r4=>some r4)))
def f:=t k
end ib
namespace ck
abbrev Rs:Type:=Option ((Ty.d an) × Unit)
def t (a0:Ty.d an) (a1:ByteArray):Rs :=
 ((bD.f k a0 a1).bind fun r1=>(dQ.f k r1.1 a1).bind fun r2=>some r2)
def f:=t k
end ck
namespace gi
abbrev Rs:Type:=Option (Int × Unit)
abbrev T0:Type:=Int→List (Ty.d aL)→Int→Int→Rs
def b0 (k:Nat) (L0:T0):T0:=fun x0 x1 x2 x3 =>
 (cond (decide (x3<x2)) (cD x3 (x1.length:Int) (L0 (aQ (x0+(ByteArray.size (x1.getD x3.toNat (Ty.z aL)).2.1:Int))) x1 x2 (aQ (x3+1)))) (some (x0,())))
def l0:Nat→T0
 | 0=>fun _ _ _ _=>none
 | n+1=>b0 k (l0 n)
def t (k:Nat) (L0:T0) (a0:Ty.d aA):Rs :=
 (L0 0 a0.1 (a0.1.length:Int) 0)
def f:=t k (l0 k k)
end gi
namespace fu
abbrev Rs:Type:=Option ((Ty.d aA) × ByteArray × ByteArray × Int × Unit)
def t (a0:Ty.d aA) (a1:ByteArray) (a2:ByteArray):Rs :=
 ((bW.f k a0 a1).bind fun r1=>cond (decide (r1.1<0)) (some (a0,(a1,(a2,(3,()))))) ((gi.f k a0).bind fun r2=>cond (decide ((a2.size:Int) > (aQ (a0.2.1-r2.1)))) (some (a0,(a1,(a2,(2,()))))) (cD r1.1 (a0.1.length:Int) (o8 (a0.1.getD r1.1.toNat (Ty.z aL)).2.1 a2 (cD r1.1 (a0.1.length:Int) (let l3:=(a0.1.set r1.1.toNat ((a0.1.getD r1.1.toNat (Ty.z aL)).1,(((a0.1.getD r1.1.toNat (Ty.z aL)).2.1++a2),(a0.1.getD r1.1.toNat (Ty.z aL)).2.2)));(some ((l3,a0.2),(a1,(a2,(0,())))))))))))
def f:=t k
end fu
namespace g9
abbrev Rs:Type:=Option (ByteArray × ByteArray × (Ty.d aA) × Int × Unit)
def t (a0:Ty.d aA) (a1:ByteArray) (a2:ByteArray):Rs :=
 ((bA.f k a0).bind fun r1=>(ay.f k a0).bind fun r2=>cond (!r2.1) (some (a1,(a2,(r1.1,(5,()))))) (cond a0.2.2.2.1 (some (a1,(a2,((r1.1.1,(r1.1.2.1,(r1.1.2.2.1,(true,())))),(1,()))))) (cond (a0.2.2.1==0) (some (a1,(a2,((r1.1.1,(r1.1.2.1,(r1.1.2.2.1,(true,())))),(1,()))))) (cond (decide (a0.2.2.1 > 0)) ((fu.f k (r1.1.1,(r1.1.2.1,((aQ (r1.1.2.2.1-1)),r1.1.2.2.2))) a1 a2).bind fun r3=>some (r3.2.1,(r3.2.2.1,(r3.1,r3.2.2.2)))) ((fu.f k r1.1 a1 a2).bind fun r4=>some (r4.2.1,(r4.2.2.1,(r4.1,r4.2.2.2))))))))
def f:=t k
end g9
namespace kB
abbrev Rs:Type:=Option ((Ty.d aA) × Int × Unit)
def t (a0:Ty.d aA) (a1:ByteArray) (a2:ByteArray):Rs :=
 ((g9.f k a0 a1 a2).bind fun r1=>some r1.2.2)
def f:=t k
end kB
namespace cT
abbrev Rs:Type:=Option ((Ty.d an) × Unit)
def t (a0:Ty.d an) (a1:ByteArray) (a2:ByteArray):Rs :=
 (cond (a0.2.1==0) ((kB.f k a0.1 a1 a2).bind fun r1=>(az.f k a0 r1.1 r1.2.1).bind fun r2=>some r2) (some (a0,())))
def f:=t k
end cT
namespace dO
abbrev Rs:Type:=Option ((Ty.d an) × Unit)
def t (a0:Ty.d an) (a1:ByteArray) (a2:ByteArray):Rs :=
 ((ck.f k a0 a1).bind fun r1=>(cT.f k r1.1 a1 a2).bind fun r2=>(bL.f k r2.1 a1).bind fun r3=>some r3)
def f:=t k
end dO
namespace fo
abbrev Rs:Type:=Option ((Ty.d aA) × ByteArray × ByteArray × Int × Unit)
def t (a0:Ty.d aA) (a1:ByteArray) (a2:ByteArray):Rs :=
 ((bW.f k a0 a1).bind fun r1=>(eC.f k a2).bind fun r2=>cond (!r2.1) (some (a0,(a1,(a2,(5,()))))) (cond (decide (r1.1<0)) (some (a0,(a1,(a2,(3,()))))) (cD r1.1 (a0.1.length:Int) ((eG.f k a0 a1).bind fun r3=>(eG.f k r3.1 a2).bind fun r4=>(dJ.f k r4.1 (a2,(a0.1.getD r1.1.toNat (Ty.z aL)).2)).bind fun r5=>some (r5.1,(a1,(a2,(0,()))))))))
def f:=t k
end fo
namespace g8
abbrev Rs:Type:=Option (ByteArray × ByteArray × (Ty.d aA) × Int × Unit)
def t (a0:Ty.d aA) (a1:ByteArray) (a2:ByteArray):Rs :=
 ((bA.f k a0).bind fun r1=>(ay.f k a0).bind fun r2=>cond (!r2.1) (some (a1,(a2,(r1.1,(5,()))))) (cond a0.2.2.2.1 (some (a1,(a2,((r1.1.1,(r1.1.2.1,(r1.1.2.2.1,(true,())))),(1,()))))) (cond (a0.2.2.1==0) (some (a1,(a2,((r1.1.1,(r1.1.2.1,(r1.1.2.2.1,(true,())))),(1,()))))) (cond (decide (a0.2.2.1 > 0)) ((fo.f k (r1.1.1,(r1.1.2.1,((aQ (r1.1.2.2.1-1)),r1.1.2.2.2))) a1 a2).bind fun r3=>some (r3.2.1,(r3.2.2.1,(r3.1,r3.2.2.2)))) ((fo.f k r1.1 a1 a2).bind fun r4=>some (r4.2.1,(r4.2.2.1,(r4.1,r4.2.2.2))))))))
def f:=t k
end g8
namespace kC
abbrev Rs:Type:=Option ((Ty.d aA) × Int × Unit)
def t (a0:Ty.d aA) (a1:ByteArray) (a2:ByteArray):Rs :=
 ((g8.f k a0 a1 a2).bind fun r1=>some r1.2.2)
def f:=t k
end kC
namespace eR
abbrev Rs:Type:=Option ((Ty.d an) × Unit)
def t (a0:Ty.d an) (a1:ByteArray) (a2:ByteArray):Rs :=
 (cond (a0.2.1==0) ((kC.f k a0.1 a1 a2).bind fun r1=>(az.f k a0 r1.1 r1.2.1).bind fun r2=>some r2) (some (a0,())))
def f:=t k
end eR
namespace cG
abbrev Rs:Type:=Option ((Ty.d an) × Unit)
def t (a0:Ty.d an) (a1:Ty.d ch):Rs :=
 ((ib.f k a1).bind fun r1=>(dO.f k a0 (⟨#[116,101,109,112]⟩:ByteArray) r1.1).bind fun r2=>(eR.f k r2.1 (⟨#[116,101,109,112]⟩:ByteArray) (⟨#[108,105,118,101]⟩:ByteArray)).bind fun r3=>some r3)
def f:=t k
end cG
namespace fL
abbrev Rs:Type:=Option ((Ty.d an) × (Ty.d aD) × Unit)
def t (a0:Ty.d an):Rs :=
 ((ag.f k a0 (0,([],()))).bind fun r1=>(aj.f k 1).bind fun r2=>(dQ.f k r1.1 r2.1).bind fun r3=>(cG.f k r3.1 (2,([1],()))).bind fun r4=>some (r4.1,(((2,([1],())),([],(1,(0,(0,()))))),())))
def f:=t k
end fL
namespace mI
abbrev Rs:Type:=Option ((Ty.d aD) × (Ty.d aA) × Int × Unit)
def t (a0:Ty.d aA):Rs :=
 ((bA.f k a0).bind fun r1=>(ay.f k a0).bind fun r2=>cond (!r2.1) (some (((0,([],())),([],(0,(0,(0,()))))),(r1.1,(4,())))) (cond a0.2.2.2.1 (some (((0,([],())),([],(0,(0,(0,()))))),(r1.1,(1,())))) ((bq.f k a0 (⟨#[108,105,118,101]⟩:ByteArray)).bind fun r3=>cond r3.2.1 ((aR.f k (r1.1,(0,())) r3.1).bind fun r4=>cond (r4.1.2.1 != 0) (some (((0,([],())),([],(0,(0,(0,()))))),r4.1)) (some (r4.2.1,(r4.1.1,(0,()))))) ((fL.f k (r1.1,(0,()))).bind fun r5=>cond (r5.1.2.1 != 0) (some (((0,([],())),([],(0,(0,(0,()))))),r5.1)) (some (r5.2.1,(r5.1.1,(0,()))))))))
def f:=t k
end mI
namespace fK
abbrev Rs:Type:=Option ((Ty.d bO) × Int × Unit)
def t (a0:Ty.d aA):Rs :=
 ((mI.f k a0).bind fun r1=>u7 (Ty.bytes aK) 3 (some (((r1.2.2.1==0),(r1.1,(r1.2.1,((List.replicate (Int.toNat 3) (Ty.z aK)),())))),r1.2.2)))
def f:=t k
end fK
namespace dR
abbrev Rs:Type:=Option ((Ty.d ch) × Unit)
def t (k:Nat) (a0:Ty.d ch):Rs :=
 (rm (Ty.bytes (.int .i64)) (a0.2.1.length) (some (a0,())))
def f:=t k
end dR
namespace cM
abbrev Rs:Type:=Option ((Ty.d aD) × Unit)
def t (a0:Ty.d aD):Rs :=
 ((dR.f k a0.1).bind fun r1=>(cJ.f k a0.2.1).bind fun r2=>some ((r1.1,(r2.1,a0.2.2)),()))
def f:=t k
end cM
namespace ja
abbrev Rs:Type:=Option ((List (Ty.d aW)) × Unit)
def t (k:Nat) (a0:List (Ty.d aW)):Rs :=
 (rm (Ty.bytes aW) (a0.length) (some (a0,())))
def f:=t k
end ja
namespace dp
abbrev Rs:Type:=Option ((Ty.d aK) × Unit)
def t (a0:Ty.d aK):Rs :=
 (rm (Ty.bytes bF) (a0.2.1.length) ((ja.f k a0.2.2.1).bind fun r1=>some ((a0.1,(a0.2.1,r1)),())))
def f:=t k
end dp
namespace dx
abbrev Rs:Type:=Option ((List (Ty.d aK)) × Unit)
abbrev T0:Type:=List (Ty.d aK)→Int→Int→List (Ty.d aK)→Rs
def b0 (L0:T0):T0:=fun x0 x1 x2 x3 =>
 (cond (decide (x2<x1)) (cD x2 (x0.length:Int) ((dp.f k (x0.getD x2.toNat (Ty.z aK))).bind fun r1=>rm (Ty.bytes aK) (x3.length+1) (L0 x0 x1 (aQ (x2+1)) (x3++[r1.1])))) (some (x3,())))
def l0:Nat→T0
 | 0=>fun _ _ _ _=>none
 | n+1=>b0 k (l0 n)
def t (k:Nat) (L0:T0) (a0:List (Ty.d aK)):Rs :=
 (L0 a0 (a0.length:Int) 0 [])
def f:=t k (l0 k k)
end dx
namespace gm
abbrev Rs:Type:=Option ((Ty.d bO) × Unit)
def t (a0:Ty.d bO):Rs :=
 ((cM.f k a0.2.1).bind fun r1=>(bA.f k a0.2.2.1).bind fun r2=>(dx.f k a0.2.2.2.1).bind fun r3=>some ((a0.1,(r1.1,(r2.1,r3))),()))
def f:=t k
end gm
namespace fm
abbrev Rs:Type:=Option ((List (Ty.d aW)) × Unit)
abbrev T1:Type:=Int→List (Ty.d aW)→Int→Int→Int→Int→List (Ty.d aW)→ByteArray→Bool→ByteArray→Rs
abbrev T0:Type:=List (Ty.d aW)→Int→Int→List (Ty.d aW)→Rs
def b1 (k:Nat) (L0:T0) (L1:T1):T1:=fun x0 x1 x2 x3 x4 x5 x6 x7 x8 x9 =>
 (cond (decide (x5<x4)) (cD x5 (x6.length:Int) (cond (seq (x6.getD x5.toNat (Ty.z aW)).1 x7) (L1 x5 x1 x2 x3 x4 (aQ (x5+1)) x6 x7 x8 x9) (L1 x0 x1 x2 x3 x4 (aQ (x5+1)) x6 x7 x8 x9))) (cond (decide (x0≥0)) (cD x0 (x6.length:Int) (let l1:=(x6.set x0.toNat (x7,(x8,(x9,()))));(L0 x1 x2 (aQ (x3+1)) l1))) (rm (Ty.bytes aW) (x6.length+1) (L0 x1 x2 (aQ (x3+1)) (x6++[(x7,(x8,(x9,())))])))))
def l1 (L0:T0):Nat→T1
 | 0=>fun _ _ _ _ _ _ _ _ _ _=>none
 | n+1=>b1 k L0 (l1 L0 n)
def b0 (k:Nat) (L1:T1) (L0:T0):T0:=fun x0 x1 x2 x3 =>
 (cond (decide (x2<x1)) (cD x2 (x0.length:Int) (L1 (-1) x0 x1 x2 (x3.length:Int) 0 x3 (x0.getD x2.toNat (Ty.z aW)).1 (x0.getD x2.toNat (Ty.z aW)).2.1 (x0.getD x2.toNat (Ty.z aW)).2.2.1)) (some (x3,())))
def l0:Nat→T0
 | 0=>fun _ _ _ _=>none
 | n+1=>b0 k (l1 k (l0 n) k) (l0 n)
def t (k:Nat) (L0:T0) (a0:List (Ty.d aW)):Rs :=
 (L0 a0 (a0.length:Int) 0 [])
def f:=t k (l0 k k)
end fm
namespace dr
abbrev Rs:Type:=Option ((List (Ty.d aW)) × Unit)
def t (a0:Ty.d aK):Rs :=
 ((fm.f k a0.2.2.1).bind fun r1=>some r1)
def f:=t k
end dr
namespace kI
abbrev Rs:Type:=Option ((List (Ty.d aW)) × Unit)
def t (a0:Ty.d bO) (a1:Ty.d aC):Rs :=
 (cond (a1.1 != 5) (some ([],())) (cond (!a0.1) (some ([],())) ((ac.f k a1.2.1 0 (aQ ((a0.2.2.2.1.length:Int)-1))).bind fun r1=>cond (!r1.1) (some ([],())) (cD a1.2.1 (a0.2.2.2.1.length:Int) (cond (!(a0.2.2.2.1.getD a1.2.1.toNat (Ty.z aK)).1) (some ([],())) (cD a1.2.1 (a0.2.2.2.1.length:Int) ((dr.f k (a0.2.2.2.1.getD a1.2.1.toNat (Ty.z aK))).bind fun r2=>some r2)))))))
def f:=t k
end kI
namespace dq
abbrev Rs:Type:=Option ((List ByteArray) × Unit)
abbrev T0:Type:=List (Ty.d aB)→Int→Int→List ByteArray→Rs
def b0 (k:Nat) (L0:T0):T0:=fun x0 x1 x2 x3 =>
 (cond (decide (x2<x1)) (cD x2 (x0.length:Int) (rm (Ty.bytes .str) (x3.length+1) (L0 x0 x1 (aQ (x2+1)) (x3++[(x0.getD x2.toNat (Ty.z aB)).1])))) (some (x3,())))
def l0:Nat→T0
 | 0=>fun _ _ _ _=>none
 | n+1=>b0 k (l0 n)
def t (k:Nat) (L0:T0) (a0:List (Ty.d aB)):Rs :=
 (L0 a0 (a0.length:Int) 0 [])
def f:=t k (l0 k k)
end dq
namespace fD
abbrev Rs:Type:=Option ((Ty.d aB) × Bool × Unit)
abbrev T0:Type:=ByteArray→List (Ty.d aB)→Int→Int→ByteArray→Int→Int→Int→Int→Rs
def b0 (k:Nat) (L0:T0):T0:=fun x0 x1 x2 x3 x4 x5 x6 x7 x8 =>
 (cond (decide (x3<x2)) (cD x3 (x1.length:Int) (cond (seq (x1.getD x3.toNat (Ty.z aB)).1 x0) (some ((x1.getD x3.toNat (Ty.z aB)),(true,()))) (L0 x0 x1 x2 (aQ (x3+1)) x4 x5 x6 x7 x8))) (some ((ByteArray.empty,(0,(0,(0,(0,()))))),(false,()))))
def l0:Nat→T0
 | 0=>fun _ _ _ _ _ _ _ _ _=>none
 | n+1=>b0 k (l0 n)
def t (k:Nat) (L0:T0) (a0:List (Ty.d aB)) (a1:ByteArray):Rs :=
 (L0 a1 a0 (a0.length:Int) 0 ByteArray.empty 0 0 0 0)
def f:=t k (l0 k k)
end fD
namespace jc
abbrev Rs:Type:=Option ((Ty.d ba) × Bool × Unit)
def t (a0:ByteArray) (a1:Int) (a2:Int):Rs :=
 ((ac.f k a1 0 (a0.size:Int)).bind fun r1=>cond (!r1.1) (some ((0,(0,(ByteArray.empty,(ByteArray.empty,(0,(0,())))))),(false,()))) ((ac.f k a2 0 (aQ ((a0.size:Int)-a1))).bind fun r2=>cond (!r2.1) (some ((0,(0,(ByteArray.empty,(ByteArray.empty,(0,(0,())))))),(false,()))) (JI a1 (aQ (a1+a2)) (a0.size:Int) ((dm.f k (a0.extract a1.toNat (aQ (a1+a2)).toNat)).bind fun r3=>cond (r3.2.1==0) (some ((0,(0,(ByteArray.empty,(ByteArray.empty,(0,(0,())))))),(false,()))) (cond (r3.2.1 != a2) (some ((0,(0,(ByteArray.empty,(ByteArray.empty,(0,(0,())))))),(false,()))) ((d_.f k r3.1).bind fun r4=>some r4))))))
def f:=t k
end jc
namespace ll
abbrev Rs:Type:=Option ((Ty.d aL) × Int × Unit)
def t (a0:Ty.d aD) (a1:Ty.d aA) (a2:ByteArray):Rs :=
 ((fD.f k a0.2.1 a2).bind fun r1=>cond (!r1.2.1) (some ((ByteArray.empty,(ByteArray.empty,(0,()))),(8,()))) ((aj.f k r1.1.2.1).bind fun r2=>(bq.f k a1 r2.1).bind fun r3=>(jc.f k r3.1 r1.1.2.2.1 r1.1.2.2.2.1).bind fun r4=>cond (!r4.2.1) (some ((ByteArray.empty,(ByteArray.empty,(0,()))),(3,()))) (cond (r4.1.1 != 1) (cond (r4.1.1 != 4) (some ((ByteArray.empty,(ByteArray.empty,(0,()))),(3,()))) (cond (!(seq r4.1.2.2.1 a2)) (some ((ByteArray.empty,(ByteArray.empty,(0,()))),(3,()))) (some ((r4.1.2.2.1,(r4.1.2.2.2.1,(r4.1.2.1,()))),(0,()))))) (cond (!(seq r4.1.2.2.1 a2)) (some ((ByteArray.empty,(ByteArray.empty,(0,()))),(3,()))) (some ((r4.1.2.2.1,(r4.1.2.2.2.1,(r4.1.2.1,()))),(0,())))))))
def f:=t k
end ll
namespace ir
abbrev Rs:Type:=Option ((List (Ty.d aL)) × Int × Unit)
abbrev T0:Type:=Int→Int→Int→List Int→List (Ty.d aB)→Int→Int→Int→List (Ty.d aL)→Int→Int→Bool→List (Ty.d aL)→List ByteArray→Rs
def b0 (L0:T0):T0:=fun x0 x1 x2 x3 x4 x5 x6 x7 x8 x9 x10 x11 x12 x13 =>
 (cond (decide (x1<x0)) (cD x1 (x13.length:Int) ((ll.f k ((x2,(x3,())),(x4,(x5,(x6,(x7,()))))) (x8,(x9,(x10,(x11,())))) (x13.getD x1.toNat (Ty.z .str))).bind fun r2=>cond (r2.2.1 != 0) (some ([],r2.2)) (rm (Ty.bytes aL) (x12.length+1) (L0 x0 (aQ (x1+1)) x2 x3 x4 x5 x6 x7 x8 x9 x10 x11 (x12++[r2.1]) x13)))) (some (x12,(0,()))))
def l0:Nat→T0
 | 0=>fun _ _ _ _ _ _ _ _ _ _ _ _ _ _=>none
 | n+1=>b0 k (l0 n)
def t (L0:T0) (a0:Ty.d aD) (a1:Ty.d aA):Rs :=
 ((dq.f k a0.2.1).bind fun r1=>L0 (r1.1.length:Int) 0 a0.1.1 a0.1.2.1 a0.2.1 a0.2.2.1 a0.2.2.2.1 a0.2.2.2.2.1 a1.1 a1.2.1 a1.2.2.1 a1.2.2.2.1 [] r1.1)
def f:=t k (l0 k k)
end ir
namespace cW
abbrev Rs:Type:=Option (Bool × Unit)
abbrev T1:Type:=List (Ty.d aB)→Int→Int→Int→List Int→List (Ty.d aB)→Int→Int→Int→List (Ty.d aL)→Int→Int→Bool→Rs
abbrev T0:Type:=List Int→Int→Int→Int→List Int→List (Ty.d aB)→Int→Int→Int→List (Ty.d aL)→Int→Int→Bool→Rs
def b1 (L1:T1):T1:=fun x0 x1 x2 x3 x4 x5 x6 x7 x8 x9 x10 x11 x12 =>
 (cond (decide (x2<x1)) (cD x2 (x0.length:Int) ((aj.f k (x0.getD x2.toNat (Ty.z aB)).2.1).bind fun r8=>(bq.f k (x9,(x10,(x11,(x12,())))) r8.1).bind fun r9=>(jc.f k r9.1 (x0.getD x2.toNat (Ty.z aB)).2.2.1 (x0.getD x2.toNat (Ty.z aB)).2.2.2.1).bind fun r10=>cond (!r10.2.1) (some (false,())) (cond (r10.1.1 != 1) (cond (r10.1.1 != 4) (some (false,())) (cond (!(seq r10.1.2.2.1 (x0.getD x2.toNat (Ty.z aB)).1)) (some (false,())) (cond (r10.1.2.1 != (x0.getD x2.toNat (Ty.z aB)).2.2.2.2.1) (some (false,())) (cond (decide ((x0.getD x2.toNat (Ty.z aB)).2.2.2.2.1≥x6)) (some (false,())) (L1 x0 x1 (aQ (x2+1)) x3 x4 x5 x6 x7 x8 x9 x10 x11 x12))))) (cond (!(seq r10.1.2.2.1 (x0.getD x2.toNat (Ty.z aB)).1)) (some (false,())) (cond (r10.1.2.1 != (x0.getD x2.toNat (Ty.z aB)).2.2.2.2.1) (some (false,())) (cond (decide ((x0.getD x2.toNat (Ty.z aB)).2.2.2.2.1≥x6)) (some (false,())) (L1 x0 x1 (aQ (x2+1)) x3 x4 x5 x6 x7 x8 x9 x10 x11 x12))))))) (some (true,())))
def l1:Nat→T1
 | 0=>fun _ _ _ _ _ _ _ _ _ _ _ _ _=>none
 | n+1=>b1 k (l1 n)
def b0 (L1:T1) (L0:T0):T0:=fun x0 x1 x2 x3 x4 x5 x6 x7 x8 x9 x10 x11 x12 =>
 (cond (decide (x2<x1)) (cD x2 (x0.length:Int) ((aj.f k (x0.getD x2.toNat (Ty.z (.int .i64)))).bind fun r5=>(bq.f k (x9,(x10,(x11,(x12,())))) r5.1).bind fun r6=>(dD.f k r6.1).bind fun r7=>cond (!r6.2.1) (some (false,())) (cond (r7.2.1 != (r6.1.size:Int)) (some (false,())) (cond (x2==(aQ ((x4.length:Int)-1))) (cond (x7 != r7.2.1) (some (false,())) (L0 x0 x1 (aQ (x2+1)) x3 x4 x5 x6 x7 x8 x9 x10 x11 x12)) (L0 x0 x1 (aQ (x2+1)) x3 x4 x5 x6 x7 x8 x9 x10 x11 x12))))) (L1 x5 (x5.length:Int) 0 x3 x4 x5 x6 x7 x8 x9 x10 x11 x12))
def l0:Nat→T0
 | 0=>fun _ _ _ _ _ _ _ _ _ _ _ _ _=>none
 | n+1=>b0 k (l1 k k) (l0 n)
def t (L0:T0) (a0:Ty.d aD) (a1:Ty.d aA):Rs :=
 ((ay.f k a1).bind fun r1=>cond (!r1.1) (some (false,())) ((dE.f k a0.1).bind fun r2=>cond (!r2.1) (some (false,())) ((eD.f k a0.2.1).bind fun r3=>cond (!r3.1) (some (false,())) ((ac.f k a0.2.2.1 1 1000001).bind fun r4=>cond (!r4.1) (some (false,())) (L0 a0.1.2.1 (a0.1.2.1.length:Int) 0 a0.1.1 a0.1.2.1 a0.2.1 a0.2.2.1 a0.2.2.2.1 a0.2.2.2.2.1 a1.1 a1.2.1 a1.2.2.1 a1.2.2.2.1)))))
def f:=t k (l0 k k)
end cW
namespace i8
abbrev Rs:Type:=Option ((List (Ty.d ba)) × Unit)
abbrev T0:Type:=List (Ty.d aL)→Int→List (Ty.d aL)→Int→Int→List (Ty.d ba)→Rs
def b0 (L0:T0):T0:=fun x0 x1 x2 x3 x4 x5 =>
 (cond (decide (x4<x3)) (cD x4 (x2.length:Int) (rm (Ty.bytes ba) (x5.length+1) (L0 x0 x1 x2 x3 (aQ (x4+1)) (x5++[(4,((x2.getD x4.toNat (Ty.z aL)).2.2.1,((x2.getD x4.toNat (Ty.z aL)).1,((x2.getD x4.toNat (Ty.z aL)).2.1,(0,(0,()))))))])))) ((gC.f k x5).bind fun r1=>rm (Ty.bytes ba) (x5.length+1) (some ((x5++[(5,(x1,(ByteArray.empty,(ByteArray.empty,((x0.length:Int),r1)))))]),()))))
def l0:Nat→T0
 | 0=>fun _ _ _ _ _ _=>none
 | n+1=>b0 k (l0 n)
def t (k:Nat) (L0:T0) (a0:List (Ty.d aL)) (a1:Int):Rs :=
 (L0 a0 a1 a0 (a0.length:Int) 0 [])
def f:=t k (l0 k k)
end i8
namespace bC
abbrev Rs:Type:=Option ((Ty.d an) × (List (Ty.d aB)) × Unit)
abbrev T0:Type:=Int→Int→List (Ty.d ba)→Int→Int→List (Ty.d aL)→Int→Int→Bool→Int→List (Ty.d aB)→Rs
def b0 (L0:T0):T0:=fun x0 x1 x2 x3 x4 x5 x6 x7 x8 x9 x10 =>
 (cond (decide (x4<x3)) (cD x4 (x2.length:Int) ((fw.f k (x2.getD x4.toNat (Ty.z ba))).bind fun r3=>(gY.f k r3.1).bind fun r4=>(aj.f k x0).bind fun r5=>(cT.f k ((x5,(x6,(x7,(x8,())))),(x9,())) r5.1 r4.1).bind fun r6=>cond ((x2.getD x4.toNat (Ty.z ba)).1==4) (rm (Ty.bytes aB) (x10.length+1) (L0 x0 (aQ (x1+(r4.1.size:Int))) x2 x3 (aQ (x4+1)) r6.1.1.1 r6.1.1.2.1 r6.1.1.2.2.1 r6.1.1.2.2.2.1 r6.1.2.1 (x10++[((x2.getD x4.toNat (Ty.z ba)).2.2.1,(x0,(x1,((r4.1.size:Int),((x2.getD x4.toNat (Ty.z ba)).2.1,())))))]))) (L0 x0 (aQ (x1+(r4.1.size:Int))) x2 x3 (aQ (x4+1)) r6.1.1.1 r6.1.1.2.1 r6.1.1.2.2.1 r6.1.1.2.2.2.1 r6.1.2.1 x10))) ((aj.f k x0).bind fun r7=>(bL.f k ((x5,(x6,(x7,(x8,())))),(x9,())) r7.1).bind fun r8=>(aj.f k (aQ (x0+1))).bind fun r9=>(ck.f k r8.1 r9.1).bind fun r10=>some (r10.1,(x10,()))))
def l0:Nat→T0
 | 0=>fun _ _ _ _ _ _ _ _ _ _ _=>none
 | n+1=>b0 k (l0 n)
def t (L0:T0) (a0:Ty.d an) (a1:Int) (a2:List (Ty.d ba)):Rs :=
 ((aj.f k a1).bind fun r1=>(ck.f k a0 r1.1).bind fun r2=>L0 a1 0 a2 (a2.length:Int) 0 r2.1.1.1 r2.1.1.2.1 r2.1.1.2.2.1 r2.1.1.2.2.2.1 r2.1.2.1 [])
def f:=t k (l0 k k)
end bC
namespace dZ
abbrev Rs:Type:=Option ((Ty.d an) × Unit)
def t (a0:Ty.d an) (a1:Int):Rs :=
 (cond (a0.2.1 != 0) (some (a0,())) ((aj.f k a1).bind fun r1=>(bq.f k a0.1 r1.1).bind fun r2=>(dy.f k a1 r2.1).bind fun r3=>(dP.f k a1).bind fun r4=>(dA.f k r3.1).bind fun r5=>(dO.f k a0 r4.1 r5.1).bind fun r6=>cond (r6.1.2.1==2) ((dP.f k a1).bind fun r7=>(bD.f k (r6.1.1,(0,())) r7.1).bind fun r8=>some r8) (some r6)))
def f:=t k
end dZ
namespace ae
abbrev Rs:Type:=Option ((Ty.d an) × Unit)
abbrev T1:Type:=List ByteArray→Int→Int→Int→Int→Bool→Int→List (Ty.d aL)→Int→Int→Bool→Int→Rs
abbrev T0:Type:=List ByteArray→Int→Int→List (Ty.d aL)→Int→Int→Bool→Int→Int→Int→Bool→Int→Rs
def b1 (L1:T1):T1:=fun x0 x1 x2 x3 x4 x5 x6 x7 x8 x9 x10 x11 =>
 (cond (decide (x2<x1)) (cD x2 (x0.length:Int) ((bD.f k ((x7,(x8,(x9,(x10,())))),(x11,())) (x0.getD x2.toNat (Ty.z .str))).bind fun r2=>L1 x0 x1 (aQ (x2+1)) x3 x4 x5 x6 r2.1.1.1 r2.1.1.2.1 r2.1.1.2.2.1 r2.1.1.2.2.2.1 r2.1.2.1)) (cond (x11 != 0) (some (((x7,(x8,(x9,(x10,())))),(x11,())),())) (some (((x7,(x8,(x9,(x10,())))),(x6,())),()))))
def l1:Nat→T1
 | 0=>fun _ _ _ _ _ _ _ _ _ _ _ _=>none
 | n+1=>b1 k (l1 n)
def b0 (L1:T1):T0:=fun x0 x1 x2 x3 x4 x5 x6 x7 x8 x9 x10 x11 =>
 (cond (decide (x2<x1)) (cD x2 (x0.length:Int) ((bD.f k ((x3,(x8,(x9,(x10,())))),(x11,())) (x0.getD x2.toNat (Ty.z .str))).bind fun r1=>L1 x0 x1 (aQ (x2+1)) x4 x5 x6 x7 r1.1.1.1 r1.1.1.2.1 r1.1.1.2.2.1 r1.1.1.2.2.2.1 r1.1.2.1)) (cond (x11 != 0) (some (((x3,(x8,(x9,(x10,())))),(x11,())),())) (some (((x3,(x8,(x9,(x10,())))),(x7,())),()))))
def l0:Nat→T0
 | 0=>fun _ _ _ _ _ _ _ _ _ _ _ _=>none
 | n+1=>b0 k (l1 k n)
def t (k:Nat) (L0:T0) (a0:Ty.d an) (a1:List ByteArray):Rs :=
 (cond (a0.2.1 != 2) (some (a0,())) (L0 a1 (a1.length:Int) 0 a0.1.1 a0.1.2.1 a0.1.2.2.1 a0.1.2.2.2.1 a0.2.1 a0.1.2.1 a0.1.2.2.1 a0.1.2.2.2.1 0))
def f:=t k (l0 k k)
end ae
namespace cQ
abbrev Rs:Type:=Option ((Ty.d aD) × (Ty.d an) × Unit)
abbrev T0:Type:=Int→Int→List Int→List (Ty.d aB)→Int→Int→Int→Int→List (Ty.d aL)→Int→Int→Bool→Int→List Int→Rs
def b0 (L0:T0):T0:=fun x0 x1 x2 x3 x4 x5 x6 x7 x8 x9 x10 x11 x12 x13 =>
 (cond (decide (x1<x0)) (cD x1 (x13.length:Int) ((aj.f k (x13.getD x1.toNat (Ty.z (.int .i64)))).bind fun r9=>(bD.f k ((x8,(x9,(x10,(x11,())))),(x12,())) r9.1).bind fun r10=>(dP.f k (x13.getD x1.toNat (Ty.z (.int .i64)))).bind fun r11=>(bD.f k r10.1 r11.1).bind fun r12=>L0 x0 (aQ (x1+1)) x2 x3 x4 x5 x6 x7 r12.1.1.1 r12.1.1.2.1 r12.1.1.2.2.1 r12.1.1.2.2.2.1 r12.1.2.1 x13)) (some (((x4,(x2,())),(x3,(x5,(x6,(x7,()))))),(((x8,(x9,(x10,(x11,())))),(x12,())),()))))
def l0:Nat→T0
 | 0=>fun _ _ _ _ _ _ _ _ _ _ _ _ _ _=>none
 | n+1=>b0 k (l0 n)
def t (L0:T0) (a0:Ty.d aD) (a1:Ty.d an) (a2:List (Ty.d aL)):Rs :=
 ((i8.f k a2 (aQ (a0.2.2.1-1))).bind fun r1=>(bC.f k a1 a0.1.1 r1.1).bind fun r2=>(dZ.f k r2.1 a0.1.1).bind fun r3=>cond (r3.1.2.1==0) ((cG.f k r3.1 ((aQ (a0.1.1+2)),([a0.1.1,(aQ (a0.1.1+1))],()))).bind fun r4=>cond (r4.1.2.1 != 0) ((aj.f k a0.1.1).bind fun r5=>(aj.f k (aQ (a0.1.1+1))).bind fun r6=>(dP.f k a0.1.1).bind fun r7=>(ae.f k r4.1 [(⟨#[116,101,109,112]⟩:ByteArray),r5.1,r6.1,r7.1]).bind fun r8=>some ((((aQ (a0.1.1+2)),a0.1.2),a0.2),r8)) (L0 (a0.1.2.1.length:Int) 0 [a0.1.1,(aQ (a0.1.1+1))] r2.2.1 (aQ (a0.1.1+2)) a0.2.2.1 0 0 r4.1.1.1 r4.1.1.2.1 r4.1.1.2.2.1 r4.1.1.2.2.2.1 r4.1.2.1 a0.1.2.1)) (cond (r3.1.2.1 != 0) ((aj.f k a0.1.1).bind fun r13=>(aj.f k (aQ (a0.1.1+1))).bind fun r14=>(dP.f k a0.1.1).bind fun r15=>(ae.f k r3.1 [(⟨#[116,101,109,112]⟩:ByteArray),r13.1,r14.1,r15.1]).bind fun r16=>some ((((aQ (a0.1.1+2)),a0.1.2),a0.2),r16)) (L0 (a0.1.2.1.length:Int) 0 [a0.1.1,(aQ (a0.1.1+1))] r2.2.1 (aQ (a0.1.1+2)) a0.2.2.1 0 0 r3.1.1.1 r3.1.1.2.1 r3.1.1.2.2.1 r3.1.1.2.2.2.1 r3.1.2.1 a0.1.2.1)))
def f:=t k (l0 k k)
end cQ
namespace kF
abbrev Rs:Type:=Option ((Ty.d aD) × (Ty.d aA) × Int × Unit)
def t (a0:Ty.d aD) (a1:Ty.d aA):Rs :=
 ((cM.f k a0).bind fun r1=>(bA.f k a1).bind fun r2=>(ir.f k a0 a1).bind fun r3=>(cW.f k a0 a1).bind fun r4=>cond (!r4.1) (some (r1.1,(r2.1,(4,())))) (cond (decide ((aQ (a0.1.1+2)) > 100000)) (some (r1.1,(r2.1,(5,())))) (cond (r3.2.1 != 0) (some (r1.1,(r2.1,r3.2))) ((cQ.f k r1.1 (r2.1,(0,())) r3.1).bind fun r5=>some (r5.1,r5.2.1)))))
def f:=t k
end kF
namespace kK
abbrev Rs:Type:=Option (Bool × Unit)
def t (a0:List (Ty.d aK)) (a1:Ty.d aC):Rs :=
 ((ac.f k a1.1 1 6).bind fun r1=>cond r1.1 ((ac.f k a1.2.1 0 (aQ ((a0.length:Int)-1))).bind fun r2=>cond r2.1 (cD a1.2.1 (a0.length:Int) (some (((a0.getD a1.2.1.toNat (Ty.z aK)).1==(a1.1 != 1)),()))) (some (false,()))) (some (false,())))
def f:=t k
end kK
namespace eM
abbrev Rs:Type:=Option ((Ty.d aW) × Bool × Unit)
abbrev T0:Type:=ByteArray→Int→Bool→List (Ty.d bF)→List (Ty.d aW)→ByteArray→Bool→ByteArray→Rs
def b0 (k:Nat) (L0:T0):T0:=fun x0 x1 x2 x3 x4 x5 x6 x7 =>
 (cond (decide (x1≥0)) (cD x1 (x4.length:Int) (cond (seq (x4.getD x1.toNat (Ty.z aW)).1 x0) (cD x1 (x4.length:Int) (some ((x4.getD x1.toNat (Ty.z aW)),(true,())))) (L0 x0 (aQ (x1-1)) x2 x3 x4 x5 x6 x7))) (some ((ByteArray.empty,(false,(ByteArray.empty,()))),(false,()))))
def l0:Nat→T0
 | 0=>fun _ _ _ _ _ _ _ _=>none
 | n+1=>b0 k (l0 n)
def t (k:Nat) (L0:T0) (a0:Ty.d aK) (a1:ByteArray):Rs :=
 (L0 a1 (aQ ((a0.2.2.1.length:Int)-1)) a0.1 a0.2.1 a0.2.2.1 ByteArray.empty false ByteArray.empty)
def f:=t k (l0 k k)
end eM
namespace oz
abbrev Rs:Type:=Option ((Ty.d aG) × Bool × Unit)
def t (a0:Ty.d aK) (a1:ByteArray):Rs :=
 ((eM.f k a0 a1).bind fun r1=>cond (!r1.2.1) (some ((0,(ByteArray.empty,([],()))),(false,()))) (cond r1.1.2.1 (some ((8,(ByteArray.empty,([],()))),(true,()))) (some ((0,(r1.1.2.2.1,([],()))),(true,())))))
def f:=t k
end oz
namespace fS
abbrev Rs:Type:=Option ((Ty.d aK) × Int × Unit)
abbrev T0:Type:=ByteArray→Int→Bool→List (Ty.d bF)→Int→Int→Bool→List (Ty.d bF)→List (Ty.d aW)→List (Ty.d bF)→List (Ty.d aW)→Bool→List (Ty.d bF)→List (Ty.d aW)→Bool→Rs
def b0 (k:Nat) (L0:T0):T0:=fun x0 x1 x2 x3 x4 x5 x6 x7 x8 x9 x10 x11 x12 x13 x14 =>
 (cond (decide (x5<x4)) (cD x5 (x3.length:Int) (cond (!(seq (x3.getD x5.toNat (Ty.z bF)).1 x0)) (L0 x0 x1 x2 x3 x4 (aQ (x5+1)) x6 x7 x8 x9 x10 x11 x12 x13 x14) (cond ((x3.getD x5.toNat (Ty.z bF)).2.1 != x1) (some ((x14,(x12,(x13,()))),(7,()))) (L0 x0 x1 true x3 x4 (aQ (x5+1)) x6 x7 x8 x9 x10 x11 x12 x13 x14)))) (cond x2 (some ((x14,(x12,(x13,()))),(0,()))) (cond (decide ((x7.length:Int)≥20)) (some ((x14,(x12,(x13,()))),(5,()))) (rm (Ty.bytes bF) (x12.length+1) (some ((x14,((x12++[(x0,(x1,()))]),(x13,()))),(0,())))))))
def l0:Nat→T0
 | 0=>fun _ _ _ _ _ _ _ _ _ _ _ _ _ _ _=>none
 | n+1=>b0 k (l0 n)
def t (L0:T0) (a0:Ty.d aK) (a1:ByteArray) (a2:Int):Rs :=
 ((dp.f k a0).bind fun r1=>cond (!a0.1) (some (r1.1,(4,()))) ((df.f k a1).bind fun r2=>cond (!r2.1) (some (r1.1,(4,()))) (L0 a1 a2 false a0.2.1 (a0.2.1.length:Int) 0 a0.1 a0.2.1 a0.2.2.1 [] [] false r1.1.2.1 r1.1.2.2.1 r1.1.1)))
def f:=t k (l0 k k)
end fS
namespace n9
abbrev Rs:Type:=Option ((Ty.d aK) × (Ty.d aG) × Unit)
def t (a0:Ty.d aK) (a1:ByteArray) (a2:Ty.d aL) (a3:Int):Rs :=
 ((fS.f k a0 a1 a2.2.2.1).bind fun r1=>cond (r1.2.1 != 0) (some (r1.1,((r1.2.1,(ByteArray.empty,([],()))),()))) (some (r1.1,((a3,(a2.2.1,([],()))),()))))
def f:=t k
end n9
namespace cY
abbrev Rs:Type:=Option ((Ty.d gN) × (Ty.d aG) × Unit)
def t (a0:Ty.d gN) (a1:Ty.d aC):Rs :=
 (cD a1.2.1 (a0.1.2.2.2.1.length:Int) ((df.f k a1.2.2.1).bind fun r1=>cond (!r1.1) (some (a0,((4,(ByteArray.empty,([],()))),()))) ((oz.f k (a0.1.2.2.2.1.getD a1.2.1.toNat (Ty.z aK)) a1.2.2.1).bind fun r2=>cond r2.2.1 (some (a0,(r2.1,()))) ((ll.f k a0.1.2.1 a0.1.2.2.1 a1.2.2.1).bind fun r3=>cond (r3.2.1==3) (some (a0,((r3.2.1,(ByteArray.empty,([],()))),()))) ((n9.f k (a0.1.2.2.2.1.getD a1.2.1.toNat (Ty.z aK)) a1.2.2.1 r3.1 r3.2.1).bind fun r4=>let l5:=(a0.1.2.2.2.1.set a1.2.1.toNat r4.1);(some (((a0.1.1,(a0.1.2.1,(a0.1.2.2.1,(l5,())))),a0.2),r4.2)))))))
def f:=t k
end cY
namespace fa
abbrev Rs:Type:=Option (Bool × Unit)
def t (a0:Ty.d aW):Rs :=
 ((df.f k a0.1).bind fun r1=>cond r1.1 (cond (decide ((a0.2.2.1.size:Int)≤24)) (cond (!a0.2.1) (some (true,())) (some ((seq a0.2.2.1 (⟨#[]⟩:ByteArray)),()))) (some (false,()))) (some (false,())))
def f:=t k
end fa
namespace ig
abbrev Rs:Type:=Option ((Ty.d aK) × Bool × Unit)
def t (a0:Ty.d aK) (a1:Ty.d aW):Rs :=
 ((dp.f k a0).bind fun r1=>rm (Ty.bytes aW) (r1.1.2.2.1.length+1) (cond (!a0.1) ((dp.f k a0).bind fun r2=>some (r2.1,(false,()))) ((fa.f k a1).bind fun r3=>cond (!r3.1) ((dp.f k a0).bind fun r4=>some (r4.1,(false,()))) ((dr.f k (r1.1.1,(r1.1.2.1,((r1.1.2.2.1++[a1]),())))).bind fun r5=>cond (decide ((r5.1.length:Int) > 8)) ((dp.f k a0).bind fun r6=>some (r6.1,(false,()))) (cond (decide ((List.length (r1.1.2.2.1++[a1]):Int) > 50)) ((dp.f k a0).bind fun r7=>some (r7.1,(false,()))) (some ((r1.1.1,(r1.1.2.1,((r1.1.2.2.1++[a1]),()))),(true,()))))))))
def f:=t k
end ig
namespace kL
abbrev Rs:Type:=Option ((Ty.d aK) × (Ty.d aG) × Unit)
def t (a0:Ty.d aK) (a1:Ty.d aC):Rs :=
 ((ig.f k a0 (a1.2.2.1,((a1.1==4),(a1.2.2.2.1,())))).bind fun r1=>(fa.f k (a1.2.2.1,((a1.1==4),(a1.2.2.2.1,())))).bind fun r2=>cond (!r2.1) (some (r1.1,((4,(ByteArray.empty,([],()))),()))) (cond (!r1.2.1) (some (r1.1,((5,(ByteArray.empty,([],()))),()))) (some (r1.1,((0,(ByteArray.empty,([],()))),())))))
def f:=t k
end kL
namespace gf
abbrev Rs:Type:=Option (Bool × Unit)
abbrev T0:Type:=List (Ty.d aB)→List (Ty.d bF)→Int→Int→Rs
def b0 (L0:T0):T0:=fun x0 x1 x2 x3 =>
 (cond (decide (x3<x2)) (cD x3 (x1.length:Int) ((fD.f k x0 (x1.getD x3.toNat (Ty.z bF)).1).bind fun r1=>cond (r1.1.2.2.2.2.1 != (x1.getD x3.toNat (Ty.z bF)).2.1) (some (false,())) (L0 x0 x1 x2 (aQ (x3+1))))) (some (true,())))
def l0:Nat→T0
 | 0=>fun _ _ _ _=>none
 | n+1=>b0 k (l0 n)
def t (k:Nat) (L0:T0) (a0:Ty.d aK) (a1:List (Ty.d aB)):Rs :=
 (L0 a1 a0.2.1 (a0.2.1.length:Int) 0)
def f:=t k (l0 k k)
end gf
namespace fG
abbrev Rs:Type:=Option (Bool × Unit)
abbrev T0:Type:=List (Ty.d aW)→List (Ty.d aW)→Int→Int→Rs
def b0 (L0:T0):T0:=fun x0 x1 x2 x3 =>
 (cond (decide (x3<x2)) (cD x3 (x1.length:Int) ((fa.f k (x1.getD x3.toNat (Ty.z aW))).bind fun r1=>cond (!r1.1) (some (false,())) (L0 x0 x1 x2 (aQ (x3+1))))) (some ((decide ((x0.length:Int)≤8)),())))
def l0:Nat→T0
 | 0=>fun _ _ _ _=>none
 | n+1=>b0 k (l0 n)
def t (k:Nat) (L0:T0) (a0:List (Ty.d aW)):Rs :=
 (L0 a0 a0 (a0.length:Int) 0)
def f:=t k (l0 k k)
end fG
namespace fz
abbrev Rs:Type:=Option ((List (Ty.d aB)) × Unit)
abbrev T1:Type:=List (Ty.d aB)→List (Ty.d aW)→Int→Int→List (Ty.d aB)→Rs
abbrev T0:Type:=List (Ty.d aB)→List (Ty.d aB)→List (Ty.d aW)→Int→Int→Rs
def b1 (L1:T1):T1:=fun x0 x1 x2 x3 x4 =>
 (cond (decide (x3<x2)) (cD x3 (x1.length:Int) (cond (x1.getD x3.toNat (Ty.z aW)).2.1 ((cB.f k x4 (x1.getD x3.toNat (Ty.z aW)).1).bind fun r2=>L1 x0 x1 x2 (aQ (x3+1)) r2.1) (cD x3 (x0.length:Int) ((dC.f k x4 (x0.getD x3.toNat (Ty.z aB))).bind fun r3=>L1 x0 x1 x2 (aQ (x3+1)) r3.1)))) (some (x4,())))
def l1:Nat→T1
 | 0=>fun _ _ _ _ _=>none
 | n+1=>b1 k (l1 n)
def b0 (L1:T1):T0:=fun x0 x1 x2 x3 x4 =>
 (cond (decide (x4<x3)) (cD x4 (x2.length:Int) (cond (x2.getD x4.toNat (Ty.z aW)).2.1 ((cB.f k x0 (x2.getD x4.toNat (Ty.z aW)).1).bind fun r1=>L1 x1 x2 x3 (aQ (x4+1)) r1.1) (cD x4 (x1.length:Int) ((dC.f k x0 (x1.getD x4.toNat (Ty.z aB))).bind fun r4=>L1 x1 x2 x3 (aQ (x4+1)) r4.1)))) (some (x0,())))
def l0:Nat→T0
 | 0=>fun _ _ _ _ _=>none
 | n+1=>b0 k (l1 k n)
def t (k:Nat) (L0:T0) (a0:List (Ty.d aB)) (a1:List (Ty.d aW)) (a2:List (Ty.d aB)):Rs :=
 (L0 a0 a2 a1 (a1.length:Int) 0)
def f:=t k (l0 k k)
end fz
namespace eP
abbrev Rs:Type:=Option (Int × Unit)
abbrev T0:Type:=List (Ty.d aB)→List (Ty.d aW)→List (Ty.d aW)→Int→Int→List (Ty.d aB)→Rs
def b0 (L0:T0):T0:=fun x0 x1 x2 x3 x4 x5 =>
 (cond (decide (x4<x3)) (cD x4 (x2.length:Int) (rm (Ty.bytes aB) (x5.length+1) (L0 x0 x1 x2 x3 (aQ (x4+1)) (x5++[((x2.getD x4.toNat (Ty.z aW)).1,(0,(0,(0,(0,())))))])))) ((fz.f k x0 x1 x5).bind fun r1=>some ((r1.1.length:Int),())))
def l0:Nat→T0
 | 0=>fun _ _ _ _ _ _=>none
 | n+1=>b0 k (l0 n)
def t (k:Nat) (L0:T0) (a0:List (Ty.d aB)) (a1:List (Ty.d aW)):Rs :=
 (L0 a0 a1 a1 (a1.length:Int) 0 [])
def f:=t k (l0 k k)
end eP
namespace dw
abbrev Rs:Type:=Option ((List (Ty.d ba)) × Unit)
abbrev T0:Type:=List (Ty.d aW)→Int→List (Ty.d aW)→Int→Int→List (Ty.d ba)→Rs
def b0 (L0:T0):T0:=fun x0 x1 x2 x3 x4 x5 =>
 (cond (decide (x4<x3)) (cD x4 (x2.length:Int) (cond (x2.getD x4.toNat (Ty.z aW)).2.1 (rm (Ty.bytes ba) (x5.length+1) (L0 x0 x1 x2 x3 (aQ (x4+1)) (x5++[(2,(x1,((x2.getD x4.toNat (Ty.z aW)).1,(ByteArray.empty,(0,(0,()))))))]))) (rm (Ty.bytes ba) (x5.length+1) (L0 x0 x1 x2 x3 (aQ (x4+1)) (x5++[(1,(x1,((x2.getD x4.toNat (Ty.z aW)).1,((x2.getD x4.toNat (Ty.z aW)).2.2.1,(0,(0,()))))))]))))) ((gC.f k x5).bind fun r1=>rm (Ty.bytes ba) (x5.length+1) (some ((x5++[(3,(x1,(ByteArray.empty,(ByteArray.empty,((x0.length:Int),r1)))))]),()))))
def l0:Nat→T0
 | 0=>fun _ _ _ _ _ _=>none
 | n+1=>b0 k (l0 n)
def t (k:Nat) (L0:T0) (a0:List (Ty.d aW)) (a1:Int):Rs :=
 (L0 a0 a1 a0 (a0.length:Int) 0 [])
def f:=t k (l0 k k)
end dw
namespace bn
abbrev Rs:Type:=Option ((Ty.d aD) × ByteArray × Unit)
def t (a0:Ty.d aD):Rs :=
 (cD (aQ ((a0.1.2.1.length:Int)-1)) (a0.1.2.1.length:Int) ((aj.f k (a0.1.2.1.getD (aQ ((a0.1.2.1.length:Int)-1)).toNat (Ty.z (.int .i64)))).bind fun r1=>some (a0,r1)))
def f:=t k
end bn
namespace fA
abbrev Rs:Type:=Option ((Ty.d aD) × (Ty.d an) × Unit)
def t (a0:Ty.d aD) (a1:Ty.d an):Rs :=
 (cond (decide ((a0.1.2.1.length:Int)≥60)) (some (a0,((a1.1,(5,())),()))) (cond (decide (a0.1.1≥100000)) (some (a0,((a1.1,(5,())),()))) ((bn.f k a0).bind fun r1=>(bL.f k a1 r1.2.1).bind fun r2=>cond (r2.1.2.1 != 0) (some (r1.1,r2)) ((aj.f k r1.1.1.1).bind fun r3=>(ck.f k r2.1 r3.1).bind fun r4=>cond (r4.1.2.1 != 0) (some ((((aQ (r1.1.1.1+1)),r1.1.1.2),r1.1.2),r4)) ((dR.f k ((aQ (r1.1.1.1+1)),r1.1.1.2)).bind fun r5=>rm (Ty.bytes (.int .i64)) (r5.1.2.1.length+1) ((cG.f k r4.1 (r5.1.1,((r5.1.2.1++[r1.1.1.1]),()))).bind fun r6=>cond (r6.1.2.1 != 0) ((aj.f k r1.1.1.1).bind fun r7=>(ae.f k r6.1 [(⟨#[116,101,109,112]⟩:ByteArray),r7.1]).bind fun r8=>some ((((aQ (r1.1.1.1+1)),r1.1.1.2),r1.1.2),r8)) (some (((r5.1.1,((r5.1.2.1++[r1.1.1.1]),())),(r1.1.2.1,(r1.1.2.2.1,(0,r1.1.2.2.2.2)))),r6))))))))
def f:=t k
end fA
namespace fv
abbrev Rs:Type:=Option ((Ty.d aD) × (Ty.d an) × (Ty.d aB) × Unit)
def t (a0:Ty.d aD) (a1:Ty.d an) (a2:Ty.d ba):Rs :=
 ((fw.f k a2).bind fun r1=>(gY.f k r1.1).bind fun r2=>cond (decide (a0.2.2.2.1 > 0)) (cond (decide ((aQ (a0.2.2.2.1+(r2.1.size:Int))) > 200)) ((fA.f k a0 a1).bind fun r3=>cond (r3.2.1.2.1 != 0) (some (r3.1,(r3.2.1,((ByteArray.empty,(0,(0,(0,(0,()))))),())))) (cD (aQ ((r3.1.1.2.1.length:Int)-1)) (r3.1.1.2.1.length:Int) ((bn.f k r3.1).bind fun r4=>(cT.f k r3.2.1 r4.2.1 r2.1).bind fun r5=>cond (r5.1.2.1==0) (some ((r4.1.1,(r4.1.2.1,(r4.1.2.2.1,((aQ (r4.1.2.2.2.1+(r2.1.size:Int))),r4.1.2.2.2.2)))),(r5.1,((a2.2.2.1,((r3.1.1.2.1.getD (aQ ((r3.1.1.2.1.length:Int)-1)).toNat (Ty.z (.int .i64))),(r3.1.2.2.2.1,((r2.1.size:Int),(a2.2.1,()))))),())))) (some (r4.1,(r5.1,((a2.2.2.1,((r3.1.1.2.1.getD (aQ ((r3.1.1.2.1.length:Int)-1)).toNat (Ty.z (.int .i64))),(r3.1.2.2.2.1,((r2.1.size:Int),(a2.2.1,()))))),()))))))) (cond (a1.2.1 != 0) (some (a0,(a1,((ByteArray.empty,(0,(0,(0,(0,()))))),())))) (cD (aQ ((a0.1.2.1.length:Int)-1)) (a0.1.2.1.length:Int) ((bn.f k a0).bind fun r6=>(cT.f k a1 r6.2.1 r2.1).bind fun r7=>cond (r7.1.2.1==0) (some ((r6.1.1,(r6.1.2.1,(r6.1.2.2.1,((aQ (r6.1.2.2.2.1+(r2.1.size:Int))),r6.1.2.2.2.2)))),(r7.1,((a2.2.2.1,((a0.1.2.1.getD (aQ ((a0.1.2.1.length:Int)-1)).toNat (Ty.z (.int .i64))),(a0.2.2.2.1,((r2.1.size:Int),(a2.2.1,()))))),())))) (some (r6.1,(r7.1,((a2.2.2.1,((a0.1.2.1.getD (aQ ((a0.1.2.1.length:Int)-1)).toNat (Ty.z (.int .i64))),(a0.2.2.2.1,((r2.1.size:Int),(a2.2.1,()))))),())))))))) (cond (a1.2.1 != 0) (some (a0,(a1,((ByteArray.empty,(0,(0,(0,(0,()))))),())))) (cD (aQ ((a0.1.2.1.length:Int)-1)) (a0.1.2.1.length:Int) ((bn.f k a0).bind fun r8=>(cT.f k a1 r8.2.1 r2.1).bind fun r9=>cond (r9.1.2.1==0) (some ((r8.1.1,(r8.1.2.1,(r8.1.2.2.1,((aQ (r8.1.2.2.2.1+(r2.1.size:Int))),r8.1.2.2.2.2)))),(r9.1,((a2.2.2.1,((a0.1.2.1.getD (aQ ((a0.1.2.1.length:Int)-1)).toNat (Ty.z (.int .i64))),(a0.2.2.2.1,((r2.1.size:Int),(a2.2.1,()))))),())))) (some (r8.1,(r9.1,((a2.2.2.1,((a0.1.2.1.getD (aQ ((a0.1.2.1.length:Int)-1)).toNat (Ty.z (.int .i64))),(a0.2.2.2.1,((r2.1.size:Int),(a2.2.1,()))))),()))))))))
def f:=t k
end fv
namespace ga
abbrev Rs:Type:=Option ((List (Ty.d aB)) × Unit)
abbrev T0:Type:=List (Ty.d aB)→List (Ty.d aW)→Int→Int→List (Ty.d aB)→Rs
def b0 (L0:T0):T0:=fun x0 x1 x2 x3 x4 =>
 (cond (decide (x3<x2)) (cD x3 (x1.length:Int) (cond (x1.getD x3.toNat (Ty.z aW)).2.1 ((cB.f k x4 (x1.getD x3.toNat (Ty.z aW)).1).bind fun r1=>L0 x0 x1 x2 (aQ (x3+1)) r1.1) (cD x3 (x0.length:Int) ((dC.f k x4 (x0.getD x3.toNat (Ty.z aB))).bind fun r2=>L0 x0 x1 x2 (aQ (x3+1)) r2.1)))) (some (x4,())))
def l0:Nat→T0
 | 0=>fun _ _ _ _ _=>none
 | n+1=>b0 k (l0 n)
def t (k:Nat) (L0:T0) (a0:List (Ty.d aB)) (a1:List (Ty.d aW)) (a2:List (Ty.d aB)):Rs :=
 (L0 a2 a1 (a1.length:Int) 0 a0)
def f:=t k (l0 k k)
end ga
namespace cA
abbrev Rs:Type:=Option ((Ty.d aD) × (Ty.d an) × Unit)
abbrev T0:Type:=List (Ty.d aW)→Int→Int→List Int→List (Ty.d aB)→Int→Int→Int→Int→List (Ty.d aL)→Int→Int→Bool→Int→List (Ty.d aB)→List (Ty.d ba)→Rs
def b0 (L0:T0):T0:=fun x0 x1 x2 x3 x4 x5 x6 x7 x8 x9 x10 x11 x12 x13 x14 x15 =>
 (cond (decide (x2<x1)) (cD x2 (x15.length:Int) ((fv.f k ((x5,(x3,())),(x4,(x6,(x7,(x8,()))))) ((x9,(x10,(x11,(x12,())))),(x13,())) (x15.getD x2.toNat (Ty.z ba))).bind fun r2=>cond (r2.2.1.2.1 != 0) (some (r2.1,(r2.2.1,()))) (rm (Ty.bytes aB) (x14.length+1) (L0 x0 x1 (aQ (x2+1)) r2.1.1.2.1 r2.1.2.1 r2.1.1.1 r2.1.2.2.1 r2.1.2.2.2.1 r2.1.2.2.2.2.1 r2.2.1.1.1 r2.2.1.1.2.1 r2.2.1.1.2.2.1 r2.2.1.1.2.2.2.1 r2.2.1.2.1 (x14++[r2.2.2.1]) x15)))) ((bn.f k ((x5,(x3,())),(x4,(x6,(x7,(x8,())))))).bind fun r3=>(bL.f k ((x9,(x10,(x11,(x12,())))),(x13,())) r3.2.1).bind fun r4=>cond (r4.1.2.1==0) ((ga.f k r3.1.2.1 x0 x14).bind fun r5=>some ((r3.1.1,(r5.1,r3.1.2.2)),r4)) (some (r3.1,r4))))
def l0:Nat→T0
 | 0=>fun _ _ _ _ _ _ _ _ _ _ _ _ _ _ _ _=>none
 | n+1=>b0 k (l0 n)
def t (L0:T0) (a0:Ty.d aD) (a1:Ty.d an) (a2:List (Ty.d aW)):Rs :=
 ((dw.f k a2 a0.2.2.1).bind fun r1=>L0 a2 (r1.1.length:Int) 0 a0.1.2.1 a0.2.1 a0.1.1 (aQ (a0.2.2.1+1)) a0.2.2.2.1 a0.2.2.2.2.1 a1.1.1 a1.1.2.1 a1.1.2.2.1 a1.1.2.2.2.1 a1.2.1 [] r1.1)
def f:=t k (l0 k k)
end cA
namespace jP
abbrev Rs:Type:=Option ((Ty.d aD) × (Ty.d aA) × Int × Unit)
def t (a0:Ty.d aD) (a1:Ty.d aA) (a2:List (Ty.d aW)):Rs :=
 ((cM.f k a0).bind fun r1=>(bA.f k a1).bind fun r2=>(cW.f k a0 a1).bind fun r3=>cond (!r3.1) (some (r1.1,(r2.1,(4,())))) ((fG.f k a2).bind fun r4=>cond (!r4.1) (some (r1.1,(r2.1,(4,())))) (cond ((a2.length:Int)==0) (some (r1.1,(r2.1,(0,())))) ((eP.f k a0.2.1 a2).bind fun r5=>cond (decide (r5.1 > 20)) (some (r1.1,(r2.1,(5,())))) (cond (decide (a0.2.2.1 > 1000000)) (some (r1.1,(r2.1,(5,())))) ((cA.f k r1.1 (r2.1,(0,())) a2).bind fun r6=>some (r6.1,r6.2.1)))))))
def f:=t k
end jP
namespace bQ
abbrev Rs:Type:=Option ((Ty.d gN) × (Ty.d aG) × Unit)
def t (a0:Ty.d gN) (a1:Ty.d aC):Rs :=
 ((kK.f k a0.1.2.2.2.1 a1).bind fun r1=>cond (!r1.1) (some (a0,((4,(ByteArray.empty,([],()))),()))) (cD a1.2.1 (a0.1.2.2.2.1.length:Int) (cond (a1.1==1) (let l2:=(a0.1.2.2.2.1.set a1.2.1.toNat (true,([],([],()))));(some (((a0.1.1,(a0.1.2.1,(a0.1.2.2.1,(l2,())))),a0.2),((0,(ByteArray.empty,([],()))),())))) (cond (a1.1==6) (let l3:=(a0.1.2.2.2.1.set a1.2.1.toNat (false,([],([],()))));(some (((a0.1.1,(a0.1.2.1,(a0.1.2.2.1,(l3,())))),a0.2),((0,(ByteArray.empty,([],()))),())))) (cond (a1.1==2) ((cY.f k a0 a1).bind fun r4=>some r4) (cond (a1.1==3) (cond (a1.1==3) ((kL.f k (a0.1.2.2.2.1.getD a1.2.1.toNat (Ty.z aK)) a1).bind fun r5=>let l6:=(a0.1.2.2.2.1.set a1.2.1.toNat r5.1);(some (((a0.1.1,(a0.1.2.1,(a0.1.2.2.1,(l6,())))),a0.2),r5.2))) (cond (a1.1==5) (let l7:=(a0.1.2.2.2.1.set a1.2.1.toNat (false,([],([],()))));((gf.f k (a0.1.2.2.2.1.getD a1.2.1.toNat (Ty.z aK)) a0.1.2.1.2.1).bind fun r8=>cond (!r8.1) (some (((a0.1.1,(a0.1.2.1,(a0.1.2.2.1,(l7,())))),a0.2),((7,(ByteArray.empty,([],()))),()))) ((dr.f k (a0.1.2.2.2.1.getD a1.2.1.toNat (Ty.z aK))).bind fun r9=>(jP.f k a0.1.2.1 a0.1.2.2.1 r9.1).bind fun r10=>some (((a0.1.1,(r10.1,(r10.2.1,(l7,())))),a0.2),((r10.2.2.1,(ByteArray.empty,([],()))),()))))) (some (a0,((0,(ByteArray.empty,([],()))),()))))) (cond (a1.1==4) ((kL.f k (a0.1.2.2.2.1.getD a1.2.1.toNat (Ty.z aK)) a1).bind fun r11=>let l12:=(a0.1.2.2.2.1.set a1.2.1.toNat r11.1);(some (((a0.1.1,(a0.1.2.1,(a0.1.2.2.1,(l12,())))),a0.2),r11.2))) (cond (a1.1==5) (let l13:=(a0.1.2.2.2.1.set a1.2.1.toNat (false,([],([],()))));((gf.f k (a0.1.2.2.2.1.getD a1.2.1.toNat (Ty.z aK)) a0.1.2.1.2.1).bind fun r14=>cond (!r14.1) (some (((a0.1.1,(a0.1.2.1,(a0.1.2.2.1,(l13,())))),a0.2),((7,(ByteArray.empty,([],()))),()))) ((dr.f k (a0.1.2.2.2.1.getD a1.2.1.toNat (Ty.z aK))).bind fun r15=>(jP.f k a0.1.2.1 a0.1.2.2.1 r15.1).bind fun r16=>some (((a0.1.1,(r16.1,(r16.2.1,(l13,())))),a0.2),((r16.2.2.1,(ByteArray.empty,([],()))),()))))) (some (a0,((0,(ByteArray.empty,([],()))),())))))))))))
def f:=t k
end bQ
namespace bv
abbrev Rs:Type:=Option ((Ty.d gN) × (Ty.d aG) × Unit)
def t (a0:Ty.d gN) (a1:Ty.d aC):Rs :=
 (cond (a1.1==10) (cond a0.1.1 (some (a0,((4,(ByteArray.empty,([],()))),()))) (cond (a1.1==10) ((fK.f k a0.1.2.2.1).bind fun r1=>some ((r1.1,a0.2),((r1.2.1,(ByteArray.empty,([],()))),()))) (cond (a1.1==11) ((gi.f k a0.1.2.2.1).bind fun r2=>(ay.f k a0.1.2.2.1).bind fun r3=>cond (!r3.1) (some (a0,((4,(ByteArray.empty,([],()))),()))) ((ac.f k a1.2.2.2.2.1 0 (aQ (100000-r2.1))).bind fun r4=>cond (!r4.1) (some (a0,((4,(ByteArray.empty,([],()))),()))) (some (((a0.1.1,(a0.1.2.1,((a0.1.2.2.1.1,((aQ (r2.1+a1.2.2.2.2.1)),a0.1.2.2.1.2.2)),a0.1.2.2.2))),a0.2),((0,(ByteArray.empty,([],()))),()))))) (cond (!a0.1.1) (some (a0,((6,(ByteArray.empty,([],()))),()))) (cond (a1.1==7) ((kF.f k a0.1.2.1 a0.1.2.2.1).bind fun r5=>some (((a0.1.1,(r5.1,(r5.2.1,a0.1.2.2.2))),a0.2),((r5.2.2.1,(ByteArray.empty,([],()))),()))) (cond (a1.1==8) ((dq.f k a0.1.2.1.2.1).bind fun r6=>some (a0,((0,(ByteArray.empty,r6)),()))) (cond (a1.1==9) (u7 (Ty.bytes aK) 3 (some (((false,(((0,([],())),([],(0,(0,(0,()))))),(a0.1.2.2.1,((List.replicate (Int.toNat 3) (Ty.z aK)),())))),a0.2),((0,(ByteArray.empty,([],()))),())))) ((bQ.f k a0 a1).bind fun r7=>some r7)))))))) (cond (a1.1==10) ((fK.f k a0.1.2.2.1).bind fun r8=>some ((r8.1,a0.2),((r8.2.1,(ByteArray.empty,([],()))),()))) (cond (a1.1==11) ((gi.f k a0.1.2.2.1).bind fun r9=>(ay.f k a0.1.2.2.1).bind fun r10=>cond (!r10.1) (some (a0,((4,(ByteArray.empty,([],()))),()))) ((ac.f k a1.2.2.2.2.1 0 (aQ (100000-r9.1))).bind fun r11=>cond (!r11.1) (some (a0,((4,(ByteArray.empty,([],()))),()))) (some (((a0.1.1,(a0.1.2.1,((a0.1.2.2.1.1,((aQ (r9.1+a1.2.2.2.2.1)),a0.1.2.2.1.2.2)),a0.1.2.2.2))),a0.2),((0,(ByteArray.empty,([],()))),()))))) (cond (!a0.1.1) (some (a0,((6,(ByteArray.empty,([],()))),()))) (cond (a1.1==7) ((kF.f k a0.1.2.1 a0.1.2.2.1).bind fun r12=>some (((a0.1.1,(r12.1,(r12.2.1,a0.1.2.2.2))),a0.2),((r12.2.2.1,(ByteArray.empty,([],()))),()))) (cond (a1.1==8) ((dq.f k a0.1.2.1.2.1).bind fun r13=>some (a0,((0,(ByteArray.empty,r13)),()))) (cond (a1.1==9) (u7 (Ty.bytes aK) 3 (some (((false,(((0,([],())),([],(0,(0,(0,()))))),(a0.1.2.2.1,((List.replicate (Int.toNat 3) (Ty.z aK)),())))),a0.2),((0,(ByteArray.empty,([],()))),())))) ((bQ.f k a0 a1).bind fun r14=>some r14))))))))
def f:=t k
end bv
namespace jm
abbrev Rs:Type:=Option ((Ty.d gN) × Unit)
abbrev T1:Type:=List (Ty.d aC)→Int→Int→List Int→List (Ty.d aB)→List (Ty.d aL)→List (Ty.d aK)→List (Ty.d aG)→List (Ty.d u_)→List (Ty.d aW)→Bool→Int→Int→Int→Int→Int→Int→Bool→List Int→List (Ty.d aB)→List (Ty.d aL)→List (Ty.d aK)→List (Ty.d aG)→List (Ty.d u_)→List (Ty.d aW)→Bool→Int→Int→Int→Int→Int→Int→Bool→Rs
abbrev T0:Type:=List (Ty.d aC)→Int→Int→List Int→List (Ty.d aB)→List (Ty.d aL)→List (Ty.d aK)→List (Ty.d aG)→List (Ty.d u_)→List (Ty.d aW)→Bool→Int→Int→Int→Int→Int→Int→Bool→List Int→List (Ty.d aB)→List (Ty.d aL)→List (Ty.d aK)→List (Ty.d aG)→List (Ty.d u_)→List (Ty.d aW)→Bool→Int→Int→Int→Int→Int→Int→Bool→Rs
def b1 (L1:T1):T1:=fun x0 x1 x2 x3 x4 x5 x6 x7 x8 x9 x10 x11 x12 x13 x14 x15 x16 x17 x18 x19 x20 x21 x22 x23 x24 x25 x26 x27 x28 x29 x30 x31 x32 =>
 (cond (decide (x2<x1)) (cD x2 (x0.length:Int) (cond (decide (x2≥300)) (some (((x25,(((x26,(x18,())),(x19,(x27,(x28,(x29,()))))),((x20,(x30,(x31,(x32,())))),(x21,())))),(x22,(x23,(x24,())))),())) ((kI.f k (x25,(((x26,(x18,())),(x19,(x27,(x28,(x29,()))))),((x20,(x30,(x31,(x32,())))),(x21,())))) (x0.getD x2.toNat (Ty.z aC))).bind fun r4=>(bv.f k ((x25,(((x26,(x18,())),(x19,(x27,(x28,(x29,()))))),((x20,(x30,(x31,(x32,())))),(x21,())))),(x22,(x23,(x24,())))) (x0.getD x2.toNat (Ty.z aC))).bind fun r5=>rm (Ty.bytes aG) (r5.1.2.1.length+1) (cond (r5.2.1.1==1) (some ((r5.1.1,((r5.1.2.1++[r5.2.1]),(r5.1.2.2.1,r4))),())) (cond (r5.2.1.1==0) (cond (decide ((r4.1.length:Int) > 0)) (rm (Ty.bytes u_) (r5.1.2.2.1.length+1) (L1 x0 x1 (aQ (x2+1)) x3 x4 x5 x6 x7 x8 x9 x10 x11 x12 x13 x14 x15 x16 x17 r5.1.1.2.1.1.2.1 r5.1.1.2.1.2.1 r5.1.1.2.2.1.1 r5.1.1.2.2.2.1 (r5.1.2.1++[r5.2.1]) (r5.1.2.2.1++[(x27,r4)]) r5.1.2.2.2.1 r5.1.1.1 r5.1.1.2.1.1.1 r5.1.1.2.1.2.2.1 r5.1.1.2.1.2.2.2.1 r5.1.1.2.1.2.2.2.2.1 r5.1.1.2.2.1.2.1 r5.1.1.2.2.1.2.2.1 r5.1.1.2.2.1.2.2.2.1)) (L1 x0 x1 (aQ (x2+1)) x3 x4 x5 x6 x7 x8 x9 x10 x11 x12 x13 x14 x15 x16 x17 r5.1.1.2.1.1.2.1 r5.1.1.2.1.2.1 r5.1.1.2.2.1.1 r5.1.1.2.2.2.1 (r5.1.2.1++[r5.2.1]) r5.1.2.2.1 r5.1.2.2.2.1 r5.1.1.1 r5.1.1.2.1.1.1 r5.1.1.2.1.2.2.1 r5.1.1.2.1.2.2.2.1 r5.1.1.2.1.2.2.2.2.1 r5.1.1.2.2.1.2.1 r5.1.1.2.2.1.2.2.1 r5.1.1.2.2.1.2.2.2.1)) (L1 x0 x1 (aQ (x2+1)) x3 x4 x5 x6 x7 x8 x9 x10 x11 x12 x13 x14 x15 x16 x17 r5.1.1.2.1.1.2.1 r5.1.1.2.1.2.1 r5.1.1.2.2.1.1 r5.1.1.2.2.2.1 (r5.1.2.1++[r5.2.1]) r5.1.2.2.1 r5.1.2.2.2.1 r5.1.1.1 r5.1.1.2.1.1.1 r5.1.1.2.1.2.2.1 r5.1.1.2.1.2.2.2.1 r5.1.1.2.1.2.2.2.2.1 r5.1.1.2.2.1.2.1 r5.1.1.2.2.1.2.2.1 r5.1.1.2.2.1.2.2.2.1)))))) (some (((x25,(((x26,(x18,())),(x19,(x27,(x28,(x29,()))))),((x20,(x30,(x31,(x32,())))),(x21,())))),(x22,(x23,(x24,())))),())))
def l1:Nat→T1
 | 0=>fun _ _ _ _ _ _ _ _ _ _ _ _ _ _ _ _ _ _ _ _ _ _ _ _ _ _ _ _ _ _ _ _ _=>none
 | n+1=>b1 k (l1 n)
def b0 (L1:T1):T0:=fun x0 x1 x2 x3 x4 x5 x6 x7 x8 x9 x10 x11 x12 x13 x14 x15 x16 x17 x18 x19 x20 x21 x22 x23 x24 x25 x26 x27 x28 x29 x30 x31 x32 =>
 (cond (decide (x2<x1)) (cD x2 (x0.length:Int) (cond (decide (x2≥300)) (some (((x25,(((x26,(x18,())),(x19,(x27,(x28,(x29,()))))),((x20,(x30,(x31,(x32,())))),(x21,())))),(x22,(x23,(x24,())))),())) ((kI.f k (x25,(((x26,(x18,())),(x19,(x27,(x28,(x29,()))))),((x20,(x30,(x31,(x32,())))),(x21,())))) (x0.getD x2.toNat (Ty.z aC))).bind fun r2=>(bv.f k ((x25,(((x26,(x18,())),(x19,(x27,(x28,(x29,()))))),((x20,(x30,(x31,(x32,())))),(x21,())))),(x22,(x23,(x24,())))) (x0.getD x2.toNat (Ty.z aC))).bind fun r3=>rm (Ty.bytes aG) (r3.1.2.1.length+1) (cond (r3.2.1.1==1) (some ((r3.1.1,((r3.1.2.1++[r3.2.1]),(r3.1.2.2.1,r2))),())) (cond (r3.2.1.1==0) (cond (decide ((r2.1.length:Int) > 0)) (rm (Ty.bytes u_) (r3.1.2.2.1.length+1) (L1 x0 x1 (aQ (x2+1)) x3 x4 x5 x6 x7 x8 x9 x10 x11 x12 x13 x14 x15 x16 x17 r3.1.1.2.1.1.2.1 r3.1.1.2.1.2.1 r3.1.1.2.2.1.1 r3.1.1.2.2.2.1 (r3.1.2.1++[r3.2.1]) (r3.1.2.2.1++[(x27,r2)]) r3.1.2.2.2.1 r3.1.1.1 r3.1.1.2.1.1.1 r3.1.1.2.1.2.2.1 r3.1.1.2.1.2.2.2.1 r3.1.1.2.1.2.2.2.2.1 r3.1.1.2.2.1.2.1 r3.1.1.2.2.1.2.2.1 r3.1.1.2.2.1.2.2.2.1)) (L1 x0 x1 (aQ (x2+1)) x3 x4 x5 x6 x7 x8 x9 x10 x11 x12 x13 x14 x15 x16 x17 r3.1.1.2.1.1.2.1 r3.1.1.2.1.2.1 r3.1.1.2.2.1.1 r3.1.1.2.2.2.1 (r3.1.2.1++[r3.2.1]) r3.1.2.2.1 r3.1.2.2.2.1 r3.1.1.1 r3.1.1.2.1.1.1 r3.1.1.2.1.2.2.1 r3.1.1.2.1.2.2.2.1 r3.1.1.2.1.2.2.2.2.1 r3.1.1.2.2.1.2.1 r3.1.1.2.2.1.2.2.1 r3.1.1.2.2.1.2.2.2.1)) (L1 x0 x1 (aQ (x2+1)) x3 x4 x5 x6 x7 x8 x9 x10 x11 x12 x13 x14 x15 x16 x17 r3.1.1.2.1.1.2.1 r3.1.1.2.1.2.1 r3.1.1.2.2.1.1 r3.1.1.2.2.2.1 (r3.1.2.1++[r3.2.1]) r3.1.2.2.1 r3.1.2.2.2.1 r3.1.1.1 r3.1.1.2.1.1.1 r3.1.1.2.1.2.2.1 r3.1.1.2.1.2.2.2.1 r3.1.1.2.1.2.2.2.2.1 r3.1.1.2.2.1.2.1 r3.1.1.2.2.1.2.2.1 r3.1.1.2.2.1.2.2.2.1)))))) (some (((x25,(((x26,(x18,())),(x19,(x27,(x28,(x29,()))))),((x20,(x30,(x31,(x32,())))),(x21,())))),(x22,(x23,(x24,())))),())))
def l0:Nat→T0
 | 0=>fun _ _ _ _ _ _ _ _ _ _ _ _ _ _ _ _ _ _ _ _ _ _ _ _ _ _ _ _ _ _ _ _ _=>none
 | n+1=>b0 k (l1 k n)
def t (L0:T0) (a0:Ty.d bO) (a1:List (Ty.d aC)):Rs :=
 ((gm.f k a0).bind fun r1=>L0 a1 (a1.length:Int) 0 [] [] [] [] [] [] [] false 0 0 0 0 0 0 false r1.1.2.1.1.2.1 r1.1.2.1.2.1 r1.1.2.2.1.1 r1.1.2.2.2.1 [] [] [] r1.1.1 r1.1.2.1.1.1 r1.1.2.1.2.2.1 r1.1.2.1.2.2.2.1 r1.1.2.1.2.2.2.2.1 r1.1.2.2.1.2.1 r1.1.2.2.1.2.2.1 r1.1.2.2.1.2.2.2.1)
def f:=t k (l0 k k)
end jm
namespace ip
abbrev Rs:Type:=Option ((Ty.d gN) × Unit)
def t (a0:Ty.d yF):Rs :=
 ((ac.f k a0.1 0 100000).bind fun r1=>cond (!r1.1) (some (((false,(((0,([],())),([],(0,(0,(0,()))))),(([],(0,(0,(false,())))),([],())))),([],([],([],())))),())) ((ac.f k a0.2.1 (-1) 100000).bind fun r2=>cond (!r2.1) (some (((false,(((0,([],())),([],(0,(0,(0,()))))),(([],(0,(0,(false,())))),([],())))),([],([],([],())))),())) ((jS.f k a0.1).bind fun r3=>(ie.f k r3.1 a0.2.1).bind fun r4=>(fK.f k r4.1).bind fun r5=>cond (r5.2.1 != 0) (some ((r5.1,([],([],([],())))),())) ((jm.f k r5.1 a0.2.2.1).bind fun r6=>some r6))))
def f:=t k
end ip
namespace fQ
abbrev Rs:Type:=Option (Bool × Unit)
abbrev T0:Type:=Int→Int→ByteArray→List ByteArray→Int→ByteArray→List ByteArray→Rs
def b0 (k:Nat) (L0:T0):T0:=fun x0 x1 x2 x3 x4 x5 x6 =>
 (cond (decide (x0<(x3.length:Int))) (cD x0 (x3.length:Int) (cD x0 (x6.length:Int) (cond (!(seq (x3.getD x0.toNat (Ty.z .str)) (x6.getD x0.toNat (Ty.z .str)))) (some (false,())) (L0 (aQ (x0+1)) x1 x2 x3 x4 x5 x6)))) (some (true,())))
def l0:Nat→T0
 | 0=>fun _ _ _ _ _ _ _=>none
 | n+1=>b0 k (l0 n)
def t (k:Nat) (L0:T0) (a0:Ty.d aG) (a1:Ty.d aG):Rs :=
 (cond (a0.1 != a1.1) (some (false,())) (cond (!(seq a0.2.1 a1.2.1)) (some (false,())) (cond ((a0.2.2.1.length:Int) != (a1.2.2.1.length:Int)) (some (false,())) (L0 0 a0.1 a0.2.1 a0.2.2.1 a1.1 a1.2.1 a1.2.2.1))))
def f:=t k (l0 k k)
end fQ
namespace bh
abbrev Rs:Type:=Option (Bool × Unit)
abbrev T0:Type:=List (Ty.d aG)→List (Ty.d aG)→Int→Rs
def b0 (L0:T0):T0:=fun x0 x1 x2 =>
 (cond (decide (x2<(x0.length:Int))) (cD x2 (x0.length:Int) (cD x2 (x1.length:Int) ((fQ.f k (x0.getD x2.toNat (Ty.z aG)) (x1.getD x2.toNat (Ty.z aG))).bind fun r1=>cond (!r1.1) (some (false,())) (L0 x0 x1 (aQ (x2+1)))))) (some (true,())))
def l0:Nat→T0
 | 0=>fun _ _ _=>none
 | n+1=>b0 k (l0 n)
def t (k:Nat) (L0:T0) (a0:List (Ty.d aG)) (a1:List (Ty.d aG)):Rs :=
 (cond ((a0.length:Int) != (a1.length:Int)) (some (false,())) (L0 a0 a1 0))
def f:=t k (l0 k k)
end bh
namespace ax
abbrev Rs:Type:=Option (Bool × Unit)
abbrev T2:Type:=List (Ty.d aC)→Int→Int→List (Ty.d aG)→List (Ty.d aC)→List (Ty.d aG)→Rs
abbrev T1:Type:=List (Ty.d aC)→Int→Int→List (Ty.d aG)→List (Ty.d aC)→List (Ty.d aG)→Rs
abbrev T0:Type:=List (Ty.d aC)→Int→Int→List (Ty.d aG)→List (Ty.d cF)→Rs
def b2 (L2:T2):T2:=fun x0 x1 x2 x3 x4 x5 =>
 (cond (decide (x2<(x0.length:Int))) (cD x2 (x0.length:Int) (cond (decide ((x0.getD x2.toNat (Ty.z aC)).1≥1)) (cD x2 (x0.length:Int) (cond (decide ((x0.getD x2.toNat (Ty.z aC)).1≤6)) (cD x2 (x0.length:Int) (cond ((x0.getD x2.toNat (Ty.z aC)).2.1==x1) (L2 x0 x1 (aQ (x2+1)) x3 x4 x5) (cD x2 (x0.length:Int) (rm (Ty.bytes aC) (x4.length+1) (cD x2 (x3.length:Int) (rm (Ty.bytes aG) (x5.length+1) (L2 x0 x1 (aQ (x2+1)) x3 (x4++[(x0.getD x2.toNat (Ty.z aC))]) (x5++[(x3.getD x2.toNat (Ty.z aG))])))))))) (cD x2 (x0.length:Int) (rm (Ty.bytes aC) (x4.length+1) (cD x2 (x3.length:Int) (rm (Ty.bytes aG) (x5.length+1) (L2 x0 x1 (aQ (x2+1)) x3 (x4++[(x0.getD x2.toNat (Ty.z aC))]) (x5++[(x3.getD x2.toNat (Ty.z aG))])))))))) (cD x2 (x0.length:Int) (rm (Ty.bytes aC) (x4.length+1) (cD x2 (x3.length:Int) (rm (Ty.bytes aG) (x5.length+1) (L2 x0 x1 (aQ (x2+1)) x3 (x4++[(x0.getD x2.toNat (Ty.z aC))]) (x5++[(x3.getD x2.toNat (Ty.z aG))])))))))) ((iR.f k x4).bind fun r6=>(ip.f k r6.1).bind fun r7=>(bh.f k r7.1.2.1 x5).bind fun r8=>cond r8.1 ((iR.f k x0).bind fun r9=>(ip.f k r9.1).bind fun r10=>(bh.f k r10.1.2.1 x3).bind fun r11=>some r11) (some (false,()))))
def l2:Nat→T2
 | 0=>fun _ _ _ _ _ _=>none
 | n+1=>b2 k (l2 n)
def b1 (L2:T2) (L1:T1):T1:=fun x0 x1 x2 x3 x4 x5 =>
 (cond (decide (x2<(x0.length:Int))) (cD x2 (x0.length:Int) (cond (decide ((x0.getD x2.toNat (Ty.z aC)).1≥1)) (cD x2 (x0.length:Int) (cond (decide ((x0.getD x2.toNat (Ty.z aC)).1≤6)) (cD x2 (x0.length:Int) (cond ((x0.getD x2.toNat (Ty.z aC)).2.1==x1) (L1 x0 x1 (aQ (x2+1)) x3 x4 x5) (cD x2 (x0.length:Int) (rm (Ty.bytes aC) (x4.length+1) (cD x2 (x3.length:Int) (rm (Ty.bytes aG) (x5.length+1) (L2 x0 x1 (aQ (x2+1)) x3 (x4++[(x0.getD x2.toNat (Ty.z aC))]) (x5++[(x3.getD x2.toNat (Ty.z aG))])))))))) (cD x2 (x0.length:Int) (rm (Ty.bytes aC) (x4.length+1) (cD x2 (x3.length:Int) (rm (Ty.bytes aG) (x5.length+1) (L2 x0 x1 (aQ (x2+1)) x3 (x4++[(x0.getD x2.toNat (Ty.z aC))]) (x5++[(x3.getD x2.toNat (Ty.z aG))])))))))) (cD x2 (x0.length:Int) (rm (Ty.bytes aC) (x4.length+1) (cD x2 (x3.length:Int) (rm (Ty.bytes aG) (x5.length+1) (L2 x0 x1 (aQ (x2+1)) x3 (x4++[(x0.getD x2.toNat (Ty.z aC))]) (x5++[(x3.getD x2.toNat (Ty.z aG))])))))))) ((iR.f k x4).bind fun r12=>(ip.f k r12.1).bind fun r13=>(bh.f k r13.1.2.1 x5).bind fun r14=>cond r14.1 ((iR.f k x0).bind fun r15=>(ip.f k r15.1).bind fun r16=>(bh.f k r16.1.2.1 x3).bind fun r17=>some r17) (some (false,()))))
def l1:Nat→T1
 | 0=>fun _ _ _ _ _ _=>none
 | n+1=>b1 k (l2 k n) (l1 n)
def b0 (k:Nat) (L1:T1) (L0:T0):T0:=fun x0 x1 x2 x3 x4 =>
 (cond (decide (x2<(x4.length:Int))) (cD x2 (x4.length:Int) (cond ((x4.getD x2.toNat (Ty.z cF)).1==x1) (cD x2 (x4.length:Int) (cond (decide ((List.length (x4.getD x2.toNat (Ty.z cF)).2.2.2.1:Int) > 0)) (some (true,())) (L0 x0 x1 (aQ (x2+1)) x3 x4))) (L0 x0 x1 (aQ (x2+1)) x3 x4))) (L1 x0 x1 0 x3 [] []))
def l0:Nat→T0
 | 0=>fun _ _ _ _ _=>none
 | n+1=>b0 k (l1 k k) (l0 n)
def t (L0:T0) (a0:List Int):Rs :=
 ((qJ.f k a0).bind fun r1=>cond r1.1 (some (true,())) ((f_.f k a0).bind fun r2=>cond (decide ((r2.1.length:Int) > 80)) (rP 80 (r2.1.length:Int) ((d6.f k (r2.1.take 80)).bind fun r3=>(aH.f k (r2.1.take 80) r3.2.1).bind fun r4=>(nO.f k a0 0).bind fun r5=>L0 (r2.1.take 80) (Int.tmod r5.1 3) 0 r3.2.1 r4.1)) ((d6.f k r2.1).bind fun r18=>(aH.f k r2.1 r18.2.1).bind fun r19=>(nO.f k a0 0).bind fun r20=>L0 r2.1 (Int.tmod r20.1 3) 0 r18.2.1 r19.1)))
def f:=t k (l0 k k)
end ax
end Go.Proofs.YtbgnhoggngbhhaaGreatDoor.G

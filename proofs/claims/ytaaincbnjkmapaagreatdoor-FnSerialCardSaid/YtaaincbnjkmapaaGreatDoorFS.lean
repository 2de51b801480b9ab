/- Functions, as V runs them. -/
import Derived.Test.YtaaincbnjkmapaaGreatDoorVWords
import Derived.Test.YtaaincbnjkmapaaGreatDoorXLib
set_option linter.unusedVariables false
namespace Go.Proofs.YtaaincbnjkmapaaGreatDoor.G
open Go.V
abbrev aM:Ty := .pair .str (.pair .bool (.pair .str .unit))
abbrev m_:Ty := .pair (.int .i64) (.pair (.slice aM) .unit)
abbrev aK:Ty := .pair (.int .i64) (.pair .str (.pair (.slice .str) .unit))
abbrev aB:Ty := .pair .str (.pair .str (.pair (.int .i64) .unit))
abbrev aA:Ty := .pair (.slice aB) (.pair (.int .i64) (.pair (.int .i64) (.pair .bool .unit)))
abbrev cv:Ty := .pair (.int .i64) (.pair (.slice (.int .i64)) .unit)
abbrev aC:Ty := .pair .str (.pair (.int .i64) (.pair (.int .i64) (.pair (.int .i64) (.pair (.int .i64) .unit))))
abbrev aE:Ty := .pair cv (.pair (.slice aC) (.pair (.int .i64) (.pair (.int .i64) (.pair (.int .i64) .unit))))
abbrev dK:Ty := .pair .str (.pair (.int .i64) .unit)
abbrev aV:Ty := .pair .bool (.pair (.slice dK) (.pair (.slice aM) .unit))
abbrev bF:Ty := .pair .bool (.pair aE (.pair aA (.pair (.slice aV) .unit)))
abbrev kR:Ty := .pair (.slice aC) (.pair (.int .i64) (.pair (.int .i64) .unit))
abbrev iq:Ty := .pair (.int .i64) (.pair (.int .i64) (.pair (.slice aC) .unit))
abbrev au:Ty := .pair (.int .i64) (.pair (.slice aB) (.pair (.slice .str) (.pair (.slice aM) .unit)))
abbrev bf:Ty := .pair (.int .i64) (.pair (.int .i64) (.pair .str (.pair .str (.pair (.int .i64) (.pair (.int .i64) .unit)))))
abbrev aL:Ty := .pair (.int .i64) (.pair (.int .i64) (.pair (.int .i64) (.pair bf .unit)))
abbrev ga:Ty := .pair bF (.pair (.slice aK) (.pair (.slice m_) (.pair (.slice aM) .unit)))
abbrev aH:Ty := .pair (.int .i64) (.pair (.int .i64) (.pair .str (.pair .str (.pair (.int .i64) .unit))))
abbrev z_:Ty := .pair (.int .i64) (.pair (.int .i64) (.pair (.slice aH) .unit))
abbrev d_:Ty := .pair (.int .i64) (.pair (.int .i64) (.pair bf .unit))
abbrev fz:Ty := .pair (.slice (.int .u8)) (.pair (.int .i64) (.pair (.int .i64) .unit))
abbrev jD:Ty := .pair .bool (.pair (.slice aB) (.pair (.slice .str) (.pair (.slice aM) .unit)))
abbrev my:Ty := .pair .str (.pair .bool .unit)
abbrev am:Ty := .pair aA (.pair (.int .i64) .unit)
abbrev cI:Ty:=aB
variable (k:Nat)
namespace qg
abbrev Rs:Type:=Option (Bool × Unit)
def t (k:Nat) (a0:List Int):Rs :=
 (some ((decide ((a0.length:Int) > 1048576)),()))
def f:=t k
end qg
namespace gu
abbrev Rs:Type:=Option (Unit × (Ty.d fz) × Unit)
abbrev T0:Type:=List Int→Int→Int→Rs
def b0 (k:Nat) (L0:T0):T0:=fun x0 x1 x2 =>
 (cond (decide (x2<(x0.length:Int))) (cond (decide (x2<4000)) (dR x2 (x0.length:Int) (L0 x0 (aQ (((BitVec.ofInt (IntKind.bits .i64) (aQ ((aQ ((aQ (x1*131))+(aQ (x0.getD x2.toNat (Ty.z (.int .u8))))))+7)) &&& BitVec.ofInt (IntKind.bits .i64) 1073741823).toNat:Int))) (aQ (x2+1)))) (some ((),((x0,(0,(x1,()))),())))) (some ((),((x0,(0,(x1,()))),()))))
def l0:Nat→T0
 | 0=>fun _ _ _=>none
 | n+1=>b0 k (l0 n)
def t (k:Nat) (L0:T0) (a0:List Int):Rs :=
 (L0 a0 (aQ (10101+(a0.length:Int))) 0)
def f:=t k (l0 k k)
end gu
namespace fM
abbrev Rs:Type:=Option ((Ty.d fz) × Int × Unit)
def t (k:Nat) (a0:Ty.d fz):Rs :=
 (cond (decide (a0.2.1<(a0.1.length:Int))) (dR a0.2.1 (a0.1.length:Int) (some ((a0.1,((aQ (a0.2.1+1)),((aQ ((aQ (a0.2.2.1*6364136223846793005))+1442695040888963407)),()))),((aQ (((BitVec.ofInt (IntKind.bits .i64) (aQ ((aQ (((BitVec.ofInt (IntKind.bits .i64) (aQ (((BitVec.ofInt (IntKind.bits .i64) (Int.fdiv (aQ ((aQ (a0.2.2.1*6364136223846793005))+1442695040888963407)) (2 ^ (Int.toNat 33))) ^^^ BitVec.ofInt (IntKind.bits .i64) (Int.fdiv (aQ ((aQ (a0.2.2.1*6364136223846793005))+1442695040888963407)) (2 ^ (Int.toNat 45)))).toNat:Int))) &&& BitVec.ofInt (IntKind.bits .i64) 255).toNat:Int)))+(aQ (a0.1.getD a0.2.1.toNat (Ty.z (.int .u8)))))) &&& BitVec.ofInt (IntKind.bits .i64) 255).toNat:Int))),())))) (some ((a0.1,(a0.2.1,((aQ ((aQ (a0.2.2.1*6364136223846793005))+1442695040888963407)),()))),((aQ (((BitVec.ofInt (IntKind.bits .i64) (aQ (((BitVec.ofInt (IntKind.bits .i64) (Int.fdiv (aQ ((aQ (a0.2.2.1*6364136223846793005))+1442695040888963407)) (2 ^ (Int.toNat 33))) ^^^ BitVec.ofInt (IntKind.bits .i64) (Int.fdiv (aQ ((aQ (a0.2.2.1*6364136223846793005))+1442695040888963407)) (2 ^ (Int.toNat 45)))).toNat:Int))) &&& BitVec.ofInt (IntKind.bits .i64) 255).toNat:Int))),()))))
def f:=t k
end fM
namespace bS
abbrev Rs:Type:=Option ((Ty.d fz) × Int × Unit)
def t (a0:Ty.d fz) (a1:Int):Rs :=
 (cond (decide (a1≤0)) (some (a0,(0,()))) (cond (decide (a1≤256)) ((fM.f k a0).bind fun r1=>bif (decide (a1=0)) then none else (some (r1.1,((Int.tmod r1.2.1 a1),())))) ((fM.f k a0).bind fun r2=>(fM.f k r2.1).bind fun r3=>(fM.f k r3.1).bind fun r4=>(fM.f k r4.1).bind fun r5=>bif (decide (a1=0)) then none else (some (r5.1,((Int.tmod (aQ ((aQ ((aQ ((aQ (r2.2.1*16777216))+(aQ (r3.2.1*65536))))+(aQ (r4.2.1*256))))+r5.2.1)) a1),()))))))
def f:=t k
end bS
namespace ah
abbrev Rs:Type:=Option ((Ty.d fz) × Int × Unit)
def t (a0:Ty.d fz) (a1:List Int):Rs :=
 ((bS.f k a0 (a1.length:Int)).bind fun r1=>dR r1.2.1 (a1.length:Int) (some (r1.1,((a1.getD r1.2.1.toNat (Ty.z (.int .i64))),()))))
def f:=t k
end ah
namespace d8
abbrev Rs:Type:=Option ((Ty.d fz) × ByteArray × Unit)
def t (a0:Ty.d fz) (a1:List ByteArray):Rs :=
 ((bS.f k a0 (a1.length:Int)).bind fun r1=>dR r1.2.1 (a1.length:Int) (some (r1.1,((a1.getD r1.2.1.toNat (Ty.z .str)),()))))
def f:=t k
end d8
namespace jE
abbrev Rs:Type:=Option ((Ty.d fz) × ByteArray × Unit)
def t (a0:Ty.d fz):Rs :=
 ((d8.f k a0 [(⟨#[97]⟩:ByteArray),(⟨#[98]⟩:ByteArray),(⟨#[99]⟩:ByteArray),(⟨#[107,101,121]⟩:ByteArray),(⟨#[108,111,110,103,110,97,109,101]⟩:ByteArray)]).bind fun r1=>some r1)
def f:=t k
end jE
namespace fR
abbrev Rs:Type:=Option ((Ty.d fz) × ByteArray × Unit)
abbrev T0:Type:=Int→Int→List Int→Int→Int→List Int→Rs
def b0 (L0:T0):T0:=fun x0 x1 x2 x3 x4 x5 =>
 (cond (decide (x1 > 0)) ((fM.f k (x2,(x3,(x4,())))).bind fun r3=>cond (x0==1) (cond (x0==2) (rm (Ty.bytes (.int .u8)) (x5.length+1) (L0 x0 (aQ (x1-1)) r3.1.1 r3.1.2.1 r3.1.2.2.1 (x5++[(IntKind.wrap .u8 (aQ (97+(Int.tmod (Int.tmod r3.2.1 2) 4))))]))) (rm (Ty.bytes (.int .u8)) (x5.length+1) (L0 x0 (aQ (x1-1)) r3.1.1 r3.1.2.1 r3.1.2.2.1 (x5++[(IntKind.wrap .u8 (Int.tmod r3.2.1 2))])))) (cond (x0==2) (rm (Ty.bytes (.int .u8)) (x5.length+1) (L0 x0 (aQ (x1-1)) r3.1.1 r3.1.2.1 r3.1.2.2.1 (x5++[(IntKind.wrap .u8 (aQ (97+(Int.tmod r3.2.1 4))))]))) (rm (Ty.bytes (.int .u8)) (x5.length+1) (L0 x0 (aQ (x1-1)) r3.1.1 r3.1.2.1 r3.1.2.2.1 (x5++[(IntKind.wrap .u8 r3.2.1)]))))) (some ((x2,(x3,(x4,()))),((bytesOf x5),()))))
def l0:Nat→T0
 | 0=>fun _ _ _ _ _ _=>none
 | n+1=>b0 k (l0 n)
def t (L0:T0) (a0:Ty.d fz) (a1:Int):Rs :=
 ((bS.f k a0 4).bind fun r1=>(bS.f k r1.1 (aQ (a1+1))).bind fun r2=>L0 r1.2.1 r2.2.1 r2.1.1 r2.1.2.1 r2.1.2.2.1 [])
def f:=t k (l0 k k)
end fR
namespace jk
abbrev Rs:Type:=Option ((Ty.d fz) × (Ty.d aH) × Unit)
def t (a0:Ty.d fz):Rs :=
 ((ah.f k a0 [1,2,2,3,3,3,4,5,5,6,7,8,1,5]).bind fun r1=>(bS.f k r1.1 3).bind fun r2=>cond (r1.2.1==2) (cond (r1.2.1==2) ((jE.f k r2.1).bind fun r3=>(bS.f k r3.1 40).bind fun r4=>cond (r4.2.1==0) (some (r4.1,((9,(0,(ByteArray.empty,(ByteArray.empty,(0,()))))),()))) (cond (r4.2.1==1) (cond (r4.2.1==1) (some (r4.1,((10,(0,(ByteArray.empty,(ByteArray.empty,(0,()))))),()))) (cond (r4.2.1==3) ((ah.f k r4.1 [(-1),3]).bind fun r5=>some (r5.1,((r1.2.1,(r5.2.1,(r3.2.1,(ByteArray.empty,(0,()))))),()))) (cond (r4.2.1==4) ((d8.f k r4.1 [(⟨#[]⟩:ByteArray),(⟨#[110,105,110,101,98,121,116,101,115]⟩:ByteArray)]).bind fun r6=>some (r6.1,((r1.2.1,(r2.2.1,(r6.2.1,(ByteArray.empty,(0,()))))),()))) (cond (r4.2.1==5) ((ah.f k r4.1 [0,12]).bind fun r7=>some (r7.1,((r7.2.1,(r2.2.1,(r3.2.1,(ByteArray.empty,(0,()))))),()))) (some (r4.1,((r1.2.1,(r2.2.1,(r3.2.1,(ByteArray.empty,(0,()))))),()))))))) (cond (r4.2.1==2) (some (r4.1,((10,(0,(ByteArray.empty,(ByteArray.empty,(0,()))))),()))) (cond (r4.2.1==3) ((ah.f k r4.1 [(-1),3]).bind fun r8=>some (r8.1,((r1.2.1,(r8.2.1,(r3.2.1,(ByteArray.empty,(0,()))))),()))) (cond (r4.2.1==4) ((d8.f k r4.1 [(⟨#[]⟩:ByteArray),(⟨#[110,105,110,101,98,121,116,101,115]⟩:ByteArray)]).bind fun r9=>some (r9.1,((r1.2.1,(r2.2.1,(r9.2.1,(ByteArray.empty,(0,()))))),()))) (cond (r4.2.1==5) ((ah.f k r4.1 [0,12]).bind fun r10=>some (r10.1,((r10.2.1,(r2.2.1,(r3.2.1,(ByteArray.empty,(0,()))))),()))) (some (r4.1,((r1.2.1,(r2.2.1,(r3.2.1,(ByteArray.empty,(0,()))))),()))))))))) (cond (r1.2.1==3) ((jE.f k r2.1).bind fun r11=>(fR.f k r11.1 12).bind fun r12=>(bS.f k r12.1 40).bind fun r13=>cond (r13.2.1==0) (some (r13.1,((9,(0,(ByteArray.empty,(ByteArray.empty,(0,()))))),()))) (cond (r13.2.1==1) (cond (r13.2.1==1) (some (r13.1,((10,(0,(ByteArray.empty,(ByteArray.empty,(0,()))))),()))) (cond (r13.2.1==3) ((ah.f k r13.1 [(-1),3]).bind fun r14=>some (r14.1,((r1.2.1,(r14.2.1,(r11.2.1,(r12.2.1,(0,()))))),()))) (cond (r13.2.1==4) ((d8.f k r13.1 [(⟨#[]⟩:ByteArray),(⟨#[110,105,110,101,98,121,116,101,115]⟩:ByteArray)]).bind fun r15=>some (r15.1,((r1.2.1,(r2.2.1,(r15.2.1,(r12.2.1,(0,()))))),()))) (cond (r13.2.1==5) ((ah.f k r13.1 [0,12]).bind fun r16=>some (r16.1,((r16.2.1,(r2.2.1,(r11.2.1,(r12.2.1,(0,()))))),()))) (some (r13.1,((r1.2.1,(r2.2.1,(r11.2.1,(r12.2.1,(0,()))))),()))))))) (cond (r13.2.1==2) (some (r13.1,((10,(0,(ByteArray.empty,(ByteArray.empty,(0,()))))),()))) (cond (r13.2.1==3) ((ah.f k r13.1 [(-1),3]).bind fun r17=>some (r17.1,((r1.2.1,(r17.2.1,(r11.2.1,(r12.2.1,(0,()))))),()))) (cond (r13.2.1==4) ((d8.f k r13.1 [(⟨#[]⟩:ByteArray),(⟨#[110,105,110,101,98,121,116,101,115]⟩:ByteArray)]).bind fun r18=>some (r18.1,((r1.2.1,(r2.2.1,(r18.2.1,(r12.2.1,(0,()))))),()))) (cond (r13.2.1==5) ((ah.f k r13.1 [0,12]).bind fun r19=>some (r19.1,((r19.2.1,(r2.2.1,(r11.2.1,(r12.2.1,(0,()))))),()))) (some (r13.1,((r1.2.1,(r2.2.1,(r11.2.1,(r12.2.1,(0,()))))),()))))))))) ((bS.f k r2.1 40).bind fun r20=>cond (r20.2.1==0) (some (r20.1,((9,(0,(ByteArray.empty,(ByteArray.empty,(0,()))))),()))) (cond (r20.2.1==1) (cond (r20.2.1==1) (some (r20.1,((10,(0,(ByteArray.empty,(ByteArray.empty,(0,()))))),()))) (cond (r20.2.1==3) ((ah.f k r20.1 [(-1),3]).bind fun r21=>some (r21.1,((r1.2.1,(r21.2.1,(ByteArray.empty,(ByteArray.empty,(0,()))))),()))) (cond (r20.2.1==4) ((d8.f k r20.1 [(⟨#[]⟩:ByteArray),(⟨#[110,105,110,101,98,121,116,101,115]⟩:ByteArray)]).bind fun r22=>some (r22.1,((r1.2.1,(r2.2.1,(r22.2.1,(ByteArray.empty,(0,()))))),()))) (cond (r20.2.1==5) ((ah.f k r20.1 [0,12]).bind fun r23=>some (r23.1,((r23.2.1,(r2.2.1,(ByteArray.empty,(ByteArray.empty,(0,()))))),()))) (some (r20.1,((r1.2.1,(r2.2.1,(ByteArray.empty,(ByteArray.empty,(0,()))))),()))))))) (cond (r20.2.1==2) (some (r20.1,((10,(0,(ByteArray.empty,(ByteArray.empty,(0,()))))),()))) (cond (r20.2.1==3) ((ah.f k r20.1 [(-1),3]).bind fun r24=>some (r24.1,((r1.2.1,(r24.2.1,(ByteArray.empty,(ByteArray.empty,(0,()))))),()))) (cond (r20.2.1==4) ((d8.f k r20.1 [(⟨#[]⟩:ByteArray),(⟨#[110,105,110,101,98,121,116,101,115]⟩:ByteArray)]).bind fun r25=>some (r25.1,((r1.2.1,(r2.2.1,(r25.2.1,(ByteArray.empty,(0,()))))),()))) (cond (r20.2.1==5) ((ah.f k r20.1 [0,12]).bind fun r26=>some (r26.1,((r26.2.1,(r2.2.1,(ByteArray.empty,(ByteArray.empty,(0,()))))),()))) (some (r20.1,((r1.2.1,(r2.2.1,(ByteArray.empty,(ByteArray.empty,(0,()))))),()))))))))))) (cond (r1.2.1==4) ((jE.f k r2.1).bind fun r27=>(bS.f k r27.1 40).bind fun r28=>cond (r28.2.1==0) (some (r28.1,((9,(0,(ByteArray.empty,(ByteArray.empty,(0,()))))),()))) (cond (r28.2.1==1) (cond (r28.2.1==1) (some (r28.1,((10,(0,(ByteArray.empty,(ByteArray.empty,(0,()))))),()))) (cond (r28.2.1==3) ((ah.f k r28.1 [(-1),3]).bind fun r29=>some (r29.1,((r1.2.1,(r29.2.1,(r27.2.1,(ByteArray.empty,(0,()))))),()))) (cond (r28.2.1==4) ((d8.f k r28.1 [(⟨#[]⟩:ByteArray),(⟨#[110,105,110,101,98,121,116,101,115]⟩:ByteArray)]).bind fun r30=>some (r30.1,((r1.2.1,(r2.2.1,(r30.2.1,(ByteArray.empty,(0,()))))),()))) (cond (r28.2.1==5) ((ah.f k r28.1 [0,12]).bind fun r31=>some (r31.1,((r31.2.1,(r2.2.1,(r27.2.1,(ByteArray.empty,(0,()))))),()))) (some (r28.1,((r1.2.1,(r2.2.1,(r27.2.1,(ByteArray.empty,(0,()))))),()))))))) (cond (r28.2.1==2) (some (r28.1,((10,(0,(ByteArray.empty,(ByteArray.empty,(0,()))))),()))) (cond (r28.2.1==3) ((ah.f k r28.1 [(-1),3]).bind fun r32=>some (r32.1,((r1.2.1,(r32.2.1,(r27.2.1,(ByteArray.empty,(0,()))))),()))) (cond (r28.2.1==4) ((d8.f k r28.1 [(⟨#[]⟩:ByteArray),(⟨#[110,105,110,101,98,121,116,101,115]⟩:ByteArray)]).bind fun r33=>some (r33.1,((r1.2.1,(r2.2.1,(r33.2.1,(ByteArray.empty,(0,()))))),()))) (cond (r28.2.1==5) ((ah.f k r28.1 [0,12]).bind fun r34=>some (r34.1,((r34.2.1,(r2.2.1,(r27.2.1,(ByteArray.empty,(0,()))))),()))) (some (r28.1,((r1.2.1,(r2.2.1,(r27.2.1,(ByteArray.empty,(0,()))))),()))))))))) (cond (r1.2.1==3) ((jE.f k r2.1).bind fun r35=>(fR.f k r35.1 12).bind fun r36=>(bS.f k r36.1 40).bind fun r37=>cond (r37.2.1==0) (some (r37.1,((9,(0,(ByteArray.empty,(ByteArray.empty,(0,()))))),()))) (cond (r37.2.1==1) (cond (r37.2.1==1) (some (r37.1,((10,(0,(ByteArray.empty,(ByteArray.empty,(0,()))))),()))) (cond (r37.2.1==3) ((ah.f k r37.1 [(-1),3]).bind fun r38=>some (r38.1,((r1.2.1,(r38.2.1,(r35.2.1,(r36.2.1,(0,()))))),()))) (cond (r37.2.1==4) ((d8.f k r37.1 [(⟨#[]⟩:ByteArray),(⟨#[110,105,110,101,98,121,116,101,115]⟩:ByteArray)]).bind fun r39=>some (r39.1,((r1.2.1,(r2.2.1,(r39.2.1,(r36.2.1,(0,()))))),()))) (cond (r37.2.1==5) ((ah.f k r37.1 [0,12]).bind fun r40=>some (r40.1,((r40.2.1,(r2.2.1,(r35.2.1,(r36.2.1,(0,()))))),()))) (some (r37.1,((r1.2.1,(r2.2.1,(r35.2.1,(r36.2.1,(0,()))))),()))))))) (cond (r37.2.1==2) (some (r37.1,((10,(0,(ByteArray.empty,(ByteArray.empty,(0,()))))),()))) (cond (r37.2.1==3) ((ah.f k r37.1 [(-1),3]).bind fun r41=>some (r41.1,((r1.2.1,(r41.2.1,(r35.2.1,(r36.2.1,(0,()))))),()))) (cond (r37.2.1==4) ((d8.f k r37.1 [(⟨#[]⟩:ByteArray),(⟨#[110,105,110,101,98,121,116,101,115]⟩:ByteArray)]).bind fun r42=>some (r42.1,((r1.2.1,(r2.2.1,(r42.2.1,(r36.2.1,(0,()))))),()))) (cond (r37.2.1==5) ((ah.f k r37.1 [0,12]).bind fun r43=>some (r43.1,((r43.2.1,(r2.2.1,(r35.2.1,(r36.2.1,(0,()))))),()))) (some (r37.1,((r1.2.1,(r2.2.1,(r35.2.1,(r36.2.1,(0,()))))),()))))))))) ((bS.f k r2.1 40).bind fun r44=>cond (r44.2.1==0) (some (r44.1,((9,(0,(ByteArray.empty,(ByteArray.empty,(0,()))))),()))) (cond (r44.2.1==1) (cond (r44.2.1==1) (some (r44.1,((10,(0,(ByteArray.empty,(ByteArray.empty,(0,()))))),()))) (cond (r44.2.1==3) ((ah.f k r44.1 [(-1),3]).bind fun r45=>some (r45.1,((r1.2.1,(r45.2.1,(ByteArray.empty,(ByteArray.empty,(0,()))))),()))) (cond (r44.2.1==4) ((d8.f k r44.1 [(⟨#[]⟩:ByteArray),(⟨#[110,105,110,101,98,121,116,101,115]⟩:ByteArray)]).bind fun r46=>some (r46.1,((r1.2.1,(r2.2.1,(r46.2.1,(ByteArray.empty,(0,()))))),()))) (cond (r44.2.1==5) ((ah.f k r44.1 [0,12]).bind fun r47=>some (r47.1,((r47.2.1,(r2.2.1,(ByteArray.empty,(ByteArray.empty,(0,()))))),()))) (some (r44.1,((r1.2.1,(r2.2.1,(ByteArray.empty,(ByteArray.empty,(0,()))))),()))))))) (cond (r44.2.1==2) (some (r44.1,((10,(0,(ByteArray.empty,(ByteArray.empty,(0,()))))),()))) (cond (r44.2.1==3) ((ah.f k r44.1 [(-1),3]).bind fun r48=>some (r48.1,((r1.2.1,(r48.2.1,(ByteArray.empty,(ByteArray.empty,(0,()))))),()))) (cond (r44.2.1==4) ((d8.f k r44.1 [(⟨#[]⟩:ByteArray),(⟨#[110,105,110,101,98,121,116,101,115]⟩:ByteArray)]).bind fun r49=>some (r49.1,((r1.2.1,(r2.2.1,(r49.2.1,(ByteArray.empty,(0,()))))),()))) (cond (r44.2.1==5) ((ah.f k r44.1 [0,12]).bind fun r50=>some (r50.1,((r50.2.1,(r2.2.1,(ByteArray.empty,(ByteArray.empty,(0,()))))),()))) (some (r44.1,((r1.2.1,(r2.2.1,(ByteArray.empty,(ByteArray.empty,(0,()))))),()))))))))))))
def f:=t k
end jk
namespace cK
abbrev Rs:Type:=Option (Bool × Unit)
def t (k:Nat) (a0:Int) (a1:Int) (a2:Int):Rs :=
 (cond (decide (a0≥a1)) (some ((decide (a0≤a2)),())) (some (false,())))
def f:=t k
end cK
namespace iA
abbrev Rs:Type:=Option ((Ty.d fz) × Bool × Unit)
def t (a0:Ty.d fz) (a1:Int):Rs :=
 ((bS.f k a0 a1).bind fun r1=>some (r1.1,((r1.2.1==0),())))
def f:=t k
end iA
namespace ez
abbrev Rs:Type:=Option ((Ty.d fz) × (List (Ty.d aH)) × Unit)
abbrev T0:Type:=Int→List Int→Int→Int→List (Ty.d aH)→List Bool→Rs
def b0 (L0:T0):T0:=fun x0 x1 x2 x3 x4 x5 =>
 (cond (decide (x0 > 0)) ((jk.f k (x1,(x2,(x3,())))).bind fun r2=>cond (decide (r2.2.1.1≤6)) ((cK.f k r2.2.1.2.1 0 2).bind fun r3=>cond r3.1 (dR r2.2.1.2.1 (x5.length:Int) (cond (!(x5.getD r2.2.1.2.1.toNat (Ty.z .bool))) ((iA.f k r2.1 8).bind fun r4=>cond (!r4.2.1) (dR r2.2.1.2.1 (x5.length:Int) (cond (x5.getD r2.2.1.2.1.toNat (Ty.z .bool)) ((iA.f k r4.1 8).bind fun r5=>cond (!r5.2.1) (dR r2.2.1.2.1 (x5.length:Int) (let l6:=(x5.set r2.2.1.2.1.toNat false);(rm (Ty.bytes aH) (x4.length+1) (L0 (aQ (x0-1)) r5.1.1 r5.1.2.1 r5.1.2.2.1 (x4++[(5,(r2.2.1.2.1,(ByteArray.empty,(ByteArray.empty,(0,())))))]) l6)))) (dR r2.2.1.2.1 (x5.length:Int) (let l7:=(x5.set r2.2.1.2.1.toNat true);(rm (Ty.bytes aH) (x4.length+1) (L0 (aQ (x0-1)) r5.1.1 r5.1.2.1 r5.1.2.2.1 (x4++[(1,(r2.2.1.2.1,(ByteArray.empty,(ByteArray.empty,(0,())))))]) l7))))) (dR r2.2.1.2.1 (x5.length:Int) (let l8:=(x5.set r2.2.1.2.1.toNat true);(rm (Ty.bytes aH) (x4.length+1) (L0 (aQ (x0-1)) r4.1.1 r4.1.2.1 r4.1.2.2.1 (x4++[(1,(r2.2.1.2.1,(ByteArray.empty,(ByteArray.empty,(0,())))))]) l8)))))) (dR r2.2.1.2.1 (x5.length:Int) (cond (x5.getD r2.2.1.2.1.toNat (Ty.z .bool)) (cond (r2.2.1.1==1) ((iA.f k r4.1 8).bind fun r9=>cond (!r9.2.1) (dR r2.2.1.2.1 (x5.length:Int) (let l10:=(x5.set r2.2.1.2.1.toNat false);(rm (Ty.bytes aH) (x4.length+1) (L0 (aQ (x0-1)) r9.1.1 r9.1.2.1 r9.1.2.2.1 (x4++[(5,r2.2.1.2)]) l10)))) (cond (r2.2.1.1 != 5) (dR r2.2.1.2.1 (x5.length:Int) (let l11:=(x5.set r2.2.1.2.1.toNat (r2.2.1.1 != 6));(cond (r2.2.1.1==9) (yl (Ty.bytes .bool) 3 (rm (Ty.bytes aH) (x4.length+1) (rm (Ty.bytes aH) (List.length (x4++[r2.2.1])+1) (L0 (aQ (x0-1)) r9.1.1 r9.1.2.1 r9.1.2.2.1 ((x4++[r2.2.1])++[(10,(0,(ByteArray.empty,(ByteArray.empty,(0,())))))]) (List.replicate (Int.toNat 3) (Ty.z .bool)))))) (rm (Ty.bytes aH) (x4.length+1) (L0 (aQ (x0-1)) r9.1.1 r9.1.2.1 r9.1.2.2.1 (x4++[r2.2.1]) l11))))) (dR r2.2.1.2.1 (x5.length:Int) (let l12:=(x5.set r2.2.1.2.1.toNat false);(cond (r2.2.1.1==9) (yl (Ty.bytes .bool) 3 (rm (Ty.bytes aH) (x4.length+1) (rm (Ty.bytes aH) (List.length (x4++[r2.2.1])+1) (L0 (aQ (x0-1)) r9.1.1 r9.1.2.1 r9.1.2.2.1 ((x4++[r2.2.1])++[(10,(0,(ByteArray.empty,(ByteArray.empty,(0,())))))]) (List.replicate (Int.toNat 3) (Ty.z .bool)))))) (rm (Ty.bytes aH) (x4.length+1) (L0 (aQ (x0-1)) r9.1.1 r9.1.2.1 r9.1.2.2.1 (x4++[r2.2.1]) l12))))))) (cond (r2.2.1.1 != 5) (dR r2.2.1.2.1 (x5.length:Int) (let l13:=(x5.set r2.2.1.2.1.toNat (r2.2.1.1 != 6));(cond (r2.2.1.1==9) (yl (Ty.bytes .bool) 3 (rm (Ty.bytes aH) (x4.length+1) (rm (Ty.bytes aH) (List.length (x4++[r2.2.1])+1) (L0 (aQ (x0-1)) r4.1.1 r4.1.2.1 r4.1.2.2.1 ((x4++[r2.2.1])++[(10,(0,(ByteArray.empty,(ByteArray.empty,(0,())))))]) (List.replicate (Int.toNat 3) (Ty.z .bool)))))) (rm (Ty.bytes aH) (x4.length+1) (L0 (aQ (x0-1)) r4.1.1 r4.1.2.1 r4.1.2.2.1 (x4++[r2.2.1]) l13))))) (dR r2.2.1.2.1 (x5.length:Int) (let l14:=(x5.set r2.2.1.2.1.toNat false);(cond (r2.2.1.1==9) (yl (Ty.bytes .bool) 3 (rm (Ty.bytes aH) (x4.length+1) (rm (Ty.bytes aH) (List.length (x4++[r2.2.1])+1) (L0 (aQ (x0-1)) r4.1.1 r4.1.2.1 r4.1.2.2.1 ((x4++[r2.2.1])++[(10,(0,(ByteArray.empty,(ByteArray.empty,(0,())))))]) (List.replicate (Int.toNat 3) (Ty.z .bool)))))) (rm (Ty.bytes aH) (x4.length+1) (L0 (aQ (x0-1)) r4.1.1 r4.1.2.1 r4.1.2.2.1 (x4++[r2.2.1]) l14))))))) (cond (r2.2.1.1 != 5) (dR r2.2.1.2.1 (x5.length:Int) (let l15:=(x5.set r2.2.1.2.1.toNat (r2.2.1.1 != 6));(cond (r2.2.1.1==9) (yl (Ty.bytes .bool) 3 (rm (Ty.bytes aH) (x4.length+1) (rm (Ty.bytes aH) (List.length (x4++[r2.2.1])+1) (L0 (aQ (x0-1)) r4.1.1 r4.1.2.1 r4.1.2.2.1 ((x4++[r2.2.1])++[(10,(0,(ByteArray.empty,(ByteArray.empty,(0,())))))]) (List.replicate (Int.toNat 3) (Ty.z .bool)))))) (rm (Ty.bytes aH) (x4.length+1) (L0 (aQ (x0-1)) r4.1.1 r4.1.2.1 r4.1.2.2.1 (x4++[r2.2.1]) l15))))) (dR r2.2.1.2.1 (x5.length:Int) (let l16:=(x5.set r2.2.1.2.1.toNat false);(cond (r2.2.1.1==9) (yl (Ty.bytes .bool) 3 (rm (Ty.bytes aH) (x4.length+1) (rm (Ty.bytes aH) (List.length (x4++[r2.2.1])+1) (L0 (aQ (x0-1)) r4.1.1 r4.1.2.1 r4.1.2.2.1 ((x4++[r2.2.1])++[(10,(0,(ByteArray.empty,(ByteArray.empty,(0,())))))]) (List.replicate (Int.toNat 3) (Ty.z .bool)))))) (rm (Ty.bytes aH) (x4.length+1) (L0 (aQ (x0-1)) r4.1.1 r4.1.2.1 r4.1.2.2.1 (x4++[r2.2.1]) l16))))))))) (dR r2.2.1.2.1 (x5.length:Int) (cond (x5.getD r2.2.1.2.1.toNat (Ty.z .bool)) (cond (r2.2.1.1==1) ((iA.f k r2.1 8).bind fun r17=>cond (!r17.2.1) (dR r2.2.1.2.1 (x5.length:Int) (let l18:=(x5.set r2.2.1.2.1.toNat false);(rm (Ty.bytes aH) (x4.length+1) (L0 (aQ (x0-1)) r17.1.1 r17.1.2.1 r17.1.2.2.1 (x4++[(5,r2.2.1.2)]) l18)))) (cond (r2.2.1.1 != 5) (dR r2.2.1.2.1 (x5.length:Int) (let l19:=(x5.set r2.2.1.2.1.toNat (r2.2.1.1 != 6));(cond (r2.2.1.1==9) (yl (Ty.bytes .bool) 3 (rm (Ty.bytes aH) (x4.length+1) (rm (Ty.bytes aH) (List.length (x4++[r2.2.1])+1) (L0 (aQ (x0-1)) r17.1.1 r17.1.2.1 r17.1.2.2.1 ((x4++[r2.2.1])++[(10,(0,(ByteArray.empty,(ByteArray.empty,(0,())))))]) (List.replicate (Int.toNat 3) (Ty.z .bool)))))) (rm (Ty.bytes aH) (x4.length+1) (L0 (aQ (x0-1)) r17.1.1 r17.1.2.1 r17.1.2.2.1 (x4++[r2.2.1]) l19))))) (dR r2.2.1.2.1 (x5.length:Int) (let l20:=(x5.set r2.2.1.2.1.toNat false);(cond (r2.2.1.1==9) (yl (Ty.bytes .bool) 3 (rm (Ty.bytes aH) (x4.length+1) (rm (Ty.bytes aH) (List.length (x4++[r2.2.1])+1) (L0 (aQ (x0-1)) r17.1.1 r17.1.2.1 r17.1.2.2.1 ((x4++[r2.2.1])++[(10,(0,(ByteArray.empty,(ByteArray.empty,(0,())))))]) (List.replicate (Int.toNat 3) (Ty.z .bool)))))) (rm (Ty.bytes aH) (x4.length+1) (L0 (aQ (x0-1)) r17.1.1 r17.1.2.1 r17.1.2.2.1 (x4++[r2.2.1]) l20))))))) (cond (r2.2.1.1 != 5) (dR r2.2.1.2.1 (x5.length:Int) (let l21:=(x5.set r2.2.1.2.1.toNat (r2.2.1.1 != 6));(cond (r2.2.1.1==9) (yl (Ty.bytes .bool) 3 (rm (Ty.bytes aH) (x4.length+1) (rm (Ty.bytes aH) (List.length (x4++[r2.2.1])+1) (L0 (aQ (x0-1)) r2.1.1 r2.1.2.1 r2.1.2.2.1 ((x4++[r2.2.1])++[(10,(0,(ByteArray.empty,(ByteArray.empty,(0,())))))]) (List.replicate (Int.toNat 3) (Ty.z .bool)))))) (rm (Ty.bytes aH) (x4.length+1) (L0 (aQ (x0-1)) r2.1.1 r2.1.2.1 r2.1.2.2.1 (x4++[r2.2.1]) l21))))) (dR r2.2.1.2.1 (x5.length:Int) (let l22:=(x5.set r2.2.1.2.1.toNat false);(cond (r2.2.1.1==9) (yl (Ty.bytes .bool) 3 (rm (Ty.bytes aH) (x4.length+1) (rm (Ty.bytes aH) (List.length (x4++[r2.2.1])+1) (L0 (aQ (x0-1)) r2.1.1 r2.1.2.1 r2.1.2.2.1 ((x4++[r2.2.1])++[(10,(0,(ByteArray.empty,(ByteArray.empty,(0,())))))]) (List.replicate (Int.toNat 3) (Ty.z .bool)))))) (rm (Ty.bytes aH) (x4.length+1) (L0 (aQ (x0-1)) r2.1.1 r2.1.2.1 r2.1.2.2.1 (x4++[r2.2.1]) l22))))))) (cond (r2.2.1.1 != 5) (dR r2.2.1.2.1 (x5.length:Int) (let l23:=(x5.set r2.2.1.2.1.toNat (r2.2.1.1 != 6));(cond (r2.2.1.1==9) (yl (Ty.bytes .bool) 3 (rm (Ty.bytes aH) (x4.length+1) (rm (Ty.bytes aH) (List.length (x4++[r2.2.1])+1) (L0 (aQ (x0-1)) r2.1.1 r2.1.2.1 r2.1.2.2.1 ((x4++[r2.2.1])++[(10,(0,(ByteArray.empty,(ByteArray.empty,(0,())))))]) (List.replicate (Int.toNat 3) (Ty.z .bool)))))) (rm (Ty.bytes aH) (x4.length+1) (L0 (aQ (x0-1)) r2.1.1 r2.1.2.1 r2.1.2.2.1 (x4++[r2.2.1]) l23))))) (dR r2.2.1.2.1 (x5.length:Int) (let l24:=(x5.set r2.2.1.2.1.toNat false);(cond (r2.2.1.1==9) (yl (Ty.bytes .bool) 3 (rm (Ty.bytes aH) (x4.length+1) (rm (Ty.bytes aH) (List.length (x4++[r2.2.1])+1) (L0 (aQ (x0-1)) r2.1.1 r2.1.2.1 r2.1.2.2.1 ((x4++[r2.2.1])++[(10,(0,(ByteArray.empty,(ByteArray.empty,(0,())))))]) (List.replicate (Int.toNat 3) (Ty.z .bool)))))) (rm (Ty.bytes aH) (x4.length+1) (L0 (aQ (x0-1)) r2.1.1 r2.1.2.1 r2.1.2.2.1 (x4++[r2.2.1]) l24)))))))))) (cond (r2.2.1.1==9) (yl (Ty.bytes .bool) 3 (rm (Ty.bytes aH) (x4.length+1) (rm (Ty.bytes aH) (List.length (x4++[r2.2.1])+1) (L0 (aQ (x0-1)) r2.1.1 r2.1.2.1 r2.1.2.2.1 ((x4++[r2.2.1])++[(10,(0,(ByteArray.empty,(ByteArray.empty,(0,())))))]) (List.replicate (Int.toNat 3) (Ty.z .bool)))))) (rm (Ty.bytes aH) (x4.length+1) (L0 (aQ (x0-1)) r2.1.1 r2.1.2.1 r2.1.2.2.1 (x4++[r2.2.1]) x5)))) (cond (r2.2.1.1==9) (yl (Ty.bytes .bool) 3 (rm (Ty.bytes aH) (x4.length+1) (rm (Ty.bytes aH) (List.length (x4++[r2.2.1])+1) (L0 (aQ (x0-1)) r2.1.1 r2.1.2.1 r2.1.2.2.1 ((x4++[r2.2.1])++[(10,(0,(ByteArray.empty,(ByteArray.empty,(0,())))))]) (List.replicate (Int.toNat 3) (Ty.z .bool)))))) (rm (Ty.bytes aH) (x4.length+1) (L0 (aQ (x0-1)) r2.1.1 r2.1.2.1 r2.1.2.2.1 (x4++[r2.2.1]) x5)))) (some ((x1,(x2,(x3,()))),(x4,()))))
def l0:Nat→T0
 | 0=>fun _ _ _ _ _ _=>none
 | n+1=>b0 k (l0 n)
def t (L0:T0) (a0:Ty.d fz) (a1:Int):Rs :=
 (yl (Ty.bytes .bool) 3 ((bS.f k a0 (aQ (a1+1))).bind fun r1=>L0 r1.2.1 r1.1.1 r1.1.2.1 r1.1.2.2.1 [] (List.replicate (Int.toNat 3) (Ty.z .bool))))
def f:=t k (l0 k k)
end ez
namespace fU
abbrev Rs:Type:=Option ((List (Ty.d aH)) × Unit)
def t (a0:List Int):Rs :=
 ((gu.f k a0).bind fun r1=>(ez.f k r1.2.1 60).bind fun r2=>some r2.2)
def f:=t k
end fU
namespace lh
abbrev Rs:Type:=Option ((Ty.d z_) × Unit)
def t (k:Nat) (a0:List (Ty.d aH)):Rs :=
 (some ((100000,((-1),(a0,()))),()))
def f:=t k
end lh
namespace aZ
abbrev Rs:Type:=Option (Bool × Unit)
def t (k:Nat) (a0:Int) (a1:Int) (a2:Int):Rs :=
 (cond (decide (a0≥a1)) (some ((decide (a0≤a2)),())) (some (false,())))
def f:=t k
end aZ
namespace jh
abbrev Rs:Type:=Option ((Ty.d aA) × Unit)
def t (a0:Int):Rs :=
 ((aZ.f k a0 0 100000).bind fun r1=>cond (!r1.1) (some (([],(0,(0,(false,())))),())) (some (([],(a0,((-1),(false,())))),())))
def f:=t k
end jh
namespace bD
abbrev Rs:Type:=Option ((Ty.d aA) × Unit)
def t (k:Nat) (a0:Ty.d aA):Rs :=
 (rm (Ty.bytes aB) (a0.1.length) (some (a0,())))
def f:=t k
end bD
namespace eN
abbrev Rs:Type:=Option (Bool × Unit)
abbrev T0:Type:=ByteArray→Int→Rs
def b0 (L0:T0):T0:=fun x0 x1 =>
 (cond (decide (x1<(x0.size:Int))) (dR x1 (x0.size:Int) (cond (decide ((jT x0 x1)≥97)) (dR x1 (x0.size:Int) (cond (!(decide ((jT x0 x1)≤122))) (dR x1 (x0.size:Int) (cond (decide ((jT x0 x1)≥48)) (dR x1 (x0.size:Int) (cond (!(decide ((jT x0 x1)≤57))) (some (false,())) (L0 x0 (aQ (x1+1))))) (some (false,())))) (L0 x0 (aQ (x1+1))))) (dR x1 (x0.size:Int) (cond (decide ((jT x0 x1)≥48)) (dR x1 (x0.size:Int) (cond (!(decide ((jT x0 x1)≤57))) (some (false,())) (L0 x0 (aQ (x1+1))))) (some (false,())))))) ((aZ.f k (x0.size:Int) 1 12).bind fun r1=>some r1))
def l0:Nat→T0
 | 0=>fun _ _=>none
 | n+1=>b0 k (l0 n)
def t (k:Nat) (L0:T0) (a0:ByteArray):Rs :=
 (L0 a0 0)
def f:=t k (l0 k k)
end eN
namespace ay
abbrev Rs:Type:=Option (Bool × Unit)
abbrev T0:Type:=Int→List (Ty.d aB)→Int→Int→List (Ty.d aB)→Int→Int→Bool→Rs
def b0 (L0:T0):T0:=fun x0 x1 x2 x3 x4 x5 x6 x7 =>
 (cond (decide (x3<x2)) (dR x3 (x1.length:Int) ((eN.f k (x1.getD x3.toNat (Ty.z aB)).1).bind fun r3=>cond (!r3.1) (some (false,())) ((aZ.f k (x1.getD x3.toNat (Ty.z aB)).2.2.1 0 (ByteArray.size (x1.getD x3.toNat (Ty.z aB)).2.1:Int)).bind fun r4=>cond (!r4.1) (some (false,())) (cond (decide (x3 > 0)) (dR (aQ (x3-1)) (x4.length:Int) (cond (!(nd (x4.getD (aQ (x3-1)).toNat (Ty.z aB)).1 (x1.getD x3.toNat (Ty.z aB)).1)) (some (false,())) (L0 (aQ (x0+(ByteArray.size (x1.getD x3.toNat (Ty.z aB)).2.1:Int))) x1 x2 (aQ (x3+1)) x4 x5 x6 x7))) (L0 (aQ (x0+(ByteArray.size (x1.getD x3.toNat (Ty.z aB)).2.1:Int))) x1 x2 (aQ (x3+1)) x4 x5 x6 x7))))) (some ((decide (x0≤x5)),())))
def l0:Nat→T0
 | 0=>fun _ _ _ _ _ _ _ _=>none
 | n+1=>b0 k (l0 n)
def t (L0:T0) (a0:Ty.d aA):Rs :=
 (cond (decide ((a0.1.length:Int) > 130)) (some (false,())) ((aZ.f k a0.2.1 0 100000).bind fun r1=>cond (!r1.1) (some (false,())) ((aZ.f k a0.2.2.1 (-1) 100000).bind fun r2=>cond (!r2.1) (some (false,())) (L0 0 a0.1 (a0.1.length:Int) 0 a0.1 a0.2.1 a0.2.2.1 a0.2.2.2.1))))
def f:=t k (l0 k k)
end ay
namespace j5
abbrev Rs:Type:=Option ((Ty.d aA) × Unit)
def t (a0:Ty.d aA) (a1:Int):Rs :=
 ((bD.f k a0).bind fun r1=>(ay.f k a0).bind fun r2=>cond r2.1 ((aZ.f k a1 (-1) 100000).bind fun r3=>cond r3.1 (some ((r1.1.1,(r1.1.2.1,(a1,(false,())))),())) (some r1)) (some r1))
def f:=t k
end j5
namespace bd
abbrev Rs:Type:=Option (Int × Unit)
abbrev T0:Type:=ByteArray→List (Ty.d aB)→Int→Int→Rs
def b0 (k:Nat) (L0:T0):T0:=fun x0 x1 x2 x3 =>
 (cond (decide (x3<x2)) (dR x3 (x1.length:Int) (cond (seq (x1.getD x3.toNat (Ty.z aB)).1 x0) (some (x3,())) (L0 x0 x1 x2 (aQ (x3+1))))) (some ((-1),())))
def l0:Nat→T0
 | 0=>fun _ _ _ _=>none
 | n+1=>b0 k (l0 n)
def t (k:Nat) (L0:T0) (a0:Ty.d aA) (a1:ByteArray):Rs :=
 (L0 a1 a0.1 (a0.1.length:Int) 0)
def f:=t k (l0 k k)
end bd
namespace bu
abbrev Rs:Type:=Option (ByteArray × Bool × Unit)
def t (a0:Ty.d aA) (a1:ByteArray):Rs :=
 ((bd.f k a0 a1).bind fun r1=>cond (decide (r1.1<0)) (some ((⟨#[]⟩:ByteArray),(false,()))) ((ay.f k a0).bind fun r2=>cond (!r2.1) (some ((⟨#[]⟩:ByteArray),(false,()))) (dR r1.1 (a0.1.length:Int) (some ((a0.1.getD r1.1.toNat (Ty.z aB)).2.1,(true,()))))))
def f:=t k
end bu
namespace dE
abbrev Rs:Type:=Option (Int × Int × Unit)
abbrev T0:Type:=ByteArray→Int→Int→Rs
def b0 (k:Nat) (L0:T0):T0:=fun x0 x1 x2 =>
 (cond (decide (x2<7)) (cond (decide (x2<(x0.size:Int))) (dR x2 (x0.size:Int) (bif (decide ((aQ (7*x2))<0)) then none else (cond (decide ((aQ (jT x0 x2))≥128)) (L0 x0 (aQ (x1+(aQ ((Int.tmod (aQ (jT x0 x2)) 128)*2 ^ (min (aQ (7*x2)).toNat (IntKind.bits .i64)))))) (aQ (x2+1))) (cond ((aQ (jT x0 x2))==0) (cond (decide (x2 > 0)) (some (0,(0,()))) (some ((aQ (x1+(aQ ((Int.tmod (aQ (jT x0 x2)) 128)*2 ^ (min (aQ (7*x2)).toNat (IntKind.bits .i64)))))),((aQ (x2+1)),())))) (some ((aQ (x1+(aQ ((Int.tmod (aQ (jT x0 x2)) 128)*2 ^ (min (aQ (7*x2)).toNat (IntKind.bits .i64)))))),((aQ (x2+1)),()))))))) (some (0,(0,())))) (some (0,(0,()))))
def l0:Nat→T0
 | 0=>fun _ _ _=>none
 | n+1=>b0 k (l0 n)
def t (k:Nat) (L0:T0) (a0:ByteArray):Rs :=
 (L0 a0 0 0)
def f:=t k (l0 k k)
end dE
namespace fi
abbrev Rs:Type:=Option (ByteArray × Unit)
abbrev T0:Type:=Int→List Int→Rs
def b0 (k:Nat) (L0:T0):T0:=fun x0 x1 =>
 (cond (decide (x0 > 127)) (rm (Ty.bytes (.int .u8)) (x1.length+1) (L0 (aQ (Int.tdiv x0 128)) (x1++[(IntKind.wrap .u8 (aQ ((Int.tmod x0 128)+128)))]))) (rm (Ty.bytes (.int .u8)) (x1.length+1) (some ((bytesOf (x1++[(IntKind.wrap .u8 x0)])),()))))
def l0:Nat→T0
 | 0=>fun _ _=>none
 | n+1=>b0 k (l0 n)
def t (L0:T0) (a0:Int):Rs :=
 ((aZ.f k a0 0 562949953421311).bind fun r1=>cond (!r1.1) (some ((⟨#[]⟩:ByteArray),())) (L0 a0 []))
def f:=t k (l0 k k)
end fi
namespace eJ
abbrev Rs:Type:=Option (ByteArray × Unit)
def t (a0:ByteArray):Rs :=
 ((fi.f k (a0.size:Int)).bind fun r1=>oV r1.1 a0 (some ((r1.1++a0),())))
def f:=t k
end eJ
namespace gT
abbrev Rs:Type:=Option (Int × Unit)
abbrev T1:Type:=ByteArray→Int→Int→Int→Rs
abbrev T0:Type:=ByteArray→Int→Int→Rs
def b1 (k:Nat) (L0:T0) (L1:T1):T1:=fun x0 x1 x2 x3 =>
 (cond (decide (x3<8)) (cond ((IntKind.wrap .u32 (((BitVec.ofInt (IntKind.bits .u32) x1 &&& BitVec.ofInt (IntKind.bits .u32) 1).toNat:Int)))==1) (L1 x0 (IntKind.wrap .u32 (((BitVec.ofInt (IntKind.bits .u32) (Int.fdiv x1 (2 ^ (Int.toNat 1))) ^^^ BitVec.ofInt (IntKind.bits .u32) 2197175160).toNat:Int))) x2 (aQ (x3+1))) (L1 x0 (Int.fdiv x1 (2 ^ (Int.toNat 1))) x2 (aQ (x3+1)))) (L0 x0 x1 (aQ (x2+1))))
def l1 (L0:T0):Nat→T1
 | 0=>fun _ _ _ _=>none
 | n+1=>b1 k L0 (l1 L0 n)
def b0 (k:Nat) (L1:T1) (L0:T0):T0:=fun x0 x1 x2 =>
 (cond (decide (x2<(x0.size:Int))) (dR x2 (x0.size:Int) (L1 x0 (IntKind.wrap .u32 (((BitVec.ofInt (IntKind.bits .u32) x1 ^^^ BitVec.ofInt (IntKind.bits .u32) (IntKind.wrap .u32 (jT x0 x2))).toNat:Int))) x2 0)) (some ((aQ (He .u32 x1)),())))
def l0:Nat→T0
 | 0=>fun _ _ _=>none
 | n+1=>b0 k (l1 k (l0 n) k) (l0 n)
def t (k:Nat) (L0:T0) (a0:ByteArray):Rs :=
 (L0 a0 4294967295 0)
def f:=t k (l0 k k)
end gT
namespace dm
abbrev Rs:Type:=Option (ByteArray × Unit)
abbrev T0:Type:=Int→Int→List Int→Rs
def b0 (k:Nat) (L0:T0):T0:=fun x0 x1 x2 =>
 (cond (decide (x1≥0)) (bif (decide ((aQ (8*x1))<0)) then none else (rm (Ty.bytes (.int .u8)) (x2.length+1) (L0 x0 (aQ (x1-1)) (x2++[(IntKind.wrap .u8 (Int.fdiv x0 (2 ^ (min (aQ (8*x1)).toNat (IntKind.bits .i64)))))])))) (some ((bytesOf x2),())))
def l0:Nat→T0
 | 0=>fun _ _ _=>none
 | n+1=>b0 k (l0 n)
def t (L0:T0) (a0:Int) (a1:Int):Rs :=
 ((aZ.f k a1 1 7).bind fun r1=>cond (!r1.1) (some ((⟨#[]⟩:ByteArray),())) (bif (decide ((aQ (8*a1))<0)) then none else ((aZ.f k a0 0 (aQ ((aQ (1*2 ^ (min (aQ (8*a1)).toNat (IntKind.bits .i64))))-1))).bind fun r2=>cond (!r2.1) (some ((⟨#[]⟩:ByteArray),())) (L0 a0 (aQ (a1-1)) []))))
def f:=t k (l0 k k)
end dm
namespace gk
abbrev Rs:Type:=Option (ByteArray × Unit)
def t (a0:ByteArray):Rs :=
 (cond (decide ((a0.size:Int) > 200)) (some ((⟨#[]⟩:ByteArray),())) ((eJ.f k a0).bind fun r1=>(gT.f k r1.1).bind fun r2=>(dm.f k r2.1 4).bind fun r3=>oV r3.1 r1.1 (some ((r3.1++r1.1),()))))
def f:=t k
end gk
namespace eC
abbrev Rs:Type:=Option (ByteArray × Int × Unit)
def t (a0:ByteArray):Rs :=
 (cond (decide ((a0.size:Int)<4)) (some ((⟨#[]⟩:ByteArray),(0,()))) (pS 4 (a0.size:Int) ((dE.f k (a0.extract 4 (a0.size))).bind fun r1=>cond (r1.2.1==0) (some ((⟨#[]⟩:ByteArray),(0,()))) (cond (decide (r1.1 > 200)) (some ((⟨#[]⟩:ByteArray),(0,()))) (cond (decide (r1.1 > (aQ ((aQ ((a0.size:Int)-4))-r1.2.1)))) (some ((⟨#[]⟩:ByteArray),(0,()))) (KC (aQ (4+r1.2.1)) (aQ ((aQ (4+r1.2.1))+r1.1)) (a0.size:Int) ((gk.f k (a0.extract (aQ (4+r1.2.1)).toNat (aQ ((aQ (4+r1.2.1))+r1.1)).toNat)).bind fun r2=>pS (aQ ((aQ (4+r1.2.1))+r1.1)) (a0.size:Int) (cond (!(seq r2.1 (a0.extract 0 (aQ ((aQ (4+r1.2.1))+r1.1)).toNat))) (some ((⟨#[]⟩:ByteArray),(0,()))) (some ((a0.extract (aQ (4+r1.2.1)).toNat (aQ ((aQ (4+r1.2.1))+r1.1)).toNat),((aQ ((aQ (4+r1.2.1))+r1.1)),())))))))))))
def f:=t k
end eC
namespace aN
abbrev Rs:Type:=Option ((Ty.d my) × Int × Unit)
def t (a0:Ty.d my):Rs :=
 ((dE.f k a0.1).bind fun r1=>cond a0.2.1 (some ((a0.1,(true,())),(0,()))) (cond (r1.2.1==0) (some ((a0.1,(true,())),(0,()))) (pS r1.2.1 (a0.1.size:Int) (some (((a0.1.extract r1.2.1.toNat (a0.1.size)),a0.2),(r1.1,()))))))
def f:=t k
end aN
namespace dM
abbrev Rs:Type:=Option (Bool × Unit)
abbrev T0:Type:=List Int→Int→Int→Int→List Int→Rs
def b0 (L0:T0):T0:=fun x0 x1 x2 x3 x4 =>
 (cond (decide (x2<x1)) (dR x2 (x0.length:Int) ((aZ.f k (x0.getD x2.toNat (Ty.z (.int .i64))) 1 (aQ (x3-1))).bind fun r1=>cond (!r1.1) (some (false,())) (cond (decide (x2 > 0)) (dR (aQ (x2-1)) (x4.length:Int) (cond (decide ((x4.getD (aQ (x2-1)).toNat (Ty.z (.int .i64)))≥(x0.getD x2.toNat (Ty.z (.int .i64))))) (some (false,())) (L0 x0 x1 (aQ (x2+1)) x3 x4))) (L0 x0 x1 (aQ (x2+1)) x3 x4)))) ((aZ.f k x3 1 100000).bind fun r2=>cond r2.1 ((aZ.f k (x4.length:Int) 1 60).bind fun r3=>some r3) (some (false,()))))
def l0:Nat→T0
 | 0=>fun _ _ _ _ _=>none
 | n+1=>b0 k (l0 n)
def t (k:Nat) (L0:T0) (a0:Ty.d cv):Rs :=
 (L0 a0.2.1 (a0.2.1.length:Int) 0 a0.1 a0.2.1)
def f:=t k (l0 k k)
end dM
namespace bA
abbrev Rs:Type:=Option ((Ty.d cv) × Bool × Unit)
abbrev T0:Type:=ByteArray→Int→Int→Int→List Int→Int→ByteArray→Bool→List Int→Int→Rs
def b0 (L0:T0):T0:=fun x0 x1 x2 x3 x4 x5 x6 x7 x8 x9 =>
 (cond (decide (x3<x2)) (cond (!x7) ((aN.f k (x6,(x7,()))).bind fun r4=>rm (Ty.bytes (.int .i64)) (x8.length+1) (L0 x0 x1 x2 (aQ (x3+1)) x4 x5 r4.1.1 r4.1.2.1 (x8++[r4.2.1]) x9)) (cond (x1==0) (some ((0,([],())),(false,()))) (cond (x1 != (x0.size:Int)) (some ((0,([],())),(false,()))) (cond x7 (some ((0,([],())),(false,()))) (cond (!(seq x6 (⟨#[]⟩:ByteArray))) (some ((0,([],())),(false,()))) ((dM.f k (x9,(x8,()))).bind fun r5=>cond (!r5.1) (some ((0,([],())),(false,()))) (some ((x9,(x8,())),(true,()))))))))) (cond (x1==0) (some ((0,([],())),(false,()))) (cond (x1 != (x0.size:Int)) (some ((0,([],())),(false,()))) (cond x7 (some ((0,([],())),(false,()))) (cond (!(seq x6 (⟨#[]⟩:ByteArray))) (some ((0,([],())),(false,()))) ((dM.f k (x9,(x8,()))).bind fun r6=>cond (!r6.1) (some ((0,([],())),(false,()))) (some ((x9,(x8,())),(true,())))))))))
def l0:Nat→T0
 | 0=>fun _ _ _ _ _ _ _ _ _ _=>none
 | n+1=>b0 k (l0 n)
def t (L0:T0) (a0:ByteArray):Rs :=
 ((eC.f k a0).bind fun r1=>(aN.f k (r1.1,(false,()))).bind fun r2=>(aN.f k r2.1).bind fun r3=>L0 a0 r1.2.1 r3.2.1 0 [] 0 r3.1.1 r3.1.2.1 [] r2.2.1)
def f:=t k (l0 k k)
end bA
namespace nj
abbrev Rs:Type:=Option (ByteArray × Unit)
def t (a0:Int):Rs :=
 ((nt.f k a0).bind fun r1=>some r1)
def f:=t k
end nj
namespace jl
abbrev Rs:Type:=Option (ByteArray × Unit)
def t (a0:ByteArray) (a1:Int):Rs :=
 ((aZ.f k a1 1 100000).bind fun r1=>cond (!r1.1) (some ((⟨#[]⟩:ByteArray),())) ((nj.f k a1).bind fun r2=>oV a0 r2.1 (some ((a0++r2.1),()))))
def f:=t k
end jl
namespace ai
abbrev Rs:Type:=Option (ByteArray × Unit)
def t (a0:Int):Rs :=
 ((jl.f k (⟨#[115,101,103]⟩:ByteArray) a0).bind fun r1=>some r1)
def f:=t k
end ai
namespace aq
abbrev Rs:Type:=Option ((Ty.d my) × ByteArray × Unit)
def t (k:Nat) (a0:Ty.d my) (a1:Int):Rs :=
 (cond a0.2.1 (some ((a0.1,(true,())),((⟨#[]⟩:ByteArray),()))) (cond (decide (a1 > (a0.1.size:Int))) (some ((a0.1,(true,())),((⟨#[]⟩:ByteArray),()))) (pS a1 (a0.1.size:Int) (pS a1 (a0.1.size:Int) (some (((a0.1.extract a1.toNat (a0.1.size)),a0.2),((a0.1.extract 0 a1.toNat),())))))))
def f:=t k
end aq
namespace aj
abbrev Rs:Type:=Option ((Ty.d my) × ByteArray × Unit)
def t (a0:Ty.d my):Rs :=
 ((aN.f k a0).bind fun r1=>(aq.f k r1.1 r1.2.1).bind fun r2=>some r2)
def f:=t k
end aj
namespace dp
abbrev Rs:Type:=Option (Bool × Unit)
def t (a0:ByteArray):Rs :=
 ((aZ.f k (a0.size:Int) 1 8).bind fun r1=>some r1)
def f:=t k
end dp
namespace gJ
abbrev Rs:Type:=Option (Bool × Unit)
def t (a0:Ty.d bf):Rs :=
 (cond (a0.1==1) (cond (a0.1==1) ((dp.f k a0.2.2.1).bind fun r1=>cond r1.1 (cond (decide ((a0.2.2.2.1.size:Int)≤24)) ((aZ.f k a0.2.1 1 1000000).bind fun r2=>cond r2.1 (some (((a0.1==a0.1)&&((a0.2.1==a0.2.1)&&((seq a0.2.2.1 a0.2.2.1)&&((seq a0.2.2.2.1 a0.2.2.2.1)&&((a0.2.2.2.2.1==0)&&(a0.2.2.2.2.2.1==0)))))),())) (some (false,()))) (some (false,()))) (some (false,()))) (cond (a0.1==2) ((dp.f k a0.2.2.1).bind fun r3=>cond r3.1 ((aZ.f k a0.2.1 1 1000000).bind fun r4=>cond r4.1 (some (((a0.1==a0.1)&&((a0.2.1==a0.2.1)&&((seq a0.2.2.1 a0.2.2.1)&&((seq a0.2.2.2.1 ByteArray.empty)&&((a0.2.2.2.2.1==0)&&(a0.2.2.2.2.2.1==0)))))),())) (some (false,()))) (some (false,()))) (cond (a0.1==3) ((aZ.f k a0.2.2.2.2.1 0 8).bind fun r5=>cond r5.1 ((aZ.f k a0.2.2.2.2.2.1 0 4294967295).bind fun r6=>cond r6.1 ((aZ.f k a0.2.1 1 1000000).bind fun r7=>cond r7.1 (some (((a0.1==a0.1)&&((a0.2.1==a0.2.1)&&((seq a0.2.2.1 ByteArray.empty)&&((seq a0.2.2.2.1 ByteArray.empty)&&((a0.2.2.2.2.1==a0.2.2.2.2.1)&&(a0.2.2.2.2.2.1==a0.2.2.2.2.2.1)))))),())) (some (false,()))) (some (false,()))) (some (false,()))) (cond (a0.1==5) ((aZ.f k a0.2.2.2.2.1 0 20).bind fun r8=>cond r8.1 ((aZ.f k a0.2.2.2.2.2.1 0 4294967295).bind fun r9=>cond r9.1 ((aZ.f k a0.2.1 0 1000000).bind fun r10=>cond r10.1 (some (((a0.1==a0.1)&&((a0.2.1==a0.2.1)&&((seq a0.2.2.1 ByteArray.empty)&&((seq a0.2.2.2.1 ByteArray.empty)&&((a0.2.2.2.2.1==a0.2.2.2.2.1)&&(a0.2.2.2.2.2.1==a0.2.2.2.2.2.1)))))),())) (some (false,()))) (some (false,()))) (some (false,()))) (some (false,())))))) (cond (a0.1==4) ((dp.f k a0.2.2.1).bind fun r11=>cond r11.1 (cond (decide ((a0.2.2.2.1.size:Int)≤24)) ((aZ.f k a0.2.1 1 1000000).bind fun r12=>cond r12.1 (some (((a0.1==a0.1)&&((a0.2.1==a0.2.1)&&((seq a0.2.2.1 a0.2.2.1)&&((seq a0.2.2.2.1 a0.2.2.2.1)&&((a0.2.2.2.2.1==0)&&(a0.2.2.2.2.2.1==0)))))),())) (some (false,()))) (some (false,()))) (some (false,()))) (cond (a0.1==2) ((dp.f k a0.2.2.1).bind fun r13=>cond r13.1 ((aZ.f k a0.2.1 1 1000000).bind fun r14=>cond r14.1 (some (((a0.1==a0.1)&&((a0.2.1==a0.2.1)&&((seq a0.2.2.1 a0.2.2.1)&&((seq a0.2.2.2.1 ByteArray.empty)&&((a0.2.2.2.2.1==0)&&(a0.2.2.2.2.2.1==0)))))),())) (some (false,()))) (some (false,()))) (cond (a0.1==3) ((aZ.f k a0.2.2.2.2.1 0 8).bind fun r15=>cond r15.1 ((aZ.f k a0.2.2.2.2.2.1 0 4294967295).bind fun r16=>cond r16.1 ((aZ.f k a0.2.1 1 1000000).bind fun r17=>cond r17.1 (some (((a0.1==a0.1)&&((a0.2.1==a0.2.1)&&((seq a0.2.2.1 ByteArray.empty)&&((seq a0.2.2.2.1 ByteArray.empty)&&((a0.2.2.2.2.1==a0.2.2.2.2.1)&&(a0.2.2.2.2.2.1==a0.2.2.2.2.2.1)))))),())) (some (false,()))) (some (false,()))) (some (false,()))) (cond (a0.1==5) ((aZ.f k a0.2.2.2.2.1 0 20).bind fun r18=>cond r18.1 ((aZ.f k a0.2.2.2.2.2.1 0 4294967295).bind fun r19=>cond r19.1 ((aZ.f k a0.2.1 0 1000000).bind fun r20=>cond r20.1 (some (((a0.1==a0.1)&&((a0.2.1==a0.2.1)&&((seq a0.2.2.1 ByteArray.empty)&&((seq a0.2.2.2.1 ByteArray.empty)&&((a0.2.2.2.2.1==a0.2.2.2.2.1)&&(a0.2.2.2.2.2.1==a0.2.2.2.2.2.1)))))),())) (some (false,()))) (some (false,()))) (some (false,()))) (some (false,())))))))
def f:=t k
end gJ
namespace cD
abbrev Rs:Type:=Option (Int × Bool × Unit)
abbrev T0:Type:=ByteArray→Int→Int→Int→Rs
def b0 (k:Nat) (L0:T0):T0:=fun x0 x1 x2 x3 =>
 (cond (decide (x3<x2)) (dR x3 (x0.size:Int) (L0 x0 (aQ (((BitVec.ofInt (IntKind.bits .i64) (aQ (x1*2 ^ (min (Int.toNat 8) (IntKind.bits .i64)))) ||| BitVec.ofInt (IntKind.bits .i64) (aQ (jT x0 x3))).toNat:Int))) x2 (aQ (x3+1)))) (some (x1,(true,()))))
def l0:Nat→T0
 | 0=>fun _ _ _ _=>none
 | n+1=>b0 k (l0 n)
def t (L0:T0) (a0:ByteArray) (a1:Int):Rs :=
 ((aZ.f k a1 1 7).bind fun r1=>cond (!r1.1) (some (0,(false,()))) (cond (decide ((a0.size:Int)<a1)) (some (0,(false,()))) (L0 a0 0 a1 0)))
def f:=t k (l0 k k)
end cD
namespace dF
abbrev Rs:Type:=Option ((Ty.d bf) × Bool × Unit)
def t (a0:ByteArray):Rs :=
 ((aN.f k (a0,(false,()))).bind fun r1=>(aN.f k r1.1).bind fun r2=>cond (r1.2.1==1) (cond (r1.2.1==1) ((aj.f k r2.1).bind fun r3=>(aj.f k r3.1).bind fun r4=>cond r4.1.2.1 (some ((0,(0,(ByteArray.empty,(ByteArray.empty,(0,(0,())))))),(false,()))) (cond (!(seq r4.1.1 (⟨#[]⟩:ByteArray))) (some ((0,(0,(ByteArray.empty,(ByteArray.empty,(0,(0,())))))),(false,()))) ((gJ.f k (r1.2.1,(r2.2.1,(r3.2.1,(r4.2.1,(0,(0,()))))))).bind fun r5=>cond (!r5.1) (some ((0,(0,(ByteArray.empty,(ByteArray.empty,(0,(0,())))))),(false,()))) (some ((r1.2.1,(r2.2.1,(r3.2.1,(r4.2.1,(0,(0,())))))),(true,())))))) (cond (r1.2.1==2) ((aj.f k r2.1).bind fun r6=>cond r6.1.2.1 (some ((0,(0,(ByteArray.empty,(ByteArray.empty,(0,(0,())))))),(false,()))) (cond (!(seq r6.1.1 (⟨#[]⟩:ByteArray))) (some ((0,(0,(ByteArray.empty,(ByteArray.empty,(0,(0,())))))),(false,()))) ((gJ.f k (r1.2.1,(r2.2.1,(r6.2.1,(ByteArray.empty,(0,(0,()))))))).bind fun r7=>cond (!r7.1) (some ((0,(0,(ByteArray.empty,(ByteArray.empty,(0,(0,())))))),(false,()))) (some ((r1.2.1,(r2.2.1,(r6.2.1,(ByteArray.empty,(0,(0,())))))),(true,())))))) ((aN.f k r2.1).bind fun r8=>(aq.f k r8.1 4).bind fun r9=>(cD.f k r9.2.1 4).bind fun r10=>cond r9.1.2.1 (some ((0,(0,(ByteArray.empty,(ByteArray.empty,(0,(0,())))))),(false,()))) (cond (!(seq r9.1.1 (⟨#[]⟩:ByteArray))) (some ((0,(0,(ByteArray.empty,(ByteArray.empty,(0,(0,())))))),(false,()))) ((gJ.f k (r1.2.1,(r2.2.1,(ByteArray.empty,(ByteArray.empty,(r8.2.1,(r10.1,()))))))).bind fun r11=>cond (!r11.1) (some ((0,(0,(ByteArray.empty,(ByteArray.empty,(0,(0,())))))),(false,()))) (some ((r1.2.1,(r2.2.1,(ByteArray.empty,(ByteArray.empty,(r8.2.1,(r10.1,())))))),(true,())))))))) (cond (r1.2.1==4) ((aj.f k r2.1).bind fun r12=>(aj.f k r12.1).bind fun r13=>cond r13.1.2.1 (some ((0,(0,(ByteArray.empty,(ByteArray.empty,(0,(0,())))))),(false,()))) (cond (!(seq r13.1.1 (⟨#[]⟩:ByteArray))) (some ((0,(0,(ByteArray.empty,(ByteArray.empty,(0,(0,())))))),(false,()))) ((gJ.f k (r1.2.1,(r2.2.1,(r12.2.1,(r13.2.1,(0,(0,()))))))).bind fun r14=>cond (!r14.1) (some ((0,(0,(ByteArray.empty,(ByteArray.empty,(0,(0,())))))),(false,()))) (some ((r1.2.1,(r2.2.1,(r12.2.1,(r13.2.1,(0,(0,())))))),(true,())))))) (cond (r1.2.1==2) ((aj.f k r2.1).bind fun r15=>cond r15.1.2.1 (some ((0,(0,(ByteArray.empty,(ByteArray.empty,(0,(0,())))))),(false,()))) (cond (!(seq r15.1.1 (⟨#[]⟩:ByteArray))) (some ((0,(0,(ByteArray.empty,(ByteArray.empty,(0,(0,())))))),(false,()))) ((gJ.f k (r1.2.1,(r2.2.1,(r15.2.1,(ByteArray.empty,(0,(0,()))))))).bind fun r16=>cond (!r16.1) (some ((0,(0,(ByteArray.empty,(ByteArray.empty,(0,(0,())))))),(false,()))) (some ((r1.2.1,(r2.2.1,(r15.2.1,(ByteArray.empty,(0,(0,())))))),(true,())))))) ((aN.f k r2.1).bind fun r17=>(aq.f k r17.1 4).bind fun r18=>(cD.f k r18.2.1 4).bind fun r19=>cond r18.1.2.1 (some ((0,(0,(ByteArray.empty,(ByteArray.empty,(0,(0,())))))),(false,()))) (cond (!(seq r18.1.1 (⟨#[]⟩:ByteArray))) (some ((0,(0,(ByteArray.empty,(ByteArray.empty,(0,(0,())))))),(false,()))) ((gJ.f k (r1.2.1,(r2.2.1,(ByteArray.empty,(ByteArray.empty,(r17.2.1,(r19.1,()))))))).bind fun r20=>cond (!r20.1) (some ((0,(0,(ByteArray.empty,(ByteArray.empty,(0,(0,())))))),(false,()))) (some ((r1.2.1,(r2.2.1,(ByteArray.empty,(ByteArray.empty,(r17.2.1,(r19.1,())))))),(true,())))))))))
def f:=t k
end dF
namespace dL
abbrev Rs:Type:=Option ((List (Ty.d d_)) × Int × Unit)
abbrev T0:Type:=ByteArray→Int→List (Ty.d d_)→Rs
def b0 (L0:T0):T0:=fun x0 x1 x2 =>
 (pS x1 (x0.size:Int) ((eC.f k (x0.extract x1.toNat (x0.size))).bind fun r1=>(dF.f k r1.1).bind fun r2=>cond (r1.2.1==0) (some (x2,(x1,()))) (cond (!r2.2.1) (some (x2,(x1,()))) (rm (Ty.bytes d_) (x2.length+1) (L0 x0 (aQ (x1+r1.2.1)) (x2++[(x1,(r1.2.1,(r2.1,())))]))))))
def l0:Nat→T0
 | 0=>fun _ _ _=>none
 | n+1=>b0 k (l0 n)
def t (k:Nat) (L0:T0) (a0:ByteArray):Rs :=
 (L0 a0 0 [])
def f:=t k (l0 k k)
end dL
namespace fA
abbrev Rs:Type:=Option ((List (Ty.d aL)) × Unit)
abbrev T0:Type:=Int→List (Ty.d d_)→Int→Int→List (Ty.d aL)→Rs
def b0 (k:Nat) (L0:T0):T0:=fun x0 x1 x2 x3 x4 =>
 (cond (decide (x3<x2)) (dR x3 (x1.length:Int) (rm (Ty.bytes aL) (x4.length+1) (L0 x0 x1 x2 (aQ (x3+1)) (x4++[(x0,(x1.getD x3.toNat (Ty.z d_)))])))) (some (x4,())))
def l0:Nat→T0
 | 0=>fun _ _ _ _ _=>none
 | n+1=>b0 k (l0 n)
def t (k:Nat) (L0:T0) (a0:Int) (a1:List (Ty.d d_)):Rs :=
 (L0 a0 a1 (a1.length:Int) 0 [])
def f:=t k (l0 k k)
end fA
namespace bM
abbrev Rs:Type:=Option ((Ty.d am) × (List (List (Ty.d aL))) × Int × Bool × Unit)
abbrev T0:Type:=Int→List Int→Int→Int→List (Ty.d aB)→Int→Int→Bool→Int→Int→List Int→List (List (Ty.d aL))→Rs
def b0 (L0:T0):T0:=fun x0 x1 x2 x3 x4 x5 x6 x7 x8 x9 x10 x11 =>
 (cond (decide (x3<x2)) (dR x3 (x1.length:Int) ((ai.f k (x1.getD x3.toNat (Ty.z (.int .i64)))).bind fun r1=>(bu.f k (x4,(x5,(x6,(x7,())))) r1.1).bind fun r2=>(dL.f k r2.1).bind fun r3=>cond (!r2.2.1) (some (((x4,(x5,(x6,(x7,())))),(x8,())),([],(0,(false,()))))) (cond (decide (x3<(aQ ((x10.length:Int)-1)))) (cond (r3.2.1 != (r2.1.size:Int)) (some (((x4,(x5,(x6,(x7,())))),(x8,())),([],(0,(false,()))))) ((fA.f k (x1.getD x3.toNat (Ty.z (.int .i64))) r3.1).bind fun r4=>rm (Ty.bytes (.slice aL)) (x11.length+1) (L0 r3.2.1 x1 x2 (aQ (x3+1)) x4 x5 x6 x7 x8 x9 x10 (x11++[r4.1])))) ((fA.f k (x1.getD x3.toNat (Ty.z (.int .i64))) r3.1).bind fun r5=>rm (Ty.bytes (.slice aL)) (x11.length+1) (L0 r3.2.1 x1 x2 (aQ (x3+1)) x4 x5 x6 x7 x8 x9 x10 (x11++[r5.1])))))) (some (((x4,(x5,(x6,(x7,())))),(x8,())),(x11,(x0,(true,()))))))
def l0:Nat→T0
 | 0=>fun _ _ _ _ _ _ _ _ _ _ _ _=>none
 | n+1=>b0 k (l0 n)
def t (k:Nat) (L0:T0) (a0:Ty.d am) (a1:Ty.d cv):Rs :=
 (L0 0 a1.2.1 (a1.2.1.length:Int) 0 a0.1.1 a0.1.2.1 a0.1.2.2.1 a0.1.2.2.2.1 a0.2.1 a1.1 a1.2.1 [])
def f:=t k (l0 k k)
end bM
namespace eY
abbrev Rs:Type:=Option ((Ty.d aA) × ByteArray × Int × Int × Unit)
def t (a0:Ty.d aA) (a1:ByteArray) (a2:Int):Rs :=
 ((bd.f k a0 a1).bind fun r1=>cond (decide (r1.1<0)) (some (a0,(a1,(a2,(3,()))))) (dR r1.1 (a0.1.length:Int) ((aZ.f k a2 0 (ByteArray.size (a0.1.getD r1.1.toNat (Ty.z aB)).2.1:Int)).bind fun r2=>cond (!r2.1) (some (a0,(a1,(a2,(5,()))))) (pS a2 (ByteArray.size (a0.1.getD r1.1.toNat (Ty.z aB)).2.1:Int) (let l3:=(a0.1.set r1.1.toNat ((a0.1.getD r1.1.toNat (Ty.z aB)).1,((ByteArray.extract (a0.1.getD r1.1.toNat (Ty.z aB)).2.1 0 a2.toNat),(a0.1.getD r1.1.toNat (Ty.z aB)).2.2)));(let l4:=(l3.set r1.1.toNat ((l3.getD r1.1.toNat (Ty.z aB)).1,((l3.getD r1.1.toNat (Ty.z aB)).2.1,((if a2<(a0.1.getD r1.1.toNat (Ty.z aB)).2.2.1 then a2 else (a0.1.getD r1.1.toNat (Ty.z aB)).2.2.1),(l3.getD r1.1.toNat (Ty.z aB)).2.2.2))));(some ((l4,a0.2),(a1,(a2,(0,())))))))))))
def f:=t k
end eY
namespace fK
abbrev Rs:Type:=Option (ByteArray × Int × (Ty.d aA) × Int × Unit)
def t (a0:Ty.d aA) (a1:ByteArray) (a2:Int):Rs :=
 ((bD.f k a0).bind fun r1=>(ay.f k a0).bind fun r2=>cond (!r2.1) (some (a1,(a2,(r1.1,(5,()))))) (cond a0.2.2.2.1 (some (a1,(a2,((r1.1.1,(r1.1.2.1,(r1.1.2.2.1,(true,())))),(1,()))))) (cond (a0.2.2.1==0) (some (a1,(a2,((r1.1.1,(r1.1.2.1,(r1.1.2.2.1,(true,())))),(1,()))))) (cond (decide (a0.2.2.1 > 0)) ((eY.f k (r1.1.1,(r1.1.2.1,((aQ (r1.1.2.2.1-1)),r1.1.2.2.2))) a1 a2).bind fun r3=>some (r3.2.1,(r3.2.2.1,(r3.1,r3.2.2.2)))) ((eY.f k r1.1 a1 a2).bind fun r4=>some (r4.2.1,(r4.2.2.1,(r4.1,r4.2.2.2))))))))
def f:=t k
end fK
namespace j8
abbrev Rs:Type:=Option ((Ty.d aA) × Int × Unit)
def t (a0:Ty.d aA) (a1:ByteArray) (a2:Int):Rs :=
 ((fK.f k a0 a1 a2).bind fun r1=>some r1.2.2)
def f:=t k
end j8
namespace mY
abbrev Rs:Type:=Option (Int × Unit)
def t (k:Nat) (a0:Int):Rs :=
 (cond (a0==0) (some (0,())) (cond (a0==1) (some (1,())) (cond (a0==2) (some (2,())) (some (3,())))))
def f:=t k
end mY
namespace az
abbrev Rs:Type:=Option ((Ty.d am) × Unit)
def t (a0:Ty.d am) (a1:Ty.d aA) (a2:Int):Rs :=
 ((mY.f k a2).bind fun r1=>some ((a1,r1),()))
def f:=t k
end az
namespace iX
abbrev Rs:Type:=Option ((Ty.d aA) × ByteArray × Int × Unit)
def t (a0:Ty.d aA) (a1:ByteArray):Rs :=
 ((bd.f k a0 a1).bind fun r1=>cond (decide (r1.1<0)) (some (a0,(a1,(3,())))) (dR r1.1 (a0.1.length:Int) (dR r1.1 (a0.1.length:Int) (let l2:=(a0.1.set r1.1.toNat ((a0.1.getD r1.1.toNat (Ty.z aB)).1,((a0.1.getD r1.1.toNat (Ty.z aB)).2.1,((ByteArray.size (a0.1.getD r1.1.toNat (Ty.z aB)).2.1:Int),(a0.1.getD r1.1.toNat (Ty.z aB)).2.2.2))));(some ((l2,a0.2),(a1,(0,()))))))))
def f:=t k
end iX
namespace iM
abbrev Rs:Type:=Option (ByteArray × (Ty.d aA) × Int × Unit)
def t (a0:Ty.d aA) (a1:ByteArray):Rs :=
 ((bD.f k a0).bind fun r1=>(ay.f k a0).bind fun r2=>cond (!r2.1) (some (a1,(r1.1,(5,())))) (cond a0.2.2.2.1 (some (a1,((r1.1.1,(r1.1.2.1,(r1.1.2.2.1,(true,())))),(1,())))) (cond (a0.2.2.1==0) (some (a1,((r1.1.1,(r1.1.2.1,(r1.1.2.2.1,(true,())))),(1,())))) (cond (decide (a0.2.2.1 > 0)) ((iX.f k (r1.1.1,(r1.1.2.1,((aQ (r1.1.2.2.1-1)),r1.1.2.2.2))) a1).bind fun r3=>some (r3.2.1,(r3.1,r3.2.2))) ((iX.f k r1.1 a1).bind fun r4=>some (r4.2.1,(r4.1,r4.2.2)))))))
def f:=t k
end iM
namespace mU
abbrev Rs:Type:=Option ((Ty.d aA) × Int × Unit)
def t (a0:Ty.d aA) (a1:ByteArray):Rs :=
 ((iM.f k a0 a1).bind fun r1=>some r1.2)
def f:=t k
end mU
namespace bP
abbrev Rs:Type:=Option ((Ty.d am) × Unit)
def t (a0:Ty.d am) (a1:ByteArray):Rs :=
 (cond (a0.2.1==0) ((mU.f k a0.1 a1).bind fun r1=>(az.f k a0 r1.1 r1.2.1).bind fun r2=>some r2) (some (a0,())))
def f:=t k
end bP
namespace dW
abbrev Rs:Type:=Option (ByteArray × Unit)
def t (a0:Int):Rs :=
 ((jl.f k (⟨#[104,105,110,116]⟩:ByteArray) a0).bind fun r1=>some r1)
def f:=t k
end dW
namespace eS
abbrev Rs:Type:=Option (Bool × Unit)
abbrev T0:Type:=List (Ty.d aC)→List (Ty.d aC)→Int→Int→Rs
def b0 (L0:T0):T0:=fun x0 x1 x2 x3 =>
 (cond (decide (x3<x2)) (dR x3 (x1.length:Int) ((dp.f k (x1.getD x3.toNat (Ty.z aC)).1).bind fun r1=>cond (!r1.1) (some (false,())) ((aZ.f k (x1.getD x3.toNat (Ty.z aC)).2.1 1 100000).bind fun r2=>cond (!r2.1) (some (false,())) (cond (decide ((x1.getD x3.toNat (Ty.z aC)).2.2.1<0)) (some (false,())) ((aZ.f k (x1.getD x3.toNat (Ty.z aC)).2.2.2.1 1 210).bind fun r3=>cond (!r3.1) (some (false,())) ((aZ.f k (x1.getD x3.toNat (Ty.z aC)).2.2.2.2.1 1 1000000).bind fun r4=>cond (!r4.1) (some (false,())) (cond (decide (x3 > 0)) (dR (aQ (x3-1)) (x0.length:Int) (cond (!(nd (x0.getD (aQ (x3-1)).toNat (Ty.z aC)).1 (x1.getD x3.toNat (Ty.z aC)).1)) (some (false,())) (L0 x0 x1 x2 (aQ (x3+1))))) (L0 x0 x1 x2 (aQ (x3+1)))))))))) (some ((decide ((x0.length:Int)≤20)),())))
def l0:Nat→T0
 | 0=>fun _ _ _ _=>none
 | n+1=>b0 k (l0 n)
def t (k:Nat) (L0:T0) (a0:List (Ty.d aC)):Rs :=
 (L0 a0 a0 (a0.length:Int) 0)
def f:=t k (l0 k k)
end eS
namespace eO
abbrev Rs:Type:=Option (Bool × Unit)
abbrev T0:Type:=List (Ty.d aC)→Int→Int→Int→Int→List (Ty.d aC)→Rs
def b0 (L0:T0):T0:=fun x0 x1 x2 x3 x4 x5 =>
 (cond (decide (x2<x1)) (dR x2 (x0.length:Int) (dR 0 (x5.length:Int) (cond ((x0.getD x2.toNat (Ty.z aC)).2.1 != (x5.getD 0 (Ty.z aC)).2.1) (some (false,())) (cond (decide ((x0.getD x2.toNat (Ty.z aC)).2.2.1 > 100000)) (some (false,())) (L0 x0 x1 (aQ (x2+1)) x3 x4 x5))))) ((aZ.f k x3 0 100000).bind fun r1=>cond r1.1 ((aZ.f k x4 0 1000000).bind fun r2=>cond r2.1 ((eS.f k x5).bind fun r3=>some r3) (some (false,()))) (some (false,()))))
def l0:Nat→T0
 | 0=>fun _ _ _ _ _ _=>none
 | n+1=>b0 k (l0 n)
def t (k:Nat) (L0:T0) (a0:Ty.d iq):Rs :=
 (L0 a0.2.2.1 (a0.2.2.1.length:Int) 0 a0.1 a0.2.1 a0.2.2.1)
def f:=t k (l0 k k)
end eO
namespace dh
abbrev Rs:Type:=Option (ByteArray × Unit)
abbrev T0:Type:=ByteArray→List Int→Int→Int→Rs
def b0 (L0:T0):T0:=fun x0 x1 x2 x3 =>
 (cond (decide (x3<x2)) (dR x3 (x1.length:Int) ((fi.f k (x1.getD x3.toNat (Ty.z (.int .i64)))).bind fun r1=>oV x0 r1.1 (L0 (x0++r1.1) x1 x2 (aQ (x3+1))))) (some (x0,())))
def l0:Nat→T0
 | 0=>fun _ _ _ _=>none
 | n+1=>b0 k (l0 n)
def t (k:Nat) (L0:T0) (a0:List Int):Rs :=
 (L0 (⟨#[]⟩:ByteArray) a0 (a0.length:Int) 0)
def f:=t k (l0 k k)
end dh
namespace dH
abbrev Rs:Type:=Option (ByteArray × Unit)
abbrev T0:Type:=ByteArray→List (Ty.d aC)→Int→Int→Rs
def b0 (L0:T0):T0:=fun x0 x1 x2 x3 =>
 (cond (decide (x3<x2)) (dR x3 (x1.length:Int) ((eJ.f k (x1.getD x3.toNat (Ty.z aC)).1).bind fun r3=>(dh.f k [(x1.getD x3.toNat (Ty.z aC)).2.1,(x1.getD x3.toNat (Ty.z aC)).2.2.1,(x1.getD x3.toNat (Ty.z aC)).2.2.2.1,(x1.getD x3.toNat (Ty.z aC)).2.2.2.2.1]).bind fun r4=>oV r3.1 r4.1 (oV x0 (r3.1++r4.1) (L0 (x0++(r3.1++r4.1)) x1 x2 (aQ (x3+1)))))) ((gT.f k x0).bind fun r5=>(dm.f k r5.1 4).bind fun r6=>oV r6.1 x0 (some ((r6.1++x0),()))))
def l0:Nat→T0
 | 0=>fun _ _ _ _=>none
 | n+1=>b0 k (l0 n)
def t (L0:T0) (a0:Ty.d iq):Rs :=
 ((eO.f k a0).bind fun r1=>cond (!r1.1) (some ((⟨#[]⟩:ByteArray),())) ((dh.f k [a0.1,a0.2.1,(a0.2.2.1.length:Int)]).bind fun r2=>L0 r2.1 a0.2.2.1 (a0.2.2.1.length:Int) 0))
def f:=t k (l0 k k)
end dH
namespace bC
abbrev Rs:Type:=Option ((Ty.d iq) × Bool × Unit)
abbrev T0:Type:=ByteArray→Int→Int→List (Ty.d aC)→Int→Int→ByteArray→Bool→List (Ty.d aC)→Int→Int→Rs
def b0 (L0:T0):T0:=fun x0 x1 x2 x3 x4 x5 x6 x7 x8 x9 x10 =>
 (cond (decide (x2<x1)) (cond (!x7) ((aj.f k (x6,(x7,()))).bind fun r5=>(aN.f k r5.1).bind fun r6=>(aN.f k r6.1).bind fun r7=>(aN.f k r7.1).bind fun r8=>(aN.f k r8.1).bind fun r9=>rm (Ty.bytes aC) (x8.length+1) (L0 x0 x1 (aQ (x2+1)) x3 x4 x5 r9.1.1 r9.1.2.1 (x8++[(r5.2.1,(r6.2.1,(r7.2.1,(r8.2.1,r9.2))))]) x9 x10)) (cond x7 (some ((0,(0,([],()))),(false,()))) ((eO.f k (x9,(x10,(x8,())))).bind fun r10=>cond (!r10.1) (some ((0,(0,([],()))),(false,()))) ((dH.f k (x9,(x10,(x8,())))).bind fun r11=>cond (!(seq r11.1 x0)) (some ((0,(0,([],()))),(false,()))) (some ((x9,(x10,(x8,()))),(true,()))))))) (cond x7 (some ((0,(0,([],()))),(false,()))) ((eO.f k (x9,(x10,(x8,())))).bind fun r12=>cond (!r12.1) (some ((0,(0,([],()))),(false,()))) ((dH.f k (x9,(x10,(x8,())))).bind fun r13=>cond (!(seq r13.1 x0)) (some ((0,(0,([],()))),(false,()))) (some ((x9,(x10,(x8,()))),(true,())))))))
def l0:Nat→T0
 | 0=>fun _ _ _ _ _ _ _ _ _ _ _=>none
 | n+1=>b0 k (l0 n)
def t (L0:T0) (a0:ByteArray):Rs :=
 ((aq.f k (a0,(false,())) 4).bind fun r1=>(aN.f k r1.1).bind fun r2=>(aN.f k r2.1).bind fun r3=>(aN.f k r3.1).bind fun r4=>L0 a0 r4.2.1 0 [] 0 0 r4.1.1 r4.1.2.1 [] r2.2.1 r3.2.1)
def f:=t k (l0 k k)
end bC
namespace gD
abbrev Rs:Type:=Option (ByteArray × Unit)
def t (a0:Ty.d bf):Rs :=
 ((gJ.f k a0).bind fun r1=>cond (!r1.1) (some ((⟨#[]⟩:ByteArray),())) ((dh.f k [a0.1,a0.2.1]).bind fun r2=>cond (a0.1==1) (cond (a0.1==1) ((eJ.f k a0.2.2.1).bind fun r3=>oV r2.1 r3.1 ((eJ.f k a0.2.2.2.1).bind fun r4=>oV (r2.1++r3.1) r4.1 (some (((r2.1++r3.1)++r4.1),())))) (cond (a0.1==2) ((eJ.f k a0.2.2.1).bind fun r5=>oV r2.1 r5.1 (some ((r2.1++r5.1),()))) ((fi.f k a0.2.2.2.2.1).bind fun r6=>oV r2.1 r6.1 ((dm.f k a0.2.2.2.2.2.1 4).bind fun r7=>oV (r2.1++r6.1) r7.1 (some (((r2.1++r6.1)++r7.1),())))))) (cond (a0.1==4) ((eJ.f k a0.2.2.1).bind fun r8=>oV r2.1 r8.1 ((eJ.f k a0.2.2.2.1).bind fun r9=>oV (r2.1++r8.1) r9.1 (some (((r2.1++r8.1)++r9.1),())))) (cond (a0.1==2) ((eJ.f k a0.2.2.1).bind fun r10=>oV r2.1 r10.1 (some ((r2.1++r10.1),()))) ((fi.f k a0.2.2.2.2.1).bind fun r11=>oV r2.1 r11.1 ((dm.f k a0.2.2.2.2.2.1 4).bind fun r12=>oV (r2.1++r11.1) r12.1 (some (((r2.1++r11.1)++r12.1),()))))))))
def f:=t k
end gD
namespace gN
abbrev Rs:Type:=Option (Int × Unit)
abbrev T0:Type:=ByteArray→List (Ty.d bf)→Int→Int→Rs
def b0 (L0:T0):T0:=fun x0 x1 x2 x3 =>
 (cond (decide (x3<x2)) (dR x3 (x1.length:Int) ((gD.f k (x1.getD x3.toNat (Ty.z bf))).bind fun r1=>oV x0 r1.1 (L0 (x0++r1.1) x1 x2 (aQ (x3+1))))) ((gT.f k x0).bind fun r2=>some r2))
def l0:Nat→T0
 | 0=>fun _ _ _ _=>none
 | n+1=>b0 k (l0 n)
def t (k:Nat) (L0:T0) (a0:List (Ty.d bf)):Rs :=
 (L0 (⟨#[]⟩:ByteArray) a0 (a0.length:Int) 0)
def f:=t k (l0 k k)
end gN
namespace h_
abbrev Rs:Type:=Option (Bool × Unit)
abbrev T0:Type:=List (Ty.d aL)→Int→Int→Int→Int→ByteArray→ByteArray→Int→Int→List (Ty.d bf)→Rs
def b0 (L0:T0):T0:=fun x0 x1 x2 x3 x4 x5 x6 x7 x8 x9 =>
 (cond (decide (x2<x1)) (dR x2 (x0.length:Int) (rm (Ty.bytes bf) (x9.length+1) (L0 x0 x1 (aQ (x2+1)) x3 x4 x5 x6 x7 x8 (x9++[(x0.getD x2.toNat (Ty.z aL)).2.2.2.1])))) (cond (x7==(x9.length:Int)) ((gN.f k x9).bind fun r1=>some ((x8==r1.1),())) (some (false,()))))
def l0:Nat→T0
 | 0=>fun _ _ _ _ _ _ _ _ _ _=>none
 | n+1=>b0 k (l0 n)
def t (k:Nat) (L0:T0) (a0:Ty.d bf) (a1:List (Ty.d aL)):Rs :=
 (L0 a1 (a1.length:Int) 0 a0.1 a0.2.1 a0.2.2.1 a0.2.2.2.1 a0.2.2.2.2.1 a0.2.2.2.2.2.1 [])
def f:=t k (l0 k k)
end h_
namespace eQ
abbrev Rs:Type:=Option ((Ty.d iq) × Bool × Unit)
abbrev T0:Type:=Int→List (Ty.d d_)→List (Ty.d d_)→Int→Int→List (Ty.d aC)→Int→Int→List (Ty.d aC)→Int→Int→Rs
def b0 (k:Nat) (L0:T0):T0:=fun x0 x1 x2 x3 x4 x5 x6 x7 x8 x9 x10 =>
 (cond (decide (x4<x3)) (dR x4 (x2.length:Int) (cond ((x2.getD x4.toNat (Ty.z d_)).2.2.1.1 != 4) (some ((0,(0,([],()))),(false,()))) (cond (decide ((x2.getD x4.toNat (Ty.z d_)).2.2.1.2.1 > x10)) (some ((0,(0,([],()))),(false,()))) (cond (decide (x4 > 0)) (dR (aQ (x4-1)) (x1.length:Int) (cond (!(nd (x1.getD (aQ (x4-1)).toNat (Ty.z d_)).2.2.1.2.2.1 (x2.getD x4.toNat (Ty.z d_)).2.2.1.2.2.1)) (some ((0,(0,([],()))),(false,()))) (rm (Ty.bytes aC) (x8.length+1) (L0 x0 x1 x2 x3 (aQ (x4+1)) x5 x6 x7 (x8++[((x2.getD x4.toNat (Ty.z d_)).2.2.1.2.2.1,(x0,((x2.getD x4.toNat (Ty.z d_)).1,((x2.getD x4.toNat (Ty.z d_)).2.1,((x2.getD x4.toNat (Ty.z d_)).2.2.1.2.1,())))))]) x9 x10)))) (rm (Ty.bytes aC) (x8.length+1) (L0 x0 x1 x2 x3 (aQ (x4+1)) x5 x6 x7 (x8++[((x2.getD x4.toNat (Ty.z d_)).2.2.1.2.2.1,(x0,((x2.getD x4.toNat (Ty.z d_)).1,((x2.getD x4.toNat (Ty.z d_)).2.1,((x2.getD x4.toNat (Ty.z d_)).2.2.1.2.1,())))))]) x9 x10)))))) (some ((x9,(x10,(x8,()))),(true,()))))
def l0:Nat→T0
 | 0=>fun _ _ _ _ _ _ _ _ _ _ _=>none
 | n+1=>b0 k (l0 n)
def t (L0:T0) (a0:Int) (a1:ByteArray):Rs :=
 ((dL.f k a1).bind fun r1=>cond (decide ((aQ ((r1.1.length:Int)-1))<0)) (some ((0,(0,([],()))),(false,()))) (cond (r1.2.1 != (a1.size:Int)) (some ((0,(0,([],()))),(false,()))) ((aZ.f k a0 1 100000).bind fun r2=>cond (!r2.1) (some ((0,(0,([],()))),(false,()))) (dR (aQ ((r1.1.length:Int)-1)) (r1.1.length:Int) (cond ((r1.1.getD (aQ ((r1.1.length:Int)-1)).toNat (Ty.z d_)).2.2.1.1 != 5) (some ((0,(0,([],()))),(false,()))) (dR (aQ ((r1.1.length:Int)-1)) (r1.1.length:Int) (pS (aQ ((r1.1.length:Int)-1)) (r1.1.length:Int) ((fA.f k a0 (r1.1.take (aQ ((r1.1.length:Int)-1)).toNat)).bind fun r3=>(h_.f k (r1.1.getD (aQ ((r1.1.length:Int)-1)).toNat (Ty.z d_)).2.2.1 r3.1).bind fun r4=>cond (!r4.1) (some ((0,(0,([],()))),(false,()))) (dR (aQ ((r1.1.length:Int)-1)) (r1.1.length:Int) (pS (aQ ((r1.1.length:Int)-1)) (r1.1.length:Int) (L0 a0 r1.1 (r1.1.take (aQ ((r1.1.length:Int)-1)).toNat) ((r1.1.take (aQ ((r1.1.length:Int)-1)).toNat).length:Int) 0 [] 0 0 [] r1.2.1 (r1.1.getD (aQ ((r1.1.length:Int)-1)).toNat (Ty.z d_)).2.2.1.2.1)))))))))))
def f:=t k (l0 k k)
end eQ
namespace fe
abbrev Rs:Type:=Option (Bool × Unit)
abbrev T0:Type:=List (Ty.d aC)→List (Ty.d aC)→Int→Int→Rs
def b0 (k:Nat) (L0:T0):T0:=fun x0 x1 x2 x3 =>
 (cond (decide (x3<x2)) (dR x3 (x0.length:Int) (dR x3 (x1.length:Int) (cond (!((seq (x0.getD x3.toNat (Ty.z aC)).1 (x1.getD x3.toNat (Ty.z aC)).1)&&(((x0.getD x3.toNat (Ty.z aC)).2.1==(x1.getD x3.toNat (Ty.z aC)).2.1)&&(((x0.getD x3.toNat (Ty.z aC)).2.2.1==(x1.getD x3.toNat (Ty.z aC)).2.2.1)&&(((x0.getD x3.toNat (Ty.z aC)).2.2.2.1==(x1.getD x3.toNat (Ty.z aC)).2.2.2.1)&&((x0.getD x3.toNat (Ty.z aC)).2.2.2.2.1==(x1.getD x3.toNat (Ty.z aC)).2.2.2.2.1)))))) (some (false,())) (L0 x0 x1 x2 (aQ (x3+1)))))) (some (true,())))
def l0:Nat→T0
 | 0=>fun _ _ _ _=>none
 | n+1=>b0 k (l0 n)
def t (k:Nat) (L0:T0) (a0:List (Ty.d aC)) (a1:List (Ty.d aC)):Rs :=
 (cond ((a0.length:Int) != (a1.length:Int)) (some (false,())) (L0 a0 a1 (a0.length:Int) 0))
def f:=t k (l0 k k)
end fe
namespace j6
abbrev Rs:Type:=Option (Bool × Unit)
def t (a0:Int) (a1:ByteArray) (a2:Ty.d iq):Rs :=
 ((eQ.f k a0 a1).bind fun r1=>cond r1.2.1 (cond (r1.1.1==a2.1) (cond (r1.1.2.1==a2.2.1) ((fe.f k r1.1.2.2.1 a2.2.2.1).bind fun r2=>some r2) (some (false,()))) (some (false,()))) (some (false,())))
def f:=t k
end j6
namespace dA
abbrev Rs:Type:=Option ((Ty.d am) × (Ty.d kR) × Bool × Unit)
def t (a0:Ty.d am) (a1:Int):Rs :=
 ((dW.f k a1).bind fun r1=>(bu.f k a0.1 r1.1).bind fun r2=>(bC.f k r2.1).bind fun r3=>(ai.f k a1).bind fun r4=>(bu.f k a0.1 r4.1).bind fun r5=>cond (!r2.2.1) (some (a0,(([],(0,(0,()))),(false,())))) (cond (!r3.2.1) (some (a0,(([],(0,(0,()))),(false,())))) ((j6.f k a1 r5.1 r3.1).bind fun r6=>cond (!r6.1) (some (a0,(([],(0,(0,()))),(false,())))) (some (a0,((r3.1.2.2.1,(r3.1.2.1,(0,()))),(true,())))))))
def f:=t k
end dA
namespace cL
abbrev Rs:Type:=Option ((List (Ty.d aC)) × Unit)
def t (k:Nat) (a0:List (Ty.d aC)):Rs :=
 (rm (Ty.bytes aC) (a0.length) (some (a0,())))
def f:=t k
end cL
namespace dO
abbrev Rs:Type:=Option ((List (Ty.d aL)) × Unit)
abbrev T0:Type:=List (Ty.d aL)→Int→Int→Int→Int→ByteArray→ByteArray→Int→Int→List (Ty.d aL)→Rs
def b0 (k:Nat) (L0:T0):T0:=fun x0 x1 x2 x3 x4 x5 x6 x7 x8 x9 =>
 (cond (decide (x2<x1)) (dR x2 (x0.length:Int) (cond (x3==3) (cond ((x0.getD x2.toNat (Ty.z aL)).2.2.2.1.2.1 != x4) (L0 x0 x1 (aQ (x2+1)) x3 x4 x5 x6 x7 x8 x9) (cond ((x0.getD x2.toNat (Ty.z aL)).2.2.2.1.1==x3) (L0 x0 x1 (aQ (x2+1)) x3 x4 x5 x6 x7 x8 []) (cond (x3==3) (cond ((x0.getD x2.toNat (Ty.z aL)).2.2.2.1.1==1) (rm (Ty.bytes aL) (x9.length+1) (L0 x0 x1 (aQ (x2+1)) x3 x4 x5 x6 x7 x8 (x9++[(x0.getD x2.toNat (Ty.z aL))]))) (cond ((x0.getD x2.toNat (Ty.z aL)).2.2.2.1.1==2) (cond ((x0.getD x2.toNat (Ty.z aL)).2.2.2.1.1==2) (rm (Ty.bytes aL) (x9.length+1) (L0 x0 x1 (aQ (x2+1)) x3 x4 x5 x6 x7 x8 (x9++[(x0.getD x2.toNat (Ty.z aL))]))) (L0 x0 x1 (aQ (x2+1)) x3 x4 x5 x6 x7 x8 x9)) (cond (x3==5) (cond ((x0.getD x2.toNat (Ty.z aL)).2.2.2.1.1==4) (rm (Ty.bytes aL) (x9.length+1) (L0 x0 x1 (aQ (x2+1)) x3 x4 x5 x6 x7 x8 (x9++[(x0.getD x2.toNat (Ty.z aL))]))) (L0 x0 x1 (aQ (x2+1)) x3 x4 x5 x6 x7 x8 x9)) (L0 x0 x1 (aQ (x2+1)) x3 x4 x5 x6 x7 x8 x9)))) (cond (x3==5) (cond ((x0.getD x2.toNat (Ty.z aL)).2.2.2.1.1==4) (rm (Ty.bytes aL) (x9.length+1) (L0 x0 x1 (aQ (x2+1)) x3 x4 x5 x6 x7 x8 (x9++[(x0.getD x2.toNat (Ty.z aL))]))) (L0 x0 x1 (aQ (x2+1)) x3 x4 x5 x6 x7 x8 x9)) (L0 x0 x1 (aQ (x2+1)) x3 x4 x5 x6 x7 x8 x9))))) (cond ((x0.getD x2.toNat (Ty.z aL)).2.2.2.1.1==x3) (L0 x0 x1 (aQ (x2+1)) x3 x4 x5 x6 x7 x8 []) (cond (x3==3) (cond ((x0.getD x2.toNat (Ty.z aL)).2.2.2.1.1==1) (rm (Ty.bytes aL) (x9.length+1) (L0 x0 x1 (aQ (x2+1)) x3 x4 x5 x6 x7 x8 (x9++[(x0.getD x2.toNat (Ty.z aL))]))) (cond ((x0.getD x2.toNat (Ty.z aL)).2.2.2.1.1==2) (cond ((x0.getD x2.toNat (Ty.z aL)).2.2.2.1.1==2) (rm (Ty.bytes aL) (x9.length+1) (L0 x0 x1 (aQ (x2+1)) x3 x4 x5 x6 x7 x8 (x9++[(x0.getD x2.toNat (Ty.z aL))]))) (L0 x0 x1 (aQ (x2+1)) x3 x4 x5 x6 x7 x8 x9)) (cond (x3==5) (cond ((x0.getD x2.toNat (Ty.z aL)).2.2.2.1.1==4) (rm (Ty.bytes aL) (x9.length+1) (L0 x0 x1 (aQ (x2+1)) x3 x4 x5 x6 x7 x8 (x9++[(x0.getD x2.toNat (Ty.z aL))]))) (L0 x0 x1 (aQ (x2+1)) x3 x4 x5 x6 x7 x8 x9)) (L0 x0 x1 (aQ (x2+1)) x3 x4 x5 x6 x7 x8 x9)))) (cond (x3==5) (cond ((x0.getD x2.toNat (Ty.z aL)).2.2.2.1.1==4) (rm (Ty.bytes aL) (x9.length+1) (L0 x0 x1 (aQ (x2+1)) x3 x4 x5 x6 x7 x8 (x9++[(x0.getD x2.toNat (Ty.z aL))]))) (L0 x0 x1 (aQ (x2+1)) x3 x4 x5 x6 x7 x8 x9)) (L0 x0 x1 (aQ (x2+1)) x3 x4 x5 x6 x7 x8 x9)))))) (some (x9,())))
def l0:Nat→T0
 | 0=>fun _ _ _ _ _ _ _ _ _ _=>none
 | n+1=>b0 k (l0 n)
def t (k:Nat) (L0:T0) (a0:List (Ty.d aL)) (a1:Ty.d bf):Rs :=
 (L0 a0 (a0.length:Int) 0 a1.1 a1.2.1 a1.2.2.1 a1.2.2.2.1 a1.2.2.2.2.1 a1.2.2.2.2.2.1 [])
def f:=t k (l0 k k)
end dO
namespace cE
abbrev Rs:Type:=Option ((List (Ty.d aC)) × Unit)
abbrev T0:Type:=ByteArray→List (Ty.d aC)→Int→Int→List (Ty.d aC)→Rs
def b0 (k:Nat) (L0:T0):T0:=fun x0 x1 x2 x3 x4 =>
 (cond (decide (x3<x2)) (dR x3 (x1.length:Int) (cond (!(seq (x1.getD x3.toNat (Ty.z aC)).1 x0)) (rm (Ty.bytes aC) (x4.length+1) (L0 x0 x1 x2 (aQ (x3+1)) (x4++[(x1.getD x3.toNat (Ty.z aC))]))) (L0 x0 x1 x2 (aQ (x3+1)) x4))) (some (x4,())))
def l0:Nat→T0
 | 0=>fun _ _ _ _ _=>none
 | n+1=>b0 k (l0 n)
def t (k:Nat) (L0:T0) (a0:List (Ty.d aC)) (a1:ByteArray):Rs :=
 (L0 a1 a0 (a0.length:Int) 0 [])
def f:=t k (l0 k k)
end cE
namespace dG
abbrev Rs:Type:=Option ((List (Ty.d aC)) × Unit)
abbrev T0:Type:=Int→ByteArray→Int→Int→Int→Int→List (Ty.d aC)→Rs
def b0 (L0:T0):T0:=fun x0 x1 x2 x3 x4 x5 x6 =>
 (cond (decide (x0<(x6.length:Int))) (dR x0 (x6.length:Int) (cond ((nd (x6.getD x0.toNat (Ty.z aC)).1 x1)||(seq (x6.getD x0.toNat (Ty.z aC)).1 x1)) (L0 (aQ (x0+1)) x1 x2 x3 x4 x5 x6) (pS x0 (x6.length:Int) ((cL.f k (x6.take x0.toNat)).bind fun r2=>rm (Ty.bytes aC) (r2.1.length+1) (pS x0 (x6.length:Int) (rm (Ty.bytes aC) (List.length (r2.1++[(x1,(x2,(x3,(x4,(x5,())))))])+List.length (x6.drop x0.toNat)) (some (((r2.1++[(x1,(x2,(x3,(x4,(x5,())))))])++(x6.drop x0.toNat)),())))))))) (pS x0 (x6.length:Int) ((cL.f k (x6.take x0.toNat)).bind fun r3=>rm (Ty.bytes aC) (r3.1.length+1) (pS x0 (x6.length:Int) (rm (Ty.bytes aC) (List.length (r3.1++[(x1,(x2,(x3,(x4,(x5,())))))])+List.length (x6.drop x0.toNat)) (some (((r3.1++[(x1,(x2,(x3,(x4,(x5,())))))])++(x6.drop x0.toNat)),())))))))
def l0:Nat→T0
 | 0=>fun _ _ _ _ _ _ _=>none
 | n+1=>b0 k (l0 n)
def t (L0:T0) (a0:List (Ty.d aC)) (a1:Ty.d aC):Rs :=
 ((cE.f k a0 a1.1).bind fun r1=>L0 0 a1.1 a1.2.1 a1.2.2.1 a1.2.2.2.1 a1.2.2.2.2.1 r1.1)
def f:=t k (l0 k k)
end dG
namespace cQ
abbrev Rs:Type:=Option ((Ty.d kR) × Unit)
abbrev T0:Type:=List (Ty.d aL)→Int→Int→List (Ty.d aC)→Int→Int→Rs
def b0 (L0:T0):T0:=fun x0 x1 x2 x3 x4 x5 =>
 (cond (decide (x2<x1)) (dR x2 (x0.length:Int) (cond ((x0.getD x2.toNat (Ty.z aL)).2.2.2.1.1==2) ((cE.f k x3 (x0.getD x2.toNat (Ty.z aL)).2.2.2.1.2.2.1).bind fun r1=>L0 x0 x1 (aQ (x2+1)) r1.1 x4 x5) ((dG.f k x3 ((x0.getD x2.toNat (Ty.z aL)).2.2.2.1.2.2.1,((x0.getD x2.toNat (Ty.z aL)).1,((x0.getD x2.toNat (Ty.z aL)).2.1,((x0.getD x2.toNat (Ty.z aL)).2.2.1,((x0.getD x2.toNat (Ty.z aL)).2.2.2.1.2.1,())))))).bind fun r2=>L0 x0 x1 (aQ (x2+1)) r2.1 x4 x5))) (cond (decide ((x3.length:Int) > 20)) (some ((x3,(x4,(2,()))),())) (some ((x3,(x4,(x5,()))),()))))
def l0:Nat→T0
 | 0=>fun _ _ _ _ _ _=>none
 | n+1=>b0 k (l0 n)
def t (k:Nat) (L0:T0) (a0:Ty.d kR) (a1:List (Ty.d aL)):Rs :=
 (L0 a1 (a1.length:Int) 0 a0.1 a0.2.1 a0.2.2.1)
def f:=t k (l0 k k)
end cQ
namespace dl
abbrev Rs:Type:=Option ((Ty.d kR) × Unit)
abbrev T0:Type:=List (Ty.d aL)→List (Ty.d aL)→Int→Int→List (Ty.d aC)→Int→Int→List (Ty.d aC)→Int→Int→Rs
def b0 (L0:T0):T0:=fun x0 x1 x2 x3 x4 x5 x6 x7 x8 x9 =>
 (cond (decide (x3<x2)) (dR x3 (x1.length:Int) (cond (x9 != 0) (some ((x7,(x8,(x9,()))),())) (cond ((x1.getD x3.toNat (Ty.z aL)).2.2.2.1.1 != 3) (cond ((x1.getD x3.toNat (Ty.z aL)).2.2.2.1.1 != 5) (L0 x0 x1 x2 (aQ (x3+1)) x4 x5 x6 x7 (if (x1.getD x3.toNat (Ty.z aL)).2.2.2.1.2.1 > x8 then (x1.getD x3.toNat (Ty.z aL)).2.2.2.1.2.1 else x8) x9) (pS x3 (x0.length:Int) ((dO.f k (x0.take x3.toNat) (x1.getD x3.toNat (Ty.z aL)).2.2.2.1).bind fun r2=>(h_.f k (x1.getD x3.toNat (Ty.z aL)).2.2.2.1 r2.1).bind fun r3=>cond r3.1 ((cQ.f k (x7,((if (x1.getD x3.toNat (Ty.z aL)).2.2.2.1.2.1 > x8 then (x1.getD x3.toNat (Ty.z aL)).2.2.2.1.2.1 else x8),(x9,()))) r2.1).bind fun r4=>L0 x0 x1 x2 (aQ (x3+1)) x4 x5 x6 r4.1.1 r4.1.2.1 r4.1.2.2.1) (cond ((x1.getD x3.toNat (Ty.z aL)).2.2.2.1.1==5) (L0 x0 x1 x2 (aQ (x3+1)) x4 x5 x6 x7 (if (x1.getD x3.toNat (Ty.z aL)).2.2.2.1.2.1 > x8 then (x1.getD x3.toNat (Ty.z aL)).2.2.2.1.2.1 else x8) 1) (L0 x0 x1 x2 (aQ (x3+1)) x4 x5 x6 x7 (if (x1.getD x3.toNat (Ty.z aL)).2.2.2.1.2.1 > x8 then (x1.getD x3.toNat (Ty.z aL)).2.2.2.1.2.1 else x8) x9))))) (pS x3 (x0.length:Int) ((dO.f k (x0.take x3.toNat) (x1.getD x3.toNat (Ty.z aL)).2.2.2.1).bind fun r5=>(h_.f k (x1.getD x3.toNat (Ty.z aL)).2.2.2.1 r5.1).bind fun r6=>cond r6.1 ((cQ.f k (x7,((if (x1.getD x3.toNat (Ty.z aL)).2.2.2.1.2.1 > x8 then (x1.getD x3.toNat (Ty.z aL)).2.2.2.1.2.1 else x8),(x9,()))) r5.1).bind fun r7=>L0 x0 x1 x2 (aQ (x3+1)) x4 x5 x6 r7.1.1 r7.1.2.1 r7.1.2.2.1) (cond ((x1.getD x3.toNat (Ty.z aL)).2.2.2.1.1==5) (L0 x0 x1 x2 (aQ (x3+1)) x4 x5 x6 x7 (if (x1.getD x3.toNat (Ty.z aL)).2.2.2.1.2.1 > x8 then (x1.getD x3.toNat (Ty.z aL)).2.2.2.1.2.1 else x8) 1) (L0 x0 x1 x2 (aQ (x3+1)) x4 x5 x6 x7 (if (x1.getD x3.toNat (Ty.z aL)).2.2.2.1.2.1 > x8 then (x1.getD x3.toNat (Ty.z aL)).2.2.2.1.2.1 else x8) x9))))))) (cond (x9==0) ((dO.f k x0 (5,(0,(ByteArray.empty,(ByteArray.empty,(0,(0,()))))))).bind fun r8=>cond (decide ((r8.1.length:Int) > 0)) (some ((x7,(x8,(1,()))),())) (some ((x7,(x8,(x9,()))),()))) (some ((x7,(x8,(x9,()))),()))))
def l0:Nat→T0
 | 0=>fun _ _ _ _ _ _ _ _ _ _=>none
 | n+1=>b0 k (l0 n)
def t (L0:T0) (a0:Ty.d kR) (a1:List (Ty.d aL)):Rs :=
 ((cL.f k a0.1).bind fun r1=>L0 a1 a1 (a1.length:Int) 0 [] 0 0 r1.1 a0.2.1 a0.2.2.1)
def f:=t k (l0 k k)
end dl
namespace ln
abbrev Rs:Type:=Option (Int × Bool × Unit)
def t (a0:ByteArray):Rs :=
 ((iU.f k a0 (⟨#[115,101,103]⟩:ByteArray)).bind fun r1=>cond (!r1.2.1) ((iU.f k a0 (⟨#[104,105,110,116]⟩:ByteArray)).bind fun r2=>(d5.f k r2.1).bind fun r3=>cond (!r2.2.1) (some (0,(false,()))) (cond (!r3.2.1) (some (0,(false,()))) ((aZ.f k r3.1 1 100000).bind fun r4=>cond (!r4.1) (some (0,(false,()))) (some (r3.1,(true,())))))) ((d5.f k r1.1).bind fun r5=>cond (!r1.2.1) (some (0,(false,()))) (cond (!r5.2.1) (some (0,(false,()))) ((aZ.f k r5.1 1 100000).bind fun r6=>cond (!r6.1) (some (0,(false,()))) (some (r5.1,(true,())))))))
def f:=t k
end ln
namespace gX
abbrev Rs:Type:=Option (Bool × Unit)
abbrev T0:Type:=Int→List Int→Int→Int→Rs
def b0 (k:Nat) (L0:T0):T0:=fun x0 x1 x2 x3 =>
 (cond (decide (x3<x2)) (dR x3 (x1.length:Int) (cond ((x1.getD x3.toNat (Ty.z (.int .i64)))==x0) (some (true,())) (L0 x0 x1 x2 (aQ (x3+1))))) (some (false,())))
def l0:Nat→T0
 | 0=>fun _ _ _ _=>none
 | n+1=>b0 k (l0 n)
def t (k:Nat) (L0:T0) (a0:List Int) (a1:Int):Rs :=
 (L0 a1 a0 (a0.length:Int) 0)
def f:=t k (l0 k k)
end gX
namespace ff
abbrev Rs:Type:=Option ((List ByteArray) × Unit)
abbrev T0:Type:=List (Ty.d aB)→Int→Int→Int→List Int→List ByteArray→Rs
def b0 (L0:T0):T0:=fun x0 x1 x2 x3 x4 x5 =>
 (cond (decide (x2<x1)) (dR x2 (x0.length:Int) ((ln.f k (x0.getD x2.toNat (Ty.z aB)).1).bind fun r2=>cond (seq (x0.getD x2.toNat (Ty.z aB)).1 (⟨#[116,101,109,112]⟩:ByteArray)) (rm (Ty.bytes .str) (x5.length+1) (L0 x0 x1 (aQ (x2+1)) x3 x4 (x5++[(x0.getD x2.toNat (Ty.z aB)).1]))) (cond r2.2.1 ((gX.f k x4 r2.1).bind fun r3=>cond (!r3.1) (rm (Ty.bytes .str) (x5.length+1) (L0 x0 x1 (aQ (x2+1)) x3 x4 (x5++[(x0.getD x2.toNat (Ty.z aB)).1]))) (L0 x0 x1 (aQ (x2+1)) x3 x4 x5)) (L0 x0 x1 (aQ (x2+1)) x3 x4 x5)))) (some (x5,())))
def l0:Nat→T0
 | 0=>fun _ _ _ _ _ _=>none
 | n+1=>b0 k (l0 n)
def t (L0:T0) (a0:Ty.d aA) (a1:Ty.d cv):Rs :=
 ((ay.f k a0).bind fun r1=>cond (!r1.1) (some ([],())) (L0 a0.1 (a0.1.length:Int) 0 a1.1 a1.2.1 []))
def f:=t k (l0 k k)
end ff
namespace eV
abbrev Rs:Type:=Option ((Ty.d aA) × Unit)
def t (a0:Ty.d aA) (a1:ByteArray):Rs :=
 ((bd.f k a0 a1).bind fun r1=>cond (decide (r1.1≥0)) (pS r1.1 (a0.1.length:Int) (rm (Ty.bytes aB) ((a0.1.take r1.1.toNat).length) (pS (aQ (r1.1+1)) (a0.1.length:Int) (rm (Ty.bytes aB) ((a0.1.take r1.1.toNat).length+List.length (a0.1.drop (aQ (r1.1+1)).toNat)) (some ((((a0.1.take r1.1.toNat)++(a0.1.drop (aQ (r1.1+1)).toNat)),a0.2),())))))) (some (a0,())))
def f:=t k
end eV
namespace g9
abbrev Rs:Type:=Option ((Ty.d aA) × ByteArray × Int × Unit)
def t (a0:Ty.d aA) (a1:ByteArray):Rs :=
 ((bd.f k a0 a1).bind fun r1=>cond (decide (r1.1<0)) (some (a0,(a1,(3,())))) ((eV.f k a0 a1).bind fun r2=>some (r2.1,(a1,(0,())))))
def f:=t k
end g9
namespace gM
abbrev Rs:Type:=Option (ByteArray × (Ty.d aA) × Int × Unit)
def t (a0:Ty.d aA) (a1:ByteArray):Rs :=
 ((bD.f k a0).bind fun r1=>(ay.f k a0).bind fun r2=>cond (!r2.1) (some (a1,(r1.1,(5,())))) (cond a0.2.2.2.1 (some (a1,((r1.1.1,(r1.1.2.1,(r1.1.2.2.1,(true,())))),(1,())))) (cond (a0.2.2.1==0) (some (a1,((r1.1.1,(r1.1.2.1,(r1.1.2.2.1,(true,())))),(1,())))) (cond (decide (a0.2.2.1 > 0)) ((g9.f k (r1.1.1,(r1.1.2.1,((aQ (r1.1.2.2.1-1)),r1.1.2.2.2))) a1).bind fun r3=>some (r3.2.1,(r3.1,r3.2.2))) ((g9.f k r1.1 a1).bind fun r4=>some (r4.2.1,(r4.1,r4.2.2)))))))
def f:=t k
end gM
namespace kK
abbrev Rs:Type:=Option ((Ty.d aA) × Int × Unit)
def t (a0:Ty.d aA) (a1:ByteArray):Rs :=
 ((gM.f k a0 a1).bind fun r1=>some r1.2)
def f:=t k
end kK
namespace bH
abbrev Rs:Type:=Option ((Ty.d am) × Unit)
def t (a0:Ty.d am) (a1:ByteArray):Rs :=
 (cond (a0.2.1==0) ((bd.f k a0.1 a1).bind fun r1=>cond (decide (r1.1≥0)) ((kK.f k a0.1 a1).bind fun r2=>(az.f k a0 r2.1 r2.2.1).bind fun r3=>some r3) (some (a0,()))) (some (a0,())))
def f:=t k
end bH
namespace af
abbrev Rs:Type:=Option ((Ty.d am) × Unit)
abbrev T0:Type:=Int→Int→List (Ty.d aB)→Int→Int→Bool→Int→List ByteArray→Rs
def b0 (L0:T0):T0:=fun x0 x1 x2 x3 x4 x5 x6 x7 =>
 (cond (decide (x1<x0)) (dR x1 (x7.length:Int) ((bH.f k ((x2,(x3,(x4,(x5,())))),(x6,())) (x7.getD x1.toNat (Ty.z .str))).bind fun r2=>L0 x0 (aQ (x1+1)) r2.1.1.1 r2.1.1.2.1 r2.1.1.2.2.1 r2.1.1.2.2.2.1 r2.1.2.1 x7)) (some (((x2,(x3,(x4,(x5,())))),(x6,())),())))
def l0:Nat→T0
 | 0=>fun _ _ _ _ _ _ _ _=>none
 | n+1=>b0 k (l0 n)
def t (L0:T0) (a0:Ty.d am) (a1:Ty.d cv):Rs :=
 ((ff.f k a0.1 a1).bind fun r1=>L0 (r1.1.length:Int) 0 a0.1.1 a0.1.2.1 a0.1.2.2.1 a0.1.2.2.2.1 a0.2.1 r1.1)
def f:=t k (l0 k k)
end af
namespace aP
abbrev Rs:Type:=Option ((Ty.d am) × (Ty.d aE) × Unit)
abbrev T0:Type:=List (List (Ty.d aL))→Int→Int→List (Ty.d aB)→Int→Int→Bool→Int→List Int→List (Ty.d aC)→Int→Int→Int→Int→List Int→Int→List (Ty.d aC)→Int→Int→Int→Int→List (Ty.d aC)→Int→Int→List (Ty.d aL)→Rs
abbrev T1:Type:=Int→Int→List (Ty.d aB)→Int→Int→Bool→Int→List Int→List (Ty.d aC)→Int→Int→Int→Int→List Int→Int→List (Ty.d aC)→Int→Int→Int→Int→List (Ty.d aC)→Int→Int→List (Ty.d aL)→List (List (Ty.d aL))→Rs
abbrev T2:Type:=List (List (Ty.d aL))→Int→Int→List (Ty.d aB)→Int→Int→Bool→Int→List Int→List (Ty.d aC)→Int→Int→Int→Int→List Int→Int→List (Ty.d aC)→Int→Int→Int→Int→List (Ty.d aC)→Int→Int→List (Ty.d aL)→Rs
abbrev T3:Type:=Int→Int→List (Ty.d aB)→Int→Int→Bool→Int→List Int→List (Ty.d aC)→Int→Int→Int→Int→List Int→Int→List (Ty.d aC)→Int→Int→Int→Int→List (Ty.d aC)→Int→Int→List (Ty.d aL)→List (List (Ty.d aL))→Rs
def b0 (L0:T0):T0:=fun x0 x1 x2 x3 x4 x5 x6 x7 x8 x9 x10 x11 x12 x13 x14 x15 x16 x17 x18 x19 x20 x21 x22 x23 x24 =>
 (cond (decide (x2<x1)) (dR x2 (x0.length:Int) (rm (Ty.bytes aL) (x24.length+List.length (x0.getD x2.toNat (Ty.z (.slice aL)))) (L0 x0 x1 (aQ (x2+1)) x3 x4 x5 x6 x7 x8 x9 x10 x11 x12 x13 x14 x15 x16 x17 x18 x19 x20 x21 x22 x23 (x24++(x0.getD x2.toNat (Ty.z (.slice aL))))))) ((dl.f k (x21,(x22,(x23,()))) x24).bind fun r9=>cond (r9.1.2.2.1 != 0) (some (((x3,(x4,(x5,(x6,())))),(3,())),(((0,([],())),([],(0,(0,(0,()))))),()))) ((af.f k ((x3,(x4,(x5,(x6,())))),(x7,())) (x15,(x14,()))).bind fun r10=>some (r10.1,(((x17,(x14,())),(r9.1.1,((aQ (r9.1.2.1+1)),(x19,(x20,()))))),())))))
def l0:Nat→T0
 | 0=>fun _ _ _ _ _ _ _ _ _ _ _ _ _ _ _ _ _ _ _ _ _ _ _ _ _=>none
 | n+1=>b0 k (l0 n)
def b1 (L1:T1):T1:=fun x0 x1 x2 x3 x4 x5 x6 x7 x8 x9 x10 x11 x12 x13 x14 x15 x16 x17 x18 x19 x20 x21 x22 x23 x24 =>
 (cond (decide (x1<x0)) (dR x1 (x24.length:Int) (rm (Ty.bytes aL) (x23.length+List.length (x24.getD x1.toNat (Ty.z (.slice aL)))) (L1 x0 (aQ (x1+1)) x2 x3 x4 x5 x6 x7 x8 x9 x10 x11 x12 x13 x14 x15 x16 x17 x18 x19 x20 x21 x22 (x23++(x24.getD x1.toNat (Ty.z (.slice aL)))) x24))) ((dl.f k (x20,(x21,(x22,()))) x23).bind fun r11=>cond (r11.1.2.2.1 != 0) (some (((x2,(x3,(x4,(x5,())))),(3,())),(((0,([],())),([],(0,(0,(0,()))))),()))) ((af.f k ((x2,(x3,(x4,(x5,())))),(x6,())) (x14,(x13,()))).bind fun r12=>some (r12.1,(((x16,(x13,())),(r11.1.1,((aQ (r11.1.2.1+1)),(x18,(x19,()))))),())))))
def l1:Nat→T1
 | 0=>fun _ _ _ _ _ _ _ _ _ _ _ _ _ _ _ _ _ _ _ _ _ _ _ _ _=>none
 | n+1=>b1 k (l1 n)
def b2 (L2:T2):T2:=fun x0 x1 x2 x3 x4 x5 x6 x7 x8 x9 x10 x11 x12 x13 x14 x15 x16 x17 x18 x19 x20 x21 x22 x23 x24 =>
 (cond (decide (x2<x1)) (dR x2 (x0.length:Int) (rm (Ty.bytes aL) (x24.length+List.length (x0.getD x2.toNat (Ty.z (.slice aL)))) (L2 x0 x1 (aQ (x2+1)) x3 x4 x5 x6 x7 x8 x9 x10 x11 x12 x13 x14 x15 x16 x17 x18 x19 x20 x21 x22 x23 (x24++(x0.getD x2.toNat (Ty.z (.slice aL))))))) ((dl.f k (x21,(x22,(x23,()))) x24).bind fun r15=>cond (r15.1.2.2.1 != 0) (some (((x3,(x4,(x5,(x6,())))),(3,())),(((0,([],())),([],(0,(0,(0,()))))),()))) ((af.f k ((x3,(x4,(x5,(x6,())))),(x7,())) (x15,(x14,()))).bind fun r16=>some (r16.1,(((x17,(x14,())),(r15.1.1,((aQ (r15.1.2.1+1)),(x19,(x20,()))))),())))))
def l2:Nat→T2
 | 0=>fun _ _ _ _ _ _ _ _ _ _ _ _ _ _ _ _ _ _ _ _ _ _ _ _ _=>none
 | n+1=>b2 k (l2 n)
def b3 (L3:T3):T3:=fun x0 x1 x2 x3 x4 x5 x6 x7 x8 x9 x10 x11 x12 x13 x14 x15 x16 x17 x18 x19 x20 x21 x22 x23 x24 =>
 (cond (decide (x1<x0)) (dR x1 (x24.length:Int) (rm (Ty.bytes aL) (x23.length+List.length (x24.getD x1.toNat (Ty.z (.slice aL)))) (L3 x0 (aQ (x1+1)) x2 x3 x4 x5 x6 x7 x8 x9 x10 x11 x12 x13 x14 x15 x16 x17 x18 x19 x20 x21 x22 (x23++(x24.getD x1.toNat (Ty.z (.slice aL)))) x24))) ((dl.f k (x20,(x21,(x22,()))) x23).bind fun r17=>cond (r17.1.2.2.1 != 0) (some (((x2,(x3,(x4,(x5,())))),(3,())),(((0,([],())),([],(0,(0,(0,()))))),()))) ((af.f k ((x2,(x3,(x4,(x5,())))),(x6,())) (x14,(x13,()))).bind fun r18=>some (r18.1,(((x16,(x13,())),(r17.1.1,((aQ (r17.1.2.1+1)),(x18,(x19,()))))),())))))
def l3:Nat→T3
 | 0=>fun _ _ _ _ _ _ _ _ _ _ _ _ _ _ _ _ _ _ _ _ _ _ _ _ _=>none
 | n+1=>b3 k (l3 n)
def t (L0:T0) (L1:T1) (L2:T2) (L3:T3) (a0:Ty.d am) (a1:ByteArray):Rs :=
 ((bA.f k a1).bind fun r1=>(bM.f k a0 r1.1).bind fun r2=>cond (!r1.2.1) (some ((r2.1.1,(3,())),(((0,([],())),([],(0,(0,(0,()))))),()))) (cond (!r2.2.2.2.1) (some ((r2.1.1,(3,())),(((0,([],())),([],(0,(0,(0,()))))),()))) (dR (aQ ((r1.1.2.1.length:Int)-1)) (r1.1.2.1.length:Int) ((ai.f k (r1.1.2.1.getD (aQ ((r1.1.2.1.length:Int)-1)).toNat (Ty.z (.int .i64)))).bind fun r3=>(bu.f k r2.1.1 r3.1).bind fun r4=>cond ((r4.1.size:Int) != r2.2.2.1) ((j8.f k r2.1.1 r3.1 r2.2.2.1).bind fun r5=>(az.f k r2.1 r5.1 r5.2.1).bind fun r6=>(bP.f k r6.1 r3.1).bind fun r7=>cond (r7.1.2.1 != 0) (some (r7.1,(((0,([],())),([],(0,(0,(0,()))))),()))) (dR 0 (r1.1.2.1.length:Int) ((dA.f k r7.1 (r1.1.2.1.getD 0 (Ty.z (.int .i64)))).bind fun r8=>cond r8.2.2.1 (dR 0 (r1.1.2.1.length:Int) (pS 1 (r2.2.1.length:Int) (L0 (r2.2.1.drop 1) ((r2.2.1.drop 1).length:Int) 0 r8.1.1.1 r8.1.1.2.1 r8.1.1.2.2.1 r8.1.1.2.2.2.1 r8.1.2.1 [] [] 0 0 0 0 r1.1.2.1 r1.1.1 [] r1.1.1 0 r2.2.2.1 (r1.1.2.1.getD 0 (Ty.z (.int .i64))) r8.2.1.1 r8.2.1.2.1 r8.2.1.2.2.1 []))) (L1 (r2.2.1.length:Int) 0 r8.1.1.1 r8.1.1.2.1 r8.1.1.2.2.1 r8.1.1.2.2.2.1 r8.1.2.1 [] [] 0 0 0 0 r1.1.2.1 r1.1.1 [] r1.1.1 0 r2.2.2.1 0 r8.2.1.1 r8.2.1.2.1 r8.2.1.2.2.1 [] r2.2.1)))) ((bP.f k r2.1 r3.1).bind fun r13=>cond (r13.1.2.1 != 0) (some (r13.1,(((0,([],())),([],(0,(0,(0,()))))),()))) (dR 0 (r1.1.2.1.length:Int) ((dA.f k r13.1 (r1.1.2.1.getD 0 (Ty.z (.int .i64)))).bind fun r14=>cond r14.2.2.1 (dR 0 (r1.1.2.1.length:Int) (pS 1 (r2.2.1.length:Int) (L2 (r2.2.1.drop 1) ((r2.2.1.drop 1).length:Int) 0 r14.1.1.1 r14.1.1.2.1 r14.1.1.2.2.1 r14.1.1.2.2.2.1 r14.1.2.1 [] [] 0 0 0 0 r1.1.2.1 r1.1.1 [] r1.1.1 0 r2.2.2.1 (r1.1.2.1.getD 0 (Ty.z (.int .i64))) r14.2.1.1 r14.2.1.2.1 r14.2.1.2.2.1 []))) (L3 (r2.2.1.length:Int) 0 r14.1.1.1 r14.1.1.2.1 r14.1.1.2.2.1 r14.1.1.2.2.2.1 r14.1.2.1 [] [] 0 0 0 0 r1.1.2.1 r1.1.1 [] r1.1.1 0 r2.2.2.1 0 r14.2.1.1 r14.2.1.2.1 r14.2.1.2.2.1 [] r2.2.1))))))))
def f:=t k (l0 k k) (l1 k k) (l2 k k) (l3 k k)
end aP
namespace dP
abbrev Rs:Type:=Option ((Ty.d aA) × Unit)
abbrev T0:Type:=Int→List (Ty.d aB)→Int→Int→Bool→ByteArray→ByteArray→Int→Rs
def b0 (k:Nat) (L0:T0):T0:=fun x0 x1 x2 x3 x4 x5 x6 x7 =>
 (cond (decide (x0<(x1.length:Int))) (dR x0 (x1.length:Int) (cond (nd (x1.getD x0.toNat (Ty.z aB)).1 x5) (L0 (aQ (x0+1)) x1 x2 x3 x4 x5 x6 x7) (pS x0 (x1.length:Int) (rm (Ty.bytes aB) ((x1.take x0.toNat).length) (rm (Ty.bytes aB) ((x1.take x0.toNat).length+1) (pS x0 (x1.length:Int) (rm (Ty.bytes aB) (List.length ((x1.take x0.toNat)++[(x5,(x6,(x7,())))])+List.length (x1.drop x0.toNat)) (some (((((x1.take x0.toNat)++[(x5,(x6,(x7,())))])++(x1.drop x0.toNat)),(x2,(x3,(x4,())))),()))))))))) (pS x0 (x1.length:Int) (rm (Ty.bytes aB) ((x1.take x0.toNat).length) (rm (Ty.bytes aB) ((x1.take x0.toNat).length+1) (pS x0 (x1.length:Int) (rm (Ty.bytes aB) (List.length ((x1.take x0.toNat)++[(x5,(x6,(x7,())))])+List.length (x1.drop x0.toNat)) (some (((((x1.take x0.toNat)++[(x5,(x6,(x7,())))])++(x1.drop x0.toNat)),(x2,(x3,(x4,())))),()))))))))
def l0:Nat→T0
 | 0=>fun _ _ _ _ _ _ _ _=>none
 | n+1=>b0 k (l0 n)
def t (k:Nat) (L0:T0) (a0:Ty.d aA) (a1:Ty.d aB):Rs :=
 (L0 0 a0.1 a0.2.1 a0.2.2.1 a0.2.2.2.1 a1.1 a1.2.1 a1.2.2.1)
def f:=t k (l0 k k)
end dP
namespace gA
abbrev Rs:Type:=Option ((Ty.d aA) × ByteArray × Int × Unit)
def t (a0:Ty.d aA) (a1:ByteArray):Rs :=
 ((eN.f k a1).bind fun r1=>cond (!r1.1) (some (a0,(a1,(5,())))) ((bd.f k a0 a1).bind fun r2=>cond (decide (r2.1≥0)) (some (a0,(a1,(4,())))) (cond (decide ((a0.1.length:Int)≥130)) (some (a0,(a1,(2,())))) ((dP.f k a0 (a1,(ByteArray.empty,(0,())))).bind fun r3=>some (r3.1,(a1,(0,())))))))
def f:=t k
end gA
namespace gP
abbrev Rs:Type:=Option (ByteArray × (Ty.d aA) × Int × Unit)
def t (a0:Ty.d aA) (a1:ByteArray):Rs :=
 ((bD.f k a0).bind fun r1=>(ay.f k a0).bind fun r2=>cond (!r2.1) (some (a1,(r1.1,(5,())))) (cond a0.2.2.2.1 (some (a1,((r1.1.1,(r1.1.2.1,(r1.1.2.2.1,(true,())))),(1,())))) (cond (a0.2.2.1==0) (some (a1,((r1.1.1,(r1.1.2.1,(r1.1.2.2.1,(true,())))),(1,())))) (cond (decide (a0.2.2.1 > 0)) ((gA.f k (r1.1.1,(r1.1.2.1,((aQ (r1.1.2.2.1-1)),r1.1.2.2.2))) a1).bind fun r3=>some (r3.2.1,(r3.1,r3.2.2))) ((gA.f k r1.1 a1).bind fun r4=>some (r4.2.1,(r4.1,r4.2.2)))))))
def f:=t k
end gP
namespace kL
abbrev Rs:Type:=Option ((Ty.d aA) × Int × Unit)
def t (a0:Ty.d aA) (a1:ByteArray):Rs :=
 ((gP.f k a0 a1).bind fun r1=>some r1.2)
def f:=t k
end kL
namespace dU
abbrev Rs:Type:=Option ((Ty.d am) × Unit)
def t (a0:Ty.d am) (a1:ByteArray):Rs :=
 (cond (a0.2.1==0) ((kL.f k a0.1 a1).bind fun r1=>(az.f k a0 r1.1 r1.2.1).bind fun r2=>some r2) (some (a0,())))
def f:=t k
end dU
namespace j9
abbrev Rs:Type:=Option (ByteArray × Unit)
def t (a0:Ty.d cv):Rs :=
 ((dM.f k a0).bind fun r1=>cond (!r1.1) (some ((⟨#[]⟩:ByteArray),())) ((dh.f k [a0.1,(a0.2.1.length:Int)]).bind fun r2=>(dh.f k a0.2.1).bind fun r3=>oV r2.1 r3.1 ((gk.f k (r2.1++r3.1)).bind fun r4=>some r4)))
def f:=t k
end j9
namespace cu
abbrev Rs:Type:=Option ((Ty.d am) × Unit)
def t (a0:Ty.d am) (a1:ByteArray):Rs :=
 ((bH.f k a0 a1).bind fun r1=>(dU.f k r1.1 a1).bind fun r2=>some r2)
def f:=t k
end cu
namespace hO
abbrev Rs:Type:=Option (Int × Unit)
abbrev T0:Type:=Int→List (Ty.d aB)→Int→Int→Rs
def b0 (k:Nat) (L0:T0):T0:=fun x0 x1 x2 x3 =>
 (cond (decide (x3<x2)) (dR x3 (x1.length:Int) (L0 (aQ (x0+(ByteArray.size (x1.getD x3.toNat (Ty.z aB)).2.1:Int))) x1 x2 (aQ (x3+1)))) (some (x0,())))
def l0:Nat→T0
 | 0=>fun _ _ _ _=>none
 | n+1=>b0 k (l0 n)
def t (k:Nat) (L0:T0) (a0:Ty.d aA):Rs :=
 (L0 0 a0.1 (a0.1.length:Int) 0)
def f:=t k (l0 k k)
end hO
namespace g7
abbrev Rs:Type:=Option ((Ty.d aA) × ByteArray × ByteArray × Int × Unit)
def t (a0:Ty.d aA) (a1:ByteArray) (a2:ByteArray):Rs :=
 ((bd.f k a0 a1).bind fun r1=>cond (decide (r1.1<0)) (some (a0,(a1,(a2,(3,()))))) ((hO.f k a0).bind fun r2=>cond (decide ((a2.size:Int) > (aQ (a0.2.1-r2.1)))) (some (a0,(a1,(a2,(2,()))))) (dR r1.1 (a0.1.length:Int) (oV (a0.1.getD r1.1.toNat (Ty.z aB)).2.1 a2 (dR r1.1 (a0.1.length:Int) (let l3:=(a0.1.set r1.1.toNat ((a0.1.getD r1.1.toNat (Ty.z aB)).1,(((a0.1.getD r1.1.toNat (Ty.z aB)).2.1++a2),(a0.1.getD r1.1.toNat (Ty.z aB)).2.2)));(some ((l3,a0.2),(a1,(a2,(0,())))))))))))
def f:=t k
end g7
namespace gL
abbrev Rs:Type:=Option (ByteArray × ByteArray × (Ty.d aA) × Int × Unit)
def t (a0:Ty.d aA) (a1:ByteArray) (a2:ByteArray):Rs :=
 ((bD.f k a0).bind fun r1=>(ay.f k a0).bind fun r2=>cond (!r2.1) (some (a1,(a2,(r1.1,(5,()))))) (cond a0.2.2.2.1 (some (a1,(a2,((r1.1.1,(r1.1.2.1,(r1.1.2.2.1,(true,())))),(1,()))))) (cond (a0.2.2.1==0) (some (a1,(a2,((r1.1.1,(r1.1.2.1,(r1.1.2.2.1,(true,())))),(1,()))))) (cond (decide (a0.2.2.1 > 0)) ((g7.f k (r1.1.1,(r1.1.2.1,((aQ (r1.1.2.2.1-1)),r1.1.2.2.2))) a1 a2).bind fun r3=>some (r3.2.1,(r3.2.2.1,(r3.1,r3.2.2.2)))) ((g7.f k r1.1 a1 a2).bind fun r4=>some (r4.2.1,(r4.2.2.1,(r4.1,r4.2.2.2))))))))
def f:=t k
end gL
namespace kP
abbrev Rs:Type:=Option ((Ty.d aA) × Int × Unit)
def t (a0:Ty.d aA) (a1:ByteArray) (a2:ByteArray):Rs :=
 ((gL.f k a0 a1 a2).bind fun r1=>some r1.2.2)
def f:=t k
end kP
namespace cU
abbrev Rs:Type:=Option ((Ty.d am) × Unit)
def t (a0:Ty.d am) (a1:ByteArray) (a2:ByteArray):Rs :=
 (cond (a0.2.1==0) ((kP.f k a0.1 a1 a2).bind fun r1=>(az.f k a0 r1.1 r1.2.1).bind fun r2=>some r2) (some (a0,())))
def f:=t k
end cU
namespace dV
abbrev Rs:Type:=Option ((Ty.d am) × Unit)
def t (a0:Ty.d am) (a1:ByteArray) (a2:ByteArray):Rs :=
 ((cu.f k a0 a1).bind fun r1=>(cU.f k r1.1 a1 a2).bind fun r2=>(bP.f k r2.1 a1).bind fun r3=>some r3)
def f:=t k
end dV
namespace g_
abbrev Rs:Type:=Option ((Ty.d aA) × ByteArray × ByteArray × Int × Unit)
def t (a0:Ty.d aA) (a1:ByteArray) (a2:ByteArray):Rs :=
 ((bd.f k a0 a1).bind fun r1=>(eN.f k a2).bind fun r2=>cond (!r2.1) (some (a0,(a1,(a2,(5,()))))) (cond (decide (r1.1<0)) (some (a0,(a1,(a2,(3,()))))) (dR r1.1 (a0.1.length:Int) ((eV.f k a0 a1).bind fun r3=>(eV.f k r3.1 a2).bind fun r4=>(dP.f k r4.1 (a2,(a0.1.getD r1.1.toNat (Ty.z aB)).2)).bind fun r5=>some (r5.1,(a1,(a2,(0,()))))))))
def f:=t k
end g_
namespace gK
abbrev Rs:Type:=Option (ByteArray × ByteArray × (Ty.d aA) × Int × Unit)
def t (a0:Ty.d aA) (a1:ByteArray) (a2:ByteArray):Rs :=
 ((bD.f k a0).bind fun r1=>(ay.f k a0).bind fun r2=>cond (!r2.1) (some (a1,(a2,(r1.1,(5,()))))) (cond a0.2.2.2.1 (some (a1,(a2,((r1.1.1,(r1.1.2.1,(r1.1.2.2.1,(true,())))),(1,()))))) (cond (a0.2.2.1==0) (some (a1,(a2,((r1.1.1,(r1.1.2.1,(r1.1.2.2.1,(true,())))),(1,()))))) (cond (decide (a0.2.2.1 > 0)) ((g_.f k (r1.1.1,(r1.1.2.1,((aQ (r1.1.2.2.1-1)),r1.1.2.2.2))) a1 a2).bind fun r3=>some (r3.2.1,(r3.2.2.1,(r3.1,r3.2.2.2)))) ((g_.f k r1.1 a1 a2).bind fun r4=>some (r4.2.1,(r4.2.2.1,(r4.1,r4.2.2.2))))))))
def f:=t k
end gK
namespace kN
abbrev Rs:Type:=Option ((Ty.d aA) × Int × Unit)
def t (a0:Ty.d aA) (a1:ByteArray) (a2:ByteArray):Rs :=
 ((gK.f k a0 a1 a2).bind fun r1=>some r1.2.2)
def f:=t k
end kN
namespace f9
abbrev Rs:Type:=Option ((Ty.d am) × Unit)
def t (a0:Ty.d am) (a1:ByteArray) (a2:ByteArray):Rs :=
 (cond (a0.2.1==0) ((kN.f k a0.1 a1 a2).bind fun r1=>(az.f k a0 r1.1 r1.2.1).bind fun r2=>some r2) (some (a0,())))
def f:=t k
end f9
namespace cH
abbrev Rs:Type:=Option ((Ty.d am) × Unit)
def t (a0:Ty.d am) (a1:Ty.d cv):Rs :=
 ((j9.f k a1).bind fun r1=>(dV.f k a0 (⟨#[116,101,109,112]⟩:ByteArray) r1.1).bind fun r2=>(f9.f k r2.1 (⟨#[116,101,109,112]⟩:ByteArray) (⟨#[108,105,118,101]⟩:ByteArray)).bind fun r3=>some r3)
def f:=t k
end cH
namespace fW
abbrev Rs:Type:=Option ((Ty.d am) × (Ty.d aE) × Unit)
def t (a0:Ty.d am):Rs :=
 ((af.f k a0 (0,([],()))).bind fun r1=>(ai.f k 1).bind fun r2=>(dU.f k r1.1 r2.1).bind fun r3=>(cH.f k r3.1 (2,([1],()))).bind fun r4=>some (r4.1,(((2,([1],())),([],(1,(0,(0,()))))),())))
def f:=t k
end fW
namespace mX
abbrev Rs:Type:=Option ((Ty.d aE) × (Ty.d aA) × Int × Unit)
def t (a0:Ty.d aA):Rs :=
 ((bD.f k a0).bind fun r1=>(ay.f k a0).bind fun r2=>cond (!r2.1) (some (((0,([],())),([],(0,(0,(0,()))))),(r1.1,(4,())))) (cond a0.2.2.2.1 (some (((0,([],())),([],(0,(0,(0,()))))),(r1.1,(1,())))) ((bu.f k a0 (⟨#[108,105,118,101]⟩:ByteArray)).bind fun r3=>cond r3.2.1 ((aP.f k (r1.1,(0,())) r3.1).bind fun r4=>cond (r4.1.2.1 != 0) (some (((0,([],())),([],(0,(0,(0,()))))),r4.1)) (some (r4.2.1,(r4.1.1,(0,()))))) ((fW.f k (r1.1,(0,()))).bind fun r5=>cond (r5.1.2.1 != 0) (some (((0,([],())),([],(0,(0,(0,()))))),r5.1)) (some (r5.2.1,(r5.1.1,(0,()))))))))
def f:=t k
end mX
namespace fQ
abbrev Rs:Type:=Option ((Ty.d bF) × Int × Unit)
def t (a0:Ty.d aA):Rs :=
 ((mX.f k a0).bind fun r1=>yl (Ty.bytes aV) 3 (some (((r1.2.2.1==0),(r1.1,(r1.2.1,((List.replicate (Int.toNat 3) (Ty.z aV)),())))),r1.2.2)))
def f:=t k
end fQ
namespace dX
abbrev Rs:Type:=Option ((Ty.d cv) × Unit)
def t (k:Nat) (a0:Ty.d cv):Rs :=
 (rm (Ty.bytes (.int .i64)) (a0.2.1.length) (some (a0,())))
def f:=t k
end dX
namespace cO
abbrev Rs:Type:=Option ((Ty.d aE) × Unit)
def t (a0:Ty.d aE):Rs :=
 ((dX.f k a0.1).bind fun r1=>(cL.f k a0.2.1).bind fun r2=>some ((r1.1,(r2.1,a0.2.2)),()))
def f:=t k
end cO
namespace jp
abbrev Rs:Type:=Option ((List (Ty.d aM)) × Unit)
def t (k:Nat) (a0:List (Ty.d aM)):Rs :=
 (rm (Ty.bytes aM) (a0.length) (some (a0,())))
def f:=t k
end jp
namespace eA
abbrev Rs:Type:=Option ((Ty.d aV) × Unit)
def t (a0:Ty.d aV):Rs :=
 (rm (Ty.bytes dK) (a0.2.1.length) ((jp.f k a0.2.2.1).bind fun r1=>some ((a0.1,(a0.2.1,r1)),())))
def f:=t k
end eA
namespace eI
abbrev Rs:Type:=Option ((List (Ty.d aV)) × Unit)
abbrev T0:Type:=List (Ty.d aV)→Int→Int→List (Ty.d aV)→Rs
def b0 (L0:T0):T0:=fun x0 x1 x2 x3 =>
 (cond (decide (x2<x1)) (dR x2 (x0.length:Int) ((eA.f k (x0.getD x2.toNat (Ty.z aV))).bind fun r1=>rm (Ty.bytes aV) (x3.length+1) (L0 x0 x1 (aQ (x2+1)) (x3++[r1.1])))) (some (x3,())))
def l0:Nat→T0
 | 0=>fun _ _ _ _=>none
 | n+1=>b0 k (l0 n)
def t (k:Nat) (L0:T0) (a0:List (Ty.d aV)):Rs :=
 (L0 a0 (a0.length:Int) 0 [])
def f:=t k (l0 k k)
end eI
namespace i7
abbrev Rs:Type:=Option ((Ty.d bF) × Unit)
def t (a0:Ty.d bF):Rs :=
 ((cO.f k a0.2.1).bind fun r1=>(bD.f k a0.2.2.1).bind fun r2=>(eI.f k a0.2.2.2.1).bind fun r3=>some ((a0.1,(r1.1,(r2.1,r3))),()))
def f:=t k
end i7
namespace eZ
abbrev Rs:Type:=Option ((List (Ty.d aM)) × Unit)
abbrev T1:Type:=Int→List (Ty.d aM)→Int→Int→Int→Int→List (Ty.d aM)→ByteArray→Bool→ByteArray→Rs
abbrev T0:Type:=List (Ty.d aM)→Int→Int→List (Ty.d aM)→Rs
def b1 (k:Nat) (L0:T0) (L1:T1):T1:=fun x0 x1 x2 x3 x4 x5 x6 x7 x8 x9 =>
 (cond (decide (x5<x4)) (dR x5 (x6.length:Int) (cond (seq (x6.getD x5.toNat (Ty.z aM)).1 x7) (L1 x5 x1 x2 x3 x4 (aQ (x5+1)) x6 x7 x8 x9) (L1 x0 x1 x2 x3 x4 (aQ (x5+1)) x6 x7 x8 x9))) (cond (decide (x0≥0)) (dR x0 (x6.length:Int) (let l1:=(x6.set x0.toNat (x7,(x8,(x9,()))));(L0 x1 x2 (aQ (x3+1)) l1))) (rm (Ty.bytes aM) (x6.length+1) (L0 x1 x2 (aQ (x3+1)) (x6++[(x7,(x8,(x9,())))])))))
def l1 (L0:T0):Nat→T1
 | 0=>fun _ _ _ _ _ _ _ _ _ _=>none
 | n+1=>b1 k L0 (l1 L0 n)
def b0 (k:Nat) (L1:T1) (L0:T0):T0:=fun x0 x1 x2 x3 =>
 (cond (decide (x2<x1)) (dR x2 (x0.length:Int) (L1 (-1) x0 x1 x2 (x3.length:Int) 0 x3 (x0.getD x2.toNat (Ty.z aM)).1 (x0.getD x2.toNat (Ty.z aM)).2.1 (x0.getD x2.toNat (Ty.z aM)).2.2.1)) (some (x3,())))
def l0:Nat→T0
 | 0=>fun _ _ _ _=>none
 | n+1=>b0 k (l1 k (l0 n) k) (l0 n)
def t (k:Nat) (L0:T0) (a0:List (Ty.d aM)):Rs :=
 (L0 a0 (a0.length:Int) 0 [])
def f:=t k (l0 k k)
end eZ
namespace eD
abbrev Rs:Type:=Option ((List (Ty.d aM)) × Unit)
def t (a0:Ty.d aV):Rs :=
 ((eZ.f k a0.2.2.1).bind fun r1=>some r1)
def f:=t k
end eD
namespace ke
abbrev Rs:Type:=Option ((List (Ty.d aM)) × Unit)
def t (a0:Ty.d bF) (a1:Ty.d aH):Rs :=
 (cond (a1.1 != 5) (some ([],())) (cond (!a0.1) (some ([],())) ((aZ.f k a1.2.1 0 (aQ ((a0.2.2.2.1.length:Int)-1))).bind fun r1=>cond (!r1.1) (some ([],())) (dR a1.2.1 (a0.2.2.2.1.length:Int) (cond (!(a0.2.2.2.1.getD a1.2.1.toNat (Ty.z aV)).1) (some ([],())) (dR a1.2.1 (a0.2.2.2.1.length:Int) ((eD.f k (a0.2.2.2.1.getD a1.2.1.toNat (Ty.z aV))).bind fun r2=>some r2)))))))
def f:=t k
end ke
namespace e_
abbrev Rs:Type:=Option ((List ByteArray) × Unit)
abbrev T0:Type:=List (Ty.d aC)→Int→Int→List ByteArray→Rs
def b0 (k:Nat) (L0:T0):T0:=fun x0 x1 x2 x3 =>
 (cond (decide (x2<x1)) (dR x2 (x0.length:Int) (rm (Ty.bytes .str) (x3.length+1) (L0 x0 x1 (aQ (x2+1)) (x3++[(x0.getD x2.toNat (Ty.z aC)).1])))) (some (x3,())))
def l0:Nat→T0
 | 0=>fun _ _ _ _=>none
 | n+1=>b0 k (l0 n)
def t (k:Nat) (L0:T0) (a0:List (Ty.d aC)):Rs :=
 (L0 a0 (a0.length:Int) 0 [])
def f:=t k (l0 k k)
end e_
namespace fP
abbrev Rs:Type:=Option ((Ty.d aC) × Bool × Unit)
abbrev T0:Type:=ByteArray→List (Ty.d aC)→Int→Int→ByteArray→Int→Int→Int→Int→Rs
def b0 (k:Nat) (L0:T0):T0:=fun x0 x1 x2 x3 x4 x5 x6 x7 x8 =>
 (cond (decide (x3<x2)) (dR x3 (x1.length:Int) (cond (seq (x1.getD x3.toNat (Ty.z aC)).1 x0) (some ((x1.getD x3.toNat (Ty.z aC)),(true,()))) (L0 x0 x1 x2 (aQ (x3+1)) x4 x5 x6 x7 x8))) (some ((ByteArray.empty,(0,(0,(0,(0,()))))),(false,()))))
def l0:Nat→T0
 | 0=>fun _ _ _ _ _ _ _ _ _=>none
 | n+1=>b0 k (l0 n)
def t (k:Nat) (L0:T0) (a0:List (Ty.d aC)) (a1:ByteArray):Rs :=
 (L0 a1 a0 (a0.length:Int) 0 ByteArray.empty 0 0 0 0)
def f:=t k (l0 k k)
end fP
namespace jm
abbrev Rs:Type:=Option ((Ty.d bf) × Bool × Unit)
def t (a0:ByteArray) (a1:Int) (a2:Int):Rs :=
 ((aZ.f k a1 0 (a0.size:Int)).bind fun r1=>cond (!r1.1) (some ((0,(0,(ByteArray.empty,(ByteArray.empty,(0,(0,())))))),(false,()))) ((aZ.f k a2 0 (aQ ((a0.size:Int)-a1))).bind fun r2=>cond (!r2.1) (some ((0,(0,(ByteArray.empty,(ByteArray.empty,(0,(0,())))))),(false,()))) (KC a1 (aQ (a1+a2)) (a0.size:Int) ((eC.f k (a0.extract a1.toNat (aQ (a1+a2)).toNat)).bind fun r3=>cond (r3.2.1==0) (some ((0,(0,(ByteArray.empty,(ByteArray.empty,(0,(0,())))))),(false,()))) (cond (r3.2.1 != a2) (some ((0,(0,(ByteArray.empty,(ByteArray.empty,(0,(0,())))))),(false,()))) ((dF.f k r3.1).bind fun r4=>some r4))))))
def f:=t k
end jm
namespace mF
abbrev Rs:Type:=Option ((Ty.d aB) × Int × Unit)
def t (a0:Ty.d aE) (a1:Ty.d aA) (a2:ByteArray):Rs :=
 ((fP.f k a0.2.1 a2).bind fun r1=>cond (!r1.2.1) (some ((ByteArray.empty,(ByteArray.empty,(0,()))),(8,()))) ((ai.f k r1.1.2.1).bind fun r2=>(bu.f k a1 r2.1).bind fun r3=>(jm.f k r3.1 r1.1.2.2.1 r1.1.2.2.2.1).bind fun r4=>cond (!r4.2.1) (some ((ByteArray.empty,(ByteArray.empty,(0,()))),(3,()))) (cond (r4.1.1 != 1) (cond (r4.1.1 != 4) (some ((ByteArray.empty,(ByteArray.empty,(0,()))),(3,()))) (cond (!(seq r4.1.2.2.1 a2)) (some ((ByteArray.empty,(ByteArray.empty,(0,()))),(3,()))) (some ((r4.1.2.2.1,(r4.1.2.2.2.1,(r4.1.2.1,()))),(0,()))))) (cond (!(seq r4.1.2.2.1 a2)) (some ((ByteArray.empty,(ByteArray.empty,(0,()))),(3,()))) (some ((r4.1.2.2.1,(r4.1.2.2.2.1,(r4.1.2.1,()))),(0,())))))))
def f:=t k
end mF
namespace iK
abbrev Rs:Type:=Option ((List (Ty.d aB)) × Int × Unit)
abbrev T0:Type:=Int→Int→Int→List Int→List (Ty.d aC)→Int→Int→Int→List (Ty.d aB)→Int→Int→Bool→List (Ty.d aB)→List ByteArray→Rs
def b0 (L0:T0):T0:=fun x0 x1 x2 x3 x4 x5 x6 x7 x8 x9 x10 x11 x12 x13 =>
 (cond (decide (x1<x0)) (dR x1 (x13.length:Int) ((mF.f k ((x2,(x3,())),(x4,(x5,(x6,(x7,()))))) (x8,(x9,(x10,(x11,())))) (x13.getD x1.toNat (Ty.z .str))).bind fun r2=>cond (r2.2.1 != 0) (some ([],r2.2)) (rm (Ty.bytes aB) (x12.length+1) (L0 x0 (aQ (x1+1)) x2 x3 x4 x5 x6 x7 x8 x9 x10 x11 (x12++[r2.1]) x13)))) (some (x12,(0,()))))
def l0:Nat→T0
 | 0=>fun _ _ _ _ _ _ _ _ _ _ _ _ _ _=>none
 | n+1=>b0 k (l0 n)
def t (L0:T0) (a0:Ty.d aE) (a1:Ty.d aA):Rs :=
 ((e_.f k a0.2.1).bind fun r1=>L0 (r1.1.length:Int) 0 a0.1.1 a0.1.2.1 a0.2.1 a0.2.2.1 a0.2.2.2.1 a0.2.2.2.2.1 a1.1 a1.2.1 a1.2.2.1 a1.2.2.2.1 [] r1.1)
def f:=t k (l0 k k)
end iK
namespace cg
abbrev Rs:Type:=Option (Bool × Unit)
abbrev T1:Type:=List (Ty.d aC)→Int→Int→Int→List Int→List (Ty.d aC)→Int→Int→Int→List (Ty.d aB)→Int→Int→Bool→Rs
abbrev T0:Type:=List Int→Int→Int→Int→List Int→List (Ty.d aC)→Int→Int→Int→List (Ty.d aB)→Int→Int→Bool→Rs
def b1 (L1:T1):T1:=fun x0 x1 x2 x3 x4 x5 x6 x7 x8 x9 x10 x11 x12 =>
 (cond (decide (x2<x1)) (dR x2 (x0.length:Int) ((ai.f k (x0.getD x2.toNat (Ty.z aC)).2.1).bind fun r8=>(bu.f k (x9,(x10,(x11,(x12,())))) r8.1).bind fun r9=>(jm.f k r9.1 (x0.getD x2.toNat (Ty.z aC)).2.2.1 (x0.getD x2.toNat (Ty.z aC)).2.2.2.1).bind fun r10=>cond (!r10.2.1) (some (false,())) (cond (r10.1.1 != 1) (cond (r10.1.1 != 4) (some (false,())) (cond (!(seq r10.1.2.2.1 (x0.getD x2.toNat (Ty.z aC)).1)) (some (false,())) (cond (r10.1.2.1 != (x0.getD x2.toNat (Ty.z aC)).2.2.2.2.1) (some (false,())) (cond (decide ((x0.getD x2.toNat (Ty.z aC)).2.2.2.2.1≥x6)) (some (false,())) (L1 x0 x1 (aQ (x2+1)) x3 x4 x5 x6 x7 x8 x9 x10 x11 x12))))) (cond (!(seq r10.1.2.2.1 (x0.getD x2.toNat (Ty.z aC)).1)) (some (false,())) (cond (r10.1.2.1 != (x0.getD x2.toNat (Ty.z aC)).2.2.2.2.1) (some (false,())) (cond (decide ((x0.getD x2.toNat (Ty.z aC)).2.2.2.2.1≥x6)) (some (false,())) (L1 x0 x1 (aQ (x2+1)) x3 x4 x5 x6 x7 x8 x9 x10 x11 x12))))))) (some (true,())))
def l1:Nat→T1
 | 0=>fun _ _ _ _ _ _ _ _ _ _ _ _ _=>none
 | n+1=>b1 k (l1 n)
def b0 (L1:T1) (L0:T0):T0:=fun x0 x1 x2 x3 x4 x5 x6 x7 x8 x9 x10 x11 x12 =>
 (cond (decide (x2<x1)) (dR x2 (x0.length:Int) ((ai.f k (x0.getD x2.toNat (Ty.z (.int .i64)))).bind fun r5=>(bu.f k (x9,(x10,(x11,(x12,())))) r5.1).bind fun r6=>(dL.f k r6.1).bind fun r7=>cond (!r6.2.1) (some (false,())) (cond (r7.2.1 != (r6.1.size:Int)) (some (false,())) (cond (x2==(aQ ((x4.length:Int)-1))) (cond (x7 != r7.2.1) (some (false,())) (L0 x0 x1 (aQ (x2+1)) x3 x4 x5 x6 x7 x8 x9 x10 x11 x12)) (L0 x0 x1 (aQ (x2+1)) x3 x4 x5 x6 x7 x8 x9 x10 x11 x12))))) (L1 x5 (x5.length:Int) 0 x3 x4 x5 x6 x7 x8 x9 x10 x11 x12))
def l0:Nat→T0
 | 0=>fun _ _ _ _ _ _ _ _ _ _ _ _ _=>none
 | n+1=>b0 k (l1 k k) (l0 n)
def t (L0:T0) (a0:Ty.d aE) (a1:Ty.d aA):Rs :=
 ((ay.f k a1).bind fun r1=>cond (!r1.1) (some (false,())) ((dM.f k a0.1).bind fun r2=>cond (!r2.1) (some (false,())) ((eS.f k a0.2.1).bind fun r3=>cond (!r3.1) (some (false,())) ((aZ.f k a0.2.2.1 1 1000001).bind fun r4=>cond (!r4.1) (some (false,())) (L0 a0.1.2.1 (a0.1.2.1.length:Int) 0 a0.1.1 a0.1.2.1 a0.2.1 a0.2.2.1 a0.2.2.2.1 a0.2.2.2.2.1 a1.1 a1.2.1 a1.2.2.1 a1.2.2.2.1)))))
def f:=t k (l0 k k)
end cg
namespace iI
abbrev Rs:Type:=Option ((List (Ty.d bf)) × Unit)
abbrev T0:Type:=List (Ty.d aB)→Int→List (Ty.d aB)→Int→Int→List (Ty.d bf)→Rs
def b0 (L0:T0):T0:=fun x0 x1 x2 x3 x4 x5 =>
 (cond (decide (x4<x3)) (dR x4 (x2.length:Int) (rm (Ty.bytes bf) (x5.length+1) (L0 x0 x1 x2 x3 (aQ (x4+1)) (x5++[(4,((x2.getD x4.toNat (Ty.z aB)).2.2.1,((x2.getD x4.toNat (Ty.z aB)).1,((x2.getD x4.toNat (Ty.z aB)).2.1,(0,(0,()))))))])))) ((gN.f k x5).bind fun r1=>rm (Ty.bytes bf) (x5.length+1) (some ((x5++[(5,(x1,(ByteArray.empty,(ByteArray.empty,((x0.length:Int),r1)))))]),()))))
def l0:Nat→T0
 | 0=>fun _ _ _ _ _ _=>none
 | n+1=>b0 k (l0 n)
def t (k:Nat) (L0:T0) (a0:List (Ty.d aB)) (a1:Int):Rs :=
 (L0 a0 a1 a0 (a0.length:Int) 0 [])
def f:=t k (l0 k k)
end iI
namespace bG
abbrev Rs:Type:=Option ((Ty.d am) × (List (Ty.d aC)) × Unit)
abbrev T0:Type:=Int→Int→List (Ty.d bf)→Int→Int→List (Ty.d aB)→Int→Int→Bool→Int→List (Ty.d aC)→Rs
def b0 (L0:T0):T0:=fun x0 x1 x2 x3 x4 x5 x6 x7 x8 x9 x10 =>
 (cond (decide (x4<x3)) (dR x4 (x2.length:Int) ((gD.f k (x2.getD x4.toNat (Ty.z bf))).bind fun r3=>(gk.f k r3.1).bind fun r4=>(ai.f k x0).bind fun r5=>(cU.f k ((x5,(x6,(x7,(x8,())))),(x9,())) r5.1 r4.1).bind fun r6=>cond ((x2.getD x4.toNat (Ty.z bf)).1==4) (rm (Ty.bytes aC) (x10.length+1) (L0 x0 (aQ (x1+(r4.1.size:Int))) x2 x3 (aQ (x4+1)) r6.1.1.1 r6.1.1.2.1 r6.1.1.2.2.1 r6.1.1.2.2.2.1 r6.1.2.1 (x10++[((x2.getD x4.toNat (Ty.z bf)).2.2.1,(x0,(x1,((r4.1.size:Int),((x2.getD x4.toNat (Ty.z bf)).2.1,())))))]))) (L0 x0 (aQ (x1+(r4.1.size:Int))) x2 x3 (aQ (x4+1)) r6.1.1.1 r6.1.1.2.1 r6.1.1.2.2.1 r6.1.1.2.2.2.1 r6.1.2.1 x10))) ((ai.f k x0).bind fun r7=>(bP.f k ((x5,(x6,(x7,(x8,())))),(x9,())) r7.1).bind fun r8=>(ai.f k (aQ (x0+1))).bind fun r9=>(cu.f k r8.1 r9.1).bind fun r10=>some (r10.1,(x10,()))))
def l0:Nat→T0
 | 0=>fun _ _ _ _ _ _ _ _ _ _ _=>none
 | n+1=>b0 k (l0 n)
def t (L0:T0) (a0:Ty.d am) (a1:Int) (a2:List (Ty.d bf)):Rs :=
 ((ai.f k a1).bind fun r1=>(cu.f k a0 r1.1).bind fun r2=>L0 a1 0 a2 (a2.length:Int) 0 r2.1.1.1 r2.1.1.2.1 r2.1.1.2.2.1 r2.1.1.2.2.2.1 r2.1.2.1 [])
def f:=t k (l0 k k)
end bG
namespace di
abbrev Rs:Type:=Option ((Ty.d am) × Unit)
def t (a0:Ty.d am) (a1:Int):Rs :=
 (cond (a0.2.1 != 0) (some (a0,())) ((ai.f k a1).bind fun r1=>(bu.f k a0.1 r1.1).bind fun r2=>(eQ.f k a1 r2.1).bind fun r3=>(dW.f k a1).bind fun r4=>(dH.f k r3.1).bind fun r5=>(dV.f k a0 r4.1 r5.1).bind fun r6=>cond (r6.1.2.1==2) ((dW.f k a1).bind fun r7=>(bH.f k (r6.1.1,(0,())) r7.1).bind fun r8=>some r8) (some r6)))
def f:=t k
end di
namespace ae
abbrev Rs:Type:=Option ((Ty.d am) × Unit)
abbrev T1:Type:=List ByteArray→Int→Int→Int→Int→Bool→Int→List (Ty.d aB)→Int→Int→Bool→Int→Rs
abbrev T0:Type:=List ByteArray→Int→Int→List (Ty.d aB)→Int→Int→Bool→Int→Int→Int→Bool→Int→Rs
def b1 (L1:T1):T1:=fun x0 x1 x2 x3 x4 x5 x6 x7 x8 x9 x10 x11 =>
 (cond (decide (x2<x1)) (dR x2 (x0.length:Int) ((bH.f k ((x7,(x8,(x9,(x10,())))),(x11,())) (x0.getD x2.toNat (Ty.z .str))).bind fun r2=>L1 x0 x1 (aQ (x2+1)) x3 x4 x5 x6 r2.1.1.1 r2.1.1.2.1 r2.1.1.2.2.1 r2.1.1.2.2.2.1 r2.1.2.1)) (cond (x11 != 0) (some (((x7,(x8,(x9,(x10,())))),(x11,())),())) (some (((x7,(x8,(x9,(x10,())))),(x6,())),()))))
def l1:Nat→T1
 | 0=>fun _ _ _ _ _ _ _ _ _ _ _ _=>none
 | n+1=>b1 k (l1 n)
def b0 (L1:T1):T0:=fun x0 x1 x2 x3 x4 x5 x6 x7 x8 x9 x10 x11 =>
 (cond (decide (x2<x1)) (dR x2 (x0.length:Int) ((bH.f k ((x3,(x8,(x9,(x10,())))),(x11,())) (x0.getD x2.toNat (Ty.z .str))).bind fun r1=>L1 x0 x1 (aQ (x2+1)) x4 x5 x6 x7 r1.1.1.1 r1.1.1.2.1 r1.1.1.2.2.1 r1.1.1.2.2.2.1 r1.1.2.1)) (cond (x11 != 0) (some (((x3,(x8,(x9,(x10,())))),(x11,())),())) (some (((x3,(x8,(x9,(x10,())))),(x7,())),()))))
def l0:Nat→T0
 | 0=>fun _ _ _ _ _ _ _ _ _ _ _ _=>none
 | n+1=>b0 k (l1 k n)
def t (k:Nat) (L0:T0) (a0:Ty.d am) (a1:List ByteArray):Rs :=
 (cond (a0.2.1 != 2) (some (a0,())) (L0 a1 (a1.length:Int) 0 a0.1.1 a0.1.2.1 a0.1.2.2.1 a0.1.2.2.2.1 a0.2.1 a0.1.2.1 a0.1.2.2.1 a0.1.2.2.2.1 0))
def f:=t k (l0 k k)
end ae
namespace cT
abbrev Rs:Type:=Option ((Ty.d aE) × (Ty.d am) × Unit)
abbrev T0:Type:=Int→Int→List Int→List (Ty.d aC)→Int→Int→Int→Int→List (Ty.d aB)→Int→Int→Bool→Int→List Int→Rs
def b0 (L0:T0):T0:=fun x0 x1 x2 x3 x4 x5 x6 x7 x8 x9 x10 x11 x12 x13 =>
 (cond (decide (x1<x0)) (dR x1 (x13.length:Int) ((ai.f k (x13.getD x1.toNat (Ty.z (.int .i64)))).bind fun r9=>(bH.f k ((x8,(x9,(x10,(x11,())))),(x12,())) r9.1).bind fun r10=>(dW.f k (x13.getD x1.toNat (Ty.z (.int .i64)))).bind fun r11=>(bH.f k r10.1 r11.1).bind fun r12=>L0 x0 (aQ (x1+1)) x2 x3 x4 x5 x6 x7 r12.1.1.1 r12.1.1.2.1 r12.1.1.2.2.1 r12.1.1.2.2.2.1 r12.1.2.1 x13)) (some (((x4,(x2,())),(x3,(x5,(x6,(x7,()))))),(((x8,(x9,(x10,(x11,())))),(x12,())),()))))
def l0:Nat→T0
 | 0=>fun _ _ _ _ _ _ _ _ _ _ _ _ _ _=>none
 | n+1=>b0 k (l0 n)
def t (L0:T0) (a0:Ty.d aE) (a1:Ty.d am) (a2:List (Ty.d aB)):Rs :=
 ((iI.f k a2 (aQ (a0.2.2.1-1))).bind fun r1=>(bG.f k a1 a0.1.1 r1.1).bind fun r2=>(di.f k r2.1 a0.1.1).bind fun r3=>cond (r3.1.2.1==0) ((cH.f k r3.1 ((aQ (a0.1.1+2)),([a0.1.1,(aQ (a0.1.1+1))],()))).bind fun r4=>cond (r4.1.2.1 != 0) ((ai.f k a0.1.1).bind fun r5=>(ai.f k (aQ (a0.1.1+1))).bind fun r6=>(dW.f k a0.1.1).bind fun r7=>(ae.f k r4.1 [(⟨#[116,101,109,112]⟩:ByteArray),r5.1,r6.1,r7.1]).bind fun r8=>some ((((aQ (a0.1.1+2)),a0.1.2),a0.2),r8)) (L0 (a0.1.2.1.length:Int) 0 [a0.1.1,(aQ (a0.1.1+1))] r2.2.1 (aQ (a0.1.1+2)) a0.2.2.1 0 0 r4.1.1.1 r4.1.1.2.1 r4.1.1.2.2.1 r4.1.1.2.2.2.1 r4.1.2.1 a0.1.2.1)) (cond (r3.1.2.1 != 0) ((ai.f k a0.1.1).bind fun r13=>(ai.f k (aQ (a0.1.1+1))).bind fun r14=>(dW.f k a0.1.1).bind fun r15=>(ae.f k r3.1 [(⟨#[116,101,109,112]⟩:ByteArray),r13.1,r14.1,r15.1]).bind fun r16=>some ((((aQ (a0.1.1+2)),a0.1.2),a0.2),r16)) (L0 (a0.1.2.1.length:Int) 0 [a0.1.1,(aQ (a0.1.1+1))] r2.2.1 (aQ (a0.1.1+2)) a0.2.2.1 0 0 r3.1.1.1 r3.1.1.2.1 r3.1.1.2.2.1 r3.1.1.2.2.2.1 r3.1.2.1 a0.1.2.1)))
def f:=t k (l0 k k)
end cT
namespace kc
abbrev Rs:Type:=Option ((Ty.d aE) × (Ty.d aA) × Int × Unit)
def t (a0:Ty.d aE) (a1:Ty.d aA):Rs :=
 ((cO.f k a0).bind fun r1=>(bD.f k a1).bind fun r2=>(iK.f k a0 a1).bind fun r3=>(cg.f k a0 a1).bind fun r4=>cond (!r4.1) (some (r1.1,(r2.1,(4,())))) (cond (decide ((aQ (a0.1.1+2)) > 100000)) (some (r1.1,(r2.1,(5,())))) (cond (r3.2.1 != 0) (some (r1.1,(r2.1,r3.2))) ((cT.f k r1.1 (r2.1,(0,())) r3.1).bind fun r5=>some (r5.1,r5.2.1)))))
def f:=t k
end kc
namespace kV
abbrev Rs:Type:=Option (Bool × Unit)
def t (a0:List (Ty.d aV)) (a1:Ty.d aH):Rs :=
 ((aZ.f k a1.1 1 6).bind fun r1=>cond r1.1 ((aZ.f k a1.2.1 0 (aQ ((a0.length:Int)-1))).bind fun r2=>cond r2.1 (dR a1.2.1 (a0.length:Int) (some (((a0.getD a1.2.1.toNat (Ty.z aV)).1==(a1.1 != 1)),()))) (some (false,()))) (some (false,())))
def f:=t k
end kV
namespace cY
abbrev Rs:Type:=Option ((Ty.d aM) × Bool × Unit)
abbrev T0:Type:=ByteArray→Int→Bool→List (Ty.d dK)→List (Ty.d aM)→ByteArray→Bool→ByteArray→Rs
def b0 (k:Nat) (L0:T0):T0:=fun x0 x1 x2 x3 x4 x5 x6 x7 =>
 (cond (decide (x1≥0)) (dR x1 (x4.length:Int) (cond (seq (x4.getD x1.toNat (Ty.z aM)).1 x0) (dR x1 (x4.length:Int) (some ((x4.getD x1.toNat (Ty.z aM)),(true,())))) (L0 x0 (aQ (x1-1)) x2 x3 x4 x5 x6 x7))) (some ((ByteArray.empty,(false,(ByteArray.empty,()))),(false,()))))
def l0:Nat→T0
 | 0=>fun _ _ _ _ _ _ _ _=>none
 | n+1=>b0 k (l0 n)
def t (k:Nat) (L0:T0) (a0:Ty.d aV) (a1:ByteArray):Rs :=
 (L0 a1 (aQ ((a0.2.2.1.length:Int)-1)) a0.1 a0.2.1 a0.2.2.1 ByteArray.empty false ByteArray.empty)
def f:=t k (l0 k k)
end cY
namespace ox
abbrev Rs:Type:=Option ((Ty.d aK) × Bool × Unit)
def t (a0:Ty.d aV) (a1:ByteArray):Rs :=
 ((cY.f k a0 a1).bind fun r1=>cond (!r1.2.1) (some ((0,(ByteArray.empty,([],()))),(false,()))) (cond r1.1.2.1 (some ((8,(ByteArray.empty,([],()))),(true,()))) (some ((0,(r1.1.2.2.1,([],()))),(true,())))))
def f:=t k
end ox
namespace fb
abbrev Rs:Type:=Option ((Ty.d aV) × Int × Unit)
abbrev T0:Type:=ByteArray→Int→Bool→List (Ty.d dK)→Int→Int→Bool→List (Ty.d dK)→List (Ty.d aM)→List (Ty.d dK)→List (Ty.d aM)→Bool→List (Ty.d dK)→List (Ty.d aM)→Bool→Rs
def b0 (k:Nat) (L0:T0):T0:=fun x0 x1 x2 x3 x4 x5 x6 x7 x8 x9 x10 x11 x12 x13 x14 =>
 (cond (decide (x5<x4)) (dR x5 (x3.length:Int) (cond (!(seq (x3.getD x5.toNat (Ty.z dK)).1 x0)) (L0 x0 x1 x2 x3 x4 (aQ (x5+1)) x6 x7 x8 x9 x10 x11 x12 x13 x14) (cond ((x3.getD x5.toNat (Ty.z dK)).2.1 != x1) (some ((x14,(x12,(x13,()))),(7,()))) (L0 x0 x1 true x3 x4 (aQ (x5+1)) x6 x7 x8 x9 x10 x11 x12 x13 x14)))) (cond x2 (some ((x14,(x12,(x13,()))),(0,()))) (cond (decide ((x7.length:Int)≥20)) (some ((x14,(x12,(x13,()))),(5,()))) (rm (Ty.bytes dK) (x12.length+1) (some ((x14,((x12++[(x0,(x1,()))]),(x13,()))),(0,())))))))
def l0:Nat→T0
 | 0=>fun _ _ _ _ _ _ _ _ _ _ _ _ _ _ _=>none
 | n+1=>b0 k (l0 n)
def t (L0:T0) (a0:Ty.d aV) (a1:ByteArray) (a2:Int):Rs :=
 ((eA.f k a0).bind fun r1=>cond (!a0.1) (some (r1.1,(4,()))) ((dp.f k a1).bind fun r2=>cond (!r2.1) (some (r1.1,(4,()))) (L0 a1 a2 false a0.2.1 (a0.2.1.length:Int) 0 a0.1 a0.2.1 a0.2.2.1 [] [] false r1.1.2.1 r1.1.2.2.1 r1.1.1)))
def f:=t k (l0 k k)
end fb
namespace nQ
abbrev Rs:Type:=Option ((Ty.d aV) × (Ty.d aK) × Unit)
def t (a0:Ty.d aV) (a1:ByteArray) (a2:Ty.d aB) (a3:Int):Rs :=
 ((fb.f k a0 a1 a2.2.2.1).bind fun r1=>cond (r1.2.1 != 0) (some (r1.1,((r1.2.1,(ByteArray.empty,([],()))),()))) (some (r1.1,((a3,(a2.2.1,([],()))),()))))
def f:=t k
end nQ
namespace ck
abbrev Rs:Type:=Option ((Ty.d ga) × (Ty.d aK) × Unit)
def t (a0:Ty.d ga) (a1:Ty.d aH):Rs :=
 (dR a1.2.1 (a0.1.2.2.2.1.length:Int) ((dp.f k a1.2.2.1).bind fun r1=>cond (!r1.1) (some (a0,((4,(ByteArray.empty,([],()))),()))) ((ox.f k (a0.1.2.2.2.1.getD a1.2.1.toNat (Ty.z aV)) a1.2.2.1).bind fun r2=>cond r2.2.1 (some (a0,(r2.1,()))) ((mF.f k a0.1.2.1 a0.1.2.2.1 a1.2.2.1).bind fun r3=>cond (r3.2.1==3) (some (a0,((r3.2.1,(ByteArray.empty,([],()))),()))) ((nQ.f k (a0.1.2.2.2.1.getD a1.2.1.toNat (Ty.z aV)) a1.2.2.1 r3.1 r3.2.1).bind fun r4=>let l5:=(a0.1.2.2.2.1.set a1.2.1.toNat r4.1);(some (((a0.1.1,(a0.1.2.1,(a0.1.2.2.1,(l5,())))),a0.2),r4.2)))))))
def f:=t k
end ck
namespace fq
abbrev Rs:Type:=Option (Bool × Unit)
def t (a0:Ty.d aM):Rs :=
 ((dp.f k a0.1).bind fun r1=>cond r1.1 (cond (decide ((a0.2.2.1.size:Int)≤24)) (cond (!a0.2.1) (some (true,())) (some ((seq a0.2.2.1 (⟨#[]⟩:ByteArray)),()))) (some (false,()))) (some (false,())))
def f:=t k
end fq
namespace j4
abbrev Rs:Type:=Option ((Ty.d aV) × Bool × Unit)
def t (a0:Ty.d aV) (a1:Ty.d aM):Rs :=
 ((eA.f k a0).bind fun r1=>rm (Ty.bytes aM) (r1.1.2.2.1.length+1) (cond (!a0.1) ((eA.f k a0).bind fun r2=>some (r2.1,(false,()))) ((fq.f k a1).bind fun r3=>cond (!r3.1) ((eA.f k a0).bind fun r4=>some (r4.1,(false,()))) ((eD.f k (r1.1.1,(r1.1.2.1,((r1.1.2.2.1++[a1]),())))).bind fun r5=>cond (decide ((r5.1.length:Int) > 8)) ((eA.f k a0).bind fun r6=>some (r6.1,(false,()))) (cond (decide ((List.length (r1.1.2.2.1++[a1]):Int) > 50)) ((eA.f k a0).bind fun r7=>some (r7.1,(false,()))) (some ((r1.1.1,(r1.1.2.1,((r1.1.2.2.1++[a1]),()))),(true,()))))))))
def f:=t k
end j4
namespace kg
abbrev Rs:Type:=Option ((Ty.d aV) × (Ty.d aK) × Unit)
def t (a0:Ty.d aV) (a1:Ty.d aH):Rs :=
 ((j4.f k a0 (a1.2.2.1,((a1.1==4),(a1.2.2.2.1,())))).bind fun r1=>(fq.f k (a1.2.2.1,((a1.1==4),(a1.2.2.2.1,())))).bind fun r2=>cond (!r2.1) (some (r1.1,((4,(ByteArray.empty,([],()))),()))) (cond (!r1.2.1) (some (r1.1,((5,(ByteArray.empty,([],()))),()))) (some (r1.1,((0,(ByteArray.empty,([],()))),())))))
def f:=t k
end kg
namespace gp
abbrev Rs:Type:=Option (Bool × Unit)
abbrev T0:Type:=List (Ty.d aC)→List (Ty.d dK)→Int→Int→Rs
def b0 (L0:T0):T0:=fun x0 x1 x2 x3 =>
 (cond (decide (x3<x2)) (dR x3 (x1.length:Int) ((fP.f k x0 (x1.getD x3.toNat (Ty.z dK)).1).bind fun r1=>cond (r1.1.2.2.2.2.1 != (x1.getD x3.toNat (Ty.z dK)).2.1) (some (false,())) (L0 x0 x1 x2 (aQ (x3+1))))) (some (true,())))
def l0:Nat→T0
 | 0=>fun _ _ _ _=>none
 | n+1=>b0 k (l0 n)
def t (k:Nat) (L0:T0) (a0:Ty.d aV) (a1:List (Ty.d aC)):Rs :=
 (L0 a1 a0.2.1 (a0.2.1.length:Int) 0)
def f:=t k (l0 k k)
end gp
namespace fN
abbrev Rs:Type:=Option (Bool × Unit)
abbrev T0:Type:=List (Ty.d aM)→List (Ty.d aM)→Int→Int→Rs
def b0 (L0:T0):T0:=fun x0 x1 x2 x3 =>
 (cond (decide (x3<x2)) (dR x3 (x1.length:Int) ((fq.f k (x1.getD x3.toNat (Ty.z aM))).bind fun r1=>cond (!r1.1) (some (false,())) (L0 x0 x1 x2 (aQ (x3+1))))) (some ((decide ((x0.length:Int)≤8)),())))
def l0:Nat→T0
 | 0=>fun _ _ _ _=>none
 | n+1=>b0 k (l0 n)
def t (k:Nat) (L0:T0) (a0:List (Ty.d aM)):Rs :=
 (L0 a0 a0 (a0.length:Int) 0)
def f:=t k (l0 k k)
end fN
namespace gG
abbrev Rs:Type:=Option ((List (Ty.d aC)) × Unit)
abbrev T1:Type:=List (Ty.d aC)→List (Ty.d aM)→Int→Int→List (Ty.d aC)→Rs
abbrev T0:Type:=List (Ty.d aC)→List (Ty.d aC)→List (Ty.d aM)→Int→Int→Rs
def b1 (L1:T1):T1:=fun x0 x1 x2 x3 x4 =>
 (cond (decide (x3<x2)) (dR x3 (x1.length:Int) (cond (x1.getD x3.toNat (Ty.z aM)).2.1 ((cE.f k x4 (x1.getD x3.toNat (Ty.z aM)).1).bind fun r2=>L1 x0 x1 x2 (aQ (x3+1)) r2.1) (dR x3 (x0.length:Int) ((dG.f k x4 (x0.getD x3.toNat (Ty.z aC))).bind fun r3=>L1 x0 x1 x2 (aQ (x3+1)) r3.1)))) (some (x4,())))
def l1:Nat→T1
 | 0=>fun _ _ _ _ _=>none
 | n+1=>b1 k (l1 n)
def b0 (L1:T1):T0:=fun x0 x1 x2 x3 x4 =>
 (cond (decide (x4<x3)) (dR x4 (x2.length:Int) (cond (x2.getD x4.toNat (Ty.z aM)).2.1 ((cE.f k x0 (x2.getD x4.toNat (Ty.z aM)).1).bind fun r1=>L1 x1 x2 x3 (aQ (x4+1)) r1.1) (dR x4 (x1.length:Int) ((dG.f k x0 (x1.getD x4.toNat (Ty.z aC))).bind fun r4=>L1 x1 x2 x3 (aQ (x4+1)) r4.1)))) (some (x0,())))
def l0:Nat→T0
 | 0=>fun _ _ _ _ _=>none
 | n+1=>b0 k (l1 k n)
def t (k:Nat) (L0:T0) (a0:List (Ty.d aC)) (a1:List (Ty.d aM)) (a2:List (Ty.d aC)):Rs :=
 (L0 a0 a2 a1 (a1.length:Int) 0)
def f:=t k (l0 k k)
end gG
namespace eh
abbrev Rs:Type:=Option (Int × Unit)
abbrev T0:Type:=List (Ty.d aC)→List (Ty.d aM)→List (Ty.d aM)→Int→Int→List (Ty.d aC)→Rs
def b0 (L0:T0):T0:=fun x0 x1 x2 x3 x4 x5 =>
 (cond (decide (x4<x3)) (dR x4 (x2.length:Int) (rm (Ty.bytes aC) (x5.length+1) (L0 x0 x1 x2 x3 (aQ (x4+1)) (x5++[((x2.getD x4.toNat (Ty.z aM)).1,(0,(0,(0,(0,())))))])))) ((gG.f k x0 x1 x5).bind fun r1=>some ((r1.1.length:Int),())))
def l0:Nat→T0
 | 0=>fun _ _ _ _ _ _=>none
 | n+1=>b0 k (l0 n)
def t (k:Nat) (L0:T0) (a0:List (Ty.d aC)) (a1:List (Ty.d aM)):Rs :=
 (L0 a0 a1 a1 (a1.length:Int) 0 [])
def f:=t k (l0 k k)
end eh
namespace eE
abbrev Rs:Type:=Option ((List (Ty.d bf)) × Unit)
abbrev T0:Type:=List (Ty.d aM)→Int→List (Ty.d aM)→Int→Int→List (Ty.d bf)→Rs
def b0 (L0:T0):T0:=fun x0 x1 x2 x3 x4 x5 =>
 (cond (decide (x4<x3)) (dR x4 (x2.length:Int) (cond (x2.getD x4.toNat (Ty.z aM)).2.1 (rm (Ty.bytes bf) (x5.length+1) (L0 x0 x1 x2 x3 (aQ (x4+1)) (x5++[(2,(x1,((x2.getD x4.toNat (Ty.z aM)).1,(ByteArray.empty,(0,(0,()))))))]))) (rm (Ty.bytes bf) (x5.length+1) (L0 x0 x1 x2 x3 (aQ (x4+1)) (x5++[(1,(x1,((x2.getD x4.toNat (Ty.z aM)).1,((x2.getD x4.toNat (Ty.z aM)).2.2.1,(0,(0,()))))))]))))) ((gN.f k x5).bind fun r1=>rm (Ty.bytes bf) (x5.length+1) (some ((x5++[(3,(x1,(ByteArray.empty,(ByteArray.empty,((x0.length:Int),r1)))))]),()))))
def l0:Nat→T0
 | 0=>fun _ _ _ _ _ _=>none
 | n+1=>b0 k (l0 n)
def t (k:Nat) (L0:T0) (a0:List (Ty.d aM)) (a1:Int):Rs :=
 (L0 a0 a1 a0 (a0.length:Int) 0 [])
def f:=t k (l0 k k)
end eE
namespace bp
abbrev Rs:Type:=Option ((Ty.d aE) × ByteArray × Unit)
def t (a0:Ty.d aE):Rs :=
 (dR (aQ ((a0.1.2.1.length:Int)-1)) (a0.1.2.1.length:Int) ((ai.f k (a0.1.2.1.getD (aQ ((a0.1.2.1.length:Int)-1)).toNat (Ty.z (.int .i64)))).bind fun r1=>some (a0,r1)))
def f:=t k
end bp
namespace fX
abbrev Rs:Type:=Option ((Ty.d aE) × (Ty.d am) × Unit)
def t (a0:Ty.d aE) (a1:Ty.d am):Rs :=
 (cond (decide ((a0.1.2.1.length:Int)≥60)) (some (a0,((a1.1,(5,())),()))) (cond (decide (a0.1.1≥100000)) (some (a0,((a1.1,(5,())),()))) ((bp.f k a0).bind fun r1=>(bP.f k a1 r1.2.1).bind fun r2=>cond (r2.1.2.1 != 0) (some (r1.1,r2)) ((ai.f k r1.1.1.1).bind fun r3=>(cu.f k r2.1 r3.1).bind fun r4=>cond (r4.1.2.1 != 0) (some ((((aQ (r1.1.1.1+1)),r1.1.1.2),r1.1.2),r4)) ((dX.f k ((aQ (r1.1.1.1+1)),r1.1.1.2)).bind fun r5=>rm (Ty.bytes (.int .i64)) (r5.1.2.1.length+1) ((cH.f k r4.1 (r5.1.1,((r5.1.2.1++[r1.1.1.1]),()))).bind fun r6=>cond (r6.1.2.1 != 0) ((ai.f k r1.1.1.1).bind fun r7=>(ae.f k r6.1 [(⟨#[116,101,109,112]⟩:ByteArray),r7.1]).bind fun r8=>some ((((aQ (r1.1.1.1+1)),r1.1.1.2),r1.1.2),r8)) (some (((r5.1.1,((r5.1.2.1++[r1.1.1.1]),())),(r1.1.2.1,(r1.1.2.2.1,(0,r1.1.2.2.2.2)))),r6))))))))
def f:=t k
end fX
namespace gC
abbrev Rs:Type:=Option ((Ty.d aE) × (Ty.d am) × (Ty.d aC) × Unit)
def t (a0:Ty.d aE) (a1:Ty.d am) (a2:Ty.d bf):Rs :=
 ((gD.f k a2).bind fun r1=>(gk.f k r1.1).bind fun r2=>cond (decide (a0.2.2.2.1 > 0)) (cond (decide ((aQ (a0.2.2.2.1+(r2.1.size:Int))) > 200)) ((fX.f k a0 a1).bind fun r3=>cond (r3.2.1.2.1 != 0) (some (r3.1,(r3.2.1,((ByteArray.empty,(0,(0,(0,(0,()))))),())))) (dR (aQ ((r3.1.1.2.1.length:Int)-1)) (r3.1.1.2.1.length:Int) ((bp.f k r3.1).bind fun r4=>(cU.f k r3.2.1 r4.2.1 r2.1).bind fun r5=>cond (r5.1.2.1==0) (some ((r4.1.1,(r4.1.2.1,(r4.1.2.2.1,((aQ (r4.1.2.2.2.1+(r2.1.size:Int))),r4.1.2.2.2.2)))),(r5.1,((a2.2.2.1,((r3.1.1.2.1.getD (aQ ((r3.1.1.2.1.length:Int)-1)).toNat (Ty.z (.int .i64))),(r3.1.2.2.2.1,((r2.1.size:Int),(a2.2.1,()))))),())))) (some (r4.1,(r5.1,((a2.2.2.1,((r3.1.1.2.1.getD (aQ ((r3.1.1.2.1.length:Int)-1)).toNat (Ty.z (.int .i64))),(r3.1.2.2.2.1,((r2.1.size:Int),(a2.2.1,()))))),()))))))) (cond (a1.2.1 != 0) (some (a0,(a1,((ByteArray.empty,(0,(0,(0,(0,()))))),())))) (dR (aQ ((a0.1.2.1.length:Int)-1)) (a0.1.2.1.length:Int) ((bp.f k a0).bind fun r6=>(cU.f k a1 r6.2.1 r2.1).bind fun r7=>cond (r7.1.2.1==0) (some ((r6.1.1,(r6.1.2.1,(r6.1.2.2.1,((aQ (r6.1.2.2.2.1+(r2.1.size:Int))),r6.1.2.2.2.2)))),(r7.1,((a2.2.2.1,((a0.1.2.1.getD (aQ ((a0.1.2.1.length:Int)-1)).toNat (Ty.z (.int .i64))),(a0.2.2.2.1,((r2.1.size:Int),(a2.2.1,()))))),())))) (some (r6.1,(r7.1,((a2.2.2.1,((a0.1.2.1.getD (aQ ((a0.1.2.1.length:Int)-1)).toNat (Ty.z (.int .i64))),(a0.2.2.2.1,((r2.1.size:Int),(a2.2.1,()))))),())))))))) (cond (a1.2.1 != 0) (some (a0,(a1,((ByteArray.empty,(0,(0,(0,(0,()))))),())))) (dR (aQ ((a0.1.2.1.length:Int)-1)) (a0.1.2.1.length:Int) ((bp.f k a0).bind fun r8=>(cU.f k a1 r8.2.1 r2.1).bind fun r9=>cond (r9.1.2.1==0) (some ((r8.1.1,(r8.1.2.1,(r8.1.2.2.1,((aQ (r8.1.2.2.2.1+(r2.1.size:Int))),r8.1.2.2.2.2)))),(r9.1,((a2.2.2.1,((a0.1.2.1.getD (aQ ((a0.1.2.1.length:Int)-1)).toNat (Ty.z (.int .i64))),(a0.2.2.2.1,((r2.1.size:Int),(a2.2.1,()))))),())))) (some (r8.1,(r9.1,((a2.2.2.1,((a0.1.2.1.getD (aQ ((a0.1.2.1.length:Int)-1)).toNat (Ty.z (.int .i64))),(a0.2.2.2.1,((r2.1.size:Int),(a2.2.1,()))))),()))))))))
def f:=t k
end gC
namespace gy
abbrev Rs:Type:=Option ((List (Ty.d aC)) × Unit)
abbrev T0:Type:=List (Ty.d aC)→List (Ty.d aM)→Int→Int→List (Ty.d aC)→Rs
def b0 (L0:T0):T0:=fun x0 x1 x2 x3 x4 =>
 (cond (decide (x3<x2)) (dR x3 (x1.length:Int) (cond (x1.getD x3.toNat (Ty.z aM)).2.1 ((cE.f k x4 (x1.getD x3.toNat (Ty.z aM)).1).bind fun r1=>L0 x0 x1 x2 (aQ (x3+1)) r1.1) (dR x3 (x0.length:Int) ((dG.f k x4 (x0.getD x3.toNat (Ty.z aC))).bind fun r2=>L0 x0 x1 x2 (aQ (x3+1)) r2.1)))) (some (x4,())))
def l0:Nat→T0
 | 0=>fun _ _ _ _ _=>none
 | n+1=>b0 k (l0 n)
def t (k:Nat) (L0:T0) (a0:List (Ty.d aC)) (a1:List (Ty.d aM)) (a2:List (Ty.d aC)):Rs :=
 (L0 a2 a1 (a1.length:Int) 0 a0)
def f:=t k (l0 k k)
end gy
namespace cF
abbrev Rs:Type:=Option ((Ty.d aE) × (Ty.d am) × Unit)
abbrev T0:Type:=List (Ty.d aM)→Int→Int→List Int→List (Ty.d aC)→Int→Int→Int→Int→List (Ty.d aB)→Int→Int→Bool→Int→List (Ty.d aC)→List (Ty.d bf)→Rs
def b0 (L0:T0):T0:=fun x0 x1 x2 x3 x4 x5 x6 x7 x8 x9 x10 x11 x12 x13 x14 x15 =>
 (cond (decide (x2<x1)) (dR x2 (x15.length:Int) ((gC.f k ((x5,(x3,())),(x4,(x6,(x7,(x8,()))))) ((x9,(x10,(x11,(x12,())))),(x13,())) (x15.getD x2.toNat (Ty.z bf))).bind fun r2=>cond (r2.2.1.2.1 != 0) (some (r2.1,(r2.2.1,()))) (rm (Ty.bytes aC) (x14.length+1) (L0 x0 x1 (aQ (x2+1)) r2.1.1.2.1 r2.1.2.1 r2.1.1.1 r2.1.2.2.1 r2.1.2.2.2.1 r2.1.2.2.2.2.1 r2.2.1.1.1 r2.2.1.1.2.1 r2.2.1.1.2.2.1 r2.2.1.1.2.2.2.1 r2.2.1.2.1 (x14++[r2.2.2.1]) x15)))) ((bp.f k ((x5,(x3,())),(x4,(x6,(x7,(x8,())))))).bind fun r3=>(bP.f k ((x9,(x10,(x11,(x12,())))),(x13,())) r3.2.1).bind fun r4=>cond (r4.1.2.1==0) ((gy.f k r3.1.2.1 x0 x14).bind fun r5=>some ((r3.1.1,(r5.1,r3.1.2.2)),r4)) (some (r3.1,r4))))
def l0:Nat→T0
 | 0=>fun _ _ _ _ _ _ _ _ _ _ _ _ _ _ _ _=>none
 | n+1=>b0 k (l0 n)
def t (L0:T0) (a0:Ty.d aE) (a1:Ty.d am) (a2:List (Ty.d aM)):Rs :=
 ((eE.f k a2 a0.2.2.1).bind fun r1=>L0 a2 (r1.1.length:Int) 0 a0.1.2.1 a0.2.1 a0.1.1 (aQ (a0.2.2.1+1)) a0.2.2.2.1 a0.2.2.2.2.1 a1.1.1 a1.1.2.1 a1.1.2.2.1 a1.1.2.2.2.1 a1.2.1 [] r1.1)
def f:=t k (l0 k k)
end cF
namespace je
abbrev Rs:Type:=Option ((Ty.d aE) × (Ty.d aA) × Int × Unit)
def t (a0:Ty.d aE) (a1:Ty.d aA) (a2:List (Ty.d aM)):Rs :=
 ((cO.f k a0).bind fun r1=>(bD.f k a1).bind fun r2=>(cg.f k a0 a1).bind fun r3=>cond (!r3.1) (some (r1.1,(r2.1,(4,())))) ((fN.f k a2).bind fun r4=>cond (!r4.1) (some (r1.1,(r2.1,(4,())))) (cond ((a2.length:Int)==0) (some (r1.1,(r2.1,(0,())))) ((eh.f k a0.2.1 a2).bind fun r5=>cond (decide (r5.1 > 20)) (some (r1.1,(r2.1,(5,())))) (cond (decide (a0.2.2.1 > 1000000)) (some (r1.1,(r2.1,(5,())))) ((cF.f k r1.1 (r2.1,(0,())) a2).bind fun r6=>some (r6.1,r6.2.1)))))))
def f:=t k
end je
namespace bR
abbrev Rs:Type:=Option ((Ty.d ga) × (Ty.d aK) × Unit)
def t (a0:Ty.d ga) (a1:Ty.d aH):Rs :=
 ((kV.f k a0.1.2.2.2.1 a1).bind fun r1=>cond (!r1.1) (some (a0,((4,(ByteArray.empty,([],()))),()))) (dR a1.2.1 (a0.1.2.2.2.1.length:Int) (cond (a1.1==1) (let l2:=(a0.1.2.2.2.1.set a1.2.1.toNat (true,([],([],()))));(some (((a0.1.1,(a0.1.2.1,(a0.1.2.2.1,(l2,())))),a0.2),((0,(ByteArray.empty,([],()))),())))) (cond (a1.1==6) (let l3:=(a0.1.2.2.2.1.set a1.2.1.toNat (false,([],([],()))));(some (((a0.1.1,(a0.1.2.1,(a0.1.2.2.1,(l3,())))),a0.2),((0,(ByteArray.empty,([],()))),())))) (cond (a1.1==2) ((ck.f k a0 a1).bind fun r4=>some r4) (cond (a1.1==3) (cond (a1.1==3) ((kg.f k (a0.1.2.2.2.1.getD a1.2.1.toNat (Ty.z aV)) a1).bind fun r5=>let l6:=(a0.1.2.2.2.1.set a1.2.1.toNat r5.1);(some (((a0.1.1,(a0.1.2.1,(a0.1.2.2.1,(l6,())))),a0.2),r5.2))) (cond (a1.1==5) (let l7:=(a0.1.2.2.2.1.set a1.2.1.toNat (false,([],([],()))));((gp.f k (a0.1.2.2.2.1.getD a1.2.1.toNat (Ty.z aV)) a0.1.2.1.2.1).bind fun r8=>cond (!r8.1) (some (((a0.1.1,(a0.1.2.1,(a0.1.2.2.1,(l7,())))),a0.2),((7,(ByteArray.empty,([],()))),()))) ((eD.f k (a0.1.2.2.2.1.getD a1.2.1.toNat (Ty.z aV))).bind fun r9=>(je.f k a0.1.2.1 a0.1.2.2.1 r9.1).bind fun r10=>some (((a0.1.1,(r10.1,(r10.2.1,(l7,())))),a0.2),((r10.2.2.1,(ByteArray.empty,([],()))),()))))) (some (a0,((0,(ByteArray.empty,([],()))),()))))) (cond (a1.1==4) ((kg.f k (a0.1.2.2.2.1.getD a1.2.1.toNat (Ty.z aV)) a1).bind fun r11=>let l12:=(a0.1.2.2.2.1.set a1.2.1.toNat r11.1);(some (((a0.1.1,(a0.1.2.1,(a0.1.2.2.1,(l12,())))),a0.2),r11.2))) (cond (a1.1==5) (let l13:=(a0.1.2.2.2.1.set a1.2.1.toNat (false,([],([],()))));((gp.f k (a0.1.2.2.2.1.getD a1.2.1.toNat (Ty.z aV)) a0.1.2.1.2.1).bind fun r14=>cond (!r14.1) (some (((a0.1.1,(a0.1.2.1,(a0.1.2.2.1,(l13,())))),a0.2),((7,(ByteArray.empty,([],()))),()))) ((eD.f k (a0.1.2.2.2.1.getD a1.2.1.toNat (Ty.z aV))).bind fun r15=>(je.f k a0.1.2.1 a0.1.2.2.1 r15.1).bind fun r16=>some (((a0.1.1,(r16.1,(r16.2.1,(l13,())))),a0.2),((r16.2.2.1,(ByteArray.empty,([],()))),()))))) (some (a0,((0,(ByteArray.empty,([],()))),())))))))))))
def f:=t k
end bR
namespace bz
abbrev Rs:Type:=Option ((Ty.d ga) × (Ty.d aK) × Unit)
def t (a0:Ty.d ga) (a1:Ty.d aH):Rs :=
 (cond (a1.1==10) (cond a0.1.1 (some (a0,((4,(ByteArray.empty,([],()))),()))) (cond (a1.1==10) ((fQ.f k a0.1.2.2.1).bind fun r1=>some ((r1.1,a0.2),((r1.2.1,(ByteArray.empty,([],()))),()))) (cond (a1.1==11) ((hO.f k a0.1.2.2.1).bind fun r2=>(ay.f k a0.1.2.2.1).bind fun r3=>cond (!r3.1) (some (a0,((4,(ByteArray.empty,([],()))),()))) ((aZ.f k a1.2.2.2.2.1 0 (aQ (100000-r2.1))).bind fun r4=>cond (!r4.1) (some (a0,((4,(ByteArray.empty,([],()))),()))) (some (((a0.1.1,(a0.1.2.1,((a0.1.2.2.1.1,((aQ (r2.1+a1.2.2.2.2.1)),a0.1.2.2.1.2.2)),a0.1.2.2.2))),a0.2),((0,(ByteArray.empty,([],()))),()))))) (cond (!a0.1.1) (some (a0,((6,(ByteArray.empty,([],()))),()))) (cond (a1.1==7) ((kc.f k a0.1.2.1 a0.1.2.2.1).bind fun r5=>some (((a0.1.1,(r5.1,(r5.2.1,a0.1.2.2.2))),a0.2),((r5.2.2.1,(ByteArray.empty,([],()))),()))) (cond (a1.1==8) ((e_.f k a0.1.2.1.2.1).bind fun r6=>some (a0,((0,(ByteArray.empty,r6)),()))) (cond (a1.1==9) (yl (Ty.bytes aV) 3 (some (((false,(((0,([],())),([],(0,(0,(0,()))))),(a0.1.2.2.1,((List.replicate (Int.toNat 3) (Ty.z aV)),())))),a0.2),((0,(ByteArray.empty,([],()))),())))) ((bR.f k a0 a1).bind fun r7=>some r7)))))))) (cond (a1.1==10) ((fQ.f k a0.1.2.2.1).bind fun r8=>some ((r8.1,a0.2),((r8.2.1,(ByteArray.empty,([],()))),()))) (cond (a1.1==11) ((hO.f k a0.1.2.2.1).bind fun r9=>(ay.f k a0.1.2.2.1).bind fun r10=>cond (!r10.1) (some (a0,((4,(ByteArray.empty,([],()))),()))) ((aZ.f k a1.2.2.2.2.1 0 (aQ (100000-r9.1))).bind fun r11=>cond (!r11.1) (some (a0,((4,(ByteArray.empty,([],()))),()))) (some (((a0.1.1,(a0.1.2.1,((a0.1.2.2.1.1,((aQ (r9.1+a1.2.2.2.2.1)),a0.1.2.2.1.2.2)),a0.1.2.2.2))),a0.2),((0,(ByteArray.empty,([],()))),()))))) (cond (!a0.1.1) (some (a0,((6,(ByteArray.empty,([],()))),()))) (cond (a1.1==7) ((kc.f k a0.1.2.1 a0.1.2.2.1).bind fun r12=>some (((a0.1.1,(r12.1,(r12.2.1,a0.1.2.2.2))),a0.2),((r12.2.2.1,(ByteArray.empty,([],()))),()))) (cond (a1.1==8) ((e_.f k a0.1.2.1.2.1).bind fun r13=>some (a0,((0,(ByteArray.empty,r13)),()))) (cond (a1.1==9) (yl (Ty.bytes aV) 3 (some (((false,(((0,([],())),([],(0,(0,(0,()))))),(a0.1.2.2.1,((List.replicate (Int.toNat 3) (Ty.z aV)),())))),a0.2),((0,(ByteArray.empty,([],()))),())))) ((bR.f k a0 a1).bind fun r14=>some r14))))))))
def f:=t k
end bz
namespace jy
abbrev Rs:Type:=Option ((Ty.d ga) × Unit)
abbrev T1:Type:=List (Ty.d aH)→Int→Int→List Int→List (Ty.d aC)→List (Ty.d aB)→List (Ty.d aV)→List (Ty.d aK)→List (Ty.d m_)→List (Ty.d aM)→Bool→Int→Int→Int→Int→Int→Int→Bool→List Int→List (Ty.d aC)→List (Ty.d aB)→List (Ty.d aV)→List (Ty.d aK)→List (Ty.d m_)→List (Ty.d aM)→Bool→Int→Int→Int→Int→Int→Int→Bool→Rs
abbrev T0:Type:=List (Ty.d aH)→Int→Int→List Int→List (Ty.d aC)→List (Ty.d aB)→List (Ty.d aV)→List (Ty.d aK)→List (Ty.d m_)→List (Ty.d aM)→Bool→Int→Int→Int→Int→Int→Int→Bool→List Int→List (Ty.d aC)→List (Ty.d aB)→List (Ty.d aV)→List (Ty.d aK)→List (Ty.d m_)→List (Ty.d aM)→Bool→Int→Int→Int→Int→Int→Int→Bool→Rs
def b1 (L1:T1):T1:=fun x0 x1 x2 x3 x4 x5 x6 x7 x8 x9 x10 x11 x12 x13 x14 x15 x16 x17 x18 x19 x20 x21 x22 x23 x24 x25 x26 x27 x28 x29 x30 x31 x32 =>
 (cond (decide (x2<x1)) (dR x2 (x0.length:Int) (cond (decide (x2≥300)) (some (((x25,(((x26,(x18,())),(x19,(x27,(x28,(x29,()))))),((x20,(x30,(x31,(x32,())))),(x21,())))),(x22,(x23,(x24,())))),())) ((ke.f k (x25,(((x26,(x18,())),(x19,(x27,(x28,(x29,()))))),((x20,(x30,(x31,(x32,())))),(x21,())))) (x0.getD x2.toNat (Ty.z aH))).bind fun r4=>(bz.f k ((x25,(((x26,(x18,())),(x19,(x27,(x28,(x29,()))))),((x20,(x30,(x31,(x32,())))),(x21,())))),(x22,(x23,(x24,())))) (x0.getD x2.toNat (Ty.z aH))).bind fun r5=>rm (Ty.bytes aK) (r5.1.2.1.length+1) (cond (r5.2.1.1==1) (some ((r5.1.1,((r5.1.2.1++[r5.2.1]),(r5.1.2.2.1,r4))),())) (cond (r5.2.1.1==0) (cond (decide ((r4.1.length:Int) > 0)) (rm (Ty.bytes m_) (r5.1.2.2.1.length+1) (L1 x0 x1 (aQ (x2+1)) x3 x4 x5 x6 x7 x8 x9 x10 x11 x12 x13 x14 x15 x16 x17 r5.1.1.2.1.1.2.1 r5.1.1.2.1.2.1 r5.1.1.2.2.1.1 r5.1.1.2.2.2.1 (r5.1.2.1++[r5.2.1]) (r5.1.2.2.1++[(x27,r4)]) r5.1.2.2.2.1 r5.1.1.1 r5.1.1.2.1.1.1 r5.1.1.2.1.2.2.1 r5.1.1.2.1.2.2.2.1 r5.1.1.2.1.2.2.2.2.1 r5.1.1.2.2.1.2.1 r5.1.1.2.2.1.2.2.1 r5.1.1.2.2.1.2.2.2.1)) (L1 x0 x1 (aQ (x2+1)) x3 x4 x5 x6 x7 x8 x9 x10 x11 x12 x13 x14 x15 x16 x17 r5.1.1.2.1.1.2.1 r5.1.1.2.1.2.1 r5.1.1.2.2.1.1 r5.1.1.2.2.2.1 (r5.1.2.1++[r5.2.1]) r5.1.2.2.1 r5.1.2.2.2.1 r5.1.1.1 r5.1.1.2.1.1.1 r5.1.1.2.1.2.2.1 r5.1.1.2.1.2.2.2.1 r5.1.1.2.1.2.2.2.2.1 r5.1.1.2.2.1.2.1 r5.1.1.2.2.1.2.2.1 r5.1.1.2.2.1.2.2.2.1)) (L1 x0 x1 (aQ (x2+1)) x3 x4 x5 x6 x7 x8 x9 x10 x11 x12 x13 x14 x15 x16 x17 r5.1.1.2.1.1.2.1 r5.1.1.2.1.2.1 r5.1.1.2.2.1.1 r5.1.1.2.2.2.1 (r5.1.2.1++[r5.2.1]) r5.1.2.2.1 r5.1.2.2.2.1 r5.1.1.1 r5.1.1.2.1.1.1 r5.1.1.2.1.2.2.1 r5.1.1.2.1.2.2.2.1 r5.1.1.2.1.2.2.2.2.1 r5.1.1.2.2.1.2.1 r5.1.1.2.2.1.2.2.1 r5.1.1.2.2.1.2.2.2.1)))))) (some (((x25,(((x26,(x18,())),(x19,(x27,(x28,(x29,()))))),((x20,(x30,(x31,(x32,())))),(x21,())))),(x22,(x23,(x24,())))),())))
def l1:Nat→T1
 | 0=>fun _ _ _ _ _ _ _ _ _ _ _ _ _ _ _ _ _ _ _ _ _ _ _ _ _ _ _ _ _ _ _ _ _=>none
 | n+1=>b1 k (l1 n)
def b0 (L1:T1):T0:=fun x0 x1 x2 x3 x4 x5 x6 x7 x8 x9 x10 x11 x12 x13 x14 x15 x16 x17 x18 x19 x20 x21 x22 x23 x24 x25 x26 x27 x28 x29 x30 x31 x32 =>
 (cond (decide (x2<x1)) (dR x2 (x0.length:Int) (cond (decide (x2≥300)) (some (((x25,(((x26,(x18,())),(x19,(x27,(x28,(x29,()))))),((x20,(x30,(x31,(x32,())))),(x21,())))),(x22,(x23,(x24,())))),())) ((ke.f k (x25,(((x26,(x18,())),(x19,(x27,(x28,(x29,()))))),((x20,(x30,(x31,(x32,())))),(x21,())))) (x0.getD x2.toNat (Ty.z aH))).bind fun r2=>(bz.f k ((x25,(((x26,(x18,())),(x19,(x27,(x28,(x29,()))))),((x20,(x30,(x31,(x32,())))),(x21,())))),(x22,(x23,(x24,())))) (x0.getD x2.toNat (Ty.z aH))).bind fun r3=>rm (Ty.bytes aK) (r3.1.2.1.length+1) (cond (r3.2.1.1==1) (some ((r3.1.1,((r3.1.2.1++[r3.2.1]),(r3.1.2.2.1,r2))),())) (cond (r3.2.1.1==0) (cond (decide ((r2.1.length:Int) > 0)) (rm (Ty.bytes m_) (r3.1.2.2.1.length+1) (L1 x0 x1 (aQ (x2+1)) x3 x4 x5 x6 x7 x8 x9 x10 x11 x12 x13 x14 x15 x16 x17 r3.1.1.2.1.1.2.1 r3.1.1.2.1.2.1 r3.1.1.2.2.1.1 r3.1.1.2.2.2.1 (r3.1.2.1++[r3.2.1]) (r3.1.2.2.1++[(x27,r2)]) r3.1.2.2.2.1 r3.1.1.1 r3.1.1.2.1.1.1 r3.1.1.2.1.2.2.1 r3.1.1.2.1.2.2.2.1 r3.1.1.2.1.2.2.2.2.1 r3.1.1.2.2.1.2.1 r3.1.1.2.2.1.2.2.1 r3.1.1.2.2.1.2.2.2.1)) (L1 x0 x1 (aQ (x2+1)) x3 x4 x5 x6 x7 x8 x9 x10 x11 x12 x13 x14 x15 x16 x17 r3.1.1.2.1.1.2.1 r3.1.1.2.1.2.1 r3.1.1.2.2.1.1 r3.1.1.2.2.2.1 (r3.1.2.1++[r3.2.1]) r3.1.2.2.1 r3.1.2.2.2.1 r3.1.1.1 r3.1.1.2.1.1.1 r3.1.1.2.1.2.2.1 r3.1.1.2.1.2.2.2.1 r3.1.1.2.1.2.2.2.2.1 r3.1.1.2.2.1.2.1 r3.1.1.2.2.1.2.2.1 r3.1.1.2.2.1.2.2.2.1)) (L1 x0 x1 (aQ (x2+1)) x3 x4 x5 x6 x7 x8 x9 x10 x11 x12 x13 x14 x15 x16 x17 r3.1.1.2.1.1.2.1 r3.1.1.2.1.2.1 r3.1.1.2.2.1.1 r3.1.1.2.2.2.1 (r3.1.2.1++[r3.2.1]) r3.1.2.2.1 r3.1.2.2.2.1 r3.1.1.1 r3.1.1.2.1.1.1 r3.1.1.2.1.2.2.1 r3.1.1.2.1.2.2.2.1 r3.1.1.2.1.2.2.2.2.1 r3.1.1.2.2.1.2.1 r3.1.1.2.2.1.2.2.1 r3.1.1.2.2.1.2.2.2.1)))))) (some (((x25,(((x26,(x18,())),(x19,(x27,(x28,(x29,()))))),((x20,(x30,(x31,(x32,())))),(x21,())))),(x22,(x23,(x24,())))),())))
def l0:Nat→T0
 | 0=>fun _ _ _ _ _ _ _ _ _ _ _ _ _ _ _ _ _ _ _ _ _ _ _ _ _ _ _ _ _ _ _ _ _=>none
 | n+1=>b0 k (l1 k n)
def t (L0:T0) (a0:Ty.d bF) (a1:List (Ty.d aH)):Rs :=
 ((i7.f k a0).bind fun r1=>L0 a1 (a1.length:Int) 0 [] [] [] [] [] [] [] false 0 0 0 0 0 0 false r1.1.2.1.1.2.1 r1.1.2.1.2.1 r1.1.2.2.1.1 r1.1.2.2.2.1 [] [] [] r1.1.1 r1.1.2.1.1.1 r1.1.2.1.2.2.1 r1.1.2.1.2.2.2.1 r1.1.2.1.2.2.2.2.1 r1.1.2.2.1.2.1 r1.1.2.2.1.2.2.1 r1.1.2.2.1.2.2.2.1)
def f:=t k (l0 k k)
end jy
namespace lA
abbrev Rs:Type:=Option ((Ty.d ga) × Unit)
def t (a0:Ty.d z_):Rs :=
 ((aZ.f k a0.1 0 100000).bind fun r1=>cond (!r1.1) (some (((false,(((0,([],())),([],(0,(0,(0,()))))),(([],(0,(0,(false,())))),([],())))),([],([],([],())))),())) ((aZ.f k a0.2.1 (-1) 100000).bind fun r2=>cond (!r2.1) (some (((false,(((0,([],())),([],(0,(0,(0,()))))),(([],(0,(0,(false,())))),([],())))),([],([],([],())))),())) ((jh.f k a0.1).bind fun r3=>(j5.f k r3.1 a0.2.1).bind fun r4=>(fQ.f k r4.1).bind fun r5=>cond (r5.2.1 != 0) (some ((r5.1,([],([],([],())))),())) ((jy.f k r5.1 a0.2.2.1).bind fun r6=>some r6))))
def f:=t k
end lA
namespace eP
abbrev Rs:Type:=Option (((Ty.d jD × Ty.d jD × Ty.d jD × Unit)) × Unit)
def t (a0:(Ty.d jD × Ty.d jD × Ty.d jD × Unit)) (a1:Ty.d aH) (a2:Ty.d aK):Rs :=
 (cond (!a0.1.1) (some (a0,())) ((cY.f k (false,([],a0.1.2.2.2)) a1.2.2.1).bind fun r1=>cond (a1.1==2) (cond (a2.1==0) (cond (!r1.2.1) (rm (Ty.bytes aB) (a0.1.2.1.length+1) (some (((a0.1.1,((a0.1.2.1++[(a1.2.2.1,(a2.2.1,(0,())))]),a0.1.2.2)),a0.2),()))) (cond (a1.1==2) (cond (a2.1==8) (cond (!r1.2.1) (rm (Ty.bytes .str) (a0.1.2.2.1.length+1) (some (((a0.1.1,(a0.1.2.1,((a0.1.2.2.1++[a1.2.2.1]),a0.1.2.2.2))),a0.2),()))) (cond (a1.1==3) (cond (a2.1==0) (rm (Ty.bytes aM) (a0.1.2.2.2.1.length+1) (some (((a0.1.1,(a0.1.2.1,(a0.1.2.2.1,((a0.1.2.2.2.1++[(a1.2.2.1,((a1.1==4),(a1.2.2.2.1,())))]),())))),a0.2),()))) (some (a0,()))) (cond (a1.1==4) (cond (a2.1==0) (rm (Ty.bytes aM) (a0.1.2.2.2.1.length+1) (some (((a0.1.1,(a0.1.2.1,(a0.1.2.2.1,((a0.1.2.2.2.1++[(a1.2.2.1,((a1.1==4),(a1.2.2.2.1,())))]),())))),a0.2),()))) (some (a0,()))) (some (a0,()))))) (cond (a1.1==3) (cond (a2.1==0) (rm (Ty.bytes aM) (a0.1.2.2.2.1.length+1) (some (((a0.1.1,(a0.1.2.1,(a0.1.2.2.1,((a0.1.2.2.2.1++[(a1.2.2.1,((a1.1==4),(a1.2.2.2.1,())))]),())))),a0.2),()))) (some (a0,()))) (cond (a1.1==4) (cond (a2.1==0) (rm (Ty.bytes aM) (a0.1.2.2.2.1.length+1) (some (((a0.1.1,(a0.1.2.1,(a0.1.2.2.1,((a0.1.2.2.2.1++[(a1.2.2.1,((a1.1==4),(a1.2.2.2.1,())))]),())))),a0.2),()))) (some (a0,()))) (some (a0,()))))) (cond (a1.1==3) (cond (a2.1==0) (rm (Ty.bytes aM) (a0.1.2.2.2.1.length+1) (some (((a0.1.1,(a0.1.2.1,(a0.1.2.2.1,((a0.1.2.2.2.1++[(a1.2.2.1,((a1.1==4),(a1.2.2.2.1,())))]),())))),a0.2),()))) (some (a0,()))) (cond (a1.1==4) (cond (a2.1==0) (rm (Ty.bytes aM) (a0.1.2.2.2.1.length+1) (some (((a0.1.1,(a0.1.2.1,(a0.1.2.2.1,((a0.1.2.2.2.1++[(a1.2.2.1,((a1.1==4),(a1.2.2.2.1,())))]),())))),a0.2),()))) (some (a0,()))) (some (a0,())))))) (cond (a1.1==2) (cond (a2.1==8) (cond (!r1.2.1) (rm (Ty.bytes .str) (a0.1.2.2.1.length+1) (some (((a0.1.1,(a0.1.2.1,((a0.1.2.2.1++[a1.2.2.1]),a0.1.2.2.2))),a0.2),()))) (cond (a1.1==3) (cond (a2.1==0) (rm (Ty.bytes aM) (a0.1.2.2.2.1.length+1) (some (((a0.1.1,(a0.1.2.1,(a0.1.2.2.1,((a0.1.2.2.2.1++[(a1.2.2.1,((a1.1==4),(a1.2.2.2.1,())))]),())))),a0.2),()))) (some (a0,()))) (cond (a1.1==4) (cond (a2.1==0) (rm (Ty.bytes aM) (a0.1.2.2.2.1.length+1) (some (((a0.1.1,(a0.1.2.1,(a0.1.2.2.1,((a0.1.2.2.2.1++[(a1.2.2.1,((a1.1==4),(a1.2.2.2.1,())))]),())))),a0.2),()))) (some (a0,()))) (some (a0,()))))) (cond (a1.1==3) (cond (a2.1==0) (rm (Ty.bytes aM) (a0.1.2.2.2.1.length+1) (some (((a0.1.1,(a0.1.2.1,(a0.1.2.2.1,((a0.1.2.2.2.1++[(a1.2.2.1,((a1.1==4),(a1.2.2.2.1,())))]),())))),a0.2),()))) (some (a0,()))) (cond (a1.1==4) (cond (a2.1==0) (rm (Ty.bytes aM) (a0.1.2.2.2.1.length+1) (some (((a0.1.1,(a0.1.2.1,(a0.1.2.2.1,((a0.1.2.2.2.1++[(a1.2.2.1,((a1.1==4),(a1.2.2.2.1,())))]),())))),a0.2),()))) (some (a0,()))) (some (a0,()))))) (cond (a1.1==3) (cond (a2.1==0) (rm (Ty.bytes aM) (a0.1.2.2.2.1.length+1) (some (((a0.1.1,(a0.1.2.1,(a0.1.2.2.1,((a0.1.2.2.2.1++[(a1.2.2.1,((a1.1==4),(a1.2.2.2.1,())))]),())))),a0.2),()))) (some (a0,()))) (cond (a1.1==4) (cond (a2.1==0) (rm (Ty.bytes aM) (a0.1.2.2.2.1.length+1) (some (((a0.1.1,(a0.1.2.1,(a0.1.2.2.1,((a0.1.2.2.2.1++[(a1.2.2.1,((a1.1==4),(a1.2.2.2.1,())))]),())))),a0.2),()))) (some (a0,()))) (some (a0,())))))) (cond (a1.1==2) (cond (a2.1==8) (cond (!r1.2.1) (rm (Ty.bytes .str) (a0.1.2.2.1.length+1) (some (((a0.1.1,(a0.1.2.1,((a0.1.2.2.1++[a1.2.2.1]),a0.1.2.2.2))),a0.2),()))) (cond (a1.1==3) (cond (a2.1==0) (rm (Ty.bytes aM) (a0.1.2.2.2.1.length+1) (some (((a0.1.1,(a0.1.2.1,(a0.1.2.2.1,((a0.1.2.2.2.1++[(a1.2.2.1,((a1.1==4),(a1.2.2.2.1,())))]),())))),a0.2),()))) (some (a0,()))) (cond (a1.1==4) (cond (a2.1==0) (rm (Ty.bytes aM) (a0.1.2.2.2.1.length+1) (some (((a0.1.1,(a0.1.2.1,(a0.1.2.2.1,((a0.1.2.2.2.1++[(a1.2.2.1,((a1.1==4),(a1.2.2.2.1,())))]),())))),a0.2),()))) (some (a0,()))) (some (a0,()))))) (cond (a1.1==3) (cond (a2.1==0) (rm (Ty.bytes aM) (a0.1.2.2.2.1.length+1) (some (((a0.1.1,(a0.1.2.1,(a0.1.2.2.1,((a0.1.2.2.2.1++[(a1.2.2.1,((a1.1==4),(a1.2.2.2.1,())))]),())))),a0.2),()))) (some (a0,()))) (cond (a1.1==4) (cond (a2.1==0) (rm (Ty.bytes aM) (a0.1.2.2.2.1.length+1) (some (((a0.1.1,(a0.1.2.1,(a0.1.2.2.1,((a0.1.2.2.2.1++[(a1.2.2.1,((a1.1==4),(a1.2.2.2.1,())))]),())))),a0.2),()))) (some (a0,()))) (some (a0,()))))) (cond (a1.1==3) (cond (a2.1==0) (rm (Ty.bytes aM) (a0.1.2.2.2.1.length+1) (some (((a0.1.1,(a0.1.2.1,(a0.1.2.2.1,((a0.1.2.2.2.1++[(a1.2.2.1,((a1.1==4),(a1.2.2.2.1,())))]),())))),a0.2),()))) (some (a0,()))) (cond (a1.1==4) (cond (a2.1==0) (rm (Ty.bytes aM) (a0.1.2.2.2.1.length+1) (some (((a0.1.1,(a0.1.2.1,(a0.1.2.2.1,((a0.1.2.2.2.1++[(a1.2.2.1,((a1.1==4),(a1.2.2.2.1,())))]),())))),a0.2),()))) (some (a0,()))) (some (a0,())))))))
def f:=t k
end eP
namespace dx
abbrev Rs:Type:=Option (((Ty.d jD × Ty.d jD × Ty.d jD × Unit)) × Unit)
def t (a0:(Ty.d jD × Ty.d jD × Ty.d jD × Unit)) (a1:Ty.d aH) (a2:Ty.d aK):Rs :=
 (cond (!a0.2.1.1) (some (a0,())) ((cY.f k (false,([],a0.2.1.2.2.2)) a1.2.2.1).bind fun r1=>cond (a1.1==2) (cond (a2.1==0) (cond (!r1.2.1) (rm (Ty.bytes aB) (a0.2.1.2.1.length+1) (some ((a0.1,((a0.2.1.1,((a0.2.1.2.1++[(a1.2.2.1,(a2.2.1,(0,())))]),a0.2.1.2.2)),a0.2.2)),()))) (cond (a1.1==2) (cond (a2.1==8) (cond (!r1.2.1) (rm (Ty.bytes .str) (a0.2.1.2.2.1.length+1) (some ((a0.1,((a0.2.1.1,(a0.2.1.2.1,((a0.2.1.2.2.1++[a1.2.2.1]),a0.2.1.2.2.2))),a0.2.2)),()))) (cond (a1.1==3) (cond (a2.1==0) (rm (Ty.bytes aM) (a0.2.1.2.2.2.1.length+1) (some ((a0.1,((a0.2.1.1,(a0.2.1.2.1,(a0.2.1.2.2.1,((a0.2.1.2.2.2.1++[(a1.2.2.1,((a1.1==4),(a1.2.2.2.1,())))]),())))),a0.2.2)),()))) (some (a0,()))) (cond (a1.1==4) (cond (a2.1==0) (rm (Ty.bytes aM) (a0.2.1.2.2.2.1.length+1) (some ((a0.1,((a0.2.1.1,(a0.2.1.2.1,(a0.2.1.2.2.1,((a0.2.1.2.2.2.1++[(a1.2.2.1,((a1.1==4),(a1.2.2.2.1,())))]),())))),a0.2.2)),()))) (some (a0,()))) (some (a0,()))))) (cond (a1.1==3) (cond (a2.1==0) (rm (Ty.bytes aM) (a0.2.1.2.2.2.1.length+1) (some ((a0.1,((a0.2.1.1,(a0.2.1.2.1,(a0.2.1.2.2.1,((a0.2.1.2.2.2.1++[(a1.2.2.1,((a1.1==4),(a1.2.2.2.1,())))]),())))),a0.2.2)),()))) (some (a0,()))) (cond (a1.1==4) (cond (a2.1==0) (rm (Ty.bytes aM) (a0.2.1.2.2.2.1.length+1) (some ((a0.1,((a0.2.1.1,(a0.2.1.2.1,(a0.2.1.2.2.1,((a0.2.1.2.2.2.1++[(a1.2.2.1,((a1.1==4),(a1.2.2.2.1,())))]),())))),a0.2.2)),()))) (some (a0,()))) (some (a0,()))))) (cond (a1.1==3) (cond (a2.1==0) (rm (Ty.bytes aM) (a0.2.1.2.2.2.1.length+1) (some ((a0.1,((a0.2.1.1,(a0.2.1.2.1,(a0.2.1.2.2.1,((a0.2.1.2.2.2.1++[(a1.2.2.1,((a1.1==4),(a1.2.2.2.1,())))]),())))),a0.2.2)),()))) (some (a0,()))) (cond (a1.1==4) (cond (a2.1==0) (rm (Ty.bytes aM) (a0.2.1.2.2.2.1.length+1) (some ((a0.1,((a0.2.1.1,(a0.2.1.2.1,(a0.2.1.2.2.1,((a0.2.1.2.2.2.1++[(a1.2.2.1,((a1.1==4),(a1.2.2.2.1,())))]),())))),a0.2.2)),()))) (some (a0,()))) (some (a0,())))))) (cond (a1.1==2) (cond (a2.1==8) (cond (!r1.2.1) (rm (Ty.bytes .str) (a0.2.1.2.2.1.length+1) (some ((a0.1,((a0.2.1.1,(a0.2.1.2.1,((a0.2.1.2.2.1++[a1.2.2.1]),a0.2.1.2.2.2))),a0.2.2)),()))) (cond (a1.1==3) (cond (a2.1==0) (rm (Ty.bytes aM) (a0.2.1.2.2.2.1.length+1) (some ((a0.1,((a0.2.1.1,(a0.2.1.2.1,(a0.2.1.2.2.1,((a0.2.1.2.2.2.1++[(a1.2.2.1,((a1.1==4),(a1.2.2.2.1,())))]),())))),a0.2.2)),()))) (some (a0,()))) (cond (a1.1==4) (cond (a2.1==0) (rm (Ty.bytes aM) (a0.2.1.2.2.2.1.length+1) (some ((a0.1,((a0.2.1.1,(a0.2.1.2.1,(a0.2.1.2.2.1,((a0.2.1.2.2.2.1++[(a1.2.2.1,((a1.1==4),(a1.2.2.2.1,())))]),())))),a0.2.2)),()))) (some (a0,()))) (some (a0,()))))) (cond (a1.1==3) (cond (a2.1==0) (rm (Ty.bytes aM) (a0.2.1.2.2.2.1.length+1) (some ((a0.1,((a0.2.1.1,(a0.2.1.2.1,(a0.2.1.2.2.1,((a0.2.1.2.2.2.1++[(a1.2.2.1,((a1.1==4),(a1.2.2.2.1,())))]),())))),a0.2.2)),()))) (some (a0,()))) (cond (a1.1==4) (cond (a2.1==0) (rm (Ty.bytes aM) (a0.2.1.2.2.2.1.length+1) (some ((a0.1,((a0.2.1.1,(a0.2.1.2.1,(a0.2.1.2.2.1,((a0.2.1.2.2.2.1++[(a1.2.2.1,((a1.1==4),(a1.2.2.2.1,())))]),())))),a0.2.2)),()))) (some (a0,()))) (some (a0,()))))) (cond (a1.1==3) (cond (a2.1==0) (rm (Ty.bytes aM) (a0.2.1.2.2.2.1.length+1) (some ((a0.1,((a0.2.1.1,(a0.2.1.2.1,(a0.2.1.2.2.1,((a0.2.1.2.2.2.1++[(a1.2.2.1,((a1.1==4),(a1.2.2.2.1,())))]),())))),a0.2.2)),()))) (some (a0,()))) (cond (a1.1==4) (cond (a2.1==0) (rm (Ty.bytes aM) (a0.2.1.2.2.2.1.length+1) (some ((a0.1,((a0.2.1.1,(a0.2.1.2.1,(a0.2.1.2.2.1,((a0.2.1.2.2.2.1++[(a1.2.2.1,((a1.1==4),(a1.2.2.2.1,())))]),())))),a0.2.2)),()))) (some (a0,()))) (some (a0,())))))) (cond (a1.1==2) (cond (a2.1==8) (cond (!r1.2.1) (rm (Ty.bytes .str) (a0.2.1.2.2.1.length+1) (some ((a0.1,((a0.2.1.1,(a0.2.1.2.1,((a0.2.1.2.2.1++[a1.2.2.1]),a0.2.1.2.2.2))),a0.2.2)),()))) (cond (a1.1==3) (cond (a2.1==0) (rm (Ty.bytes aM) (a0.2.1.2.2.2.1.length+1) (some ((a0.1,((a0.2.1.1,(a0.2.1.2.1,(a0.2.1.2.2.1,((a0.2.1.2.2.2.1++[(a1.2.2.1,((a1.1==4),(a1.2.2.2.1,())))]),())))),a0.2.2)),()))) (some (a0,()))) (cond (a1.1==4) (cond (a2.1==0) (rm (Ty.bytes aM) (a0.2.1.2.2.2.1.length+1) (some ((a0.1,((a0.2.1.1,(a0.2.1.2.1,(a0.2.1.2.2.1,((a0.2.1.2.2.2.1++[(a1.2.2.1,((a1.1==4),(a1.2.2.2.1,())))]),())))),a0.2.2)),()))) (some (a0,()))) (some (a0,()))))) (cond (a1.1==3) (cond (a2.1==0) (rm (Ty.bytes aM) (a0.2.1.2.2.2.1.length+1) (some ((a0.1,((a0.2.1.1,(a0.2.1.2.1,(a0.2.1.2.2.1,((a0.2.1.2.2.2.1++[(a1.2.2.1,((a1.1==4),(a1.2.2.2.1,())))]),())))),a0.2.2)),()))) (some (a0,()))) (cond (a1.1==4) (cond (a2.1==0) (rm (Ty.bytes aM) (a0.2.1.2.2.2.1.length+1) (some ((a0.1,((a0.2.1.1,(a0.2.1.2.1,(a0.2.1.2.2.1,((a0.2.1.2.2.2.1++[(a1.2.2.1,((a1.1==4),(a1.2.2.2.1,())))]),())))),a0.2.2)),()))) (some (a0,()))) (some (a0,()))))) (cond (a1.1==3) (cond (a2.1==0) (rm (Ty.bytes aM) (a0.2.1.2.2.2.1.length+1) (some ((a0.1,((a0.2.1.1,(a0.2.1.2.1,(a0.2.1.2.2.1,((a0.2.1.2.2.2.1++[(a1.2.2.1,((a1.1==4),(a1.2.2.2.1,())))]),())))),a0.2.2)),()))) (some (a0,()))) (cond (a1.1==4) (cond (a2.1==0) (rm (Ty.bytes aM) (a0.2.1.2.2.2.1.length+1) (some ((a0.1,((a0.2.1.1,(a0.2.1.2.1,(a0.2.1.2.2.1,((a0.2.1.2.2.2.1++[(a1.2.2.1,((a1.1==4),(a1.2.2.2.1,())))]),())))),a0.2.2)),()))) (some (a0,()))) (some (a0,())))))))
def f:=t k
end dx
namespace dy
abbrev Rs:Type:=Option (((Ty.d jD × Ty.d jD × Ty.d jD × Unit)) × Unit)
def t (a0:(Ty.d jD × Ty.d jD × Ty.d jD × Unit)) (a1:Ty.d aH) (a2:Ty.d aK):Rs :=
 (cond (!a0.2.2.1.1) (some (a0,())) ((cY.f k (false,([],a0.2.2.1.2.2.2)) a1.2.2.1).bind fun r1=>cond (a1.1==2) (cond (a2.1==0) (cond (!r1.2.1) (rm (Ty.bytes aB) (a0.2.2.1.2.1.length+1) (some ((a0.1,(a0.2.1,((a0.2.2.1.1,((a0.2.2.1.2.1++[(a1.2.2.1,(a2.2.1,(0,())))]),a0.2.2.1.2.2)),()))),()))) (cond (a1.1==2) (cond (a2.1==8) (cond (!r1.2.1) (rm (Ty.bytes .str) (a0.2.2.1.2.2.1.length+1) (some ((a0.1,(a0.2.1,((a0.2.2.1.1,(a0.2.2.1.2.1,((a0.2.2.1.2.2.1++[a1.2.2.1]),a0.2.2.1.2.2.2))),()))),()))) (cond (a1.1==3) (cond (a2.1==0) (rm (Ty.bytes aM) (a0.2.2.1.2.2.2.1.length+1) (some ((a0.1,(a0.2.1,((a0.2.2.1.1,(a0.2.2.1.2.1,(a0.2.2.1.2.2.1,((a0.2.2.1.2.2.2.1++[(a1.2.2.1,((a1.1==4),(a1.2.2.2.1,())))]),())))),()))),()))) (some (a0,()))) (cond (a1.1==4) (cond (a2.1==0) (rm (Ty.bytes aM) (a0.2.2.1.2.2.2.1.length+1) (some ((a0.1,(a0.2.1,((a0.2.2.1.1,(a0.2.2.1.2.1,(a0.2.2.1.2.2.1,((a0.2.2.1.2.2.2.1++[(a1.2.2.1,((a1.1==4),(a1.2.2.2.1,())))]),())))),()))),()))) (some (a0,()))) (some (a0,()))))) (cond (a1.1==3) (cond (a2.1==0) (rm (Ty.bytes aM) (a0.2.2.1.2.2.2.1.length+1) (some ((a0.1,(a0.2.1,((a0.2.2.1.1,(a0.2.2.1.2.1,(a0.2.2.1.2.2.1,((a0.2.2.1.2.2.2.1++[(a1.2.2.1,((a1.1==4),(a1.2.2.2.1,())))]),())))),()))),()))) (some (a0,()))) (cond (a1.1==4) (cond (a2.1==0) (rm (Ty.bytes aM) (a0.2.2.1.2.2.2.1.length+1) (some ((a0.1,(a0.2.1,((a0.2.2.1.1,(a0.2.2.1.2.1,(a0.2.2.1.2.2.1,((a0.2.2.1.2.2.2.1++[(a1.2.2.1,((a1.1==4),(a1.2.2.2.1,())))]),())))),()))),()))) (some (a0,()))) (some (a0,()))))) (cond (a1.1==3) (cond (a2.1==0) (rm (Ty.bytes aM) (a0.2.2.1.2.2.2.1.length+1) (some ((a0.1,(a0.2.1,((a0.2.2.1.1,(a0.2.2.1.2.1,(a0.2.2.1.2.2.1,((a0.2.2.1.2.2.2.1++[(a1.2.2.1,((a1.1==4),(a1.2.2.2.1,())))]),())))),()))),()))) (some (a0,()))) (cond (a1.1==4) (cond (a2.1==0) (rm (Ty.bytes aM) (a0.2.2.1.2.2.2.1.length+1) (some ((a0.1,(a0.2.1,((a0.2.2.1.1,(a0.2.2.1.2.1,(a0.2.2.1.2.2.1,((a0.2.2.1.2.2.2.1++[(a1.2.2.1,((a1.1==4),(a1.2.2.2.1,())))]),())))),()))),()))) (some (a0,()))) (some (a0,())))))) (cond (a1.1==2) (cond (a2.1==8) (cond (!r1.2.1) (rm (Ty.bytes .str) (a0.2.2.1.2.2.1.length+1) (some ((a0.1,(a0.2.1,((a0.2.2.1.1,(a0.2.2.1.2.1,((a0.2.2.1.2.2.1++[a1.2.2.1]),a0.2.2.1.2.2.2))),()))),()))) (cond (a1.1==3) (cond (a2.1==0) (rm (Ty.bytes aM) (a0.2.2.1.2.2.2.1.length+1) (some ((a0.1,(a0.2.1,((a0.2.2.1.1,(a0.2.2.1.2.1,(a0.2.2.1.2.2.1,((a0.2.2.1.2.2.2.1++[(a1.2.2.1,((a1.1==4),(a1.2.2.2.1,())))]),())))),()))),()))) (some (a0,()))) (cond (a1.1==4) (cond (a2.1==0) (rm (Ty.bytes aM) (a0.2.2.1.2.2.2.1.length+1) (some ((a0.1,(a0.2.1,((a0.2.2.1.1,(a0.2.2.1.2.1,(a0.2.2.1.2.2.1,((a0.2.2.1.2.2.2.1++[(a1.2.2.1,((a1.1==4),(a1.2.2.2.1,())))]),())))),()))),()))) (some (a0,()))) (some (a0,()))))) (cond (a1.1==3) (cond (a2.1==0) (rm (Ty.bytes aM) (a0.2.2.1.2.2.2.1.length+1) (some ((a0.1,(a0.2.1,((a0.2.2.1.1,(a0.2.2.1.2.1,(a0.2.2.1.2.2.1,((a0.2.2.1.2.2.2.1++[(a1.2.2.1,((a1.1==4),(a1.2.2.2.1,())))]),())))),()))),()))) (some (a0,()))) (cond (a1.1==4) (cond (a2.1==0) (rm (Ty.bytes aM) (a0.2.2.1.2.2.2.1.length+1) (some ((a0.1,(a0.2.1,((a0.2.2.1.1,(a0.2.2.1.2.1,(a0.2.2.1.2.2.1,((a0.2.2.1.2.2.2.1++[(a1.2.2.1,((a1.1==4),(a1.2.2.2.1,())))]),())))),()))),()))) (some (a0,()))) (some (a0,()))))) (cond (a1.1==3) (cond (a2.1==0) (rm (Ty.bytes aM) (a0.2.2.1.2.2.2.1.length+1) (some ((a0.1,(a0.2.1,((a0.2.2.1.1,(a0.2.2.1.2.1,(a0.2.2.1.2.2.1,((a0.2.2.1.2.2.2.1++[(a1.2.2.1,((a1.1==4),(a1.2.2.2.1,())))]),())))),()))),()))) (some (a0,()))) (cond (a1.1==4) (cond (a2.1==0) (rm (Ty.bytes aM) (a0.2.2.1.2.2.2.1.length+1) (some ((a0.1,(a0.2.1,((a0.2.2.1.1,(a0.2.2.1.2.1,(a0.2.2.1.2.2.1,((a0.2.2.1.2.2.2.1++[(a1.2.2.1,((a1.1==4),(a1.2.2.2.1,())))]),())))),()))),()))) (some (a0,()))) (some (a0,())))))) (cond (a1.1==2) (cond (a2.1==8) (cond (!r1.2.1) (rm (Ty.bytes .str) (a0.2.2.1.2.2.1.length+1) (some ((a0.1,(a0.2.1,((a0.2.2.1.1,(a0.2.2.1.2.1,((a0.2.2.1.2.2.1++[a1.2.2.1]),a0.2.2.1.2.2.2))),()))),()))) (cond (a1.1==3) (cond (a2.1==0) (rm (Ty.bytes aM) (a0.2.2.1.2.2.2.1.length+1) (some ((a0.1,(a0.2.1,((a0.2.2.1.1,(a0.2.2.1.2.1,(a0.2.2.1.2.2.1,((a0.2.2.1.2.2.2.1++[(a1.2.2.1,((a1.1==4),(a1.2.2.2.1,())))]),())))),()))),()))) (some (a0,()))) (cond (a1.1==4) (cond (a2.1==0) (rm (Ty.bytes aM) (a0.2.2.1.2.2.2.1.length+1) (some ((a0.1,(a0.2.1,((a0.2.2.1.1,(a0.2.2.1.2.1,(a0.2.2.1.2.2.1,((a0.2.2.1.2.2.2.1++[(a1.2.2.1,((a1.1==4),(a1.2.2.2.1,())))]),())))),()))),()))) (some (a0,()))) (some (a0,()))))) (cond (a1.1==3) (cond (a2.1==0) (rm (Ty.bytes aM) (a0.2.2.1.2.2.2.1.length+1) (some ((a0.1,(a0.2.1,((a0.2.2.1.1,(a0.2.2.1.2.1,(a0.2.2.1.2.2.1,((a0.2.2.1.2.2.2.1++[(a1.2.2.1,((a1.1==4),(a1.2.2.2.1,())))]),())))),()))),()))) (some (a0,()))) (cond (a1.1==4) (cond (a2.1==0) (rm (Ty.bytes aM) (a0.2.2.1.2.2.2.1.length+1) (some ((a0.1,(a0.2.1,((a0.2.2.1.1,(a0.2.2.1.2.1,(a0.2.2.1.2.2.1,((a0.2.2.1.2.2.2.1++[(a1.2.2.1,((a1.1==4),(a1.2.2.2.1,())))]),())))),()))),()))) (some (a0,()))) (some (a0,()))))) (cond (a1.1==3) (cond (a2.1==0) (rm (Ty.bytes aM) (a0.2.2.1.2.2.2.1.length+1) (some ((a0.1,(a0.2.1,((a0.2.2.1.1,(a0.2.2.1.2.1,(a0.2.2.1.2.2.1,((a0.2.2.1.2.2.2.1++[(a1.2.2.1,((a1.1==4),(a1.2.2.2.1,())))]),())))),()))),()))) (some (a0,()))) (cond (a1.1==4) (cond (a2.1==0) (rm (Ty.bytes aM) (a0.2.2.1.2.2.2.1.length+1) (some ((a0.1,(a0.2.1,((a0.2.2.1.1,(a0.2.2.1.2.1,(a0.2.2.1.2.2.1,((a0.2.2.1.2.2.2.1++[(a1.2.2.1,((a1.1==4),(a1.2.2.2.1,())))]),())))),()))),()))) (some (a0,()))) (some (a0,())))))))
def f:=t k
end dy
namespace aD
abbrev Rs:Type:=Option ((List (Ty.d au)) × Unit)
abbrev T5:Type:=List (Ty.d aK)→Int→List (Ty.d aH)→Int→Int→Bool→List (Ty.d aB)→List ByteArray→List (Ty.d aM)→List (Ty.d aB)→List ByteArray→List (Ty.d aM)→List (Ty.d aB)→List ByteArray→List (Ty.d aM)→Bool→Bool→Bool→List (Ty.d au)→Int→Int→ByteArray→ByteArray→Int→Rs
abbrev T4:Type:=List (Ty.d aK)→Int→Int→List (Ty.d aH)→Int→Int→Bool→List (Ty.d aB)→List ByteArray→List (Ty.d aM)→List (Ty.d aB)→List ByteArray→List (Ty.d aM)→List (Ty.d aB)→List ByteArray→List (Ty.d aM)→Bool→Bool→Bool→List (Ty.d au)→Int→Int→ByteArray→ByteArray→Int→Rs
abbrev T3:Type:=List (Ty.d aK)→Int→Int→List (Ty.d aH)→Int→Int→Bool→List (Ty.d aB)→List ByteArray→List (Ty.d aM)→List (Ty.d aB)→List ByteArray→List (Ty.d aM)→List (Ty.d aB)→List ByteArray→List (Ty.d aM)→Bool→Bool→Bool→List (Ty.d au)→Int→Int→ByteArray→ByteArray→Int→Rs
abbrev T2:Type:=List (Ty.d aK)→Int→Int→List (Ty.d aH)→Int→Int→Bool→List (Ty.d aB)→List ByteArray→List (Ty.d aM)→List (Ty.d aB)→List ByteArray→List (Ty.d aM)→List (Ty.d aB)→List ByteArray→List (Ty.d aM)→Bool→Bool→Bool→List (Ty.d au)→Int→Int→ByteArray→ByteArray→Int→Rs
abbrev T9:Type:=List (Ty.d aK)→Int→List (Ty.d aH)→Int→Int→Bool→List (Ty.d aB)→List ByteArray→List (Ty.d aM)→List (Ty.d aB)→List ByteArray→List (Ty.d aM)→List (Ty.d aB)→List ByteArray→List (Ty.d aM)→Bool→Bool→Bool→List (Ty.d au)→Int→Int→ByteArray→ByteArray→Int→Rs
abbrev T8:Type:=List (Ty.d aK)→Int→Int→List (Ty.d aH)→Int→Int→Bool→List (Ty.d aB)→List ByteArray→List (Ty.d aM)→List (Ty.d aB)→List ByteArray→List (Ty.d aM)→List (Ty.d aB)→List ByteArray→List (Ty.d aM)→Bool→Bool→Bool→List (Ty.d au)→Int→Int→ByteArray→ByteArray→Int→Rs
abbrev T7:Type:=List (Ty.d aK)→Int→Int→List (Ty.d aH)→Int→Int→Bool→List (Ty.d aB)→List ByteArray→List (Ty.d aM)→List (Ty.d aB)→List ByteArray→List (Ty.d aM)→List (Ty.d aB)→List ByteArray→List (Ty.d aM)→Bool→Bool→Bool→List (Ty.d au)→Int→Int→ByteArray→ByteArray→Int→Rs
abbrev T6:Type:=List (Ty.d aK)→Int→Int→List (Ty.d aH)→Int→Int→Bool→List (Ty.d aB)→List ByteArray→List (Ty.d aM)→List (Ty.d aB)→List ByteArray→List (Ty.d aM)→List (Ty.d aB)→List ByteArray→List (Ty.d aM)→Bool→Bool→Bool→List (Ty.d au)→Int→Int→ByteArray→ByteArray→Int→Rs
abbrev RN:Type:=List (Ty.d aK)→Int→List (Ty.d aH)→Int→Int→Bool→List (Ty.d aB)→List ByteArray→List (Ty.d aM)→List (Ty.d aB)→List ByteArray→List (Ty.d aM)→List (Ty.d aB)→List ByteArray→List (Ty.d aM)→Bool→Bool→Bool→List (Ty.d au)→Int→Int→ByteArray→ByteArray→Int→Rs
abbrev RI:Type:=List (Ty.d aK)→Int→Int→List (Ty.d aH)→Int→Int→Bool→List (Ty.d aB)→List ByteArray→List (Ty.d aM)→List (Ty.d aB)→List ByteArray→List (Ty.d aM)→List (Ty.d aB)→List ByteArray→List (Ty.d aM)→Bool→Bool→Bool→List (Ty.d au)→Int→Int→ByteArray→ByteArray→Int→Rs
abbrev RQ:Type:=List (Ty.d aK)→Int→Int→List (Ty.d aH)→Int→Int→Bool→List (Ty.d aB)→List ByteArray→List (Ty.d aM)→List (Ty.d aB)→List ByteArray→List (Ty.d aM)→List (Ty.d aB)→List ByteArray→List (Ty.d aM)→Bool→Bool→Bool→List (Ty.d au)→Int→Int→ByteArray→ByteArray→Int→Rs
abbrev RG:Type:=List (Ty.d aK)→Int→Int→List (Ty.d aH)→Int→Int→Bool→List (Ty.d aB)→List ByteArray→List (Ty.d aM)→List (Ty.d aB)→List ByteArray→List (Ty.d aM)→List (Ty.d aB)→List ByteArray→List (Ty.d aM)→Bool→Bool→Bool→List (Ty.d au)→Int→Int→ByteArray→ByteArray→Int→Rs
abbrev T1:Type:=List (Ty.d aK)→Int→Int→List (Ty.d aH)→Int→Int→List (Ty.d aB)→List ByteArray→List (Ty.d aM)→List (Ty.d aB)→List ByteArray→List (Ty.d aM)→List (Ty.d aB)→List ByteArray→List (Ty.d aM)→Bool→Bool→Bool→List (Ty.d au)→Int→Int→ByteArray→ByteArray→Int→Rs
abbrev T0:Type:=List (Ty.d aK)→List (Ty.d aH)→Int→Int→List (Ty.d aB)→List ByteArray→List (Ty.d aM)→List (Ty.d aB)→List ByteArray→List (Ty.d aM)→List (Ty.d aB)→List ByteArray→List (Ty.d aM)→Bool→Bool→Bool→List (Ty.d au)→Rs
def b5 (L0:T0):T5:=fun x0 x1 x2 x3 x4 x5 x6 x7 x8 x9 x10 x11 x12 x13 x14 x15 x16 x17 x18 x19 x20 x21 x22 x23 =>
 (cond x5 (L0 x0 x2 x3 (aQ (x4+1)) [] [] [] x9 x10 x11 x12 x13 x14 false x16 x17 x18) (dR x1 (x0.length:Int) ((eP.f k ((x15,(x6,(x7,(x8,())))),((x16,(x9,(x10,(x11,())))),((x17,(x12,(x13,(x14,())))),()))) (x19,(x20,(x21,(x22,(x23,()))))) (x0.getD x1.toNat (Ty.z aK))).bind fun r3=>L0 x0 x2 x3 (aQ (x4+1)) r3.1.1.2.1 r3.1.1.2.2.1 r3.1.1.2.2.2.1 r3.1.2.1.2.1 r3.1.2.1.2.2.1 r3.1.2.1.2.2.2.1 r3.1.2.2.1.2.1 r3.1.2.2.1.2.2.1 r3.1.2.2.1.2.2.2.1 r3.1.1.1 r3.1.2.1.1 r3.1.2.2.1.1 x18)))
def l5 (L0:T0):Nat→T5
 | 0=>fun _ _ _ _ _ _ _ _ _ _ _ _ _ _ _ _ _ _ _ _ _ _ _ _=>none
 | n+1=>b5 k L0
def b4 (L5:T5) (L0:T0):T4:=fun x0 x1 x2 x3 x4 x5 x6 x7 x8 x9 x10 x11 x12 x13 x14 x15 x16 x17 x18 x19 x20 x21 x22 x23 x24 =>
 (cond x6 ((eZ.f k x9).bind fun r2=>rm (Ty.bytes au) (x19.length+1) (L0 x0 x3 x4 (aQ (x5+1)) [] [] [] x10 x11 x12 x13 x14 x15 false x17 x18 (x19++[(x21,(x7,(x8,r2)))]))) (cond (x20==5) (cond (x2 != 4) (L5 x0 x1 x3 x4 x5 (x2 != 6) x7 x8 x9 x10 x11 x12 x13 x14 x15 x16 x17 x18 x19 x20 x21 x22 x23 x24) (L5 x0 x1 x3 x4 x5 false x7 x8 x9 x10 x11 x12 x13 x14 x15 x16 x17 x18 x19 x20 x21 x22 x23 x24)) (L5 x0 x1 x3 x4 x5 false x7 x8 x9 x10 x11 x12 x13 x14 x15 x16 x17 x18 x19 x20 x21 x22 x23 x24)))
def l4 (L0:T0):Nat→T4
 | 0=>fun _ _ _ _ _ _ _ _ _ _ _ _ _ _ _ _ _ _ _ _ _ _ _ _ _=>none
 | n+1=>b4 k (l5 k L0 k) L0
def b3 (k:Nat) (L4:T4) (L0:T0):T3:=fun x0 x1 x2 x3 x4 x5 x6 x7 x8 x9 x10 x11 x12 x13 x14 x15 x16 x17 x18 x19 x20 x21 x22 x23 x24 =>
 (cond x6 (L0 x0 x3 x4 (aQ (x5+1)) [] [] [] x10 x11 x12 x13 x14 x15 false x17 x18 x19) (cond (x20==5) (L4 x0 x1 x2 x3 x4 x5 (x2==0) x7 x8 x9 x10 x11 x12 x13 x14 x15 x16 x17 x18 x19 x20 x21 x22 x23 x24) (L4 x0 x1 x2 x3 x4 x5 false x7 x8 x9 x10 x11 x12 x13 x14 x15 x16 x17 x18 x19 x20 x21 x22 x23 x24)))
def l3 (L0:T0):Nat→T3
 | 0=>fun _ _ _ _ _ _ _ _ _ _ _ _ _ _ _ _ _ _ _ _ _ _ _ _ _=>none
 | n+1=>b3 k (l4 k L0 k) L0
def b2 (k:Nat) (L3:T3) (L0:T0):T2:=fun x0 x1 x2 x3 x4 x5 x6 x7 x8 x9 x10 x11 x12 x13 x14 x15 x16 x17 x18 x19 x20 x21 x22 x23 x24 =>
 (cond x6 (L0 x0 x3 x4 (aQ (x5+1)) [] [] [] x10 x11 x12 x13 x14 x15 true x17 x18 x19) (cond (x20==6) (L3 x0 x1 x2 x3 x4 x5 (x2==0) x7 x8 x9 x10 x11 x12 x13 x14 x15 x16 x17 x18 x19 x20 x21 x22 x23 x24) (L3 x0 x1 x2 x3 x4 x5 false x7 x8 x9 x10 x11 x12 x13 x14 x15 x16 x17 x18 x19 x20 x21 x22 x23 x24)))
def l2 (L0:T0):Nat→T2
 | 0=>fun _ _ _ _ _ _ _ _ _ _ _ _ _ _ _ _ _ _ _ _ _ _ _ _ _=>none
 | n+1=>b2 k (l3 k L0 k) L0
def b9 (L0:T0):T9:=fun x0 x1 x2 x3 x4 x5 x6 x7 x8 x9 x10 x11 x12 x13 x14 x15 x16 x17 x18 x19 x20 x21 x22 x23 =>
 (cond x5 (L0 x0 x2 x3 (aQ (x4+1)) x6 x7 x8 [] [] [] x12 x13 x14 x15 false x17 x18) (dR x1 (x0.length:Int) ((dx.f k ((x15,(x6,(x7,(x8,())))),((x16,(x9,(x10,(x11,())))),((x17,(x12,(x13,(x14,())))),()))) (x19,(x20,(x21,(x22,(x23,()))))) (x0.getD x1.toNat (Ty.z aK))).bind fun r5=>L0 x0 x2 x3 (aQ (x4+1)) r5.1.1.2.1 r5.1.1.2.2.1 r5.1.1.2.2.2.1 r5.1.2.1.2.1 r5.1.2.1.2.2.1 r5.1.2.1.2.2.2.1 r5.1.2.2.1.2.1 r5.1.2.2.1.2.2.1 r5.1.2.2.1.2.2.2.1 r5.1.1.1 r5.1.2.1.1 r5.1.2.2.1.1 x18)))
def l9 (L0:T0):Nat→T9
 | 0=>fun _ _ _ _ _ _ _ _ _ _ _ _ _ _ _ _ _ _ _ _ _ _ _ _=>none
 | n+1=>b9 k L0
def b8 (L9:T9) (L0:T0):T8:=fun x0 x1 x2 x3 x4 x5 x6 x7 x8 x9 x10 x11 x12 x13 x14 x15 x16 x17 x18 x19 x20 x21 x22 x23 x24 =>
 (cond x6 ((eZ.f k x12).bind fun r4=>rm (Ty.bytes au) (x19.length+1) (L0 x0 x3 x4 (aQ (x5+1)) x7 x8 x9 [] [] [] x13 x14 x15 x16 false x18 (x19++[(x21,(x10,(x11,r4)))]))) (cond (x20==5) (cond (x2 != 4) (L9 x0 x1 x3 x4 x5 (x2 != 6) x7 x8 x9 x10 x11 x12 x13 x14 x15 x16 x17 x18 x19 x20 x21 x22 x23 x24) (L9 x0 x1 x3 x4 x5 false x7 x8 x9 x10 x11 x12 x13 x14 x15 x16 x17 x18 x19 x20 x21 x22 x23 x24)) (L9 x0 x1 x3 x4 x5 false x7 x8 x9 x10 x11 x12 x13 x14 x15 x16 x17 x18 x19 x20 x21 x22 x23 x24)))
def l8 (L0:T0):Nat→T8
 | 0=>fun _ _ _ _ _ _ _ _ _ _ _ _ _ _ _ _ _ _ _ _ _ _ _ _ _=>none
 | n+1=>b8 k (l9 k L0 k) L0
def b7 (k:Nat) (L8:T8) (L0:T0):T7:=fun x0 x1 x2 x3 x4 x5 x6 x7 x8 x9 x10 x11 x12 x13 x14 x15 x16 x17 x18 x19 x20 x21 x22 x23 x24 =>
 (cond x6 (L0 x0 x3 x4 (aQ (x5+1)) x7 x8 x9 [] [] [] x13 x14 x15 x16 false x18 x19) (cond (x20==5) (L8 x0 x1 x2 x3 x4 x5 (x2==0) x7 x8 x9 x10 x11 x12 x13 x14 x15 x16 x17 x18 x19 x20 x21 x22 x23 x24) (L8 x0 x1 x2 x3 x4 x5 false x7 x8 x9 x10 x11 x12 x13 x14 x15 x16 x17 x18 x19 x20 x21 x22 x23 x24)))
def l7 (L0:T0):Nat→T7
 | 0=>fun _ _ _ _ _ _ _ _ _ _ _ _ _ _ _ _ _ _ _ _ _ _ _ _ _=>none
 | n+1=>b7 k (l8 k L0 k) L0
def b6 (k:Nat) (L7:T7) (L0:T0):T6:=fun x0 x1 x2 x3 x4 x5 x6 x7 x8 x9 x10 x11 x12 x13 x14 x15 x16 x17 x18 x19 x20 x21 x22 x23 x24 =>
 (cond x6 (L0 x0 x3 x4 (aQ (x5+1)) x7 x8 x9 [] [] [] x13 x14 x15 x16 true x18 x19) (cond (x20==6) (L7 x0 x1 x2 x3 x4 x5 (x2==0) x7 x8 x9 x10 x11 x12 x13 x14 x15 x16 x17 x18 x19 x20 x21 x22 x23 x24) (L7 x0 x1 x2 x3 x4 x5 false x7 x8 x9 x10 x11 x12 x13 x14 x15 x16 x17 x18 x19 x20 x21 x22 x23 x24)))
def l6 (L0:T0):Nat→T6
 | 0=>fun _ _ _ _ _ _ _ _ _ _ _ _ _ _ _ _ _ _ _ _ _ _ _ _ _=>none
 | n+1=>b6 k (l7 k L0 k) L0
def b13 (L0:T0):RN:=fun x0 x1 x2 x3 x4 x5 x6 x7 x8 x9 x10 x11 x12 x13 x14 x15 x16 x17 x18 x19 x20 x21 x22 x23 =>
 (cond x5 (L0 x0 x2 x3 (aQ (x4+1)) x6 x7 x8 x9 x10 x11 [] [] [] x15 x16 false x18) (dR x1 (x0.length:Int) ((dy.f k ((x15,(x6,(x7,(x8,())))),((x16,(x9,(x10,(x11,())))),((x17,(x12,(x13,(x14,())))),()))) (x19,(x20,(x21,(x22,(x23,()))))) (x0.getD x1.toNat (Ty.z aK))).bind fun r7=>L0 x0 x2 x3 (aQ (x4+1)) r7.1.1.2.1 r7.1.1.2.2.1 r7.1.1.2.2.2.1 r7.1.2.1.2.1 r7.1.2.1.2.2.1 r7.1.2.1.2.2.2.1 r7.1.2.2.1.2.1 r7.1.2.2.1.2.2.1 r7.1.2.2.1.2.2.2.1 r7.1.1.1 r7.1.2.1.1 r7.1.2.2.1.1 x18)))
def l13 (L0:T0):Nat→RN
 | 0=>fun _ _ _ _ _ _ _ _ _ _ _ _ _ _ _ _ _ _ _ _ _ _ _ _=>none
 | n+1=>b13 k L0
def b12 (L13:RN) (L0:T0):RI:=fun x0 x1 x2 x3 x4 x5 x6 x7 x8 x9 x10 x11 x12 x13 x14 x15 x16 x17 x18 x19 x20 x21 x22 x23 x24 =>
 (cond x6 ((eZ.f k x15).bind fun r6=>rm (Ty.bytes au) (x19.length+1) (L0 x0 x3 x4 (aQ (x5+1)) x7 x8 x9 x10 x11 x12 [] [] [] x16 x17 false (x19++[(x21,(x13,(x14,r6)))]))) (cond (x20==5) (cond (x2 != 4) (L13 x0 x1 x3 x4 x5 (x2 != 6) x7 x8 x9 x10 x11 x12 x13 x14 x15 x16 x17 x18 x19 x20 x21 x22 x23 x24) (L13 x0 x1 x3 x4 x5 false x7 x8 x9 x10 x11 x12 x13 x14 x15 x16 x17 x18 x19 x20 x21 x22 x23 x24)) (L13 x0 x1 x3 x4 x5 false x7 x8 x9 x10 x11 x12 x13 x14 x15 x16 x17 x18 x19 x20 x21 x22 x23 x24)))
def l12 (L0:T0):Nat→RI
 | 0=>fun _ _ _ _ _ _ _ _ _ _ _ _ _ _ _ _ _ _ _ _ _ _ _ _ _=>none
 | n+1=>b12 k (l13 k L0 k) L0
def b11 (k:Nat) (L12:RI) (L0:T0):RQ:=fun x0 x1 x2 x3 x4 x5 x6 x7 x8 x9 x10 x11 x12 x13 x14 x15 x16 x17 x18 x19 x20 x21 x22 x23 x24 =>
 (cond x6 (L0 x0 x3 x4 (aQ (x5+1)) x7 x8 x9 x10 x11 x12 [] [] [] x16 x17 false x19) (cond (x20==5) (L12 x0 x1 x2 x3 x4 x5 (x2==0) x7 x8 x9 x10 x11 x12 x13 x14 x15 x16 x17 x18 x19 x20 x21 x22 x23 x24) (L12 x0 x1 x2 x3 x4 x5 false x7 x8 x9 x10 x11 x12 x13 x14 x15 x16 x17 x18 x19 x20 x21 x22 x23 x24)))
def l11 (L0:T0):Nat→RQ
 | 0=>fun _ _ _ _ _ _ _ _ _ _ _ _ _ _ _ _ _ _ _ _ _ _ _ _ _=>none
 | n+1=>b11 k (l12 k L0 k) L0
def b10 (k:Nat) (L11:RQ) (L0:T0):RG:=fun x0 x1 x2 x3 x4 x5 x6 x7 x8 x9 x10 x11 x12 x13 x14 x15 x16 x17 x18 x19 x20 x21 x22 x23 x24 =>
 (cond x6 (L0 x0 x3 x4 (aQ (x5+1)) x7 x8 x9 x10 x11 x12 [] [] [] x16 x17 true x19) (cond (x20==6) (L11 x0 x1 x2 x3 x4 x5 (x2==0) x7 x8 x9 x10 x11 x12 x13 x14 x15 x16 x17 x18 x19 x20 x21 x22 x23 x24) (L11 x0 x1 x2 x3 x4 x5 false x7 x8 x9 x10 x11 x12 x13 x14 x15 x16 x17 x18 x19 x20 x21 x22 x23 x24)))
def l10 (L0:T0):Nat→RG
 | 0=>fun _ _ _ _ _ _ _ _ _ _ _ _ _ _ _ _ _ _ _ _ _ _ _ _ _=>none
 | n+1=>b10 k (l11 k L0 k) L0
def b1 (L2:T2) (L6:T6) (L10:RG) (L0:T0):T1:=fun x0 x1 x2 x3 x4 x5 x6 x7 x8 x9 x10 x11 x12 x13 x14 x15 x16 x17 x18 x19 x20 x21 x22 x23 =>
 ((aZ.f k x20 0 2).bind fun r1=>cond (!r1.1) (L0 x0 x3 x4 (aQ (x5+1)) x6 x7 x8 x9 x10 x11 x12 x13 x14 x15 x16 x17 x18) (cond (F2 x20 0) (cond (x19==1) (L2 x0 x1 x2 x3 x4 x5 (x2==0) x6 x7 x8 x9 x10 x11 x12 x13 x14 x15 x16 x17 x18 x19 x20 x21 x22 x23) (L2 x0 x1 x2 x3 x4 x5 false x6 x7 x8 x9 x10 x11 x12 x13 x14 x15 x16 x17 x18 x19 x20 x21 x22 x23)) (cond (F2 x20 1) (cond (x19==1) (L6 x0 x1 x2 x3 x4 x5 (x2==0) x6 x7 x8 x9 x10 x11 x12 x13 x14 x15 x16 x17 x18 x19 x20 x21 x22 x23) (L6 x0 x1 x2 x3 x4 x5 false x6 x7 x8 x9 x10 x11 x12 x13 x14 x15 x16 x17 x18 x19 x20 x21 x22 x23)) (cond (F2 x20 2) (cond (x19==1) (L10 x0 x1 x2 x3 x4 x5 (x2==0) x6 x7 x8 x9 x10 x11 x12 x13 x14 x15 x16 x17 x18 x19 x20 x21 x22 x23) (L10 x0 x1 x2 x3 x4 x5 false x6 x7 x8 x9 x10 x11 x12 x13 x14 x15 x16 x17 x18 x19 x20 x21 x22 x23)) none))))
def l1 (L0:T0):Nat→T1
 | 0=>fun _ _ _ _ _ _ _ _ _ _ _ _ _ _ _ _ _ _ _ _ _ _ _ _=>none
 | n+1=>b1 k (l2 k L0 k) (l6 k L0 k) (l10 k L0 k) L0
def b0 (k:Nat) (L1:T1) (L0:T0):T0:=fun x0 x1 x2 x3 x4 x5 x6 x7 x8 x9 x10 x11 x12 x13 x14 x15 x16 =>
 (cond (decide (x3<x2)) (dR x3 (x1.length:Int) (cond (decide (x3≥(x0.length:Int))) (some (x16,())) (dR x3 (x0.length:Int) (cond ((x1.getD x3.toNat (Ty.z aH)).1==9) (cond ((x0.getD x3.toNat (Ty.z aK)).1==0) (L1 x0 x3 (x0.getD x3.toNat (Ty.z aK)).1 x1 x2 x3 [] [] [] [] [] [] [] [] [] false false false x16 (x1.getD x3.toNat (Ty.z aH)).1 (x1.getD x3.toNat (Ty.z aH)).2.1 (x1.getD x3.toNat (Ty.z aH)).2.2.1 (x1.getD x3.toNat (Ty.z aH)).2.2.2.1 (x1.getD x3.toNat (Ty.z aH)).2.2.2.2.1) (L1 x0 x3 (x0.getD x3.toNat (Ty.z aK)).1 x1 x2 x3 x4 x5 x6 x7 x8 x9 x10 x11 x12 x13 x14 x15 x16 (x1.getD x3.toNat (Ty.z aH)).1 (x1.getD x3.toNat (Ty.z aH)).2.1 (x1.getD x3.toNat (Ty.z aH)).2.2.1 (x1.getD x3.toNat (Ty.z aH)).2.2.2.1 (x1.getD x3.toNat (Ty.z aH)).2.2.2.2.1)) (L1 x0 x3 (x0.getD x3.toNat (Ty.z aK)).1 x1 x2 x3 x4 x5 x6 x7 x8 x9 x10 x11 x12 x13 x14 x15 x16 (x1.getD x3.toNat (Ty.z aH)).1 (x1.getD x3.toNat (Ty.z aH)).2.1 (x1.getD x3.toNat (Ty.z aH)).2.2.1 (x1.getD x3.toNat (Ty.z aH)).2.2.2.1 (x1.getD x3.toNat (Ty.z aH)).2.2.2.2.1))))) (some (x16,())))
def l0:Nat→T0
 | 0=>fun _ _ _ _ _ _ _ _ _ _ _ _ _ _ _ _ _=>none
 | n+1=>b0 k (l1 k (l0 n) k) (l0 n)
def t (k:Nat) (L0:T0) (a0:List (Ty.d aH)) (a1:List (Ty.d aK)):Rs :=
 (L0 a1 a0 (a0.length:Int) 0 [] [] [] [] [] [] [] [] [] false false false [])
def f:=t k (l0 k k)
end aD
namespace fS
abbrev Rs:Type:=Option ((List (Ty.d aB)) × Int × Unit)
def t (a0:Ty.d bF):Rs :=
 (cond (!a0.1) (some ([],(6,()))) ((iK.f k a0.2.1 a0.2.2.1).bind fun r1=>some r1))
def f:=t k
end fS
namespace gW
abbrev Rs:Type:=Option ((List (Ty.d aB)) × Unit)
abbrev T0:Type:=List (Ty.d aB)→Bool→Int→ByteArray→ByteArray→Int→List (Ty.d aB)→Rs
def b0 (k:Nat) (L0:T0):T0:=fun x0 x1 x2 x3 x4 x5 x6 =>
 (cond (decide (x2<(x0.length:Int))) (dR x2 (x0.length:Int) (cond (seq (x0.getD x2.toNat (Ty.z aB)).1 x3) (L0 x0 x1 (aQ (x2+1)) x3 x4 x5 x6) (cond (!x1) (dR x2 (x0.length:Int) (cond (!((nd (x0.getD x2.toNat (Ty.z aB)).1 x3)||(seq (x0.getD x2.toNat (Ty.z aB)).1 x3))) (rm (Ty.bytes aB) (x6.length+1) (dR x2 (x0.length:Int) (rm (Ty.bytes aB) (List.length (x6++[(x3,(x4,(x5,())))])+1) (L0 x0 true (aQ (x2+1)) x3 x4 x5 ((x6++[(x3,(x4,(x5,())))])++[(x0.getD x2.toNat (Ty.z aB))]))))) (dR x2 (x0.length:Int) (rm (Ty.bytes aB) (x6.length+1) (L0 x0 x1 (aQ (x2+1)) x3 x4 x5 (x6++[(x0.getD x2.toNat (Ty.z aB))])))))) (dR x2 (x0.length:Int) (rm (Ty.bytes aB) (x6.length+1) (L0 x0 x1 (aQ (x2+1)) x3 x4 x5 (x6++[(x0.getD x2.toNat (Ty.z aB))]))))))) (cond (!x1) (rm (Ty.bytes aB) (x6.length+1) (some ((x6++[(x3,(x4,(x5,())))]),()))) (some (x6,()))))
def l0:Nat→T0
 | 0=>fun _ _ _ _ _ _ _=>none
 | n+1=>b0 k (l0 n)
def t (k:Nat) (L0:T0) (a0:List (Ty.d aB)) (a1:Ty.d aB) (a2:Bool):Rs :=
 (L0 a0 a2 0 a1.1 a1.2.1 a1.2.2.1 [])
def f:=t k (l0 k k)
end gW
namespace iP
abbrev Rs:Type:=Option ((List (Ty.d aB)) × Unit)
abbrev T0:Type:=List (Ty.d aM)→Int→Int→List (Ty.d aB)→Rs
def b0 (L0:T0):T0:=fun x0 x1 x2 x3 =>
 (cond (decide (x2<(x0.length:Int))) (dR x2 (x0.length:Int) (dR x2 (x0.length:Int) (dR x2 (x0.length:Int) ((gW.f k x3 ((x0.getD x2.toNat (Ty.z aM)).1,((x0.getD x2.toNat (Ty.z aM)).2.2.1,(x1,()))) (x0.getD x2.toNat (Ty.z aM)).2.1).bind fun r1=>L0 x0 x1 (aQ (x2+1)) r1.1)))) (some (x3,())))
def l0:Nat→T0
 | 0=>fun _ _ _ _=>none
 | n+1=>b0 k (l0 n)
def t (k:Nat) (L0:T0) (a0:List (Ty.d aB)) (a1:List (Ty.d aM)) (a2:Int):Rs :=
 (rm (Ty.bytes aB) (0+List.length a0) (L0 a1 a2 0 ([]++a0)))
def f:=t k (l0 k k)
end iP
namespace eH
abbrev Rs:Type:=Option ((List (Ty.d aB)) × Unit)
abbrev T0:Type:=List (Ty.d au)→Int→List (Ty.d aB)→Rs
def b0 (L0:T0):T0:=fun x0 x1 x2 =>
 (cond (decide (x1<(x0.length:Int))) (dR x1 (x0.length:Int) ((iP.f k x2 (x0.getD x1.toNat (Ty.z au)).2.2.2.1 0).bind fun r1=>L0 x0 (aQ (x1+1)) r1.1)) (some (x2,())))
def l0:Nat→T0
 | 0=>fun _ _ _=>none
 | n+1=>b0 k (l0 n)
def t (k:Nat) (L0:T0) (a0:List (Ty.d au)):Rs :=
 (L0 a0 0 [])
def f:=t k (l0 k k)
end eH
namespace fE
abbrev Rs:Type:=Option ((Ty.d aB) × Int × Unit)
abbrev T0:Type:=List (Ty.d aB)→ByteArray→Int→ByteArray→ByteArray→Int→Rs
def b0 (k:Nat) (L0:T0):T0:=fun x0 x1 x2 x3 x4 x5 =>
 (cond (decide (x2<(x0.length:Int))) (dR x2 (x0.length:Int) (cond (seq (x0.getD x2.toNat (Ty.z aB)).1 x1) (dR x2 (x0.length:Int) (some ((x0.getD x2.toNat (Ty.z aB)),(0,())))) (L0 x0 x1 (aQ (x2+1)) x3 x4 x5))) (some ((ByteArray.empty,(ByteArray.empty,(0,()))),(8,()))))
def l0:Nat→T0
 | 0=>fun _ _ _ _ _ _=>none
 | n+1=>b0 k (l0 n)
def t (k:Nat) (L0:T0) (a0:List (Ty.d aB)) (a1:ByteArray):Rs :=
 (L0 a0 a1 0 ByteArray.empty ByteArray.empty 0)
def f:=t k (l0 k k)
end fE
namespace ap
abbrev Rs:Type:=Option (Bool × Unit)
abbrev T2:Type:=List (Ty.d au)→Int→Int→List (Ty.d aB)→Rs
abbrev T1:Type:=List (Ty.d au)→Int→Int→List (Ty.d aB)→Rs
abbrev T0:Type:=List (Ty.d au)→Int→Rs
def b2 (L0:T0) (L2:T2):T2:=fun x0 x1 x2 x3 =>
 (dR x1 (x0.length:Int) (cond (decide (x2<(List.length (x0.getD x1.toNat (Ty.z au)).2.2.1:Int))) (dR x1 (x0.length:Int) (dR x2 (List.length (x0.getD x1.toNat (Ty.z au)).2.2.1:Int) ((fE.f k x3 (List.getD (x0.getD x1.toNat (Ty.z au)).2.2.1 x2.toNat (Ty.z .str))).bind fun r3=>cond (r3.2.1 != 8) (some (false,())) (L2 x0 x1 (aQ (x2+1)) x3)))) (L0 x0 (aQ (x1+1)))))
def l2 (L0:T0):Nat→T2
 | 0=>fun _ _ _ _=>none
 | n+1=>b2 k L0 (l2 L0 n)
def b1 (L2:T2) (L0:T0) (L1:T1):T1:=fun x0 x1 x2 x3 =>
 (dR x1 (x0.length:Int) (cond (decide (x2<(List.length (x0.getD x1.toNat (Ty.z au)).2.1:Int))) (dR x1 (x0.length:Int) (dR x2 (List.length (x0.getD x1.toNat (Ty.z au)).2.1:Int) ((fE.f k x3 (List.getD (x0.getD x1.toNat (Ty.z au)).2.1 x2.toNat (Ty.z aB)).1).bind fun r2=>cond (r2.2.1 != 0) (some (false,())) (dR x1 (x0.length:Int) (dR x2 (List.length (x0.getD x1.toNat (Ty.z au)).2.1:Int) (cond (!(seq r2.1.2.1 (List.getD (x0.getD x1.toNat (Ty.z au)).2.1 x2.toNat (Ty.z aB)).2.1)) (some (false,())) (L1 x0 x1 (aQ (x2+1)) x3))))))) (L2 x0 x1 0 x3)))
def l1 (L0:T0):Nat→T1
 | 0=>fun _ _ _ _=>none
 | n+1=>b1 k (l2 k L0 k) L0 (l1 L0 n)
def b0 (L1:T1) (L0:T0):T0:=fun x0 x1 =>
 (cond (decide (x1<(x0.length:Int))) (pS x1 (x0.length:Int) ((eH.f k (x0.take x1.toNat)).bind fun r1=>L1 x0 x1 0 r1.1)) (some (true,())))
def l0:Nat→T0
 | 0=>fun _ _=>none
 | n+1=>b0 k (l1 k (l0 n) k) (l0 n)
def t (k:Nat) (L0:T0) (a0:List (Ty.d au)):Rs :=
 (L0 a0 0)
def f:=t k (l0 k k)
end ap
namespace fL
abbrev Rs:Type:=Option ((List (Ty.d aB)) × Unit)
def t (k:Nat) (a0:List (Ty.d aB)):Rs :=
 (rm (Ty.bytes aB) (a0.length) (some (a0,())))
def f:=t k
end fL
namespace fc
abbrev Rs:Type:=Option ((List (Ty.d aB)) × Unit)
abbrev T0:Type:=ByteArray→List (Ty.d aB)→Int→Int→List (Ty.d aB)→Rs
def b0 (k:Nat) (L0:T0):T0:=fun x0 x1 x2 x3 x4 =>
 (cond (decide (x3<x2)) (dR x3 (x1.length:Int) (cond (!(seq (x1.getD x3.toNat (Ty.z aB)).1 x0)) (rm (Ty.bytes aB) (x4.length+1) (L0 x0 x1 x2 (aQ (x3+1)) (x4++[(x1.getD x3.toNat (Ty.z aB))]))) (L0 x0 x1 x2 (aQ (x3+1)) x4))) (some (x4,())))
def l0:Nat→T0
 | 0=>fun _ _ _ _ _=>none
 | n+1=>b0 k (l0 n)
def t (k:Nat) (L0:T0) (a0:List (Ty.d aB)) (a1:ByteArray):Rs :=
 (L0 a1 a0 (a0.length:Int) 0 [])
def f:=t k (l0 k k)
end fc
namespace fI
abbrev Rs:Type:=Option ((List (Ty.d aB)) × Unit)
abbrev T1:Type:=Int→Int→List (Ty.d aM)→Int→Int→List (Ty.d aB)→ByteArray→Bool→ByteArray→Rs
abbrev T0:Type:=Int→List (Ty.d aM)→Int→Int→List (Ty.d aB)→Rs
def b1 (L0:T0) (L1:T1):T1:=fun x0 x1 x2 x3 x4 x5 x6 x7 x8 =>
 (cond (decide (x1<(x5.length:Int))) (dR x1 (x5.length:Int) (cond ((nd (x5.getD x1.toNat (Ty.z aB)).1 x6)||(seq (x5.getD x1.toNat (Ty.z aB)).1 x6)) (L1 x0 (aQ (x1+1)) x2 x3 x4 x5 x6 x7 x8) (pS x1 (x5.length:Int) ((fL.f k (x5.take x1.toNat)).bind fun r3=>rm (Ty.bytes aB) (r3.1.length+1) (pS x1 (x5.length:Int) (rm (Ty.bytes aB) (List.length (r3.1++[(x6,(x8,(x0,())))])+List.length (x5.drop x1.toNat)) (L0 x0 x2 x3 (aQ (x4+1)) ((r3.1++[(x6,(x8,(x0,())))])++(x5.drop x1.toNat))))))))) (pS x1 (x5.length:Int) ((fL.f k (x5.take x1.toNat)).bind fun r4=>rm (Ty.bytes aB) (r4.1.length+1) (pS x1 (x5.length:Int) (rm (Ty.bytes aB) (List.length (r4.1++[(x6,(x8,(x0,())))])+List.length (x5.drop x1.toNat)) (L0 x0 x2 x3 (aQ (x4+1)) ((r4.1++[(x6,(x8,(x0,())))])++(x5.drop x1.toNat))))))))
def l1 (L0:T0):Nat→T1
 | 0=>fun _ _ _ _ _ _ _ _ _=>none
 | n+1=>b1 k L0 (l1 L0 n)
def b0 (L1:T1) (L0:T0):T0:=fun x0 x1 x2 x3 x4 =>
 (cond (decide (x3<x2)) (dR x3 (x1.length:Int) ((fc.f k x4 (x1.getD x3.toNat (Ty.z aM)).1).bind fun r2=>cond (x1.getD x3.toNat (Ty.z aM)).2.1 (L0 x0 x1 x2 (aQ (x3+1)) r2.1) (L1 x0 0 x1 x2 x3 r2.1 (x1.getD x3.toNat (Ty.z aM)).1 (x1.getD x3.toNat (Ty.z aM)).2.1 (x1.getD x3.toNat (Ty.z aM)).2.2.1))) (some (x4,())))
def l0:Nat→T0
 | 0=>fun _ _ _ _ _=>none
 | n+1=>b0 k (l1 k (l0 n) k) (l0 n)
def t (L0:T0) (a0:List (Ty.d aB)) (a1:List (Ty.d aM)) (a2:Int):Rs :=
 ((fL.f k a0).bind fun r1=>L0 a2 a1 (a1.length:Int) 0 r1.1)
def f:=t k (l0 k k)
end fI
namespace cC
abbrev Rs:Type:=Option ((List (Ty.d aB)) × Unit)
abbrev T0:Type:=List (Ty.d au)→Int→Int→List (Ty.d aB)→Rs
def b0 (L0:T0):T0:=fun x0 x1 x2 x3 =>
 (cond (decide (x2<x1)) (dR x2 (x0.length:Int) ((fI.f k x3 (x0.getD x2.toNat (Ty.z au)).2.2.2.1 0).bind fun r1=>L0 x0 x1 (aQ (x2+1)) r1.1)) (some (x3,())))
def l0:Nat→T0
 | 0=>fun _ _ _ _=>none
 | n+1=>b0 k (l0 n)
def t (k:Nat) (L0:T0) (a0:List (Ty.d au)):Rs :=
 (L0 a0 (a0.length:Int) 0 [])
def f:=t k (l0 k k)
end cC
namespace fv
abbrev Rs:Type:=Option ((Ty.d aB) × Bool × Unit)
abbrev T0:Type:=ByteArray→List (Ty.d aB)→Int→Int→ByteArray→ByteArray→Int→Rs
def b0 (k:Nat) (L0:T0):T0:=fun x0 x1 x2 x3 x4 x5 x6 =>
 (cond (decide (x3<x2)) (dR x3 (x1.length:Int) (cond (seq (x1.getD x3.toNat (Ty.z aB)).1 x0) (some ((x1.getD x3.toNat (Ty.z aB)),(true,()))) (L0 x0 x1 x2 (aQ (x3+1)) x4 x5 x6))) (some ((ByteArray.empty,(ByteArray.empty,(0,()))),(false,()))))
def l0:Nat→T0
 | 0=>fun _ _ _ _ _ _ _=>none
 | n+1=>b0 k (l0 n)
def t (k:Nat) (L0:T0) (a0:List (Ty.d aB)) (a1:ByteArray):Rs :=
 (L0 a1 a0 (a0.length:Int) 0 ByteArray.empty ByteArray.empty 0)
def f:=t k (l0 k k)
end fv
namespace fa
abbrev Rs:Type:=Option (Bool × Unit)
abbrev T1:Type:=List (Ty.d aB)→List ByteArray→Int→Int→Rs
abbrev T0:Type:=List (Ty.d aB)→List (Ty.d aB)→Int→Int→Int→List (Ty.d aB)→List ByteArray→List (Ty.d aM)→Rs
def b1 (L1:T1):T1:=fun x0 x1 x2 x3 =>
 (cond (decide (x3<x2)) (dR x3 (x1.length:Int) ((fv.f k x0 (x1.getD x3.toNat (Ty.z .str))).bind fun r2=>cond r2.2.1 (some (false,())) (L1 x0 x1 x2 (aQ (x3+1))))) (some (true,())))
def l1:Nat→T1
 | 0=>fun _ _ _ _=>none
 | n+1=>b1 k (l1 n)
def b0 (L1:T1) (L0:T0):T0:=fun x0 x1 x2 x3 x4 x5 x6 x7 =>
 (cond (decide (x3<x2)) (dR x3 (x1.length:Int) ((fv.f k x0 (x1.getD x3.toNat (Ty.z aB)).1).bind fun r1=>cond (!r1.2.1) (some (false,())) (cond (!(seq r1.1.2.1 (x1.getD x3.toNat (Ty.z aB)).2.1)) (some (false,())) (L0 x0 x1 x2 (aQ (x3+1)) x4 x5 x6 x7)))) (L1 x0 x6 (x6.length:Int) 0))
def l0:Nat→T0
 | 0=>fun _ _ _ _ _ _ _ _=>none
 | n+1=>b0 k (l1 k k) (l0 n)
def t (k:Nat) (L0:T0) (a0:List (Ty.d aB)) (a1:Ty.d au):Rs :=
 (L0 a0 a1.2.1 (a1.2.1.length:Int) 0 a1.1 a1.2.1 a1.2.2.1 a1.2.2.2.1)
def f:=t k (l0 k k)
end fa
namespace dJ
abbrev Rs:Type:=Option (Bool × Unit)
abbrev T0:Type:=List (Ty.d au)→List (Ty.d au)→Int→Int→Rs
def b0 (L0:T0):T0:=fun x0 x1 x2 x3 =>
 (cond (decide (x3<x2)) (dR x3 (x1.length:Int) (pS x3 (x0.length:Int) ((cC.f k (x0.take x3.toNat)).bind fun r1=>(fa.f k r1.1 (x1.getD x3.toNat (Ty.z au))).bind fun r2=>cond (!r2.1) (some (false,())) (L0 x0 x1 x2 (aQ (x3+1)))))) (some (true,())))
def l0:Nat→T0
 | 0=>fun _ _ _ _=>none
 | n+1=>b0 k (l0 n)
def t (k:Nat) (L0:T0) (a0:List (Ty.d au)):Rs :=
 (L0 a0 a0 (a0.length:Int) 0)
def f:=t k (l0 k k)
end dJ
namespace d9
abbrev Rs:Type:=Option ((List (Ty.d aB)) × Unit)
abbrev T0:Type:=List (Ty.d aB)→Int→List (Ty.d aB)→Rs
def b0 (k:Nat) (L0:T0):T0:=fun x0 x1 x2 =>
 (cond (decide (x1<(x0.length:Int))) (dR x1 (x0.length:Int) (dR x1 (x0.length:Int) (rm (Ty.bytes aB) (x2.length+1) (L0 x0 (aQ (x1+1)) (x2++[((x0.getD x1.toNat (Ty.z aB)).1,((x0.getD x1.toNat (Ty.z aB)).2.1,(0,())))]))))) (some (x2,())))
def l0:Nat→T0
 | 0=>fun _ _ _=>none
 | n+1=>b0 k (l0 n)
def t (k:Nat) (L0:T0) (a0:List (Ty.d aB)):Rs :=
 (L0 a0 0 [])
def f:=t k (l0 k k)
end d9
namespace bW
abbrev Rs:Type:=Option (Bool × Unit)
abbrev T0:Type:=List (Ty.d aB)→List (Ty.d aB)→Int→Rs
def b0 (k:Nat) (L0:T0):T0:=fun x0 x1 x2 =>
 (cond (decide (x2<(x0.length:Int))) (dR x2 (x0.length:Int) (dR x2 (x1.length:Int) (cond (!((seq (x0.getD x2.toNat (Ty.z aB)).1 (x1.getD x2.toNat (Ty.z aB)).1)&&((seq (x0.getD x2.toNat (Ty.z aB)).2.1 (x1.getD x2.toNat (Ty.z aB)).2.1)&&((x0.getD x2.toNat (Ty.z aB)).2.2.1==(x1.getD x2.toNat (Ty.z aB)).2.2.1)))) (some (false,())) (L0 x0 x1 (aQ (x2+1)))))) (some (true,())))
def l0:Nat→T0
 | 0=>fun _ _ _=>none
 | n+1=>b0 k (l0 n)
def t (k:Nat) (L0:T0) (a0:List (Ty.d aB)) (a1:List (Ty.d aB)):Rs :=
 (cond ((a0.length:Int) != (a1.length:Int)) (some (false,())) (L0 a0 a1 0))
def f:=t k (l0 k k)
end bW
namespace dI
abbrev Rs:Type:=Option ((List (Ty.d aB)) × Unit)
abbrev T0:Type:=List (Ty.d m_)→Int→List (Ty.d aB)→Rs
def b0 (L0:T0):T0:=fun x0 x1 x2 =>
 (cond (decide (x1<(x0.length:Int))) (dR x1 (x0.length:Int) (dR x1 (x0.length:Int) ((iP.f k x2 (x0.getD x1.toNat (Ty.z m_)).2.1 (x0.getD x1.toNat (Ty.z m_)).1).bind fun r1=>L0 x0 (aQ (x1+1)) r1.1))) (some (x2,())))
def l0:Nat→T0
 | 0=>fun _ _ _=>none
 | n+1=>b0 k (l0 n)
def t (k:Nat) (L0:T0) (a0:List (Ty.d aB)) (a1:List (Ty.d m_)):Rs :=
 (rm (Ty.bytes aB) (0+List.length a0) (L0 a1 0 ([]++a0)))
def f:=t k (l0 k k)
end dI
namespace bm
abbrev Rs:Type:=Option (Bool × Unit)
abbrev T0:Type:=List (Ty.d aH)→Int→Int→Int→List Int→List (Ty.d aC)→List (Ty.d aB)→List (Ty.d aV)→List (Ty.d aK)→List (Ty.d m_)→List (Ty.d aM)→Bool→Int→Int→Int→Int→Int→Int→Bool→List (Ty.d au)→List (Ty.d aB)→Rs
abbrev T1:Type:=List (Ty.d aH)→Int→Int→Int→List Int→List (Ty.d aC)→List (Ty.d aB)→List (Ty.d aV)→List (Ty.d aK)→List (Ty.d m_)→List (Ty.d aM)→Bool→Int→Int→Int→Int→Int→Int→Bool→List (Ty.d au)→List (Ty.d aB)→Rs
def b0 (L0:T0):T0:=fun x0 x1 x2 x3 x4 x5 x6 x7 x8 x9 x10 x11 x12 x13 x14 x15 x16 x17 x18 x19 x20 =>
 (cond (decide (x3<(x0.length:Int))) (cond (decide (x3<(x8.length:Int))) (dR x3 (x0.length:Int) (cond ((x0.getD x3.toNat (Ty.z aH)).1==5) (dR x3 (x8.length:Int) (cond ((x8.getD x3.toNat (Ty.z aK)).1==0) (L0 x0 x1 (aQ (x2+1)) (aQ (x3+1)) x4 x5 x6 x7 x8 x9 x10 x11 x12 x13 x14 x15 x16 x17 x18 x19 x20) (L0 x0 x1 x2 (aQ (x3+1)) x4 x5 x6 x7 x8 x9 x10 x11 x12 x13 x14 x15 x16 x17 x18 x19 x20))) (L0 x0 x1 x2 (aQ (x3+1)) x4 x5 x6 x7 x8 x9 x10 x11 x12 x13 x14 x15 x16 x17 x18 x19 x20))) (cond ((x8.length:Int) != (x0.length:Int)) (some (false,())) (cond ((x19.length:Int) != x2) (some (false,())) ((ap.f k x19).bind fun r7=>cond (!r7.1) (some (false,())) ((dJ.f k x19).bind fun r8=>cond (!r8.1) (some (false,())) (cond (x1==6) (some (true,())) ((d9.f k x20).bind fun r9=>(cC.f k x19).bind fun r10=>(d9.f k r10.1).bind fun r11=>(bW.f k r9.1 r11.1).bind fun r12=>cond r12.1 ((dI.f k [] x9).bind fun r13=>(bW.f k x20 r13.1).bind fun r14=>some r14) (some (false,()))))))))) (cond ((x8.length:Int) != (x0.length:Int)) (some (false,())) (cond ((x19.length:Int) != x2) (some (false,())) ((ap.f k x19).bind fun r15=>cond (!r15.1) (some (false,())) ((dJ.f k x19).bind fun r16=>cond (!r16.1) (some (false,())) (cond (x1==6) (some (true,())) ((d9.f k x20).bind fun r17=>(cC.f k x19).bind fun r18=>(d9.f k r18.1).bind fun r19=>(bW.f k r17.1 r19.1).bind fun r20=>cond r20.1 ((dI.f k [] x9).bind fun r21=>(bW.f k x20 r21.1).bind fun r22=>some r22) (some (false,())))))))))
def l0:Nat→T0
 | 0=>fun _ _ _ _ _ _ _ _ _ _ _ _ _ _ _ _ _ _ _ _ _=>none
 | n+1=>b0 k (l0 n)
def b1 (L1:T1):T1:=fun x0 x1 x2 x3 x4 x5 x6 x7 x8 x9 x10 x11 x12 x13 x14 x15 x16 x17 x18 x19 x20 =>
 (cond (decide (x3<(x0.length:Int))) (cond (decide (x3<(x8.length:Int))) (dR x3 (x0.length:Int) (cond ((x0.getD x3.toNat (Ty.z aH)).1==5) (dR x3 (x8.length:Int) (cond ((x8.getD x3.toNat (Ty.z aK)).1==0) (L1 x0 x1 (aQ (x2+1)) (aQ (x3+1)) x4 x5 x6 x7 x8 x9 x10 x11 x12 x13 x14 x15 x16 x17 x18 x19 x20) (L1 x0 x1 x2 (aQ (x3+1)) x4 x5 x6 x7 x8 x9 x10 x11 x12 x13 x14 x15 x16 x17 x18 x19 x20))) (L1 x0 x1 x2 (aQ (x3+1)) x4 x5 x6 x7 x8 x9 x10 x11 x12 x13 x14 x15 x16 x17 x18 x19 x20))) (cond ((x8.length:Int) != (x0.length:Int)) (some (false,())) (cond ((x19.length:Int) != x2) (some (false,())) ((ap.f k x19).bind fun r27=>cond (!r27.1) (some (false,())) ((dJ.f k x19).bind fun r28=>cond (!r28.1) (some (false,())) (cond (x1==6) (some (true,())) ((d9.f k x20).bind fun r29=>(cC.f k x19).bind fun r30=>(d9.f k r30.1).bind fun r31=>(bW.f k r29.1 r31.1).bind fun r32=>cond r32.1 ((dI.f k [] x9).bind fun r33=>(bW.f k x20 r33.1).bind fun r34=>some r34) (some (false,()))))))))) (cond ((x8.length:Int) != (x0.length:Int)) (some (false,())) (cond ((x19.length:Int) != x2) (some (false,())) ((ap.f k x19).bind fun r35=>cond (!r35.1) (some (false,())) ((dJ.f k x19).bind fun r36=>cond (!r36.1) (some (false,())) (cond (x1==6) (some (true,())) ((d9.f k x20).bind fun r37=>(cC.f k x19).bind fun r38=>(d9.f k r38.1).bind fun r39=>(bW.f k r37.1 r39.1).bind fun r40=>cond r40.1 ((dI.f k [] x9).bind fun r41=>(bW.f k x20 r41.1).bind fun r42=>some r42) (some (false,())))))))))
def l1:Nat→T1
 | 0=>fun _ _ _ _ _ _ _ _ _ _ _ _ _ _ _ _ _ _ _ _ _=>none
 | n+1=>b1 k (l1 n)
def t (L0:T0) (L1:T1) (a0:List Int):Rs :=
 ((qg.f k a0).bind fun r1=>cond r1.1 (some (true,())) ((fU.f k a0).bind fun r2=>cond (decide ((r2.1.length:Int) > 80)) (pS 80 (r2.1.length:Int) ((lh.f k (r2.1.take 80)).bind fun r3=>(lA.f k r3.1).bind fun r4=>(aD.f k (r2.1.take 80) r4.1.2.1).bind fun r5=>(fS.f k r4.1.1).bind fun r6=>L0 (r2.1.take 80) r6.2.1 0 0 r4.1.1.2.1.1.2.1 r4.1.1.2.1.2.1 r4.1.1.2.2.1.1 r4.1.1.2.2.2.1 r4.1.2.1 r4.1.2.2.1 r4.1.2.2.2.1 r4.1.1.1 r4.1.1.2.1.1.1 r4.1.1.2.1.2.2.1 r4.1.1.2.1.2.2.2.1 r4.1.1.2.1.2.2.2.2.1 r4.1.1.2.2.1.2.1 r4.1.1.2.2.1.2.2.1 r4.1.1.2.2.1.2.2.2.1 r5.1 r6.1)) ((lh.f k r2.1).bind fun r23=>(lA.f k r23.1).bind fun r24=>(aD.f k r2.1 r24.1.2.1).bind fun r25=>(fS.f k r24.1.1).bind fun r26=>L1 r2.1 r26.2.1 0 0 r24.1.1.2.1.1.2.1 r24.1.1.2.1.2.1 r24.1.1.2.2.1.1 r24.1.1.2.2.2.1 r24.1.2.1 r24.1.2.2.1 r24.1.2.2.2.1 r24.1.1.1 r24.1.1.2.1.1.1 r24.1.1.2.1.2.2.1 r24.1.1.2.1.2.2.2.1 r24.1.1.2.1.2.2.2.2.1 r24.1.1.2.2.1.2.1 r24.1.1.2.2.1.2.2.1 r24.1.1.2.2.1.2.2.2.1 r25.1 r26.1)))
def f:=t k (l0 k k) (l1 k k)
end bm
end Go.Proofs.YtaaincbnjkmapaaGreatDoor.G

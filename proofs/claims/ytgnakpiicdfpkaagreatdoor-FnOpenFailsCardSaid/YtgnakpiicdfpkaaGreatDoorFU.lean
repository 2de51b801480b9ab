/- Functions, as V runs them. -/
import Derived.Test.YtgnakpiicdfpkaaGreatDoorVWords
import Derived.Test.YtgnakpiicdfpkaaGreatDoorXLib
set_option linter.unusedVariables false
namespace Go.Proofs.YtgnakpiicdfpkaaGreatDoor.G
open Go.V
abbrev aB:Ty := .pair .str (.pair .str (.pair (.int .i64) .unit))
abbrev a_:Ty := .pair (.slice aB) (.pair (.int .i64) (.pair (.int .i64) (.pair .bool .unit)))
abbrev ay:Ty := .pair (.int .i64) (.pair (.slice (.int .i64)) .unit)
abbrev aA:Ty := .pair .str (.pair (.int .i64) (.pair (.int .i64) (.pair (.int .i64) (.pair (.int .i64) .unit))))
abbrev aG:Ty := .pair ay (.pair (.slice aA) (.pair (.int .i64) (.pair (.int .i64) (.pair (.int .i64) .unit))))
abbrev Hw:Ty := .pair .str (.pair (.int .i64) .unit)
abbrev gZ:Ty := .pair .str (.pair .bool (.pair .str .unit))
abbrev Hj:Ty := .pair .bool (.pair (.slice Hw) (.pair (.slice gZ) .unit))
abbrev mL:Ty := .pair .bool (.pair aG (.pair a_ (.pair (.slice Hj) .unit)))
abbrev gB:Ty := .pair (.slice aA) (.pair (.int .i64) (.pair (.int .i64) .unit))
abbrev di:Ty := .pair (.int .i64) (.pair (.int .i64) (.pair (.slice aA) .unit))
abbrev bP:Ty := .pair (.int .i64) (.pair (.int .i64) (.pair .str (.pair .str (.pair (.int .i64) (.pair (.int .i64) .unit)))))
abbrev aD:Ty := .pair (.int .i64) (.pair (.int .i64) (.pair (.int .i64) (.pair bP .unit)))
abbrev bM:Ty := .pair (.int .i64) (.pair (.int .i64) (.pair bP .unit))
abbrev ag:Ty := .pair (.slice (.int .u8)) (.pair (.int .i64) (.pair (.int .i64) .unit))
abbrev kQ:Ty := .pair .str (.pair .bool .unit)
abbrev bA:Ty := .pair a_ (.pair (.int .i64) .unit)
abbrev yB:Ty:=aB
namespace pc
abbrev Rs:Type:=Option (Bool × Unit)
def t (k:Nat) (a0:List Int):Rs :=
 (some ((decide ((List.length a0:Int) > 1048576)),()))
def f (k:Nat):=t k
end pc
namespace gT
abbrev Rs:Type:=Option (Unit × (Ty.d ag) × Unit)
abbrev T0:Type:=List Int→Int→Int→Rs
def b0 (k:Nat) (L0:T0):T0:=fun x0 x1 x2 =>
 (bif (decide (x2<(x0.length:Int))) then
 (bif (decide (x2<4000)) then
 (bW x2 (x0.length:Int)
 (L0 x0 (aF (((BitVec.ofInt (IntKind.bits .i64) (aF ((aF ((aF (x1*131))+(aF (List.getD x0 (Int.toNat x2) (Ty.z (.int .u8))))))+7)) &&& BitVec.ofInt (IntKind.bits .i64) 1073741823).toNat:Int))) (aF (x2+1))))
 else
 (some ((),((x0,(0,(x1,()))),()))))
 else
 (some ((),((x0,(0,(x1,()))),()))))
def l0 (k:Nat):Nat→T0
 | 0=>fun _ _ _=>none
 | n+1=>b0 k (l0 k n)
def t (k:Nat) (L0:T0) (a0:List Int):Rs :=
 (L0 a0 (aF (10101+(List.length a0:Int))) 0)
def f (k:Nat):=t k (l0 k k)
end gT
namespace aZ
abbrev Rs:Type:=Option (Bool × Unit)
def t (k:Nat) (a0:Int) (a1:Int) (a2:Int):Rs :=
 (bif (decide (a0≥a1)) then
 (some ((decide (a0≤a2)),()))
 else
 (some (false,())))
def f (k:Nat):=t k
end aZ
namespace eR
abbrev Rs:Type:=Option ((Ty.d a_) × Unit)
def t (k:Nat) (a0:Int):Rs :=
 ((aZ.f k a0 0 100000).bind fun r1 =>
 (bif (!r1.1) then
 (some (([],(0,(0,(false,())))),()))
 else
 (some (([],(a0,((-1),(false,())))),()))))
def f (k:Nat):=t k
end eR
namespace dj
abbrev Rs:Type:=Option ((Ty.d ag) × Int × Unit)
def t (k:Nat) (a0:Ty.d ag):Rs :=
 (bif (decide (a0.2.1<(List.length a0.1:Int))) then
 (bW a0.2.1 (List.length a0.1:Int)
 (some ((a0.1,((aF (a0.2.1+1)),((aF ((aF (a0.2.2.1*6364136223846793005))+1442695040888963407)),()))),((aF (((BitVec.ofInt (IntKind.bits .i64) (aF ((aF (((BitVec.ofInt (IntKind.bits .i64) (aF (((BitVec.ofInt (IntKind.bits .i64) (Int.fdiv (aF ((aF (a0.2.2.1*6364136223846793005))+1442695040888963407)) (2 ^ (Int.toNat 33))) ^^^ BitVec.ofInt (IntKind.bits .i64) (Int.fdiv (aF ((aF (a0.2.2.1*6364136223846793005))+1442695040888963407)) (2 ^ (Int.toNat 45)))).toNat:Int))) &&& BitVec.ofInt (IntKind.bits .i64) 255).toNat:Int)))+(aF (List.getD a0.1 (Int.toNat a0.2.1) (Ty.z (.int .u8)))))) &&& BitVec.ofInt (IntKind.bits .i64) 255).toNat:Int))),()))))
 else
 (some ((a0.1,(a0.2.1,((aF ((aF (a0.2.2.1*6364136223846793005))+1442695040888963407)),()))),((aF (((BitVec.ofInt (IntKind.bits .i64) (aF (((BitVec.ofInt (IntKind.bits .i64) (Int.fdiv (aF ((aF (a0.2.2.1*6364136223846793005))+1442695040888963407)) (2 ^ (Int.toNat 33))) ^^^ BitVec.ofInt (IntKind.bits .i64) (Int.fdiv (aF ((aF (a0.2.2.1*6364136223846793005))+1442695040888963407)) (2 ^ (Int.toNat 45)))).toNat:Int))) &&& BitVec.ofInt (IntKind.bits .i64) 255).toNat:Int))),()))))
def f (k:Nat):=t k
end dj
namespace aI
abbrev Rs:Type:=Option ((Ty.d ag) × Int × Unit)
def t (k:Nat) (a0:Ty.d ag) (a1:Int):Rs :=
 (bif (decide (a1≤0)) then
 (some (a0,(0,())))
 else
 (bif (decide (a1≤256)) then
 ((dj.f k a0).bind fun r1 =>
 (bif (decide (a1=0)) then none else
 (some (r1.1,((Int.tmod r1.2.1 a1),())))))
 else
 ((dj.f k a0).bind fun r2 =>
 ((dj.f k r2.1).bind fun r3 =>
 ((dj.f k r3.1).bind fun r4 =>
 ((dj.f k r4.1).bind fun r5 =>
 (bif (decide (a1=0)) then none else
 (some (r5.1,((Int.tmod (aF ((aF ((aF ((aF (r2.2.1*16777216))+(aF (r3.2.1*65536))))+(aF (r4.2.1*256))))+r5.2.1)) a1),()))))))))))
def f (k:Nat):=t k
end aI
namespace gN
abbrev Rs:Type:=Option ((Ty.d ag) × (Ty.d ay) × Unit)
abbrev T0:Type:=Int→Int→List Int→Int→Int→List Int→Int→List Int→Int→Rs
def b0 (k:Nat) (L0:T0):T0:=fun x0 x1 x2 x3 x4 x5 x6 x7 x8 =>
 (bif (decide (x1 > 0)) then
 ((aI.f k (x2,(x3,(x4,()))) 3).bind fun r2 =>
 (rm (Ty.bytes (.int .i64)) (List.length x7+1)
 (L0 (aF ((aF (x0+1))+r2.2.1)) (aF (x1-1)) r2.1.1 r2.1.2.1 r2.1.2.2.1 x5 x6 (x7++[(aF ((aF (x0+1))+r2.2.1))]) x8)))
 else
 ((aI.f k (x2,(x3,(x4,()))) 3).bind fun r3 =>
 (some (r3.1,(((aF ((aF (x0+1))+r3.2.1)),(x7,())),())))))
def l0 (k:Nat):Nat→T0
 | 0=>fun _ _ _ _ _ _ _ _ _=>none
 | n+1=>b0 k (l0 k n)
def t (k:Nat) (L0:T0) (a0:Ty.d ag):Rs :=
 ((aI.f k a0 4).bind fun r1 =>
 (L0 0 (aF (1+r1.2.1)) r1.1.1 r1.1.2.1 r1.1.2.2.1 [] 0 [] 0))
def f (k:Nat):=t k (l0 k k)
end gN
namespace bD
abbrev Rs:Type:=Option ((Ty.d ag) × Bool × Unit)
def t (k:Nat) (a0:Ty.d ag) (a1:Int):Rs :=
 ((aI.f k a0 a1).bind fun r1 =>
 (some (r1.1,((r1.2.1==0),()))))
def f (k:Nat):=t k
end bD
namespace eM
abbrev Rs:Type:=Option ((Ty.d ag) × ByteArray × Unit)
def t (k:Nat) (a0:Ty.d ag) (a1:List ByteArray):Rs :=
 ((aI.f k a0 (List.length a1:Int)).bind fun r1 =>
 (bW r1.2.1 (List.length a1:Int)
 (some (r1.1,((List.getD a1 (Int.toNat r1.2.1) (Ty.z .str)),())))))
def f (k:Nat):=t k
end eM
namespace eP
abbrev Rs:Type:=Option ((Ty.d ag) × ByteArray × Unit)
def t (k:Nat) (a0:Ty.d ag):Rs :=
 ((eM.f k a0 [(⟨#[97]⟩:ByteArray),(⟨#[98]⟩:ByteArray),(⟨#[99]⟩:ByteArray),(⟨#[107,101,121]⟩:ByteArray),(⟨#[108,111,110,103,110,97,109,101]⟩:ByteArray)]).bind fun r1 =>
 (some r1))
def f (k:Nat):=t k
end eP
namespace bE
abbrev Rs:Type:=Option ((Ty.d ag) × ByteArray × Unit)
abbrev T0:Type:=Int→Int→List Int→Int→Int→List Int→Rs
def b0 (k:Nat) (L0:T0):T0:=fun x0 x1 x2 x3 x4 x5 =>
 (bif (decide (x1 > 0)) then
 ((dj.f k (x2,(x3,(x4,())))).bind fun r3 =>
 (bif (x0==1) then
 (bif (x0==2) then
 (rm (Ty.bytes (.int .u8)) (List.length x5+1)
 (L0 x0 (aF (x1-1)) r3.1.1 r3.1.2.1 r3.1.2.2.1 (x5++[(IntKind.wrap .u8 (aF (97+(Int.tmod (Int.tmod r3.2.1 2) 4))))])))
 else
 (rm (Ty.bytes (.int .u8)) (List.length x5+1)
 (L0 x0 (aF (x1-1)) r3.1.1 r3.1.2.1 r3.1.2.2.1 (x5++[(IntKind.wrap .u8 (Int.tmod r3.2.1 2))]))))
 else
 (bif (x0==2) then
 (rm (Ty.bytes (.int .u8)) (List.length x5+1)
 (L0 x0 (aF (x1-1)) r3.1.1 r3.1.2.1 r3.1.2.2.1 (x5++[(IntKind.wrap .u8 (aF (97+(Int.tmod r3.2.1 4))))])))
 else
 (rm (Ty.bytes (.int .u8)) (List.length x5+1)
 (L0 x0 (aF (x1-1)) r3.1.1 r3.1.2.1 r3.1.2.2.1 (x5++[(IntKind.wrap .u8 r3.2.1)]))))))
 else
 (some ((x2,(x3,(x4,()))),((bytesOf x5),()))))
def l0 (k:Nat):Nat→T0
 | 0=>fun _ _ _ _ _ _=>none
 | n+1=>b0 k (l0 k n)
def t (k:Nat) (L0:T0) (a0:Ty.d ag) (a1:Int):Rs :=
 ((aI.f k a0 4).bind fun r1 =>
 ((aI.f k r1.1 (aF (a1+1))).bind fun r2 =>
 (L0 r1.2.1 r2.2.1 r2.1.1 r2.1.2.1 r2.1.2.2.1 [])))
def f (k:Nat):=t k (l0 k k)
end bE
namespace eO
abbrev Rs:Type:=Option (Bool × Unit)
def t (k:Nat) (a0:ByteArray):Rs :=
 ((aZ.f k (ByteArray.size a0:Int) 1 8).bind fun r1 =>
 (some r1))
def f (k:Nat):=t k
end eO
namespace kx
abbrev Rs:Type:=Option (Bool × Unit)
def t (k:Nat) (a0:Ty.d bP):Rs :=
 ((aZ.f k a0.2.1 0 1000000).bind fun r1 =>
 (bif (!r1.1) then
 (some (false,()))
 else
 (bif (a0.2.1==0) then
 (bif (a0.1 != 5) then
 (some (false,()))
 else
 (bif (a0.1==1) then
 (bif (a0.1==1) then
 ((eO.f k a0.2.2.1).bind fun r2 =>
 (bif r2.1 then
 (bif (decide ((ByteArray.size a0.2.2.2.1:Int)≤24)) then
 (bif (a0.2.2.2.2.1==0) then
 (some ((a0.2.2.2.2.2.1==0),()))
 else
 (some (false,())))
 else
 (some (false,())))
 else
 (some (false,()))))
 else
 (bif (a0.1==2) then
 ((eO.f k a0.2.2.1).bind fun r3 =>
 (bif r3.1 then
 (bif (seq a0.2.2.2.1 (⟨#[]⟩:ByteArray)) then
 (bif (a0.2.2.2.2.1==0) then
 (some ((a0.2.2.2.2.2.1==0),()))
 else
 (some (false,())))
 else
 (some (false,())))
 else
 (some (false,()))))
 else
 (bif (a0.1==3) then
 (bif (seq a0.2.2.1 (⟨#[]⟩:ByteArray)) then
 (bif (seq a0.2.2.2.1 (⟨#[]⟩:ByteArray)) then
 ((aZ.f k a0.2.2.2.2.1 0 8).bind fun r4 =>
 (bif r4.1 then
 ((aZ.f k a0.2.2.2.2.2.1 0 4294967295).bind fun r5 =>
 (some r5))
 else
 (some (false,()))))
 else
 (some (false,())))
 else
 (some (false,())))
 else
 (bif (a0.1==5) then
 (bif (seq a0.2.2.1 (⟨#[]⟩:ByteArray)) then
 (bif (seq a0.2.2.2.1 (⟨#[]⟩:ByteArray)) then
 ((aZ.f k a0.2.2.2.2.1 0 20).bind fun r6 =>
 (bif r6.1 then
 ((aZ.f k a0.2.2.2.2.2.1 0 4294967295).bind fun r7 =>
 (some r7))
 else
 (some (false,()))))
 else
 (some (false,())))
 else
 (some (false,())))
 else
 (some (false,()))))))
 else
 (bif (a0.1==4) then
 ((eO.f k a0.2.2.1).bind fun r8 =>
 (bif r8.1 then
 (bif (decide ((ByteArray.size a0.2.2.2.1:Int)≤24)) then
 (bif (a0.2.2.2.2.1==0) then
 (some ((a0.2.2.2.2.2.1==0),()))
 else
 (some (false,())))
 else
 (some (false,())))
 else
 (some (false,()))))
 else
 (bif (a0.1==2) then
 ((eO.f k a0.2.2.1).bind fun r9 =>
 (bif r9.1 then
 (bif (seq a0.2.2.2.1 (⟨#[]⟩:ByteArray)) then
 (bif (a0.2.2.2.2.1==0) then
 (some ((a0.2.2.2.2.2.1==0),()))
 else
 (some (false,())))
 else
 (some (false,())))
 else
 (some (false,()))))
 else
 (bif (a0.1==3) then
 (bif (seq a0.2.2.1 (⟨#[]⟩:ByteArray)) then
 (bif (seq a0.2.2.2.1 (⟨#[]⟩:ByteArray)) then
 ((aZ.f k a0.2.2.2.2.1 0 8).bind fun r10 =>
 (bif r10.1 then
 ((aZ.f k a0.2.2.2.2.2.1 0 4294967295).bind fun r11 =>
 (some r11))
 else
 (some (false,()))))
 else
 (some (false,())))
 else
 (some (false,())))
 else
 (bif (a0.1==5) then
 (bif (seq a0.2.2.1 (⟨#[]⟩:ByteArray)) then
 (bif (seq a0.2.2.2.1 (⟨#[]⟩:ByteArray)) then
 ((aZ.f k a0.2.2.2.2.1 0 20).bind fun r12 =>
 (bif r12.1 then
 ((aZ.f k a0.2.2.2.2.2.1 0 4294967295).bind fun r13 =>
 (some r13))
 else
 (some (false,()))))
 else
 (some (false,())))
 else
 (some (false,())))
 else
 (some (false,()))))))))
 else
 (bif (a0.1==1) then
 (bif (a0.1==1) then
 ((eO.f k a0.2.2.1).bind fun r14 =>
 (bif r14.1 then
 (bif (decide ((ByteArray.size a0.2.2.2.1:Int)≤24)) then
 (bif (a0.2.2.2.2.1==0) then
 (some ((a0.2.2.2.2.2.1==0),()))
 else
 (some (false,())))
 else
 (some (false,())))
 else
 (some (false,()))))
 else
 (bif (a0.1==2) then
 ((eO.f k a0.2.2.1).bind fun r15 =>
 (bif r15.1 then
 (bif (seq a0.2.2.2.1 (⟨#[]⟩:ByteArray)) then
 (bif (a0.2.2.2.2.1==0) then
 (some ((a0.2.2.2.2.2.1==0),()))
 else
 (some (false,())))
 else
 (some (false,())))
 else
 (some (false,()))))
 else
 (bif (a0.1==3) then
 (bif (seq a0.2.2.1 (⟨#[]⟩:ByteArray)) then
 (bif (seq a0.2.2.2.1 (⟨#[]⟩:ByteArray)) then
 ((aZ.f k a0.2.2.2.2.1 0 8).bind fun r16 =>
 (bif r16.1 then
 ((aZ.f k a0.2.2.2.2.2.1 0 4294967295).bind fun r17 =>
 (some r17))
 else
 (some (false,()))))
 else
 (some (false,())))
 else
 (some (false,())))
 else
 (bif (a0.1==5) then
 (bif (seq a0.2.2.1 (⟨#[]⟩:ByteArray)) then
 (bif (seq a0.2.2.2.1 (⟨#[]⟩:ByteArray)) then
 ((aZ.f k a0.2.2.2.2.1 0 20).bind fun r18 =>
 (bif r18.1 then
 ((aZ.f k a0.2.2.2.2.2.1 0 4294967295).bind fun r19 =>
 (some r19))
 else
 (some (false,()))))
 else
 (some (false,())))
 else
 (some (false,())))
 else
 (some (false,()))))))
 else
 (bif (a0.1==4) then
 ((eO.f k a0.2.2.1).bind fun r20 =>
 (bif r20.1 then
 (bif (decide ((ByteArray.size a0.2.2.2.1:Int)≤24)) then
 (bif (a0.2.2.2.2.1==0) then
 (some ((a0.2.2.2.2.2.1==0),()))
 else
 (some (false,())))
 else
 (some (false,())))
 else
 (some (false,()))))
 else
 (bif (a0.1==2) then
 ((eO.f k a0.2.2.1).bind fun r21 =>
 (bif r21.1 then
 (bif (seq a0.2.2.2.1 (⟨#[]⟩:ByteArray)) then
 (bif (a0.2.2.2.2.1==0) then
 (some ((a0.2.2.2.2.2.1==0),()))
 else
 (some (false,())))
 else
 (some (false,())))
 else
 (some (false,()))))
 else
 (bif (a0.1==3) then
 (bif (seq a0.2.2.1 (⟨#[]⟩:ByteArray)) then
 (bif (seq a0.2.2.2.1 (⟨#[]⟩:ByteArray)) then
 ((aZ.f k a0.2.2.2.2.1 0 8).bind fun r22 =>
 (bif r22.1 then
 ((aZ.f k a0.2.2.2.2.2.1 0 4294967295).bind fun r23 =>
 (some r23))
 else
 (some (false,()))))
 else
 (some (false,())))
 else
 (some (false,())))
 else
 (bif (a0.1==5) then
 (bif (seq a0.2.2.1 (⟨#[]⟩:ByteArray)) then
 (bif (seq a0.2.2.2.1 (⟨#[]⟩:ByteArray)) then
 ((aZ.f k a0.2.2.2.2.1 0 20).bind fun r24 =>
 (bif r24.1 then
 ((aZ.f k a0.2.2.2.2.2.1 0 4294967295).bind fun r25 =>
 (some r25))
 else
 (some (false,()))))
 else
 (some (false,())))
 else
 (some (false,())))
 else
 (some (false,()))))))))))
def f (k:Nat):=t k
end kx
namespace bn
abbrev Rs:Type:=Option (ByteArray × Unit)
abbrev T0:Type:=Int→List Int→Rs
def b0 (k:Nat) (L0:T0):T0:=fun x0 x1 =>
 (bif (decide (x0≥128)) then
 (rm (Ty.bytes (.int .u8)) (List.length x1+1)
 (L0 (aF (Int.tdiv x0 128)) (x1++[(IntKind.wrap .u8 (aF (128+(Int.tmod x0 128))))])))
 else
 (rm (Ty.bytes (.int .u8)) (List.length x1+1)
 (some ((bytesOf (x1++[(IntKind.wrap .u8 x0)])),()))))
def l0 (k:Nat):Nat→T0
 | 0=>fun _ _=>none
 | n+1=>b0 k (l0 k n)
def t (k:Nat) (L0:T0) (a0:Int):Rs :=
 ((aZ.f k a0 0 562949953421311).bind fun r1 =>
 (bif (!r1.1) then
 (some ((⟨#[]⟩:ByteArray),()))
 else
 (L0 a0 [])))
def f (k:Nat):=t k (l0 k k)
end bn
namespace dU
abbrev Rs:Type:=Option (ByteArray × Unit)
abbrev T0:Type:=Int→Int→ByteArray→Int→Rs
def b0 (k:Nat) (L0:T0):T0:=fun x0 x1 x2 x3 =>
 (bif (decide (x3<x1)) then
 (kC (bytesOf [(IntKind.wrap .u8 (Int.tmod x0 256))]) x2
 (L0 (aF (Int.tdiv x0 256)) x1 ((bytesOf [(IntKind.wrap .u8 (Int.tmod x0 256))])++x2) (aF (x3+1))))
 else
 (bif (decide (x0 > 0)) then
 (some ((⟨#[]⟩:ByteArray),()))
 else
 (some (x2,()))))
def l0 (k:Nat):Nat→T0
 | 0=>fun _ _ _ _=>none
 | n+1=>b0 k (l0 k n)
def t (k:Nat) (L0:T0) (a0:Int) (a1:Int):Rs :=
 ((aZ.f k a1 1 7).bind fun r1 =>
 (bif (!r1.1) then
 (some ((⟨#[]⟩:ByteArray),()))
 else
 (bif (decide (a0<0)) then
 (some ((⟨#[]⟩:ByteArray),()))
 else
 (L0 a0 a1 (⟨#[]⟩:ByteArray) 0))))
def f (k:Nat):=t k (l0 k k)
end dU
namespace bL
abbrev Rs:Type:=Option (ByteArray × Unit)
def t (k:Nat) (a0:Ty.d bP):Rs :=
 ((kx.f k a0).bind fun r1 =>
 (bif (!r1.1) then
 (some ((⟨#[]⟩:ByteArray),()))
 else
 ((bn.f k a0.1).bind fun r2 =>
 ((bn.f k a0.2.1).bind fun r3 =>
 (kC r2.1 r3.1
 (bif (a0.1==1) then
 (bif (a0.1==1) then
 ((bn.f k (ByteArray.size a0.2.2.1:Int)).bind fun r4 =>
 (kC (r2.1++r3.1) r4.1
 (kC ((r2.1++r3.1)++r4.1) a0.2.2.1
 ((bn.f k (ByteArray.size a0.2.2.2.1:Int)).bind fun r5 =>
 (kC (((r2.1++r3.1)++r4.1)++a0.2.2.1) r5.1
 (kC ((((r2.1++r3.1)++r4.1)++a0.2.2.1)++r5.1) a0.2.2.2.1
 (some ((((((r2.1++r3.1)++r4.1)++a0.2.2.1)++r5.1)++a0.2.2.2.1),()))))))))
 else
 (bif (a0.1==2) then
 ((bn.f k (ByteArray.size a0.2.2.1:Int)).bind fun r6 =>
 (kC (r2.1++r3.1) r6.1
 (kC ((r2.1++r3.1)++r6.1) a0.2.2.1
 (some ((((r2.1++r3.1)++r6.1)++a0.2.2.1),())))))
 else
 ((bn.f k a0.2.2.2.2.1).bind fun r7 =>
 (kC (r2.1++r3.1) r7.1
 ((dU.f k a0.2.2.2.2.2.1 4).bind fun r8 =>
 (kC ((r2.1++r3.1)++r7.1) r8.1
 (some ((((r2.1++r3.1)++r7.1)++r8.1),()))))))))
 else
 (bif (a0.1==4) then
 ((bn.f k (ByteArray.size a0.2.2.1:Int)).bind fun r9 =>
 (kC (r2.1++r3.1) r9.1
 (kC ((r2.1++r3.1)++r9.1) a0.2.2.1
 ((bn.f k (ByteArray.size a0.2.2.2.1:Int)).bind fun r10 =>
 (kC (((r2.1++r3.1)++r9.1)++a0.2.2.1) r10.1
 (kC ((((r2.1++r3.1)++r9.1)++a0.2.2.1)++r10.1) a0.2.2.2.1
 (some ((((((r2.1++r3.1)++r9.1)++a0.2.2.1)++r10.1)++a0.2.2.2.1),()))))))))
 else
 (bif (a0.1==2) then
 ((bn.f k (ByteArray.size a0.2.2.1:Int)).bind fun r11 =>
 (kC (r2.1++r3.1) r11.1
 (kC ((r2.1++r3.1)++r11.1) a0.2.2.1
 (some ((((r2.1++r3.1)++r11.1)++a0.2.2.1),())))))
 else
 ((bn.f k a0.2.2.2.2.1).bind fun r12 =>
 (kC (r2.1++r3.1) r12.1
 ((dU.f k a0.2.2.2.2.2.1 4).bind fun r13 =>
 (kC ((r2.1++r3.1)++r12.1) r13.1
 (some ((((r2.1++r3.1)++r12.1)++r13.1),()))))))))))))))
def f (k:Nat):=t k
end bL
namespace gO
abbrev Rs:Type:=Option (Int × Unit)
abbrev T1:Type:=ByteArray→Int→Int→Int→Rs
abbrev T0:Type:=ByteArray→Int→Int→Rs
def b1 (k:Nat) (L0:T0) (L1:T1):T1:=fun x0 x1 x2 x3 =>
 (bif (decide (x3<8)) then
 (bif ((Int.tmod x1 2)==1) then
 (L1 x0 (aF (((BitVec.ofInt (IntKind.bits .i64) (aF (Int.tdiv x1 2)) ^^^ BitVec.ofInt (IntKind.bits .i64) 2197175160).toNat:Int))) x2 (aF (x3+1)))
 else
 (L1 x0 (aF (Int.tdiv x1 2)) x2 (aF (x3+1))))
 else
 (L0 x0 x1 (aF (x2+1))))
def l1 (k:Nat) (L0:T0):Nat→T1
 | 0=>fun _ _ _ _=>none
 | n+1=>b1 k L0 (l1 k L0 n)
def b0 (k:Nat) (L1:T1) (L0:T0):T0:=fun x0 x1 x2 =>
 (bif (decide (x2<(ByteArray.size x0:Int))) then
 (bW x2 (ByteArray.size x0:Int)
 (L1 x0 (aF (((BitVec.ofInt (IntKind.bits .i64) x1 ^^^ BitVec.ofInt (IntKind.bits .i64) (aF (dc x0 x2))).toNat:Int))) x2 0))
 else
 (some ((aF (4294967295-x1)),())))
def l0 (k:Nat):Nat→T0
 | 0=>fun _ _ _=>none
 | n+1=>b0 k (l1 k (l0 k n) k) (l0 k n)
def t (k:Nat) (L0:T0) (a0:ByteArray):Rs :=
 (L0 a0 4294967295 0)
def f (k:Nat):=t k (l0 k k)
end gO
namespace gG
abbrev Rs:Type:=Option (Int × Unit)
abbrev T0:Type:=List (Ty.d bP)→ByteArray→Int→Rs
def b0 (k:Nat) (L0:T0):T0:=fun x0 x1 x2 =>
 (bif (decide (x2<(x0.length:Int))) then
 (bW x2 (x0.length:Int)
 ((bL.f k (List.getD x0 (Int.toNat x2) (Ty.z bP))).bind fun r1 =>
 (kC x1 r1.1
 (L0 x0 (x1++r1.1) (aF (x2+1))))))
 else
 ((gO.f k x1).bind fun r2 =>
 (some r2)))
def l0 (k:Nat):Nat→T0
 | 0=>fun _ _ _=>none
 | n+1=>b0 k (l0 k n)
def t (k:Nat) (L0:T0) (a0:List (Ty.d bP)):Rs :=
 (L0 a0 (⟨#[]⟩:ByteArray) 0)
def f (k:Nat):=t k (l0 k k)
end gG
namespace er
abbrev Rs:Type:=Option ((Ty.d bP) × Unit)
def t (k:Nat) (a0:List (Ty.d bP)) (a1:Int) (a2:Int):Rs :=
 ((gG.f k a0).bind fun r1 =>
 (some ((a2,(a1,(ByteArray.empty,(ByteArray.empty,((List.length a0:Int),r1))))),())))
def f (k:Nat):=t k
end er
namespace ac
abbrev Rs:Type:=Option ((Ty.d ag) × (List (Ty.d aD)) × Unit)
abbrev T4:Type:=Int→Int→Int→Int→List Int→Int→Int→List (Ty.d aD)→List (Ty.d bP)→Rs
abbrev T3:Type:=Int→Int→Int→Int→List Int→Int→Int→List (Ty.d aD)→List (Ty.d bP)→Rs
abbrev T2:Type:=Int→Int→Int→List Int→Int→Int→List (Ty.d aD)→Rs
abbrev T1:Type:=Int→Int→Int→List Int→Int→Int→List (Ty.d aD)→List (Ty.d bP)→Rs
abbrev T0:Type:=Int→Int→Int→List Int→Int→Int→List (Ty.d aD)→List (Ty.d bP)→Rs
def b4 (k:Nat) (L2:T2) (L4:T4):T4:=fun x0 x1 x2 x3 x4 x5 x6 x7 x8 =>
 (bif (decide (x3<(x8.length:Int))) then
 (bW x3 (x8.length:Int)
 (rm (Ty.bytes aD) (List.length x7+1)
 (L4 x0 x1 x2 (aF (x3+1)) x4 x5 x6 (x7++[(x0,((aF (20*(x7.length:Int))),(20,((List.getD x8 (Int.toNat x3) (Ty.z bP)),()))))]) x8)))
 else
 ((er.f k x8 x1 3).bind fun r14 =>
 ((aI.f k (x4,(x5,(x6,()))) 8).bind fun r15 =>
 (bif (r15.2.1==0) then
 (L2 x0 x1 (aF (x2-1)) r15.1.1 r15.1.2.1 r15.1.2.2.1 x7)
 else
 (bif (r15.2.1==1) then
 (rm (Ty.bytes aD) (List.length x7+1)
 ((bD.f k r15.1 4).bind fun r16 =>
 (bif r16.2.1 then
 (L2 (aF (x0+1)) x1 (aF (x2-1)) r16.1.1 r16.1.2.1 r16.1.2.2.1 (x7++[(x0,((aF (20*(x7.length:Int))),(20,((r14.1.1,(r14.1.2.1,(r14.1.2.2.1,(r14.1.2.2.2.1,(r14.1.2.2.2.2.1,(7,())))))),()))))]))
 else
 (L2 x0 x1 (aF (x2-1)) r16.1.1 r16.1.2.1 r16.1.2.2.1 (x7++[(x0,((aF (20*(x7.length:Int))),(20,((r14.1.1,(r14.1.2.1,(r14.1.2.2.1,(r14.1.2.2.2.1,(r14.1.2.2.2.2.1,(7,())))))),()))))])))))
 else
 (rm (Ty.bytes aD) (List.length x7+1)
 ((bD.f k r15.1 4).bind fun r17 =>
 (bif r17.2.1 then
 (L2 (aF (x0+1)) x1 (aF (x2-1)) r17.1.1 r17.1.2.1 r17.1.2.2.1 (x7++[(x0,((aF (20*(x7.length:Int))),(20,r14)))]))
 else
 (L2 x0 x1 (aF (x2-1)) r17.1.1 r17.1.2.1 r17.1.2.2.1 (x7++[(x0,((aF (20*(x7.length:Int))),(20,r14)))]))))))))))
def l4 (k:Nat) (L2:T2):Nat→T4
 | 0=>fun _ _ _ _ _ _ _ _ _=>none
 | n+1=>b4 k L2 (l4 k L2 n)
def b3 (k:Nat) (L4:T4) (L2:T2) (L3:T3):T3:=fun x0 x1 x2 x3 x4 x5 x6 x7 x8 =>
 (bif (decide (x3 > 0)) then
 ((eP.f k (x4,(x5,(x6,())))).bind fun r10 =>
 ((bE.f k r10.1 4).bind fun r11 =>
 ((bD.f k r11.1 3).bind fun r12 =>
 (bif r12.2.1 then
 ((eP.f k r12.1).bind fun r13 =>
 (rm (Ty.bytes bP) (List.length x8+1)
 (L3 x0 x1 x2 (aF (x3-1)) r13.1.1 r13.1.2.1 r13.1.2.2.1 x7 (x8++[(2,(x1,(r13.2.1,(ByteArray.empty,(0,(0,()))))))]))))
 else
 (rm (Ty.bytes bP) (List.length x8+1)
 (L3 x0 x1 x2 (aF (x3-1)) r12.1.1 r12.1.2.1 r12.1.2.2.1 x7 (x8++[(1,(x1,(r10.2.1,(r11.2.1,(0,(0,()))))))])))))))
 else
 (L4 x0 x1 x2 0 x4 x5 x6 x7 x8))
def l3 (k:Nat) (L2:T2):Nat→T3
 | 0=>fun _ _ _ _ _ _ _ _ _=>none
 | n+1=>b3 k (l4 k L2 k) L2 (l3 k L2 n)
def b2 (k:Nat) (L3:T3) (L2:T2):T2:=fun x0 x1 x2 x3 x4 x5 x6 =>
 (bif (decide (x2 > 0)) then
 ((aI.f k (x3,(x4,(x5,()))) 2).bind fun r8 =>
 ((aI.f k r8.1 4).bind fun r9 =>
 (L3 x0 (aF ((aF (x1+1))+r8.2.1)) x2 r9.2.1 r9.1.1 r9.1.2.1 r9.1.2.2.1 x6 [])))
 else
 (some ((x3,(x4,(x5,()))),(x6,()))))
def l2 (k:Nat):Nat→T2
 | 0=>fun _ _ _ _ _ _ _=>none
 | n+1=>b2 k (l3 k (l2 k n) k) (l2 k n)
def b1 (k:Nat) (L2:T2) (L1:T1):T1:=fun x0 x1 x2 x3 x4 x5 x6 x7 =>
 (bif (decide (x2<(x7.length:Int))) then
 (bW x2 (x7.length:Int)
 (rm (Ty.bytes aD) (List.length x6+1)
 (L1 x0 x1 (aF (x2+1)) x3 x4 x5 (x6++[(x0,((aF (20*(x6.length:Int))),(20,((List.getD x7 (Int.toNat x2) (Ty.z bP)),()))))]) x7)))
 else
 ((bD.f k (x3,(x4,(x5,()))) 8).bind fun r5 =>
 (bif (!r5.2.1) then
 ((er.f k x7 x1 5).bind fun r6 =>
 (rm (Ty.bytes aD) (List.length x6+1)
 ((aI.f k r5.1 5).bind fun r7 =>
 (L2 2 x1 r7.2.1 r7.1.1 r7.1.2.1 r7.1.2.2.1 (x6++[(x0,((aF (20*(x6.length:Int))),(20,r6)))])))))
 else
 ((aI.f k r5.1 5).bind fun r18 =>
 (L2 2 x1 r18.2.1 r18.1.1 r18.1.2.1 r18.1.2.2.1 x6)))))
def l1 (k:Nat):Nat→T1
 | 0=>fun _ _ _ _ _ _ _ _=>none
 | n+1=>b1 k (l2 k k) (l1 k n)
def b0 (k:Nat) (L1:T1) (L0:T0):T0:=fun x0 x1 x2 x3 x4 x5 x6 x7 =>
 (bif (decide (x2 > 0)) then
 ((eP.f k (x3,(x4,(x5,())))).bind fun r3 =>
 ((bE.f k r3.1 4).bind fun r4 =>
 (rm (Ty.bytes bP) (List.length x7+1)
 (L0 x0 (aF (x1+1)) (aF (x2-1)) r4.1.1 r4.1.2.1 r4.1.2.2.1 x6 (x7++[(4,((aF (x1+1)),(r3.2.1,(r4.2.1,(0,(0,()))))))])))))
 else
 (L1 x0 x1 0 x3 x4 x5 x6 x7))
def l0 (k:Nat):Nat→T0
 | 0=>fun _ _ _ _ _ _ _ _=>none
 | n+1=>b0 k (l1 k k) (l0 k n)
def t (k:Nat) (L0:T0) (L2:T2) (a0:Ty.d ag):Rs :=
 ((bD.f k a0 3).bind fun r1 =>
 (bif r1.2.1 then
 ((aI.f k r1.1 3).bind fun r2 =>
 (L0 1 0 r2.2.1 r2.1.1 r2.1.2.1 r2.1.2.2.1 [] []))
 else
 ((aI.f k r1.1 5).bind fun r19 =>
 (L2 1 0 r19.2.1 r19.1.1 r19.1.2.1 r19.1.2.2.1 []))))
def f (k:Nat):=t k (l0 k k) (l2 k k)
end ac
namespace d8
abbrev Rs:Type:=Option (ByteArray × Unit)
def t (k:Nat) (a0:ByteArray):Rs :=
 (bif (decide ((ByteArray.size a0:Int) > 200)) then
 (some ((⟨#[]⟩:ByteArray),()))
 else
 ((bn.f k (ByteArray.size a0:Int)).bind fun r1 =>
 (kC r1.1 a0
 ((gO.f k (r1.1++a0)).bind fun r2 =>
 ((dU.f k r2.1 4).bind fun r3 =>
 (kC r3.1 (r1.1++a0)
 (some ((r3.1++(r1.1++a0)),()))))))))
def f (k:Nat):=t k
end d8
namespace fY
abbrev Rs:Type:=Option ((Ty.d ag) × ByteArray × Unit)
def t (k:Nat) (a0:Ty.d ag) (a1:ByteArray):Rs :=
 (bif ((ByteArray.size a1:Int)==0) then
 ((bE.f k a0 3).bind fun r1 =>
 (some r1))
 else
 ((aI.f k a0 (ByteArray.size a1:Int)).bind fun r2 =>
 ((aI.f k r2.1 4).bind fun r3 =>
 (bif (r3.2.1==0) then
 (mR r2.2.1 (ByteArray.size a1:Int)
 (mR (aF (r2.2.1+1)) (ByteArray.size a1:Int)
 (kC (ByteArray.extract a1 0 (Int.toNat r2.2.1)) (ByteArray.extract a1 (Int.toNat (aF (r2.2.1+1))) (ByteArray.size a1))
 (some (r3.1,(((ByteArray.extract a1 0 (Int.toNat r2.2.1))++(ByteArray.extract a1 (Int.toNat (aF (r2.2.1+1))) (ByteArray.size a1))),()))))))
 else
 (bif (r3.2.1==1) then
 (mR r2.2.1 (ByteArray.size a1:Int)
 ((dj.f k r3.1).bind fun r4 =>
 (kC (ByteArray.extract a1 0 (Int.toNat r2.2.1)) (bytesOf [(IntKind.wrap .u8 r4.2.1)])
 (mR r2.2.1 (ByteArray.size a1:Int)
 (kC ((ByteArray.extract a1 0 (Int.toNat r2.2.1))++(bytesOf [(IntKind.wrap .u8 r4.2.1)])) (ByteArray.extract a1 (Int.toNat r2.2.1) (ByteArray.size a1))
 (some (r4.1,((((ByteArray.extract a1 0 (Int.toNat r2.2.1))++(bytesOf [(IntKind.wrap .u8 r4.2.1)]))++(ByteArray.extract a1 (Int.toNat r2.2.1) (ByteArray.size a1))),()))))))))
 else
 (bif (r3.2.1==2) then
 (mR r2.2.1 (ByteArray.size a1:Int)
 (some (r3.1,((ByteArray.extract a1 0 (Int.toNat r2.2.1)),()))))
 else
 (mR r2.2.1 (ByteArray.size a1:Int)
 (bW r2.2.1 (ByteArray.size a1:Int)
 ((aI.f k r3.1 255).bind fun r5 =>
 (kC (ByteArray.extract a1 0 (Int.toNat r2.2.1)) (bytesOf [(IntKind.wrap .u8 (aF (((BitVec.ofInt (IntKind.bits .i64) (aF (dc a1 r2.2.1)) ^^^ BitVec.ofInt (IntKind.bits .i64) (aF (1+r5.2.1))).toNat:Int))))])
 (mR (aF (r2.2.1+1)) (ByteArray.size a1:Int)
 (kC ((ByteArray.extract a1 0 (Int.toNat r2.2.1))++(bytesOf [(IntKind.wrap .u8 (aF (((BitVec.ofInt (IntKind.bits .i64) (aF (dc a1 r2.2.1)) ^^^ BitVec.ofInt (IntKind.bits .i64) (aF (1+r5.2.1))).toNat:Int))))])) (ByteArray.extract a1 (Int.toNat (aF (r2.2.1+1))) (ByteArray.size a1))
 (some (r5.1,((((ByteArray.extract a1 0 (Int.toNat r2.2.1))++(bytesOf [(IntKind.wrap .u8 (aF (((BitVec.ofInt (IntKind.bits .i64) (aF (dc a1 r2.2.1)) ^^^ BitVec.ofInt (IntKind.bits .i64) (aF (1+r5.2.1))).toNat:Int))))]))++(ByteArray.extract a1 (Int.toNat (aF (r2.2.1+1))) (ByteArray.size a1))),())))))))))))))))
def f (k:Nat):=t k
end fY
namespace dt
abbrev Rs:Type:=Option ((Ty.d ag) × ByteArray × Unit)
abbrev T0:Type:=ByteArray→Int→List Int→Int→Int→List (Ty.d bP)→List ByteArray→Rs
def b0 (k:Nat) (L0:T0):T0:=fun x0 x1 x2 x3 x4 x5 x6 =>
 (bif (decide (x1<(x6.length:Int))) then
 ((bD.f k (x2,(x3,(x4,()))) 2).bind fun r1 =>
 (bif r1.2.1 then
 ((aI.f k r1.1 9).bind fun r2 =>
 (bW x1 (x6.length:Int)
 ((bE.f k r2.1 6).bind fun r3 =>
 (rm (Ty.bytes bP) (List.length x5+1)
 ((bL.f k (4,((aF (1+r2.2.1)),((List.getD x6 (Int.toNat x1) (Ty.z .str)),(r3.2.1,(0,(0,()))))))).bind fun r4 =>
 ((d8.f k r4.1).bind fun r5 =>
 (kC x0 r5.1
 (L0 (x0++r5.1) (aF (x1+1)) r3.1.1 r3.1.2.1 r3.1.2.2.1 (x5++[(4,((aF (1+r2.2.1)),((List.getD x6 (Int.toNat x1) (Ty.z .str)),(r3.2.1,(0,(0,()))))))]) x6))))))))
 else
 (L0 x0 (aF (x1+1)) r1.1.1 r1.1.2.1 r1.1.2.2.1 x5 x6)))
 else
 ((aI.f k (x2,(x3,(x4,()))) 3).bind fun r6 =>
 ((er.f k x5 (aF (9+r6.2.1)) 5).bind fun r7 =>
 ((bD.f k r6.1 10).bind fun r8 =>
 (bif r8.2.1 then
 ((bL.f k (r7.1.1,(2,r7.1.2.2))).bind fun r9 =>
 ((d8.f k r9.1).bind fun r10 =>
 (kC x0 r10.1
 ((bD.f k r8.1 8).bind fun r11 =>
 (bif r11.2.1 then
 ((fY.f k r11.1 (x0++r10.1)).bind fun r12 =>
 (some r12))
 else
 (some (r11.1,((x0++r10.1),()))))))))
 else
 ((bL.f k r7.1).bind fun r13 =>
 ((d8.f k r13.1).bind fun r14 =>
 (kC x0 r14.1
 ((bD.f k r8.1 8).bind fun r15 =>
 (bif r15.2.1 then
 ((fY.f k r15.1 (x0++r14.1)).bind fun r16 =>
 (some r16))
 else
 (some (r15.1,((x0++r14.1),())))))))))))))
def l0 (k:Nat):Nat→T0
 | 0=>fun _ _ _ _ _ _ _=>none
 | n+1=>b0 k (l0 k n)
def t (k:Nat) (L0:T0) (a0:Ty.d ag):Rs :=
 (L0 (⟨#[]⟩:ByteArray) 0 a0.1 a0.2.1 a0.2.2.1 [] [(⟨#[97]⟩:ByteArray),(⟨#[98]⟩:ByteArray),(⟨#[99]⟩:ByteArray),(⟨#[107,101,121]⟩:ByteArray)])
def f (k:Nat):=t k (l0 k k)
end dt
namespace da
abbrev Rs:Type:=Option (ByteArray × Unit)
abbrev T0:Type:=Int→ByteArray→Bool→Rs
def b0 (k:Nat) (L0:T0):T0:=fun x0 x1 x2 =>
 (bif (x0 != 0) then
 (bif (decide ((Int.tmod x0 10)<0)) then
 (kC (bytesOf [(IntKind.wrap .u8 (aF (48+(aF (0-(Int.tmod x0 10))))))]) x1
 (L0 (aF (Int.tdiv x0 10)) ((bytesOf [(IntKind.wrap .u8 (aF (48+(aF (0-(Int.tmod x0 10))))))])++x1) x2))
 else
 (kC (bytesOf [(IntKind.wrap .u8 (aF (48+(Int.tmod x0 10))))]) x1
 (L0 (aF (Int.tdiv x0 10)) ((bytesOf [(IntKind.wrap .u8 (aF (48+(Int.tmod x0 10))))])++x1) x2)))
 else
 (bif x2 then
 (kC (⟨#[45]⟩:ByteArray) x1
 (some (((⟨#[45]⟩:ByteArray)++x1),())))
 else
 (some (x1,()))))
def l0 (k:Nat):Nat→T0
 | 0=>fun _ _ _=>none
 | n+1=>b0 k (l0 k n)
def t (k:Nat) (L0:T0) (a0:Int):Rs :=
 (bif (a0==0) then
 (some ((⟨#[48]⟩:ByteArray),()))
 else
 (L0 a0 (⟨#[]⟩:ByteArray) (decide (a0<0))))
def f (k:Nat):=t k (l0 k k)
end da
namespace aV
abbrev Rs:Type:=Option (ByteArray × Unit)
def t (k:Nat) (a0:Int):Rs :=
 ((aZ.f k a0 1 100000).bind fun r1 =>
 (bif (!r1.1) then
 (some ((⟨#[]⟩:ByteArray),()))
 else
 ((da.f k a0).bind fun r2 =>
 (kC (⟨#[115,101,103]⟩:ByteArray) r2.1
 (some (((⟨#[115,101,103]⟩:ByteArray)++r2.1),()))))))
def f (k:Nat):=t k
end aV
namespace b_
abbrev Rs:Type:=Option ((List (Ty.d aB)) × Unit)
abbrev T0:Type:=List (Ty.d aB)→Bool→Int→ByteArray→ByteArray→Int→List (Ty.d aB)→Rs
def b0 (k:Nat) (L0:T0):T0:=fun x0 x1 x2 x3 x4 x5 x6 =>
 (bif (decide (x2<(x0.length:Int))) then
 (bif (!x1) then
 (bW x2 (x0.length:Int)
 (bif (!((nO (List.getD x0 (Int.toNat x2) (Ty.z aB)).1 x3)||(seq (List.getD x0 (Int.toNat x2) (Ty.z aB)).1 x3))) then
 (rm (Ty.bytes aB) (List.length x6+1)
 (bW x2 (x0.length:Int)
 (rm (Ty.bytes aB) (List.length (x6++[(x3,(x4,(x5,())))])+1)
 (L0 x0 true (aF (x2+1)) x3 x4 x5 ((x6++[(x3,(x4,(x5,())))])++[(List.getD x0 (Int.toNat x2) (Ty.z aB))])))))
 else
 (bW x2 (x0.length:Int)
 (rm (Ty.bytes aB) (List.length x6+1)
 (L0 x0 x1 (aF (x2+1)) x3 x4 x5 (x6++[(List.getD x0 (Int.toNat x2) (Ty.z aB))]))))))
 else
 (bW x2 (x0.length:Int)
 (rm (Ty.bytes aB) (List.length x6+1)
 (L0 x0 x1 (aF (x2+1)) x3 x4 x5 (x6++[(List.getD x0 (Int.toNat x2) (Ty.z aB))])))))
 else
 (bif (!x1) then
 (rm (Ty.bytes aB) (List.length x6+1)
 (some ((x6++[(x3,(x4,(x5,())))]),())))
 else
 (some (x6,()))))
def l0 (k:Nat):Nat→T0
 | 0=>fun _ _ _ _ _ _ _=>none
 | n+1=>b0 k (l0 k n)
def t (k:Nat) (L0:T0) (a0:List (Ty.d aB)) (a1:Ty.d aB):Rs :=
 (L0 a0 false 0 a1.1 a1.2.1 a1.2.2.1 [])
def f (k:Nat):=t k (l0 k k)
end b_
namespace am
abbrev Rs:Type:=Option (Int × Int × Unit)
abbrev T1:Type:=ByteArray→Int→Int→Int→Rs
abbrev T0:Type:=ByteArray→Int→Rs
def b1 (k:Nat) (L0:T0) (L1:T1):T1:=fun x0 x1 x2 x3 =>
 (bif (decide (x3≥0)) then
 (bW x3 (ByteArray.size x0:Int)
 (L1 x0 x1 (aF ((aF (x2*128))+(Int.tmod (aF (dc x0 x3)) 128))) (aF (x3-1))))
 else
 ((bn.f k x2).bind fun r1 =>
 (mR x1 (ByteArray.size x0:Int)
 (bif (seq r1.1 (ByteArray.extract x0 0 (Int.toNat x1))) then
 (some (x2,(x1,())))
 else
 (L0 x0 (aF (x1+1)))))))
def l1 (k:Nat) (L0:T0):Nat→T1
 | 0=>fun _ _ _ _=>none
 | n+1=>b1 k L0 (l1 k L0 n)
def b0 (k:Nat) (L1:T1) (L0:T0):T0:=fun x0 x1 =>
 (bif (decide (x1≤7)) then
 (bif (decide (x1≤(ByteArray.size x0:Int))) then
 (L1 x0 x1 0 (aF (x1-1)))
 else
 (some (0,(0,()))))
 else
 (some (0,(0,()))))
def l0 (k:Nat):Nat→T0
 | 0=>fun _ _=>none
 | n+1=>b0 k (l1 k (l0 k n) k) (l0 k n)
def t (k:Nat) (L0:T0) (a0:ByteArray):Rs :=
 (L0 a0 1)
def f (k:Nat):=t k (l0 k k)
end am
namespace dm
abbrev Rs:Type:=Option (ByteArray × Int × Unit)
def t (k:Nat) (a0:ByteArray):Rs :=
 (bif (decide ((ByteArray.size a0:Int)<5)) then
 (some ((⟨#[]⟩:ByteArray),(0,())))
 else
 (mR 4 (ByteArray.size a0:Int)
 ((am.f k (ByteArray.extract a0 4 (ByteArray.size a0))).bind fun r1 =>
 (bif (r1.2.1==0) then
 (some ((⟨#[]⟩:ByteArray),(0,())))
 else
 (bif (decide (r1.1 > 200)) then
 (some ((⟨#[]⟩:ByteArray),(0,())))
 else
 (bif (decide (r1.1 > (aF ((aF ((ByteArray.size a0:Int)-4))-r1.2.1)))) then
 (some ((⟨#[]⟩:ByteArray),(0,())))
 else
 (FQ (aF (4+r1.2.1)) (aF ((aF (4+r1.2.1))+r1.1)) (ByteArray.size a0:Int)
 (mR (aF ((aF (4+r1.2.1))+r1.1)) (ByteArray.size a0:Int)
 ((d8.f k (ByteArray.extract a0 (Int.toNat (aF (4+r1.2.1))) (Int.toNat (aF ((aF (4+r1.2.1))+r1.1))))).bind fun r2 =>
 (bif (!(seq (ByteArray.extract a0 0 (Int.toNat (aF ((aF (4+r1.2.1))+r1.1)))) r2.1)) then
 (some ((⟨#[]⟩:ByteArray),(0,())))
 else
 (some ((ByteArray.extract a0 (Int.toNat (aF (4+r1.2.1))) (Int.toNat (aF ((aF (4+r1.2.1))+r1.1)))),((aF ((aF (4+r1.2.1))+r1.1)),())))))))))))))
def f (k:Nat):=t k
end dm
namespace cY
abbrev Rs:Type:=Option (ByteArray × ByteArray × Bool × Unit)
def t (k:Nat) (a0:ByteArray):Rs :=
 ((am.f k a0).bind fun r1 =>
 (bif (r1.2.1==0) then
 (some ((⟨#[]⟩:ByteArray),((⟨#[]⟩:ByteArray),(false,()))))
 else
 (bif (decide (r1.1 > (aF ((ByteArray.size a0:Int)-r1.2.1)))) then
 (some ((⟨#[]⟩:ByteArray),((⟨#[]⟩:ByteArray),(false,()))))
 else
 (FQ r1.2.1 (aF (r1.2.1+r1.1)) (ByteArray.size a0:Int)
 (mR (aF (r1.2.1+r1.1)) (ByteArray.size a0:Int)
 (some ((ByteArray.extract a0 (Int.toNat r1.2.1) (Int.toNat (aF (r1.2.1+r1.1)))),((ByteArray.extract a0 (Int.toNat (aF (r1.2.1+r1.1))) (ByteArray.size a0)),(true,())))))))))
def f (k:Nat):=t k
end cY
namespace bj
abbrev Rs:Type:=Option (Int × Bool × Unit)
abbrev T0:Type:=ByteArray→Int→Int→Int→Rs
def b0 (k:Nat) (L0:T0):T0:=fun x0 x1 x2 x3 =>
 (bif (decide (x3<x1)) then
 (bW x3 (ByteArray.size x0:Int)
 (L0 x0 x1 (aF ((aF (x2*256))+(aF (dc x0 x3)))) (aF (x3+1))))
 else
 (some (x2,(true,()))))
def l0 (k:Nat):Nat→T0
 | 0=>fun _ _ _ _=>none
 | n+1=>b0 k (l0 k n)
def t (k:Nat) (L0:T0) (a0:ByteArray) (a1:Int):Rs :=
 ((aZ.f k a1 1 7).bind fun r1 =>
 (bif (!r1.1) then
 (some (0,(false,())))
 else
 (bif (decide ((ByteArray.size a0:Int)<a1)) then
 (some (0,(false,())))
 else
 (L0 a0 a1 0 0))))
def f (k:Nat):=t k (l0 k k)
end bj
namespace eS
abbrev Rs:Type:=Option ((Ty.d bP) × Bool × Unit)
def t (k:Nat) (a0:ByteArray):Rs :=
 ((am.f k a0).bind fun r1 =>
 (mR r1.2.1 (ByteArray.size a0:Int)
 ((am.f k (ByteArray.extract a0 (Int.toNat r1.2.1) (ByteArray.size a0))).bind fun r2 =>
 (bif (r1.2.1==0) then
 (some ((0,(0,(ByteArray.empty,(ByteArray.empty,(0,(0,())))))),(false,())))
 else
 (bif (r2.2.1==0) then
 (some ((0,(0,(ByteArray.empty,(ByteArray.empty,(0,(0,())))))),(false,())))
 else
 (mR (aF (r1.2.1+r2.2.1)) (ByteArray.size a0:Int)
 (bif (r1.1==1) then
 (bif (r1.1==1) then
 ((cY.f k (ByteArray.extract a0 (Int.toNat (aF (r1.2.1+r2.2.1))) (ByteArray.size a0))).bind fun r3 =>
 ((cY.f k r3.2.1).bind fun r4 =>
 ((bL.f k (r1.1,(r2.1,(r3.1,(r4.1,(0,(0,()))))))).bind fun r5 =>
 (bif (!(seq r5.1 a0)) then
 (some ((0,(0,(ByteArray.empty,(ByteArray.empty,(0,(0,())))))),(false,())))
 else
 (bif (seq a0 (⟨#[]⟩:ByteArray)) then
 (some ((0,(0,(ByteArray.empty,(ByteArray.empty,(0,(0,())))))),(false,())))
 else
 (some ((r1.1,(r2.1,(r3.1,(r4.1,(0,(0,())))))),(true,()))))))))
 else
 (bif (r1.1==2) then
 ((cY.f k (ByteArray.extract a0 (Int.toNat (aF (r1.2.1+r2.2.1))) (ByteArray.size a0))).bind fun r6 =>
 ((bL.f k (r1.1,(r2.1,(r6.1,(ByteArray.empty,(0,(0,()))))))).bind fun r7 =>
 (bif (!(seq r7.1 a0)) then
 (some ((0,(0,(ByteArray.empty,(ByteArray.empty,(0,(0,())))))),(false,())))
 else
 (bif (seq a0 (⟨#[]⟩:ByteArray)) then
 (some ((0,(0,(ByteArray.empty,(ByteArray.empty,(0,(0,())))))),(false,())))
 else
 (some ((r1.1,(r2.1,(r6.1,(ByteArray.empty,(0,(0,())))))),(true,())))))))
 else
 ((am.f k (ByteArray.extract a0 (Int.toNat (aF (r1.2.1+r2.2.1))) (ByteArray.size a0))).bind fun r8 =>
 (mR r8.2.1 (ByteArray.size (ByteArray.extract a0 (Int.toNat (aF (r1.2.1+r2.2.1))) (ByteArray.size a0)):Int)
 ((bj.f k (ByteArray.extract (ByteArray.extract a0 (Int.toNat (aF (r1.2.1+r2.2.1))) (ByteArray.size a0)) (Int.toNat r8.2.1) (ByteArray.size (ByteArray.extract a0 (Int.toNat (aF (r1.2.1+r2.2.1))) (ByteArray.size a0)))) 4).bind fun r9 =>
 ((bL.f k (r1.1,(r2.1,(ByteArray.empty,(ByteArray.empty,(r8.1,(r9.1,()))))))).bind fun r10 =>
 (bif (!(seq r10.1 a0)) then
 (some ((0,(0,(ByteArray.empty,(ByteArray.empty,(0,(0,())))))),(false,())))
 else
 (bif (seq a0 (⟨#[]⟩:ByteArray)) then
 (some ((0,(0,(ByteArray.empty,(ByteArray.empty,(0,(0,())))))),(false,())))
 else
 (some ((r1.1,(r2.1,(ByteArray.empty,(ByteArray.empty,(r8.1,(r9.1,())))))),(true,())))))))))))
 else
 (bif (r1.1==4) then
 ((cY.f k (ByteArray.extract a0 (Int.toNat (aF (r1.2.1+r2.2.1))) (ByteArray.size a0))).bind fun r11 =>
 ((cY.f k r11.2.1).bind fun r12 =>
 ((bL.f k (r1.1,(r2.1,(r11.1,(r12.1,(0,(0,()))))))).bind fun r13 =>
 (bif (!(seq r13.1 a0)) then
 (some ((0,(0,(ByteArray.empty,(ByteArray.empty,(0,(0,())))))),(false,())))
 else
 (bif (seq a0 (⟨#[]⟩:ByteArray)) then
 (some ((0,(0,(ByteArray.empty,(ByteArray.empty,(0,(0,())))))),(false,())))
 else
 (some ((r1.1,(r2.1,(r11.1,(r12.1,(0,(0,())))))),(true,()))))))))
 else
 (bif (r1.1==2) then
 ((cY.f k (ByteArray.extract a0 (Int.toNat (aF (r1.2.1+r2.2.1))) (ByteArray.size a0))).bind fun r14 =>
 ((bL.f k (r1.1,(r2.1,(r14.1,(ByteArray.empty,(0,(0,()))))))).bind fun r15 =>
 (bif (!(seq r15.1 a0)) then
 (some ((0,(0,(ByteArray.empty,(ByteArray.empty,(0,(0,())))))),(false,())))
 else
 (bif (seq a0 (⟨#[]⟩:ByteArray)) then
 (some ((0,(0,(ByteArray.empty,(ByteArray.empty,(0,(0,())))))),(false,())))
 else
 (some ((r1.1,(r2.1,(r14.1,(ByteArray.empty,(0,(0,())))))),(true,())))))))
 else
 ((am.f k (ByteArray.extract a0 (Int.toNat (aF (r1.2.1+r2.2.1))) (ByteArray.size a0))).bind fun r16 =>
 (mR r16.2.1 (ByteArray.size (ByteArray.extract a0 (Int.toNat (aF (r1.2.1+r2.2.1))) (ByteArray.size a0)):Int)
 ((bj.f k (ByteArray.extract (ByteArray.extract a0 (Int.toNat (aF (r1.2.1+r2.2.1))) (ByteArray.size a0)) (Int.toNat r16.2.1) (ByteArray.size (ByteArray.extract a0 (Int.toNat (aF (r1.2.1+r2.2.1))) (ByteArray.size a0)))) 4).bind fun r17 =>
 ((bL.f k (r1.1,(r2.1,(ByteArray.empty,(ByteArray.empty,(r16.1,(r17.1,()))))))).bind fun r18 =>
 (bif (!(seq r18.1 a0)) then
 (some ((0,(0,(ByteArray.empty,(ByteArray.empty,(0,(0,())))))),(false,())))
 else
 (bif (seq a0 (⟨#[]⟩:ByteArray)) then
 (some ((0,(0,(ByteArray.empty,(ByteArray.empty,(0,(0,())))))),(false,())))
 else
 (some ((r1.1,(r2.1,(ByteArray.empty,(ByteArray.empty,(r16.1,(r17.1,())))))),(true,()))))))))))))))))))
def f (k:Nat):=t k
end eS
namespace bg
abbrev Rs:Type:=Option ((List (Ty.d bM)) × Int × Unit)
abbrev T0:Type:=ByteArray→Int→List (Ty.d bM)→Rs
def b0 (k:Nat) (L0:T0):T0:=fun x0 x1 x2 =>
 (bif (decide (x1<(ByteArray.size x0:Int))) then
 (mR x1 (ByteArray.size x0:Int)
 ((dm.f k (ByteArray.extract x0 (Int.toNat x1) (ByteArray.size x0))).bind fun r1 =>
 ((eS.f k r1.1).bind fun r2 =>
 (bif (r1.2.1==0) then
 (some (x2,(x1,())))
 else
 (bif (!r2.2.1) then
 (some (x2,(x1,())))
 else
 (rm (Ty.bytes bM) (List.length x2+1)
 (L0 x0 (aF (x1+r1.2.1)) (x2++[(x1,(r1.2.1,(r2.1,())))]))))))))
 else
 (some (x2,(x1,()))))
def l0 (k:Nat):Nat→T0
 | 0=>fun _ _ _=>none
 | n+1=>b0 k (l0 k n)
def t (k:Nat) (L0:T0) (a0:ByteArray):Rs :=
 (L0 a0 0 [])
def f (k:Nat):=t k (l0 k k)
end bg
namespace d5
abbrev Rs:Type:=Option ((Ty.d di) × Bool × Unit)
abbrev T0:Type:=Int→Int→List (Ty.d aA)→Int→Int→List (Ty.d bM)→List (Ty.d aA)→Int→Int→List (Ty.d bP)→Rs
def b0 (k:Nat) (L0:T0):T0:=fun x0 x1 x2 x3 x4 x5 x6 x7 x8 x9 =>
 (bif (decide ((aF (x1+1))<(x5.length:Int))) then
 (bW x1 (x5.length:Int)
 (bif ((List.getD x5 (Int.toNat x1) (Ty.z bM)).2.2.1.1 != 4) then
 (some ((0,(0,([],()))),(false,())))
 else
 (bif (decide ((List.getD x5 (Int.toNat x1) (Ty.z bM)).2.2.1.2.1 > x8)) then
 (some ((0,(0,([],()))),(false,())))
 else
 (bif (decide (x1 > 0)) then
 (bW (aF (x1-1)) (x5.length:Int)
 (bif ((nO (List.getD x5 (Int.toNat x1) (Ty.z bM)).2.2.1.2.2.1 (List.getD x5 (Int.toNat (aF (x1-1))) (Ty.z bM)).2.2.1.2.2.1)||(seq (List.getD x5 (Int.toNat x1) (Ty.z bM)).2.2.1.2.2.1 (List.getD x5 (Int.toNat (aF (x1-1))) (Ty.z bM)).2.2.1.2.2.1)) then
 (some ((0,(0,([],()))),(false,())))
 else
 (rm (Ty.bytes bP) (List.length x9+1)
 (bW x1 (x5.length:Int)
 (bW x1 (x5.length:Int)
 (rm (Ty.bytes aA) (List.length x6+1)
 (L0 x0 (aF (x1+1)) x2 x3 x4 x5 (x6++[((List.getD x5 (Int.toNat x1) (Ty.z bM)).2.2.1.2.2.1,(x0,((List.getD x5 (Int.toNat x1) (Ty.z bM)).1,((List.getD x5 (Int.toNat x1) (Ty.z bM)).2.1,((List.getD x5 (Int.toNat x1) (Ty.z bM)).2.2.1.2.1,())))))]) x7 x8 (x9++[(List.getD x5 (Int.toNat x1) (Ty.z bM)).2.2.1]))))))))
 else
 (rm (Ty.bytes bP) (List.length x9+1)
 (bW x1 (x5.length:Int)
 (bW x1 (x5.length:Int)
 (rm (Ty.bytes aA) (List.length x6+1)
 (L0 x0 (aF (x1+1)) x2 x3 x4 x5 (x6++[((List.getD x5 (Int.toNat x1) (Ty.z bM)).2.2.1.2.2.1,(x0,((List.getD x5 (Int.toNat x1) (Ty.z bM)).1,((List.getD x5 (Int.toNat x1) (Ty.z bM)).2.1,((List.getD x5 (Int.toNat x1) (Ty.z bM)).2.2.1.2.1,())))))]) x7 x8 (x9++[(List.getD x5 (Int.toNat x1) (Ty.z bM)).2.2.1]))))))))))
 else
 (bW (aF ((x5.length:Int)-1)) (x5.length:Int)
 (bif ((List.getD x5 (Int.toNat (aF ((x5.length:Int)-1))) (Ty.z bM)).2.2.1.2.2.2.2.1 != (x9.length:Int)) then
 (some ((0,(0,([],()))),(false,())))
 else
 ((gG.f k x9).bind fun r3 =>
 (bif ((List.getD x5 (Int.toNat (aF ((x5.length:Int)-1))) (Ty.z bM)).2.2.1.2.2.2.2.2.1 != r3.1) then
 (some ((0,(0,([],()))),(false,())))
 else
 (some ((x7,(x8,(x6,()))),(true,()))))))))
def l0 (k:Nat):Nat→T0
 | 0=>fun _ _ _ _ _ _ _ _ _ _=>none
 | n+1=>b0 k (l0 k n)
def t (k:Nat) (L0:T0) (a0:Int) (a1:ByteArray):Rs :=
 ((bg.f k a1).bind fun r1 =>
 (bif (r1.2.1 != (ByteArray.size a1:Int)) then
 (some ((0,(0,([],()))),(false,())))
 else
 (bif ((List.length r1.1:Int)==0) then
 (some ((0,(0,([],()))),(false,())))
 else
 (bW (aF ((List.length r1.1:Int)-1)) (List.length r1.1:Int)
 (bif ((List.getD r1.1 (Int.toNat (aF ((List.length r1.1:Int)-1))) (Ty.z bM)).2.2.1.1 != 5) then
 (some ((0,(0,([],()))),(false,())))
 else
 ((aV.f k a0).bind fun r2 =>
 (bif (seq r2.1 (⟨#[]⟩:ByteArray)) then
 (some ((0,(0,([],()))),(false,())))
 else
 (bW (aF ((List.length r1.1:Int)-1)) (List.length r1.1:Int)
 (L0 a0 0 [] 0 0 r1.1 [] (ByteArray.size a1:Int) (List.getD r1.1 (Int.toNat (aF ((List.length r1.1:Int)-1))) (Ty.z bM)).2.2.1.2.1 [])))))))))
def f (k:Nat):=t k (l0 k k)
end d5
namespace fK
abbrev Rs:Type:=Option (Bool × Unit)
abbrev T0:Type:=List (Ty.d aA)→Int→Rs
def b0 (k:Nat) (L0:T0):T0:=fun x0 x1 =>
 (bif (decide (x1<(x0.length:Int))) then
 (bW x1 (x0.length:Int)
 ((eO.f k (List.getD x0 (Int.toNat x1) (Ty.z aA)).1).bind fun r1 =>
 (bif (!r1.1) then
 (some (false,()))
 else
 ((aZ.f k (List.getD x0 (Int.toNat x1) (Ty.z aA)).2.1 1 100000).bind fun r2 =>
 (bif (!r2.1) then
 (some (false,()))
 else
 (bif (decide ((List.getD x0 (Int.toNat x1) (Ty.z aA)).2.2.1<0)) then
 (some (false,()))
 else
 ((aZ.f k (List.getD x0 (Int.toNat x1) (Ty.z aA)).2.2.2.1 1 210).bind fun r3 =>
 (bif (!r3.1) then
 (some (false,()))
 else
 ((aZ.f k (List.getD x0 (Int.toNat x1) (Ty.z aA)).2.2.2.2.1 1 1000000).bind fun r4 =>
 (bif (!r4.1) then
 (some (false,()))
 else
 (bif (decide (x1 > 0)) then
 (bW (aF (x1-1)) (x0.length:Int)
 (bif ((nO (List.getD x0 (Int.toNat x1) (Ty.z aA)).1 (List.getD x0 (Int.toNat (aF (x1-1))) (Ty.z aA)).1)||(seq (List.getD x0 (Int.toNat x1) (Ty.z aA)).1 (List.getD x0 (Int.toNat (aF (x1-1))) (Ty.z aA)).1)) then
 (some (false,()))
 else
 (L0 x0 (aF (x1+1)))))
 else
 (L0 x0 (aF (x1+1))))))))))))))
 else
 (some (true,())))
def l0 (k:Nat):Nat→T0
 | 0=>fun _ _=>none
 | n+1=>b0 k (l0 k n)
def t (k:Nat) (L0:T0) (a0:List (Ty.d aA)):Rs :=
 (bif (decide ((List.length a0:Int) > 20)) then
 (some (false,()))
 else
 (L0 a0 0))
def f (k:Nat):=t k (l0 k k)
end fK
namespace gw
abbrev Rs:Type:=Option (Bool × Unit)
abbrev T0:Type:=Int→Int→Int→List (Ty.d aA)→Rs
def b0 (k:Nat) (L0:T0):T0:=fun x0 x1 x2 x3 =>
 (bif (decide (x0<(x3.length:Int))) then
 (bW x0 (x3.length:Int)
 (bW 0 (x3.length:Int)
 (bif ((List.getD x3 (Int.toNat x0) (Ty.z aA)).2.1 != (List.getD x3 0 (Ty.z aA)).2.1) then
 (some (false,()))
 else
 (bW x0 (x3.length:Int)
 (bif (decide ((List.getD x3 (Int.toNat x0) (Ty.z aA)).2.2.1 > 100000)) then
 (some (false,()))
 else
 (L0 (aF (x0+1)) x1 x2 x3))))))
 else
 (some (true,())))
def l0 (k:Nat):Nat→T0
 | 0=>fun _ _ _ _=>none
 | n+1=>b0 k (l0 k n)
def t (k:Nat) (L0:T0) (a0:Ty.d di):Rs :=
 ((aZ.f k a0.1 0 100000).bind fun r1 =>
 (bif (!r1.1) then
 (some (false,()))
 else
 ((aZ.f k a0.2.1 0 1000000).bind fun r2 =>
 (bif (!r2.1) then
 (some (false,()))
 else
 ((fK.f k a0.2.2.1).bind fun r3 =>
 (bif (!r3.1) then
 (some (false,()))
 else
 (L0 0 a0.1 a0.2.1 a0.2.2.1)))))))
def f (k:Nat):=t k (l0 k k)
end gw
namespace cN
abbrev Rs:Type:=Option (ByteArray × Unit)
abbrev T0:Type:=ByteArray→Int→Int→Int→List (Ty.d aA)→Rs
def b0 (k:Nat) (L0:T0):T0:=fun x0 x1 x2 x3 x4 =>
 (bif (decide (x1<(x4.length:Int))) then
 (bW x1 (x4.length:Int)
 ((bn.f k (ByteArray.size (List.getD x4 (Int.toNat x1) (Ty.z aA)).1:Int)).bind fun r5 =>
 (kC x0 r5.1
 (kC (x0++r5.1) (List.getD x4 (Int.toNat x1) (Ty.z aA)).1
 ((bn.f k (List.getD x4 (Int.toNat x1) (Ty.z aA)).2.1).bind fun r6 =>
 (kC ((x0++r5.1)++(List.getD x4 (Int.toNat x1) (Ty.z aA)).1) r6.1
 ((bn.f k (List.getD x4 (Int.toNat x1) (Ty.z aA)).2.2.1).bind fun r7 =>
 (kC (((x0++r5.1)++(List.getD x4 (Int.toNat x1) (Ty.z aA)).1)++r6.1) r7.1
 ((bn.f k (List.getD x4 (Int.toNat x1) (Ty.z aA)).2.2.2.1).bind fun r8 =>
 (kC ((((x0++r5.1)++(List.getD x4 (Int.toNat x1) (Ty.z aA)).1)++r6.1)++r7.1) r8.1
 ((bn.f k (List.getD x4 (Int.toNat x1) (Ty.z aA)).2.2.2.2.1).bind fun r9 =>
 (kC (((((x0++r5.1)++(List.getD x4 (Int.toNat x1) (Ty.z aA)).1)++r6.1)++r7.1)++r8.1) r9.1
 (L0 ((((((x0++r5.1)++(List.getD x4 (Int.toNat x1) (Ty.z aA)).1)++r6.1)++r7.1)++r8.1)++r9.1) (aF (x1+1)) x2 x3 x4)))))))))))))
 else
 ((gO.f k x0).bind fun r10 =>
 ((dU.f k r10.1 4).bind fun r11 =>
 (kC r11.1 x0
 (some ((r11.1++x0),()))))))
def l0 (k:Nat):Nat→T0
 | 0=>fun _ _ _ _ _=>none
 | n+1=>b0 k (l0 k n)
def t (k:Nat) (L0:T0) (a0:Ty.d di):Rs :=
 ((gw.f k a0).bind fun r1 =>
 (bif (!r1.1) then
 (some ((⟨#[]⟩:ByteArray),()))
 else
 ((bn.f k a0.1).bind fun r2 =>
 ((bn.f k a0.2.1).bind fun r3 =>
 (kC r2.1 r3.1
 ((bn.f k (List.length a0.2.2.1:Int)).bind fun r4 =>
 (kC (r2.1++r3.1) r4.1
 (L0 ((r2.1++r3.1)++r4.1) 0 a0.1 a0.2.1 a0.2.2.1))))))))
def f (k:Nat):=t k (l0 k k)
end cN
namespace bv
abbrev Rs:Type:=Option (ByteArray × Unit)
def t (k:Nat) (a0:Int):Rs :=
 ((aZ.f k a0 1 100000).bind fun r1 =>
 (bif (!r1.1) then
 (some ((⟨#[]⟩:ByteArray),()))
 else
 ((da.f k a0).bind fun r2 =>
 (kC (⟨#[104,105,110,116]⟩:ByteArray) r2.1
 (some (((⟨#[104,105,110,116]⟩:ByteArray)++r2.1),()))))))
def f (k:Nat):=t k
end bv
namespace dR
abbrev Rs:Type:=Option (Bool × Unit)
abbrev T0:Type:=Int→Int→List Int→Rs
def b0 (k:Nat) (L0:T0):T0:=fun x0 x1 x2 =>
 (bif (decide (x0<(x2.length:Int))) then
 (bW x0 (x2.length:Int)
 ((aZ.f k (List.getD x2 (Int.toNat x0) (Ty.z (.int .i64))) 1 (aF (x1-1))).bind fun r3 =>
 (bif (!r3.1) then
 (some (false,()))
 else
 (bif (decide (x0 > 0)) then
 (bW x0 (x2.length:Int)
 (bW (aF (x0-1)) (x2.length:Int)
 (bif (decide ((List.getD x2 (Int.toNat x0) (Ty.z (.int .i64)))≤(List.getD x2 (Int.toNat (aF (x0-1))) (Ty.z (.int .i64))))) then
 (some (false,()))
 else
 (L0 (aF (x0+1)) x1 x2))))
 else
 (L0 (aF (x0+1)) x1 x2)))))
 else
 (some (true,())))
def l0 (k:Nat):Nat→T0
 | 0=>fun _ _ _=>none
 | n+1=>b0 k (l0 k n)
def t (k:Nat) (L0:T0) (a0:Ty.d ay):Rs :=
 ((aZ.f k a0.1 1 100000).bind fun r1 =>
 (bif (!r1.1) then
 (some (false,()))
 else
 ((aZ.f k (List.length a0.2.1:Int) 1 60).bind fun r2 =>
 (bif (!r2.1) then
 (some (false,()))
 else
 (L0 0 a0.1 a0.2.1)))))
def f (k:Nat):=t k (l0 k k)
end dR
namespace cV
abbrev Rs:Type:=Option (ByteArray × Unit)
abbrev T0:Type:=ByteArray→Int→Int→List Int→Rs
def b0 (k:Nat) (L0:T0):T0:=fun x0 x1 x2 x3 =>
 (bif (decide (x1<(x3.length:Int))) then
 (bW x1 (x3.length:Int)
 ((bn.f k (List.getD x3 (Int.toNat x1) (Ty.z (.int .i64)))).bind fun r4 =>
 (kC x0 r4.1
 (L0 (x0++r4.1) (aF (x1+1)) x2 x3))))
 else
 ((d8.f k x0).bind fun r5 =>
 (some r5)))
def l0 (k:Nat):Nat→T0
 | 0=>fun _ _ _ _=>none
 | n+1=>b0 k (l0 k n)
def t (k:Nat) (L0:T0) (a0:Ty.d ay):Rs :=
 ((dR.f k a0).bind fun r1 =>
 (bif (!r1.1) then
 (some ((⟨#[]⟩:ByteArray),()))
 else
 ((bn.f k a0.1).bind fun r2 =>
 ((bn.f k (List.length a0.2.1:Int)).bind fun r3 =>
 (kC r2.1 r3.1
 (L0 (r2.1++r3.1) 0 a0.1 a0.2.1))))))
def f (k:Nat):=t k (l0 k k)
end cV
namespace du
abbrev Rs:Type:=Option ((List (Ty.d aB)) × Unit)
def t (k:Nat) (a0:List (Ty.d aB)) (a1:Int):Rs :=
 (mR a1 (List.length a0:Int)
 (rm (Ty.bytes aB) (0+List.length (List.take (Int.toNat a1) a0))
 (mR (aF (a1+1)) (List.length a0:Int)
 (rm (Ty.bytes aB) (List.length ([]++(List.take (Int.toNat a1) a0))+List.length (List.drop (Int.toNat (aF (a1+1))) a0))
 (some ((([]++(List.take (Int.toNat a1) a0))++(List.drop (Int.toNat (aF (a1+1))) a0)),()))))))
def f (k:Nat):=t k
end du
namespace cI
abbrev Rs:Type:=Option ((Ty.d a_) × Unit)
def t (k:Nat) (a0:Ty.d a_):Rs :=
 (rm (Ty.bytes aB) (0+List.length a0.1)
 (some ((([]++a0.1),a0.2),())))
def f (k:Nat):=t k
end cI
namespace dl
abbrev Rs:Type:=Option (Int × Unit)
abbrev T0:Type:=Int→Int→List (Ty.d aB)→Int→Int→Bool→Rs
def b0 (k:Nat) (L0:T0):T0:=fun x0 x1 x2 x3 x4 x5 =>
 (bif (decide (x1<(x2.length:Int))) then
 (bW x1 (x2.length:Int)
 (L0 (aF (x0+(ByteArray.size (List.getD x2 (Int.toNat x1) (Ty.z aB)).2.1:Int))) (aF (x1+1)) x2 x3 x4 x5))
 else
 (some (x0,())))
def l0 (k:Nat):Nat→T0
 | 0=>fun _ _ _ _ _ _=>none
 | n+1=>b0 k (l0 k n)
def t (k:Nat) (L0:T0) (a0:Ty.d a_):Rs :=
 (L0 0 0 a0.1 a0.2.1 a0.2.2.1 a0.2.2.2.1)
def f (k:Nat):=t k (l0 k k)
end dl
namespace eE
abbrev Rs:Type:=Option (Bool × Unit)
abbrev T0:Type:=ByteArray→Int→Rs
def b0 (k:Nat) (L0:T0):T0:=fun x0 x1 =>
 (bif (decide (x1<(ByteArray.size x0:Int))) then
 (bW x1 (ByteArray.size x0:Int)
 (bif (decide ((dc x0 x1)≥97)) then
 (bW x1 (ByteArray.size x0:Int)
 (bif (decide ((dc x0 x1)≤122)) then
 (L0 x0 (aF (x1+1)))
 else
 (bW x1 (ByteArray.size x0:Int)
 (bif (decide ((dc x0 x1)≥48)) then
 (bW x1 (ByteArray.size x0:Int)
 (bif (!(decide ((dc x0 x1)≤57))) then
 (some (false,()))
 else
 (L0 x0 (aF (x1+1)))))
 else
 (some (false,()))))))
 else
 (bW x1 (ByteArray.size x0:Int)
 (bif (decide ((dc x0 x1)≥48)) then
 (bW x1 (ByteArray.size x0:Int)
 (bif (!(decide ((dc x0 x1)≤57))) then
 (some (false,()))
 else
 (L0 x0 (aF (x1+1)))))
 else
 (some (false,()))))))
 else
 ((aZ.f k (ByteArray.size x0:Int) 1 12).bind fun r1 =>
 (some r1)))
def l0 (k:Nat):Nat→T0
 | 0=>fun _ _=>none
 | n+1=>b0 k (l0 k n)
def t (k:Nat) (L0:T0) (a0:ByteArray):Rs :=
 (L0 a0 0)
def f (k:Nat):=t k (l0 k k)
end eE
namespace bh
abbrev Rs:Type:=Option (Bool × Unit)
abbrev T0:Type:=Int→List (Ty.d aB)→Int→Int→Bool→Rs
def b0 (k:Nat) (L0:T0):T0:=fun x0 x1 x2 x3 x4 =>
 (bif (decide (x0<(x1.length:Int))) then
 (bW x0 (x1.length:Int)
 ((eE.f k (List.getD x1 (Int.toNat x0) (Ty.z aB)).1).bind fun r4 =>
 (bif (!r4.1) then
 (some (false,()))
 else
 (bW x0 (x1.length:Int)
 (bW x0 (x1.length:Int)
 ((aZ.f k (List.getD x1 (Int.toNat x0) (Ty.z aB)).2.2.1 0 (ByteArray.size (List.getD x1 (Int.toNat x0) (Ty.z aB)).2.1:Int)).bind fun r5 =>
 (bif (!r5.1) then
 (some (false,()))
 else
 (bif (decide (x0 > 0)) then
 (bW x0 (x1.length:Int)
 (bW (aF (x0-1)) (x1.length:Int)
 (bif ((nO (List.getD x1 (Int.toNat x0) (Ty.z aB)).1 (List.getD x1 (Int.toNat (aF (x0-1))) (Ty.z aB)).1)||(seq (List.getD x1 (Int.toNat x0) (Ty.z aB)).1 (List.getD x1 (Int.toNat (aF (x0-1))) (Ty.z aB)).1)) then
 (some (false,()))
 else
 (L0 (aF (x0+1)) x1 x2 x3 x4))))
 else
 (L0 (aF (x0+1)) x1 x2 x3 x4)))))))))
 else
 (some (true,())))
def l0 (k:Nat):Nat→T0
 | 0=>fun _ _ _ _ _=>none
 | n+1=>b0 k (l0 k n)
def t (k:Nat) (L0:T0) (a0:Ty.d a_):Rs :=
 (bif (decide ((List.length a0.1:Int) > 130)) then
 (some (false,()))
 else
 ((aZ.f k a0.2.1 0 100000).bind fun r1 =>
 (bif (!r1.1) then
 (some (false,()))
 else
 ((aZ.f k a0.2.2.1 (-1) 100000).bind fun r2 =>
 (bif (!r2.1) then
 (some (false,()))
 else
 ((dl.f k a0).bind fun r3 =>
 (bif (decide (r3.1 > a0.2.1)) then
 (some (false,()))
 else
 (L0 0 a0.1 a0.2.1 a0.2.2.1 a0.2.2.2.1))))))))
def f (k:Nat):=t k (l0 k k)
end bh
namespace dE
abbrev Rs:Type:=Option ((Ty.d a_) × Int × Unit)
def t (k:Nat) (a0:Ty.d a_):Rs :=
 ((cI.f k a0).bind fun r1 =>
 ((bh.f k a0).bind fun r2 =>
 (bif (!r2.1) then
 (some (r1.1,(5,())))
 else
 (bif a0.2.2.2.1 then
 (some ((r1.1.1,(r1.1.2.1,(r1.1.2.2.1,(true,())))),(1,())))
 else
 (bif (a0.2.2.1==0) then
 (some ((r1.1.1,(r1.1.2.1,(r1.1.2.2.1,(true,())))),(1,())))
 else
 (bif (decide (a0.2.2.1 > 0)) then
 (some ((r1.1.1,(r1.1.2.1,((aF (a0.2.2.1-1)),r1.1.2.2.2))),(0,())))
 else
 (some (r1.1,(0,())))))))))
def f (k:Nat):=t k
end dE
namespace bS
abbrev Rs:Type:=Option (Int × Unit)
abbrev T0:Type:=ByteArray→Int→List (Ty.d aB)→Int→Int→Bool→Rs
def b0 (k:Nat) (L0:T0):T0:=fun x0 x1 x2 x3 x4 x5 =>
 (bif (decide (x1<(x2.length:Int))) then
 (bW x1 (x2.length:Int)
 (bif (seq (List.getD x2 (Int.toNat x1) (Ty.z aB)).1 x0) then
 (some (x1,()))
 else
 (L0 x0 (aF (x1+1)) x2 x3 x4 x5)))
 else
 (some ((-1),())))
def l0 (k:Nat):Nat→T0
 | 0=>fun _ _ _ _ _ _=>none
 | n+1=>b0 k (l0 k n)
def t (k:Nat) (L0:T0) (a0:Ty.d a_) (a1:ByteArray):Rs :=
 (L0 a1 0 a0.1 a0.2.1 a0.2.2.1 a0.2.2.2.1)
def f (k:Nat):=t k (l0 k k)
end bS
namespace eG
abbrev Rs:Type:=Option ((Ty.d a_) × Int × Unit)
def t (k:Nat) (a0:Ty.d a_) (a1:ByteArray):Rs :=
 ((dE.f k a0).bind fun r1 =>
 (bif (r1.2.1 != 0) then
 (some r1)
 else
 ((eE.f k a1).bind fun r2 =>
 (bif (!r2.1) then
 (some (r1.1,(5,())))
 else
 ((bS.f k a0 a1).bind fun r3 =>
 (bif (decide (r3.1≥0)) then
 (some (r1.1,(4,())))
 else
 (bif (decide ((List.length a0.1:Int)≥130)) then
 (some (r1.1,(2,())))
 else
 ((b_.f k r1.1.1 (a1,(ByteArray.empty,(0,())))).bind fun r4 =>
 (some ((r4.1,r1.1.2),(0,())))))))))))
def f (k:Nat):=t k
end eG
namespace bx
abbrev Rs:Type:=Option ((Ty.d ag) × (Ty.d a_) × Unit)
abbrev T1:Type:=Int→ByteArray→Int→List Int→Int→Int→List (Ty.d aB)→Int→Int→Bool→List (Ty.d aB)→Int→Int→Bool→List Int→Int→List (Ty.d aD)→Rs
abbrev T0:Type:=Int→List Int→Int→Int→List (Ty.d aB)→Int→Int→Bool→List (Ty.d aB)→Int→Int→Bool→List Int→Int→Rs
def b1 (k:Nat) (L0:T0) (L1:T1):T1:=fun x0 x1 x2 x3 x4 x5 x6 x7 x8 x9 x10 x11 x12 x13 x14 x15 x16 =>
 (bif (decide (x2<(x16.length:Int))) then
 (bW x2 (x16.length:Int)
 ((bL.f k (List.getD x16 (Int.toNat x2) (Ty.z aD)).2.2.2.1).bind fun r6 =>
 ((d8.f k r6.1).bind fun r7 =>
 (kC x1 r7.1
 (L1 x0 (x1++r7.1) (aF (x2+1)) x3 x4 x5 x6 x7 x8 x9 x10 x11 x12 x13 x14 x15 x16)))))
 else
 ((bD.f k (x3,(x4,(x5,()))) 8).bind fun r8 =>
 (bif r8.2.1 then
 ((fY.f k r8.1 x1).bind fun r9 =>
 (bW x0 (x14.length:Int)
 ((aV.f k (List.getD x14 (Int.toNat x0) (Ty.z (.int .i64)))).bind fun r10 =>
 ((b_.f k x10 (r10.1,(r9.2.1,((ByteArray.size r9.2.1:Int),())))).bind fun r11 =>
 (bW x0 (x14.length:Int)
 ((d5.f k (List.getD x14 (Int.toNat x0) (Ty.z (.int .i64))) r9.2.1).bind fun r12 =>
 (bif r12.2.1 then
 ((bD.f k r9.1 3).bind fun r13 =>
 (bif (!r13.2.1) then
 ((cN.f k r12.1).bind fun r14 =>
 (bW x0 (x14.length:Int)
 ((bv.f k (List.getD x14 (Int.toNat x0) (Ty.z (.int .i64)))).bind fun r15 =>
 ((b_.f k r11.1 (r15.1,(r14.1,((ByteArray.size r14.1:Int),())))).bind fun r16 =>
 (L0 (aF (x0+1)) r13.1.1 r13.1.2.1 r13.1.2.2.1 x6 x7 x8 x9 r16.1 x11 x12 x13 x14 x15)))))
 else
 (L0 (aF (x0+1)) r13.1.1 r13.1.2.1 r13.1.2.2.1 x6 x7 x8 x9 r11.1 x11 x12 x13 x14 x15)))
 else
 (L0 (aF (x0+1)) r9.1.1 r9.1.2.1 r9.1.2.2.1 x6 x7 x8 x9 r11.1 x11 x12 x13 x14 x15))))))))
 else
 (bW x0 (x14.length:Int)
 ((aV.f k (List.getD x14 (Int.toNat x0) (Ty.z (.int .i64)))).bind fun r17 =>
 ((b_.f k x10 (r17.1,(x1,((ByteArray.size x1:Int),())))).bind fun r18 =>
 (bW x0 (x14.length:Int)
 ((d5.f k (List.getD x14 (Int.toNat x0) (Ty.z (.int .i64))) x1).bind fun r19 =>
 (bif r19.2.1 then
 ((bD.f k r8.1 3).bind fun r20 =>
 (bif (!r20.2.1) then
 ((cN.f k r19.1).bind fun r21 =>
 (bW x0 (x14.length:Int)
 ((bv.f k (List.getD x14 (Int.toNat x0) (Ty.z (.int .i64)))).bind fun r22 =>
 ((b_.f k r18.1 (r22.1,(r21.1,((ByteArray.size r21.1:Int),())))).bind fun r23 =>
 (L0 (aF (x0+1)) r20.1.1 r20.1.2.1 r20.1.2.2.1 x6 x7 x8 x9 r23.1 x11 x12 x13 x14 x15)))))
 else
 (L0 (aF (x0+1)) r20.1.1 r20.1.2.1 r20.1.2.2.1 x6 x7 x8 x9 r18.1 x11 x12 x13 x14 x15)))
 else
 (L0 (aF (x0+1)) r8.1.1 r8.1.2.1 r8.1.2.2.1 x6 x7 x8 x9 r18.1 x11 x12 x13 x14 x15))))))))))
def l1 (k:Nat) (L0:T0):Nat→T1
 | 0=>fun _ _ _ _ _ _ _ _ _ _ _ _ _ _ _ _ _=>none
 | n+1=>b1 k L0 (l1 k L0 n)
def b0 (k:Nat) (L1:T1) (L0:T0):T0:=fun x0 x1 x2 x3 x4 x5 x6 x7 x8 x9 x10 x11 x12 x13 =>
 (bif (decide (x0<(x12.length:Int))) then
 ((ac.f k (x1,(x2,(x3,())))).bind fun r3 =>
 (bif (x0==0) then
 ((bD.f k r3.1 3).bind fun r4 =>
 (bif r4.2.1 then
 ((dt.f k r4.1).bind fun r5 =>
 (L1 x0 r5.2.1 0 r5.1.1 r5.1.2.1 r5.1.2.2.1 x4 x5 x6 x7 x8 x9 x10 x11 x12 x13 []))
 else
 (L1 x0 (⟨#[]⟩:ByteArray) 0 r4.1.1 r4.1.2.1 r4.1.2.2.1 x4 x5 x6 x7 x8 x9 x10 x11 x12 x13 r3.2.1)))
 else
 (L1 x0 (⟨#[]⟩:ByteArray) 0 r3.1.1 r3.1.2.1 r3.1.2.2.1 x4 x5 x6 x7 x8 x9 x10 x11 x12 x13 r3.2.1)))
 else
 ((cV.f k (x13,(x12,()))).bind fun r24 =>
 ((aI.f k (x1,(x2,(x3,()))) 12).bind fun r25 =>
 (bif (r25.2.1==0) then
 ((fY.f k r25.1 r24.1).bind fun r26 =>
 ((b_.f k x8 ((⟨#[108,105,118,101]⟩:ByteArray),(r26.2.1,((ByteArray.size r26.2.1:Int),())))).bind fun r27 =>
 (some (r26.1,((r27.1,(x9,(x10,(x11,())))),())))))
 else
 (bif (r25.2.1==1) then
 ((aI.f k r25.1 (x8.length:Int)).bind fun r28 =>
 ((du.f k x8 r28.2.1).bind fun r29 =>
 ((b_.f k r29.1 ((⟨#[108,105,118,101]⟩:ByteArray),(r24.1,((ByteArray.size r24.1:Int),())))).bind fun r30 =>
 (some (r28.1,((r30.1,(x9,(x10,(x11,())))),()))))))
 else
 (bif (r25.2.1==2) then
 ((eG.f k (x8,(x9,(x10,(x11,())))) (⟨#[115,101,103,57,57]⟩:ByteArray)).bind fun r31 =>
 ((b_.f k r31.1.1 ((⟨#[108,105,118,101]⟩:ByteArray),(r24.1,((ByteArray.size r24.1:Int),())))).bind fun r32 =>
 (some (r25.1,((r32.1,r31.1.2),())))))
 else
 (bif (r25.2.1==3) then
 (some (r25.1,((x8,(x9,(x10,(x11,())))),())))
 else
 (bif (r25.2.1==4) then
 ((aI.f k r25.1 6).bind fun r33 =>
 ((b_.f k x8 ((⟨#[108,105,118,101]⟩:ByteArray),(r24.1,((ByteArray.size r24.1:Int),())))).bind fun r34 =>
 (some (r33.1,((r34.1,(x9,(r33.2.1,(x11,())))),())))))
 else
 ((b_.f k x8 ((⟨#[108,105,118,101]⟩:ByteArray),(r24.1,((ByteArray.size r24.1:Int),())))).bind fun r35 =>
 (some (r25.1,((r35.1,(x9,(x10,(x11,())))),()))))))))))))
def l0 (k:Nat):Nat→T0
 | 0=>fun _ _ _ _ _ _ _ _ _ _ _ _ _ _=>none
 | n+1=>b0 k (l1 k (l0 k n) k) (l0 k n)
def t (k:Nat) (L0:T0) (a0:Ty.d ag):Rs :=
 ((eR.f k 100000).bind fun r1 =>
 ((gN.f k a0).bind fun r2 =>
 (L0 0 r2.1.1 r2.1.2.1 r2.1.2.2.1 [] 0 0 false r1.1.1 r1.1.2.1 r1.1.2.2.1 r1.1.2.2.2.1 r2.2.1.2.1 r2.2.1.1)))
def f (k:Nat):=t k (l0 k k)
end bx
namespace cG
abbrev Rs:Type:=Option ((Ty.d ag) × Int × Unit)
def t (k:Nat) (a0:Ty.d ag) (a1:List Int):Rs :=
 ((aI.f k a0 (List.length a1:Int)).bind fun r1 =>
 (bW r1.2.1 (List.length a1:Int)
 (some (r1.1,((List.getD a1 (Int.toNat r1.2.1) (Ty.z (.int .i64))),())))))
def f (k:Nat):=t k
end cG
namespace bu
abbrev Rs:Type:=Option (ByteArray × Bool × Unit)
def t (k:Nat) (a0:Ty.d a_) (a1:ByteArray):Rs :=
 ((bh.f k a0).bind fun r1 =>
 (bif (!r1.1) then
 (some ((⟨#[]⟩:ByteArray),(false,())))
 else
 ((bS.f k a0 a1).bind fun r2 =>
 (bif (decide (r2.1<0)) then
 (some ((⟨#[]⟩:ByteArray),(false,())))
 else
 (bW r2.1 (List.length a0.1:Int)
 (some ((List.getD a0.1 (Int.toNat r2.1) (Ty.z aB)).2.1,(true,()))))))))
def f (k:Nat):=t k
end bu
namespace fG
abbrev Rs:Type:=Option (Int × Bool × Unit)
abbrev T0:Type:=ByteArray→Int→Int→Int→Rs
def b0 (k:Nat) (L0:T0):T0:=fun x0 x1 x2 x3 =>
 (bif (decide (x3<(ByteArray.size x0:Int))) then
 (bif (decide (x3<11)) then
 (bW x3 (ByteArray.size x0:Int)
 (bif (decide ((dc x0 x3)≥48)) then
 (bW x3 (ByteArray.size x0:Int)
 (bif (decide ((dc x0 x3)≤57)) then
 (bW x3 (ByteArray.size x0:Int)
 (L0 x0 (aF ((aF (x1*10))+(aF (IntKind.wrap .u8 ((dc x0 x3)-48))))) (aF (x2+1)) (aF (x3+1))))
 else
 (L0 x0 x1 x2 (aF (x3+1)))))
 else
 (L0 x0 x1 x2 (aF (x3+1)))))
 else
 (bif (decide ((ByteArray.size x0:Int) > 0)) then
 (bW 0 (ByteArray.size x0:Int)
 (bif ((dc x0 0)==45) then
 (bif (decide (x2 > 9)) then
 (some (0,(false,())))
 else
 (bif (decide ((ByteArray.size x0:Int) > 10)) then
 (some (0,(false,())))
 else
 ((da.f k (aF (0-x1))).bind fun r1 =>
 (bif (!(seq r1.1 x0)) then
 (some (0,(false,())))
 else
 (some ((aF (0-x1)),(true,())))))))
 else
 (bif (decide (x2 > 9)) then
 (some (0,(false,())))
 else
 (bif (decide ((ByteArray.size x0:Int) > 10)) then
 (some (0,(false,())))
 else
 ((da.f k x1).bind fun r2 =>
 (bif (!(seq r2.1 x0)) then
 (some (0,(false,())))
 else
 (some (x1,(true,())))))))))
 else
 (bif (decide (x2 > 9)) then
 (some (0,(false,())))
 else
 (bif (decide ((ByteArray.size x0:Int) > 10)) then
 (some (0,(false,())))
 else
 ((da.f k x1).bind fun r3 =>
 (bif (!(seq r3.1 x0)) then
 (some (0,(false,())))
 else
 (some (x1,(true,())))))))))
 else
 (bif (decide ((ByteArray.size x0:Int) > 0)) then
 (bW 0 (ByteArray.size x0:Int)
 (bif ((dc x0 0)==45) then
 (bif (decide (x2 > 9)) then
 (some (0,(false,())))
 else
 (bif (decide ((ByteArray.size x0:Int) > 10)) then
 (some (0,(false,())))
 else
 ((da.f k (aF (0-x1))).bind fun r4 =>
 (bif (!(seq r4.1 x0)) then
 (some (0,(false,())))
 else
 (some ((aF (0-x1)),(true,())))))))
 else
 (bif (decide (x2 > 9)) then
 (some (0,(false,())))
 else
 (bif (decide ((ByteArray.size x0:Int) > 10)) then
 (some (0,(false,())))
 else
 ((da.f k x1).bind fun r5 =>
 (bif (!(seq r5.1 x0)) then
 (some (0,(false,())))
 else
 (some (x1,(true,())))))))))
 else
 (bif (decide (x2 > 9)) then
 (some (0,(false,())))
 else
 (bif (decide ((ByteArray.size x0:Int) > 10)) then
 (some (0,(false,())))
 else
 ((da.f k x1).bind fun r6 =>
 (bif (!(seq r6.1 x0)) then
 (some (0,(false,())))
 else
 (some (x1,(true,())))))))))
def l0 (k:Nat):Nat→T0
 | 0=>fun _ _ _ _=>none
 | n+1=>b0 k (l0 k n)
def t (k:Nat) (L0:T0) (a0:ByteArray):Rs :=
 (L0 a0 0 0 0)
def f (k:Nat):=t k (l0 k k)
end fG
namespace iM
abbrev Rs:Type:=Option (Int × Bool × Unit)
abbrev T0:Type:=ByteArray→Int→Rs
def b0 (k:Nat) (L0:T0):T0:=fun x0 x1 =>
 (bif (decide (x1≤4)) then
 (bif (decide ((ByteArray.size x0:Int) > x1)) then
 (mR x1 (ByteArray.size x0:Int)
 ((fG.f k (ByteArray.extract x0 (Int.toNat x1) (ByteArray.size x0))).bind fun r1 =>
 (bif r1.2.1 then
 (bif (decide (r1.1≥1)) then
 ((aV.f k r1.1).bind fun r2 =>
 (bif (seq r2.1 x0) then
 (some (r1.1,(true,())))
 else
 ((bv.f k r1.1).bind fun r3 =>
 (bif (seq r3.1 x0) then
 (some (r1.1,(true,())))
 else
 (L0 x0 (aF (x1+1)))))))
 else
 (L0 x0 (aF (x1+1))))
 else
 (L0 x0 (aF (x1+1))))))
 else
 (L0 x0 (aF (x1+1))))
 else
 (some (0,(false,()))))
def l0 (k:Nat):Nat→T0
 | 0=>fun _ _=>none
 | n+1=>b0 k (l0 k n)
def t (k:Nat) (L0:T0) (a0:ByteArray):Rs :=
 (L0 a0 3)
def f (k:Nat):=t k (l0 k k)
end iM
namespace bQ
abbrev Rs:Type:=Option ((List ByteArray) × Unit)
abbrev T1:Type:=Int→Int→Bool→Bool→Int→List (Ty.d aB)→Int→Int→Bool→Int→List Int→List ByteArray→Rs
abbrev T0:Type:=Int→List (Ty.d aB)→Int→Int→Bool→Int→List Int→List ByteArray→Rs
def b1 (k:Nat) (L0:T0) (L1:T1):T1:=fun x0 x1 x2 x3 x4 x5 x6 x7 x8 x9 x10 x11 =>
 (bif (decide (x4<(x10.length:Int))) then
 (bif x3 then
 (L1 x0 x1 x2 true (aF (x4+1)) x5 x6 x7 x8 x9 x10 x11)
 else
 (bW x4 (x10.length:Int)
 (L1 x0 x1 x2 ((List.getD x10 (Int.toNat x4) (Ty.z (.int .i64)))==x1) (aF (x4+1)) x5 x6 x7 x8 x9 x10 x11)))
 else
 (bif x2 then
 (bif (!x3) then
 (bW x0 (x5.length:Int)
 (rm (Ty.bytes .str) (List.length x11+1)
 (L0 (aF (x0+1)) x5 x6 x7 x8 x9 x10 (x11++[(List.getD x5 (Int.toNat x0) (Ty.z aB)).1]))))
 else
 (bW x0 (x5.length:Int)
 (bif (seq (List.getD x5 (Int.toNat x0) (Ty.z aB)).1 (⟨#[116,101,109,112]⟩:ByteArray)) then
 (bW x0 (x5.length:Int)
 (rm (Ty.bytes .str) (List.length x11+1)
 (L0 (aF (x0+1)) x5 x6 x7 x8 x9 x10 (x11++[(List.getD x5 (Int.toNat x0) (Ty.z aB)).1]))))
 else
 (L0 (aF (x0+1)) x5 x6 x7 x8 x9 x10 x11))))
 else
 (bW x0 (x5.length:Int)
 (bif (seq (List.getD x5 (Int.toNat x0) (Ty.z aB)).1 (⟨#[116,101,109,112]⟩:ByteArray)) then
 (bW x0 (x5.length:Int)
 (rm (Ty.bytes .str) (List.length x11+1)
 (L0 (aF (x0+1)) x5 x6 x7 x8 x9 x10 (x11++[(List.getD x5 (Int.toNat x0) (Ty.z aB)).1]))))
 else
 (L0 (aF (x0+1)) x5 x6 x7 x8 x9 x10 x11)))))
def l1 (k:Nat) (L0:T0):Nat→T1
 | 0=>fun _ _ _ _ _ _ _ _ _ _ _ _=>none
 | n+1=>b1 k L0 (l1 k L0 n)
def b0 (k:Nat) (L1:T1) (L0:T0):T0:=fun x0 x1 x2 x3 x4 x5 x6 x7 =>
 (bif (decide (x0<(x1.length:Int))) then
 (bW x0 (x1.length:Int)
 ((iM.f k (List.getD x1 (Int.toNat x0) (Ty.z aB)).1).bind fun r2 =>
 (L1 x0 r2.1 r2.2.1 false 0 x1 x2 x3 x4 x5 x6 x7)))
 else
 (some (x7,())))
def l0 (k:Nat):Nat→T0
 | 0=>fun _ _ _ _ _ _ _ _=>none
 | n+1=>b0 k (l1 k (l0 k n) k) (l0 k n)
def t (k:Nat) (L0:T0) (a0:Ty.d a_) (a1:Ty.d ay):Rs :=
 ((bh.f k a0).bind fun r1 =>
 (bif (!r1.1) then
 (some ([],()))
 else
 (L0 0 a0.1 a0.2.1 a0.2.2.1 a0.2.2.2.1 a1.1 a1.2.1 [])))
def f (k:Nat):=t k (l0 k k)
end bQ
namespace fL
abbrev Rs:Type:=Option ((Ty.d a_) × Int × Unit)
def t (k:Nat) (a0:Ty.d a_) (a1:ByteArray):Rs :=
 ((dE.f k a0).bind fun r1 =>
 (bif (r1.2.1 != 0) then
 (some r1)
 else
 ((bS.f k a0 a1).bind fun r2 =>
 (bif (decide (r2.1<0)) then
 (some (r1.1,(3,())))
 else
 ((du.f k r1.1.1 r2.1).bind fun r3 =>
 (some ((r3.1,r1.1.2),(0,()))))))))
def f (k:Nat):=t k
end fL
namespace aX
abbrev Rs:Type:=Option (Int × Unit)
def t (k:Nat) (a0:Int):Rs :=
 (bif (a0==0) then
 (some (0,()))
 else
 (bif (a0==1) then
 (some (1,()))
 else
 (bif (a0==2) then
 (some (2,()))
 else
 (some (3,())))))
def f (k:Nat):=t k
end aX
namespace ed
abbrev Rs:Type:=Option ((Ty.d a_) × Int × Unit)
abbrev T1:Type:=Int→List (Ty.d aB)→Int→Int→Bool→List (Ty.d aB)→Int→Int→Bool→List ByteArray→Rs
abbrev T0:Type:=Int→List (Ty.d aB)→Int→Int→Bool→List (Ty.d aB)→Int→Int→Bool→List ByteArray→Rs
def b1 (k:Nat) (L1:T1):T1:=fun x0 x1 x2 x3 x4 x5 x6 x7 x8 x9 =>
 (bif (decide (x0<(x9.length:Int))) then
 (bW x0 (x9.length:Int)
 ((fL.f k (x1,(x2,(x3,(x4,())))) (List.getD x9 (Int.toNat x0) (Ty.z .str))).bind fun r4 =>
 (bif (r4.2.1 != 0) then
 ((aX.f k r4.2.1).bind fun r5 =>
 (some (r4.1,r5)))
 else
 (L1 (aF (x0+1)) r4.1.1 r4.1.2.1 r4.1.2.2.1 r4.1.2.2.2.1 x5 x6 x7 x8 x9))))
 else
 (some ((x1,(x2,(x3,(x4,())))),(0,()))))
def l1 (k:Nat):Nat→T1
 | 0=>fun _ _ _ _ _ _ _ _ _ _=>none
 | n+1=>b1 k (l1 k n)
def b0 (k:Nat) (L1:T1):T0:=fun x0 x1 x2 x3 x4 x5 x6 x7 x8 x9 =>
 (bif (decide (x0<(x9.length:Int))) then
 (bW x0 (x9.length:Int)
 ((fL.f k (x1,(x2,(x3,(x4,())))) (List.getD x9 (Int.toNat x0) (Ty.z .str))).bind fun r2 =>
 (bif (r2.2.1 != 0) then
 ((aX.f k r2.2.1).bind fun r3 =>
 (some (r2.1,r3)))
 else
 (L1 (aF (x0+1)) r2.1.1 r2.1.2.1 r2.1.2.2.1 r2.1.2.2.2.1 x5 x6 x7 x8 x9))))
 else
 (some ((x1,(x2,(x3,(x4,())))),(0,()))))
def l0 (k:Nat):Nat→T0
 | 0=>fun _ _ _ _ _ _ _ _ _ _=>none
 | n+1=>b0 k (l1 k n)
def t (k:Nat) (L0:T0) (a0:Ty.d a_) (a1:Ty.d ay):Rs :=
 ((bQ.f k a0 a1).bind fun r1 =>
 (L0 0 a0.1 a0.2.1 a0.2.2.1 a0.2.2.2.1 [] 0 0 false r1.1))
def f (k:Nat):=t k (l0 k k)
end ed
namespace eC
abbrev Rs:Type:=Option ((Ty.d a_) × Int × Unit)
def t (k:Nat) (a0:Ty.d a_) (a1:ByteArray):Rs :=
 ((bS.f k a0 a1).bind fun r1 =>
 (bif (decide (r1.1≥0)) then
 ((fL.f k a0 a1).bind fun r2 =>
 (bif (r2.2.1 != 0) then
 (some r2)
 else
 ((eG.f k r2.1 a1).bind fun r3 =>
 (some r3))))
 else
 ((eG.f k a0 a1).bind fun r4 =>
 (some r4))))
def f (k:Nat):=t k
end eC
namespace cQ
abbrev Rs:Type:=Option ((Ty.d a_) × Int × Unit)
def t (k:Nat) (a0:Ty.d a_) (a1:ByteArray) (a2:ByteArray):Rs :=
 ((dE.f k a0).bind fun r1 =>
 (bif (r1.2.1 != 0) then
 (some r1)
 else
 ((bS.f k a0 a1).bind fun r2 =>
 (bif (decide (r2.1<0)) then
 (some (r1.1,(3,())))
 else
 ((dl.f k a0).bind fun r3 =>
 (bif (decide ((ByteArray.size a2:Int) > (aF (a0.2.1-r3.1)))) then
 (some (r1.1,(2,())))
 else
 (bW r2.1 (List.length a0.1:Int)
 (kC (List.getD a0.1 (Int.toNat r2.1) (Ty.z aB)).2.1 a2
 (bW r2.1 (List.length r1.1.1:Int)
 (let l4:=(List.set r1.1.1 (Int.toNat r2.1) ((List.getD r1.1.1 (Int.toNat r2.1) (Ty.z aB)).1,(((List.getD a0.1 (Int.toNat r2.1) (Ty.z aB)).2.1++a2),(List.getD r1.1.1 (Int.toNat r2.1) (Ty.z aB)).2.2)));
 (some ((l4,r1.1.2),(0,())))))))))))))
def f (k:Nat):=t k
end cQ
namespace d6
abbrev Rs:Type:=Option ((Ty.d a_) × Int × Unit)
def t (k:Nat) (a0:Ty.d a_) (a1:ByteArray):Rs :=
 ((dE.f k a0).bind fun r1 =>
 (bif (r1.2.1 != 0) then
 (some r1)
 else
 ((bS.f k a0 a1).bind fun r2 =>
 (bif (decide (r2.1<0)) then
 (some (r1.1,(3,())))
 else
 (bW r2.1 (List.length a0.1:Int)
 (bW r2.1 (List.length r1.1.1:Int)
 (let l3:=(List.set r1.1.1 (Int.toNat r2.1) ((List.getD r1.1.1 (Int.toNat r2.1) (Ty.z aB)).1,((List.getD r1.1.1 (Int.toNat r2.1) (Ty.z aB)).2.1,((ByteArray.size (List.getD a0.1 (Int.toNat r2.1) (Ty.z aB)).2.1:Int),(List.getD r1.1.1 (Int.toNat r2.1) (Ty.z aB)).2.2.2))));
 (some ((l3,r1.1.2),(0,()))))))))))
def f (k:Nat):=t k
end d6
namespace iD
abbrev Rs:Type:=Option ((Ty.d a_) × Int × Unit)
def t (k:Nat) (a0:Ty.d a_) (a1:ByteArray) (a2:ByteArray):Rs :=
 ((eC.f k a0 a1).bind fun r1 =>
 (bif (r1.2.1==0) then
 ((cQ.f k r1.1 a1 a2).bind fun r2 =>
 (bif (r2.2.1==0) then
 ((d6.f k r2.1 a1).bind fun r3 =>
 (some r3))
 else
 (some r2)))
 else
 (bif (r1.2.1==0) then
 ((d6.f k r1.1 a1).bind fun r4 =>
 (some r4))
 else
 (some r1))))
def f (k:Nat):=t k
end iD
namespace fk
abbrev Rs:Type:=Option ((Ty.d a_) × Int × Unit)
def t (k:Nat) (a0:Ty.d a_) (a1:ByteArray) (a2:ByteArray):Rs :=
 ((dE.f k a0).bind fun r1 =>
 (bif (r1.2.1 != 0) then
 (some r1)
 else
 ((eE.f k a2).bind fun r2 =>
 (bif (!r2.1) then
 (some (r1.1,(5,())))
 else
 ((bS.f k a0 a1).bind fun r3 =>
 (bif (decide (r3.1<0)) then
 (some (r1.1,(3,())))
 else
 (bif (seq a1 a2) then
 (some (r1.1,(0,())))
 else
 (bW r3.1 (List.length a0.1:Int)
 ((du.f k r1.1.1 r3.1).bind fun r4 =>
 ((bS.f k (r4.1,r1.1.2) a2).bind fun r5 =>
 (bif (decide (r5.1≥0)) then
 ((du.f k r4.1 r5.1).bind fun r6 =>
 ((b_.f k r6.1 (a2,(List.getD a0.1 (Int.toNat r3.1) (Ty.z aB)).2)).bind fun r7 =>
 (some ((r7.1,r1.1.2),(0,())))))
 else
 ((b_.f k r4.1 (a2,(List.getD a0.1 (Int.toNat r3.1) (Ty.z aB)).2)).bind fun r8 =>
 (some ((r8.1,r1.1.2),(0,())))))))))))))))
def f (k:Nat):=t k
end fk
namespace fE
abbrev Rs:Type:=Option ((Ty.d a_) × Int × Unit)
def t (k:Nat) (a0:Ty.d a_) (a1:Ty.d ay):Rs :=
 ((bh.f k a0).bind fun r1 =>
 (bif (!r1.1) then
 ((cI.f k a0).bind fun r2 =>
 (some (r2.1,(4,()))))
 else
 ((dR.f k a1).bind fun r3 =>
 (bif (!r3.1) then
 ((cI.f k a0).bind fun r4 =>
 (some (r4.1,(4,()))))
 else
 ((cV.f k a1).bind fun r5 =>
 ((iD.f k a0 (⟨#[116,101,109,112]⟩:ByteArray) r5.1).bind fun r6 =>
 (bif (r6.2.1==0) then
 ((fk.f k r6.1 (⟨#[116,101,109,112]⟩:ByteArray) (⟨#[108,105,118,101]⟩:ByteArray)).bind fun r7 =>
 ((aX.f k r7.2.1).bind fun r8 =>
 (some (r7.1,r8))))
 else
 ((aX.f k r6.2.1).bind fun r9 =>
 (some (r6.1,r9))))))))))
def f (k:Nat):=t k
end fE
namespace im
abbrev Rs:Type:=Option ((Ty.d aG) × (Ty.d a_) × Int × Unit)
def t (k:Nat) (a0:Ty.d a_):Rs :=
 ((ed.f k a0 (0,([],()))).bind fun r1 =>
 (bif (r1.2.1 != 0) then
 (some (((0,([],())),([],(0,(0,(0,()))))),r1))
 else
 ((aV.f k 1).bind fun r2 =>
 ((eG.f k r1.1 r2.1).bind fun r3 =>
 (bif (r3.2.1 != 0) then
 ((aX.f k r3.2.1).bind fun r4 =>
 (some (((0,([],())),([],(0,(0,(0,()))))),(r3.1,r4))))
 else
 ((fE.f k r3.1 (2,([1],()))).bind fun r5 =>
 (bif (r5.2.1 != 0) then
 (some (((0,([],())),([],(0,(0,(0,()))))),r5))
 else
 (some (((2,([1],())),([],(1,(0,(0,()))))),(r5.1,(0,())))))))))))
def f (k:Nat):=t k
end im
namespace bY
abbrev Rs:Type:=Option ((Ty.d ay) × Bool × Unit)
abbrev T0:Type:=ByteArray→ByteArray→Int→Int→Int→List Int→Int→List Int→Int→Rs
def b0 (k:Nat) (L0:T0):T0:=fun x0 x1 x2 x3 x4 x5 x6 x7 x8 =>
 (bif (decide (x4<x2)) then
 (bif (decide (x4<60)) then
 (mR x3 (ByteArray.size x1:Int)
 ((am.f k (ByteArray.extract x1 (Int.toNat x3) (ByteArray.size x1))).bind fun r4 =>
 (rm (Ty.bytes (.int .i64)) (List.length x7+1)
 (L0 x0 x1 x2 (aF (x3+r4.2.1)) (aF (x4+1)) x5 x6 (x7++[r4.1]) x8))))
 else
 ((cV.f k (x8,(x7,()))).bind fun r5 =>
 (bif (!(seq r5.1 x0)) then
 (some ((0,([],())),(false,())))
 else
 (some ((x8,(x7,())),(true,()))))))
 else
 ((cV.f k (x8,(x7,()))).bind fun r6 =>
 (bif (!(seq r6.1 x0)) then
 (some ((0,([],())),(false,())))
 else
 (some ((x8,(x7,())),(true,()))))))
def l0 (k:Nat):Nat→T0
 | 0=>fun _ _ _ _ _ _ _ _ _=>none
 | n+1=>b0 k (l0 k n)
def t (k:Nat) (L0:T0) (a0:ByteArray):Rs :=
 ((dm.f k a0).bind fun r1 =>
 ((am.f k r1.1).bind fun r2 =>
 (bif (r1.2.1 != (ByteArray.size a0:Int)) then
 (some ((0,([],())),(false,())))
 else
 (bif (r1.2.1==0) then
 (some ((0,([],())),(false,())))
 else
 (bif (r2.2.1==0) then
 (some ((0,([],())),(false,())))
 else
 (mR r2.2.1 (ByteArray.size r1.1:Int)
 ((am.f k (ByteArray.extract r1.1 (Int.toNat r2.2.1) (ByteArray.size r1.1))).bind fun r3 =>
 (L0 a0 r1.1 r3.1 (aF (r2.2.1+r3.2.1)) 0 [] 0 [] r2.1))))))))
def f (k:Nat):=t k (l0 k k)
end bY
namespace ip
abbrev Rs:Type:=Option ((Ty.d a_) × Int × Unit)
def t (k:Nat) (a0:Ty.d a_) (a1:ByteArray) (a2:Int):Rs :=
 ((dE.f k a0).bind fun r1 =>
 (bif (r1.2.1 != 0) then
 (some r1)
 else
 ((bS.f k a0 a1).bind fun r2 =>
 (bif (decide (r2.1<0)) then
 (some (r1.1,(3,())))
 else
 (bW r2.1 (List.length a0.1:Int)
 ((aZ.f k a2 0 (ByteArray.size (List.getD a0.1 (Int.toNat r2.1) (Ty.z aB)).2.1:Int)).bind fun r3 =>
 (bif (!r3.1) then
 (some (r1.1,(5,())))
 else
 (bW r2.1 (List.length a0.1:Int)
 (mR a2 (ByteArray.size (List.getD a0.1 (Int.toNat r2.1) (Ty.z aB)).2.1:Int)
 (bW r2.1 (List.length r1.1.1:Int)
 (let l4:=(List.set r1.1.1 (Int.toNat r2.1) ((List.getD r1.1.1 (Int.toNat r2.1) (Ty.z aB)).1,((ByteArray.extract (List.getD a0.1 (Int.toNat r2.1) (Ty.z aB)).2.1 0 (Int.toNat a2)),(List.getD r1.1.1 (Int.toNat r2.1) (Ty.z aB)).2.2)));
 (bW r2.1 (List.length a0.1:Int)
 (bW r2.1 (List.length l4:Int)
 (let l5:=(List.set l4 (Int.toNat r2.1) ((List.getD l4 (Int.toNat r2.1) (Ty.z aB)).1,((List.getD l4 (Int.toNat r2.1) (Ty.z aB)).2.1,((if a2<(List.getD a0.1 (Int.toNat r2.1) (Ty.z aB)).2.2.1 then a2 else (List.getD a0.1 (Int.toNat r2.1) (Ty.z aB)).2.2.1),(List.getD l4 (Int.toNat r2.1) (Ty.z aB)).2.2.2))));
 (some ((l5,r1.1.2),(0,())))))))))))))))))
def f (k:Nat):=t k
end ip
namespace bo
abbrev Rs:Type:=Option ((List Int) × Int × Unit)
abbrev T0:Type:=ByteArray→Int→Int→Int→List Int→Rs
def b0 (k:Nat) (L0:T0):T0:=fun x0 x1 x2 x3 x4 =>
 (bif (decide (x3<x2)) then
 (mR x1 (ByteArray.size x0:Int)
 ((am.f k (ByteArray.extract x0 (Int.toNat x1) (ByteArray.size x0))).bind fun r1 =>
 (bif (r1.2.1==0) then
 (Ks (Ty.bytes (.int .i64)) x2
 (some ((List.replicate (Int.toNat x2) (Ty.z (.int .i64))),((-1),()))))
 else
 (rm (Ty.bytes (.int .i64)) (List.length x4+1)
 (L0 x0 (aF (x1+r1.2.1)) x2 (aF (x3+1)) (x4++[r1.1]))))))
 else
 (some (x4,(x1,()))))
def l0 (k:Nat):Nat→T0
 | 0=>fun _ _ _ _ _=>none
 | n+1=>b0 k (l0 k n)
def t (k:Nat) (L0:T0) (a0:ByteArray) (a1:Int) (a2:Int):Rs :=
 (L0 a0 a1 a2 0 [])
def f (k:Nat):=t k (l0 k k)
end bo
namespace bZ
abbrev Rs:Type:=Option ((Ty.d di) × Bool × Unit)
abbrev T0:Type:=ByteArray→Int→Int→List (Ty.d aA)→Int→Int→List Int→List (Ty.d aA)→Int→Int→Rs
def b0 (k:Nat) (L0:T0):T0:=fun x0 x1 x2 x3 x4 x5 x6 x7 x8 x9 =>
 (bW 2 (x6.length:Int)
 (bif (decide (x2<(List.getD x6 2 (Ty.z (.int .i64))))) then
 (mR x1 (ByteArray.size x0:Int)
 ((cY.f k (ByteArray.extract x0 (Int.toNat x1) (ByteArray.size x0))).bind fun r2 =>
 ((bo.f k r2.2.1 0 4).bind fun r3 =>
 (bif (!r2.2.2.1) then
 (some ((0,(0,([],()))),(false,())))
 else
 (bif (decide (r3.2.1<0)) then
 (some ((0,(0,([],()))),(false,())))
 else
 (bW 0 (List.length r3.1:Int)
 (bW 1 (List.length r3.1:Int)
 (bW 2 (List.length r3.1:Int)
 (bW 3 (List.length r3.1:Int)
 (rm (Ty.bytes aA) (List.length x7+1)
 (L0 x0 (aF ((aF ((ByteArray.size x0:Int)-(ByteArray.size r2.2.1:Int)))+r3.2.1)) (aF (x2+1)) x3 x4 x5 x6 (x7++[(r2.1,((List.getD r3.1 0 (Ty.z (.int .i64))),((List.getD r3.1 1 (Ty.z (.int .i64))),((List.getD r3.1 2 (Ty.z (.int .i64))),((List.getD r3.1 3 (Ty.z (.int .i64))),())))))]) x8 x9)))))))))))
 else
 ((cN.f k (x8,(x9,(x7,())))).bind fun r4 =>
 (bif (!(seq r4.1 x0)) then
 (some ((0,(0,([],()))),(false,())))
 else
 (some ((x8,(x9,(x7,()))),(true,())))))))
def l0 (k:Nat):Nat→T0
 | 0=>fun _ _ _ _ _ _ _ _ _ _=>none
 | n+1=>b0 k (l0 k n)
def t (k:Nat) (L0:T0) (a0:ByteArray):Rs :=
 (bif (decide ((ByteArray.size a0:Int)<4)) then
 (some ((0,(0,([],()))),(false,())))
 else
 ((bo.f k a0 4 3).bind fun r1 =>
 (bif (decide (r1.2.1<0)) then
 (some ((0,(0,([],()))),(false,())))
 else
 (bW 2 (List.length r1.1:Int)
 (bif (decide ((List.getD r1.1 2 (Ty.z (.int .i64))) > 20)) then
 (some ((0,(0,([],()))),(false,())))
 else
 (bW 0 (List.length r1.1:Int)
 (bW 1 (List.length r1.1:Int)
 (L0 a0 r1.2.1 0 [] 0 0 r1.1 [] (List.getD r1.1 0 (Ty.z (.int .i64))) (List.getD r1.1 1 (Ty.z (.int .i64)))))))))))
def f (k:Nat):=t k (l0 k k)
end bZ
namespace eQ
abbrev Rs:Type:=Option (Bool × Unit)
abbrev T0:Type:=List (Ty.d aA)→List (Ty.d aA)→Int→Rs
def b0 (k:Nat) (L0:T0):T0:=fun x0 x1 x2 =>
 (bif (decide (x2<(x0.length:Int))) then
 (bW x2 (x0.length:Int)
 (bW x2 (x1.length:Int)
 (bif (!((seq (List.getD x0 (Int.toNat x2) (Ty.z aA)).1 (List.getD x1 (Int.toNat x2) (Ty.z aA)).1)&&(((List.getD x0 (Int.toNat x2) (Ty.z aA)).2.1==(List.getD x1 (Int.toNat x2) (Ty.z aA)).2.1)&&(((List.getD x0 (Int.toNat x2) (Ty.z aA)).2.2.1==(List.getD x1 (Int.toNat x2) (Ty.z aA)).2.2.1)&&(((List.getD x0 (Int.toNat x2) (Ty.z aA)).2.2.2.1==(List.getD x1 (Int.toNat x2) (Ty.z aA)).2.2.2.1)&&((List.getD x0 (Int.toNat x2) (Ty.z aA)).2.2.2.2.1==(List.getD x1 (Int.toNat x2) (Ty.z aA)).2.2.2.2.1)))))) then
 (some (false,()))
 else
 (L0 x0 x1 (aF (x2+1))))))
 else
 (some (true,())))
def l0 (k:Nat):Nat→T0
 | 0=>fun _ _ _=>none
 | n+1=>b0 k (l0 k n)
def t (k:Nat) (L0:T0) (a0:List (Ty.d aA)) (a1:List (Ty.d aA)):Rs :=
 (bif ((List.length a0:Int) != (List.length a1:Int)) then
 (some (false,()))
 else
 (L0 a0 a1 0))
def f (k:Nat):=t k (l0 k k)
end eQ
namespace i_
abbrev Rs:Type:=Option (Bool × Unit)
def t (k:Nat) (a0:Int) (a1:ByteArray) (a2:Ty.d di):Rs :=
 ((d5.f k a0 a1).bind fun r1 =>
 (bif r1.2.1 then
 (bif (r1.1.1==a2.1) then
 (bif (r1.1.2.1==a2.2.1) then
 ((eQ.f k r1.1.2.2.1 a2.2.2.1).bind fun r2 =>
 (some r2))
 else
 (some (false,())))
 else
 (some (false,())))
 else
 (some (false,()))))
def f (k:Nat):=t k
end i_
namespace bm
abbrev Rs:Type:=Option ((List (Ty.d aD)) × Unit)
abbrev T0:Type:=Int→Int→List (Ty.d aD)→List (Ty.d bM)→Rs
def b0 (k:Nat) (L0:T0):T0:=fun x0 x1 x2 x3 =>
 (bif (decide (x1<(x3.length:Int))) then
 (bW x1 (x3.length:Int)
 (bW x1 (x3.length:Int)
 (bW x1 (x3.length:Int)
 (rm (Ty.bytes aD) (List.length x2+1)
 (L0 x0 (aF (x1+1)) (x2++[(x0,((List.getD x3 (Int.toNat x1) (Ty.z bM)).1,((List.getD x3 (Int.toNat x1) (Ty.z bM)).2.1,(List.getD x3 (Int.toNat x1) (Ty.z bM)).2.2)))]) x3)))))
 else
 (some (x2,())))
def l0 (k:Nat):Nat→T0
 | 0=>fun _ _ _ _=>none
 | n+1=>b0 k (l0 k n)
def t (k:Nat) (L0:T0) (a0:Int) (a1:ByteArray):Rs :=
 ((bg.f k a1).bind fun r1 =>
 (L0 a0 0 [] r1.1))
def f (k:Nat):=t k (l0 k k)
end bm
namespace iz
abbrev Rs:Type:=Option ((List (Ty.d aD)) × Unit)
abbrev T0:Type:=List (Ty.d aD)→Int→Int→Int→List (Ty.d aD)→Rs
def b0 (k:Nat) (L0:T0):T0:=fun x0 x1 x2 x3 x4 =>
 (bif (decide (x3<x1)) then
 (bW x3 (x0.length:Int)
 (bif ((List.getD x0 (Int.toNat x3) (Ty.z aD)).2.2.2.1.2.1==x2) then
 (bif ((List.getD x0 (Int.toNat x3) (Ty.z aD)).2.2.2.1.1==3) then
 (bif ((List.getD x0 (Int.toNat x3) (Ty.z aD)).2.2.2.1.2.1==x2) then
 (bif ((List.getD x0 (Int.toNat x3) (Ty.z aD)).2.2.2.1.1==1) then
 (bW x3 (x0.length:Int)
 (rm (Ty.bytes aD) (0+1)
 (L0 x0 x1 x2 (aF (x3+1)) ([]++[(List.getD x0 (Int.toNat x3) (Ty.z aD))]))))
 else
 (bif ((List.getD x0 (Int.toNat x3) (Ty.z aD)).2.2.2.1.1==2) then
 (bW x3 (x0.length:Int)
 (rm (Ty.bytes aD) (0+1)
 (L0 x0 x1 x2 (aF (x3+1)) ([]++[(List.getD x0 (Int.toNat x3) (Ty.z aD))]))))
 else
 (L0 x0 x1 x2 (aF (x3+1)) [])))
 else
 (L0 x0 x1 x2 (aF (x3+1)) []))
 else
 (bif ((List.getD x0 (Int.toNat x3) (Ty.z aD)).2.2.2.1.2.1==x2) then
 (bif ((List.getD x0 (Int.toNat x3) (Ty.z aD)).2.2.2.1.1==1) then
 (bW x3 (x0.length:Int)
 (rm (Ty.bytes aD) (List.length x4+1)
 (L0 x0 x1 x2 (aF (x3+1)) (x4++[(List.getD x0 (Int.toNat x3) (Ty.z aD))]))))
 else
 (bif ((List.getD x0 (Int.toNat x3) (Ty.z aD)).2.2.2.1.1==2) then
 (bW x3 (x0.length:Int)
 (rm (Ty.bytes aD) (List.length x4+1)
 (L0 x0 x1 x2 (aF (x3+1)) (x4++[(List.getD x0 (Int.toNat x3) (Ty.z aD))]))))
 else
 (L0 x0 x1 x2 (aF (x3+1)) x4)))
 else
 (L0 x0 x1 x2 (aF (x3+1)) x4)))
 else
 (bif ((List.getD x0 (Int.toNat x3) (Ty.z aD)).2.2.2.1.2.1==x2) then
 (bif ((List.getD x0 (Int.toNat x3) (Ty.z aD)).2.2.2.1.1==1) then
 (bW x3 (x0.length:Int)
 (rm (Ty.bytes aD) (List.length x4+1)
 (L0 x0 x1 x2 (aF (x3+1)) (x4++[(List.getD x0 (Int.toNat x3) (Ty.z aD))]))))
 else
 (bif ((List.getD x0 (Int.toNat x3) (Ty.z aD)).2.2.2.1.1==2) then
 (bW x3 (x0.length:Int)
 (rm (Ty.bytes aD) (List.length x4+1)
 (L0 x0 x1 x2 (aF (x3+1)) (x4++[(List.getD x0 (Int.toNat x3) (Ty.z aD))]))))
 else
 (L0 x0 x1 x2 (aF (x3+1)) x4)))
 else
 (L0 x0 x1 x2 (aF (x3+1)) x4))))
 else
 (some (x4,())))
def l0 (k:Nat):Nat→T0
 | 0=>fun _ _ _ _ _=>none
 | n+1=>b0 k (l0 k n)
def t (k:Nat) (L0:T0) (a0:List (Ty.d aD)) (a1:Int) (a2:Int):Rs :=
 (L0 a0 a1 a2 0 [])
def f (k:Nat):=t k (l0 k k)
end iz
namespace gP
abbrev Rs:Type:=Option ((List (Ty.d bP)) × Unit)
abbrev T0:Type:=List (Ty.d aD)→Int→List (Ty.d bP)→Rs
def b0 (k:Nat) (L0:T0):T0:=fun x0 x1 x2 =>
 (bif (decide (x1<(x0.length:Int))) then
 (bW x1 (x0.length:Int)
 (rm (Ty.bytes bP) (List.length x2+1)
 (L0 x0 (aF (x1+1)) (x2++[(List.getD x0 (Int.toNat x1) (Ty.z aD)).2.2.2.1]))))
 else
 (some (x2,())))
def l0 (k:Nat):Nat→T0
 | 0=>fun _ _ _=>none
 | n+1=>b0 k (l0 k n)
def t (k:Nat) (L0:T0) (a0:List (Ty.d aD)):Rs :=
 (L0 a0 0 [])
def f (k:Nat):=t k (l0 k k)
end gP
namespace jR
abbrev Rs:Type:=Option (Bool × Unit)
def t (k:Nat) (a0:Ty.d bP) (a1:List (Ty.d aD)):Rs :=
 (bif (a0.2.2.2.2.1==(List.length a1:Int)) then
 ((gP.f k a1).bind fun r1 =>
 ((gG.f k r1.1).bind fun r2 =>
 (some ((a0.2.2.2.2.2.1==r2.1),()))))
 else
 (some (false,())))
def f (k:Nat):=t k
end jR
namespace dD
abbrev Rs:Type:=Option ((List (Ty.d aA)) × Unit)
abbrev T0:Type:=List (Ty.d aA)→ByteArray→Int→List (Ty.d aA)→Rs
def b0 (k:Nat) (L0:T0):T0:=fun x0 x1 x2 x3 =>
 (bif (decide (x2<(x0.length:Int))) then
 (bW x2 (x0.length:Int)
 (bif (!(seq (List.getD x0 (Int.toNat x2) (Ty.z aA)).1 x1)) then
 (bW x2 (x0.length:Int)
 (rm (Ty.bytes aA) (List.length x3+1)
 (L0 x0 x1 (aF (x2+1)) (x3++[(List.getD x0 (Int.toNat x2) (Ty.z aA))]))))
 else
 (L0 x0 x1 (aF (x2+1)) x3)))
 else
 (some (x3,())))
def l0 (k:Nat):Nat→T0
 | 0=>fun _ _ _ _=>none
 | n+1=>b0 k (l0 k n)
def t (k:Nat) (L0:T0) (a0:List (Ty.d aA)) (a1:ByteArray):Rs :=
 (L0 a0 a1 0 [])
def f (k:Nat):=t k (l0 k k)
end dD
namespace br
abbrev Rs:Type:=Option ((List (Ty.d aA)) × Unit)
abbrev T0:Type:=List (Ty.d aA)→Bool→Int→ByteArray→Int→Int→Int→Int→List (Ty.d aA)→Rs
def b0 (k:Nat) (L0:T0):T0:=fun x0 x1 x2 x3 x4 x5 x6 x7 x8 =>
 (bif (decide (x2<(x0.length:Int))) then
 (bW x2 (x0.length:Int)
 (bif (seq (List.getD x0 (Int.toNat x2) (Ty.z aA)).1 x3) then
 (L0 x0 x1 (aF (x2+1)) x3 x4 x5 x6 x7 x8)
 else
 (bif (!x1) then
 (bW x2 (x0.length:Int)
 (bif (!((nO (List.getD x0 (Int.toNat x2) (Ty.z aA)).1 x3)||(seq (List.getD x0 (Int.toNat x2) (Ty.z aA)).1 x3))) then
 (rm (Ty.bytes aA) (List.length x8+1)
 (bW x2 (x0.length:Int)
 (rm (Ty.bytes aA) (List.length (x8++[(x3,(x4,(x5,(x6,(x7,())))))])+1)
 (L0 x0 true (aF (x2+1)) x3 x4 x5 x6 x7 ((x8++[(x3,(x4,(x5,(x6,(x7,())))))])++[(List.getD x0 (Int.toNat x2) (Ty.z aA))])))))
 else
 (bW x2 (x0.length:Int)
 (rm (Ty.bytes aA) (List.length x8+1)
 (L0 x0 x1 (aF (x2+1)) x3 x4 x5 x6 x7 (x8++[(List.getD x0 (Int.toNat x2) (Ty.z aA))]))))))
 else
 (bW x2 (x0.length:Int)
 (rm (Ty.bytes aA) (List.length x8+1)
 (L0 x0 x1 (aF (x2+1)) x3 x4 x5 x6 x7 (x8++[(List.getD x0 (Int.toNat x2) (Ty.z aA))])))))))
 else
 (bif (!x1) then
 (rm (Ty.bytes aA) (List.length x8+1)
 (some ((x8++[(x3,(x4,(x5,(x6,(x7,())))))]),())))
 else
 (some (x8,()))))
def l0 (k:Nat):Nat→T0
 | 0=>fun _ _ _ _ _ _ _ _ _=>none
 | n+1=>b0 k (l0 k n)
def t (k:Nat) (L0:T0) (a0:List (Ty.d aA)) (a1:Ty.d aA):Rs :=
 (L0 a0 false 0 a1.1 a1.2.1 a1.2.2.1 a1.2.2.2.1 a1.2.2.2.2.1 [])
def f (k:Nat):=t k (l0 k k)
end br
namespace iR
abbrev Rs:Type:=Option ((List (Ty.d aA)) × Unit)
def t (k:Nat) (a0:List (Ty.d aA)) (a1:Ty.d aD):Rs :=
 (bif (a1.2.2.2.1.1==2) then
 ((dD.f k a0 a1.2.2.2.1.2.2.1).bind fun r1 =>
 (some r1))
 else
 ((br.f k a0 (a1.2.2.2.1.2.2.1,(a1.1,(a1.2.1,(a1.2.2.1,(a1.2.2.2.1.2.1,())))))).bind fun r2 =>
 (some r2)))
def f (k:Nat):=t k
end iR
namespace fV
abbrev Rs:Type:=Option ((List (Ty.d aD)) × Unit)
abbrev T0:Type:=List (Ty.d aD)→Int→Int→List (Ty.d aD)→Rs
def b0 (k:Nat) (L0:T0):T0:=fun x0 x1 x2 x3 =>
 (bif (decide (x2<x1)) then
 (bW x2 (x0.length:Int)
 (bif ((List.getD x0 (Int.toNat x2) (Ty.z aD)).2.2.2.1.1==5) then
 (bW x2 (x0.length:Int)
 (bif ((List.getD x0 (Int.toNat x2) (Ty.z aD)).2.2.2.1.1==4) then
 (bW x2 (x0.length:Int)
 (rm (Ty.bytes aD) (0+1)
 (L0 x0 x1 (aF (x2+1)) ([]++[(List.getD x0 (Int.toNat x2) (Ty.z aD))]))))
 else
 (L0 x0 x1 (aF (x2+1)) [])))
 else
 (bW x2 (x0.length:Int)
 (bif ((List.getD x0 (Int.toNat x2) (Ty.z aD)).2.2.2.1.1==4) then
 (bW x2 (x0.length:Int)
 (rm (Ty.bytes aD) (List.length x3+1)
 (L0 x0 x1 (aF (x2+1)) (x3++[(List.getD x0 (Int.toNat x2) (Ty.z aD))]))))
 else
 (L0 x0 x1 (aF (x2+1)) x3)))))
 else
 (some (x3,())))
def l0 (k:Nat):Nat→T0
 | 0=>fun _ _ _ _=>none
 | n+1=>b0 k (l0 k n)
def t (k:Nat) (L0:T0) (a0:List (Ty.d aD)) (a1:Int):Rs :=
 (L0 a0 a1 0 [])
def f (k:Nat):=t k (l0 k k)
end fV
namespace cM
abbrev Rs:Type:=Option ((Ty.d gB) × Unit)
abbrev T1:Type:=List (Ty.d aD)→Int→Int→List (Ty.d aA)→Int→Int→List (Ty.d aA)→Int→Int→List (Ty.d aD)→Rs
abbrev T0:Type:=List (Ty.d aD)→Int→List (Ty.d aA)→Int→Int→List (Ty.d aA)→Int→Int→Rs
def b1 (k:Nat) (L0:T0) (L1:T1):T1:=fun x0 x1 x2 x3 x4 x5 x6 x7 x8 x9 =>
 (bif (decide (x2<(x9.length:Int))) then
 (bW x2 (x9.length:Int)
 ((iR.f k x6 (List.getD x9 (Int.toNat x2) (Ty.z aD))).bind fun r3 =>
 (L1 x0 x1 (aF (x2+1)) x3 x4 x5 r3.1 x7 x8 x9)))
 else
 (bif (decide ((x6.length:Int) > 20)) then
 (L0 x0 (aF (x1+1)) x3 x4 x5 x6 x7 2)
 else
 (L0 x0 (aF (x1+1)) x3 x4 x5 x6 x7 x8)))
def l1 (k:Nat) (L0:T0):Nat→T1
 | 0=>fun _ _ _ _ _ _ _ _ _ _=>none
 | n+1=>b1 k L0 (l1 k L0 n)
def b0 (k:Nat) (L1:T1) (L0:T0):T0:=fun x0 x1 x2 x3 x4 x5 x6 x7 =>
 (bif (decide (x1<(x0.length:Int))) then
 (bif (x7==0) then
 (bW x1 (x0.length:Int)
 (bif ((List.getD x0 (Int.toNat x1) (Ty.z aD)).2.2.2.1.1==3) then
 ((iz.f k x0 x1 (List.getD x0 (Int.toNat x1) (Ty.z aD)).2.2.2.1.2.1).bind fun r1 =>
 ((jR.f k (List.getD x0 (Int.toNat x1) (Ty.z aD)).2.2.2.1 r1.1).bind fun r2 =>
 (bif (!r2.1) then
 (L0 x0 (aF (x1+1)) x2 x3 x4 x5 (if (List.getD x0 (Int.toNat x1) (Ty.z aD)).2.2.2.1.2.1 > x6 then (List.getD x0 (Int.toNat x1) (Ty.z aD)).2.2.2.1.2.1 else x6) x7)
 else
 (L1 x0 x1 0 x2 x3 x4 x5 (if (List.getD x0 (Int.toNat x1) (Ty.z aD)).2.2.2.1.2.1 > x6 then (List.getD x0 (Int.toNat x1) (Ty.z aD)).2.2.2.1.2.1 else x6) x7 r1.1))))
 else
 (bif ((List.getD x0 (Int.toNat x1) (Ty.z aD)).2.2.2.1.1==5) then
 ((fV.f k x0 x1).bind fun r4 =>
 ((jR.f k (List.getD x0 (Int.toNat x1) (Ty.z aD)).2.2.2.1 r4.1).bind fun r5 =>
 (bif (!r5.1) then
 (L0 x0 (aF (x1+1)) x2 x3 x4 x5 (if (List.getD x0 (Int.toNat x1) (Ty.z aD)).2.2.2.1.2.1 > x6 then (List.getD x0 (Int.toNat x1) (Ty.z aD)).2.2.2.1.2.1 else x6) 1)
 else
 (L1 x0 x1 0 x2 x3 x4 x5 (if (List.getD x0 (Int.toNat x1) (Ty.z aD)).2.2.2.1.2.1 > x6 then (List.getD x0 (Int.toNat x1) (Ty.z aD)).2.2.2.1.2.1 else x6) x7 r4.1))))
 else
 (L0 x0 (aF (x1+1)) x2 x3 x4 x5 (if (List.getD x0 (Int.toNat x1) (Ty.z aD)).2.2.2.1.2.1 > x6 then (List.getD x0 (Int.toNat x1) (Ty.z aD)).2.2.2.1.2.1 else x6) x7))))
 else
 (bif (x7==0) then
 ((fV.f k x0 (x0.length:Int)).bind fun r6 =>
 (bif (decide ((List.length r6.1:Int) > 0)) then
 (some ((x5,(x6,(1,()))),()))
 else
 (some ((x5,(x6,(x7,()))),()))))
 else
 (some ((x5,(x6,(x7,()))),()))))
 else
 (bif (x7==0) then
 ((fV.f k x0 (x0.length:Int)).bind fun r7 =>
 (bif (decide ((List.length r7.1:Int) > 0)) then
 (some ((x5,(x6,(1,()))),()))
 else
 (some ((x5,(x6,(x7,()))),()))))
 else
 (some ((x5,(x6,(x7,()))),()))))
def l0 (k:Nat):Nat→T0
 | 0=>fun _ _ _ _ _ _ _ _=>none
 | n+1=>b0 k (l1 k (l0 k n) k) (l0 k n)
def t (k:Nat) (L0:T0) (a0:Ty.d gB) (a1:List (Ty.d aD)):Rs :=
 (rm (Ty.bytes aA) (0+List.length a0.1)
 (L0 a1 0 [] 0 0 ([]++a0.1) a0.2.1 a0.2.2.1))
def f (k:Nat):=t k (l0 k k)
end cM
namespace bG
abbrev Rs:Type:=Option ((Ty.d a_) × Int × Unit)
abbrev T0:Type:=Int→List (Ty.d aB)→Int→Int→Bool→List (Ty.d aB)→Int→Int→Bool→List ByteArray→Rs
def b0 (k:Nat) (L0:T0):T0:=fun x0 x1 x2 x3 x4 x5 x6 x7 x8 x9 =>
 (bif (decide (x0<(x9.length:Int))) then
 (bW x0 (x9.length:Int)
 ((fL.f k (x1,(x2,(x3,(x4,())))) (List.getD x9 (Int.toNat x0) (Ty.z .str))).bind fun r2 =>
 (bif (r2.2.1 != 0) then
 ((aX.f k r2.2.1).bind fun r3 =>
 (some (r2.1,r3)))
 else
 (L0 (aF (x0+1)) r2.1.1 r2.1.2.1 r2.1.2.2.1 r2.1.2.2.2.1 x5 x6 x7 x8 x9))))
 else
 (some ((x1,(x2,(x3,(x4,())))),(0,()))))
def l0 (k:Nat):Nat→T0
 | 0=>fun _ _ _ _ _ _ _ _ _ _=>none
 | n+1=>b0 k (l0 k n)
def t (k:Nat) (L0:T0) (a0:Ty.d a_) (a1:Ty.d ay):Rs :=
 ((bQ.f k a0 a1).bind fun r1 =>
 (L0 0 a0.1 a0.2.1 a0.2.2.1 a0.2.2.2.1 [] 0 0 false r1.1))
def f (k:Nat):=t k (l0 k k)
end bG
namespace bd
abbrev Rs:Type:=Option ((Ty.d aG) × (Ty.d a_) × Int × Unit)
abbrev T1:Type:=Int→List Int→List (Ty.d aA)→Int→Int→Int→Int→List (Ty.d aB)→Int→Int→Bool→List Int→List (Ty.d aA)→Int→Int→Int→Int→List Int→Int→List (Ty.d aB)→Int→Int→Bool→List (Ty.d aA)→Int→Int→Int→Int→List (Ty.d aA)→Int→Int→List (Ty.d aD)→Rs
abbrev T2:Type:=Int→List Int→List (Ty.d aA)→Int→Int→Int→Int→List (Ty.d aB)→Int→Int→Bool→List Int→List (Ty.d aA)→Int→Int→Int→Int→List Int→Int→List (Ty.d aB)→Int→Int→Bool→List (Ty.d aA)→Int→Int→Int→Int→List (Ty.d aA)→Int→Int→List (Ty.d aD)→Rs
abbrev T0:Type:=Int→Int→List (Ty.d aB)→Int→Int→Bool→List Int→List (Ty.d aA)→Int→Int→Int→Int→List (Ty.d aB)→Int→Int→Bool→List Int→List (Ty.d aA)→Int→Int→Int→Int→List Int→Int→Rs
def b1 (k:Nat) (L1:T1):T1:=fun x0 x1 x2 x3 x4 x5 x6 x7 x8 x9 x10 x11 x12 x13 x14 x15 x16 x17 x18 x19 x20 x21 x22 x23 x24 x25 x26 x27 x28 x29 x30 x31 =>
 (bif (decide (x0<(x17.length:Int))) then
 (bW x0 (x17.length:Int)
 ((aV.f k (List.getD x17 (Int.toNat x0) (Ty.z (.int .i64)))).bind fun r23 =>
 ((bu.f k (x19,(x20,(x21,(x22,())))) r23.1).bind fun r24 =>
 (bW x0 (x17.length:Int)
 ((bv.f k (List.getD x17 (Int.toNat x0) (Ty.z (.int .i64)))).bind fun r25 =>
 ((bu.f k (x19,(x20,(x21,(x22,())))) r25.1).bind fun r26 =>
 ((bZ.f k r26.1).bind fun r27 =>
 (bif (x0==0) then
 (bif r26.2.1 then
 (bif r27.2.1 then
 (bW 0 (x17.length:Int)
 ((i_.f k (List.getD x17 0 (Ty.z (.int .i64))) r24.1 r27.1).bind fun r28 =>
 (bif r28.1 then
 (bW 0 (x17.length:Int)
 (L1 (aF (x0+1)) x1 x2 x3 x4 x5 x6 x7 x8 x9 x10 x11 x12 x13 x14 x15 x16 x17 x18 x19 x20 x21 x22 x23 x24 x25 x26 (List.getD x17 0 (Ty.z (.int .i64))) r27.1.2.2.1 r27.1.2.1 x30 x31))
 else
 (bW x0 (x17.length:Int)
 ((bm.f k (List.getD x17 (Int.toNat x0) (Ty.z (.int .i64))) r24.1).bind fun r29 =>
 (rm (Ty.bytes aD) (List.length x31+List.length r29.1)
 (L1 (aF (x0+1)) x1 x2 x3 x4 x5 x6 x7 x8 x9 x10 x11 x12 x13 x14 x15 x16 x17 x18 x19 x20 x21 x22 x23 x24 x25 x26 x27 x28 x29 x30 (x31++r29.1))))))))
 else
 (bW x0 (x17.length:Int)
 ((bm.f k (List.getD x17 (Int.toNat x0) (Ty.z (.int .i64))) r24.1).bind fun r30 =>
 (rm (Ty.bytes aD) (List.length x31+List.length r30.1)
 (L1 (aF (x0+1)) x1 x2 x3 x4 x5 x6 x7 x8 x9 x10 x11 x12 x13 x14 x15 x16 x17 x18 x19 x20 x21 x22 x23 x24 x25 x26 x27 x28 x29 x30 (x31++r30.1))))))
 else
 (bW x0 (x17.length:Int)
 ((bm.f k (List.getD x17 (Int.toNat x0) (Ty.z (.int .i64))) r24.1).bind fun r31 =>
 (rm (Ty.bytes aD) (List.length x31+List.length r31.1)
 (L1 (aF (x0+1)) x1 x2 x3 x4 x5 x6 x7 x8 x9 x10 x11 x12 x13 x14 x15 x16 x17 x18 x19 x20 x21 x22 x23 x24 x25 x26 x27 x28 x29 x30 (x31++r31.1))))))
 else
 (bW x0 (x17.length:Int)
 ((bm.f k (List.getD x17 (Int.toNat x0) (Ty.z (.int .i64))) r24.1).bind fun r32 =>
 (rm (Ty.bytes aD) (List.length x31+List.length r32.1)
 (L1 (aF (x0+1)) x1 x2 x3 x4 x5 x6 x7 x8 x9 x10 x11 x12 x13 x14 x15 x16 x17 x18 x19 x20 x21 x22 x23 x24 x25 x26 x27 x28 x29 x30 (x31++r32.1)))))))))))))
 else
 ((cM.f k (x28,(x29,(x30,()))) x31).bind fun r33 =>
 (bif (r33.1.2.2.1 != 0) then
 (some (((x13,(x11,())),(x12,(x14,(x15,(x16,()))))),((x19,(x20,(x21,(x22,())))),(3,()))))
 else
 ((bG.f k (x19,(x20,(x21,(x22,())))) (x18,(x17,()))).bind fun r34 =>
 (bif (r34.2.1 != 0) then
 (some (((x13,(x11,())),(x12,(x14,(x15,(x16,()))))),r34))
 else
 (some (((x24,(x17,())),(r33.1.1,((aF (r33.1.2.1+1)),(x26,(x27,()))))),(r34.1,(0,())))))))))
def l1 (k:Nat):Nat→T1
 | 0=>fun _ _ _ _ _ _ _ _ _ _ _ _ _ _ _ _ _ _ _ _ _ _ _ _ _ _ _ _ _ _ _ _=>none
 | n+1=>b1 k (l1 k n)
def b2 (k:Nat) (L2:T2):T2:=fun x0 x1 x2 x3 x4 x5 x6 x7 x8 x9 x10 x11 x12 x13 x14 x15 x16 x17 x18 x19 x20 x21 x22 x23 x24 x25 x26 x27 x28 x29 x30 x31 =>
 (bif (decide (x0<(x17.length:Int))) then
 (bW x0 (x17.length:Int)
 ((aV.f k (List.getD x17 (Int.toNat x0) (Ty.z (.int .i64)))).bind fun r38 =>
 ((bu.f k (x19,(x20,(x21,(x22,())))) r38.1).bind fun r39 =>
 (bW x0 (x17.length:Int)
 ((bv.f k (List.getD x17 (Int.toNat x0) (Ty.z (.int .i64)))).bind fun r40 =>
 ((bu.f k (x19,(x20,(x21,(x22,())))) r40.1).bind fun r41 =>
 ((bZ.f k r41.1).bind fun r42 =>
 (bif (x0==0) then
 (bif r41.2.1 then
 (bif r42.2.1 then
 (bW 0 (x17.length:Int)
 ((i_.f k (List.getD x17 0 (Ty.z (.int .i64))) r39.1 r42.1).bind fun r43 =>
 (bif r43.1 then
 (bW 0 (x17.length:Int)
 (L2 (aF (x0+1)) x1 x2 x3 x4 x5 x6 x7 x8 x9 x10 x11 x12 x13 x14 x15 x16 x17 x18 x19 x20 x21 x22 x23 x24 x25 x26 (List.getD x17 0 (Ty.z (.int .i64))) r42.1.2.2.1 r42.1.2.1 x30 x31))
 else
 (bW x0 (x17.length:Int)
 ((bm.f k (List.getD x17 (Int.toNat x0) (Ty.z (.int .i64))) r39.1).bind fun r44 =>
 (rm (Ty.bytes aD) (List.length x31+List.length r44.1)
 (L2 (aF (x0+1)) x1 x2 x3 x4 x5 x6 x7 x8 x9 x10 x11 x12 x13 x14 x15 x16 x17 x18 x19 x20 x21 x22 x23 x24 x25 x26 x27 x28 x29 x30 (x31++r44.1))))))))
 else
 (bW x0 (x17.length:Int)
 ((bm.f k (List.getD x17 (Int.toNat x0) (Ty.z (.int .i64))) r39.1).bind fun r45 =>
 (rm (Ty.bytes aD) (List.length x31+List.length r45.1)
 (L2 (aF (x0+1)) x1 x2 x3 x4 x5 x6 x7 x8 x9 x10 x11 x12 x13 x14 x15 x16 x17 x18 x19 x20 x21 x22 x23 x24 x25 x26 x27 x28 x29 x30 (x31++r45.1))))))
 else
 (bW x0 (x17.length:Int)
 ((bm.f k (List.getD x17 (Int.toNat x0) (Ty.z (.int .i64))) r39.1).bind fun r46 =>
 (rm (Ty.bytes aD) (List.length x31+List.length r46.1)
 (L2 (aF (x0+1)) x1 x2 x3 x4 x5 x6 x7 x8 x9 x10 x11 x12 x13 x14 x15 x16 x17 x18 x19 x20 x21 x22 x23 x24 x25 x26 x27 x28 x29 x30 (x31++r46.1))))))
 else
 (bW x0 (x17.length:Int)
 ((bm.f k (List.getD x17 (Int.toNat x0) (Ty.z (.int .i64))) r39.1).bind fun r47 =>
 (rm (Ty.bytes aD) (List.length x31+List.length r47.1)
 (L2 (aF (x0+1)) x1 x2 x3 x4 x5 x6 x7 x8 x9 x10 x11 x12 x13 x14 x15 x16 x17 x18 x19 x20 x21 x22 x23 x24 x25 x26 x27 x28 x29 x30 (x31++r47.1)))))))))))))
 else
 ((cM.f k (x28,(x29,(x30,()))) x31).bind fun r48 =>
 (bif (r48.1.2.2.1 != 0) then
 (some (((x13,(x11,())),(x12,(x14,(x15,(x16,()))))),((x19,(x20,(x21,(x22,())))),(3,()))))
 else
 ((bG.f k (x19,(x20,(x21,(x22,())))) (x18,(x17,()))).bind fun r49 =>
 (bif (r49.2.1 != 0) then
 (some (((x13,(x11,())),(x12,(x14,(x15,(x16,()))))),r49))
 else
 (some (((x24,(x17,())),(r48.1.1,((aF (r48.1.2.1+1)),(x26,(x27,()))))),(r49.1,(0,())))))))))
def l2 (k:Nat):Nat→T2
 | 0=>fun _ _ _ _ _ _ _ _ _ _ _ _ _ _ _ _ _ _ _ _ _ _ _ _ _ _ _ _ _ _ _ _=>none
 | n+1=>b2 k (l2 k n)
def b0 (k:Nat) (L1:T1) (L2:T2) (L0:T0):T0:=fun x0 x1 x2 x3 x4 x5 x6 x7 x8 x9 x10 x11 x12 x13 x14 x15 x16 x17 x18 x19 x20 x21 x22 x23 =>
 (bif (decide (x1<(x22.length:Int))) then
 (bW x1 (x22.length:Int)
 ((aV.f k (List.getD x22 (Int.toNat x1) (Ty.z (.int .i64)))).bind fun r8 =>
 ((bu.f k (x2,(x3,(x4,(x5,())))) r8.1).bind fun r9 =>
 ((bg.f k r9.1).bind fun r10 =>
 (bif (!r9.2.1) then
 ((cI.f k (x2,(x3,(x4,(x5,()))))).bind fun r11 =>
 (some (((x18,(x16,())),(x17,(x19,(x20,(x21,()))))),(r11.1,(3,())))))
 else
 (bW x1 (x22.length:Int)
 (bif ((List.getD x22 (Int.toNat x1) (Ty.z (.int .i64))) != x0) then
 (bif (decide (r10.2.1<(ByteArray.size r9.1:Int))) then
 ((cI.f k (x2,(x3,(x4,(x5,()))))).bind fun r12 =>
 (some (((x18,(x16,())),(x17,(x19,(x20,(x21,()))))),(r12.1,(3,())))))
 else
 (L0 x0 (aF (x1+1)) x2 x3 x4 x5 x6 x7 x8 x9 x10 x11 x12 x13 x14 x15 x16 x17 x18 x19 x20 x21 x22 x23))
 else
 (L0 x0 (aF (x1+1)) x2 x3 x4 x5 x6 x7 x8 x9 x10 x11 x12 x13 x14 x15 x16 x17 x18 x19 x20 x21 x22 x23))))))))
 else
 ((aV.f k x0).bind fun r13 =>
 ((bu.f k (x2,(x3,(x4,(x5,())))) r13.1).bind fun r14 =>
 ((bg.f k r14.1).bind fun r15 =>
 ((cI.f k (x2,(x3,(x4,(x5,()))))).bind fun r16 =>
 (bif (decide (r15.2.1<(ByteArray.size r14.1:Int))) then
 ((aV.f k x0).bind fun r17 =>
 ((ip.f k r16.1 r17.1 r15.2.1).bind fun r18 =>
 (bif (r18.2.1 != 0) then
 ((aX.f k r18.2.1).bind fun r19 =>
 (some (((x18,(x16,())),(x17,(x19,(x20,(x21,()))))),(r18.1,r19))))
 else
 ((aV.f k x0).bind fun r20 =>
 ((d6.f k r18.1 r20.1).bind fun r21 =>
 (bif (r21.2.1 != 0) then
 ((aX.f k r21.2.1).bind fun r22 =>
 (some (((x18,(x16,())),(x17,(x19,(x20,(x21,()))))),(r21.1,r22))))
 else
 (L1 0 x6 x7 x8 x9 x10 x11 x12 x13 x14 x15 x16 x17 x18 x19 x20 x21 x22 x23 r21.1.1 r21.1.2.1 r21.1.2.2.1 r21.1.2.2.2.1 [] x23 0 r15.2.1 0 [] 0 0 [])))))))
 else
 ((aV.f k x0).bind fun r35 =>
 ((d6.f k r16.1 r35.1).bind fun r36 =>
 (bif (r36.2.1 != 0) then
 ((aX.f k r36.2.1).bind fun r37 =>
 (some (((x18,(x16,())),(x17,(x19,(x20,(x21,()))))),(r36.1,r37))))
 else
 (L2 0 x6 x7 x8 x9 x10 x11 x12 x13 x14 x15 x16 x17 x18 x19 x20 x21 x22 x23 r36.1.1 r36.1.2.1 r36.1.2.2.1 r36.1.2.2.2.1 [] x23 0 r15.2.1 0 [] 0 0 []))))))))))
def l0 (k:Nat):Nat→T0
 | 0=>fun _ _ _ _ _ _ _ _ _ _ _ _ _ _ _ _ _ _ _ _ _ _ _ _=>none
 | n+1=>b0 k (l1 k k) (l2 k k) (l0 k n)
def t (k:Nat) (L0:T0) (a0:Ty.d a_):Rs :=
 ((bh.f k a0).bind fun r1 =>
 (bif (!r1.1) then
 ((cI.f k a0).bind fun r2 =>
 (some (((0,([],())),([],(0,(0,(0,()))))),(r2.1,(4,())))))
 else
 (bif a0.2.2.2.1 then
 ((cI.f k a0).bind fun r3 =>
 (some (((0,([],())),([],(0,(0,(0,()))))),(r3.1,(1,())))))
 else
 ((bu.f k a0 (⟨#[108,105,118,101]⟩:ByteArray)).bind fun r4 =>
 (bif (!r4.2.1) then
 ((im.f k a0).bind fun r5 =>
 (some r5))
 else
 ((bY.f k r4.1).bind fun r6 =>
 (bif (!r6.2.1) then
 ((cI.f k a0).bind fun r7 =>
 (some (((0,([],())),([],(0,(0,(0,()))))),(r7.1,(3,())))))
 else
 (bW (aF ((List.length r6.1.2.1:Int)-1)) (List.length r6.1.2.1:Int)
 (L0 (List.getD r6.1.2.1 (Int.toNat (aF ((List.length r6.1.2.1:Int)-1))) (Ty.z (.int .i64))) 0 a0.1 a0.2.1 a0.2.2.1 a0.2.2.2.1 [] [] 0 0 0 0 [] 0 0 false [] [] 0 0 0 0 r6.1.2.1 r6.1.1)))))))))
def f (k:Nat):=t k (l0 k k)
end bd
namespace fb
abbrev Rs:Type:=Option ((Ty.d aG) × Unit)
def t (k:Nat) (a0:Ty.d aG):Rs :=
 (rm (Ty.bytes (.int .i64)) (0+List.length a0.1.2.1)
 (rm (Ty.bytes aA) (0+List.length a0.2.1)
 (some (((a0.1.1,(([]++a0.1.2.1),())),(([]++a0.2.1),a0.2.2)),()))))
def f (k:Nat):=t k
end fb
namespace jY
abbrev Rs:Type:=Option ((Ty.d bP) × Bool × Unit)
def t (k:Nat) (a0:ByteArray) (a1:Int) (a2:Int):Rs :=
 ((aZ.f k a1 0 (ByteArray.size a0:Int)).bind fun r1 =>
 (bif (!r1.1) then
 (some ((0,(0,(ByteArray.empty,(ByteArray.empty,(0,(0,())))))),(false,())))
 else
 ((aZ.f k a2 1 (aF ((ByteArray.size a0:Int)-a1))).bind fun r2 =>
 (bif (!r2.1) then
 (some ((0,(0,(ByteArray.empty,(ByteArray.empty,(0,(0,())))))),(false,())))
 else
 (FQ a1 (aF (a1+a2)) (ByteArray.size a0:Int)
 ((dm.f k (ByteArray.extract a0 (Int.toNat a1) (Int.toNat (aF (a1+a2))))).bind fun r3 =>
 ((eS.f k r3.1).bind fun r4 =>
 (bif (r3.2.1 != a2) then
 (some ((0,(0,(ByteArray.empty,(ByteArray.empty,(0,(0,())))))),(false,())))
 else
 (bif (!r4.2.1) then
 (some ((0,(0,(ByteArray.empty,(ByteArray.empty,(0,(0,())))))),(false,())))
 else
 (some (r4.1,(true,()))))))))))))
def f (k:Nat):=t k
end jY
namespace cL
abbrev Rs:Type:=Option (Bool × Unit)
abbrev T1:Type:=Int→Int→List Int→List (Ty.d aA)→Int→Int→Int→List (Ty.d aB)→Int→Int→Bool→Rs
abbrev T0:Type:=Int→Int→List Int→List (Ty.d aA)→Int→Int→Int→List (Ty.d aB)→Int→Int→Bool→Rs
def b1 (k:Nat) (L1:T1):T1:=fun x0 x1 x2 x3 x4 x5 x6 x7 x8 x9 x10 =>
 (bif (decide (x0<(x3.length:Int))) then
 (bW x0 (x3.length:Int)
 ((aV.f k (List.getD x3 (Int.toNat x0) (Ty.z aA)).2.1).bind fun r8 =>
 ((bu.f k (x7,(x8,(x9,(x10,())))) r8.1).bind fun r9 =>
 ((jY.f k r9.1 (List.getD x3 (Int.toNat x0) (Ty.z aA)).2.2.1 (List.getD x3 (Int.toNat x0) (Ty.z aA)).2.2.2.1).bind fun r10 =>
 (bif (!r10.2.1) then
 (some (false,()))
 else
 (bif (!(seq r10.1.2.2.1 (List.getD x3 (Int.toNat x0) (Ty.z aA)).1)) then
 (some (false,()))
 else
 (bif (r10.1.2.1 != (List.getD x3 (Int.toNat x0) (Ty.z aA)).2.2.2.2.1) then
 (some (false,()))
 else
 (bif (r10.1.1 != 1) then
 (bif (r10.1.1 != 4) then
 (some (false,()))
 else
 (bif (decide ((List.getD x3 (Int.toNat x0) (Ty.z aA)).2.2.2.2.1≥x4)) then
 (some (false,()))
 else
 (L1 (aF (x0+1)) x1 x2 x3 x4 x5 x6 x7 x8 x9 x10)))
 else
 (bif (decide ((List.getD x3 (Int.toNat x0) (Ty.z aA)).2.2.2.2.1≥x4)) then
 (some (false,()))
 else
 (L1 (aF (x0+1)) x1 x2 x3 x4 x5 x6 x7 x8 x9 x10))))))))))
 else
 (some (true,())))
def l1 (k:Nat):Nat→T1
 | 0=>fun _ _ _ _ _ _ _ _ _ _ _=>none
 | n+1=>b1 k (l1 k n)
def b0 (k:Nat) (L1:T1) (L0:T0):T0:=fun x0 x1 x2 x3 x4 x5 x6 x7 x8 x9 x10 =>
 (bif (decide (x0<(x2.length:Int))) then
 (bW x0 (x2.length:Int)
 ((aV.f k (List.getD x2 (Int.toNat x0) (Ty.z (.int .i64)))).bind fun r5 =>
 ((bu.f k (x7,(x8,(x9,(x10,())))) r5.1).bind fun r6 =>
 ((bg.f k r6.1).bind fun r7 =>
 (bif (!r6.2.1) then
 (some (false,()))
 else
 (bif (decide (r7.2.1<(ByteArray.size r6.1:Int))) then
 (some (false,()))
 else
 (bif ((aF (x0+1))==(x2.length:Int)) then
 (bif (x5 != (ByteArray.size r6.1:Int)) then
 (some (false,()))
 else
 (L0 (aF (x0+1)) x1 x2 x3 x4 x5 x6 x7 x8 x9 x10))
 else
 (L0 (aF (x0+1)) x1 x2 x3 x4 x5 x6 x7 x8 x9 x10))))))))
 else
 (L1 0 x1 x2 x3 x4 x5 x6 x7 x8 x9 x10))
def l0 (k:Nat):Nat→T0
 | 0=>fun _ _ _ _ _ _ _ _ _ _ _=>none
 | n+1=>b0 k (l1 k k) (l0 k n)
def t (k:Nat) (L0:T0) (a0:Ty.d aG) (a1:Ty.d a_):Rs :=
 ((bh.f k a1).bind fun r1 =>
 (bif (!r1.1) then
 (some (false,()))
 else
 ((dR.f k a0.1).bind fun r2 =>
 (bif (!r2.1) then
 (some (false,()))
 else
 ((fK.f k a0.2.1).bind fun r3 =>
 (bif (!r3.1) then
 (some (false,()))
 else
 ((aZ.f k a0.2.2.1 1 1000001).bind fun r4 =>
 (bif (!r4.1) then
 (some (false,()))
 else
 (L0 0 a0.1.1 a0.1.2.1 a0.2.1 a0.2.2.1 a0.2.2.2.1 a0.2.2.2.2.1 a1.1 a1.2.1 a1.2.2.1 a1.2.2.2.1)))))))))
def f (k:Nat):=t k (l0 k k)
end cL
namespace gK
abbrev Rs:Type:=Option ((Ty.d aA) × Bool × Unit)
abbrev T0:Type:=List (Ty.d aA)→ByteArray→Int→ByteArray→Int→Int→Int→Int→Rs
def b0 (k:Nat) (L0:T0):T0:=fun x0 x1 x2 x3 x4 x5 x6 x7 =>
 (bif (decide (x2<(x0.length:Int))) then
 (bW x2 (x0.length:Int)
 (bif (seq (List.getD x0 (Int.toNat x2) (Ty.z aA)).1 x1) then
 (bW x2 (x0.length:Int)
 (some ((List.getD x0 (Int.toNat x2) (Ty.z aA)),(true,()))))
 else
 (L0 x0 x1 (aF (x2+1)) x3 x4 x5 x6 x7)))
 else
 (some ((ByteArray.empty,(0,(0,(0,(0,()))))),(false,()))))
def l0 (k:Nat):Nat→T0
 | 0=>fun _ _ _ _ _ _ _ _=>none
 | n+1=>b0 k (l0 k n)
def t (k:Nat) (L0:T0) (a0:List (Ty.d aA)) (a1:ByteArray):Rs :=
 (L0 a0 a1 0 ByteArray.empty 0 0 0 0)
def f (k:Nat):=t k (l0 k k)
end gK
namespace nI
abbrev Rs:Type:=Option ((Ty.d aB) × Int × Unit)
def t (k:Nat) (a0:Ty.d aG) (a1:Ty.d a_) (a2:ByteArray):Rs :=
 ((gK.f k a0.2.1 a2).bind fun r1 =>
 (bif (!r1.2.1) then
 (some ((ByteArray.empty,(ByteArray.empty,(0,()))),(8,())))
 else
 ((aV.f k r1.1.2.1).bind fun r2 =>
 ((bu.f k a1 r2.1).bind fun r3 =>
 ((jY.f k r3.1 r1.1.2.2.1 r1.1.2.2.2.1).bind fun r4 =>
 (bif (!r3.2.1) then
 (some ((ByteArray.empty,(ByteArray.empty,(0,()))),(3,())))
 else
 (bif (!r4.2.1) then
 (some ((ByteArray.empty,(ByteArray.empty,(0,()))),(3,())))
 else
 (bif (!(seq r4.1.2.2.1 a2)) then
 (some ((ByteArray.empty,(ByteArray.empty,(0,()))),(3,())))
 else
 (bif (r4.1.1 != 1) then
 (bif (r4.1.1 != 4) then
 (some ((ByteArray.empty,(ByteArray.empty,(0,()))),(3,())))
 else
 (some ((a2,(r4.1.2.2.2.1,(r4.1.2.1,()))),(0,()))))
 else
 (some ((a2,(r4.1.2.2.2.1,(r4.1.2.1,()))),(0,()))))))))))))
def f (k:Nat):=t k
end nI
namespace gu
abbrev Rs:Type:=Option ((List (Ty.d aB)) × Int × Unit)
abbrev T0:Type:=Int→Int→List Int→List (Ty.d aA)→Int→Int→Int→List (Ty.d aB)→Int→Int→Bool→List (Ty.d aB)→Rs
def b0 (k:Nat) (L0:T0):T0:=fun x0 x1 x2 x3 x4 x5 x6 x7 x8 x9 x10 x11 =>
 (bif (decide (x0<(x3.length:Int))) then
 (bW x0 (x3.length:Int)
 ((nI.f k ((x1,(x2,())),(x3,(x4,(x5,(x6,()))))) (x7,(x8,(x9,(x10,())))) (List.getD x3 (Int.toNat x0) (Ty.z aA)).1).bind fun r1 =>
 (bif (r1.2.1 != 0) then
 (some ([],r1.2))
 else
 (rm (Ty.bytes aB) (List.length x11+1)
 (L0 (aF (x0+1)) x1 x2 x3 x4 x5 x6 x7 x8 x9 x10 (x11++[r1.1]))))))
 else
 (some (x11,(0,()))))
def l0 (k:Nat):Nat→T0
 | 0=>fun _ _ _ _ _ _ _ _ _ _ _ _=>none
 | n+1=>b0 k (l0 k n)
def t (k:Nat) (L0:T0) (a0:Ty.d aG) (a1:Ty.d a_):Rs :=
 (L0 0 a0.1.1 a0.1.2.1 a0.2.1 a0.2.2.1 a0.2.2.2.1 a0.2.2.2.2.1 a1.1 a1.2.1 a1.2.2.1 a1.2.2.2.1 [])
def f (k:Nat):=t k (l0 k k)
end gu
namespace lB
abbrev Rs:Type:=Option ((Ty.d bP) × Unit)
def t (k:Nat) (a0:Ty.d aB):Rs :=
 (some ((4,(a0.2.2.1,(a0.1,(a0.2.1,(0,(0,())))))),()))
def f (k:Nat):=t k
end lB
namespace e_
abbrev Rs:Type:=Option ((Ty.d a_) × (List (Ty.d aA)) × Int × Unit)
abbrev T0:Type:=Int→List (Ty.d aB)→Int→Int→Int→Int→List (Ty.d aB)→Int→Int→Bool→List (Ty.d aA)→List (Ty.d aB)→Int→Int→Bool→List (Ty.d bP)→Rs
def b0 (k:Nat) (L0:T0):T0:=fun x0 x1 x2 x3 x4 x5 x6 x7 x8 x9 x10 x11 x12 x13 x14 x15 =>
 (bif (decide (x5<(x1.length:Int))) then
 (bif (x3==0) then
 (bW x5 (x1.length:Int)
 ((lB.f k (List.getD x1 (Int.toNat x5) (Ty.z aB))).bind fun r3 =>
 ((bL.f k r3.1).bind fun r4 =>
 ((d8.f k r4.1).bind fun r5 =>
 ((aV.f k x0).bind fun r6 =>
 ((cQ.f k (x11,(x12,(x13,(x14,())))) r6.1 r5.1).bind fun r7 =>
 (rm (Ty.bytes bP) (List.length x15+1)
 (rm (Ty.bytes aA) (List.length x10+1)
 (L0 x0 x1 x2 r7.2.1 (aF (x4+(ByteArray.size r5.1:Int))) (aF (x5+1)) x6 x7 x8 x9 (x10++[(r3.1.2.2.1,(x0,(x4,((ByteArray.size r5.1:Int),(r3.1.2.1,())))))]) r7.1.1 r7.1.2.1 r7.1.2.2.1 r7.1.2.2.2.1 (x15++[r3.1]))))))))))
 else
 (bif (x3==0) then
 ((aV.f k x0).bind fun r8 =>
 ((er.f k x15 x2 5).bind fun r9 =>
 ((bL.f k r9.1).bind fun r10 =>
 ((d8.f k r10.1).bind fun r11 =>
 ((cQ.f k (x11,(x12,(x13,(x14,())))) r8.1 r11.1).bind fun r12 =>
 (bif (r12.2.1==0) then
 ((aV.f k x0).bind fun r13 =>
 ((d6.f k r12.1 r13.1).bind fun r14 =>
 ((aX.f k r14.2.1).bind fun r15 =>
 (some (r14.1,(x10,r15))))))
 else
 ((aX.f k r12.2.1).bind fun r16 =>
 (some (r12.1,(x10,r16))))))))))
 else
 (bif (x3==0) then
 ((aV.f k x0).bind fun r17 =>
 ((d6.f k (x11,(x12,(x13,(x14,())))) r17.1).bind fun r18 =>
 ((aX.f k r18.2.1).bind fun r19 =>
 (some (r18.1,(x10,r19))))))
 else
 ((aX.f k x3).bind fun r20 =>
 (some ((x11,(x12,(x13,(x14,())))),(x10,r20)))))))
 else
 (bif (x3==0) then
 ((aV.f k x0).bind fun r21 =>
 ((er.f k x15 x2 5).bind fun r22 =>
 ((bL.f k r22.1).bind fun r23 =>
 ((d8.f k r23.1).bind fun r24 =>
 ((cQ.f k (x11,(x12,(x13,(x14,())))) r21.1 r24.1).bind fun r25 =>
 (bif (r25.2.1==0) then
 ((aV.f k x0).bind fun r26 =>
 ((d6.f k r25.1 r26.1).bind fun r27 =>
 ((aX.f k r27.2.1).bind fun r28 =>
 (some (r27.1,(x10,r28))))))
 else
 ((aX.f k r25.2.1).bind fun r29 =>
 (some (r25.1,(x10,r29))))))))))
 else
 (bif (x3==0) then
 ((aV.f k x0).bind fun r30 =>
 ((d6.f k (x11,(x12,(x13,(x14,())))) r30.1).bind fun r31 =>
 ((aX.f k r31.2.1).bind fun r32 =>
 (some (r31.1,(x10,r32))))))
 else
 ((aX.f k x3).bind fun r33 =>
 (some ((x11,(x12,(x13,(x14,())))),(x10,r33)))))))
def l0 (k:Nat):Nat→T0
 | 0=>fun _ _ _ _ _ _ _ _ _ _ _ _ _ _ _ _=>none
 | n+1=>b0 k (l0 k n)
def t (k:Nat) (L0:T0) (a0:Ty.d a_) (a1:Int) (a2:List (Ty.d aB)) (a3:Int):Rs :=
 ((aV.f k a1).bind fun r1 =>
 ((eC.f k a0 r1.1).bind fun r2 =>
 (L0 a1 a2 a3 r2.2.1 0 0 [] 0 0 false [] r2.1.1 r2.1.2.1 r2.1.2.2.1 r2.1.2.2.2.1 [])))
def f (k:Nat):=t k (l0 k k)
end e_
namespace cE
abbrev Rs:Type:=Option ((Ty.d a_) × Int × Unit)
abbrev T0:Type:=List ByteArray→Int→List (Ty.d aB)→Int→Int→Bool→List (Ty.d aB)→Int→Int→Bool→Rs
def b0 (k:Nat) (L0:T0):T0:=fun x0 x1 x2 x3 x4 x5 x6 x7 x8 x9 =>
 (bif (decide (x1<(x0.length:Int))) then
 (bW x1 (x0.length:Int)
 ((bS.f k (x2,(x3,(x4,(x5,())))) (List.getD x0 (Int.toNat x1) (Ty.z .str))).bind fun r1 =>
 (bif (decide (r1.1<0)) then
 (L0 x0 (aF (x1+1)) x2 x3 x4 x5 x6 x7 x8 x9)
 else
 (bW x1 (x0.length:Int)
 ((fL.f k (x2,(x3,(x4,(x5,())))) (List.getD x0 (Int.toNat x1) (Ty.z .str))).bind fun r2 =>
 (bif (r2.2.1 != 0) then
 (some r2)
 else
 (L0 x0 (aF (x1+1)) r2.1.1 r2.1.2.1 r2.1.2.2.1 r2.1.2.2.2.1 x6 x7 x8 x9)))))))
 else
 (some ((x2,(x3,(x4,(x5,())))),(0,()))))
def l0 (k:Nat):Nat→T0
 | 0=>fun _ _ _ _ _ _ _ _ _ _=>none
 | n+1=>b0 k (l0 k n)
def t (k:Nat) (L0:T0) (a0:Ty.d a_) (a1:List ByteArray):Rs :=
 (L0 a1 0 a0.1 a0.2.1 a0.2.2.1 a0.2.2.2.1 [] 0 0 false)
def f (k:Nat):=t k (l0 k k)
end cE
namespace dr
abbrev Rs:Type:=Option ((Ty.d aG) × (Ty.d a_) × Int × Unit)
def t (k:Nat) (a0:Ty.d aG) (a1:Ty.d a_) (a2:Int) (a3:Int):Rs :=
 (bif (a3 != 2) then
 (some (a0,(a1,(a3,()))))
 else
 ((aV.f k a2).bind fun r1 =>
 ((aV.f k (aF (a2+1))).bind fun r2 =>
 ((bv.f k a2).bind fun r3 =>
 ((cE.f k a1 [(⟨#[116,101,109,112]⟩:ByteArray),r1.1,r2.1,r3.1]).bind fun r4 =>
 (bif (r4.2.1 != 0) then
 ((aX.f k r4.2.1).bind fun r5 =>
 (some (a0,(r4.1,r5))))
 else
 (some (a0,(r4.1,(a3,()))))))))))
def f (k:Nat):=t k
end dr
namespace cA
abbrev Rs:Type:=Option ((Ty.d aG) × (Ty.d a_) × Int × Unit)
abbrev T0:Type:=Int→List Int→List (Ty.d aA)→Int→Int→Int→Int→List Int→List (Ty.d aA)→Int→Int→Int→Int→List (Ty.d aB)→Int→Int→Bool→List (Ty.d aB)→Int→Int→Bool→List Int→Rs
def b0 (k:Nat) (L0:T0):T0:=fun x0 x1 x2 x3 x4 x5 x6 x7 x8 x9 x10 x11 x12 x13 x14 x15 x16 x17 x18 x19 x20 x21 =>
 (bif (decide (x0<(x21.length:Int))) then
 (bW x0 (x21.length:Int)
 ((aV.f k (List.getD x21 (Int.toNat x0) (Ty.z (.int .i64)))).bind fun r18 =>
 (bW x0 (x21.length:Int)
 ((bv.f k (List.getD x21 (Int.toNat x0) (Ty.z (.int .i64)))).bind fun r19 =>
 ((cE.f k (x17,(x18,(x19,(x20,())))) [r18.1,r19.1]).bind fun r20 =>
 (bif (r20.2.1 != 0) then
 ((aX.f k r20.2.1).bind fun r21 =>
 (some (((x3,(x1,())),(x2,(x4,(x5,(x6,()))))),(r20.1,r21))))
 else
 (L0 (aF (x0+1)) x1 x2 x3 x4 x5 x6 x7 x8 x9 x10 x11 x12 x13 x14 x15 x16 r20.1.1 r20.1.2.1 r20.1.2.2.1 r20.1.2.2.2.1 x21)))))))
 else
 (some (((x3,(x1,())),(x2,(x4,(x5,(x6,()))))),((x17,(x18,(x19,(x20,())))),(0,())))))
def l0 (k:Nat):Nat→T0
 | 0=>fun _ _ _ _ _ _ _ _ _ _ _ _ _ _ _ _ _ _ _ _ _ _=>none
 | n+1=>b0 k (l0 k n)
def t (k:Nat) (L0:T0) (a0:Ty.d aG) (a1:Ty.d a_) (a2:List (Ty.d aB)):Rs :=
 ((e_.f k a1 a0.1.1 a2 (aF (a0.2.2.1-1))).bind fun r1 =>
 (bif (r1.2.2.1 != 0) then
 ((dr.f k (((aF (a0.1.1+2)),a0.1.2),a0.2) r1.1 a0.1.1 r1.2.2.1).bind fun r2 =>
 (some r2))
 else
 ((aV.f k (aF (a0.1.1+1))).bind fun r3 =>
 ((eC.f k r1.1 r3.1).bind fun r4 =>
 (bif (r4.2.1 != 0) then
 ((aX.f k r4.2.1).bind fun r5 =>
 ((dr.f k (((aF (a0.1.1+2)),a0.1.2),a0.2) r4.1 a0.1.1 r5.1).bind fun r6 =>
 (some r6)))
 else
 ((aV.f k a0.1.1).bind fun r7 =>
 ((bu.f k r4.1 r7.1).bind fun r8 =>
 ((d5.f k a0.1.1 r8.1).bind fun r9 =>
 ((bv.f k a0.1.1).bind fun r10 =>
 ((cN.f k r9.1).bind fun r11 =>
 ((iD.f k r4.1 r10.1 r11.1).bind fun r12 =>
 (bif (r12.2.1==2) then
 ((bv.f k a0.1.1).bind fun r13 =>
 ((cE.f k r12.1 [r13.1]).bind fun r14 =>
 (bif (r14.2.1 != 0) then
 ((aX.f k r14.2.1).bind fun r15 =>
 (some ((((aF (a0.1.1+2)),a0.1.2),a0.2),(r14.1,r15))))
 else
 (rm (Ty.bytes (.int .i64)) (0+List.length a0.1.2.1)
 ((fE.f k r14.1 ((aF (a0.1.1+2)),([a0.1.1,(aF (a0.1.1+1))],()))).bind fun r16 =>
 (bif (r16.2.1 != 0) then
 ((dr.f k (((aF (a0.1.1+2)),a0.1.2),a0.2) r16.1 a0.1.1 r16.2.1).bind fun r17 =>
 (some r17))
 else
 (L0 0 [a0.1.1,(aF (a0.1.1+1))] r1.2.1 (aF (a0.1.1+2)) a0.2.2.1 0 0 [] [] 0 0 0 0 [] 0 0 false r16.1.1 r16.1.2.1 r16.1.2.2.1 r16.1.2.2.2.1 ([]++a0.1.2.1))))))))
 else
 (bif (r12.2.1 != 0) then
 ((aX.f k r12.2.1).bind fun r22 =>
 (some ((((aF (a0.1.1+2)),a0.1.2),a0.2),(r12.1,r22))))
 else
 (rm (Ty.bytes (.int .i64)) (0+List.length a0.1.2.1)
 ((fE.f k r12.1 ((aF (a0.1.1+2)),([a0.1.1,(aF (a0.1.1+1))],()))).bind fun r23 =>
 (bif (r23.2.1 != 0) then
 ((dr.f k (((aF (a0.1.1+2)),a0.1.2),a0.2) r23.1 a0.1.1 r23.2.1).bind fun r24 =>
 (some r24))
 else
 (L0 0 [a0.1.1,(aF (a0.1.1+1))] r1.2.1 (aF (a0.1.1+2)) a0.2.2.1 0 0 [] [] 0 0 0 0 [] 0 0 false r23.1.1 r23.1.2.1 r23.1.2.2.1 r23.1.2.2.2.1 ([]++a0.1.2.1))))))))))))))))))
def f (k:Nat):=t k (l0 k k)
end cA
namespace kB
abbrev Rs:Type:=Option ((Ty.d aG) × (Ty.d a_) × Int × Unit)
def t (k:Nat) (a0:Ty.d aG) (a1:Ty.d a_):Rs :=
 ((fb.f k a0).bind fun r1 =>
 ((cI.f k a1).bind fun r2 =>
 ((cL.f k a0 a1).bind fun r3 =>
 (bif (!r3.1) then
 (some (r1.1,(r2.1,(4,()))))
 else
 (bif (decide ((aF (a0.1.1+2)) > 100000)) then
 (some (r1.1,(r2.1,(5,()))))
 else
 ((gu.f k a0 a1).bind fun r4 =>
 (bif (r4.2.1 != 0) then
 (some (r1.1,(r2.1,r4.2)))
 else
 ((cA.f k r1.1 r2.1 r4.1).bind fun r5 =>
 (some r5)))))))))
def f (k:Nat):=t k
end kB
namespace fF
abbrev Rs:Type:=Option ((Ty.d ag) × (List (Ty.d gZ)) × Unit)
abbrev T0:Type:=Int→List Int→Int→Int→List (Ty.d gZ)→Rs
def b0 (k:Nat) (L0:T0):T0:=fun x0 x1 x2 x3 x4 =>
 (bif (decide (x0 > 0)) then
 ((eP.f k (x1,(x2,(x3,())))).bind fun r2 =>
 ((bE.f k r2.1 16).bind fun r3 =>
 ((bD.f k r3.1 4).bind fun r4 =>
 (bif r4.2.1 then
 (rm (Ty.bytes gZ) (List.length x4+1)
 (L0 (aF (x0-1)) r4.1.1 r4.1.2.1 r4.1.2.2.1 (x4++[(r2.2.1,(true,(ByteArray.empty,())))])))
 else
 (rm (Ty.bytes gZ) (List.length x4+1)
 (L0 (aF (x0-1)) r4.1.1 r4.1.2.1 r4.1.2.2.1 (x4++[(r2.2.1,(false,r3.2))])))))))
 else
 (some ((x1,(x2,(x3,()))),(x4,()))))
def l0 (k:Nat):Nat→T0
 | 0=>fun _ _ _ _ _=>none
 | n+1=>b0 k (l0 k n)
def t (k:Nat) (L0:T0) (a0:Ty.d ag):Rs :=
 ((aI.f k a0 4).bind fun r1 =>
 (L0 r1.2.1 r1.1.1 r1.1.2.1 r1.1.2.2.1 []))
def f (k:Nat):=t k (l0 k k)
end fF
namespace fO
abbrev Rs:Type:=Option (Bool × Unit)
abbrev T0:Type:=List (Ty.d gZ)→Int→Rs
def b0 (k:Nat) (L0:T0):T0:=fun x0 x1 =>
 (bif (decide (x1<(x0.length:Int))) then
 (bW x1 (x0.length:Int)
 ((eO.f k (List.getD x0 (Int.toNat x1) (Ty.z gZ)).1).bind fun r1 =>
 (bif (!r1.1) then
 (some (false,()))
 else
 (bW x1 (x0.length:Int)
 (bif (decide ((ByteArray.size (List.getD x0 (Int.toNat x1) (Ty.z gZ)).2.2.1:Int) > 24)) then
 (some (false,()))
 else
 (bW x1 (x0.length:Int)
 (bif (List.getD x0 (Int.toNat x1) (Ty.z gZ)).2.1 then
 (bW x1 (x0.length:Int)
 (bif (!(seq (List.getD x0 (Int.toNat x1) (Ty.z gZ)).2.2.1 (⟨#[]⟩:ByteArray))) then
 (some (false,()))
 else
 (L0 x0 (aF (x1+1)))))
 else
 (L0 x0 (aF (x1+1))))))))))
 else
 (some (true,())))
def l0 (k:Nat):Nat→T0
 | 0=>fun _ _=>none
 | n+1=>b0 k (l0 k n)
def t (k:Nat) (L0:T0) (a0:List (Ty.d gZ)):Rs :=
 (bif (decide ((List.length a0:Int) > 8)) then
 (some (false,()))
 else
 (L0 a0 0))
def f (k:Nat):=t k (l0 k k)
end fO
namespace dI
abbrev Rs:Type:=Option (Int × Unit)
abbrev T1:Type:=List (Ty.d gZ)→Int→List (Ty.d aA)→Rs
abbrev T0:Type:=List (Ty.d aA)→List (Ty.d gZ)→Int→Rs
def b1 (k:Nat) (L1:T1):T1:=fun x0 x1 x2 =>
 (bif (decide (x1<(x0.length:Int))) then
 (bW x1 (x0.length:Int)
 (bif (List.getD x0 (Int.toNat x1) (Ty.z gZ)).2.1 then
 (bW x1 (x0.length:Int)
 ((dD.f k x2 (List.getD x0 (Int.toNat x1) (Ty.z gZ)).1).bind fun r2 =>
 (L1 x0 (aF (x1+1)) r2.1)))
 else
 (bW x1 (x0.length:Int)
 ((br.f k x2 ((List.getD x0 (Int.toNat x1) (Ty.z gZ)).1,(0,(0,(0,(0,())))))).bind fun r3 =>
 (L1 x0 (aF (x1+1)) r3.1)))))
 else
 (some ((x2.length:Int),())))
def l1 (k:Nat):Nat→T1
 | 0=>fun _ _ _=>none
 | n+1=>b1 k (l1 k n)
def b0 (k:Nat) (L1:T1):T0:=fun x0 x1 x2 =>
 (bif (decide (x2<(x1.length:Int))) then
 (bW x2 (x1.length:Int)
 (bif (List.getD x1 (Int.toNat x2) (Ty.z gZ)).2.1 then
 (bW x2 (x1.length:Int)
 ((dD.f k x0 (List.getD x1 (Int.toNat x2) (Ty.z gZ)).1).bind fun r1 =>
 (L1 x1 (aF (x2+1)) r1.1)))
 else
 (bW x2 (x1.length:Int)
 ((br.f k x0 ((List.getD x1 (Int.toNat x2) (Ty.z gZ)).1,(0,(0,(0,(0,())))))).bind fun r4 =>
 (L1 x1 (aF (x2+1)) r4.1)))))
 else
 (some ((x0.length:Int),())))
def l0 (k:Nat):Nat→T0
 | 0=>fun _ _ _=>none
 | n+1=>b0 k (l1 k n)
def t (k:Nat) (L0:T0) (a0:List (Ty.d aA)) (a1:List (Ty.d gZ)):Rs :=
 (L0 a0 a1 0)
def f (k:Nat):=t k (l0 k k)
end dI
namespace dC
abbrev Rs:Type:=Option (ByteArray × Unit)
def t (k:Nat) (a0:Ty.d aG):Rs :=
 (bW (aF ((List.length a0.1.2.1:Int)-1)) (List.length a0.1.2.1:Int)
 ((aV.f k (List.getD a0.1.2.1 (Int.toNat (aF ((List.length a0.1.2.1:Int)-1))) (Ty.z (.int .i64)))).bind fun r1 =>
 (some r1)))
def f (k:Nat):=t k
end dC
namespace fo
abbrev Rs:Type:=Option ((Ty.d aG) × (Ty.d a_) × Int × Unit)
def t (k:Nat) (a0:Ty.d aG) (a1:Ty.d a_):Rs :=
 (bif (decide ((List.length a0.1.2.1:Int)≥60)) then
 (some (a0,(a1,(5,()))))
 else
 (bif (decide (a0.1.1≥100000)) then
 (some (a0,(a1,(5,()))))
 else
 ((dC.f k a0).bind fun r1 =>
 ((d6.f k a1 r1.1).bind fun r2 =>
 (bif (r2.2.1 != 0) then
 ((aX.f k r2.2.1).bind fun r3 =>
 (some (a0,(r2.1,r3))))
 else
 ((aV.f k a0.1.1).bind fun r4 =>
 ((eC.f k r2.1 r4.1).bind fun r5 =>
 (bif (r5.2.1 != 0) then
 ((aX.f k r5.2.1).bind fun r6 =>
 (some ((((aF (a0.1.1+1)),a0.1.2),a0.2),(r5.1,r6))))
 else
 (rm (Ty.bytes (.int .i64)) (0+List.length a0.1.2.1)
 (rm (Ty.bytes (.int .i64)) (List.length ([]++a0.1.2.1)+1)
 ((fE.f k r5.1 ((aF (a0.1.1+1)),((([]++a0.1.2.1)++[a0.1.1]),()))).bind fun r7 =>
 (bif (r7.2.1==2) then
 ((aV.f k a0.1.1).bind fun r8 =>
 ((cE.f k r7.1 [(⟨#[116,101,109,112]⟩:ByteArray),r8.1]).bind fun r9 =>
 (bif (r9.2.1 != 0) then
 ((aX.f k r9.2.1).bind fun r10 =>
 (some ((((aF (a0.1.1+1)),a0.1.2),a0.2),(r9.1,r10))))
 else
 (some ((((aF (a0.1.1+1)),a0.1.2),a0.2),(r9.1,r7.2))))))
 else
 (bif (r7.2.1 != 0) then
 (some ((((aF (a0.1.1+1)),a0.1.2),a0.2),r7))
 else
 (some ((((aF (a0.1.1+1)),((([]++a0.1.2.1)++[a0.1.1]),())),(a0.2.1,(a0.2.2.1,(0,a0.2.2.2.2)))),(r7.1,(0,())))))))))))))))))
def f (k:Nat):=t k
end fo
namespace eX
abbrev Rs:Type:=Option ((Ty.d aG) × (Ty.d a_) × (Ty.d aD) × Int × Unit)
def t (k:Nat) (a0:Ty.d aG) (a1:Ty.d a_) (a2:Ty.d bP):Rs :=
 ((bL.f k a2).bind fun r1 =>
 ((d8.f k r1.1).bind fun r2 =>
 (bif (decide (a0.2.2.2.1 > 0)) then
 (bif (decide ((aF (a0.2.2.2.1+(ByteArray.size r2.1:Int))) > 200)) then
 ((fo.f k a0 a1).bind fun r3 =>
 (bif (r3.2.2.1 != 0) then
 (some (r3.1,(r3.2.1,((0,(0,(0,((0,(0,(ByteArray.empty,(ByteArray.empty,(0,(0,())))))),())))),r3.2.2))))
 else
 ((dC.f k r3.1).bind fun r4 =>
 ((cQ.f k r3.2.1 r4.1 r2.1).bind fun r5 =>
 (bif (r5.2.1 != 0) then
 ((aX.f k r5.2.1).bind fun r6 =>
 (some (r3.1,(r5.1,((0,(0,(0,((0,(0,(ByteArray.empty,(ByteArray.empty,(0,(0,())))))),())))),r6)))))
 else
 (bW (aF ((List.length r3.1.1.2.1:Int)-1)) (List.length r3.1.1.2.1:Int)
 (some ((r3.1.1,(r3.1.2.1,(r3.1.2.2.1,((aF (r3.1.2.2.2.1+(ByteArray.size r2.1:Int))),r3.1.2.2.2.2)))),(r5.1,(((List.getD r3.1.1.2.1 (Int.toNat (aF ((List.length r3.1.1.2.1:Int)-1))) (Ty.z (.int .i64))),(r3.1.2.2.2.1,((ByteArray.size r2.1:Int),(a2,())))),(0,())))))))))))
 else
 ((dC.f k a0).bind fun r7 =>
 ((cQ.f k a1 r7.1 r2.1).bind fun r8 =>
 (bif (r8.2.1 != 0) then
 ((aX.f k r8.2.1).bind fun r9 =>
 (some (a0,(r8.1,((0,(0,(0,((0,(0,(ByteArray.empty,(ByteArray.empty,(0,(0,())))))),())))),r9)))))
 else
 (bW (aF ((List.length a0.1.2.1:Int)-1)) (List.length a0.1.2.1:Int)
 (some ((a0.1,(a0.2.1,(a0.2.2.1,((aF (a0.2.2.2.1+(ByteArray.size r2.1:Int))),a0.2.2.2.2)))),(r8.1,(((List.getD a0.1.2.1 (Int.toNat (aF ((List.length a0.1.2.1:Int)-1))) (Ty.z (.int .i64))),(a0.2.2.2.1,((ByteArray.size r2.1:Int),(a2,())))),(0,()))))))))))
 else
 ((dC.f k a0).bind fun r10 =>
 ((cQ.f k a1 r10.1 r2.1).bind fun r11 =>
 (bif (r11.2.1 != 0) then
 ((aX.f k r11.2.1).bind fun r12 =>
 (some (a0,(r11.1,((0,(0,(0,((0,(0,(ByteArray.empty,(ByteArray.empty,(0,(0,())))))),())))),r12)))))
 else
 (bW (aF ((List.length a0.1.2.1:Int)-1)) (List.length a0.1.2.1:Int)
 (some ((a0.1,(a0.2.1,(a0.2.2.1,((aF (a0.2.2.2.1+(ByteArray.size r2.1:Int))),a0.2.2.2.2)))),(r11.1,(((List.getD a0.1.2.1 (Int.toNat (aF ((List.length a0.1.2.1:Int)-1))) (Ty.z (.int .i64))),(a0.2.2.2.1,((ByteArray.size r2.1:Int),(a2,())))),(0,()))))))))))))
def f (k:Nat):=t k
end eX
namespace bf
abbrev Rs:Type:=Option ((Ty.d aG) × (Ty.d a_) × Int × Unit)
abbrev T0:Type:=Int→Int→List (Ty.d gZ)→List Int→List (Ty.d aA)→Int→Int→Int→Int→List (Ty.d aB)→Int→Int→Bool→List Int→List (Ty.d aA)→Int→Int→Int→Int→List (Ty.d aB)→Int→Int→Bool→List (Ty.d bP)→List (Ty.d aA)→Rs
def b0 (k:Nat) (L0:T0):T0:=fun x0 x1 x2 x3 x4 x5 x6 x7 x8 x9 x10 x11 x12 x13 x14 x15 x16 x17 x18 x19 x20 x21 x22 x23 x24 =>
 (bif (decide (x1<(x2.length:Int))) then
 (bW x1 (x2.length:Int)
 (bW x1 (x2.length:Int)
 (bW x1 (x2.length:Int)
 (bif (List.getD x2 (Int.toNat x1) (Ty.z gZ)).2.1 then
 ((eX.f k ((x5,(x3,())),(x4,(x6,(x7,(x8,()))))) (x9,(x10,(x11,(x12,())))) (2,(x0,((List.getD x2 (Int.toNat x1) (Ty.z gZ)).1,((List.getD x2 (Int.toNat x1) (Ty.z gZ)).2.2.1,(0,(0,()))))))).bind fun r1 =>
 (bif (r1.2.2.2.1 != 0) then
 (some (r1.1,(r1.2.1,r1.2.2.2)))
 else
 ((iR.f k x24 r1.2.2.1).bind fun r2 =>
 (rm (Ty.bytes bP) (List.length x23+1)
 (L0 x0 (aF (x1+1)) x2 r1.1.1.2.1 r1.1.2.1 r1.1.1.1 r1.1.2.2.1 r1.1.2.2.2.1 r1.1.2.2.2.2.1 r1.2.1.1 r1.2.1.2.1 r1.2.1.2.2.1 r1.2.1.2.2.2.1 x13 x14 x15 x16 x17 x18 x19 x20 x21 x22 (x23++[(2,(x0,((List.getD x2 (Int.toNat x1) (Ty.z gZ)).1,((List.getD x2 (Int.toNat x1) (Ty.z gZ)).2.2.1,(0,(0,()))))))]) r2.1)))))
 else
 ((eX.f k ((x5,(x3,())),(x4,(x6,(x7,(x8,()))))) (x9,(x10,(x11,(x12,())))) (1,(x0,((List.getD x2 (Int.toNat x1) (Ty.z gZ)).1,((List.getD x2 (Int.toNat x1) (Ty.z gZ)).2.2.1,(0,(0,()))))))).bind fun r3 =>
 (bif (r3.2.2.2.1 != 0) then
 (some (r3.1,(r3.2.1,r3.2.2.2)))
 else
 ((iR.f k x24 r3.2.2.1).bind fun r4 =>
 (rm (Ty.bytes bP) (List.length x23+1)
 (L0 x0 (aF (x1+1)) x2 r3.1.1.2.1 r3.1.2.1 r3.1.1.1 r3.1.2.2.1 r3.1.2.2.2.1 r3.1.2.2.2.2.1 r3.2.1.1 r3.2.1.2.1 r3.2.1.2.2.1 r3.2.1.2.2.2.1 x13 x14 x15 x16 x17 x18 x19 x20 x21 x22 (x23++[(1,(x0,((List.getD x2 (Int.toNat x1) (Ty.z gZ)).1,((List.getD x2 (Int.toNat x1) (Ty.z gZ)).2.2.1,(0,(0,()))))))]) r4.1)))))))))
 else
 ((er.f k x23 x0 3).bind fun r5 =>
 ((eX.f k ((x5,(x3,())),(x4,(x6,(x7,(x8,()))))) (x9,(x10,(x11,(x12,())))) r5.1).bind fun r6 =>
 (bif (r6.2.2.2.1 != 0) then
 (some (r6.1,(r6.2.1,r6.2.2.2)))
 else
 ((dC.f k r6.1).bind fun r7 =>
 ((d6.f k r6.2.1 r7.1).bind fun r8 =>
 (bif (r8.2.1 != 0) then
 ((aX.f k r8.2.1).bind fun r9 =>
 (some (r6.1,(r8.1,r9))))
 else
 (some ((r6.1.1,(x24,r6.1.2.2)),(r8.1,(0,())))))))))))
def l0 (k:Nat):Nat→T0
 | 0=>fun _ _ _ _ _ _ _ _ _ _ _ _ _ _ _ _ _ _ _ _ _ _ _ _ _=>none
 | n+1=>b0 k (l0 k n)
def t (k:Nat) (L0:T0) (a0:Ty.d aG) (a1:Ty.d a_) (a2:List (Ty.d gZ)):Rs :=
 (rm (Ty.bytes aA) (0+List.length a0.2.1)
 (L0 a0.2.2.1 0 a2 a0.1.2.1 a0.2.1 a0.1.1 (aF (a0.2.2.1+1)) a0.2.2.2.1 a0.2.2.2.2.1 a1.1 a1.2.1 a1.2.2.1 a1.2.2.2.1 [] [] 0 0 0 0 [] 0 0 false [] ([]++a0.2.1)))
def f (k:Nat):=t k (l0 k k)
end bf
namespace gU
abbrev Rs:Type:=Option ((Ty.d aG) × (Ty.d a_) × Int × Unit)
def t (k:Nat) (a0:Ty.d aG) (a1:Ty.d a_) (a2:List (Ty.d gZ)):Rs :=
 ((fb.f k a0).bind fun r1 =>
 ((cI.f k a1).bind fun r2 =>
 ((cL.f k a0 a1).bind fun r3 =>
 (bif (!r3.1) then
 (some (r1.1,(r2.1,(4,()))))
 else
 ((fO.f k a2).bind fun r4 =>
 (bif (!r4.1) then
 (some (r1.1,(r2.1,(4,()))))
 else
 (bif ((List.length a2:Int)==0) then
 (some (r1.1,(r2.1,(0,()))))
 else
 ((dI.f k a0.2.1 a2).bind fun r5 =>
 (bif (decide (r5.1 > 20)) then
 (some (r1.1,(r2.1,(5,()))))
 else
 (bif (decide (a0.2.2.1 > 1000000)) then
 (some (r1.1,(r2.1,(5,()))))
 else
 ((bf.f k r1.1 r2.1 a2).bind fun r6 =>
 (some r6))))))))))))
def f (k:Nat):=t k
end gU
namespace cB
abbrev Rs:Type:=Option ((Ty.d ag) × (Ty.d aG) × (Ty.d a_) × Unit)
abbrev T1:Type:=Int→List Int→Int→Int→List Int→List (Ty.d aA)→Int→Int→Int→Int→List (Ty.d aB)→Int→Int→Bool→List Int→List (Ty.d aA)→Int→Int→Int→Int→List (Ty.d aB)→Int→Int→Bool→Rs
abbrev T0:Type:=Int→List Int→Int→Int→List Int→List (Ty.d aA)→Int→Int→Int→Int→List (Ty.d aB)→Int→Int→Bool→Int→List Int→List (Ty.d aA)→Int→Int→Int→List (Ty.d aB)→Int→Int→Bool→Rs
def b1 (k:Nat) (L1:T1):T1:=fun x0 x1 x2 x3 x4 x5 x6 x7 x8 x9 x10 x11 x12 x13 x14 x15 x16 x17 x18 x19 x20 x21 x22 x23 =>
 (bif (decide (x0 > 0)) then
 (bif ((x14.length:Int)==0) then
 (some ((x1,(x2,(x3,()))),(((x16,(x14,())),(x15,(x17,(x18,(x19,()))))),((x20,(x21,(x22,(x23,())))),()))))
 else
 ((bD.f k (x1,(x2,(x3,()))) 6).bind fun r7 =>
 (bif r7.2.1 then
 ((kB.f k ((x16,(x14,())),(x15,(x17,(x18,(x19,()))))) (x20,(x21,(x22,(x23,()))))).bind fun r8 =>
 (L1 (aF (x0-1)) r7.1.1 r7.1.2.1 r7.1.2.2.1 x4 x5 x6 x7 x8 x9 x10 x11 x12 x13 r8.1.1.2.1 r8.1.2.1 r8.1.1.1 r8.1.2.2.1 r8.1.2.2.2.1 r8.1.2.2.2.2.1 r8.2.1.1 r8.2.1.2.1 r8.2.1.2.2.1 r8.2.1.2.2.2.1))
 else
 ((fF.f k r7.1).bind fun r9 =>
 ((gU.f k ((x16,(x14,())),(x15,(x17,(x18,(x19,()))))) (x20,(x21,(x22,(x23,())))) r9.2.1).bind fun r10 =>
 (L1 (aF (x0-1)) r9.1.1 r9.1.2.1 r9.1.2.2.1 x4 x5 x6 x7 x8 x9 x10 x11 x12 x13 r10.1.1.2.1 r10.1.2.1 r10.1.1.1 r10.1.2.2.1 r10.1.2.2.2.1 r10.1.2.2.2.2.1 r10.2.1.1 r10.2.1.2.1 r10.2.1.2.2.1 r10.2.1.2.2.2.1))))))
 else
 (some ((x1,(x2,(x3,()))),(((x16,(x14,())),(x15,(x17,(x18,(x19,()))))),((x20,(x21,(x22,(x23,())))),())))))
def l1 (k:Nat):Nat→T1
 | 0=>fun _ _ _ _ _ _ _ _ _ _ _ _ _ _ _ _ _ _ _ _ _ _ _ _=>none
 | n+1=>b1 k (l1 k n)
def b0 (k:Nat) (L1:T1):T0:=fun x0 x1 x2 x3 x4 x5 x6 x7 x8 x9 x10 x11 x12 x13 x14 x15 x16 x17 x18 x19 x20 x21 x22 x23 =>
 (bif (decide (x0 > 0)) then
 (bif ((x15.length:Int)==0) then
 (some ((x1,(x2,(x3,()))),(((x14,(x15,())),(x16,(x17,(x18,(x19,()))))),((x20,(x21,(x22,(x23,())))),()))))
 else
 ((bD.f k (x1,(x2,(x3,()))) 6).bind fun r5 =>
 (bif r5.2.1 then
 ((kB.f k ((x14,(x15,())),(x16,(x17,(x18,(x19,()))))) (x20,(x21,(x22,(x23,()))))).bind fun r6 =>
 (L1 (aF (x0-1)) r5.1.1 r5.1.2.1 r5.1.2.2.1 x4 x5 x6 x7 x8 x9 x10 x11 x12 x13 r6.1.1.2.1 r6.1.2.1 r6.1.1.1 r6.1.2.2.1 r6.1.2.2.2.1 r6.1.2.2.2.2.1 r6.2.1.1 r6.2.1.2.1 r6.2.1.2.2.1 r6.2.1.2.2.2.1))
 else
 ((fF.f k r5.1).bind fun r11 =>
 ((gU.f k ((x14,(x15,())),(x16,(x17,(x18,(x19,()))))) (x20,(x21,(x22,(x23,())))) r11.2.1).bind fun r12 =>
 (L1 (aF (x0-1)) r11.1.1 r11.1.2.1 r11.1.2.2.1 x4 x5 x6 x7 x8 x9 x10 x11 x12 x13 r12.1.1.2.1 r12.1.2.1 r12.1.1.1 r12.1.2.2.1 r12.1.2.2.2.1 r12.1.2.2.2.2.1 r12.2.1.1 r12.2.1.2.1 r12.2.1.2.2.1 r12.2.1.2.2.2.1))))))
 else
 (some ((x1,(x2,(x3,()))),(((x14,(x15,())),(x16,(x17,(x18,(x19,()))))),((x20,(x21,(x22,(x23,())))),())))))
def l0 (k:Nat):Nat→T0
 | 0=>fun _ _ _ _ _ _ _ _ _ _ _ _ _ _ _ _ _ _ _ _ _ _ _ _=>none
 | n+1=>b0 k (l1 k n)
def t (k:Nat) (L0:T0) (a0:Ty.d ag):Rs :=
 ((cG.f k a0 [100000,100000,400,250]).bind fun r1 =>
 ((eR.f k r1.2.1).bind fun r2 =>
 ((bd.f k r2.1).bind fun r3 =>
 ((aI.f k r1.1 7).bind fun r4 =>
 (L0 r4.2.1 r4.1.1 r4.1.2.1 r4.1.2.2.1 [] [] 0 0 0 0 [] 0 0 false r3.1.1.1 r3.1.1.2.1 r3.1.2.1 r3.1.2.2.1 r3.1.2.2.2.1 r3.1.2.2.2.2.1 r3.2.1.1 r3.2.1.2.1 r3.2.1.2.2.1 r3.2.1.2.2.2.1)))))
def f (k:Nat):=t k (l0 k k)
end cB
namespace jQ
abbrev Rs:Type:=Option ((Ty.d ag) × (Ty.d aA) × Unit)
def t (k:Nat) (a0:Ty.d ag):Rs :=
 ((eP.f k a0).bind fun r1 =>
 ((aI.f k r1.1 4).bind fun r2 =>
 ((aI.f k r2.1 90).bind fun r3 =>
 ((aI.f k r3.1 30).bind fun r4 =>
 ((aI.f k r4.1 9).bind fun r5 =>
 (some (r5.1,((r1.2.1,((aF (1+r2.2.1)),(r3.2.1,((aF (8+r4.2.1)),((aF (1+r5.2.1)),()))))),()))))))))
def f (k:Nat):=t k
end jQ
namespace gq
abbrev Rs:Type:=Option ((Ty.d ag) × (List (Ty.d aA)) × Unit)
abbrev T0:Type:=Int→List Int→Int→Int→List (Ty.d aA)→Rs
def b0 (k:Nat) (L0:T0):T0:=fun x0 x1 x2 x3 x4 =>
 (bif (decide (x0 > 0)) then
 ((jQ.f k (x1,(x2,(x3,())))).bind fun r2 =>
 ((br.f k x4 r2.2.1).bind fun r3 =>
 (L0 (aF (x0-1)) r2.1.1 r2.1.2.1 r2.1.2.2.1 r3.1)))
 else
 (bif (decide ((x4.length:Int) > 0)) then
 ((bD.f k (x1,(x2,(x3,()))) 8).bind fun r4 =>
 (bif r4.2.1 then
 ((aI.f k r4.1 (x4.length:Int)).bind fun r5 =>
 ((aI.f k r5.1 4).bind fun r6 =>
 (bif (r6.2.1==0) then
 ((eM.f k r6.1 [(⟨#[]⟩:ByteArray),(⟨#[122,122,122,122,122,122,122,122,122]⟩:ByteArray),(⟨#[97]⟩:ByteArray)]).bind fun r7 =>
 (bW r5.2.1 (x4.length:Int)
 (let l8:=(List.set x4 (Int.toNat r5.2.1) (r7.2.1,(List.getD x4 (Int.toNat r5.2.1) (Ty.z aA)).2));
 (some (r7.1,(l8,()))))))
 else
 (bif (r6.2.1==1) then
 (bW r5.2.1 (x4.length:Int)
 (let l9:=(List.set x4 (Int.toNat r5.2.1) ((List.getD x4 (Int.toNat r5.2.1) (Ty.z aA)).1,(0,(List.getD x4 (Int.toNat r5.2.1) (Ty.z aA)).2.2)));
 (some (r6.1,(l9,())))))
 else
 (bif (r6.2.1==2) then
 ((cG.f k r6.1 [0,210,211]).bind fun r10 =>
 (bW r5.2.1 (x4.length:Int)
 (let l11:=(List.set x4 (Int.toNat r5.2.1) ((List.getD x4 (Int.toNat r5.2.1) (Ty.z aA)).1,((List.getD x4 (Int.toNat r5.2.1) (Ty.z aA)).2.1,((List.getD x4 (Int.toNat r5.2.1) (Ty.z aA)).2.2.1,(r10.2.1,(List.getD x4 (Int.toNat r5.2.1) (Ty.z aA)).2.2.2.2)))));
 (some (r10.1,(l11,()))))))
 else
 ((cG.f k r6.1 [0,1000001]).bind fun r12 =>
 (bW r5.2.1 (x4.length:Int)
 (let l13:=(List.set x4 (Int.toNat r5.2.1) ((List.getD x4 (Int.toNat r5.2.1) (Ty.z aA)).1,((List.getD x4 (Int.toNat r5.2.1) (Ty.z aA)).2.1,((List.getD x4 (Int.toNat r5.2.1) (Ty.z aA)).2.2.1,((List.getD x4 (Int.toNat r5.2.1) (Ty.z aA)).2.2.2.1,r12.2)))));
 (some (r12.1,(l13,())))))))))))
 else
 (some (r4.1,(x4,())))))
 else
 (some ((x1,(x2,(x3,()))),(x4,())))))
def l0 (k:Nat):Nat→T0
 | 0=>fun _ _ _ _ _=>none
 | n+1=>b0 k (l0 k n)
def t (k:Nat) (L0:T0) (a0:Ty.d ag):Rs :=
 ((aI.f k a0 7).bind fun r1 =>
 (L0 r1.2.1 r1.1.1 r1.1.2.1 r1.1.2.2.1 []))
def f (k:Nat):=t k (l0 k k)
end gq
namespace gJ
abbrev Rs:Type:=Option ((Ty.d ag) × ByteArray × Unit)
def t (k:Nat) (a0:Ty.d ag):Rs :=
 ((eM.f k a0 [(⟨#[108,105,118,101]⟩:ByteArray),(⟨#[115,101,103,49]⟩:ByteArray),(⟨#[115,101,103,50]⟩:ByteArray),(⟨#[115,101,103,51]⟩:ByteArray),(⟨#[116,101,109,112]⟩:ByteArray),(⟨#[104,105,110,116,49]⟩:ByteArray),(⟨#[120]⟩:ByteArray),(⟨#[97,57]⟩:ByteArray)]).bind fun r1 =>
 (some r1))
def f (k:Nat):=t k
end gJ
namespace eD
abbrev Rs:Type:=Option ((Ty.d ag) × (Ty.d a_) × Unit)
abbrev T0:Type:=Int→List Int→Int→Int→List (Ty.d aB)→Int→Int→Bool→List (Ty.d aB)→Int→Int→Bool→Rs
def b0 (k:Nat) (L0:T0):T0:=fun x0 x1 x2 x3 x4 x5 x6 x7 x8 x9 x10 x11 =>
 (bif (decide (x0 > 0)) then
 ((gJ.f k (x1,(x2,(x3,())))).bind fun r3 =>
 ((aI.f k r3.1 6).bind fun r4 =>
 (bif (r4.2.1==0) then
 (bif (r4.2.1==0) then
 ((eG.f k (x8,(x9,(x10,(x11,())))) r3.2.1).bind fun r5 =>
 (L0 (aF (x0-1)) r4.1.1 r4.1.2.1 r4.1.2.2.1 x4 x5 x6 x7 r5.1.1 r5.1.2.1 r5.1.2.2.1 r5.1.2.2.2.1))
 else
 (bif (r4.2.1==2) then
 (bif (r4.2.1==2) then
 ((bE.f k r4.1 9).bind fun r6 =>
 ((cQ.f k (x8,(x9,(x10,(x11,())))) r3.2.1 r6.2.1).bind fun r7 =>
 (L0 (aF (x0-1)) r6.1.1 r6.1.2.1 r6.1.2.2.1 x4 x5 x6 x7 r7.1.1 r7.1.2.1 r7.1.2.2.1 r7.1.2.2.2.1)))
 else
 (bif (r4.2.1==4) then
 ((d6.f k (x8,(x9,(x10,(x11,())))) r3.2.1).bind fun r8 =>
 (L0 (aF (x0-1)) r4.1.1 r4.1.2.1 r4.1.2.2.1 x4 x5 x6 x7 r8.1.1 r8.1.2.1 r8.1.2.2.1 r8.1.2.2.2.1))
 else
 ((gJ.f k r4.1).bind fun r9 =>
 ((fk.f k (x8,(x9,(x10,(x11,())))) r3.2.1 r9.2.1).bind fun r10 =>
 (L0 (aF (x0-1)) r9.1.1 r9.1.2.1 r9.1.2.2.1 x4 x5 x6 x7 r10.1.1 r10.1.2.1 r10.1.2.2.1 r10.1.2.2.2.1)))))
 else
 (bif (r4.2.1==3) then
 ((bE.f k r4.1 9).bind fun r11 =>
 ((cQ.f k (x8,(x9,(x10,(x11,())))) r3.2.1 r11.2.1).bind fun r12 =>
 (L0 (aF (x0-1)) r11.1.1 r11.1.2.1 r11.1.2.2.1 x4 x5 x6 x7 r12.1.1 r12.1.2.1 r12.1.2.2.1 r12.1.2.2.2.1)))
 else
 (bif (r4.2.1==4) then
 ((d6.f k (x8,(x9,(x10,(x11,())))) r3.2.1).bind fun r13 =>
 (L0 (aF (x0-1)) r4.1.1 r4.1.2.1 r4.1.2.2.1 x4 x5 x6 x7 r13.1.1 r13.1.2.1 r13.1.2.2.1 r13.1.2.2.2.1))
 else
 ((gJ.f k r4.1).bind fun r14 =>
 ((fk.f k (x8,(x9,(x10,(x11,())))) r3.2.1 r14.2.1).bind fun r15 =>
 (L0 (aF (x0-1)) r14.1.1 r14.1.2.1 r14.1.2.2.1 x4 x5 x6 x7 r15.1.1 r15.1.2.1 r15.1.2.2.1 r15.1.2.2.2.1)))))))
 else
 (bif (r4.2.1==1) then
 ((eG.f k (x8,(x9,(x10,(x11,())))) r3.2.1).bind fun r16 =>
 (L0 (aF (x0-1)) r4.1.1 r4.1.2.1 r4.1.2.2.1 x4 x5 x6 x7 r16.1.1 r16.1.2.1 r16.1.2.2.1 r16.1.2.2.2.1))
 else
 (bif (r4.2.1==2) then
 (bif (r4.2.1==2) then
 ((bE.f k r4.1 9).bind fun r17 =>
 ((cQ.f k (x8,(x9,(x10,(x11,())))) r3.2.1 r17.2.1).bind fun r18 =>
 (L0 (aF (x0-1)) r17.1.1 r17.1.2.1 r17.1.2.2.1 x4 x5 x6 x7 r18.1.1 r18.1.2.1 r18.1.2.2.1 r18.1.2.2.2.1)))
 else
 (bif (r4.2.1==4) then
 ((d6.f k (x8,(x9,(x10,(x11,())))) r3.2.1).bind fun r19 =>
 (L0 (aF (x0-1)) r4.1.1 r4.1.2.1 r4.1.2.2.1 x4 x5 x6 x7 r19.1.1 r19.1.2.1 r19.1.2.2.1 r19.1.2.2.2.1))
 else
 ((gJ.f k r4.1).bind fun r20 =>
 ((fk.f k (x8,(x9,(x10,(x11,())))) r3.2.1 r20.2.1).bind fun r21 =>
 (L0 (aF (x0-1)) r20.1.1 r20.1.2.1 r20.1.2.2.1 x4 x5 x6 x7 r21.1.1 r21.1.2.1 r21.1.2.2.1 r21.1.2.2.2.1)))))
 else
 (bif (r4.2.1==3) then
 ((bE.f k r4.1 9).bind fun r22 =>
 ((cQ.f k (x8,(x9,(x10,(x11,())))) r3.2.1 r22.2.1).bind fun r23 =>
 (L0 (aF (x0-1)) r22.1.1 r22.1.2.1 r22.1.2.2.1 x4 x5 x6 x7 r23.1.1 r23.1.2.1 r23.1.2.2.1 r23.1.2.2.2.1)))
 else
 (bif (r4.2.1==4) then
 ((d6.f k (x8,(x9,(x10,(x11,())))) r3.2.1).bind fun r24 =>
 (L0 (aF (x0-1)) r4.1.1 r4.1.2.1 r4.1.2.2.1 x4 x5 x6 x7 r24.1.1 r24.1.2.1 r24.1.2.2.1 r24.1.2.2.2.1))
 else
 ((gJ.f k r4.1).bind fun r25 =>
 ((fk.f k (x8,(x9,(x10,(x11,())))) r3.2.1 r25.2.1).bind fun r26 =>
 (L0 (aF (x0-1)) r25.1.1 r25.1.2.1 r25.1.2.2.1 x4 x5 x6 x7 r26.1.1 r26.1.2.1 r26.1.2.2.1 r26.1.2.2.2.1))))))))))
 else
 (some ((x1,(x2,(x3,()))),((x8,(x9,(x10,(x11,())))),()))))
def l0 (k:Nat):Nat→T0
 | 0=>fun _ _ _ _ _ _ _ _ _ _ _ _=>none
 | n+1=>b0 k (l0 k n)
def t (k:Nat) (L0:T0) (a0:Ty.d ag):Rs :=
 ((eR.f k 200).bind fun r1 =>
 ((aI.f k a0 12).bind fun r2 =>
 (L0 r2.2.1 r2.1.1 r2.1.2.1 r2.1.2.2.1 [] 0 0 false r1.1.1 r1.1.2.1 r1.1.2.2.1 r1.1.2.2.2.1)))
def f (k:Nat):=t k (l0 k k)
end eD
namespace gy
abbrev Rs:Type:=Option ((Ty.d ag) × (Ty.d a_) × Unit)
abbrev T0:Type:=Int→List Int→Int→Int→List (Ty.d aB)→Int→Int→Bool→List (Ty.d aB)→Int→Int→Bool→Rs
def b0 (k:Nat) (L0:T0):T0:=fun x0 x1 x2 x3 x4 x5 x6 x7 x8 x9 x10 x11 =>
 ((aI.f k (x1,(x2,(x3,()))) 3).bind fun r11 =>
 (bif (decide (x0<(aF (129+r11.2.1)))) then
 (bif (decide ((x8.length:Int)<131)) then
 ((da.f k (aF (100+x0))).bind fun r12 =>
 (kC (⟨#[121]⟩:ByteArray) r12.1
 (rm (Ty.bytes aB) (List.length x8+1)
 (L0 (aF (x0+1)) r11.1.1 r11.1.2.1 r11.1.2.2.1 x4 x5 x6 x7 (x8++[(((⟨#[121]⟩:ByteArray)++r12.1),(ByteArray.empty,(0,())))]) x9 x10 x11))))
 else
 (some (r11.1,((x8,(x9,(x10,(x11,())))),()))))
 else
 (some (r11.1,((x8,(x9,(x10,(x11,())))),())))))
def l0 (k:Nat):Nat→T0
 | 0=>fun _ _ _ _ _ _ _ _ _ _ _ _=>none
 | n+1=>b0 k (l0 k n)
def t (k:Nat) (L0:T0) (a0:Ty.d ag):Rs :=
 ((eD.f k a0).bind fun r1 =>
 ((aI.f k r1.1 14).bind fun r2 =>
 (bif (r2.2.1==0) then
 ((cG.f k r2.1 [0,1,(-2),(-1)]).bind fun r3 =>
 (some (r3.1,((r1.2.1.1,(r1.2.1.2.1,(r3.2.1,r1.2.1.2.2.2))),()))))
 else
 (bif (r2.2.1==1) then
 (some (r2.1,((r1.2.1.1,(r1.2.1.2.1,(r1.2.1.2.2.1,(true,())))),())))
 else
 (bif (r2.2.1==2) then
 ((dl.f k r1.2.1).bind fun r4 =>
 ((dl.f k r1.2.1).bind fun r5 =>
 ((cG.f k r2.1 [(-1),5,r4.1,(aF (r5.1+3)),100000,100001]).bind fun r6 =>
 (some (r6.1,((r1.2.1.1,(r6.2.1,r1.2.1.2.2)),()))))))
 else
 (bif (r2.2.1==3) then
 (bif (decide ((List.length r1.2.1.1:Int) > 0)) then
 ((aI.f k r2.1 9).bind fun r7 =>
 (bW 0 (List.length r1.2.1.1:Int)
 (let l8:=(List.set r1.2.1.1 0 ((List.getD r1.2.1.1 0 (Ty.z aB)).1,((List.getD r1.2.1.1 0 (Ty.z aB)).2.1,((aF (r7.2.1-1)),(List.getD r1.2.1.1 0 (Ty.z aB)).2.2.2))));
 (some (r7.1,((l8,r1.2.1.2),()))))))
 else
 (some (r2.1,r1.2)))
 else
 (bif (r2.2.1==4) then
 (bif (decide ((List.length r1.2.1.1:Int) > 0)) then
 ((eM.f k r2.1 [(⟨#[]⟩:ByteArray),(⟨#[65]⟩:ByteArray),(⟨#[122,122]⟩:ByteArray),(⟨#[116,111,111,108,111,110,103,97,110,97,109,101,49]⟩:ByteArray)]).bind fun r9 =>
 (bW 0 (List.length r1.2.1.1:Int)
 (let l10:=(List.set r1.2.1.1 0 (r9.2.1,(List.getD r1.2.1.1 0 (Ty.z aB)).2));
 (some (r9.1,((l10,r1.2.1.2),()))))))
 else
 (some (r2.1,r1.2)))
 else
 (bif (r2.2.1==5) then
 (L0 0 r2.1.1 r2.1.2.1 r2.1.2.2.1 [] 0 0 false r1.2.1.1 r1.2.1.2.1 r1.2.1.2.2.1 r1.2.1.2.2.2.1)
 else
 (some (r2.1,r1.2))))))))))
def f (k:Nat):=t k (l0 k k)
end gy
namespace jz
abbrev Rs:Type:=Option ((Ty.d ag) × (Ty.d aG) × (Ty.d a_) × Unit)
def t (k:Nat) (a0:Ty.d ag):Rs :=
 ((cB.f k a0).bind fun r1 =>
 ((aI.f k r1.1 16).bind fun r2 =>
 (bif (r2.2.1==0) then
 (some (r2.1,((r1.2.1.1,(r1.2.1.2.1,(r1.2.1.2.2.1,((aF (r1.2.1.2.2.2.1+1)),r1.2.1.2.2.2.2)))),r1.2.2)))
 else
 (bif (r2.2.1==1) then
 ((gq.f k r2.1).bind fun r3 =>
 (some (r3.1,((r1.2.1.1,(r3.2.1,r1.2.1.2.2)),r1.2.2))))
 else
 (bif (r2.2.1==2) then
 ((cG.f k r2.1 [0,1000000,1000001,1000002,1]).bind fun r4 =>
 (some (r4.1,((r1.2.1.1,(r1.2.1.2.1,(r4.2.1,r1.2.1.2.2.2))),r1.2.2))))
 else
 (bif (r2.2.1==3) then
 ((gy.f k r2.1).bind fun r5 =>
 (some (r5.1,(r1.2.1,r5.2))))
 else
 (bif (r2.2.1==4) then
 (bif (r2.2.1==4) then
 ((aI.f k r2.1 12).bind fun r6 =>
 (some (r6.1,(r1.2.1,((r1.2.2.1.1,(r1.2.2.1.2.1,(r6.2.1,r1.2.2.1.2.2.2))),())))))
 else
 (bif (r2.2.1==6) then
 (some (r2.1,(((r1.2.1.1.1,([],())),r1.2.1.2),r1.2.2)))
 else
 (some (r2.1,r1.2))))
 else
 (bif (r2.2.1==5) then
 ((aI.f k r2.1 12).bind fun r7 =>
 (some (r7.1,(r1.2.1,((r1.2.2.1.1,(r1.2.2.1.2.1,(r7.2.1,r1.2.2.1.2.2.2))),())))))
 else
 (bif (r2.2.1==6) then
 (some (r2.1,(((r1.2.1.1.1,([],())),r1.2.1.2),r1.2.2)))
 else
 (some (r2.1,r1.2)))))))))))
def f (k:Nat):=t k
end jz
namespace fC
abbrev Rs:Type:=Option ((Ty.d ag) × (List Int) × Unit)
abbrev T0:Type:=Int→List Int→Int→Int→List Int→Rs
def b0 (k:Nat) (L0:T0):T0:=fun x0 x1 x2 x3 x4 =>
 (bif (decide (x0 > 0)) then
 ((aI.f k (x1,(x2,(x3,()))) 60).bind fun r2 =>
 ((cG.f k r2.1 [0,1,2,5,17,1000003,(-1),9223372036854775807,r2.2.1]).bind fun r3 =>
 (rm (Ty.bytes (.int .i64)) (List.length x4+1)
 (L0 (aF (x0-1)) r3.1.1 r3.1.2.1 r3.1.2.2.1 (x4++[r3.2.1])))))
 else
 (some ((x1,(x2,(x3,()))),(x4,()))))
def l0 (k:Nat):Nat→T0
 | 0=>fun _ _ _ _ _=>none
 | n+1=>b0 k (l0 k n)
def t (k:Nat) (L0:T0) (a0:Ty.d ag):Rs :=
 ((aI.f k a0 5).bind fun r1 =>
 (L0 r1.2.1 r1.1.1 r1.1.2.1 r1.1.2.2.1 []))
def f (k:Nat):=t k (l0 k k)
end fC
namespace fp
abbrev Rs:Type:=Option ((Ty.d a_) × (List Int) × Unit)
def t (k:Nat) (a0:List Int):Rs :=
 ((gT.f k a0).bind fun r1 =>
 ((bx.f k r1.2.1).bind fun r2 =>
 ((bD.f k r2.1 2).bind fun r3 =>
 (bif r3.2.1 then
 ((jz.f k r3.1).bind fun r4 =>
 ((fC.f k r4.1).bind fun r5 =>
 (some (r4.2.2.1,r5.2))))
 else
 ((fC.f k r3.1).bind fun r6 =>
 (some (r2.2.1,r6.2)))))))
def f (k:Nat):=t k
end fp
namespace fP
abbrev Rs:Type:=Option ((Ty.d a_) × Unit)
abbrev T0:Type:=List Int→Int→List (Ty.d aB)→Int→Int→Bool→List (Ty.d aB)→Int→Int→Bool→Rs
def b0 (k:Nat) (L0:T0):T0:=fun x0 x1 x2 x3 x4 x5 x6 x7 x8 x9 =>
 (bif (decide (x1<(x6.length:Int))) then
 (bW x1 (x6.length:Int)
 (bif (decide ((x0.length:Int) > 0)) then
 (bif (decide ((x0.length:Int)=0)) then none else
 (bW (Int.tmod x1 (x0.length:Int)) (x0.length:Int)
 (bif (decide ((List.getD x0 (Int.toNat (Int.tmod x1 (x0.length:Int))) (Ty.z (.int .i64)))≥0)) then
 (bif (decide ((x0.length:Int)=0)) then none else
 (bW (Int.tmod x1 (x0.length:Int)) (x0.length:Int)
 (bif (decide ((aF ((aF ((ByteArray.size (List.getD x6 (Int.toNat x1) (Ty.z aB)).2.1:Int)-(List.getD x6 (Int.toNat x1) (Ty.z aB)).2.2.1))+1))=0)) then none else
 (mR (aF ((List.getD x6 (Int.toNat x1) (Ty.z aB)).2.2.1+(Int.tmod (List.getD x0 (Int.toNat (Int.tmod x1 (x0.length:Int))) (Ty.z (.int .i64))) (aF ((aF ((ByteArray.size (List.getD x6 (Int.toNat x1) (Ty.z aB)).2.1:Int)-(List.getD x6 (Int.toNat x1) (Ty.z aB)).2.2.1))+1))))) (ByteArray.size (List.getD x6 (Int.toNat x1) (Ty.z aB)).2.1:Int)
 (bW x1 (x6.length:Int)
 (let l3:=(List.set x6 (Int.toNat x1) ((List.getD x6 (Int.toNat x1) (Ty.z aB)).1,((ByteArray.extract (List.getD x6 (Int.toNat x1) (Ty.z aB)).2.1 0 (Int.toNat (aF ((List.getD x6 (Int.toNat x1) (Ty.z aB)).2.2.1+(Int.tmod (List.getD x0 (Int.toNat (Int.tmod x1 (x0.length:Int))) (Ty.z (.int .i64))) (aF ((aF ((ByteArray.size (List.getD x6 (Int.toNat x1) (Ty.z aB)).2.1:Int)-(List.getD x6 (Int.toNat x1) (Ty.z aB)).2.2.1))+1))))))),((ByteArray.size (ByteArray.extract (List.getD x6 (Int.toNat x1) (Ty.z aB)).2.1 0 (Int.toNat (aF ((List.getD x6 (Int.toNat x1) (Ty.z aB)).2.2.1+(Int.tmod (List.getD x0 (Int.toNat (Int.tmod x1 (x0.length:Int))) (Ty.z (.int .i64))) (aF ((aF ((ByteArray.size (List.getD x6 (Int.toNat x1) (Ty.z aB)).2.1:Int)-(List.getD x6 (Int.toNat x1) (Ty.z aB)).2.2.1))+1))))))):Int),()))));
 (L0 x0 (aF (x1+1)) x2 x3 x4 x5 l3 x7 x8 x9)))))))
 else
 (mR (aF ((List.getD x6 (Int.toNat x1) (Ty.z aB)).2.2.1+0)) (ByteArray.size (List.getD x6 (Int.toNat x1) (Ty.z aB)).2.1:Int)
 (bW x1 (x6.length:Int)
 (let l4:=(List.set x6 (Int.toNat x1) ((List.getD x6 (Int.toNat x1) (Ty.z aB)).1,((ByteArray.extract (List.getD x6 (Int.toNat x1) (Ty.z aB)).2.1 0 (Int.toNat (aF ((List.getD x6 (Int.toNat x1) (Ty.z aB)).2.2.1+0)))),((ByteArray.size (ByteArray.extract (List.getD x6 (Int.toNat x1) (Ty.z aB)).2.1 0 (Int.toNat (aF ((List.getD x6 (Int.toNat x1) (Ty.z aB)).2.2.1+0)))):Int),()))));
 (L0 x0 (aF (x1+1)) x2 x3 x4 x5 l4 x7 x8 x9)))))))
 else
 (mR (aF ((List.getD x6 (Int.toNat x1) (Ty.z aB)).2.2.1+0)) (ByteArray.size (List.getD x6 (Int.toNat x1) (Ty.z aB)).2.1:Int)
 (bW x1 (x6.length:Int)
 (let l5:=(List.set x6 (Int.toNat x1) ((List.getD x6 (Int.toNat x1) (Ty.z aB)).1,((ByteArray.extract (List.getD x6 (Int.toNat x1) (Ty.z aB)).2.1 0 (Int.toNat (aF ((List.getD x6 (Int.toNat x1) (Ty.z aB)).2.2.1+0)))),((ByteArray.size (ByteArray.extract (List.getD x6 (Int.toNat x1) (Ty.z aB)).2.1 0 (Int.toNat (aF ((List.getD x6 (Int.toNat x1) (Ty.z aB)).2.2.1+0)))):Int),()))));
 (L0 x0 (aF (x1+1)) x2 x3 x4 x5 l5 x7 x8 x9))))))
 else
 (some ((x6,(x7,((-1),(false,())))),())))
def l0 (k:Nat):Nat→T0
 | 0=>fun _ _ _ _ _ _ _ _ _ _=>none
 | n+1=>b0 k (l0 k n)
def t (k:Nat) (L0:T0) (a0:Ty.d a_) (a1:List Int):Rs :=
 ((cI.f k a0).bind fun r1 =>
 ((bh.f k a0).bind fun r2 =>
 (bif (!r2.1) then
 (some r1)
 else
 (L0 a1 0 [] 0 0 false r1.1.1 r1.1.2.1 r1.1.2.2.1 r1.1.2.2.2.1))))
def f (k:Nat):=t k (l0 k k)
end fP
namespace iJ
abbrev Rs:Type:=Option ((Ty.d mL) × Int × Unit)
def t (k:Nat) (a0:Ty.d a_):Rs :=
 ((bd.f k a0).bind fun r1 =>
 (Ks (Ty.bytes Hj) 3
 (some (((r1.2.2.1==0),(r1.1,(r1.2.1,((List.replicate (Int.toNat 3) (Ty.z Hj)),())))),r1.2.2))))
def f (k:Nat):=t k
end iJ
namespace j5
abbrev Rs:Type:=Option ((List (Ty.d aB)) × Int × Unit)
def t (k:Nat) (a0:Ty.d mL):Rs :=
 (bif (!a0.1) then
 (some ([],(6,())))
 else
 ((gu.f k a0.2.1 a0.2.2.1).bind fun r1 =>
 (some r1)))
def f (k:Nat):=t k
end j5
namespace ik
abbrev Rs:Type:=Option ((List (Ty.d aB)) × Int × Unit)
def t (k:Nat) (a0:Ty.d a_) (a1:List Int):Rs :=
 ((fP.f k a0 a1).bind fun r1 =>
 ((iJ.f k r1.1).bind fun r2 =>
 (bif (r2.2.1 != 0) then
 (some ([],r2.2))
 else
 ((j5.f k r2.1).bind fun r3 =>
 (some r3)))))
def f (k:Nat):=t k
end ik
namespace bU
abbrev Rs:Type:=Option ((Ty.d a_) × Unit)
def t (k:Nat) (a0:Ty.d a_):Rs :=
 (rm (Ty.bytes aB) (List.length a0.1)
 (some (a0,())))
def f (k:Nat):=t k
end bU
namespace au
abbrev Rs:Type:=Option (Bool × Unit)
def t (k:Nat) (a0:Int) (a1:Int) (a2:Int):Rs :=
 (bif (decide (a0≥a1)) then
 (some ((decide (a0≤a2)),()))
 else
 (some (false,())))
def f (k:Nat):=t k
end au
namespace eI
abbrev Rs:Type:=Option (Bool × Unit)
abbrev T0:Type:=ByteArray→Int→Rs
def b0 (k:Nat) (L0:T0):T0:=fun x0 x1 =>
 (bif (decide (x1<(ByteArray.size x0:Int))) then
 (bW x1 (ByteArray.size x0:Int)
 (bif (decide ((dc x0 x1)≥97)) then
 (bW x1 (ByteArray.size x0:Int)
 (bif (!(decide ((dc x0 x1)≤122))) then
 (bW x1 (ByteArray.size x0:Int)
 (bif (decide ((dc x0 x1)≥48)) then
 (bW x1 (ByteArray.size x0:Int)
 (bif (!(decide ((dc x0 x1)≤57))) then
 (some (false,()))
 else
 (L0 x0 (aF (x1+1)))))
 else
 (some (false,()))))
 else
 (L0 x0 (aF (x1+1)))))
 else
 (bW x1 (ByteArray.size x0:Int)
 (bif (decide ((dc x0 x1)≥48)) then
 (bW x1 (ByteArray.size x0:Int)
 (bif (!(decide ((dc x0 x1)≤57))) then
 (some (false,()))
 else
 (L0 x0 (aF (x1+1)))))
 else
 (some (false,()))))))
 else
 ((au.f k (ByteArray.size x0:Int) 1 12).bind fun r1 =>
 (some r1)))
def l0 (k:Nat):Nat→T0
 | 0=>fun _ _=>none
 | n+1=>b0 k (l0 k n)
def t (k:Nat) (L0:T0) (a0:ByteArray):Rs :=
 (L0 a0 0)
def f (k:Nat):=t k (l0 k k)
end eI
namespace bC
abbrev Rs:Type:=Option (Bool × Unit)
abbrev T0:Type:=Int→List (Ty.d aB)→Int→Int→List (Ty.d aB)→Int→Int→Bool→Rs
def b0 (k:Nat) (L0:T0):T0:=fun x0 x1 x2 x3 x4 x5 x6 x7 =>
 (bif (decide (x3<x2)) then
 (bW x3 (x1.length:Int)
 ((eI.f k (List.getD x1 (Int.toNat x3) (Ty.z aB)).1).bind fun r3 =>
 (bif (!r3.1) then
 (some (false,()))
 else
 ((au.f k (List.getD x1 (Int.toNat x3) (Ty.z aB)).2.2.1 0 (ByteArray.size (List.getD x1 (Int.toNat x3) (Ty.z aB)).2.1:Int)).bind fun r4 =>
 (bif (!r4.1) then
 (some (false,()))
 else
 (bif (decide (x3 > 0)) then
 (bW (aF (x3-1)) (x4.length:Int)
 (bif (!(nO (List.getD x4 (Int.toNat (aF (x3-1))) (Ty.z aB)).1 (List.getD x1 (Int.toNat x3) (Ty.z aB)).1)) then
 (some (false,()))
 else
 (L0 (aF (x0+(ByteArray.size (List.getD x1 (Int.toNat x3) (Ty.z aB)).2.1:Int))) x1 x2 (aF (x3+1)) x4 x5 x6 x7)))
 else
 (L0 (aF (x0+(ByteArray.size (List.getD x1 (Int.toNat x3) (Ty.z aB)).2.1:Int))) x1 x2 (aF (x3+1)) x4 x5 x6 x7)))))))
 else
 (some ((decide (x0≤x5)),())))
def l0 (k:Nat):Nat→T0
 | 0=>fun _ _ _ _ _ _ _ _=>none
 | n+1=>b0 k (l0 k n)
def t (k:Nat) (L0:T0) (a0:Ty.d a_):Rs :=
 (bif (decide ((List.length a0.1:Int) > 130)) then
 (some (false,()))
 else
 ((au.f k a0.2.1 0 100000).bind fun r1 =>
 (bif (!r1.1) then
 (some (false,()))
 else
 ((au.f k a0.2.2.1 (-1) 100000).bind fun r2 =>
 (bif (!r2.1) then
 (some (false,()))
 else
 (L0 0 a0.1 (List.length a0.1:Int) 0 a0.1 a0.2.1 a0.2.2.1 a0.2.2.2.1))))))
def f (k:Nat):=t k (l0 k k)
end bC
namespace bV
abbrev Rs:Type:=Option (Int × Unit)
abbrev T0:Type:=ByteArray→List (Ty.d aB)→Int→Int→Rs
def b0 (k:Nat) (L0:T0):T0:=fun x0 x1 x2 x3 =>
 (bif (decide (x3<x2)) then
 (bW x3 (x1.length:Int)
 (bif (seq (List.getD x1 (Int.toNat x3) (Ty.z aB)).1 x0) then
 (some (x3,()))
 else
 (L0 x0 x1 x2 (aF (x3+1)))))
 else
 (some ((-1),())))
def l0 (k:Nat):Nat→T0
 | 0=>fun _ _ _ _=>none
 | n+1=>b0 k (l0 k n)
def t (k:Nat) (L0:T0) (a0:Ty.d a_) (a1:ByteArray):Rs :=
 (L0 a1 a0.1 (List.length a0.1:Int) 0)
def f (k:Nat):=t k (l0 k k)
end bV
namespace cy
abbrev Rs:Type:=Option (ByteArray × Bool × Unit)
def t (k:Nat) (a0:Ty.d a_) (a1:ByteArray):Rs :=
 ((bV.f k a0 a1).bind fun r1 =>
 (bif (decide (r1.1<0)) then
 (some ((⟨#[]⟩:ByteArray),(false,())))
 else
 ((bC.f k a0).bind fun r2 =>
 (bif (!r2.1) then
 (some ((⟨#[]⟩:ByteArray),(false,())))
 else
 (bW r1.1 (List.length a0.1:Int)
 (some ((List.getD a0.1 (Int.toNat r1.1) (Ty.z aB)).2.1,(true,()))))))))
def f (k:Nat):=t k
end cy
namespace cw
abbrev Rs:Type:=Option (Int × Int × Unit)
abbrev T0:Type:=ByteArray→Int→Int→Rs
def b0 (k:Nat) (L0:T0):T0:=fun x0 x1 x2 =>
 (bif (decide (x2<7)) then
 (bif (decide (x2<(ByteArray.size x0:Int))) then
 (bW x2 (ByteArray.size x0:Int)
 (bif (decide ((aF (7*x2))<0)) then none else
 (bif (decide ((aF (dc x0 x2))≥128)) then
 (L0 x0 (aF (x1+(aF ((Int.tmod (aF (dc x0 x2)) 128)*2 ^ (min (Int.toNat (aF (7*x2))) (IntKind.bits .i64)))))) (aF (x2+1)))
 else
 (bif ((aF (dc x0 x2))==0) then
 (bif (decide (x2 > 0)) then
 (some (0,(0,())))
 else
 (some ((aF (x1+(aF ((Int.tmod (aF (dc x0 x2)) 128)*2 ^ (min (Int.toNat (aF (7*x2))) (IntKind.bits .i64)))))),((aF (x2+1)),()))))
 else
 (some ((aF (x1+(aF ((Int.tmod (aF (dc x0 x2)) 128)*2 ^ (min (Int.toNat (aF (7*x2))) (IntKind.bits .i64)))))),((aF (x2+1)),())))))))
 else
 (some (0,(0,()))))
 else
 (some (0,(0,()))))
def l0 (k:Nat):Nat→T0
 | 0=>fun _ _ _=>none
 | n+1=>b0 k (l0 k n)
def t (k:Nat) (L0:T0) (a0:ByteArray):Rs :=
 (L0 a0 0 0)
def f (k:Nat):=t k (l0 k k)
end cw
namespace fg
abbrev Rs:Type:=Option (ByteArray × Unit)
abbrev T0:Type:=Int→List Int→Rs
def b0 (k:Nat) (L0:T0):T0:=fun x0 x1 =>
 (bif (decide (x0 > 127)) then
 (rm (Ty.bytes (.int .u8)) (List.length x1+1)
 (L0 (aF (Int.tdiv x0 128)) (x1++[(IntKind.wrap .u8 (aF ((Int.tmod x0 128)+128)))])))
 else
 (rm (Ty.bytes (.int .u8)) (List.length x1+1)
 (some ((bytesOf (x1++[(IntKind.wrap .u8 x0)])),()))))
def l0 (k:Nat):Nat→T0
 | 0=>fun _ _=>none
 | n+1=>b0 k (l0 k n)
def t (k:Nat) (L0:T0) (a0:Int):Rs :=
 ((au.f k a0 0 562949953421311).bind fun r1 =>
 (bif (!r1.1) then
 (some ((⟨#[]⟩:ByteArray),()))
 else
 (L0 a0 [])))
def f (k:Nat):=t k (l0 k k)
end fg
namespace eH
abbrev Rs:Type:=Option (ByteArray × Unit)
def t (k:Nat) (a0:ByteArray):Rs :=
 ((fg.f k (ByteArray.size a0:Int)).bind fun r1 =>
 (kC r1.1 a0
 (some ((r1.1++a0),()))))
def f (k:Nat):=t k
end eH
namespace gL
abbrev Rs:Type:=Option (Int × Unit)
abbrev T1:Type:=ByteArray→Int→Int→Int→Rs
abbrev T0:Type:=ByteArray→Int→Int→Rs
def b1 (k:Nat) (L0:T0) (L1:T1):T1:=fun x0 x1 x2 x3 =>
 (bif (decide (x3<8)) then
 (bif ((IntKind.wrap .u32 (((BitVec.ofInt (IntKind.bits .u32) x1 &&& BitVec.ofInt (IntKind.bits .u32) 1).toNat:Int)))==1) then
 (L1 x0 (IntKind.wrap .u32 (((BitVec.ofInt (IntKind.bits .u32) (Int.fdiv x1 (2 ^ (Int.toNat 1))) ^^^ BitVec.ofInt (IntKind.bits .u32) 2197175160).toNat:Int))) x2 (aF (x3+1)))
 else
 (L1 x0 (Int.fdiv x1 (2 ^ (Int.toNat 1))) x2 (aF (x3+1))))
 else
 (L0 x0 x1 (aF (x2+1))))
def l1 (k:Nat) (L0:T0):Nat→T1
 | 0=>fun _ _ _ _=>none
 | n+1=>b1 k L0 (l1 k L0 n)
def b0 (k:Nat) (L1:T1) (L0:T0):T0:=fun x0 x1 x2 =>
 (bif (decide (x2<(ByteArray.size x0:Int))) then
 (bW x2 (ByteArray.size x0:Int)
 (L1 x0 (IntKind.wrap .u32 (((BitVec.ofInt (IntKind.bits .u32) x1 ^^^ BitVec.ofInt (IntKind.bits .u32) (IntKind.wrap .u32 (dc x0 x2))).toNat:Int))) x2 0))
 else
 (some ((aF (Fa .u32 x1)),())))
def l0 (k:Nat):Nat→T0
 | 0=>fun _ _ _=>none
 | n+1=>b0 k (l1 k (l0 k n) k) (l0 k n)
def t (k:Nat) (L0:T0) (a0:ByteArray):Rs :=
 (L0 a0 4294967295 0)
def f (k:Nat):=t k (l0 k k)
end gL
namespace dX
abbrev Rs:Type:=Option (ByteArray × Unit)
abbrev T0:Type:=Int→Int→List Int→Rs
def b0 (k:Nat) (L0:T0):T0:=fun x0 x1 x2 =>
 (bif (decide (x1≥0)) then
 (bif (decide ((aF (8*x1))<0)) then none else
 (rm (Ty.bytes (.int .u8)) (List.length x2+1)
 (L0 x0 (aF (x1-1)) (x2++[(IntKind.wrap .u8 (Int.fdiv x0 (2 ^ (min (Int.toNat (aF (8*x1))) (IntKind.bits .i64)))))]))))
 else
 (some ((bytesOf x2),())))
def l0 (k:Nat):Nat→T0
 | 0=>fun _ _ _=>none
 | n+1=>b0 k (l0 k n)
def t (k:Nat) (L0:T0) (a0:Int) (a1:Int):Rs :=
 ((au.f k a1 1 7).bind fun r1 =>
 (bif (!r1.1) then
 (some ((⟨#[]⟩:ByteArray),()))
 else
 (bif (decide ((aF (8*a1))<0)) then none else
 ((au.f k a0 0 (aF ((aF (1*2 ^ (min (Int.toNat (aF (8*a1))) (IntKind.bits .i64))))-1))).bind fun r2 =>
 (bif (!r2.1) then
 (some ((⟨#[]⟩:ByteArray),()))
 else
 (L0 a0 (aF (a1-1)) []))))))
def f (k:Nat):=t k (l0 k k)
end dX
namespace jU
abbrev Rs:Type:=Option (ByteArray × Unit)
def t (k:Nat) (a0:ByteArray):Rs :=
 (bif (decide ((ByteArray.size a0:Int) > 200)) then
 (some ((⟨#[]⟩:ByteArray),()))
 else
 ((eH.f k a0).bind fun r1 =>
 ((gL.f k r1.1).bind fun r2 =>
 ((dX.f k r2.1 4).bind fun r3 =>
 (kC r3.1 r1.1
 (some ((r3.1++r1.1),())))))))
def f (k:Nat):=t k
end jU
namespace dq
abbrev Rs:Type:=Option (ByteArray × Int × Unit)
def t (k:Nat) (a0:ByteArray):Rs :=
 (bif (decide ((ByteArray.size a0:Int)<4)) then
 (some ((⟨#[]⟩:ByteArray),(0,())))
 else
 (mR 4 (ByteArray.size a0:Int)
 ((cw.f k (ByteArray.extract a0 4 (ByteArray.size a0))).bind fun r1 =>
 (bif (r1.2.1==0) then
 (some ((⟨#[]⟩:ByteArray),(0,())))
 else
 (bif (decide (r1.1 > 200)) then
 (some ((⟨#[]⟩:ByteArray),(0,())))
 else
 (bif (decide (r1.1 > (aF ((aF ((ByteArray.size a0:Int)-4))-r1.2.1)))) then
 (some ((⟨#[]⟩:ByteArray),(0,())))
 else
 (FQ (aF (4+r1.2.1)) (aF ((aF (4+r1.2.1))+r1.1)) (ByteArray.size a0:Int)
 ((jU.f k (ByteArray.extract a0 (Int.toNat (aF (4+r1.2.1))) (Int.toNat (aF ((aF (4+r1.2.1))+r1.1))))).bind fun r2 =>
 (mR (aF ((aF (4+r1.2.1))+r1.1)) (ByteArray.size a0:Int)
 (bif (!(seq r2.1 (ByteArray.extract a0 0 (Int.toNat (aF ((aF (4+r1.2.1))+r1.1)))))) then
 (some ((⟨#[]⟩:ByteArray),(0,())))
 else
 (some ((ByteArray.extract a0 (Int.toNat (aF (4+r1.2.1))) (Int.toNat (aF ((aF (4+r1.2.1))+r1.1)))),((aF ((aF (4+r1.2.1))+r1.1)),())))))))))))))
def f (k:Nat):=t k
end dq
namespace aJ
abbrev Rs:Type:=Option ((Ty.d kQ) × Int × Unit)
def t (k:Nat) (a0:Ty.d kQ):Rs :=
 ((cw.f k a0.1).bind fun r1 =>
 (bif a0.2.1 then
 (some ((a0.1,(true,())),(0,())))
 else
 (bif (r1.2.1==0) then
 (some ((a0.1,(true,())),(0,())))
 else
 (mR r1.2.1 (ByteArray.size a0.1:Int)
 (some (((ByteArray.extract a0.1 (Int.toNat r1.2.1) (ByteArray.size a0.1)),a0.2),(r1.1,())))))))
def f (k:Nat):=t k
end aJ
namespace dQ
abbrev Rs:Type:=Option (Bool × Unit)
abbrev T0:Type:=List Int→Int→Int→Int→List Int→Rs
def b0 (k:Nat) (L0:T0):T0:=fun x0 x1 x2 x3 x4 =>
 (bif (decide (x2<x1)) then
 (bW x2 (x0.length:Int)
 ((au.f k (List.getD x0 (Int.toNat x2) (Ty.z (.int .i64))) 1 (aF (x3-1))).bind fun r1 =>
 (bif (!r1.1) then
 (some (false,()))
 else
 (bif (decide (x2 > 0)) then
 (bW (aF (x2-1)) (x4.length:Int)
 (bif (decide ((List.getD x4 (Int.toNat (aF (x2-1))) (Ty.z (.int .i64)))≥(List.getD x0 (Int.toNat x2) (Ty.z (.int .i64))))) then
 (some (false,()))
 else
 (L0 x0 x1 (aF (x2+1)) x3 x4)))
 else
 (L0 x0 x1 (aF (x2+1)) x3 x4)))))
 else
 ((au.f k x3 1 100000).bind fun r2 =>
 (bif r2.1 then
 ((au.f k (x4.length:Int) 1 60).bind fun r3 =>
 (some r3))
 else
 (some (false,())))))
def l0 (k:Nat):Nat→T0
 | 0=>fun _ _ _ _ _=>none
 | n+1=>b0 k (l0 k n)
def t (k:Nat) (L0:T0) (a0:Ty.d ay):Rs :=
 (L0 a0.2.1 (List.length a0.2.1:Int) 0 a0.1 a0.2.1)
def f (k:Nat):=t k (l0 k k)
end dQ
namespace b7
abbrev Rs:Type:=Option ((Ty.d ay) × Bool × Unit)
abbrev T0:Type:=ByteArray→Int→Int→Int→List Int→Int→ByteArray→Bool→List Int→Int→Rs
def b0 (k:Nat) (L0:T0):T0:=fun x0 x1 x2 x3 x4 x5 x6 x7 x8 x9 =>
 (bif (decide (x3<x2)) then
 (bif (!x7) then
 ((aJ.f k (x6,(x7,()))).bind fun r4 =>
 (rm (Ty.bytes (.int .i64)) (List.length x8+1)
 (L0 x0 x1 x2 (aF (x3+1)) x4 x5 r4.1.1 r4.1.2.1 (x8++[r4.2.1]) x9)))
 else
 (bif (x1==0) then
 (some ((0,([],())),(false,())))
 else
 (bif (x1 != (ByteArray.size x0:Int)) then
 (some ((0,([],())),(false,())))
 else
 (bif x7 then
 (some ((0,([],())),(false,())))
 else
 (bif (!(seq x6 (⟨#[]⟩:ByteArray))) then
 (some ((0,([],())),(false,())))
 else
 ((dQ.f k (x9,(x8,()))).bind fun r5 =>
 (bif (!r5.1) then
 (some ((0,([],())),(false,())))
 else
 (some ((x9,(x8,())),(true,()))))))))))
 else
 (bif (x1==0) then
 (some ((0,([],())),(false,())))
 else
 (bif (x1 != (ByteArray.size x0:Int)) then
 (some ((0,([],())),(false,())))
 else
 (bif x7 then
 (some ((0,([],())),(false,())))
 else
 (bif (!(seq x6 (⟨#[]⟩:ByteArray))) then
 (some ((0,([],())),(false,())))
 else
 ((dQ.f k (x9,(x8,()))).bind fun r6 =>
 (bif (!r6.1) then
 (some ((0,([],())),(false,())))
 else
 (some ((x9,(x8,())),(true,()))))))))))
def l0 (k:Nat):Nat→T0
 | 0=>fun _ _ _ _ _ _ _ _ _ _=>none
 | n+1=>b0 k (l0 k n)
def t (k:Nat) (L0:T0) (a0:ByteArray):Rs :=
 ((dq.f k a0).bind fun r1 =>
 ((aJ.f k (r1.1,(false,()))).bind fun r2 =>
 ((aJ.f k r2.1).bind fun r3 =>
 (L0 a0 r1.2.1 r3.2.1 0 [] 0 r3.1.1 r3.1.2.1 [] r2.2.1))))
def f (k:Nat):=t k (l0 k k)
end b7
namespace nA
abbrev Rs:Type:=Option (ByteArray × Unit)
def t (k:Nat) (a0:Int):Rs :=
 ((nG.f k a0).bind fun r1 =>
 (some r1))
def f (k:Nat):=t k
end nA
namespace jV
abbrev Rs:Type:=Option (ByteArray × Unit)
def t (k:Nat) (a0:ByteArray) (a1:Int):Rs :=
 ((au.f k a1 1 100000).bind fun r1 =>
 (bif (!r1.1) then
 (some ((⟨#[]⟩:ByteArray),()))
 else
 ((nA.f k a1).bind fun r2 =>
 (kC a0 r2.1
 (some ((a0++r2.1),()))))))
def f (k:Nat):=t k
end jV
namespace dp
abbrev Rs:Type:=Option (ByteArray × Unit)
def t (k:Nat) (a0:Int):Rs :=
 ((jV.f k (⟨#[115,101,103]⟩:ByteArray) a0).bind fun r1 =>
 (some r1))
def f (k:Nat):=t k
end dp
namespace an
abbrev Rs:Type:=Option ((Ty.d kQ) × ByteArray × Unit)
def t (k:Nat) (a0:Ty.d kQ) (a1:Int):Rs :=
 (bif a0.2.1 then
 (some ((a0.1,(true,())),((⟨#[]⟩:ByteArray),())))
 else
 (bif (decide (a1 > (ByteArray.size a0.1:Int))) then
 (some ((a0.1,(true,())),((⟨#[]⟩:ByteArray),())))
 else
 (mR a1 (ByteArray.size a0.1:Int)
 (mR a1 (ByteArray.size a0.1:Int)
 (some (((ByteArray.extract a0.1 (Int.toNat a1) (ByteArray.size a0.1)),a0.2),((ByteArray.extract a0.1 0 (Int.toNat a1)),())))))))
def f (k:Nat):=t k
end an
namespace ai
abbrev Rs:Type:=Option ((Ty.d kQ) × ByteArray × Unit)
def t (k:Nat) (a0:Ty.d kQ):Rs :=
 ((aJ.f k a0).bind fun r1 =>
 ((an.f k r1.1 r1.2.1).bind fun r2 =>
 (some r2)))
def f (k:Nat):=t k
end ai
namespace h_
abbrev Rs:Type:=Option (Bool × Unit)
def t (k:Nat) (a0:ByteArray):Rs :=
 ((au.f k (ByteArray.size a0:Int) 1 8).bind fun r1 =>
 (some r1))
def f (k:Nat):=t k
end h_
namespace gF
abbrev Rs:Type:=Option (Bool × Unit)
def t (k:Nat) (a0:Ty.d bP):Rs :=
 (bif (a0.1==1) then
 (bif (a0.1==1) then
 ((h_.f k a0.2.2.1).bind fun r1 =>
 (bif r1.1 then
 (bif (decide ((ByteArray.size a0.2.2.2.1:Int)≤24)) then
 ((au.f k a0.2.1 1 1000000).bind fun r2 =>
 (bif r2.1 then
 (some (((a0.1==a0.1)&&((a0.2.1==a0.2.1)&&((seq a0.2.2.1 a0.2.2.1)&&((seq a0.2.2.2.1 a0.2.2.2.1)&&((a0.2.2.2.2.1==0)&&(a0.2.2.2.2.2.1==0)))))),()))
 else
 (some (false,()))))
 else
 (some (false,())))
 else
 (some (false,()))))
 else
 (bif (a0.1==2) then
 ((h_.f k a0.2.2.1).bind fun r3 =>
 (bif r3.1 then
 ((au.f k a0.2.1 1 1000000).bind fun r4 =>
 (bif r4.1 then
 (some (((a0.1==a0.1)&&((a0.2.1==a0.2.1)&&((seq a0.2.2.1 a0.2.2.1)&&((seq a0.2.2.2.1 ByteArray.empty)&&((a0.2.2.2.2.1==0)&&(a0.2.2.2.2.2.1==0)))))),()))
 else
 (some (false,()))))
 else
 (some (false,()))))
 else
 (bif (a0.1==3) then
 ((au.f k a0.2.2.2.2.1 0 8).bind fun r5 =>
 (bif r5.1 then
 ((au.f k a0.2.2.2.2.2.1 0 4294967295).bind fun r6 =>
 (bif r6.1 then
 ((au.f k a0.2.1 1 1000000).bind fun r7 =>
 (bif r7.1 then
 (some (((a0.1==a0.1)&&((a0.2.1==a0.2.1)&&((seq a0.2.2.1 ByteArray.empty)&&((seq a0.2.2.2.1 ByteArray.empty)&&((a0.2.2.2.2.1==a0.2.2.2.2.1)&&(a0.2.2.2.2.2.1==a0.2.2.2.2.2.1)))))),()))
 else
 (some (false,()))))
 else
 (some (false,()))))
 else
 (some (false,()))))
 else
 (bif (a0.1==5) then
 ((au.f k a0.2.2.2.2.1 0 20).bind fun r8 =>
 (bif r8.1 then
 ((au.f k a0.2.2.2.2.2.1 0 4294967295).bind fun r9 =>
 (bif r9.1 then
 ((au.f k a0.2.1 0 1000000).bind fun r10 =>
 (bif r10.1 then
 (some (((a0.1==a0.1)&&((a0.2.1==a0.2.1)&&((seq a0.2.2.1 ByteArray.empty)&&((seq a0.2.2.2.1 ByteArray.empty)&&((a0.2.2.2.2.1==a0.2.2.2.2.1)&&(a0.2.2.2.2.2.1==a0.2.2.2.2.2.1)))))),()))
 else
 (some (false,()))))
 else
 (some (false,()))))
 else
 (some (false,()))))
 else
 (some (false,()))))))
 else
 (bif (a0.1==4) then
 ((h_.f k a0.2.2.1).bind fun r11 =>
 (bif r11.1 then
 (bif (decide ((ByteArray.size a0.2.2.2.1:Int)≤24)) then
 ((au.f k a0.2.1 1 1000000).bind fun r12 =>
 (bif r12.1 then
 (some (((a0.1==a0.1)&&((a0.2.1==a0.2.1)&&((seq a0.2.2.1 a0.2.2.1)&&((seq a0.2.2.2.1 a0.2.2.2.1)&&((a0.2.2.2.2.1==0)&&(a0.2.2.2.2.2.1==0)))))),()))
 else
 (some (false,()))))
 else
 (some (false,())))
 else
 (some (false,()))))
 else
 (bif (a0.1==2) then
 ((h_.f k a0.2.2.1).bind fun r13 =>
 (bif r13.1 then
 ((au.f k a0.2.1 1 1000000).bind fun r14 =>
 (bif r14.1 then
 (some (((a0.1==a0.1)&&((a0.2.1==a0.2.1)&&((seq a0.2.2.1 a0.2.2.1)&&((seq a0.2.2.2.1 ByteArray.empty)&&((a0.2.2.2.2.1==0)&&(a0.2.2.2.2.2.1==0)))))),()))
 else
 (some (false,()))))
 else
 (some (false,()))))
 else
 (bif (a0.1==3) then
 ((au.f k a0.2.2.2.2.1 0 8).bind fun r15 =>
 (bif r15.1 then
 ((au.f k a0.2.2.2.2.2.1 0 4294967295).bind fun r16 =>
 (bif r16.1 then
 ((au.f k a0.2.1 1 1000000).bind fun r17 =>
 (bif r17.1 then
 (some (((a0.1==a0.1)&&((a0.2.1==a0.2.1)&&((seq a0.2.2.1 ByteArray.empty)&&((seq a0.2.2.2.1 ByteArray.empty)&&((a0.2.2.2.2.1==a0.2.2.2.2.1)&&(a0.2.2.2.2.2.1==a0.2.2.2.2.2.1)))))),()))
 else
 (some (false,()))))
 else
 (some (false,()))))
 else
 (some (false,()))))
 else
 (bif (a0.1==5) then
 ((au.f k a0.2.2.2.2.1 0 20).bind fun r18 =>
 (bif r18.1 then
 ((au.f k a0.2.2.2.2.2.1 0 4294967295).bind fun r19 =>
 (bif r19.1 then
 ((au.f k a0.2.1 0 1000000).bind fun r20 =>
 (bif r20.1 then
 (some (((a0.1==a0.1)&&((a0.2.1==a0.2.1)&&((seq a0.2.2.1 ByteArray.empty)&&((seq a0.2.2.2.1 ByteArray.empty)&&((a0.2.2.2.2.1==a0.2.2.2.2.1)&&(a0.2.2.2.2.2.1==a0.2.2.2.2.2.1)))))),()))
 else
 (some (false,()))))
 else
 (some (false,()))))
 else
 (some (false,()))))
 else
 (some (false,())))))))
def f (k:Nat):=t k
end gF
namespace bw
abbrev Rs:Type:=Option (Int × Bool × Unit)
abbrev T0:Type:=ByteArray→Int→Int→Int→Rs
def b0 (k:Nat) (L0:T0):T0:=fun x0 x1 x2 x3 =>
 (bif (decide (x3<x2)) then
 (bW x3 (ByteArray.size x0:Int)
 (L0 x0 (aF (((BitVec.ofInt (IntKind.bits .i64) (aF (x1*2 ^ (min (Int.toNat 8) (IntKind.bits .i64)))) ||| BitVec.ofInt (IntKind.bits .i64) (aF (dc x0 x3))).toNat:Int))) x2 (aF (x3+1))))
 else
 (some (x1,(true,()))))
def l0 (k:Nat):Nat→T0
 | 0=>fun _ _ _ _=>none
 | n+1=>b0 k (l0 k n)
def t (k:Nat) (L0:T0) (a0:ByteArray) (a1:Int):Rs :=
 ((au.f k a1 1 7).bind fun r1 =>
 (bif (!r1.1) then
 (some (0,(false,())))
 else
 (bif (decide ((ByteArray.size a0:Int)<a1)) then
 (some (0,(false,())))
 else
 (L0 a0 0 a1 0))))
def f (k:Nat):=t k (l0 k k)
end bw
namespace cv
abbrev Rs:Type:=Option ((Ty.d bP) × Bool × Unit)
def t (k:Nat) (a0:ByteArray):Rs :=
 ((aJ.f k (a0,(false,()))).bind fun r1 =>
 ((aJ.f k r1.1).bind fun r2 =>
 (bif (r1.2.1==1) then
 (bif (r1.2.1==1) then
 ((ai.f k r2.1).bind fun r3 =>
 ((ai.f k r3.1).bind fun r4 =>
 (bif r4.1.2.1 then
 (some ((0,(0,(ByteArray.empty,(ByteArray.empty,(0,(0,())))))),(false,())))
 else
 (bif (!(seq r4.1.1 (⟨#[]⟩:ByteArray))) then
 (some ((0,(0,(ByteArray.empty,(ByteArray.empty,(0,(0,())))))),(false,())))
 else
 ((gF.f k (r1.2.1,(r2.2.1,(r3.2.1,(r4.2.1,(0,(0,()))))))).bind fun r5 =>
 (bif (!r5.1) then
 (some ((0,(0,(ByteArray.empty,(ByteArray.empty,(0,(0,())))))),(false,())))
 else
 (some ((r1.2.1,(r2.2.1,(r3.2.1,(r4.2.1,(0,(0,())))))),(true,())))))))))
 else
 (bif (r1.2.1==2) then
 ((ai.f k r2.1).bind fun r6 =>
 (bif r6.1.2.1 then
 (some ((0,(0,(ByteArray.empty,(ByteArray.empty,(0,(0,())))))),(false,())))
 else
 (bif (!(seq r6.1.1 (⟨#[]⟩:ByteArray))) then
 (some ((0,(0,(ByteArray.empty,(ByteArray.empty,(0,(0,())))))),(false,())))
 else
 ((gF.f k (r1.2.1,(r2.2.1,(r6.2.1,(ByteArray.empty,(0,(0,()))))))).bind fun r7 =>
 (bif (!r7.1) then
 (some ((0,(0,(ByteArray.empty,(ByteArray.empty,(0,(0,())))))),(false,())))
 else
 (some ((r1.2.1,(r2.2.1,(r6.2.1,(ByteArray.empty,(0,(0,())))))),(true,()))))))))
 else
 ((aJ.f k r2.1).bind fun r8 =>
 ((an.f k r8.1 4).bind fun r9 =>
 ((bw.f k r9.2.1 4).bind fun r10 =>
 (bif r9.1.2.1 then
 (some ((0,(0,(ByteArray.empty,(ByteArray.empty,(0,(0,())))))),(false,())))
 else
 (bif (!(seq r9.1.1 (⟨#[]⟩:ByteArray))) then
 (some ((0,(0,(ByteArray.empty,(ByteArray.empty,(0,(0,())))))),(false,())))
 else
 ((gF.f k (r1.2.1,(r2.2.1,(ByteArray.empty,(ByteArray.empty,(r8.2.1,(r10.1,()))))))).bind fun r11 =>
 (bif (!r11.1) then
 (some ((0,(0,(ByteArray.empty,(ByteArray.empty,(0,(0,())))))),(false,())))
 else
 (some ((r1.2.1,(r2.2.1,(ByteArray.empty,(ByteArray.empty,(r8.2.1,(r10.1,())))))),(true,()))))))))))))
 else
 (bif (r1.2.1==4) then
 ((ai.f k r2.1).bind fun r12 =>
 ((ai.f k r12.1).bind fun r13 =>
 (bif r13.1.2.1 then
 (some ((0,(0,(ByteArray.empty,(ByteArray.empty,(0,(0,())))))),(false,())))
 else
 (bif (!(seq r13.1.1 (⟨#[]⟩:ByteArray))) then
 (some ((0,(0,(ByteArray.empty,(ByteArray.empty,(0,(0,())))))),(false,())))
 else
 ((gF.f k (r1.2.1,(r2.2.1,(r12.2.1,(r13.2.1,(0,(0,()))))))).bind fun r14 =>
 (bif (!r14.1) then
 (some ((0,(0,(ByteArray.empty,(ByteArray.empty,(0,(0,())))))),(false,())))
 else
 (some ((r1.2.1,(r2.2.1,(r12.2.1,(r13.2.1,(0,(0,())))))),(true,())))))))))
 else
 (bif (r1.2.1==2) then
 ((ai.f k r2.1).bind fun r15 =>
 (bif r15.1.2.1 then
 (some ((0,(0,(ByteArray.empty,(ByteArray.empty,(0,(0,())))))),(false,())))
 else
 (bif (!(seq r15.1.1 (⟨#[]⟩:ByteArray))) then
 (some ((0,(0,(ByteArray.empty,(ByteArray.empty,(0,(0,())))))),(false,())))
 else
 ((gF.f k (r1.2.1,(r2.2.1,(r15.2.1,(ByteArray.empty,(0,(0,()))))))).bind fun r16 =>
 (bif (!r16.1) then
 (some ((0,(0,(ByteArray.empty,(ByteArray.empty,(0,(0,())))))),(false,())))
 else
 (some ((r1.2.1,(r2.2.1,(r15.2.1,(ByteArray.empty,(0,(0,())))))),(true,()))))))))
 else
 ((aJ.f k r2.1).bind fun r17 =>
 ((an.f k r17.1 4).bind fun r18 =>
 ((bw.f k r18.2.1 4).bind fun r19 =>
 (bif r18.1.2.1 then
 (some ((0,(0,(ByteArray.empty,(ByteArray.empty,(0,(0,())))))),(false,())))
 else
 (bif (!(seq r18.1.1 (⟨#[]⟩:ByteArray))) then
 (some ((0,(0,(ByteArray.empty,(ByteArray.empty,(0,(0,())))))),(false,())))
 else
 ((gF.f k (r1.2.1,(r2.2.1,(ByteArray.empty,(ByteArray.empty,(r17.2.1,(r19.1,()))))))).bind fun r20 =>
 (bif (!r20.1) then
 (some ((0,(0,(ByteArray.empty,(ByteArray.empty,(0,(0,())))))),(false,())))
 else
 (some ((r1.2.1,(r2.2.1,(ByteArray.empty,(ByteArray.empty,(r17.2.1,(r19.1,())))))),(true,())))))))))))))))
def f (k:Nat):=t k
end cv
namespace dZ
abbrev Rs:Type:=Option ((List (Ty.d bM)) × Int × Unit)
abbrev T0:Type:=ByteArray→Int→List (Ty.d bM)→Rs
def b0 (k:Nat) (L0:T0):T0:=fun x0 x1 x2 =>
 (mR x1 (ByteArray.size x0:Int)
 ((dq.f k (ByteArray.extract x0 (Int.toNat x1) (ByteArray.size x0))).bind fun r1 =>
 ((cv.f k r1.1).bind fun r2 =>
 (bif (r1.2.1==0) then
 (some (x2,(x1,())))
 else
 (bif (!r2.2.1) then
 (some (x2,(x1,())))
 else
 (rm (Ty.bytes bM) (List.length x2+1)
 (L0 x0 (aF (x1+r1.2.1)) (x2++[(x1,(r1.2.1,(r2.1,())))]))))))))
def l0 (k:Nat):Nat→T0
 | 0=>fun _ _ _=>none
 | n+1=>b0 k (l0 k n)
def t (k:Nat) (L0:T0) (a0:ByteArray):Rs :=
 (L0 a0 0 [])
def f (k:Nat):=t k (l0 k k)
end dZ
namespace eo
abbrev Rs:Type:=Option ((List (Ty.d aD)) × Unit)
abbrev T0:Type:=Int→List (Ty.d bM)→Int→Int→List (Ty.d aD)→Rs
def b0 (k:Nat) (L0:T0):T0:=fun x0 x1 x2 x3 x4 =>
 (bif (decide (x3<x2)) then
 (bW x3 (x1.length:Int)
 (rm (Ty.bytes aD) (List.length x4+1)
 (L0 x0 x1 x2 (aF (x3+1)) (x4++[(x0,(List.getD x1 (Int.toNat x3) (Ty.z bM)))]))))
 else
 (some (x4,())))
def l0 (k:Nat):Nat→T0
 | 0=>fun _ _ _ _ _=>none
 | n+1=>b0 k (l0 k n)
def t (k:Nat) (L0:T0) (a0:Int) (a1:List (Ty.d bM)):Rs :=
 (L0 a0 a1 (List.length a1:Int) 0 [])
def f (k:Nat):=t k (l0 k k)
end eo
namespace bN
abbrev Rs:Type:=Option ((Ty.d bA) × (List (List (Ty.d aD))) × Int × Bool × Unit)
abbrev T0:Type:=Int→List Int→Int→Int→List (Ty.d aB)→Int→Int→Bool→Int→Int→List Int→List (List (Ty.d aD))→Rs
def b0 (k:Nat) (L0:T0):T0:=fun x0 x1 x2 x3 x4 x5 x6 x7 x8 x9 x10 x11 =>
 (bif (decide (x3<x2)) then
 (bW x3 (x1.length:Int)
 ((dp.f k (List.getD x1 (Int.toNat x3) (Ty.z (.int .i64)))).bind fun r1 =>
 ((cy.f k (x4,(x5,(x6,(x7,())))) r1.1).bind fun r2 =>
 ((dZ.f k r2.1).bind fun r3 =>
 (bif (!r2.2.1) then
 (some (((x4,(x5,(x6,(x7,())))),(x8,())),([],(0,(false,())))))
 else
 (bif (decide (x3<(aF ((x10.length:Int)-1)))) then
 (bif (r3.2.1 != (ByteArray.size r2.1:Int)) then
 (some (((x4,(x5,(x6,(x7,())))),(x8,())),([],(0,(false,())))))
 else
 ((eo.f k (List.getD x1 (Int.toNat x3) (Ty.z (.int .i64))) r3.1).bind fun r4 =>
 (rm (Ty.bytes (.slice aD)) (List.length x11+1)
 (L0 r3.2.1 x1 x2 (aF (x3+1)) x4 x5 x6 x7 x8 x9 x10 (x11++[r4.1])))))
 else
 ((eo.f k (List.getD x1 (Int.toNat x3) (Ty.z (.int .i64))) r3.1).bind fun r5 =>
 (rm (Ty.bytes (.slice aD)) (List.length x11+1)
 (L0 r3.2.1 x1 x2 (aF (x3+1)) x4 x5 x6 x7 x8 x9 x10 (x11++[r5.1]))))))))))
 else
 (some (((x4,(x5,(x6,(x7,())))),(x8,())),(x11,(x0,(true,()))))))
def l0 (k:Nat):Nat→T0
 | 0=>fun _ _ _ _ _ _ _ _ _ _ _ _=>none
 | n+1=>b0 k (l0 k n)
def t (k:Nat) (L0:T0) (a0:Ty.d bA) (a1:Ty.d ay):Rs :=
 (L0 0 a1.2.1 (List.length a1.2.1:Int) 0 a0.1.1 a0.1.2.1 a0.1.2.2.1 a0.1.2.2.2.1 a0.2.1 a1.1 a1.2.1 [])
def f (k:Nat):=t k (l0 k k)
end bN
namespace ea
abbrev Rs:Type:=Option ((Ty.d a_) × ByteArray × Int × Int × Unit)
def t (k:Nat) (a0:Ty.d a_) (a1:ByteArray) (a2:Int):Rs :=
 ((bV.f k a0 a1).bind fun r1 =>
 (bif (decide (r1.1<0)) then
 (some (a0,(a1,(a2,(3,())))))
 else
 (bW r1.1 (List.length a0.1:Int)
 ((au.f k a2 0 (ByteArray.size (List.getD a0.1 (Int.toNat r1.1) (Ty.z aB)).2.1:Int)).bind fun r2 =>
 (bif (!r2.1) then
 (some (a0,(a1,(a2,(5,())))))
 else
 (mR a2 (ByteArray.size (List.getD a0.1 (Int.toNat r1.1) (Ty.z aB)).2.1:Int)
 (let l3:=(List.set a0.1 (Int.toNat r1.1) ((List.getD a0.1 (Int.toNat r1.1) (Ty.z aB)).1,((ByteArray.extract (List.getD a0.1 (Int.toNat r1.1) (Ty.z aB)).2.1 0 (Int.toNat a2)),(List.getD a0.1 (Int.toNat r1.1) (Ty.z aB)).2.2)));
 (let l4:=(List.set l3 (Int.toNat r1.1) ((List.getD l3 (Int.toNat r1.1) (Ty.z aB)).1,((List.getD l3 (Int.toNat r1.1) (Ty.z aB)).2.1,((if a2<(List.getD a0.1 (Int.toNat r1.1) (Ty.z aB)).2.2.1 then a2 else (List.getD a0.1 (Int.toNat r1.1) (Ty.z aB)).2.2.1),(List.getD l3 (Int.toNat r1.1) (Ty.z aB)).2.2.2))));
 (some ((l4,a0.2),(a1,(a2,(0,())))))))))))))
def f (k:Nat):=t k
end ea
namespace fN
abbrev Rs:Type:=Option (ByteArray × Int × (Ty.d a_) × Int × Unit)
def t (k:Nat) (a0:Ty.d a_) (a1:ByteArray) (a2:Int):Rs :=
 ((bU.f k a0).bind fun r1 =>
 ((bC.f k a0).bind fun r2 =>
 (bif (!r2.1) then
 (some (a1,(a2,(r1.1,(5,())))))
 else
 (bif a0.2.2.2.1 then
 (some (a1,(a2,((r1.1.1,(r1.1.2.1,(r1.1.2.2.1,(true,())))),(1,())))))
 else
 (bif (a0.2.2.1==0) then
 (some (a1,(a2,((r1.1.1,(r1.1.2.1,(r1.1.2.2.1,(true,())))),(1,())))))
 else
 (bif (decide (a0.2.2.1 > 0)) then
 ((ea.f k (r1.1.1,(r1.1.2.1,((aF (r1.1.2.2.1-1)),r1.1.2.2.2))) a1 a2).bind fun r3 =>
 (some (r3.2.1,(r3.2.2.1,(r3.1,r3.2.2.2)))))
 else
 ((ea.f k r1.1 a1 a2).bind fun r4 =>
 (some (r4.2.1,(r4.2.2.1,(r4.1,r4.2.2.2)))))))))))
def f (k:Nat):=t k
end fN
namespace iu
abbrev Rs:Type:=Option ((Ty.d a_) × Int × Unit)
def t (k:Nat) (a0:Ty.d a_) (a1:ByteArray) (a2:Int):Rs :=
 ((fN.f k a0 a1 a2).bind fun r1 =>
 (some r1.2.2))
def f (k:Nat):=t k
end iu
namespace m4
abbrev Rs:Type:=Option (Int × Unit)
def t (k:Nat) (a0:Int):Rs :=
 (bif (a0==0) then
 (some (0,()))
 else
 (bif (a0==1) then
 (some (1,()))
 else
 (bif (a0==2) then
 (some (2,()))
 else
 (some (3,())))))
def f (k:Nat):=t k
end m4
namespace az
abbrev Rs:Type:=Option ((Ty.d bA) × Unit)
def t (k:Nat) (a0:Ty.d bA) (a1:Ty.d a_) (a2:Int):Rs :=
 ((m4.f k a2).bind fun r1 =>
 (some ((a1,r1),())))
def f (k:Nat):=t k
end az
namespace iH
abbrev Rs:Type:=Option ((Ty.d a_) × ByteArray × Int × Unit)
def t (k:Nat) (a0:Ty.d a_) (a1:ByteArray):Rs :=
 ((bV.f k a0 a1).bind fun r1 =>
 (bif (decide (r1.1<0)) then
 (some (a0,(a1,(3,()))))
 else
 (bW r1.1 (List.length a0.1:Int)
 (bW r1.1 (List.length a0.1:Int)
 (let l2:=(List.set a0.1 (Int.toNat r1.1) ((List.getD a0.1 (Int.toNat r1.1) (Ty.z aB)).1,((List.getD a0.1 (Int.toNat r1.1) (Ty.z aB)).2.1,((ByteArray.size (List.getD a0.1 (Int.toNat r1.1) (Ty.z aB)).2.1:Int),(List.getD a0.1 (Int.toNat r1.1) (Ty.z aB)).2.2.2))));
 (some ((l2,a0.2),(a1,(0,())))))))))
def f (k:Nat):=t k
end iH
namespace hZ
abbrev Rs:Type:=Option (ByteArray × (Ty.d a_) × Int × Unit)
def t (k:Nat) (a0:Ty.d a_) (a1:ByteArray):Rs :=
 ((bU.f k a0).bind fun r1 =>
 ((bC.f k a0).bind fun r2 =>
 (bif (!r2.1) then
 (some (a1,(r1.1,(5,()))))
 else
 (bif a0.2.2.2.1 then
 (some (a1,((r1.1.1,(r1.1.2.1,(r1.1.2.2.1,(true,())))),(1,()))))
 else
 (bif (a0.2.2.1==0) then
 (some (a1,((r1.1.1,(r1.1.2.1,(r1.1.2.2.1,(true,())))),(1,()))))
 else
 (bif (decide (a0.2.2.1 > 0)) then
 ((iH.f k (r1.1.1,(r1.1.2.1,((aF (r1.1.2.2.1-1)),r1.1.2.2.2))) a1).bind fun r3 =>
 (some (r3.2.1,(r3.1,r3.2.2))))
 else
 ((iH.f k r1.1 a1).bind fun r4 =>
 (some (r4.2.1,(r4.1,r4.2.2))))))))))
def f (k:Nat):=t k
end hZ
namespace lz
abbrev Rs:Type:=Option ((Ty.d a_) × Int × Unit)
def t (k:Nat) (a0:Ty.d a_) (a1:ByteArray):Rs :=
 ((hZ.f k a0 a1).bind fun r1 =>
 (some r1.2))
def f (k:Nat):=t k
end lz
namespace d7
abbrev Rs:Type:=Option ((Ty.d bA) × Unit)
def t (k:Nat) (a0:Ty.d bA) (a1:ByteArray):Rs :=
 (bif (a0.2.1==0) then
 ((lz.f k a0.1 a1).bind fun r1 =>
 ((az.f k a0 r1.1 r1.2.1).bind fun r2 =>
 (some r2)))
 else
 (some (a0,())))
def f (k:Nat):=t k
end d7
namespace iq
abbrev Rs:Type:=Option (ByteArray × Unit)
def t (k:Nat) (a0:Int):Rs :=
 ((jV.f k (⟨#[104,105,110,116]⟩:ByteArray) a0).bind fun r1 =>
 (some r1))
def f (k:Nat):=t k
end iq
namespace fS
abbrev Rs:Type:=Option (Bool × Unit)
abbrev T0:Type:=List (Ty.d aA)→List (Ty.d aA)→Int→Int→Rs
def b0 (k:Nat) (L0:T0):T0:=fun x0 x1 x2 x3 =>
 (bif (decide (x3<x2)) then
 (bW x3 (x1.length:Int)
 ((h_.f k (List.getD x1 (Int.toNat x3) (Ty.z aA)).1).bind fun r1 =>
 (bif (!r1.1) then
 (some (false,()))
 else
 ((au.f k (List.getD x1 (Int.toNat x3) (Ty.z aA)).2.1 1 100000).bind fun r2 =>
 (bif (!r2.1) then
 (some (false,()))
 else
 (bif (decide ((List.getD x1 (Int.toNat x3) (Ty.z aA)).2.2.1<0)) then
 (some (false,()))
 else
 ((au.f k (List.getD x1 (Int.toNat x3) (Ty.z aA)).2.2.2.1 1 210).bind fun r3 =>
 (bif (!r3.1) then
 (some (false,()))
 else
 ((au.f k (List.getD x1 (Int.toNat x3) (Ty.z aA)).2.2.2.2.1 1 1000000).bind fun r4 =>
 (bif (!r4.1) then
 (some (false,()))
 else
 (bif (decide (x3 > 0)) then
 (bW (aF (x3-1)) (x0.length:Int)
 (bif (!(nO (List.getD x0 (Int.toNat (aF (x3-1))) (Ty.z aA)).1 (List.getD x1 (Int.toNat x3) (Ty.z aA)).1)) then
 (some (false,()))
 else
 (L0 x0 x1 x2 (aF (x3+1)))))
 else
 (L0 x0 x1 x2 (aF (x3+1))))))))))))))
 else
 (some ((decide ((x0.length:Int)≤20)),())))
def l0 (k:Nat):Nat→T0
 | 0=>fun _ _ _ _=>none
 | n+1=>b0 k (l0 k n)
def t (k:Nat) (L0:T0) (a0:List (Ty.d aA)):Rs :=
 (L0 a0 a0 (List.length a0:Int) 0)
def f (k:Nat):=t k (l0 k k)
end fS
namespace eJ
abbrev Rs:Type:=Option (Bool × Unit)
abbrev T0:Type:=List (Ty.d aA)→Int→Int→Int→Int→List (Ty.d aA)→Rs
def b0 (k:Nat) (L0:T0):T0:=fun x0 x1 x2 x3 x4 x5 =>
 (bif (decide (x2<x1)) then
 (bW x2 (x0.length:Int)
 (bW 0 (x5.length:Int)
 (bif ((List.getD x0 (Int.toNat x2) (Ty.z aA)).2.1 != (List.getD x5 0 (Ty.z aA)).2.1) then
 (some (false,()))
 else
 (bif (decide ((List.getD x0 (Int.toNat x2) (Ty.z aA)).2.2.1 > 100000)) then
 (some (false,()))
 else
 (L0 x0 x1 (aF (x2+1)) x3 x4 x5)))))
 else
 ((au.f k x3 0 100000).bind fun r1 =>
 (bif r1.1 then
 ((au.f k x4 0 1000000).bind fun r2 =>
 (bif r2.1 then
 ((fS.f k x5).bind fun r3 =>
 (some r3))
 else
 (some (false,()))))
 else
 (some (false,())))))
def l0 (k:Nat):Nat→T0
 | 0=>fun _ _ _ _ _ _=>none
 | n+1=>b0 k (l0 k n)
def t (k:Nat) (L0:T0) (a0:Ty.d di):Rs :=
 (L0 a0.2.2.1 (List.length a0.2.2.1:Int) 0 a0.1 a0.2.1 a0.2.2.1)
def f (k:Nat):=t k (l0 k k)
end eJ
namespace dM
abbrev Rs:Type:=Option (ByteArray × Unit)
abbrev T0:Type:=ByteArray→List Int→Int→Int→Rs
def b0 (k:Nat) (L0:T0):T0:=fun x0 x1 x2 x3 =>
 (bif (decide (x3<x2)) then
 (bW x3 (x1.length:Int)
 ((fg.f k (List.getD x1 (Int.toNat x3) (Ty.z (.int .i64)))).bind fun r1 =>
 (kC x0 r1.1
 (L0 (x0++r1.1) x1 x2 (aF (x3+1))))))
 else
 (some (x0,())))
def l0 (k:Nat):Nat→T0
 | 0=>fun _ _ _ _=>none
 | n+1=>b0 k (l0 k n)
def t (k:Nat) (L0:T0) (a0:List Int):Rs :=
 (L0 (⟨#[]⟩:ByteArray) a0 (List.length a0:Int) 0)
def f (k:Nat):=t k (l0 k k)
end dM
namespace dW
abbrev Rs:Type:=Option (ByteArray × Unit)
abbrev T0:Type:=ByteArray→List (Ty.d aA)→Int→Int→Rs
def b0 (k:Nat) (L0:T0):T0:=fun x0 x1 x2 x3 =>
 (bif (decide (x3<x2)) then
 (bW x3 (x1.length:Int)
 ((eH.f k (List.getD x1 (Int.toNat x3) (Ty.z aA)).1).bind fun r3 =>
 ((dM.f k [(List.getD x1 (Int.toNat x3) (Ty.z aA)).2.1,(List.getD x1 (Int.toNat x3) (Ty.z aA)).2.2.1,(List.getD x1 (Int.toNat x3) (Ty.z aA)).2.2.2.1,(List.getD x1 (Int.toNat x3) (Ty.z aA)).2.2.2.2.1]).bind fun r4 =>
 (kC r3.1 r4.1
 (kC x0 (r3.1++r4.1)
 (L0 (x0++(r3.1++r4.1)) x1 x2 (aF (x3+1))))))))
 else
 ((gL.f k x0).bind fun r5 =>
 ((dX.f k r5.1 4).bind fun r6 =>
 (kC r6.1 x0
 (some ((r6.1++x0),()))))))
def l0 (k:Nat):Nat→T0
 | 0=>fun _ _ _ _=>none
 | n+1=>b0 k (l0 k n)
def t (k:Nat) (L0:T0) (a0:Ty.d di):Rs :=
 ((eJ.f k a0).bind fun r1 =>
 (bif (!r1.1) then
 (some ((⟨#[]⟩:ByteArray),()))
 else
 ((dM.f k [a0.1,a0.2.1,(List.length a0.2.2.1:Int)]).bind fun r2 =>
 (L0 r2.1 a0.2.2.1 (List.length a0.2.2.1:Int) 0))))
def f (k:Nat):=t k (l0 k k)
end dW
namespace bF
abbrev Rs:Type:=Option ((Ty.d di) × Bool × Unit)
abbrev T0:Type:=ByteArray→Int→Int→List (Ty.d aA)→Int→Int→ByteArray→Bool→List (Ty.d aA)→Int→Int→Rs
def b0 (k:Nat) (L0:T0):T0:=fun x0 x1 x2 x3 x4 x5 x6 x7 x8 x9 x10 =>
 (bif (decide (x2<x1)) then
 (bif (!x7) then
 ((ai.f k (x6,(x7,()))).bind fun r5 =>
 ((aJ.f k r5.1).bind fun r6 =>
 ((aJ.f k r6.1).bind fun r7 =>
 ((aJ.f k r7.1).bind fun r8 =>
 ((aJ.f k r8.1).bind fun r9 =>
 (rm (Ty.bytes aA) (List.length x8+1)
 (L0 x0 x1 (aF (x2+1)) x3 x4 x5 r9.1.1 r9.1.2.1 (x8++[(r5.2.1,(r6.2.1,(r7.2.1,(r8.2.1,r9.2))))]) x9 x10)))))))
 else
 (bif x7 then
 (some ((0,(0,([],()))),(false,())))
 else
 ((eJ.f k (x9,(x10,(x8,())))).bind fun r10 =>
 (bif (!r10.1) then
 (some ((0,(0,([],()))),(false,())))
 else
 ((dW.f k (x9,(x10,(x8,())))).bind fun r11 =>
 (bif (!(seq r11.1 x0)) then
 (some ((0,(0,([],()))),(false,())))
 else
 (some ((x9,(x10,(x8,()))),(true,())))))))))
 else
 (bif x7 then
 (some ((0,(0,([],()))),(false,())))
 else
 ((eJ.f k (x9,(x10,(x8,())))).bind fun r12 =>
 (bif (!r12.1) then
 (some ((0,(0,([],()))),(false,())))
 else
 ((dW.f k (x9,(x10,(x8,())))).bind fun r13 =>
 (bif (!(seq r13.1 x0)) then
 (some ((0,(0,([],()))),(false,())))
 else
 (some ((x9,(x10,(x8,()))),(true,())))))))))
def l0 (k:Nat):Nat→T0
 | 0=>fun _ _ _ _ _ _ _ _ _ _ _=>none
 | n+1=>b0 k (l0 k n)
def t (k:Nat) (L0:T0) (a0:ByteArray):Rs :=
 ((an.f k (a0,(false,())) 4).bind fun r1 =>
 ((aJ.f k r1.1).bind fun r2 =>
 ((aJ.f k r2.1).bind fun r3 =>
 ((aJ.f k r3.1).bind fun r4 =>
 (L0 a0 r4.2.1 0 [] 0 0 r4.1.1 r4.1.2.1 [] r2.2.1 r3.2.1)))))
def f (k:Nat):=t k (l0 k k)
end bF
namespace jN
abbrev Rs:Type:=Option (ByteArray × Unit)
def t (k:Nat) (a0:Ty.d bP):Rs :=
 ((gF.f k a0).bind fun r1 =>
 (bif (!r1.1) then
 (some ((⟨#[]⟩:ByteArray),()))
 else
 ((dM.f k [a0.1,a0.2.1]).bind fun r2 =>
 (bif (a0.1==1) then
 (bif (a0.1==1) then
 ((eH.f k a0.2.2.1).bind fun r3 =>
 (kC r2.1 r3.1
 ((eH.f k a0.2.2.2.1).bind fun r4 =>
 (kC (r2.1++r3.1) r4.1
 (some (((r2.1++r3.1)++r4.1),()))))))
 else
 (bif (a0.1==2) then
 ((eH.f k a0.2.2.1).bind fun r5 =>
 (kC r2.1 r5.1
 (some ((r2.1++r5.1),()))))
 else
 ((fg.f k a0.2.2.2.2.1).bind fun r6 =>
 (kC r2.1 r6.1
 ((dX.f k a0.2.2.2.2.2.1 4).bind fun r7 =>
 (kC (r2.1++r6.1) r7.1
 (some (((r2.1++r6.1)++r7.1),()))))))))
 else
 (bif (a0.1==4) then
 ((eH.f k a0.2.2.1).bind fun r8 =>
 (kC r2.1 r8.1
 ((eH.f k a0.2.2.2.1).bind fun r9 =>
 (kC (r2.1++r8.1) r9.1
 (some (((r2.1++r8.1)++r9.1),()))))))
 else
 (bif (a0.1==2) then
 ((eH.f k a0.2.2.1).bind fun r10 =>
 (kC r2.1 r10.1
 (some ((r2.1++r10.1),()))))
 else
 ((fg.f k a0.2.2.2.2.1).bind fun r11 =>
 (kC r2.1 r11.1
 ((dX.f k a0.2.2.2.2.2.1 4).bind fun r12 =>
 (kC (r2.1++r11.1) r12.1
 (some (((r2.1++r11.1)++r12.1),()))))))))))))
def f (k:Nat):=t k
end jN
namespace jE
abbrev Rs:Type:=Option (Int × Unit)
abbrev T0:Type:=ByteArray→List (Ty.d bP)→Int→Int→Rs
def b0 (k:Nat) (L0:T0):T0:=fun x0 x1 x2 x3 =>
 (bif (decide (x3<x2)) then
 (bW x3 (x1.length:Int)
 ((jN.f k (List.getD x1 (Int.toNat x3) (Ty.z bP))).bind fun r1 =>
 (kC x0 r1.1
 (L0 (x0++r1.1) x1 x2 (aF (x3+1))))))
 else
 ((gL.f k x0).bind fun r2 =>
 (some r2)))
def l0 (k:Nat):Nat→T0
 | 0=>fun _ _ _ _=>none
 | n+1=>b0 k (l0 k n)
def t (k:Nat) (L0:T0) (a0:List (Ty.d bP)):Rs :=
 (L0 (⟨#[]⟩:ByteArray) a0 (List.length a0:Int) 0)
def f (k:Nat):=t k (l0 k k)
end jE
namespace gb
abbrev Rs:Type:=Option (Bool × Unit)
abbrev T0:Type:=List (Ty.d aD)→Int→Int→Int→Int→ByteArray→ByteArray→Int→Int→List (Ty.d bP)→Rs
def b0 (k:Nat) (L0:T0):T0:=fun x0 x1 x2 x3 x4 x5 x6 x7 x8 x9 =>
 (bif (decide (x2<x1)) then
 (bW x2 (x0.length:Int)
 (rm (Ty.bytes bP) (List.length x9+1)
 (L0 x0 x1 (aF (x2+1)) x3 x4 x5 x6 x7 x8 (x9++[(List.getD x0 (Int.toNat x2) (Ty.z aD)).2.2.2.1]))))
 else
 (bif (x7==(x9.length:Int)) then
 ((jE.f k x9).bind fun r1 =>
 (some ((x8==r1.1),())))
 else
 (some (false,()))))
def l0 (k:Nat):Nat→T0
 | 0=>fun _ _ _ _ _ _ _ _ _ _=>none
 | n+1=>b0 k (l0 k n)
def t (k:Nat) (L0:T0) (a0:Ty.d bP) (a1:List (Ty.d aD)):Rs :=
 (L0 a1 (List.length a1:Int) 0 a0.1 a0.2.1 a0.2.2.1 a0.2.2.2.1 a0.2.2.2.2.1 a0.2.2.2.2.2.1 [])
def f (k:Nat):=t k (l0 k k)
end gb
namespace fR
abbrev Rs:Type:=Option ((Ty.d di) × Bool × Unit)
abbrev T0:Type:=Int→List (Ty.d bM)→List (Ty.d bM)→Int→Int→List (Ty.d aA)→Int→Int→List (Ty.d aA)→Int→Int→Rs
def b0 (k:Nat) (L0:T0):T0:=fun x0 x1 x2 x3 x4 x5 x6 x7 x8 x9 x10 =>
 (bif (decide (x4<x3)) then
 (bW x4 (x2.length:Int)
 (bif ((List.getD x2 (Int.toNat x4) (Ty.z bM)).2.2.1.1 != 4) then
 (some ((0,(0,([],()))),(false,())))
 else
 (bif (decide ((List.getD x2 (Int.toNat x4) (Ty.z bM)).2.2.1.2.1 > x10)) then
 (some ((0,(0,([],()))),(false,())))
 else
 (bif (decide (x4 > 0)) then
 (bW (aF (x4-1)) (x1.length:Int)
 (bif (!(nO (List.getD x1 (Int.toNat (aF (x4-1))) (Ty.z bM)).2.2.1.2.2.1 (List.getD x2 (Int.toNat x4) (Ty.z bM)).2.2.1.2.2.1)) then
 (some ((0,(0,([],()))),(false,())))
 else
 (rm (Ty.bytes aA) (List.length x8+1)
 (L0 x0 x1 x2 x3 (aF (x4+1)) x5 x6 x7 (x8++[((List.getD x2 (Int.toNat x4) (Ty.z bM)).2.2.1.2.2.1,(x0,((List.getD x2 (Int.toNat x4) (Ty.z bM)).1,((List.getD x2 (Int.toNat x4) (Ty.z bM)).2.1,((List.getD x2 (Int.toNat x4) (Ty.z bM)).2.2.1.2.1,())))))]) x9 x10))))
 else
 (rm (Ty.bytes aA) (List.length x8+1)
 (L0 x0 x1 x2 x3 (aF (x4+1)) x5 x6 x7 (x8++[((List.getD x2 (Int.toNat x4) (Ty.z bM)).2.2.1.2.2.1,(x0,((List.getD x2 (Int.toNat x4) (Ty.z bM)).1,((List.getD x2 (Int.toNat x4) (Ty.z bM)).2.1,((List.getD x2 (Int.toNat x4) (Ty.z bM)).2.2.1.2.1,())))))]) x9 x10))))))
 else
 (some ((x9,(x10,(x8,()))),(true,()))))
def l0 (k:Nat):Nat→T0
 | 0=>fun _ _ _ _ _ _ _ _ _ _ _=>none
 | n+1=>b0 k (l0 k n)
def t (k:Nat) (L0:T0) (a0:Int) (a1:ByteArray):Rs :=
 ((dZ.f k a1).bind fun r1 =>
 (bif (decide ((aF ((List.length r1.1:Int)-1))<0)) then
 (some ((0,(0,([],()))),(false,())))
 else
 (bif (r1.2.1 != (ByteArray.size a1:Int)) then
 (some ((0,(0,([],()))),(false,())))
 else
 ((au.f k a0 1 100000).bind fun r2 =>
 (bif (!r2.1) then
 (some ((0,(0,([],()))),(false,())))
 else
 (bW (aF ((List.length r1.1:Int)-1)) (List.length r1.1:Int)
 (bif ((List.getD r1.1 (Int.toNat (aF ((List.length r1.1:Int)-1))) (Ty.z bM)).2.2.1.1 != 5) then
 (some ((0,(0,([],()))),(false,())))
 else
 (bW (aF ((List.length r1.1:Int)-1)) (List.length r1.1:Int)
 (mR (aF ((List.length r1.1:Int)-1)) (List.length r1.1:Int)
 ((eo.f k a0 (List.take (Int.toNat (aF ((List.length r1.1:Int)-1))) r1.1)).bind fun r3 =>
 ((gb.f k (List.getD r1.1 (Int.toNat (aF ((List.length r1.1:Int)-1))) (Ty.z bM)).2.2.1 r3.1).bind fun r4 =>
 (bif (!r4.1) then
 (some ((0,(0,([],()))),(false,())))
 else
 (bW (aF ((List.length r1.1:Int)-1)) (List.length r1.1:Int)
 (mR (aF ((List.length r1.1:Int)-1)) (List.length r1.1:Int)
 (L0 a0 r1.1 (List.take (Int.toNat (aF ((List.length r1.1:Int)-1))) r1.1) (List.length (List.take (Int.toNat (aF ((List.length r1.1:Int)-1))) r1.1):Int) 0 [] 0 0 [] r1.2.1 (List.getD r1.1 (Int.toNat (aF ((List.length r1.1:Int)-1))) (Ty.z bM)).2.2.1.2.1)))))))))))))))
def f (k:Nat):=t k (l0 k k)
end fR
namespace fa
abbrev Rs:Type:=Option (Bool × Unit)
abbrev T0:Type:=List (Ty.d aA)→List (Ty.d aA)→Int→Int→Rs
def b0 (k:Nat) (L0:T0):T0:=fun x0 x1 x2 x3 =>
 (bif (decide (x3<x2)) then
 (bW x3 (x0.length:Int)
 (bW x3 (x1.length:Int)
 (bif (!((seq (List.getD x0 (Int.toNat x3) (Ty.z aA)).1 (List.getD x1 (Int.toNat x3) (Ty.z aA)).1)&&(((List.getD x0 (Int.toNat x3) (Ty.z aA)).2.1==(List.getD x1 (Int.toNat x3) (Ty.z aA)).2.1)&&(((List.getD x0 (Int.toNat x3) (Ty.z aA)).2.2.1==(List.getD x1 (Int.toNat x3) (Ty.z aA)).2.2.1)&&(((List.getD x0 (Int.toNat x3) (Ty.z aA)).2.2.2.1==(List.getD x1 (Int.toNat x3) (Ty.z aA)).2.2.2.1)&&((List.getD x0 (Int.toNat x3) (Ty.z aA)).2.2.2.2.1==(List.getD x1 (Int.toNat x3) (Ty.z aA)).2.2.2.2.1)))))) then
 (some (false,()))
 else
 (L0 x0 x1 x2 (aF (x3+1))))))
 else
 (some (true,())))
def l0 (k:Nat):Nat→T0
 | 0=>fun _ _ _ _=>none
 | n+1=>b0 k (l0 k n)
def t (k:Nat) (L0:T0) (a0:List (Ty.d aA)) (a1:List (Ty.d aA)):Rs :=
 (bif ((List.length a0:Int) != (List.length a1:Int)) then
 (some (false,()))
 else
 (L0 a0 a1 (List.length a0:Int) 0))
def f (k:Nat):=t k (l0 k k)
end fa
namespace il
abbrev Rs:Type:=Option (Bool × Unit)
def t (k:Nat) (a0:Int) (a1:ByteArray) (a2:Ty.d di):Rs :=
 ((fR.f k a0 a1).bind fun r1 =>
 (bif r1.2.1 then
 (bif (r1.1.1==a2.1) then
 (bif (r1.1.2.1==a2.2.1) then
 ((fa.f k r1.1.2.2.1 a2.2.2.1).bind fun r2 =>
 (some r2))
 else
 (some (false,())))
 else
 (some (false,())))
 else
 (some (false,()))))
def f (k:Nat):=t k
end il
namespace ck
abbrev Rs:Type:=Option ((Ty.d bA) × (Ty.d gB) × Bool × Unit)
def t (k:Nat) (a0:Ty.d bA) (a1:Int):Rs :=
 ((iq.f k a1).bind fun r1 =>
 ((cy.f k a0.1 r1.1).bind fun r2 =>
 ((bF.f k r2.1).bind fun r3 =>
 ((dp.f k a1).bind fun r4 =>
 ((cy.f k a0.1 r4.1).bind fun r5 =>
 (bif (!r2.2.1) then
 (some (a0,(([],(0,(0,()))),(false,()))))
 else
 (bif (!r3.2.1) then
 (some (a0,(([],(0,(0,()))),(false,()))))
 else
 ((il.f k a1 r5.1 r3.1).bind fun r6 =>
 (bif (!r6.1) then
 (some (a0,(([],(0,(0,()))),(false,()))))
 else
 (some (a0,((r3.1.2.2.1,(r3.1.2.1,(0,()))),(true,())))))))))))))
def f (k:Nat):=t k
end ck
namespace fA
abbrev Rs:Type:=Option ((List (Ty.d aA)) × Unit)
def t (k:Nat) (a0:List (Ty.d aA)):Rs :=
 (rm (Ty.bytes aA) (List.length a0)
 (some (a0,())))
def f (k:Nat):=t k
end fA
namespace d9
abbrev Rs:Type:=Option ((List (Ty.d aD)) × Unit)
abbrev T0:Type:=List (Ty.d aD)→Int→Int→Int→Int→ByteArray→ByteArray→Int→Int→List (Ty.d aD)→Rs
def b0 (k:Nat) (L0:T0):T0:=fun x0 x1 x2 x3 x4 x5 x6 x7 x8 x9 =>
 (bif (decide (x2<x1)) then
 (bW x2 (x0.length:Int)
 (bif (x3==3) then
 (bif ((List.getD x0 (Int.toNat x2) (Ty.z aD)).2.2.2.1.2.1 != x4) then
 (L0 x0 x1 (aF (x2+1)) x3 x4 x5 x6 x7 x8 x9)
 else
 (bif ((List.getD x0 (Int.toNat x2) (Ty.z aD)).2.2.2.1.1==x3) then
 (L0 x0 x1 (aF (x2+1)) x3 x4 x5 x6 x7 x8 [])
 else
 (bif (x3==3) then
 (bif ((List.getD x0 (Int.toNat x2) (Ty.z aD)).2.2.2.1.1==1) then
 (rm (Ty.bytes aD) (List.length x9+1)
 (L0 x0 x1 (aF (x2+1)) x3 x4 x5 x6 x7 x8 (x9++[(List.getD x0 (Int.toNat x2) (Ty.z aD))])))
 else
 (bif ((List.getD x0 (Int.toNat x2) (Ty.z aD)).2.2.2.1.1==2) then
 (bif ((List.getD x0 (Int.toNat x2) (Ty.z aD)).2.2.2.1.1==2) then
 (rm (Ty.bytes aD) (List.length x9+1)
 (L0 x0 x1 (aF (x2+1)) x3 x4 x5 x6 x7 x8 (x9++[(List.getD x0 (Int.toNat x2) (Ty.z aD))])))
 else
 (L0 x0 x1 (aF (x2+1)) x3 x4 x5 x6 x7 x8 x9))
 else
 (bif (x3==5) then
 (bif ((List.getD x0 (Int.toNat x2) (Ty.z aD)).2.2.2.1.1==4) then
 (rm (Ty.bytes aD) (List.length x9+1)
 (L0 x0 x1 (aF (x2+1)) x3 x4 x5 x6 x7 x8 (x9++[(List.getD x0 (Int.toNat x2) (Ty.z aD))])))
 else
 (L0 x0 x1 (aF (x2+1)) x3 x4 x5 x6 x7 x8 x9))
 else
 (L0 x0 x1 (aF (x2+1)) x3 x4 x5 x6 x7 x8 x9))))
 else
 (bif (x3==5) then
 (bif ((List.getD x0 (Int.toNat x2) (Ty.z aD)).2.2.2.1.1==4) then
 (rm (Ty.bytes aD) (List.length x9+1)
 (L0 x0 x1 (aF (x2+1)) x3 x4 x5 x6 x7 x8 (x9++[(List.getD x0 (Int.toNat x2) (Ty.z aD))])))
 else
 (L0 x0 x1 (aF (x2+1)) x3 x4 x5 x6 x7 x8 x9))
 else
 (L0 x0 x1 (aF (x2+1)) x3 x4 x5 x6 x7 x8 x9)))))
 else
 (bif ((List.getD x0 (Int.toNat x2) (Ty.z aD)).2.2.2.1.1==x3) then
 (L0 x0 x1 (aF (x2+1)) x3 x4 x5 x6 x7 x8 [])
 else
 (bif (x3==3) then
 (bif ((List.getD x0 (Int.toNat x2) (Ty.z aD)).2.2.2.1.1==1) then
 (rm (Ty.bytes aD) (List.length x9+1)
 (L0 x0 x1 (aF (x2+1)) x3 x4 x5 x6 x7 x8 (x9++[(List.getD x0 (Int.toNat x2) (Ty.z aD))])))
 else
 (bif ((List.getD x0 (Int.toNat x2) (Ty.z aD)).2.2.2.1.1==2) then
 (bif ((List.getD x0 (Int.toNat x2) (Ty.z aD)).2.2.2.1.1==2) then
 (rm (Ty.bytes aD) (List.length x9+1)
 (L0 x0 x1 (aF (x2+1)) x3 x4 x5 x6 x7 x8 (x9++[(List.getD x0 (Int.toNat x2) (Ty.z aD))])))
 else
 (L0 x0 x1 (aF (x2+1)) x3 x4 x5 x6 x7 x8 x9))
 else
 (bif (x3==5) then
 (bif ((List.getD x0 (Int.toNat x2) (Ty.z aD)).2.2.2.1.1==4) then
 (rm (Ty.bytes aD) (List.length x9+1)
 (L0 x0 x1 (aF (x2+1)) x3 x4 x5 x6 x7 x8 (x9++[(List.getD x0 (Int.toNat x2) (Ty.z aD))])))
 else
 (L0 x0 x1 (aF (x2+1)) x3 x4 x5 x6 x7 x8 x9))
 else
 (L0 x0 x1 (aF (x2+1)) x3 x4 x5 x6 x7 x8 x9))))
 else
 (bif (x3==5) then
 (bif ((List.getD x0 (Int.toNat x2) (Ty.z aD)).2.2.2.1.1==4) then
 (rm (Ty.bytes aD) (List.length x9+1)
 (L0 x0 x1 (aF (x2+1)) x3 x4 x5 x6 x7 x8 (x9++[(List.getD x0 (Int.toNat x2) (Ty.z aD))])))
 else
 (L0 x0 x1 (aF (x2+1)) x3 x4 x5 x6 x7 x8 x9))
 else
 (L0 x0 x1 (aF (x2+1)) x3 x4 x5 x6 x7 x8 x9))))))
 else
 (some (x9,())))
def l0 (k:Nat):Nat→T0
 | 0=>fun _ _ _ _ _ _ _ _ _ _=>none
 | n+1=>b0 k (l0 k n)
def t (k:Nat) (L0:T0) (a0:List (Ty.d aD)) (a1:Ty.d bP):Rs :=
 (L0 a0 (List.length a0:Int) 0 a1.1 a1.2.1 a1.2.2.1 a1.2.2.2.1 a1.2.2.2.2.1 a1.2.2.2.2.2.1 [])
def f (k:Nat):=t k (l0 k k)
end d9
namespace dT
abbrev Rs:Type:=Option ((List (Ty.d aA)) × Unit)
abbrev T0:Type:=ByteArray→List (Ty.d aA)→Int→Int→List (Ty.d aA)→Rs
def b0 (k:Nat) (L0:T0):T0:=fun x0 x1 x2 x3 x4 =>
 (bif (decide (x3<x2)) then
 (bW x3 (x1.length:Int)
 (bif (!(seq (List.getD x1 (Int.toNat x3) (Ty.z aA)).1 x0)) then
 (rm (Ty.bytes aA) (List.length x4+1)
 (L0 x0 x1 x2 (aF (x3+1)) (x4++[(List.getD x1 (Int.toNat x3) (Ty.z aA))])))
 else
 (L0 x0 x1 x2 (aF (x3+1)) x4)))
 else
 (some (x4,())))
def l0 (k:Nat):Nat→T0
 | 0=>fun _ _ _ _ _=>none
 | n+1=>b0 k (l0 k n)
def t (k:Nat) (L0:T0) (a0:List (Ty.d aA)) (a1:ByteArray):Rs :=
 (L0 a1 a0 (List.length a0:Int) 0 [])
def f (k:Nat):=t k (l0 k k)
end dT
namespace fM
abbrev Rs:Type:=Option ((List (Ty.d aA)) × Unit)
abbrev T0:Type:=Int→ByteArray→Int→Int→Int→Int→List (Ty.d aA)→Rs
def b0 (k:Nat) (L0:T0):T0:=fun x0 x1 x2 x3 x4 x5 x6 =>
 (bif (decide (x0<(x6.length:Int))) then
 (bW x0 (x6.length:Int)
 (bif ((nO (List.getD x6 (Int.toNat x0) (Ty.z aA)).1 x1)||(seq (List.getD x6 (Int.toNat x0) (Ty.z aA)).1 x1)) then
 (L0 (aF (x0+1)) x1 x2 x3 x4 x5 x6)
 else
 (mR x0 (x6.length:Int)
 ((fA.f k (List.take (Int.toNat x0) x6)).bind fun r2 =>
 (rm (Ty.bytes aA) (List.length r2.1+1)
 (mR x0 (x6.length:Int)
 (rm (Ty.bytes aA) (List.length (r2.1++[(x1,(x2,(x3,(x4,(x5,())))))])+List.length (List.drop (Int.toNat x0) x6))
 (some (((r2.1++[(x1,(x2,(x3,(x4,(x5,())))))])++(List.drop (Int.toNat x0) x6)),())))))))))
 else
 (mR x0 (x6.length:Int)
 ((fA.f k (List.take (Int.toNat x0) x6)).bind fun r3 =>
 (rm (Ty.bytes aA) (List.length r3.1+1)
 (mR x0 (x6.length:Int)
 (rm (Ty.bytes aA) (List.length (r3.1++[(x1,(x2,(x3,(x4,(x5,())))))])+List.length (List.drop (Int.toNat x0) x6))
 (some (((r3.1++[(x1,(x2,(x3,(x4,(x5,())))))])++(List.drop (Int.toNat x0) x6)),()))))))))
def l0 (k:Nat):Nat→T0
 | 0=>fun _ _ _ _ _ _ _=>none
 | n+1=>b0 k (l0 k n)
def t (k:Nat) (L0:T0) (a0:List (Ty.d aA)) (a1:Ty.d aA):Rs :=
 ((dT.f k a0 a1.1).bind fun r1 =>
 (L0 0 a1.1 a1.2.1 a1.2.2.1 a1.2.2.2.1 a1.2.2.2.2.1 r1.1))
def f (k:Nat):=t k (l0 k k)
end fM
namespace cJ
abbrev Rs:Type:=Option ((Ty.d gB) × Unit)
abbrev T0:Type:=List (Ty.d aD)→Int→Int→List (Ty.d aA)→Int→Int→Rs
def b0 (k:Nat) (L0:T0):T0:=fun x0 x1 x2 x3 x4 x5 =>
 (bif (decide (x2<x1)) then
 (bW x2 (x0.length:Int)
 (bif ((List.getD x0 (Int.toNat x2) (Ty.z aD)).2.2.2.1.1==2) then
 ((dT.f k x3 (List.getD x0 (Int.toNat x2) (Ty.z aD)).2.2.2.1.2.2.1).bind fun r1 =>
 (L0 x0 x1 (aF (x2+1)) r1.1 x4 x5))
 else
 ((fM.f k x3 ((List.getD x0 (Int.toNat x2) (Ty.z aD)).2.2.2.1.2.2.1,((List.getD x0 (Int.toNat x2) (Ty.z aD)).1,((List.getD x0 (Int.toNat x2) (Ty.z aD)).2.1,((List.getD x0 (Int.toNat x2) (Ty.z aD)).2.2.1,((List.getD x0 (Int.toNat x2) (Ty.z aD)).2.2.2.1.2.1,())))))).bind fun r2 =>
 (L0 x0 x1 (aF (x2+1)) r2.1 x4 x5))))
 else
 (bif (decide ((x3.length:Int) > 20)) then
 (some ((x3,(x4,(2,()))),()))
 else
 (some ((x3,(x4,(x5,()))),()))))
def l0 (k:Nat):Nat→T0
 | 0=>fun _ _ _ _ _ _=>none
 | n+1=>b0 k (l0 k n)
def t (k:Nat) (L0:T0) (a0:Ty.d gB) (a1:List (Ty.d aD)):Rs :=
 (L0 a1 (List.length a1:Int) 0 a0.1 a0.2.1 a0.2.2.1)
def f (k:Nat):=t k (l0 k k)
end cJ
namespace dN
abbrev Rs:Type:=Option ((Ty.d gB) × Unit)
abbrev T0:Type:=List (Ty.d aD)→List (Ty.d aD)→Int→Int→List (Ty.d aA)→Int→Int→List (Ty.d aA)→Int→Int→Rs
def b0 (k:Nat) (L0:T0):T0:=fun x0 x1 x2 x3 x4 x5 x6 x7 x8 x9 =>
 (bif (decide (x3<x2)) then
 (bW x3 (x1.length:Int)
 (bif (x9 != 0) then
 (some ((x7,(x8,(x9,()))),()))
 else
 (bif ((List.getD x1 (Int.toNat x3) (Ty.z aD)).2.2.2.1.1 != 3) then
 (bif ((List.getD x1 (Int.toNat x3) (Ty.z aD)).2.2.2.1.1 != 5) then
 (L0 x0 x1 x2 (aF (x3+1)) x4 x5 x6 x7 (if (List.getD x1 (Int.toNat x3) (Ty.z aD)).2.2.2.1.2.1 > x8 then (List.getD x1 (Int.toNat x3) (Ty.z aD)).2.2.2.1.2.1 else x8) x9)
 else
 (mR x3 (x0.length:Int)
 ((d9.f k (List.take (Int.toNat x3) x0) (List.getD x1 (Int.toNat x3) (Ty.z aD)).2.2.2.1).bind fun r2 =>
 ((gb.f k (List.getD x1 (Int.toNat x3) (Ty.z aD)).2.2.2.1 r2.1).bind fun r3 =>
 (bif r3.1 then
 ((cJ.f k (x7,((if (List.getD x1 (Int.toNat x3) (Ty.z aD)).2.2.2.1.2.1 > x8 then (List.getD x1 (Int.toNat x3) (Ty.z aD)).2.2.2.1.2.1 else x8),(x9,()))) r2.1).bind fun r4 =>
 (L0 x0 x1 x2 (aF (x3+1)) x4 x5 x6 r4.1.1 r4.1.2.1 r4.1.2.2.1))
 else
 (bif ((List.getD x1 (Int.toNat x3) (Ty.z aD)).2.2.2.1.1==5) then
 (L0 x0 x1 x2 (aF (x3+1)) x4 x5 x6 x7 (if (List.getD x1 (Int.toNat x3) (Ty.z aD)).2.2.2.1.2.1 > x8 then (List.getD x1 (Int.toNat x3) (Ty.z aD)).2.2.2.1.2.1 else x8) 1)
 else
 (L0 x0 x1 x2 (aF (x3+1)) x4 x5 x6 x7 (if (List.getD x1 (Int.toNat x3) (Ty.z aD)).2.2.2.1.2.1 > x8 then (List.getD x1 (Int.toNat x3) (Ty.z aD)).2.2.2.1.2.1 else x8) x9)))))))
 else
 (mR x3 (x0.length:Int)
 ((d9.f k (List.take (Int.toNat x3) x0) (List.getD x1 (Int.toNat x3) (Ty.z aD)).2.2.2.1).bind fun r5 =>
 ((gb.f k (List.getD x1 (Int.toNat x3) (Ty.z aD)).2.2.2.1 r5.1).bind fun r6 =>
 (bif r6.1 then
 ((cJ.f k (x7,((if (List.getD x1 (Int.toNat x3) (Ty.z aD)).2.2.2.1.2.1 > x8 then (List.getD x1 (Int.toNat x3) (Ty.z aD)).2.2.2.1.2.1 else x8),(x9,()))) r5.1).bind fun r7 =>
 (L0 x0 x1 x2 (aF (x3+1)) x4 x5 x6 r7.1.1 r7.1.2.1 r7.1.2.2.1))
 else
 (bif ((List.getD x1 (Int.toNat x3) (Ty.z aD)).2.2.2.1.1==5) then
 (L0 x0 x1 x2 (aF (x3+1)) x4 x5 x6 x7 (if (List.getD x1 (Int.toNat x3) (Ty.z aD)).2.2.2.1.2.1 > x8 then (List.getD x1 (Int.toNat x3) (Ty.z aD)).2.2.2.1.2.1 else x8) 1)
 else
 (L0 x0 x1 x2 (aF (x3+1)) x4 x5 x6 x7 (if (List.getD x1 (Int.toNat x3) (Ty.z aD)).2.2.2.1.2.1 > x8 then (List.getD x1 (Int.toNat x3) (Ty.z aD)).2.2.2.1.2.1 else x8) x9)))))))))
 else
 (bif (x9==0) then
 ((d9.f k x0 (5,(0,(ByteArray.empty,(ByteArray.empty,(0,(0,()))))))).bind fun r8 =>
 (bif (decide ((List.length r8.1:Int) > 0)) then
 (some ((x7,(x8,(1,()))),()))
 else
 (some ((x7,(x8,(x9,()))),()))))
 else
 (some ((x7,(x8,(x9,()))),()))))
def l0 (k:Nat):Nat→T0
 | 0=>fun _ _ _ _ _ _ _ _ _ _=>none
 | n+1=>b0 k (l0 k n)
def t (k:Nat) (L0:T0) (a0:Ty.d gB) (a1:List (Ty.d aD)):Rs :=
 ((fA.f k a0.1).bind fun r1 =>
 (L0 a1 a1 (List.length a1:Int) 0 [] 0 0 r1.1 a0.2.1 a0.2.2.1))
def f (k:Nat):=t k (l0 k k)
end dN
namespace lF
abbrev Rs:Type:=Option (Int × Bool × Unit)
def t (k:Nat) (a0:ByteArray):Rs :=
 ((iB.f k a0 (⟨#[115,101,103]⟩:ByteArray)).bind fun r1 =>
 (bif (!r1.2.1) then
 ((iB.f k a0 (⟨#[104,105,110,116]⟩:ByteArray)).bind fun r2 =>
 ((cT.f k r2.1).bind fun r3 =>
 (bif (!r2.2.1) then
 (some (0,(false,())))
 else
 (bif (!r3.2.1) then
 (some (0,(false,())))
 else
 ((au.f k r3.1 1 100000).bind fun r4 =>
 (bif (!r4.1) then
 (some (0,(false,())))
 else
 (some (r3.1,(true,())))))))))
 else
 ((cT.f k r1.1).bind fun r5 =>
 (bif (!r1.2.1) then
 (some (0,(false,())))
 else
 (bif (!r5.2.1) then
 (some (0,(false,())))
 else
 ((au.f k r5.1 1 100000).bind fun r6 =>
 (bif (!r6.1) then
 (some (0,(false,())))
 else
 (some (r5.1,(true,()))))))))))
def f (k:Nat):=t k
end lF
namespace gR
abbrev Rs:Type:=Option (Bool × Unit)
abbrev T0:Type:=Int→List Int→Int→Int→Rs
def b0 (k:Nat) (L0:T0):T0:=fun x0 x1 x2 x3 =>
 (bif (decide (x3<x2)) then
 (bW x3 (x1.length:Int)
 (bif ((List.getD x1 (Int.toNat x3) (Ty.z (.int .i64)))==x0) then
 (some (true,()))
 else
 (L0 x0 x1 x2 (aF (x3+1)))))
 else
 (some (false,())))
def l0 (k:Nat):Nat→T0
 | 0=>fun _ _ _ _=>none
 | n+1=>b0 k (l0 k n)
def t (k:Nat) (L0:T0) (a0:List Int) (a1:Int):Rs :=
 (L0 a1 a0 (List.length a0:Int) 0)
def f (k:Nat):=t k (l0 k k)
end gR
namespace fZ
abbrev Rs:Type:=Option ((List ByteArray) × Unit)
abbrev T0:Type:=List (Ty.d aB)→Int→Int→Int→List Int→List ByteArray→Rs
def b0 (k:Nat) (L0:T0):T0:=fun x0 x1 x2 x3 x4 x5 =>
 (bif (decide (x2<x1)) then
 (bW x2 (x0.length:Int)
 ((lF.f k (List.getD x0 (Int.toNat x2) (Ty.z aB)).1).bind fun r2 =>
 (bif (seq (List.getD x0 (Int.toNat x2) (Ty.z aB)).1 (⟨#[116,101,109,112]⟩:ByteArray)) then
 (rm (Ty.bytes .str) (List.length x5+1)
 (L0 x0 x1 (aF (x2+1)) x3 x4 (x5++[(List.getD x0 (Int.toNat x2) (Ty.z aB)).1])))
 else
 (bif r2.2.1 then
 ((gR.f k x4 r2.1).bind fun r3 =>
 (bif (!r3.1) then
 (rm (Ty.bytes .str) (List.length x5+1)
 (L0 x0 x1 (aF (x2+1)) x3 x4 (x5++[(List.getD x0 (Int.toNat x2) (Ty.z aB)).1])))
 else
 (L0 x0 x1 (aF (x2+1)) x3 x4 x5)))
 else
 (L0 x0 x1 (aF (x2+1)) x3 x4 x5)))))
 else
 (some (x5,())))
def l0 (k:Nat):Nat→T0
 | 0=>fun _ _ _ _ _ _=>none
 | n+1=>b0 k (l0 k n)
def t (k:Nat) (L0:T0) (a0:Ty.d a_) (a1:Ty.d ay):Rs :=
 ((bC.f k a0).bind fun r1 =>
 (bif (!r1.1) then
 (some ([],()))
 else
 (L0 a0.1 (List.length a0.1:Int) 0 a1.1 a1.2.1 [])))
def f (k:Nat):=t k (l0 k k)
end fZ
namespace eW
abbrev Rs:Type:=Option ((Ty.d a_) × Unit)
def t (k:Nat) (a0:Ty.d a_) (a1:ByteArray):Rs :=
 ((bV.f k a0 a1).bind fun r1 =>
 (bif (decide (r1.1≥0)) then
 (mR r1.1 (List.length a0.1:Int)
 (rm (Ty.bytes aB) (List.length (List.take (Int.toNat r1.1) a0.1))
 (mR (aF (r1.1+1)) (List.length a0.1:Int)
 (rm (Ty.bytes aB) (List.length (List.take (Int.toNat r1.1) a0.1)+List.length (List.drop (Int.toNat (aF (r1.1+1))) a0.1))
 (some ((((List.take (Int.toNat r1.1) a0.1)++(List.drop (Int.toNat (aF (r1.1+1))) a0.1)),a0.2),()))))))
 else
 (some (a0,()))))
def f (k:Nat):=t k
end eW
namespace fz
abbrev Rs:Type:=Option ((Ty.d a_) × ByteArray × Int × Unit)
def t (k:Nat) (a0:Ty.d a_) (a1:ByteArray):Rs :=
 ((bV.f k a0 a1).bind fun r1 =>
 (bif (decide (r1.1<0)) then
 (some (a0,(a1,(3,()))))
 else
 ((eW.f k a0 a1).bind fun r2 =>
 (some (r2.1,(a1,(0,())))))))
def f (k:Nat):=t k
end fz
namespace gE
abbrev Rs:Type:=Option (ByteArray × (Ty.d a_) × Int × Unit)
def t (k:Nat) (a0:Ty.d a_) (a1:ByteArray):Rs :=
 ((bU.f k a0).bind fun r1 =>
 ((bC.f k a0).bind fun r2 =>
 (bif (!r2.1) then
 (some (a1,(r1.1,(5,()))))
 else
 (bif a0.2.2.2.1 then
 (some (a1,((r1.1.1,(r1.1.2.1,(r1.1.2.2.1,(true,())))),(1,()))))
 else
 (bif (a0.2.2.1==0) then
 (some (a1,((r1.1.1,(r1.1.2.1,(r1.1.2.2.1,(true,())))),(1,()))))
 else
 (bif (decide (a0.2.2.1 > 0)) then
 ((fz.f k (r1.1.1,(r1.1.2.1,((aF (r1.1.2.2.1-1)),r1.1.2.2.2))) a1).bind fun r3 =>
 (some (r3.2.1,(r3.1,r3.2.2))))
 else
 ((fz.f k r1.1 a1).bind fun r4 =>
 (some (r4.2.1,(r4.1,r4.2.2))))))))))
def f (k:Nat):=t k
end gE
namespace jy
abbrev Rs:Type:=Option ((Ty.d a_) × Int × Unit)
def t (k:Nat) (a0:Ty.d a_) (a1:ByteArray):Rs :=
 ((gE.f k a0 a1).bind fun r1 =>
 (some r1.2))
def f (k:Nat):=t k
end jy
namespace eA
abbrev Rs:Type:=Option ((Ty.d bA) × Unit)
def t (k:Nat) (a0:Ty.d bA) (a1:ByteArray):Rs :=
 (bif (a0.2.1==0) then
 ((bV.f k a0.1 a1).bind fun r1 =>
 (bif (decide (r1.1≥0)) then
 ((jy.f k a0.1 a1).bind fun r2 =>
 ((az.f k a0 r2.1 r2.2.1).bind fun r3 =>
 (some r3)))
 else
 (some (a0,()))))
 else
 (some (a0,())))
def f (k:Nat):=t k
end eA
namespace af
abbrev Rs:Type:=Option ((Ty.d bA) × Unit)
abbrev T0:Type:=Int→Int→List (Ty.d aB)→Int→Int→Bool→Int→List ByteArray→Rs
def b0 (k:Nat) (L0:T0):T0:=fun x0 x1 x2 x3 x4 x5 x6 x7 =>
 (bif (decide (x1<x0)) then
 (bW x1 (x7.length:Int)
 ((eA.f k ((x2,(x3,(x4,(x5,())))),(x6,())) (List.getD x7 (Int.toNat x1) (Ty.z .str))).bind fun r2 =>
 (L0 x0 (aF (x1+1)) r2.1.1.1 r2.1.1.2.1 r2.1.1.2.2.1 r2.1.1.2.2.2.1 r2.1.2.1 x7)))
 else
 (some (((x2,(x3,(x4,(x5,())))),(x6,())),())))
def l0 (k:Nat):Nat→T0
 | 0=>fun _ _ _ _ _ _ _ _=>none
 | n+1=>b0 k (l0 k n)
def t (k:Nat) (L0:T0) (a0:Ty.d bA) (a1:Ty.d ay):Rs :=
 ((fZ.f k a0.1 a1).bind fun r1 =>
 (L0 (List.length r1.1:Int) 0 a0.1.1 a0.1.2.1 a0.1.2.2.1 a0.1.2.2.2.1 a0.2.1 r1.1))
def f (k:Nat):=t k (l0 k k)
end af
namespace aR
abbrev Rs:Type:=Option ((Ty.d bA) × (Ty.d aG) × Unit)
abbrev T0:Type:=List (List (Ty.d aD))→Int→Int→List (Ty.d aB)→Int→Int→Bool→Int→List Int→List (Ty.d aA)→Int→Int→Int→Int→List Int→Int→List (Ty.d aA)→Int→Int→Int→Int→List (Ty.d aA)→Int→Int→List (Ty.d aD)→Rs
abbrev T1:Type:=Int→Int→List (Ty.d aB)→Int→Int→Bool→Int→List Int→List (Ty.d aA)→Int→Int→Int→Int→List Int→Int→List (Ty.d aA)→Int→Int→Int→Int→List (Ty.d aA)→Int→Int→List (Ty.d aD)→List (List (Ty.d aD))→Rs
abbrev T2:Type:=List (List (Ty.d aD))→Int→Int→List (Ty.d aB)→Int→Int→Bool→Int→List Int→List (Ty.d aA)→Int→Int→Int→Int→List Int→Int→List (Ty.d aA)→Int→Int→Int→Int→List (Ty.d aA)→Int→Int→List (Ty.d aD)→Rs
abbrev T3:Type:=Int→Int→List (Ty.d aB)→Int→Int→Bool→Int→List Int→List (Ty.d aA)→Int→Int→Int→Int→List Int→Int→List (Ty.d aA)→Int→Int→Int→Int→List (Ty.d aA)→Int→Int→List (Ty.d aD)→List (List (Ty.d aD))→Rs
def b0 (k:Nat) (L0:T0):T0:=fun x0 x1 x2 x3 x4 x5 x6 x7 x8 x9 x10 x11 x12 x13 x14 x15 x16 x17 x18 x19 x20 x21 x22 x23 x24 =>
 (bif (decide (x2<x1)) then
 (bW x2 (x0.length:Int)
 (rm (Ty.bytes aD) (List.length x24+List.length (List.getD x0 (Int.toNat x2) (Ty.z (.slice aD))))
 (L0 x0 x1 (aF (x2+1)) x3 x4 x5 x6 x7 x8 x9 x10 x11 x12 x13 x14 x15 x16 x17 x18 x19 x20 x21 x22 x23 (x24++(List.getD x0 (Int.toNat x2) (Ty.z (.slice aD)))))))
 else
 ((dN.f k (x21,(x22,(x23,()))) x24).bind fun r9 =>
 (bif (r9.1.2.2.1 != 0) then
 (some (((x3,(x4,(x5,(x6,())))),(3,())),(((0,([],())),([],(0,(0,(0,()))))),())))
 else
 ((af.f k ((x3,(x4,(x5,(x6,())))),(x7,())) (x15,(x14,()))).bind fun r10 =>
 (some (r10.1,(((x17,(x14,())),(r9.1.1,((aF (r9.1.2.1+1)),(x19,(x20,()))))),())))))))
def l0 (k:Nat):Nat→T0
 | 0=>fun _ _ _ _ _ _ _ _ _ _ _ _ _ _ _ _ _ _ _ _ _ _ _ _ _=>none
 | n+1=>b0 k (l0 k n)
def b1 (k:Nat) (L1:T1):T1:=fun x0 x1 x2 x3 x4 x5 x6 x7 x8 x9 x10 x11 x12 x13 x14 x15 x16 x17 x18 x19 x20 x21 x22 x23 x24 =>
 (bif (decide (x1<x0)) then
 (bW x1 (x24.length:Int)
 (rm (Ty.bytes aD) (List.length x23+List.length (List.getD x24 (Int.toNat x1) (Ty.z (.slice aD))))
 (L1 x0 (aF (x1+1)) x2 x3 x4 x5 x6 x7 x8 x9 x10 x11 x12 x13 x14 x15 x16 x17 x18 x19 x20 x21 x22 (x23++(List.getD x24 (Int.toNat x1) (Ty.z (.slice aD)))) x24)))
 else
 ((dN.f k (x20,(x21,(x22,()))) x23).bind fun r11 =>
 (bif (r11.1.2.2.1 != 0) then
 (some (((x2,(x3,(x4,(x5,())))),(3,())),(((0,([],())),([],(0,(0,(0,()))))),())))
 else
 ((af.f k ((x2,(x3,(x4,(x5,())))),(x6,())) (x14,(x13,()))).bind fun r12 =>
 (some (r12.1,(((x16,(x13,())),(r11.1.1,((aF (r11.1.2.1+1)),(x18,(x19,()))))),())))))))
def l1 (k:Nat):Nat→T1
 | 0=>fun _ _ _ _ _ _ _ _ _ _ _ _ _ _ _ _ _ _ _ _ _ _ _ _ _=>none
 | n+1=>b1 k (l1 k n)
def b2 (k:Nat) (L2:T2):T2:=fun x0 x1 x2 x3 x4 x5 x6 x7 x8 x9 x10 x11 x12 x13 x14 x15 x16 x17 x18 x19 x20 x21 x22 x23 x24 =>
 (bif (decide (x2<x1)) then
 (bW x2 (x0.length:Int)
 (rm (Ty.bytes aD) (List.length x24+List.length (List.getD x0 (Int.toNat x2) (Ty.z (.slice aD))))
 (L2 x0 x1 (aF (x2+1)) x3 x4 x5 x6 x7 x8 x9 x10 x11 x12 x13 x14 x15 x16 x17 x18 x19 x20 x21 x22 x23 (x24++(List.getD x0 (Int.toNat x2) (Ty.z (.slice aD)))))))
 else
 ((dN.f k (x21,(x22,(x23,()))) x24).bind fun r15 =>
 (bif (r15.1.2.2.1 != 0) then
 (some (((x3,(x4,(x5,(x6,())))),(3,())),(((0,([],())),([],(0,(0,(0,()))))),())))
 else
 ((af.f k ((x3,(x4,(x5,(x6,())))),(x7,())) (x15,(x14,()))).bind fun r16 =>
 (some (r16.1,(((x17,(x14,())),(r15.1.1,((aF (r15.1.2.1+1)),(x19,(x20,()))))),())))))))
def l2 (k:Nat):Nat→T2
 | 0=>fun _ _ _ _ _ _ _ _ _ _ _ _ _ _ _ _ _ _ _ _ _ _ _ _ _=>none
 | n+1=>b2 k (l2 k n)
def b3 (k:Nat) (L3:T3):T3:=fun x0 x1 x2 x3 x4 x5 x6 x7 x8 x9 x10 x11 x12 x13 x14 x15 x16 x17 x18 x19 x20 x21 x22 x23 x24 =>
 (bif (decide (x1<x0)) then
 (bW x1 (x24.length:Int)
 (rm (Ty.bytes aD) (List.length x23+List.length (List.getD x24 (Int.toNat x1) (Ty.z (.slice aD))))
 (L3 x0 (aF (x1+1)) x2 x3 x4 x5 x6 x7 x8 x9 x10 x11 x12 x13 x14 x15 x16 x17 x18 x19 x20 x21 x22 (x23++(List.getD x24 (Int.toNat x1) (Ty.z (.slice aD)))) x24)))
 else
 ((dN.f k (x20,(x21,(x22,()))) x23).bind fun r17 =>
 (bif (r17.1.2.2.1 != 0) then
 (some (((x2,(x3,(x4,(x5,())))),(3,())),(((0,([],())),([],(0,(0,(0,()))))),())))
 else
 ((af.f k ((x2,(x3,(x4,(x5,())))),(x6,())) (x14,(x13,()))).bind fun r18 =>
 (some (r18.1,(((x16,(x13,())),(r17.1.1,((aF (r17.1.2.1+1)),(x18,(x19,()))))),())))))))
def l3 (k:Nat):Nat→T3
 | 0=>fun _ _ _ _ _ _ _ _ _ _ _ _ _ _ _ _ _ _ _ _ _ _ _ _ _=>none
 | n+1=>b3 k (l3 k n)
def t (k:Nat) (L0:T0) (L1:T1) (L2:T2) (L3:T3) (a0:Ty.d bA) (a1:ByteArray):Rs :=
 ((b7.f k a1).bind fun r1 =>
 ((bN.f k a0 r1.1).bind fun r2 =>
 (bif (!r1.2.1) then
 (some ((r2.1.1,(3,())),(((0,([],())),([],(0,(0,(0,()))))),())))
 else
 (bif (!r2.2.2.2.1) then
 (some ((r2.1.1,(3,())),(((0,([],())),([],(0,(0,(0,()))))),())))
 else
 (bW (aF ((List.length r1.1.2.1:Int)-1)) (List.length r1.1.2.1:Int)
 ((dp.f k (List.getD r1.1.2.1 (Int.toNat (aF ((List.length r1.1.2.1:Int)-1))) (Ty.z (.int .i64)))).bind fun r3 =>
 ((cy.f k r2.1.1 r3.1).bind fun r4 =>
 (bif ((ByteArray.size r4.1:Int) != r2.2.2.1) then
 ((iu.f k r2.1.1 r3.1 r2.2.2.1).bind fun r5 =>
 ((az.f k r2.1 r5.1 r5.2.1).bind fun r6 =>
 ((d7.f k r6.1 r3.1).bind fun r7 =>
 (bif (r7.1.2.1 != 0) then
 (some (r7.1,(((0,([],())),([],(0,(0,(0,()))))),())))
 else
 (bW 0 (List.length r1.1.2.1:Int)
 ((ck.f k r7.1 (List.getD r1.1.2.1 0 (Ty.z (.int .i64)))).bind fun r8 =>
 (bif r8.2.2.1 then
 (bW 0 (List.length r1.1.2.1:Int)
 (mR 1 (List.length r2.2.1:Int)
 (L0 (List.drop 1 r2.2.1) (List.length (List.drop 1 r2.2.1):Int) 0 r8.1.1.1 r8.1.1.2.1 r8.1.1.2.2.1 r8.1.1.2.2.2.1 r8.1.2.1 [] [] 0 0 0 0 r1.1.2.1 r1.1.1 [] r1.1.1 0 r2.2.2.1 (List.getD r1.1.2.1 0 (Ty.z (.int .i64))) r8.2.1.1 r8.2.1.2.1 r8.2.1.2.2.1 [])))
 else
 (L1 (List.length r2.2.1:Int) 0 r8.1.1.1 r8.1.1.2.1 r8.1.1.2.2.1 r8.1.1.2.2.2.1 r8.1.2.1 [] [] 0 0 0 0 r1.1.2.1 r1.1.1 [] r1.1.1 0 r2.2.2.1 0 r8.2.1.1 r8.2.1.2.1 r8.2.1.2.2.1 [] r2.2.1))))))))
 else
 ((d7.f k r2.1 r3.1).bind fun r13 =>
 (bif (r13.1.2.1 != 0) then
 (some (r13.1,(((0,([],())),([],(0,(0,(0,()))))),())))
 else
 (bW 0 (List.length r1.1.2.1:Int)
 ((ck.f k r13.1 (List.getD r1.1.2.1 0 (Ty.z (.int .i64)))).bind fun r14 =>
 (bif r14.2.2.1 then
 (bW 0 (List.length r1.1.2.1:Int)
 (mR 1 (List.length r2.2.1:Int)
 (L2 (List.drop 1 r2.2.1) (List.length (List.drop 1 r2.2.1):Int) 0 r14.1.1.1 r14.1.1.2.1 r14.1.1.2.2.1 r14.1.1.2.2.2.1 r14.1.2.1 [] [] 0 0 0 0 r1.1.2.1 r1.1.1 [] r1.1.1 0 r2.2.2.1 (List.getD r1.1.2.1 0 (Ty.z (.int .i64))) r14.2.1.1 r14.2.1.2.1 r14.2.1.2.2.1 [])))
 else
 (L3 (List.length r2.2.1:Int) 0 r14.1.1.1 r14.1.1.2.1 r14.1.1.2.2.1 r14.1.1.2.2.2.1 r14.1.2.1 [] [] 0 0 0 0 r1.1.2.1 r1.1.1 [] r1.1.1 0 r2.2.2.1 0 r14.2.1.1 r14.2.1.2.1 r14.2.1.2.2.1 [] r2.2.1))))))))))))))
def f (k:Nat):=t k (l0 k k) (l1 k k) (l2 k k) (l3 k k)
end aR
namespace dA
abbrev Rs:Type:=Option ((Ty.d a_) × Unit)
abbrev T0:Type:=Int→List (Ty.d aB)→Int→Int→Bool→ByteArray→ByteArray→Int→Rs
def b0 (k:Nat) (L0:T0):T0:=fun x0 x1 x2 x3 x4 x5 x6 x7 =>
 (bif (decide (x0<(x1.length:Int))) then
 (bW x0 (x1.length:Int)
 (bif (nO (List.getD x1 (Int.toNat x0) (Ty.z aB)).1 x5) then
 (L0 (aF (x0+1)) x1 x2 x3 x4 x5 x6 x7)
 else
 (mR x0 (x1.length:Int)
 (rm (Ty.bytes aB) (List.length (List.take (Int.toNat x0) x1))
 (rm (Ty.bytes aB) (List.length (List.take (Int.toNat x0) x1)+1)
 (mR x0 (x1.length:Int)
 (rm (Ty.bytes aB) (List.length ((List.take (Int.toNat x0) x1)++[(x5,(x6,(x7,())))])+List.length (List.drop (Int.toNat x0) x1))
 (some (((((List.take (Int.toNat x0) x1)++[(x5,(x6,(x7,())))])++(List.drop (Int.toNat x0) x1)),(x2,(x3,(x4,())))),())))))))))
 else
 (mR x0 (x1.length:Int)
 (rm (Ty.bytes aB) (List.length (List.take (Int.toNat x0) x1))
 (rm (Ty.bytes aB) (List.length (List.take (Int.toNat x0) x1)+1)
 (mR x0 (x1.length:Int)
 (rm (Ty.bytes aB) (List.length ((List.take (Int.toNat x0) x1)++[(x5,(x6,(x7,())))])+List.length (List.drop (Int.toNat x0) x1))
 (some (((((List.take (Int.toNat x0) x1)++[(x5,(x6,(x7,())))])++(List.drop (Int.toNat x0) x1)),(x2,(x3,(x4,())))),()))))))))
def l0 (k:Nat):Nat→T0
 | 0=>fun _ _ _ _ _ _ _ _=>none
 | n+1=>b0 k (l0 k n)
def t (k:Nat) (L0:T0) (a0:Ty.d a_) (a1:Ty.d aB):Rs :=
 (L0 0 a0.1 a0.2.1 a0.2.2.1 a0.2.2.2.1 a1.1 a1.2.1 a1.2.2.1)
def f (k:Nat):=t k (l0 k k)
end dA
namespace g8
abbrev Rs:Type:=Option ((Ty.d a_) × ByteArray × Int × Unit)
def t (k:Nat) (a0:Ty.d a_) (a1:ByteArray):Rs :=
 ((eI.f k a1).bind fun r1 =>
 (bif (!r1.1) then
 (some (a0,(a1,(5,()))))
 else
 ((bV.f k a0 a1).bind fun r2 =>
 (bif (decide (r2.1≥0)) then
 (some (a0,(a1,(4,()))))
 else
 (bif (decide ((List.length a0.1:Int)≥130)) then
 (some (a0,(a1,(2,()))))
 else
 ((dA.f k a0 (a1,(ByteArray.empty,(0,())))).bind fun r3 =>
 (some (r3.1,(a1,(0,()))))))))))
def f (k:Nat):=t k
end g8
namespace gH
abbrev Rs:Type:=Option (ByteArray × (Ty.d a_) × Int × Unit)
def t (k:Nat) (a0:Ty.d a_) (a1:ByteArray):Rs :=
 ((bU.f k a0).bind fun r1 =>
 ((bC.f k a0).bind fun r2 =>
 (bif (!r2.1) then
 (some (a1,(r1.1,(5,()))))
 else
 (bif a0.2.2.2.1 then
 (some (a1,((r1.1.1,(r1.1.2.1,(r1.1.2.2.1,(true,())))),(1,()))))
 else
 (bif (a0.2.2.1==0) then
 (some (a1,((r1.1.1,(r1.1.2.1,(r1.1.2.2.1,(true,())))),(1,()))))
 else
 (bif (decide (a0.2.2.1 > 0)) then
 ((g8.f k (r1.1.1,(r1.1.2.1,((aF (r1.1.2.2.1-1)),r1.1.2.2.2))) a1).bind fun r3 =>
 (some (r3.2.1,(r3.1,r3.2.2))))
 else
 ((g8.f k r1.1 a1).bind fun r4 =>
 (some (r4.2.1,(r4.1,r4.2.2))))))))))
def f (k:Nat):=t k
end gH
namespace k6
abbrev Rs:Type:=Option ((Ty.d a_) × Int × Unit)
def t (k:Nat) (a0:Ty.d a_) (a1:ByteArray):Rs :=
 ((gH.f k a0 a1).bind fun r1 =>
 (some r1.2))
def f (k:Nat):=t k
end k6
namespace dJ
abbrev Rs:Type:=Option ((Ty.d bA) × Unit)
def t (k:Nat) (a0:Ty.d bA) (a1:ByteArray):Rs :=
 (bif (a0.2.1==0) then
 ((k6.f k a0.1 a1).bind fun r1 =>
 ((az.f k a0 r1.1 r1.2.1).bind fun r2 =>
 (some r2)))
 else
 (some (a0,())))
def f (k:Nat):=t k
end dJ
namespace ir
abbrev Rs:Type:=Option (ByteArray × Unit)
def t (k:Nat) (a0:Ty.d ay):Rs :=
 ((dQ.f k a0).bind fun r1 =>
 (bif (!r1.1) then
 (some ((⟨#[]⟩:ByteArray),()))
 else
 ((dM.f k [a0.1,(List.length a0.2.1:Int)]).bind fun r2 =>
 ((dM.f k a0.2.1).bind fun r3 =>
 (kC r2.1 r3.1
 ((jU.f k (r2.1++r3.1)).bind fun r4 =>
 (some r4)))))))
def f (k:Nat):=t k
end ir
namespace fm
abbrev Rs:Type:=Option ((Ty.d bA) × Unit)
def t (k:Nat) (a0:Ty.d bA) (a1:ByteArray):Rs :=
 ((eA.f k a0 a1).bind fun r1 =>
 ((dJ.f k r1.1 a1).bind fun r2 =>
 (some r2)))
def f (k:Nat):=t k
end fm
namespace ix
abbrev Rs:Type:=Option (Int × Unit)
abbrev T0:Type:=Int→List (Ty.d aB)→Int→Int→Rs
def b0 (k:Nat) (L0:T0):T0:=fun x0 x1 x2 x3 =>
 (bif (decide (x3<x2)) then
 (bW x3 (x1.length:Int)
 (L0 (aF (x0+(ByteArray.size (List.getD x1 (Int.toNat x3) (Ty.z aB)).2.1:Int))) x1 x2 (aF (x3+1))))
 else
 (some (x0,())))
def l0 (k:Nat):Nat→T0
 | 0=>fun _ _ _ _=>none
 | n+1=>b0 k (l0 k n)
def t (k:Nat) (L0:T0) (a0:Ty.d a_):Rs :=
 (L0 0 a0.1 (List.length a0.1:Int) 0)
def f (k:Nat):=t k (l0 k k)
end ix
namespace fw
abbrev Rs:Type:=Option ((Ty.d a_) × ByteArray × ByteArray × Int × Unit)
def t (k:Nat) (a0:Ty.d a_) (a1:ByteArray) (a2:ByteArray):Rs :=
 ((bV.f k a0 a1).bind fun r1 =>
 (bif (decide (r1.1<0)) then
 (some (a0,(a1,(a2,(3,())))))
 else
 ((ix.f k a0).bind fun r2 =>
 (bif (decide ((ByteArray.size a2:Int) > (aF (a0.2.1-r2.1)))) then
 (some (a0,(a1,(a2,(2,())))))
 else
 (bW r1.1 (List.length a0.1:Int)
 (kC (List.getD a0.1 (Int.toNat r1.1) (Ty.z aB)).2.1 a2
 (bW r1.1 (List.length a0.1:Int)
 (let l3:=(List.set a0.1 (Int.toNat r1.1) ((List.getD a0.1 (Int.toNat r1.1) (Ty.z aB)).1,(((List.getD a0.1 (Int.toNat r1.1) (Ty.z aB)).2.1++a2),(List.getD a0.1 (Int.toNat r1.1) (Ty.z aB)).2.2)));
 (some ((l3,a0.2),(a1,(a2,(0,())))))))))))))
def f (k:Nat):=t k
end fw
namespace gC
abbrev Rs:Type:=Option (ByteArray × ByteArray × (Ty.d a_) × Int × Unit)
def t (k:Nat) (a0:Ty.d a_) (a1:ByteArray) (a2:ByteArray):Rs :=
 ((bU.f k a0).bind fun r1 =>
 ((bC.f k a0).bind fun r2 =>
 (bif (!r2.1) then
 (some (a1,(a2,(r1.1,(5,())))))
 else
 (bif a0.2.2.2.1 then
 (some (a1,(a2,((r1.1.1,(r1.1.2.1,(r1.1.2.2.1,(true,())))),(1,())))))
 else
 (bif (a0.2.2.1==0) then
 (some (a1,(a2,((r1.1.1,(r1.1.2.1,(r1.1.2.2.1,(true,())))),(1,())))))
 else
 (bif (decide (a0.2.2.1 > 0)) then
 ((fw.f k (r1.1.1,(r1.1.2.1,((aF (r1.1.2.2.1-1)),r1.1.2.2.2))) a1 a2).bind fun r3 =>
 (some (r3.2.1,(r3.2.2.1,(r3.1,r3.2.2.2)))))
 else
 ((fw.f k r1.1 a1 a2).bind fun r4 =>
 (some (r4.2.1,(r4.2.2.1,(r4.1,r4.2.2.2)))))))))))
def f (k:Nat):=t k
end gC
namespace k8
abbrev Rs:Type:=Option ((Ty.d a_) × Int × Unit)
def t (k:Nat) (a0:Ty.d a_) (a1:ByteArray) (a2:ByteArray):Rs :=
 ((gC.f k a0 a1 a2).bind fun r1 =>
 (some r1.2.2))
def f (k:Nat):=t k
end k8
namespace gM
abbrev Rs:Type:=Option ((Ty.d bA) × Unit)
def t (k:Nat) (a0:Ty.d bA) (a1:ByteArray) (a2:ByteArray):Rs :=
 (bif (a0.2.1==0) then
 ((k8.f k a0.1 a1 a2).bind fun r1 =>
 ((az.f k a0 r1.1 r1.2.1).bind fun r2 =>
 (some r2)))
 else
 (some (a0,())))
def f (k:Nat):=t k
end gM
namespace ek
abbrev Rs:Type:=Option ((Ty.d bA) × Unit)
def t (k:Nat) (a0:Ty.d bA) (a1:ByteArray) (a2:ByteArray):Rs :=
 ((fm.f k a0 a1).bind fun r1 =>
 ((gM.f k r1.1 a1 a2).bind fun r2 =>
 ((d7.f k r2.1 a1).bind fun r3 =>
 (some r3))))
def f (k:Nat):=t k
end ek
namespace g7
abbrev Rs:Type:=Option ((Ty.d a_) × ByteArray × ByteArray × Int × Unit)
def t (k:Nat) (a0:Ty.d a_) (a1:ByteArray) (a2:ByteArray):Rs :=
 ((bV.f k a0 a1).bind fun r1 =>
 ((eI.f k a2).bind fun r2 =>
 (bif (!r2.1) then
 (some (a0,(a1,(a2,(5,())))))
 else
 (bif (decide (r1.1<0)) then
 (some (a0,(a1,(a2,(3,())))))
 else
 (bW r1.1 (List.length a0.1:Int)
 ((eW.f k a0 a1).bind fun r3 =>
 ((eW.f k r3.1 a2).bind fun r4 =>
 ((dA.f k r4.1 (a2,(List.getD a0.1 (Int.toNat r1.1) (Ty.z aB)).2)).bind fun r5 =>
 (some (r5.1,(a1,(a2,(0,())))))))))))))
def f (k:Nat):=t k
end g7
namespace gI
abbrev Rs:Type:=Option (ByteArray × ByteArray × (Ty.d a_) × Int × Unit)
def t (k:Nat) (a0:Ty.d a_) (a1:ByteArray) (a2:ByteArray):Rs :=
 ((bU.f k a0).bind fun r1 =>
 ((bC.f k a0).bind fun r2 =>
 (bif (!r2.1) then
 (some (a1,(a2,(r1.1,(5,())))))
 else
 (bif a0.2.2.2.1 then
 (some (a1,(a2,((r1.1.1,(r1.1.2.1,(r1.1.2.2.1,(true,())))),(1,())))))
 else
 (bif (a0.2.2.1==0) then
 (some (a1,(a2,((r1.1.1,(r1.1.2.1,(r1.1.2.2.1,(true,())))),(1,())))))
 else
 (bif (decide (a0.2.2.1 > 0)) then
 ((g7.f k (r1.1.1,(r1.1.2.1,((aF (r1.1.2.2.1-1)),r1.1.2.2.2))) a1 a2).bind fun r3 =>
 (some (r3.2.1,(r3.2.2.1,(r3.1,r3.2.2.2)))))
 else
 ((g7.f k r1.1 a1 a2).bind fun r4 =>
 (some (r4.2.1,(r4.2.2.1,(r4.1,r4.2.2.2)))))))))))
def f (k:Nat):=t k
end gI
namespace k7
abbrev Rs:Type:=Option ((Ty.d a_) × Int × Unit)
def t (k:Nat) (a0:Ty.d a_) (a1:ByteArray) (a2:ByteArray):Rs :=
 ((gI.f k a0 a1 a2).bind fun r1 =>
 (some r1.2.2))
def f (k:Nat):=t k
end k7
namespace eu
abbrev Rs:Type:=Option ((Ty.d bA) × Unit)
def t (k:Nat) (a0:Ty.d bA) (a1:ByteArray) (a2:ByteArray):Rs :=
 (bif (a0.2.1==0) then
 ((k7.f k a0.1 a1 a2).bind fun r1 =>
 ((az.f k a0 r1.1 r1.2.1).bind fun r2 =>
 (some r2)))
 else
 (some (a0,())))
def f (k:Nat):=t k
end eu
namespace eN
abbrev Rs:Type:=Option ((Ty.d bA) × Unit)
def t (k:Nat) (a0:Ty.d bA) (a1:Ty.d ay):Rs :=
 ((ir.f k a1).bind fun r1 =>
 ((ek.f k a0 (⟨#[116,101,109,112]⟩:ByteArray) r1.1).bind fun r2 =>
 ((eu.f k r2.1 (⟨#[116,101,109,112]⟩:ByteArray) (⟨#[108,105,118,101]⟩:ByteArray)).bind fun r3 =>
 (some r3))))
def f (k:Nat):=t k
end eN
namespace fU
abbrev Rs:Type:=Option ((Ty.d bA) × (Ty.d aG) × Unit)
def t (k:Nat) (a0:Ty.d bA):Rs :=
 ((af.f k a0 (0,([],()))).bind fun r1 =>
 ((dp.f k 1).bind fun r2 =>
 ((dJ.f k r1.1 r2.1).bind fun r3 =>
 ((eN.f k r3.1 (2,([1],()))).bind fun r4 =>
 (some (r4.1,(((2,([1],())),([],(1,(0,(0,()))))),())))))))
def f (k:Nat):=t k
end fU
namespace jK
abbrev Rs:Type:=Option ((Ty.d aG) × (Ty.d a_) × Int × Unit)
def t (k:Nat) (a0:Ty.d a_):Rs :=
 ((bU.f k a0).bind fun r1 =>
 ((bC.f k a0).bind fun r2 =>
 (bif (!r2.1) then
 (some (((0,([],())),([],(0,(0,(0,()))))),(r1.1,(4,()))))
 else
 (bif a0.2.2.2.1 then
 (some (((0,([],())),([],(0,(0,(0,()))))),(r1.1,(1,()))))
 else
 ((cy.f k a0 (⟨#[108,105,118,101]⟩:ByteArray)).bind fun r3 =>
 (bif r3.2.1 then
 ((aR.f k (r1.1,(0,())) r3.1).bind fun r4 =>
 (bif (r4.1.2.1 != 0) then
 (some (((0,([],())),([],(0,(0,(0,()))))),r4.1))
 else
 (some (r4.2.1,(r4.1.1,(0,()))))))
 else
 ((fU.f k (r1.1,(0,()))).bind fun r5 =>
 (bif (r5.1.2.1 != 0) then
 (some (((0,([],())),([],(0,(0,(0,()))))),r5.1))
 else
 (some (r5.2.1,(r5.1.1,(0,()))))))))))))
def f (k:Nat):=t k
end jK
namespace dy
abbrev Rs:Type:=Option (Bool × Unit)
abbrev T0:Type:=Int→Int→List Int→List (Ty.d aA)→Int→Int→Int→Int→List Int→List (Ty.d aA)→Int→Int→Int→Rs
def b0 (k:Nat) (L0:T0):T0:=fun x0 x1 x2 x3 x4 x5 x6 x7 x8 x9 x10 x11 x12 =>
 (bif (decide (x0<(x2.length:Int))) then
 (bW x0 (x2.length:Int)
 (bW x0 (x8.length:Int)
 (bif ((List.getD x2 (Int.toNat x0) (Ty.z (.int .i64))) != (List.getD x8 (Int.toNat x0) (Ty.z (.int .i64)))) then
 (some (false,()))
 else
 (L0 (aF (x0+1)) x1 x2 x3 x4 x5 x6 x7 x8 x9 x10 x11 x12))))
 else
 ((eQ.f k x3 x9).bind fun r1 =>
 (some r1)))
def l0 (k:Nat):Nat→T0
 | 0=>fun _ _ _ _ _ _ _ _ _ _ _ _ _=>none
 | n+1=>b0 k (l0 k n)
def t (k:Nat) (L0:T0) (a0:Ty.d aG) (a1:Ty.d aG):Rs :=
 (bif (a0.1.1 != a1.1.1) then
 (some (false,()))
 else
 (bif ((List.length a0.1.2.1:Int) != (List.length a1.1.2.1:Int)) then
 (some (false,()))
 else
 (bif (a0.2.2.1 != a1.2.2.1) then
 (some (false,()))
 else
 (bif (a0.2.2.2.1 != a1.2.2.2.1) then
 (some (false,()))
 else
 (bif (a0.2.2.2.2.1 != a1.2.2.2.2.1) then
 (some (false,()))
 else
 (L0 0 a0.1.1 a0.1.2.1 a0.2.1 a0.2.2.1 a0.2.2.2.1 a0.2.2.2.2.1 a1.1.1 a1.1.2.1 a1.2.1 a1.2.2.1 a1.2.2.2.1 a1.2.2.2.2.1))))))
def f (k:Nat):=t k (l0 k k)
end dy
namespace nZ
abbrev Rs:Type:=Option (Int × Unit)
def t (k:Nat) (a0:List Int) (a1:Int):Rs :=
 (bif (decide (a1<(List.length a0:Int))) then
 (bW a1 (List.length a0:Int)
 (some ((aF (List.getD a0 (Int.toNat a1) (Ty.z (.int .u8)))),())))
 else
 (some ((Int.tmod (aF ((aF (a1*37))+(aF ((List.length a0:Int)*11)))) 256),())))
def f (k:Nat):=t k
end nZ
namespace iC
abbrev Rs:Type:=Option ((Ty.d a_) × Unit)
def t (k:Nat) (a0:Ty.d a_) (a1:Int):Rs :=
 ((bU.f k a0).bind fun r1 =>
 ((bC.f k a0).bind fun r2 =>
 (bif r2.1 then
 ((au.f k a1 (-1) 100000).bind fun r3 =>
 (bif r3.1 then
 (some ((r1.1.1,(r1.1.2.1,(a1,(false,())))),()))
 else
 (some r1)))
 else
 (some r1))))
def f (k:Nat):=t k
end iC
namespace ez
abbrev Rs:Type:=Option ((Ty.d a_) × Unit)
abbrev T0:Type:=List Int→Int→Int→List (Ty.d aB)→Int→Int→Bool→List (Ty.d aB)→Int→Int→Bool→Rs
def b0 (k:Nat) (L0:T0):T0:=fun x0 x1 x2 x3 x4 x5 x6 x7 x8 x9 x10 =>
 (bif (decide (x2<x1)) then
 (bW x2 (x7.length:Int)
 (bif (decide ((x0.length:Int) > 0)) then
 (bif (decide ((x0.length:Int)=0)) then none else
 (bW (Int.tmod x2 (x0.length:Int)) (x0.length:Int)
 (bif (decide ((aF ((aF ((ByteArray.size (List.getD x7 (Int.toNat x2) (Ty.z aB)).2.1:Int)-(List.getD x7 (Int.toNat x2) (Ty.z aB)).2.2.1))+1))=0)) then none else
 (let l3:=(List.set x7 (Int.toNat x2) ((List.getD x7 (Int.toNat x2) (Ty.z aB)).1,((List.getD x7 (Int.toNat x2) (Ty.z aB)).2.1,((aF ((List.getD x7 (Int.toNat x2) (Ty.z aB)).2.2.1+(Int.tmod (if 0 > (List.getD x0 (Int.toNat (Int.tmod x2 (x0.length:Int))) (Ty.z (.int .i64))) then 0 else (List.getD x0 (Int.toNat (Int.tmod x2 (x0.length:Int))) (Ty.z (.int .i64)))) (aF ((aF ((ByteArray.size (List.getD x7 (Int.toNat x2) (Ty.z aB)).2.1:Int)-(List.getD x7 (Int.toNat x2) (Ty.z aB)).2.2.1))+1))))),(List.getD x7 (Int.toNat x2) (Ty.z aB)).2.2.2))));
 (mR (List.getD l3 (Int.toNat x2) (Ty.z aB)).2.2.1 (ByteArray.size (List.getD l3 (Int.toNat x2) (Ty.z aB)).2.1:Int)
 (let l4:=(List.set l3 (Int.toNat x2) ((List.getD l3 (Int.toNat x2) (Ty.z aB)).1,((ByteArray.extract (List.getD l3 (Int.toNat x2) (Ty.z aB)).2.1 0 (Int.toNat (List.getD l3 (Int.toNat x2) (Ty.z aB)).2.2.1)),(List.getD l3 (Int.toNat x2) (Ty.z aB)).2.2)));
 (L0 x0 x1 (aF (x2+1)) x3 x4 x5 x6 l4 x8 x9 x10)))))))
 else
 (let l5:=(List.set x7 (Int.toNat x2) ((List.getD x7 (Int.toNat x2) (Ty.z aB)).1,((List.getD x7 (Int.toNat x2) (Ty.z aB)).2.1,((aF ((List.getD x7 (Int.toNat x2) (Ty.z aB)).2.2.1+0)),(List.getD x7 (Int.toNat x2) (Ty.z aB)).2.2.2))));
 (mR (List.getD l5 (Int.toNat x2) (Ty.z aB)).2.2.1 (ByteArray.size (List.getD l5 (Int.toNat x2) (Ty.z aB)).2.1:Int)
 (let l6:=(List.set l5 (Int.toNat x2) ((List.getD l5 (Int.toNat x2) (Ty.z aB)).1,((ByteArray.extract (List.getD l5 (Int.toNat x2) (Ty.z aB)).2.1 0 (Int.toNat (List.getD l5 (Int.toNat x2) (Ty.z aB)).2.2.1)),(List.getD l5 (Int.toNat x2) (Ty.z aB)).2.2)));
 (L0 x0 x1 (aF (x2+1)) x3 x4 x5 x6 l6 x8 x9 x10))))))
 else
 (some ((x7,(x8,((-1),(false,())))),())))
def l0 (k:Nat):Nat→T0
 | 0=>fun _ _ _ _ _ _ _ _ _ _ _=>none
 | n+1=>b0 k (l0 k n)
def t (k:Nat) (L0:T0) (a0:Ty.d a_) (a1:List Int):Rs :=
 ((bU.f k a0).bind fun r1 =>
 ((bC.f k a0).bind fun r2 =>
 (bif (!r2.1) then
 (some r1)
 else
 (L0 a1 (List.length r1.1.1:Int) 0 [] 0 0 false r1.1.1 r1.1.2.1 r1.1.2.2.1 r1.1.2.2.2.1))))
def f (k:Nat):=t k (l0 k k)
end ez
namespace iG
abbrev Rs:Type:=Option ((Ty.d mL) × Int × Unit)
def t (k:Nat) (a0:Ty.d a_):Rs :=
 ((jK.f k a0).bind fun r1 =>
 (Ks (Ty.bytes Hj) 3
 (some (((r1.2.2.1==0),(r1.1,(r1.2.1,((List.replicate (Int.toNat 3) (Ty.z Hj)),())))),r1.2.2))))
def f (k:Nat):=t k
end iG
namespace fe
abbrev Rs:Type:=Option ((List ByteArray) × Unit)
abbrev T0:Type:=List (Ty.d aA)→Int→Int→List ByteArray→Rs
def b0 (k:Nat) (L0:T0):T0:=fun x0 x1 x2 x3 =>
 (bif (decide (x2<x1)) then
 (bW x2 (x0.length:Int)
 (rm (Ty.bytes .str) (List.length x3+1)
 (L0 x0 x1 (aF (x2+1)) (x3++[(List.getD x0 (Int.toNat x2) (Ty.z aA)).1]))))
 else
 (some (x3,())))
def l0 (k:Nat):Nat→T0
 | 0=>fun _ _ _ _=>none
 | n+1=>b0 k (l0 k n)
def t (k:Nat) (L0:T0) (a0:List (Ty.d aA)):Rs :=
 (L0 a0 (List.length a0:Int) 0 [])
def f (k:Nat):=t k (l0 k k)
end fe
namespace gQ
abbrev Rs:Type:=Option ((Ty.d aA) × Bool × Unit)
abbrev T0:Type:=ByteArray→List (Ty.d aA)→Int→Int→ByteArray→Int→Int→Int→Int→Rs
def b0 (k:Nat) (L0:T0):T0:=fun x0 x1 x2 x3 x4 x5 x6 x7 x8 =>
 (bif (decide (x3<x2)) then
 (bW x3 (x1.length:Int)
 (bif (seq (List.getD x1 (Int.toNat x3) (Ty.z aA)).1 x0) then
 (some ((List.getD x1 (Int.toNat x3) (Ty.z aA)),(true,())))
 else
 (L0 x0 x1 x2 (aF (x3+1)) x4 x5 x6 x7 x8)))
 else
 (some ((ByteArray.empty,(0,(0,(0,(0,()))))),(false,()))))
def l0 (k:Nat):Nat→T0
 | 0=>fun _ _ _ _ _ _ _ _ _=>none
 | n+1=>b0 k (l0 k n)
def t (k:Nat) (L0:T0) (a0:List (Ty.d aA)) (a1:ByteArray):Rs :=
 (L0 a1 a0 (List.length a0:Int) 0 ByteArray.empty 0 0 0 0)
def f (k:Nat):=t k (l0 k k)
end gQ
namespace kp
abbrev Rs:Type:=Option ((Ty.d bP) × Bool × Unit)
def t (k:Nat) (a0:ByteArray) (a1:Int) (a2:Int):Rs :=
 ((au.f k a1 0 (ByteArray.size a0:Int)).bind fun r1 =>
 (bif (!r1.1) then
 (some ((0,(0,(ByteArray.empty,(ByteArray.empty,(0,(0,())))))),(false,())))
 else
 ((au.f k a2 0 (aF ((ByteArray.size a0:Int)-a1))).bind fun r2 =>
 (bif (!r2.1) then
 (some ((0,(0,(ByteArray.empty,(ByteArray.empty,(0,(0,())))))),(false,())))
 else
 (FQ a1 (aF (a1+a2)) (ByteArray.size a0:Int)
 ((dq.f k (ByteArray.extract a0 (Int.toNat a1) (Int.toNat (aF (a1+a2))))).bind fun r3 =>
 (bif (r3.2.1==0) then
 (some ((0,(0,(ByteArray.empty,(ByteArray.empty,(0,(0,())))))),(false,())))
 else
 (bif (r3.2.1 != a2) then
 (some ((0,(0,(ByteArray.empty,(ByteArray.empty,(0,(0,())))))),(false,())))
 else
 ((cv.f k r3.1).bind fun r4 =>
 (some r4))))))))))
def f (k:Nat):=t k
end kp
namespace nJ
abbrev Rs:Type:=Option ((Ty.d aB) × Int × Unit)
def t (k:Nat) (a0:Ty.d aG) (a1:Ty.d a_) (a2:ByteArray):Rs :=
 ((gQ.f k a0.2.1 a2).bind fun r1 =>
 (bif (!r1.2.1) then
 (some ((ByteArray.empty,(ByteArray.empty,(0,()))),(8,())))
 else
 ((dp.f k r1.1.2.1).bind fun r2 =>
 ((cy.f k a1 r2.1).bind fun r3 =>
 ((kp.f k r3.1 r1.1.2.2.1 r1.1.2.2.2.1).bind fun r4 =>
 (bif (!r4.2.1) then
 (some ((ByteArray.empty,(ByteArray.empty,(0,()))),(3,())))
 else
 (bif (r4.1.1 != 1) then
 (bif (r4.1.1 != 4) then
 (some ((ByteArray.empty,(ByteArray.empty,(0,()))),(3,())))
 else
 (bif (!(seq r4.1.2.2.1 a2)) then
 (some ((ByteArray.empty,(ByteArray.empty,(0,()))),(3,())))
 else
 (some ((r4.1.2.2.1,(r4.1.2.2.2.1,(r4.1.2.1,()))),(0,())))))
 else
 (bif (!(seq r4.1.2.2.1 a2)) then
 (some ((ByteArray.empty,(ByteArray.empty,(0,()))),(3,())))
 else
 (some ((r4.1.2.2.1,(r4.1.2.2.2.1,(r4.1.2.1,()))),(0,())))))))))))
def f (k:Nat):=t k
end nJ
namespace iw
abbrev Rs:Type:=Option ((List (Ty.d aB)) × Int × Unit)
abbrev T0:Type:=Int→Int→Int→List Int→List (Ty.d aA)→Int→Int→Int→List (Ty.d aB)→Int→Int→Bool→List (Ty.d aB)→List ByteArray→Rs
def b0 (k:Nat) (L0:T0):T0:=fun x0 x1 x2 x3 x4 x5 x6 x7 x8 x9 x10 x11 x12 x13 =>
 (bif (decide (x1<x0)) then
 (bW x1 (x13.length:Int)
 ((nJ.f k ((x2,(x3,())),(x4,(x5,(x6,(x7,()))))) (x8,(x9,(x10,(x11,())))) (List.getD x13 (Int.toNat x1) (Ty.z .str))).bind fun r2 =>
 (bif (r2.2.1 != 0) then
 (some ([],r2.2))
 else
 (rm (Ty.bytes aB) (List.length x12+1)
 (L0 x0 (aF (x1+1)) x2 x3 x4 x5 x6 x7 x8 x9 x10 x11 (x12++[r2.1]) x13)))))
 else
 (some (x12,(0,()))))
def l0 (k:Nat):Nat→T0
 | 0=>fun _ _ _ _ _ _ _ _ _ _ _ _ _ _=>none
 | n+1=>b0 k (l0 k n)
def t (k:Nat) (L0:T0) (a0:Ty.d aG) (a1:Ty.d a_):Rs :=
 ((fe.f k a0.2.1).bind fun r1 =>
 (L0 (List.length r1.1:Int) 0 a0.1.1 a0.1.2.1 a0.2.1 a0.2.2.1 a0.2.2.2.1 a0.2.2.2.2.1 a1.1 a1.2.1 a1.2.2.1 a1.2.2.2.1 [] r1.1))
def f (k:Nat):=t k (l0 k k)
end iw
namespace j4
abbrev Rs:Type:=Option ((List (Ty.d aB)) × Int × Unit)
def t (k:Nat) (a0:Ty.d mL):Rs :=
 (bif (!a0.1) then
 (some ([],(6,())))
 else
 ((iw.f k a0.2.1 a0.2.2.1).bind fun r1 =>
 (some r1)))
def f (k:Nat):=t k
end j4
namespace fX
abbrev Rs:Type:=Option ((List (Ty.d aB)) × Int × Unit)
def t (k:Nat) (a0:Ty.d a_) (a1:List Int):Rs :=
 ((ez.f k a0 a1).bind fun r1 =>
 ((iG.f k r1.1).bind fun r2 =>
 (bif (r2.2.1 != 0) then
 (some ([],r2.2))
 else
 ((j4.f k r2.1).bind fun r3 =>
 (some r3)))))
def f (k:Nat):=t k
end fX
namespace cP
abbrev Rs:Type:=Option (Bool × Unit)
abbrev T0:Type:=List (Ty.d aB)→List (Ty.d aB)→Int→Rs
def b0 (k:Nat) (L0:T0):T0:=fun x0 x1 x2 =>
 (bif (decide (x2<(x0.length:Int))) then
 (bW x2 (x0.length:Int)
 (bW x2 (x1.length:Int)
 (bif (!((seq (List.getD x0 (Int.toNat x2) (Ty.z aB)).1 (List.getD x1 (Int.toNat x2) (Ty.z aB)).1)&&((seq (List.getD x0 (Int.toNat x2) (Ty.z aB)).2.1 (List.getD x1 (Int.toNat x2) (Ty.z aB)).2.1)&&((List.getD x0 (Int.toNat x2) (Ty.z aB)).2.2.1==(List.getD x1 (Int.toNat x2) (Ty.z aB)).2.2.1)))) then
 (some (false,()))
 else
 (L0 x0 x1 (aF (x2+1))))))
 else
 (some (true,())))
def l0 (k:Nat):Nat→T0
 | 0=>fun _ _ _=>none
 | n+1=>b0 k (l0 k n)
def t (k:Nat) (L0:T0) (a0:List (Ty.d aB)) (a1:List (Ty.d aB)):Rs :=
 (bif ((List.length a0:Int) != (List.length a1:Int)) then
 (some (false,()))
 else
 (L0 a0 a1 0))
def f (k:Nat):=t k (l0 k k)
end cP
namespace bH
abbrev Rs:Type:=Option (Bool × Unit)
abbrev T1:Type:=List Int→List Int→Int→Int→List (Ty.d aB)→List (Ty.d aB)→Int→Int→Bool→Rs
abbrev T0:Type:=List Int→List Int→Int→Int→List (Ty.d aB)→List (Ty.d aB)→Int→Int→Bool→Rs
def b1 (k:Nat) (L1:T1):T1:=fun x0 x1 x2 x3 x4 x5 x6 x7 x8 =>
 (bif (decide (x3<3)) then
 ((nZ.f k x0 x3).bind fun r14 =>
 ((iC.f k (x5,(x6,(x7,(x8,())))) (Int.tmod r14.1 8)).bind fun r15 =>
 ((jK.f k r15.1).bind fun r16 =>
 (bif (r16.2.2.1==0) then
 ((fX.f k (x5,(x6,(x7,(x8,())))) x1).bind fun r17 =>
 (bif (x2==r17.2.1) then
 ((cP.f k x4 r17.1).bind fun r18 =>
 (some r18))
 else
 (some (false,()))))
 else
 ((ez.f k r16.2.1 x1).bind fun r19 =>
 (L1 x0 x1 x2 (aF (x3+1)) x4 r19.1.1 r19.1.2.1 r19.1.2.2.1 r19.1.2.2.2.1))))))
 else
 ((fX.f k (x5,(x6,(x7,(x8,())))) x1).bind fun r20 =>
 (bif (x2==r20.2.1) then
 ((cP.f k x4 r20.1).bind fun r21 =>
 (some r21))
 else
 (some (false,())))))
def l1 (k:Nat):Nat→T1
 | 0=>fun _ _ _ _ _ _ _ _ _=>none
 | n+1=>b1 k (l1 k n)
def b0 (k:Nat) (L1:T1):T0:=fun x0 x1 x2 x3 x4 x5 x6 x7 x8 =>
 (bif (decide (x3<3)) then
 ((nZ.f k x0 x3).bind fun r8 =>
 ((iC.f k (x5,(x6,(x7,(x8,())))) (Int.tmod r8.1 8)).bind fun r9 =>
 ((jK.f k r9.1).bind fun r10 =>
 (bif (r10.2.2.1==0) then
 ((fX.f k (x5,(x6,(x7,(x8,())))) x1).bind fun r11 =>
 (bif (x2==r11.2.1) then
 ((cP.f k x4 r11.1).bind fun r12 =>
 (some r12))
 else
 (some (false,()))))
 else
 ((ez.f k r10.2.1 x1).bind fun r13 =>
 (L1 x0 x1 x2 (aF (x3+1)) x4 r13.1.1 r13.1.2.1 r13.1.2.2.1 r13.1.2.2.2.1))))))
 else
 ((fX.f k (x5,(x6,(x7,(x8,())))) x1).bind fun r22 =>
 (bif (x2==r22.2.1) then
 ((cP.f k x4 r22.1).bind fun r23 =>
 (some r23))
 else
 (some (false,())))))
def l0 (k:Nat):Nat→T0
 | 0=>fun _ _ _ _ _ _ _ _ _=>none
 | n+1=>b0 k (l1 k n)
def t (k:Nat) (L0:T0) (a0:List Int):Rs :=
 ((pc.f k a0).bind fun r1 =>
 (bif r1.1 then
 (some (true,()))
 else
 ((fp.f k a0).bind fun r2 =>
 ((ik.f k r2.1 r2.2.1).bind fun r3 =>
 ((fP.f k r2.1 r2.2.1).bind fun r4 =>
 ((jK.f k r4.1).bind fun r5 =>
 ((bd.f k r4.1).bind fun r6 =>
 (bif (r5.2.2.1 != r6.2.2.1) then
 (some (false,()))
 else
 ((dy.f k r5.1 r6.1).bind fun r7 =>
 (bif (!r7.1) then
 (some (false,()))
 else
 (L0 a0 r2.2.1 r3.2.1 0 r3.1 r4.1.1 r4.1.2.1 r4.1.2.2.1 r4.1.2.2.2.1)))))))))))
def f (k:Nat):=t k (l0 k k)
end bH
end Go.Proofs.YtgnakpiicdfpkaaGreatDoor.G

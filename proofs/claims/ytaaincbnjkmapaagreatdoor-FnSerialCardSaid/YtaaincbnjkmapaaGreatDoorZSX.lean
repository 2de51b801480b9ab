/- Functions that this seat does not have, as V runs them elsewhere: what is needed of them. -/
import Derived.Test.YtaaincbnjkmapaaGreatDoorFS
import Derived.Test.YtaaincbnjkmapaaGreatDoorVWords
import Derived.Test.YtaaincbnjkmapaaGreatDoorXLib
set_option linter.unusedVariables false
namespace Go.Proofs.YtaaincbnjkmapaaGreatDoor.G
open Go.V
abbrev bB:Ty := .pair .bool (.pair (.slice cI) (.pair (.int .i64) (.pair (.slice aV) .unit)))
namespace k7
abbrev T1:Type:=ByteArray→Int→Int→Int→Option (Int × Unit)
abbrev T0:Type:=ByteArray→Int→Int→Option (Int × Unit)
def b1 (k:Nat) (L0:T0) (L1:T1) (x1_0:ByteArray) (x1_1:Int) (x1_2:Int) (x1_3:Int):Option (Int × Unit) :=
 (bif (decide (x1_3<8)) then
 (bif ((Int.tmod x1_1 2)==1) then
 (L1 x1_0 (aQ (((BitVec.ofInt (IntKind.bits .i64) (aQ (Int.tdiv x1_1 2)) ^^^ BitVec.ofInt (IntKind.bits .i64) 2197175160).toNat:Int))) x1_2 (aQ (x1_3+1)))
 else
 (L1 x1_0 (aQ (Int.tdiv x1_1 2)) x1_2 (aQ (x1_3+1))))
 else
 (L0 x1_0 x1_1 (aQ (x1_2+1))))
def l1 (k:Nat) (L0:T0):Nat→T1
 | 0=>fun _ _ _ _=>none
 | n+1=>b1 k L0 (l1 k L0 n)
def b0 (k:Nat) (L1:T1) (L0:T0) (x0_0:ByteArray) (x0_1:Int) (x0_2:Int):Option (Int × Unit) :=
 (bif (decide (x0_2<(ByteArray.size x0_0:Int))) then
 (dR x0_2 (ByteArray.size x0_0:Int)
 (L1 x0_0 (aQ (((BitVec.ofInt (IntKind.bits .i64) x0_1 ^^^ BitVec.ofInt (IntKind.bits .i64) (aQ (jT x0_0 x0_2))).toNat:Int))) x0_2 0))
 else
 (some ((aQ (4294967295-x0_1)),())))
def l0 (k:Nat):Nat→T0
 | 0=>fun _ _ _=>none
 | n+1=>b0 k (l1 k (l0 k n) k) (l0 k n)
def t (k:Nat) (L0:T0) (a0:ByteArray):Option (Int × Unit) :=
 (L0 a0 4294967295 0)
def f (k:Nat) (a0:ByteArray):Option (Int × Unit):=t k (l0 k k) a0
end k7
namespace gQ
abbrev T0:Type:=Int→Int→ByteArray→Int→Option (ByteArray × Unit)
def b0 (k:Nat) (L0:T0) (x0_0:Int) (x0_1:Int) (x0_2:ByteArray) (x0_3:Int):Option (ByteArray × Unit) :=
 (bif (decide (x0_3<x0_1)) then
 (oV (bytesOf [(IntKind.wrap .u8 (Int.tmod x0_0 256))]) x0_2
 (L0 (aQ (Int.tdiv x0_0 256)) x0_1 ((bytesOf [(IntKind.wrap .u8 (Int.tmod x0_0 256))])++x0_2) (aQ (x0_3+1))))
 else
 (bif (decide (x0_0 > 0)) then
 (some ((⟨#[]⟩:ByteArray),()))
 else
 (some (x0_2,()))))
def l0 (k:Nat):Nat→T0
 | 0=>fun _ _ _ _=>none
 | n+1=>b0 k (l0 k n)
def t (k:Nat) (L0:T0) (a0:Int) (a1:Int):Option (ByteArray × Unit) :=
 (Option.bind (cK.f k a1 1 7) fun r1 =>
 (bif (!r1.1) then
 (some ((⟨#[]⟩:ByteArray),()))
 else
 (bif (decide (a0<0)) then
 (some ((⟨#[]⟩:ByteArray),()))
 else
 (L0 a0 a1 (⟨#[]⟩:ByteArray) 0))))
def f (k:Nat) (a0:Int) (a1:Int):Option (ByteArray × Unit):=t k (l0 k k) a0 a1
end gQ
namespace fO
abbrev T0:Type:=Int→List Int→Option (ByteArray × Unit)
def b0 (k:Nat) (L0:T0) (x0_0:Int) (x0_1:List Int):Option (ByteArray × Unit) :=
 (bif (decide (x0_0≥128)) then
 (rm (Ty.bytes (.int .u8)) (List.length x0_1+1)
 (L0 (aQ (Int.tdiv x0_0 128)) (x0_1++[(IntKind.wrap .u8 (aQ (128+(Int.tmod x0_0 128))))])))
 else
 (rm (Ty.bytes (.int .u8)) (List.length x0_1+1)
 (some ((bytesOf (x0_1++[(IntKind.wrap .u8 x0_0)])),()))))
def l0 (k:Nat):Nat→T0
 | 0=>fun _ _=>none
 | n+1=>b0 k (l0 k n)
def t (k:Nat) (L0:T0) (a0:Int):Option (ByteArray × Unit) :=
 (Option.bind (cK.f k a0 0 562949953421311) fun r1 =>
 (bif (!r1.1) then
 (some ((⟨#[]⟩:ByteArray),()))
 else
 (L0 a0 [])))
def f (k:Nat) (a0:Int):Option (ByteArray × Unit):=t k (l0 k k) a0
end fO
namespace oz
def t (k:Nat) (a0:ByteArray):Option (ByteArray × Unit) :=
 (bif (decide ((ByteArray.size a0:Int) > 200)) then
 (some ((⟨#[]⟩:ByteArray),()))
 else
 (Option.bind (fO.f k (ByteArray.size a0:Int)) fun r1 =>
 (oV r1.1 a0
 (Option.bind (k7.f k (r1.1++a0)) fun r2 =>
 (Option.bind (gQ.f k r2.1 4) fun r3 =>
 (oV r3.1 (r1.1++a0)
 (some ((r3.1++(r1.1++a0)),()))))))))
def f (k:Nat) (a0:ByteArray):Option (ByteArray × Unit):=t k a0
end oz
namespace im
def t (k:Nat) (a0:ByteArray):Option (Bool × Unit) :=
 (Option.bind (cK.f k (ByteArray.size a0:Int) 1 8) fun r1 =>
 (some r1))
def f (k:Nat) (a0:ByteArray):Option (Bool × Unit):=t k a0
end im
namespace cm
abbrev T0:Type:=ByteArray→Int→Int→Int→Option (Int × Bool × Unit)
def b0 (k:Nat) (L0:T0) (x0_0:ByteArray) (x0_1:Int) (x0_2:Int) (x0_3:Int):Option (Int × Bool × Unit) :=
 (bif (decide (x0_3<x0_1)) then
 (dR x0_3 (ByteArray.size x0_0:Int)
 (L0 x0_0 x0_1 (aQ ((aQ (x0_2*256))+(aQ (jT x0_0 x0_3)))) (aQ (x0_3+1))))
 else
 (some (x0_2,(true,()))))
def l0 (k:Nat):Nat→T0
 | 0=>fun _ _ _ _=>none
 | n+1=>b0 k (l0 k n)
def t (k:Nat) (L0:T0) (a0:ByteArray) (a1:Int):Option (Int × Bool × Unit) :=
 (Option.bind (cK.f k a1 1 7) fun r1 =>
 (bif (!r1.1) then
 (some (0,(false,())))
 else
 (bif (decide ((ByteArray.size a0:Int)<a1)) then
 (some (0,(false,())))
 else
 (L0 a0 a1 0 0))))
def f (k:Nat) (a0:ByteArray) (a1:Int):Option (Int × Bool × Unit):=t k (l0 k k) a0 a1
end cm
namespace ba
abbrev T1:Type:=ByteArray→Int→Int→Int→Option (Int × Int × Unit)
abbrev T0:Type:=ByteArray→Int→Option (Int × Int × Unit)
def b1 (k:Nat) (L0:T0) (L1:T1) (x1_0:ByteArray) (x1_1:Int) (x1_2:Int) (x1_3:Int):Option (Int × Int × Unit) :=
 (bif (decide (x1_3≥0)) then
 (dR x1_3 (ByteArray.size x1_0:Int)
 (L1 x1_0 x1_1 (aQ ((aQ (x1_2*128))+(Int.tmod (aQ (jT x1_0 x1_3)) 128))) (aQ (x1_3-1))))
 else
 (Option.bind (fO.f k x1_2) fun r1 =>
 (pS x1_1 (ByteArray.size x1_0:Int)
 (bif (seq r1.1 (ByteArray.extract x1_0 0 (Int.toNat x1_1))) then
 (some (x1_2,(x1_1,())))
 else
 (L0 x1_0 (aQ (x1_1+1)))))))
def l1 (k:Nat) (L0:T0):Nat→T1
 | 0=>fun _ _ _ _=>none
 | n+1=>b1 k L0 (l1 k L0 n)
def b0 (k:Nat) (L1:T1) (L0:T0) (x0_0:ByteArray) (x0_1:Int):Option (Int × Int × Unit) :=
 (bif (decide (x0_1≤7)) then
 (bif (decide (x0_1≤(ByteArray.size x0_0:Int))) then
 (L1 x0_0 x0_1 0 (aQ (x0_1-1)))
 else
 (some (0,(0,()))))
 else
 (some (0,(0,()))))
def l0 (k:Nat):Nat→T0
 | 0=>fun _ _=>none
 | n+1=>b0 k (l1 k (l0 k n) k) (l0 k n)
def t (k:Nat) (L0:T0) (a0:ByteArray):Option (Int × Int × Unit) :=
 (L0 a0 1)
def f (k:Nat) (a0:ByteArray):Option (Int × Int × Unit):=t k (l0 k k) a0
end ba
namespace p8
def t (k:Nat) (a0:Ty.d bf):Option (Bool × Unit) :=
 (Option.bind (cK.f k a0.2.1 0 1000000) fun r1 =>
 (bif (!r1.1) then
 (some (false,()))
 else
 (bif (a0.2.1==0) then
 (bif (a0.1 != 5) then
 (some (false,()))
 else
 (bif (a0.1==1) then
 (bif (a0.1==1) then
 (Option.bind (im.f k a0.2.2.1) fun r2 =>
 (bif r2.1 then
 (bif (decide ((ByteArray.size a0.2.2.2.1:Int)≤24)) then
 (bif (a0.2.2.2.2.1==0) then
 (some ((a0.2.2.2.2.2.1==0),()))
 else
 (some (false,())))
 else
 (some (false,())))
 else
 (some (false,()))))
 else
 (bif (a0.1==2) then
 (Option.bind (im.f k a0.2.2.1) fun r3 =>
 (bif r3.1 then
 (bif (seq a0.2.2.2.1 (⟨#[]⟩:ByteArray)) then
 (bif (a0.2.2.2.2.1==0) then
 (some ((a0.2.2.2.2.2.1==0),()))
 else
 (some (false,())))
 else
 (some (false,())))
 else
 (some (false,()))))
 else
 (bif (a0.1==3) then
 (bif (seq a0.2.2.1 (⟨#[]⟩:ByteArray)) then
 (bif (seq a0.2.2.2.1 (⟨#[]⟩:ByteArray)) then
 (Option.bind (cK.f k a0.2.2.2.2.1 0 8) fun r4 =>
 (bif r4.1 then
 (Option.bind (cK.f k a0.2.2.2.2.2.1 0 4294967295) fun r5 =>
 (some r5))
 else
 (some (false,()))))
 else
 (some (false,())))
 else
 (some (false,())))
 else
 (bif (a0.1==5) then
 (bif (seq a0.2.2.1 (⟨#[]⟩:ByteArray)) then
 (bif (seq a0.2.2.2.1 (⟨#[]⟩:ByteArray)) then
 (Option.bind (cK.f k a0.2.2.2.2.1 0 20) fun r6 =>
 (bif r6.1 then
 (Option.bind (cK.f k a0.2.2.2.2.2.1 0 4294967295) fun r7 =>
 (some r7))
 else
 (some (false,()))))
 else
 (some (false,())))
 else
 (some (false,())))
 else
 (some (false,()))))))
 else
 (bif (a0.1==4) then
 (Option.bind (im.f k a0.2.2.1) fun r8 =>
 (bif r8.1 then
 (bif (decide ((ByteArray.size a0.2.2.2.1:Int)≤24)) then
 (bif (a0.2.2.2.2.1==0) then
 (some ((a0.2.2.2.2.2.1==0),()))
 else
 (some (false,())))
 else
 (some (false,())))
 else
 (some (false,()))))
 else
 (bif (a0.1==2) then
 (Option.bind (im.f k a0.2.2.1) fun r9 =>
 (bif r9.1 then
 (bif (seq a0.2.2.2.1 (⟨#[]⟩:ByteArray)) then
 (bif (a0.2.2.2.2.1==0) then
 (some ((a0.2.2.2.2.2.1==0),()))
 else
 (some (false,())))
 else
 (some (false,())))
 else
 (some (false,()))))
 else
 (bif (a0.1==3) then
 (bif (seq a0.2.2.1 (⟨#[]⟩:ByteArray)) then
 (bif (seq a0.2.2.2.1 (⟨#[]⟩:ByteArray)) then
 (Option.bind (cK.f k a0.2.2.2.2.1 0 8) fun r10 =>
 (bif r10.1 then
 (Option.bind (cK.f k a0.2.2.2.2.2.1 0 4294967295) fun r11 =>
 (some r11))
 else
 (some (false,()))))
 else
 (some (false,())))
 else
 (some (false,())))
 else
 (bif (a0.1==5) then
 (bif (seq a0.2.2.1 (⟨#[]⟩:ByteArray)) then
 (bif (seq a0.2.2.2.1 (⟨#[]⟩:ByteArray)) then
 (Option.bind (cK.f k a0.2.2.2.2.1 0 20) fun r12 =>
 (bif r12.1 then
 (Option.bind (cK.f k a0.2.2.2.2.2.1 0 4294967295) fun r13 =>
 (some r13))
 else
 (some (false,()))))
 else
 (some (false,())))
 else
 (some (false,())))
 else
 (some (false,()))))))))
 else
 (bif (a0.1==1) then
 (bif (a0.1==1) then
 (Option.bind (im.f k a0.2.2.1) fun r14 =>
 (bif r14.1 then
 (bif (decide ((ByteArray.size a0.2.2.2.1:Int)≤24)) then
 (bif (a0.2.2.2.2.1==0) then
 (some ((a0.2.2.2.2.2.1==0),()))
 else
 (some (false,())))
 else
 (some (false,())))
 else
 (some (false,()))))
 else
 (bif (a0.1==2) then
 (Option.bind (im.f k a0.2.2.1) fun r15 =>
 (bif r15.1 then
 (bif (seq a0.2.2.2.1 (⟨#[]⟩:ByteArray)) then
 (bif (a0.2.2.2.2.1==0) then
 (some ((a0.2.2.2.2.2.1==0),()))
 else
 (some (false,())))
 else
 (some (false,())))
 else
 (some (false,()))))
 else
 (bif (a0.1==3) then
 (bif (seq a0.2.2.1 (⟨#[]⟩:ByteArray)) then
 (bif (seq a0.2.2.2.1 (⟨#[]⟩:ByteArray)) then
 (Option.bind (cK.f k a0.2.2.2.2.1 0 8) fun r16 =>
 (bif r16.1 then
 (Option.bind (cK.f k a0.2.2.2.2.2.1 0 4294967295) fun r17 =>
 (some r17))
 else
 (some (false,()))))
 else
 (some (false,())))
 else
 (some (false,())))
 else
 (bif (a0.1==5) then
 (bif (seq a0.2.2.1 (⟨#[]⟩:ByteArray)) then
 (bif (seq a0.2.2.2.1 (⟨#[]⟩:ByteArray)) then
 (Option.bind (cK.f k a0.2.2.2.2.1 0 20) fun r18 =>
 (bif r18.1 then
 (Option.bind (cK.f k a0.2.2.2.2.2.1 0 4294967295) fun r19 =>
 (some r19))
 else
 (some (false,()))))
 else
 (some (false,())))
 else
 (some (false,())))
 else
 (some (false,()))))))
 else
 (bif (a0.1==4) then
 (Option.bind (im.f k a0.2.2.1) fun r20 =>
 (bif r20.1 then
 (bif (decide ((ByteArray.size a0.2.2.2.1:Int)≤24)) then
 (bif (a0.2.2.2.2.1==0) then
 (some ((a0.2.2.2.2.2.1==0),()))
 else
 (some (false,())))
 else
 (some (false,())))
 else
 (some (false,()))))
 else
 (bif (a0.1==2) then
 (Option.bind (im.f k a0.2.2.1) fun r21 =>
 (bif r21.1 then
 (bif (seq a0.2.2.2.1 (⟨#[]⟩:ByteArray)) then
 (bif (a0.2.2.2.2.1==0) then
 (some ((a0.2.2.2.2.2.1==0),()))
 else
 (some (false,())))
 else
 (some (false,())))
 else
 (some (false,()))))
 else
 (bif (a0.1==3) then
 (bif (seq a0.2.2.1 (⟨#[]⟩:ByteArray)) then
 (bif (seq a0.2.2.2.1 (⟨#[]⟩:ByteArray)) then
 (Option.bind (cK.f k a0.2.2.2.2.1 0 8) fun r22 =>
 (bif r22.1 then
 (Option.bind (cK.f k a0.2.2.2.2.2.1 0 4294967295) fun r23 =>
 (some r23))
 else
 (some (false,()))))
 else
 (some (false,())))
 else
 (some (false,())))
 else
 (bif (a0.1==5) then
 (bif (seq a0.2.2.1 (⟨#[]⟩:ByteArray)) then
 (bif (seq a0.2.2.2.1 (⟨#[]⟩:ByteArray)) then
 (Option.bind (cK.f k a0.2.2.2.2.1 0 20) fun r24 =>
 (bif r24.1 then
 (Option.bind (cK.f k a0.2.2.2.2.2.1 0 4294967295) fun r25 =>
 (some r25))
 else
 (some (false,()))))
 else
 (some (false,())))
 else
 (some (false,())))
 else
 (some (false,()))))))))))
def f (k:Nat) (a0:Ty.d bf):Option (Bool × Unit):=t k a0
end p8
namespace iT
def t (k:Nat) (a0:Ty.d bf):Option (ByteArray × Unit) :=
 (Option.bind (p8.f k a0) fun r1 =>
 (bif (!r1.1) then
 (some ((⟨#[]⟩:ByteArray),()))
 else
 (Option.bind (fO.f k a0.1) fun r2 =>
 (Option.bind (fO.f k a0.2.1) fun r3 =>
 (oV r2.1 r3.1
 (bif (a0.1==1) then
 (bif (a0.1==1) then
 (Option.bind (fO.f k (ByteArray.size a0.2.2.1:Int)) fun r4 =>
 (oV (r2.1++r3.1) r4.1
 (oV ((r2.1++r3.1)++r4.1) a0.2.2.1
 (Option.bind (fO.f k (ByteArray.size a0.2.2.2.1:Int)) fun r5 =>
 (oV (((r2.1++r3.1)++r4.1)++a0.2.2.1) r5.1
 (oV ((((r2.1++r3.1)++r4.1)++a0.2.2.1)++r5.1) a0.2.2.2.1
 (some ((((((r2.1++r3.1)++r4.1)++a0.2.2.1)++r5.1)++a0.2.2.2.1),()))))))))
 else
 (bif (a0.1==2) then
 (Option.bind (fO.f k (ByteArray.size a0.2.2.1:Int)) fun r6 =>
 (oV (r2.1++r3.1) r6.1
 (oV ((r2.1++r3.1)++r6.1) a0.2.2.1
 (some ((((r2.1++r3.1)++r6.1)++a0.2.2.1),())))))
 else
 (Option.bind (fO.f k a0.2.2.2.2.1) fun r7 =>
 (oV (r2.1++r3.1) r7.1
 (Option.bind (gQ.f k a0.2.2.2.2.2.1 4) fun r8 =>
 (oV ((r2.1++r3.1)++r7.1) r8.1
 (some ((((r2.1++r3.1)++r7.1)++r8.1),()))))))))
 else
 (bif (a0.1==4) then
 (Option.bind (fO.f k (ByteArray.size a0.2.2.1:Int)) fun r9 =>
 (oV (r2.1++r3.1) r9.1
 (oV ((r2.1++r3.1)++r9.1) a0.2.2.1
 (Option.bind (fO.f k (ByteArray.size a0.2.2.2.1:Int)) fun r10 =>
 (oV (((r2.1++r3.1)++r9.1)++a0.2.2.1) r10.1
 (oV ((((r2.1++r3.1)++r9.1)++a0.2.2.1)++r10.1) a0.2.2.2.1
 (some ((((((r2.1++r3.1)++r9.1)++a0.2.2.1)++r10.1)++a0.2.2.2.1),()))))))))
 else
 (bif (a0.1==2) then
 (Option.bind (fO.f k (ByteArray.size a0.2.2.1:Int)) fun r11 =>
 (oV (r2.1++r3.1) r11.1
 (oV ((r2.1++r3.1)++r11.1) a0.2.2.1
 (some ((((r2.1++r3.1)++r11.1)++a0.2.2.1),())))))
 else
 (Option.bind (fO.f k a0.2.2.2.2.1) fun r12 =>
 (oV (r2.1++r3.1) r12.1
 (Option.bind (gQ.f k a0.2.2.2.2.2.1 4) fun r13 =>
 (oV ((r2.1++r3.1)++r12.1) r13.1
 (some ((((r2.1++r3.1)++r12.1)++r13.1),()))))))))))))))
def f (k:Nat) (a0:Ty.d bf):Option (ByteArray × Unit):=t k a0
end iT
namespace f_
def t (k:Nat) (a0:ByteArray):Option (ByteArray × ByteArray × Bool × Unit) :=
 (Option.bind (ba.f k a0) fun r1 =>
 (bif (r1.2.1==0) then
 (some ((⟨#[]⟩:ByteArray),((⟨#[]⟩:ByteArray),(false,()))))
 else
 (bif (decide (r1.1 > (aQ ((ByteArray.size a0:Int)-r1.2.1)))) then
 (some ((⟨#[]⟩:ByteArray),((⟨#[]⟩:ByteArray),(false,()))))
 else
 (KC r1.2.1 (aQ (r1.2.1+r1.1)) (ByteArray.size a0:Int)
 (pS (aQ (r1.2.1+r1.1)) (ByteArray.size a0:Int)
 (some ((ByteArray.extract a0 (Int.toNat r1.2.1) (Int.toNat (aQ (r1.2.1+r1.1)))),((ByteArray.extract a0 (Int.toNat (aQ (r1.2.1+r1.1))) (ByteArray.size a0)),(true,())))))))))
def f (k:Nat) (a0:ByteArray):Option (ByteArray × ByteArray × Bool × Unit):=t k a0
end f_
namespace iR
def t (k:Nat) (a0:ByteArray):Option ((Ty.d bf) × Bool × Unit) :=
 (Option.bind (ba.f k a0) fun r1 =>
 (pS r1.2.1 (ByteArray.size a0:Int)
 (Option.bind (ba.f k (ByteArray.extract a0 (Int.toNat r1.2.1) (ByteArray.size a0))) fun r2 =>
 (bif (r1.2.1==0) then
 (some ((0,(0,(ByteArray.empty,(ByteArray.empty,(0,(0,())))))),(false,())))
 else
 (bif (r2.2.1==0) then
 (some ((0,(0,(ByteArray.empty,(ByteArray.empty,(0,(0,())))))),(false,())))
 else
 (pS (aQ (r1.2.1+r2.2.1)) (ByteArray.size a0:Int)
 (bif (r1.1==1) then
 (bif (r1.1==1) then
 (Option.bind (f_.f k (ByteArray.extract a0 (Int.toNat (aQ (r1.2.1+r2.2.1))) (ByteArray.size a0))) fun r3 =>
 (Option.bind (f_.f k r3.2.1) fun r4 =>
 (Option.bind (iT.f k (r1.1,(r2.1,(r3.1,(r4.1,(0,(0,()))))))) fun r5 =>
 (bif (!(seq r5.1 a0)) then
 (some ((0,(0,(ByteArray.empty,(ByteArray.empty,(0,(0,())))))),(false,())))
 else
 (bif (seq a0 (⟨#[]⟩:ByteArray)) then
 (some ((0,(0,(ByteArray.empty,(ByteArray.empty,(0,(0,())))))),(false,())))
 else
 (some ((r1.1,(r2.1,(r3.1,(r4.1,(0,(0,())))))),(true,()))))))))
 else
 (bif (r1.1==2) then
 (Option.bind (f_.f k (ByteArray.extract a0 (Int.toNat (aQ (r1.2.1+r2.2.1))) (ByteArray.size a0))) fun r6 =>
 (Option.bind (iT.f k (r1.1,(r2.1,(r6.1,(ByteArray.empty,(0,(0,()))))))) fun r7 =>
 (bif (!(seq r7.1 a0)) then
 (some ((0,(0,(ByteArray.empty,(ByteArray.empty,(0,(0,())))))),(false,())))
 else
 (bif (seq a0 (⟨#[]⟩:ByteArray)) then
 (some ((0,(0,(ByteArray.empty,(ByteArray.empty,(0,(0,())))))),(false,())))
 else
 (some ((r1.1,(r2.1,(r6.1,(ByteArray.empty,(0,(0,())))))),(true,())))))))
 else
 (Option.bind (ba.f k (ByteArray.extract a0 (Int.toNat (aQ (r1.2.1+r2.2.1))) (ByteArray.size a0))) fun r8 =>
 (pS r8.2.1 (ByteArray.size (ByteArray.extract a0 (Int.toNat (aQ (r1.2.1+r2.2.1))) (ByteArray.size a0)):Int)
 (Option.bind (cm.f k (ByteArray.extract (ByteArray.extract a0 (Int.toNat (aQ (r1.2.1+r2.2.1))) (ByteArray.size a0)) (Int.toNat r8.2.1) (ByteArray.size (ByteArray.extract a0 (Int.toNat (aQ (r1.2.1+r2.2.1))) (ByteArray.size a0)))) 4) fun r9 =>
 (Option.bind (iT.f k (r1.1,(r2.1,(ByteArray.empty,(ByteArray.empty,(r8.1,(r9.1,()))))))) fun r10 =>
 (bif (!(seq r10.1 a0)) then
 (some ((0,(0,(ByteArray.empty,(ByteArray.empty,(0,(0,())))))),(false,())))
 else
 (bif (seq a0 (⟨#[]⟩:ByteArray)) then
 (some ((0,(0,(ByteArray.empty,(ByteArray.empty,(0,(0,())))))),(false,())))
 else
 (some ((r1.1,(r2.1,(ByteArray.empty,(ByteArray.empty,(r8.1,(r9.1,())))))),(true,())))))))))))
 else
 (bif (r1.1==4) then
 (Option.bind (f_.f k (ByteArray.extract a0 (Int.toNat (aQ (r1.2.1+r2.2.1))) (ByteArray.size a0))) fun r11 =>
 (Option.bind (f_.f k r11.2.1) fun r12 =>
 (Option.bind (iT.f k (r1.1,(r2.1,(r11.1,(r12.1,(0,(0,()))))))) fun r13 =>
 (bif (!(seq r13.1 a0)) then
 (some ((0,(0,(ByteArray.empty,(ByteArray.empty,(0,(0,())))))),(false,())))
 else
 (bif (seq a0 (⟨#[]⟩:ByteArray)) then
 (some ((0,(0,(ByteArray.empty,(ByteArray.empty,(0,(0,())))))),(false,())))
 else
 (some ((r1.1,(r2.1,(r11.1,(r12.1,(0,(0,())))))),(true,()))))))))
 else
 (bif (r1.1==2) then
 (Option.bind (f_.f k (ByteArray.extract a0 (Int.toNat (aQ (r1.2.1+r2.2.1))) (ByteArray.size a0))) fun r14 =>
 (Option.bind (iT.f k (r1.1,(r2.1,(r14.1,(ByteArray.empty,(0,(0,()))))))) fun r15 =>
 (bif (!(seq r15.1 a0)) then
 (some ((0,(0,(ByteArray.empty,(ByteArray.empty,(0,(0,())))))),(false,())))
 else
 (bif (seq a0 (⟨#[]⟩:ByteArray)) then
 (some ((0,(0,(ByteArray.empty,(ByteArray.empty,(0,(0,())))))),(false,())))
 else
 (some ((r1.1,(r2.1,(r14.1,(ByteArray.empty,(0,(0,())))))),(true,())))))))
 else
 (Option.bind (ba.f k (ByteArray.extract a0 (Int.toNat (aQ (r1.2.1+r2.2.1))) (ByteArray.size a0))) fun r16 =>
 (pS r16.2.1 (ByteArray.size (ByteArray.extract a0 (Int.toNat (aQ (r1.2.1+r2.2.1))) (ByteArray.size a0)):Int)
 (Option.bind (cm.f k (ByteArray.extract (ByteArray.extract a0 (Int.toNat (aQ (r1.2.1+r2.2.1))) (ByteArray.size a0)) (Int.toNat r16.2.1) (ByteArray.size (ByteArray.extract a0 (Int.toNat (aQ (r1.2.1+r2.2.1))) (ByteArray.size a0)))) 4) fun r17 =>
 (Option.bind (iT.f k (r1.1,(r2.1,(ByteArray.empty,(ByteArray.empty,(r16.1,(r17.1,()))))))) fun r18 =>
 (bif (!(seq r18.1 a0)) then
 (some ((0,(0,(ByteArray.empty,(ByteArray.empty,(0,(0,())))))),(false,())))
 else
 (bif (seq a0 (⟨#[]⟩:ByteArray)) then
 (some ((0,(0,(ByteArray.empty,(ByteArray.empty,(0,(0,())))))),(false,())))
 else
 (some ((r1.1,(r2.1,(ByteArray.empty,(ByteArray.empty,(r16.1,(r17.1,())))))),(true,()))))))))))))))))))
def f (k:Nat) (a0:ByteArray):Option ((Ty.d bf) × Bool × Unit):=t k a0
end iR
namespace iy
def t (k:Nat) (a0:ByteArray):Option (ByteArray × Int × Unit) :=
 (bif (decide ((ByteArray.size a0:Int)<5)) then
 (some ((⟨#[]⟩:ByteArray),(0,())))
 else
 (pS 4 (ByteArray.size a0:Int)
 (Option.bind (ba.f k (ByteArray.extract a0 4 (ByteArray.size a0))) fun r1 =>
 (bif (r1.2.1==0) then
 (some ((⟨#[]⟩:ByteArray),(0,())))
 else
 (bif (decide (r1.1 > 200)) then
 (some ((⟨#[]⟩:ByteArray),(0,())))
 else
 (bif (decide (r1.1 > (aQ ((aQ ((ByteArray.size a0:Int)-4))-r1.2.1)))) then
 (some ((⟨#[]⟩:ByteArray),(0,())))
 else
 (KC (aQ (4+r1.2.1)) (aQ ((aQ (4+r1.2.1))+r1.1)) (ByteArray.size a0:Int)
 (pS (aQ ((aQ (4+r1.2.1))+r1.1)) (ByteArray.size a0:Int)
 (Option.bind (oz.f k (ByteArray.extract a0 (Int.toNat (aQ (4+r1.2.1))) (Int.toNat (aQ ((aQ (4+r1.2.1))+r1.1))))) fun r2 =>
 (bif (!(seq (ByteArray.extract a0 0 (Int.toNat (aQ ((aQ (4+r1.2.1))+r1.1)))) r2.1)) then
 (some ((⟨#[]⟩:ByteArray),(0,())))
 else
 (some ((ByteArray.extract a0 (Int.toNat (aQ (4+r1.2.1))) (Int.toNat (aQ ((aQ (4+r1.2.1))+r1.1)))),((aQ ((aQ (4+r1.2.1))+r1.1)),())))))))))))))
def f (k:Nat) (a0:ByteArray):Option (ByteArray × Int × Unit):=t k a0
end iy
namespace gj
abbrev T0:Type:=ByteArray→Int→List (Ty.d d_)→Option ((List (Ty.d d_)) × Int × Unit)
def b0 (k:Nat) (L0:T0) (x0_0:ByteArray) (x0_1:Int) (x0_2:List (Ty.d d_)):Option ((List (Ty.d d_)) × Int × Unit) :=
 (bif (decide (x0_1<(ByteArray.size x0_0:Int))) then
 (pS x0_1 (ByteArray.size x0_0:Int)
 (Option.bind (iy.f k (ByteArray.extract x0_0 (Int.toNat x0_1) (ByteArray.size x0_0))) fun r1 =>
 (Option.bind (iR.f k r1.1) fun r2 =>
 (bif (r1.2.1==0) then
 (some (x0_2,(x0_1,())))
 else
 (bif (!r2.2.1) then
 (some (x0_2,(x0_1,())))
 else
 (rm (Ty.bytes d_) (List.length x0_2+1)
 (L0 x0_0 (aQ (x0_1+r1.2.1)) (x0_2++[(x0_1,(r1.2.1,(r2.1,())))]))))))))
 else
 (some (x0_2,(x0_1,()))))
def l0 (k:Nat):Nat→T0
 | 0=>fun _ _ _=>none
 | n+1=>b0 k (l0 k n)
def t (k:Nat) (L0:T0) (a0:ByteArray):Option ((List (Ty.d d_)) × Int × Unit) :=
 (L0 a0 0 [])
def f (k:Nat) (a0:ByteArray):Option ((List (Ty.d d_)) × Int × Unit):=t k (l0 k k) a0
end gj
end Go.Proofs.YtaaincbnjkmapaaGreatDoor.G

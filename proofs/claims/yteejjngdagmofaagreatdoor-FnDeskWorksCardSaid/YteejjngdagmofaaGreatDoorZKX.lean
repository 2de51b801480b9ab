/- Functions that this seat does not have, as V runs them elsewhere: what is needed of them. -/
import Derived.Test.YteejjngdagmofaaGreatDoorFK
import Derived.Test.YteejjngdagmofaaGreatDoorVWords
import Derived.Test.YteejjngdagmofaaGreatDoorXLib
set_option linter.unusedVariables false
namespace Go.Proofs.YteejjngdagmofaaGreatDoor.G
open Go.V
abbrev eD:Ty := .pair .bool (.pair (.slice aF) (.pair (.int .i64) (.pair (.slice bO) .unit)))
namespace k6
abbrev T1:Type:=ByteArray→Int→Int→Int→Option (Int × Unit)
abbrev T0:Type:=ByteArray→Int→Int→Option (Int × Unit)
def b1 (k:Nat) (L0:T0) (L1:T1) (x1_0:ByteArray) (x1_1:Int) (x1_2:Int) (x1_3:Int):Option (Int × Unit) :=
 (bif (decide (x1_3<8)) then
 (bif ((Int.tmod x1_1 2)==1) then
 (L1 x1_0 (aU (((BitVec.ofInt (IntKind.bits .i64) (aU (Int.tdiv x1_1 2)) ^^^ BitVec.ofInt (IntKind.bits .i64) 2197175160).toNat:Int))) x1_2 (aU (x1_3+1)))
 else
 (L1 x1_0 (aU (Int.tdiv x1_1 2)) x1_2 (aU (x1_3+1))))
 else
 (L0 x1_0 x1_1 (aU (x1_2+1))))
def l1 (k:Nat) (L0:T0):Nat→T1
 | 0=>fun _ _ _ _=>none
 | n+1=>b1 k L0 (l1 k L0 n)
def b0 (k:Nat) (L1:T1) (L0:T0) (x0_0:ByteArray) (x0_1:Int) (x0_2:Int):Option (Int × Unit) :=
 (bif (decide (x0_2<(ByteArray.size x0_0:Int))) then
 (fW x0_2 (ByteArray.size x0_0:Int)
 (L1 x0_0 (aU (((BitVec.ofInt (IntKind.bits .i64) x0_1 ^^^ BitVec.ofInt (IntKind.bits .i64) (aU (jJ x0_0 x0_2))).toNat:Int))) x0_2 0))
 else
 (some ((aU (4294967295-x0_1)),())))
def l0 (k:Nat):Nat→T0
 | 0=>fun _ _ _=>none
 | n+1=>b0 k (l1 k (l0 k n) k) (l0 k n)
def t (k:Nat) (L0:T0) (a0:ByteArray):Option (Int × Unit) :=
 (L0 a0 4294967295 0)
def f (k:Nat) (a0:ByteArray):Option (Int × Unit):=t k (l0 k k) a0
end k6
namespace dL
def t (k:Nat) (a0:Int) (a1:Int) (a2:Int):Option (Bool × Unit) :=
 (bif (decide (a0≥a1)) then
 (some ((decide (a0≤a2)),()))
 else
 (some (false,())))
def f (k:Nat) (a0:Int) (a1:Int) (a2:Int):Option (Bool × Unit):=t k a0 a1 a2
end dL
namespace gD
abbrev T0:Type:=Int→Int→ByteArray→Int→Option (ByteArray × Unit)
def b0 (k:Nat) (L0:T0) (x0_0:Int) (x0_1:Int) (x0_2:ByteArray) (x0_3:Int):Option (ByteArray × Unit) :=
 (bif (decide (x0_3<x0_1)) then
 (jm (bytesOf [(IntKind.wrap .u8 (Int.tmod x0_0 256))]) x0_2
 (L0 (aU (Int.tdiv x0_0 256)) x0_1 ((bytesOf [(IntKind.wrap .u8 (Int.tmod x0_0 256))])++x0_2) (aU (x0_3+1))))
 else
 (bif (decide (x0_0 > 0)) then
 (some ((⟨#[]⟩:ByteArray),()))
 else
 (some (x0_2,()))))
def l0 (k:Nat):Nat→T0
 | 0=>fun _ _ _ _=>none
 | n+1=>b0 k (l0 k n)
def t (k:Nat) (L0:T0) (a0:Int) (a1:Int):Option (ByteArray × Unit) :=
 (Option.bind (dL.f k a1 1 7) fun r1 =>
 (bif (!r1.1) then
 (some ((⟨#[]⟩:ByteArray),()))
 else
 (bif (decide (a0<0)) then
 (some ((⟨#[]⟩:ByteArray),()))
 else
 (L0 a0 a1 (⟨#[]⟩:ByteArray) 0))))
def f (k:Nat) (a0:Int) (a1:Int):Option (ByteArray × Unit):=t k (l0 k k) a0 a1
end gD
namespace fI
abbrev T0:Type:=Int→List Int→Option (ByteArray × Unit)
def b0 (k:Nat) (L0:T0) (x0_0:Int) (x0_1:List Int):Option (ByteArray × Unit) :=
 (bif (decide (x0_0≥128)) then
 (rm (Ty.bytes (.int .u8)) (List.length x0_1+1)
 (L0 (aU (Int.tdiv x0_0 128)) (x0_1++[(IntKind.wrap .u8 (aU (128+(Int.tmod x0_0 128))))])))
 else
 (rm (Ty.bytes (.int .u8)) (List.length x0_1+1)
 (some ((bytesOf (x0_1++[(IntKind.wrap .u8 x0_0)])),()))))
def l0 (k:Nat):Nat→T0
 | 0=>fun _ _=>none
 | n+1=>b0 k (l0 k n)
def t (k:Nat) (L0:T0) (a0:Int):Option (ByteArray × Unit) :=
 (Option.bind (dL.f k a0 0 562949953421311) fun r1 =>
 (bif (!r1.1) then
 (some ((⟨#[]⟩:ByteArray),()))
 else
 (L0 a0 [])))
def f (k:Nat) (a0:Int):Option (ByteArray × Unit):=t k (l0 k k) a0
end fI
namespace p8
def t (k:Nat) (a0:ByteArray):Option (ByteArray × Unit) :=
 (bif (decide ((ByteArray.size a0:Int) > 200)) then
 (some ((⟨#[]⟩:ByteArray),()))
 else
 (Option.bind (fI.f k (ByteArray.size a0:Int)) fun r1 =>
 (jm r1.1 a0
 (Option.bind (k6.f k (r1.1++a0)) fun r2 =>
 (Option.bind (gD.f k r2.1 4) fun r3 =>
 (jm r3.1 (r1.1++a0)
 (some ((r3.1++(r1.1++a0)),()))))))))
def f (k:Nat) (a0:ByteArray):Option (ByteArray × Unit):=t k a0
end p8
namespace iS
def t (k:Nat) (a0:ByteArray):Option (Bool × Unit) :=
 (Option.bind (dL.f k (ByteArray.size a0:Int) 1 8) fun r1 =>
 (some r1))
def f (k:Nat) (a0:ByteArray):Option (Bool × Unit):=t k a0
end iS
namespace cO
abbrev T0:Type:=ByteArray→Int→Int→Int→Option (Int × Bool × Unit)
def b0 (k:Nat) (L0:T0) (x0_0:ByteArray) (x0_1:Int) (x0_2:Int) (x0_3:Int):Option (Int × Bool × Unit) :=
 (bif (decide (x0_3<x0_1)) then
 (fW x0_3 (ByteArray.size x0_0:Int)
 (L0 x0_0 x0_1 (aU ((aU (x0_2*256))+(aU (jJ x0_0 x0_3)))) (aU (x0_3+1))))
 else
 (some (x0_2,(true,()))))
def l0 (k:Nat):Nat→T0
 | 0=>fun _ _ _ _=>none
 | n+1=>b0 k (l0 k n)
def t (k:Nat) (L0:T0) (a0:ByteArray) (a1:Int):Option (Int × Bool × Unit) :=
 (Option.bind (dL.f k a1 1 7) fun r1 =>
 (bif (!r1.1) then
 (some (0,(false,())))
 else
 (bif (decide ((ByteArray.size a0:Int)<a1)) then
 (some (0,(false,())))
 else
 (L0 a0 a1 0 0))))
def f (k:Nat) (a0:ByteArray) (a1:Int):Option (Int × Bool × Unit):=t k (l0 k k) a0 a1
end cO
namespace bW
abbrev T1:Type:=ByteArray→Int→Int→Int→Option (Int × Int × Unit)
abbrev T0:Type:=ByteArray→Int→Option (Int × Int × Unit)
def b1 (k:Nat) (L0:T0) (L1:T1) (x1_0:ByteArray) (x1_1:Int) (x1_2:Int) (x1_3:Int):Option (Int × Int × Unit) :=
 (bif (decide (x1_3≥0)) then
 (fW x1_3 (ByteArray.size x1_0:Int)
 (L1 x1_0 x1_1 (aU ((aU (x1_2*128))+(Int.tmod (aU (jJ x1_0 x1_3)) 128))) (aU (x1_3-1))))
 else
 (Option.bind (fI.f k x1_2) fun r1 =>
 (qn x1_1 (ByteArray.size x1_0:Int)
 (bif (seq r1.1 (ByteArray.extract x1_0 0 (Int.toNat x1_1))) then
 (some (x1_2,(x1_1,())))
 else
 (L0 x1_0 (aU (x1_1+1)))))))
def l1 (k:Nat) (L0:T0):Nat→T1
 | 0=>fun _ _ _ _=>none
 | n+1=>b1 k L0 (l1 k L0 n)
def b0 (k:Nat) (L1:T1) (L0:T0) (x0_0:ByteArray) (x0_1:Int):Option (Int × Int × Unit) :=
 (bif (decide (x0_1≤7)) then
 (bif (decide (x0_1≤(ByteArray.size x0_0:Int))) then
 (L1 x0_0 x0_1 0 (aU (x0_1-1)))
 else
 (some (0,(0,()))))
 else
 (some (0,(0,()))))
def l0 (k:Nat):Nat→T0
 | 0=>fun _ _=>none
 | n+1=>b0 k (l1 k (l0 k n) k) (l0 k n)
def t (k:Nat) (L0:T0) (a0:ByteArray):Option (Int × Int × Unit) :=
 (L0 a0 1)
def f (k:Nat) (a0:ByteArray):Option (Int × Int × Unit):=t k (l0 k k) a0
end bW
namespace oj
def t (k:Nat) (a0:Ty.d bQ):Option (Bool × Unit) :=
 (Option.bind (dL.f k a0.2.1 0 1000000) fun r1 =>
 (bif (!r1.1) then
 (some (false,()))
 else
 (bif (a0.2.1==0) then
 (bif (a0.1 != 5) then
 (some (false,()))
 else
 (bif (a0.1==1) then
 (bif (a0.1==1) then
 (Option.bind (iS.f k a0.2.2.1) fun r2 =>
 (bif r2.1 then
 (bif (decide ((ByteArray.size a0.2.2.2.1:Int)≤24)) then
 (bif (a0.2.2.2.2.1==0) then
 (some ((a0.2.2.2.2.2.1==0),()))
 else
 (some (false,())))
 else
 (some (false,())))
 else
 (some (false,()))))
 else
 (bif (a0.1==2) then
 (Option.bind (iS.f k a0.2.2.1) fun r3 =>
 (bif r3.1 then
 (bif (seq a0.2.2.2.1 (⟨#[]⟩:ByteArray)) then
 (bif (a0.2.2.2.2.1==0) then
 (some ((a0.2.2.2.2.2.1==0),()))
 else
 (some (false,())))
 else
 (some (false,())))
 else
 (some (false,()))))
 else
 (bif (a0.1==3) then
 (bif (seq a0.2.2.1 (⟨#[]⟩:ByteArray)) then
 (bif (seq a0.2.2.2.1 (⟨#[]⟩:ByteArray)) then
 (Option.bind (dL.f k a0.2.2.2.2.1 0 8) fun r4 =>
 (bif r4.1 then
 (Option.bind (dL.f k a0.2.2.2.2.2.1 0 4294967295) fun r5 =>
 (some r5))
 else
 (some (false,()))))
 else
 (some (false,())))
 else
 (some (false,())))
 else
 (bif (a0.1==5) then
 (bif (seq a0.2.2.1 (⟨#[]⟩:ByteArray)) then
 (bif (seq a0.2.2.2.1 (⟨#[]⟩:ByteArray)) then
 (Option.bind (dL.f k a0.2.2.2.2.1 0 20) fun r6 =>
 (bif r6.1 then
 (Option.bind (dL.f k a0.2.2.2.2.2.1 0 4294967295) fun r7 =>
 (some r7))
 else
 (some (false,()))))
 else
 (some (false,())))
 else
 (some (false,())))
 else
 (some (false,()))))))
 else
 (bif (a0.1==4) then
 (Option.bind (iS.f k a0.2.2.1) fun r8 =>
 (bif r8.1 then
 (bif (decide ((ByteArray.size a0.2.2.2.1:Int)≤24)) then
 (bif (a0.2.2.2.2.1==0) then
 (some ((a0.2.2.2.2.2.1==0),()))
 else
 (some (false,())))
 else
 (some (false,())))
 else
 (some (false,()))))
 else
 (bif (a0.1==2) then
 (Option.bind (iS.f k a0.2.2.1) fun r9 =>
 (bif r9.1 then
 (bif (seq a0.2.2.2.1 (⟨#[]⟩:ByteArray)) then
 (bif (a0.2.2.2.2.1==0) then
 (some ((a0.2.2.2.2.2.1==0),()))
 else
 (some (false,())))
 else
 (some (false,())))
 else
 (some (false,()))))
 else
 (bif (a0.1==3) then
 (bif (seq a0.2.2.1 (⟨#[]⟩:ByteArray)) then
 (bif (seq a0.2.2.2.1 (⟨#[]⟩:ByteArray)) then
 (Option.bind (dL.f k a0.2.2.2.2.1 0 8) fun pQ =>
 (bif pQ.1 then
 (Option.bind (dL.f k a0.2.2.2.2.2.1 0 4294967295) fun s7 =>
 (some s7))
 else
 (some (false,()))))
 else
 (some (false,())))
 else
 (some (false,())))
 else
 (bif (a0.1==5) then
 (bif (seq a0.2.2.1 (⟨#[]⟩:ByteArray)) then
 (bif (seq a0.2.2.2.1 (⟨#[]⟩:ByteArray)) then
 (Option.bind (dL.f k a0.2.2.2.2.1 0 20) fun r12 =>
 (bif r12.1 then
 (Option.bind (dL.f k a0.2.2.2.2.2.1 0 4294967295) fun r13 =>
 (some r13))
 else
 (some (false,()))))
 else
 (some (false,())))
 else
 (some (false,())))
 else
 (some (false,()))))))))
 else
 (bif (a0.1==1) then
 (bif (a0.1==1) then
 (Option.bind (iS.f k a0.2.2.1) fun r14 =>
 (bif r14.1 then
 (bif (decide ((ByteArray.size a0.2.2.2.1:Int)≤24)) then
 (bif (a0.2.2.2.2.1==0) then
 (some ((a0.2.2.2.2.2.1==0),()))
 else
 (some (false,())))
 else
 (some (false,())))
 else
 (some (false,()))))
 else
 (bif (a0.1==2) then
 (Option.bind (iS.f k a0.2.2.1) fun r15 =>
 (bif r15.1 then
 (bif (seq a0.2.2.2.1 (⟨#[]⟩:ByteArray)) then
 (bif (a0.2.2.2.2.1==0) then
 (some ((a0.2.2.2.2.2.1==0),()))
 else
 (some (false,())))
 else
 (some (false,())))
 else
 (some (false,()))))
 else
 (bif (a0.1==3) then
 (bif (seq a0.2.2.1 (⟨#[]⟩:ByteArray)) then
 (bif (seq a0.2.2.2.1 (⟨#[]⟩:ByteArray)) then
 (Option.bind (dL.f k a0.2.2.2.2.1 0 8) fun r16 =>
 (bif r16.1 then
 (Option.bind (dL.f k a0.2.2.2.2.2.1 0 4294967295) fun r17 =>
 (some r17))
 else
 (some (false,()))))
 else
 (some (false,())))
 else
 (some (false,())))
 else
 (bif (a0.1==5) then
 (bif (seq a0.2.2.1 (⟨#[]⟩:ByteArray)) then
 (bif (seq a0.2.2.2.1 (⟨#[]⟩:ByteArray)) then
 (Option.bind (dL.f k a0.2.2.2.2.1 0 20) fun r18 =>
 (bif r18.1 then
 (Option.bind (dL.f k a0.2.2.2.2.2.1 0 4294967295) fun r19 =>
 (some r19))
 else
 (some (false,()))))
 else
 (some (false,())))
 else
 (some (false,())))
 else
 (some (false,()))))))
 else
 (bif (a0.1==4) then
 (Option.bind (iS.f k a0.2.2.1) fun r20 =>
 (bif r20.1 then
 (bif (decide ((ByteArray.size a0.2.2.2.1:Int)≤24)) then
 (bif (a0.2.2.2.2.1==0) then
 (some ((a0.2.2.2.2.2.1==0),()))
 else
 (some (false,())))
 else
 (some (false,())))
 else
 (some (false,()))))
 else
 (bif (a0.1==2) then
 (Option.bind (iS.f k a0.2.2.1) fun r21 =>
 (bif r21.1 then
 (bif (seq a0.2.2.2.1 (⟨#[]⟩:ByteArray)) then
 (bif (a0.2.2.2.2.1==0) then
 (some ((a0.2.2.2.2.2.1==0),()))
 else
 (some (false,())))
 else
 (some (false,())))
 else
 (some (false,()))))
 else
 (bif (a0.1==3) then
 (bif (seq a0.2.2.1 (⟨#[]⟩:ByteArray)) then
 (bif (seq a0.2.2.2.1 (⟨#[]⟩:ByteArray)) then
 (Option.bind (dL.f k a0.2.2.2.2.1 0 8) fun r22 =>
 (bif r22.1 then
 (Option.bind (dL.f k a0.2.2.2.2.2.1 0 4294967295) fun r23 =>
 (some r23))
 else
 (some (false,()))))
 else
 (some (false,())))
 else
 (some (false,())))
 else
 (bif (a0.1==5) then
 (bif (seq a0.2.2.1 (⟨#[]⟩:ByteArray)) then
 (bif (seq a0.2.2.2.1 (⟨#[]⟩:ByteArray)) then
 (Option.bind (dL.f k a0.2.2.2.2.1 0 20) fun r24 =>
 (bif r24.1 then
 (Option.bind (dL.f k a0.2.2.2.2.2.1 0 4294967295) fun r25 =>
 (some r25))
 else
 (some (false,()))))
 else
 (some (false,())))
 else
 (some (false,())))
 else
 (some (false,()))))))))))
def f (k:Nat) (a0:Ty.d bQ):Option (Bool × Unit):=t k a0
end oj
namespace iH
def t (k:Nat) (a0:Ty.d bQ):Option (ByteArray × Unit) :=
 (Option.bind (oj.f k a0) fun r1 =>
 (bif (!r1.1) then
 (some ((⟨#[]⟩:ByteArray),()))
 else
 (Option.bind (fI.f k a0.1) fun r2 =>
 (Option.bind (fI.f k a0.2.1) fun r3 =>
 (jm r2.1 r3.1
 (bif (a0.1==1) then
 (bif (a0.1==1) then
 (Option.bind (fI.f k (ByteArray.size a0.2.2.1:Int)) fun r4 =>
 (jm (r2.1++r3.1) r4.1
 (jm ((r2.1++r3.1)++r4.1) a0.2.2.1
 (Option.bind (fI.f k (ByteArray.size a0.2.2.2.1:Int)) fun r5 =>
 (jm (((r2.1++r3.1)++r4.1)++a0.2.2.1) r5.1
 (jm ((((r2.1++r3.1)++r4.1)++a0.2.2.1)++r5.1) a0.2.2.2.1
 (some ((((((r2.1++r3.1)++r4.1)++a0.2.2.1)++r5.1)++a0.2.2.2.1),()))))))))
 else
 (bif (a0.1==2) then
 (Option.bind (fI.f k (ByteArray.size a0.2.2.1:Int)) fun r6 =>
 (jm (r2.1++r3.1) r6.1
 (jm ((r2.1++r3.1)++r6.1) a0.2.2.1
 (some ((((r2.1++r3.1)++r6.1)++a0.2.2.1),())))))
 else
 (Option.bind (fI.f k a0.2.2.2.2.1) fun r7 =>
 (jm (r2.1++r3.1) r7.1
 (Option.bind (gD.f k a0.2.2.2.2.2.1 4) fun r8 =>
 (jm ((r2.1++r3.1)++r7.1) r8.1
 (some ((((r2.1++r3.1)++r7.1)++r8.1),()))))))))
 else
 (bif (a0.1==4) then
 (Option.bind (fI.f k (ByteArray.size a0.2.2.1:Int)) fun r9 =>
 (jm (r2.1++r3.1) r9.1
 (jm ((r2.1++r3.1)++r9.1) a0.2.2.1
 (Option.bind (fI.f k (ByteArray.size a0.2.2.2.1:Int)) fun pQ =>
 (jm (((r2.1++r3.1)++r9.1)++a0.2.2.1) pQ.1
 (jm ((((r2.1++r3.1)++r9.1)++a0.2.2.1)++pQ.1) a0.2.2.2.1
 (some ((((((r2.1++r3.1)++r9.1)++a0.2.2.1)++pQ.1)++a0.2.2.2.1),()))))))))
 else
 (bif (a0.1==2) then
 (Option.bind (fI.f k (ByteArray.size a0.2.2.1:Int)) fun s7 =>
 (jm (r2.1++r3.1) s7.1
 (jm ((r2.1++r3.1)++s7.1) a0.2.2.1
 (some ((((r2.1++r3.1)++s7.1)++a0.2.2.1),())))))
 else
 (Option.bind (fI.f k a0.2.2.2.2.1) fun r12 =>
 (jm (r2.1++r3.1) r12.1
 (Option.bind (gD.f k a0.2.2.2.2.2.1 4) fun r13 =>
 (jm ((r2.1++r3.1)++r12.1) r13.1
 (some ((((r2.1++r3.1)++r12.1)++r13.1),()))))))))))))))
def f (k:Nat) (a0:Ty.d bQ):Option (ByteArray × Unit):=t k a0
end iH
namespace eP
def t (k:Nat) (a0:ByteArray):Option (ByteArray × ByteArray × Bool × Unit) :=
 (Option.bind (bW.f k a0) fun r1 =>
 (bif (r1.2.1==0) then
 (some ((⟨#[]⟩:ByteArray),((⟨#[]⟩:ByteArray),(false,()))))
 else
 (bif (decide (r1.1 > (aU ((ByteArray.size a0:Int)-r1.2.1)))) then
 (some ((⟨#[]⟩:ByteArray),((⟨#[]⟩:ByteArray),(false,()))))
 else
 (M0 r1.2.1 (aU (r1.2.1+r1.1)) (ByteArray.size a0:Int)
 (qn (aU (r1.2.1+r1.1)) (ByteArray.size a0:Int)
 (some ((ByteArray.extract a0 (Int.toNat r1.2.1) (Int.toNat (aU (r1.2.1+r1.1)))),((ByteArray.extract a0 (Int.toNat (aU (r1.2.1+r1.1))) (ByteArray.size a0)),(true,())))))))))
def f (k:Nat) (a0:ByteArray):Option (ByteArray × ByteArray × Bool × Unit):=t k a0
end eP
namespace iJ
def t (k:Nat) (a0:ByteArray):Option ((Ty.d bQ) × Bool × Unit) :=
 (Option.bind (bW.f k a0) fun r1 =>
 (qn r1.2.1 (ByteArray.size a0:Int)
 (Option.bind (bW.f k (ByteArray.extract a0 (Int.toNat r1.2.1) (ByteArray.size a0))) fun r2 =>
 (bif (r1.2.1==0) then
 (some ((0,(0,(ByteArray.empty,(ByteArray.empty,(0,(0,())))))),(false,())))
 else
 (bif (r2.2.1==0) then
 (some ((0,(0,(ByteArray.empty,(ByteArray.empty,(0,(0,())))))),(false,())))
 else
 (qn (aU (r1.2.1+r2.2.1)) (ByteArray.size a0:Int)
 (bif (r1.1==1) then
 (bif (r1.1==1) then
 (Option.bind (eP.f k (ByteArray.extract a0 (Int.toNat (aU (r1.2.1+r2.2.1))) (ByteArray.size a0))) fun r3 =>
 (Option.bind (eP.f k r3.2.1) fun r4 =>
 (Option.bind (iH.f k (r1.1,(r2.1,(r3.1,(r4.1,(0,(0,()))))))) fun r5 =>
 (bif (!(seq r5.1 a0)) then
 (some ((0,(0,(ByteArray.empty,(ByteArray.empty,(0,(0,())))))),(false,())))
 else
 (bif (seq a0 (⟨#[]⟩:ByteArray)) then
 (some ((0,(0,(ByteArray.empty,(ByteArray.empty,(0,(0,())))))),(false,())))
 else
 (some ((r1.1,(r2.1,(r3.1,(r4.1,(0,(0,())))))),(true,()))))))))
 else
 (bif (r1.1==2) then
 (Option.bind (eP.f k (ByteArray.extract a0 (Int.toNat (aU (r1.2.1+r2.2.1))) (ByteArray.size a0))) fun r6 =>
 (Option.bind (iH.f k (r1.1,(r2.1,(r6.1,(ByteArray.empty,(0,(0,()))))))) fun r7 =>
 (bif (!(seq r7.1 a0)) then
 (some ((0,(0,(ByteArray.empty,(ByteArray.empty,(0,(0,())))))),(false,())))
 else
 (bif (seq a0 (⟨#[]⟩:ByteArray)) then
 (some ((0,(0,(ByteArray.empty,(ByteArray.empty,(0,(0,())))))),(false,())))
 else
 (some ((r1.1,(r2.1,(r6.1,(ByteArray.empty,(0,(0,())))))),(true,())))))))
 else
 (Option.bind (bW.f k (ByteArray.extract a0 (Int.toNat (aU (r1.2.1+r2.2.1))) (ByteArray.size a0))) fun r8 =>
 (qn r8.2.1 (ByteArray.size (ByteArray.extract a0 (Int.toNat (aU (r1.2.1+r2.2.1))) (ByteArray.size a0)):Int)
 (Option.bind (cO.f k (ByteArray.extract (ByteArray.extract a0 (Int.toNat (aU (r1.2.1+r2.2.1))) (ByteArray.size a0)) (Int.toNat r8.2.1) (ByteArray.size (ByteArray.extract a0 (Int.toNat (aU (r1.2.1+r2.2.1))) (ByteArray.size a0)))) 4) fun r9 =>
 (Option.bind (iH.f k (r1.1,(r2.1,(ByteArray.empty,(ByteArray.empty,(r8.1,(r9.1,()))))))) fun pQ =>
 (bif (!(seq pQ.1 a0)) then
 (some ((0,(0,(ByteArray.empty,(ByteArray.empty,(0,(0,())))))),(false,())))
 else
 (bif (seq a0 (⟨#[]⟩:ByteArray)) then
 (some ((0,(0,(ByteArray.empty,(ByteArray.empty,(0,(0,())))))),(false,())))
 else
 (some ((r1.1,(r2.1,(ByteArray.empty,(ByteArray.empty,(r8.1,(r9.1,())))))),(true,())))))))))))
 else
 (bif (r1.1==4) then
 (Option.bind (eP.f k (ByteArray.extract a0 (Int.toNat (aU (r1.2.1+r2.2.1))) (ByteArray.size a0))) fun s7 =>
 (Option.bind (eP.f k s7.2.1) fun r12 =>
 (Option.bind (iH.f k (r1.1,(r2.1,(s7.1,(r12.1,(0,(0,()))))))) fun r13 =>
 (bif (!(seq r13.1 a0)) then
 (some ((0,(0,(ByteArray.empty,(ByteArray.empty,(0,(0,())))))),(false,())))
 else
 (bif (seq a0 (⟨#[]⟩:ByteArray)) then
 (some ((0,(0,(ByteArray.empty,(ByteArray.empty,(0,(0,())))))),(false,())))
 else
 (some ((r1.1,(r2.1,(s7.1,(r12.1,(0,(0,())))))),(true,()))))))))
 else
 (bif (r1.1==2) then
 (Option.bind (eP.f k (ByteArray.extract a0 (Int.toNat (aU (r1.2.1+r2.2.1))) (ByteArray.size a0))) fun r14 =>
 (Option.bind (iH.f k (r1.1,(r2.1,(r14.1,(ByteArray.empty,(0,(0,()))))))) fun r15 =>
 (bif (!(seq r15.1 a0)) then
 (some ((0,(0,(ByteArray.empty,(ByteArray.empty,(0,(0,())))))),(false,())))
 else
 (bif (seq a0 (⟨#[]⟩:ByteArray)) then
 (some ((0,(0,(ByteArray.empty,(ByteArray.empty,(0,(0,())))))),(false,())))
 else
 (some ((r1.1,(r2.1,(r14.1,(ByteArray.empty,(0,(0,())))))),(true,())))))))
 else
 (Option.bind (bW.f k (ByteArray.extract a0 (Int.toNat (aU (r1.2.1+r2.2.1))) (ByteArray.size a0))) fun r16 =>
 (qn r16.2.1 (ByteArray.size (ByteArray.extract a0 (Int.toNat (aU (r1.2.1+r2.2.1))) (ByteArray.size a0)):Int)
 (Option.bind (cO.f k (ByteArray.extract (ByteArray.extract a0 (Int.toNat (aU (r1.2.1+r2.2.1))) (ByteArray.size a0)) (Int.toNat r16.2.1) (ByteArray.size (ByteArray.extract a0 (Int.toNat (aU (r1.2.1+r2.2.1))) (ByteArray.size a0)))) 4) fun r17 =>
 (Option.bind (iH.f k (r1.1,(r2.1,(ByteArray.empty,(ByteArray.empty,(r16.1,(r17.1,()))))))) fun r18 =>
 (bif (!(seq r18.1 a0)) then
 (some ((0,(0,(ByteArray.empty,(ByteArray.empty,(0,(0,())))))),(false,())))
 else
 (bif (seq a0 (⟨#[]⟩:ByteArray)) then
 (some ((0,(0,(ByteArray.empty,(ByteArray.empty,(0,(0,())))))),(false,())))
 else
 (some ((r1.1,(r2.1,(ByteArray.empty,(ByteArray.empty,(r16.1,(r17.1,())))))),(true,()))))))))))))))))))
def f (k:Nat) (a0:ByteArray):Option ((Ty.d bQ) × Bool × Unit):=t k a0
end iJ
namespace ik
def t (k:Nat) (a0:ByteArray):Option (ByteArray × Int × Unit) :=
 (bif (decide ((ByteArray.size a0:Int)<5)) then
 (some ((⟨#[]⟩:ByteArray),(0,())))
 else
 (qn 4 (ByteArray.size a0:Int)
 (Option.bind (bW.f k (ByteArray.extract a0 4 (ByteArray.size a0))) fun r1 =>
 (bif (r1.2.1==0) then
 (some ((⟨#[]⟩:ByteArray),(0,())))
 else
 (bif (decide (r1.1 > 200)) then
 (some ((⟨#[]⟩:ByteArray),(0,())))
 else
 (bif (decide (r1.1 > (aU ((aU ((ByteArray.size a0:Int)-4))-r1.2.1)))) then
 (some ((⟨#[]⟩:ByteArray),(0,())))
 else
 (M0 (aU (4+r1.2.1)) (aU ((aU (4+r1.2.1))+r1.1)) (ByteArray.size a0:Int)
 (qn (aU ((aU (4+r1.2.1))+r1.1)) (ByteArray.size a0:Int)
 (Option.bind (p8.f k (ByteArray.extract a0 (Int.toNat (aU (4+r1.2.1))) (Int.toNat (aU ((aU (4+r1.2.1))+r1.1))))) fun r2 =>
 (bif (!(seq (ByteArray.extract a0 0 (Int.toNat (aU ((aU (4+r1.2.1))+r1.1)))) r2.1)) then
 (some ((⟨#[]⟩:ByteArray),(0,())))
 else
 (some ((ByteArray.extract a0 (Int.toNat (aU (4+r1.2.1))) (Int.toNat (aU ((aU (4+r1.2.1))+r1.1)))),((aU ((aU (4+r1.2.1))+r1.1)),())))))))))))))
def f (k:Nat) (a0:ByteArray):Option (ByteArray × Int × Unit):=t k a0
end ik
namespace gX
abbrev T0:Type:=ByteArray→Int→List (Ty.d cX)→Option ((List (Ty.d cX)) × Int × Unit)
def b0 (k:Nat) (L0:T0) (x0_0:ByteArray) (x0_1:Int) (x0_2:List (Ty.d cX)):Option ((List (Ty.d cX)) × Int × Unit) :=
 (bif (decide (x0_1<(ByteArray.size x0_0:Int))) then
 (qn x0_1 (ByteArray.size x0_0:Int)
 (Option.bind (ik.f k (ByteArray.extract x0_0 (Int.toNat x0_1) (ByteArray.size x0_0))) fun r1 =>
 (Option.bind (iJ.f k r1.1) fun r2 =>
 (bif (r1.2.1==0) then
 (some (x0_2,(x0_1,())))
 else
 (bif (!r2.2.1) then
 (some (x0_2,(x0_1,())))
 else
 (rm (Ty.bytes cX) (List.length x0_2+1)
 (L0 x0_0 (aU (x0_1+r1.2.1)) (x0_2++[(x0_1,(r1.2.1,(r2.1,())))]))))))))
 else
 (some (x0_2,(x0_1,()))))
def l0 (k:Nat):Nat→T0
 | 0=>fun _ _ _=>none
 | n+1=>b0 k (l0 k n)
def t (k:Nat) (L0:T0) (a0:ByteArray):Option ((List (Ty.d cX)) × Int × Unit) :=
 (L0 a0 0 [])
def f (k:Nat) (a0:ByteArray):Option ((List (Ty.d cX)) × Int × Unit):=t k (l0 k k) a0
end gX
end Go.Proofs.YteejjngdagmofaaGreatDoor.G

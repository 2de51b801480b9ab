/- Functions that this seat does not have, as V runs them elsewhere: what is needed of them. -/
import Derived.Test.YtmakghhmpgfboaaGreatDoorFB
import Derived.Test.YtmakghhmpgfboaaGreatDoorVWords
import Derived.Test.YtmakghhmpgfboaaGreatDoorXLib
set_option linter.unusedVariables false
namespace Go.Proofs.YtmakghhmpgfboaaGreatDoor.G
open Go.V
namespace spec_Crc
abbrev Rs:Type:=Option (Int × Unit)
abbrev T1:Type:=ByteArray→Int→Int→Int→Rs
abbrev T0:Type:=ByteArray→Int→Int→Rs
def b1 (k:Nat) (L0:T0) (L1:T1):T1:=fun x1_0 x1_1 x1_2 x1_3 =>
 (bif (decide (x1_3<8)) then
 (bif ((Int.tmod x1_1 2)==1) then
 (L1 x1_0 (w64 (((BitVec.ofInt (IntKind.bits .i64) (w64 (Int.tdiv x1_1 2)) ^^^ BitVec.ofInt (IntKind.bits .i64) 2197175160).toNat:Int))) x1_2 (w64 (x1_3+1)))
 else
 (L1 x1_0 (w64 (Int.tdiv x1_1 2)) x1_2 (w64 (x1_3+1))))
 else
 (L0 x1_0 x1_1 (w64 (x1_2+1))))
def l1 (k:Nat) (L0:T0):Nat→T1
 | 0=>fun _ _ _ _=>none
 | n+1=>b1 k L0 (l1 k L0 n)
def b0 (k:Nat) (L1:T1) (L0:T0):T0:=fun x0_0 x0_1 x0_2 =>
 (bif (decide (x0_2<(ByteArray.size x0_0:Int))) then
 (inb x0_2 (ByteArray.size x0_0:Int)
 (L1 x0_0 (w64 (((BitVec.ofInt (IntKind.bits .i64) x0_1 ^^^ BitVec.ofInt (IntKind.bits .i64) (w64 (byteAt x0_0 x0_2))).toNat:Int))) x0_2 0))
 else
 (some ((w64 (4294967295-x0_1)),())))
def l0 (k:Nat):Nat→T0
 | 0=>fun _ _ _=>none
 | n+1=>b0 k (l1 k (l0 k n) k) (l0 k n)
def t (k:Nat) (L0:T0) (a0:ByteArray):Rs :=
 (L0 a0 4294967295 0)
def f (k:Nat):=t k (l0 k k)
end spec_Crc
namespace spec_Fixed
abbrev Rs:Type:=Option (ByteArray × Unit)
abbrev T0:Type:=Int→Int→ByteArray→Int→Rs
def b0 (k:Nat) (L0:T0):T0:=fun x0_0 x0_1 x0_2 x0_3 =>
 (bif (decide (x0_3<x0_1)) then
 (cat (bytesOf [(IntKind.wrap .u8 (Int.tmod x0_0 256))]) x0_2
 (L0 (w64 (Int.tdiv x0_0 256)) x0_1 ((bytesOf [(IntKind.wrap .u8 (Int.tmod x0_0 256))])++x0_2) (w64 (x0_3+1))))
 else
 (bif (decide (x0_0 > 0)) then
 (some ((⟨#[]⟩:ByteArray),()))
 else
 (some (x0_2,()))))
def l0 (k:Nat):Nat→T0
 | 0=>fun _ _ _ _=>none
 | n+1=>b0 k (l0 k n)
def t (k:Nat) (L0:T0) (a0:Int) (a1:Int):Rs :=
 ((spec_l1In.f k a1 1 7).bind fun r1 =>
 (bif (!r1.1) then
 (some ((⟨#[]⟩:ByteArray),()))
 else
 (bif (decide (a0<0)) then
 (some ((⟨#[]⟩:ByteArray),()))
 else
 (L0 a0 a1 (⟨#[]⟩:ByteArray) 0))))
def f (k:Nat):=t k (l0 k k)
end spec_Fixed
namespace spec_Var
abbrev Rs:Type:=Option (ByteArray × Unit)
abbrev T0:Type:=Int→List Int→Rs
def b0 (k:Nat) (L0:T0):T0:=fun x0_0 x0_1 =>
 (bif (decide (x0_0≥128)) then
 (rm (Ty.bytes (.int .u8)) (List.length x0_1+1)
 (L0 (w64 (Int.tdiv x0_0 128)) (x0_1++[(IntKind.wrap .u8 (w64 (128+(Int.tmod x0_0 128))))])))
 else
 (rm (Ty.bytes (.int .u8)) (List.length x0_1+1)
 (some ((bytesOf (x0_1++[(IntKind.wrap .u8 x0_0)])),()))))
def l0 (k:Nat):Nat→T0
 | 0=>fun _ _=>none
 | n+1=>b0 k (l0 k n)
def t (k:Nat) (L0:T0) (a0:Int):Rs :=
 ((spec_l1In.f k a0 0 562949953421311).bind fun r1 =>
 (bif (!r1.1) then
 (some ((⟨#[]⟩:ByteArray),()))
 else
 (L0 a0 [])))
def f (k:Nat):=t k (l0 k k)
end spec_Var
namespace spec_Frame
abbrev Rs:Type:=Option (ByteArray × Unit)
def t (k:Nat) (a0:ByteArray):Rs :=
 (bif (decide ((ByteArray.size a0:Int) > 200)) then
 (some ((⟨#[]⟩:ByteArray),()))
 else
 ((spec_Var.f k (ByteArray.size a0:Int)).bind fun r1 =>
 (cat r1.1 a0
 ((spec_Crc.f k (r1.1++a0)).bind fun r2 =>
 ((spec_Fixed.f k r2.1 4).bind fun r3 =>
 (cat r3.1 (r1.1++a0)
 (some ((r3.1++(r1.1++a0)),()))))))))
def f (k:Nat):=t k
end spec_Frame
namespace spec_ReadFixed
abbrev Rs:Type:=Option (Int × Bool × Unit)
abbrev T0:Type:=ByteArray→Int→Int→Int→Rs
def b0 (k:Nat) (L0:T0):T0:=fun x0_0 x0_1 x0_2 x0_3 =>
 (bif (decide (x0_3<x0_1)) then
 (inb x0_3 (ByteArray.size x0_0:Int)
 (L0 x0_0 x0_1 (w64 ((w64 (x0_2*256))+(w64 (byteAt x0_0 x0_3)))) (w64 (x0_3+1))))
 else
 (some (x0_2,(true,()))))
def l0 (k:Nat):Nat→T0
 | 0=>fun _ _ _ _=>none
 | n+1=>b0 k (l0 k n)
def t (k:Nat) (L0:T0) (a0:ByteArray) (a1:Int):Rs :=
 ((spec_l1In.f k a1 1 7).bind fun r1 =>
 (bif (!r1.1) then
 (some (0,(false,())))
 else
 (bif (decide ((ByteArray.size a0:Int)<a1)) then
 (some (0,(false,())))
 else
 (L0 a0 a1 0 0))))
def f (k:Nat):=t k (l0 k k)
end spec_ReadFixed
namespace spec_ReadVar
abbrev Rs:Type:=Option (Int × Int × Unit)
abbrev T1:Type:=ByteArray→Int→Int→Int→Rs
abbrev T0:Type:=ByteArray→Int→Rs
def b1 (k:Nat) (L0:T0) (L1:T1):T1:=fun x1_0 x1_1 x1_2 x1_3 =>
 (bif (decide (x1_3≥0)) then
 (inb x1_3 (ByteArray.size x1_0:Int)
 (L1 x1_0 x1_1 (w64 ((w64 (x1_2*128))+(Int.tmod (w64 (byteAt x1_0 x1_3)) 128))) (w64 (x1_3-1))))
 else
 ((spec_Var.f k x1_2).bind fun r1 =>
 (inc x1_1 (ByteArray.size x1_0:Int)
 (bif (seq r1.1 (ByteArray.extract x1_0 0 (Int.toNat x1_1))) then
 (some (x1_2,(x1_1,())))
 else
 (L0 x1_0 (w64 (x1_1+1)))))))
def l1 (k:Nat) (L0:T0):Nat→T1
 | 0=>fun _ _ _ _=>none
 | n+1=>b1 k L0 (l1 k L0 n)
def b0 (k:Nat) (L1:T1) (L0:T0):T0:=fun x0_0 x0_1 =>
 (bif (decide (x0_1≤7)) then
 (bif (decide (x0_1≤(ByteArray.size x0_0:Int))) then
 (L1 x0_0 x0_1 0 (w64 (x0_1-1)))
 else
 (some (0,(0,()))))
 else
 (some (0,(0,()))))
def l0 (k:Nat):Nat→T0
 | 0=>fun _ _=>none
 | n+1=>b0 k (l1 k (l0 k n) k) (l0 k n)
def t (k:Nat) (L0:T0) (a0:ByteArray):Rs :=
 (L0 a0 1)
def f (k:Nat):=t k (l0 k k)
end spec_ReadVar
namespace spec_RecOk
abbrev Rs:Type:=Option (Bool × Unit)
def t (k:Nat) (a0:Ty.den TRec):Rs :=
 ((spec_l1In.f k a0.2.1 0 1000000).bind fun r1 =>
 (bif (!r1.1) then
 (some (false,()))
 else
 (bif (a0.2.1==0) then
 (bif (a0.1 != 5) then
 (some (false,()))
 else
 (bif (a0.1==1) then
 (bif (a0.1==1) then
 ((spec_KeyOk.f k a0.2.2.1).bind fun r2 =>
 (bif r2.1 then
 (bif (decide ((ByteArray.size a0.2.2.2.1:Int)≤24)) then
 (bif (a0.2.2.2.2.1==0) then
 (some ((a0.2.2.2.2.2.1==0),()))
 else
 (some (false,())))
 else
 (some (false,())))
 else
 (some (false,()))))
 else
 (bif (a0.1==2) then
 ((spec_KeyOk.f k a0.2.2.1).bind fun r3 =>
 (bif r3.1 then
 (bif (seq a0.2.2.2.1 (⟨#[]⟩:ByteArray)) then
 (bif (a0.2.2.2.2.1==0) then
 (some ((a0.2.2.2.2.2.1==0),()))
 else
 (some (false,())))
 else
 (some (false,())))
 else
 (some (false,()))))
 else
 (bif (a0.1==3) then
 (bif (seq a0.2.2.1 (⟨#[]⟩:ByteArray)) then
 (bif (seq a0.2.2.2.1 (⟨#[]⟩:ByteArray)) then
 ((spec_l1In.f k a0.2.2.2.2.1 0 8).bind fun r4 =>
 (bif r4.1 then
 ((spec_l1In.f k a0.2.2.2.2.2.1 0 4294967295).bind fun r5 =>
 (some r5))
 else
 (some (false,()))))
 else
 (some (false,())))
 else
 (some (false,())))
 else
 (bif (a0.1==5) then
 (bif (seq a0.2.2.1 (⟨#[]⟩:ByteArray)) then
 (bif (seq a0.2.2.2.1 (⟨#[]⟩:ByteArray)) then
 ((spec_l1In.f k a0.2.2.2.2.1 0 20).bind fun r6 =>
 (bif r6.1 then
 ((spec_l1In.f k a0.2.2.2.2.2.1 0 4294967295).bind fun r7 =>
 (some r7))
 else
 (some (false,()))))
 else
 (some (false,())))
 else
 (some (false,())))
 else
 (some (false,()))))))
 else
 (bif (a0.1==4) then
 ((spec_KeyOk.f k a0.2.2.1).bind fun r8 =>
 (bif r8.1 then
 (bif (decide ((ByteArray.size a0.2.2.2.1:Int)≤24)) then
 (bif (a0.2.2.2.2.1==0) then
 (some ((a0.2.2.2.2.2.1==0),()))
 else
 (some (false,())))
 else
 (some (false,())))
 else
 (some (false,()))))
 else
 (bif (a0.1==2) then
 ((spec_KeyOk.f k a0.2.2.1).bind fun r9 =>
 (bif r9.1 then
 (bif (seq a0.2.2.2.1 (⟨#[]⟩:ByteArray)) then
 (bif (a0.2.2.2.2.1==0) then
 (some ((a0.2.2.2.2.2.1==0),()))
 else
 (some (false,())))
 else
 (some (false,())))
 else
 (some (false,()))))
 else
 (bif (a0.1==3) then
 (bif (seq a0.2.2.1 (⟨#[]⟩:ByteArray)) then
 (bif (seq a0.2.2.2.1 (⟨#[]⟩:ByteArray)) then
 ((spec_l1In.f k a0.2.2.2.2.1 0 8).bind fun r10 =>
 (bif r10.1 then
 ((spec_l1In.f k a0.2.2.2.2.2.1 0 4294967295).bind fun r11 =>
 (some r11))
 else
 (some (false,()))))
 else
 (some (false,())))
 else
 (some (false,())))
 else
 (bif (a0.1==5) then
 (bif (seq a0.2.2.1 (⟨#[]⟩:ByteArray)) then
 (bif (seq a0.2.2.2.1 (⟨#[]⟩:ByteArray)) then
 ((spec_l1In.f k a0.2.2.2.2.1 0 20).bind fun r12 =>
 (bif r12.1 then
 ((spec_l1In.f k a0.2.2.2.2.2.1 0 4294967295).bind fun r13 =>
 (some r13))
 else
 (some (false,()))))
 else
 (some (false,())))
 else
 (some (false,())))
 else
 (some (false,()))))))))
 else
 (bif (a0.1==1) then
 (bif (a0.1==1) then
 ((spec_KeyOk.f k a0.2.2.1).bind fun r14 =>
 (bif r14.1 then
 (bif (decide ((ByteArray.size a0.2.2.2.1:Int)≤24)) then
 (bif (a0.2.2.2.2.1==0) then
 (some ((a0.2.2.2.2.2.1==0),()))
 else
 (some (false,())))
 else
 (some (false,())))
 else
 (some (false,()))))
 else
 (bif (a0.1==2) then
 ((spec_KeyOk.f k a0.2.2.1).bind fun r15 =>
 (bif r15.1 then
 (bif (seq a0.2.2.2.1 (⟨#[]⟩:ByteArray)) then
 (bif (a0.2.2.2.2.1==0) then
 (some ((a0.2.2.2.2.2.1==0),()))
 else
 (some (false,())))
 else
 (some (false,())))
 else
 (some (false,()))))
 else
 (bif (a0.1==3) then
 (bif (seq a0.2.2.1 (⟨#[]⟩:ByteArray)) then
 (bif (seq a0.2.2.2.1 (⟨#[]⟩:ByteArray)) then
 ((spec_l1In.f k a0.2.2.2.2.1 0 8).bind fun r16 =>
 (bif r16.1 then
 ((spec_l1In.f k a0.2.2.2.2.2.1 0 4294967295).bind fun r17 =>
 (some r17))
 else
 (some (false,()))))
 else
 (some (false,())))
 else
 (some (false,())))
 else
 (bif (a0.1==5) then
 (bif (seq a0.2.2.1 (⟨#[]⟩:ByteArray)) then
 (bif (seq a0.2.2.2.1 (⟨#[]⟩:ByteArray)) then
 ((spec_l1In.f k a0.2.2.2.2.1 0 20).bind fun r18 =>
 (bif r18.1 then
 ((spec_l1In.f k a0.2.2.2.2.2.1 0 4294967295).bind fun r19 =>
 (some r19))
 else
 (some (false,()))))
 else
 (some (false,())))
 else
 (some (false,())))
 else
 (some (false,()))))))
 else
 (bif (a0.1==4) then
 ((spec_KeyOk.f k a0.2.2.1).bind fun r20 =>
 (bif r20.1 then
 (bif (decide ((ByteArray.size a0.2.2.2.1:Int)≤24)) then
 (bif (a0.2.2.2.2.1==0) then
 (some ((a0.2.2.2.2.2.1==0),()))
 else
 (some (false,())))
 else
 (some (false,())))
 else
 (some (false,()))))
 else
 (bif (a0.1==2) then
 ((spec_KeyOk.f k a0.2.2.1).bind fun r21 =>
 (bif r21.1 then
 (bif (seq a0.2.2.2.1 (⟨#[]⟩:ByteArray)) then
 (bif (a0.2.2.2.2.1==0) then
 (some ((a0.2.2.2.2.2.1==0),()))
 else
 (some (false,())))
 else
 (some (false,())))
 else
 (some (false,()))))
 else
 (bif (a0.1==3) then
 (bif (seq a0.2.2.1 (⟨#[]⟩:ByteArray)) then
 (bif (seq a0.2.2.2.1 (⟨#[]⟩:ByteArray)) then
 ((spec_l1In.f k a0.2.2.2.2.1 0 8).bind fun r22 =>
 (bif r22.1 then
 ((spec_l1In.f k a0.2.2.2.2.2.1 0 4294967295).bind fun r23 =>
 (some r23))
 else
 (some (false,()))))
 else
 (some (false,())))
 else
 (some (false,())))
 else
 (bif (a0.1==5) then
 (bif (seq a0.2.2.1 (⟨#[]⟩:ByteArray)) then
 (bif (seq a0.2.2.2.1 (⟨#[]⟩:ByteArray)) then
 ((spec_l1In.f k a0.2.2.2.2.1 0 20).bind fun r24 =>
 (bif r24.1 then
 ((spec_l1In.f k a0.2.2.2.2.2.1 0 4294967295).bind fun r25 =>
 (some r25))
 else
 (some (false,()))))
 else
 (some (false,())))
 else
 (some (false,())))
 else
 (some (false,()))))))))))
def f (k:Nat):=t k
end spec_RecOk
namespace spec_ShowRec
abbrev Rs:Type:=Option (ByteArray × Unit)
def t (k:Nat) (a0:Ty.den TRec):Rs :=
 ((spec_RecOk.f k a0).bind fun r1 =>
 (bif (!r1.1) then
 (some ((⟨#[]⟩:ByteArray),()))
 else
 ((spec_Var.f k a0.1).bind fun r2 =>
 ((spec_Var.f k a0.2.1).bind fun r3 =>
 (cat r2.1 r3.1
 (bif (a0.1==1) then
 (bif (a0.1==1) then
 ((spec_Var.f k (ByteArray.size a0.2.2.1:Int)).bind fun r4 =>
 (cat (r2.1++r3.1) r4.1
 (cat ((r2.1++r3.1)++r4.1) a0.2.2.1
 ((spec_Var.f k (ByteArray.size a0.2.2.2.1:Int)).bind fun r5 =>
 (cat (((r2.1++r3.1)++r4.1)++a0.2.2.1) r5.1
 (cat ((((r2.1++r3.1)++r4.1)++a0.2.2.1)++r5.1) a0.2.2.2.1
 (some ((((((r2.1++r3.1)++r4.1)++a0.2.2.1)++r5.1)++a0.2.2.2.1),()))))))))
 else
 (bif (a0.1==2) then
 ((spec_Var.f k (ByteArray.size a0.2.2.1:Int)).bind fun r6 =>
 (cat (r2.1++r3.1) r6.1
 (cat ((r2.1++r3.1)++r6.1) a0.2.2.1
 (some ((((r2.1++r3.1)++r6.1)++a0.2.2.1),())))))
 else
 ((spec_Var.f k a0.2.2.2.2.1).bind fun r7 =>
 (cat (r2.1++r3.1) r7.1
 ((spec_Fixed.f k a0.2.2.2.2.2.1 4).bind fun r8 =>
 (cat ((r2.1++r3.1)++r7.1) r8.1
 (some ((((r2.1++r3.1)++r7.1)++r8.1),()))))))))
 else
 (bif (a0.1==4) then
 ((spec_Var.f k (ByteArray.size a0.2.2.1:Int)).bind fun r9 =>
 (cat (r2.1++r3.1) r9.1
 (cat ((r2.1++r3.1)++r9.1) a0.2.2.1
 ((spec_Var.f k (ByteArray.size a0.2.2.2.1:Int)).bind fun r10 =>
 (cat (((r2.1++r3.1)++r9.1)++a0.2.2.1) r10.1
 (cat ((((r2.1++r3.1)++r9.1)++a0.2.2.1)++r10.1) a0.2.2.2.1
 (some ((((((r2.1++r3.1)++r9.1)++a0.2.2.1)++r10.1)++a0.2.2.2.1),()))))))))
 else
 (bif (a0.1==2) then
 ((spec_Var.f k (ByteArray.size a0.2.2.1:Int)).bind fun r11 =>
 (cat (r2.1++r3.1) r11.1
 (cat ((r2.1++r3.1)++r11.1) a0.2.2.1
 (some ((((r2.1++r3.1)++r11.1)++a0.2.2.1),())))))
 else
 ((spec_Var.f k a0.2.2.2.2.1).bind fun r12 =>
 (cat (r2.1++r3.1) r12.1
 ((spec_Fixed.f k a0.2.2.2.2.2.1 4).bind fun r13 =>
 (cat ((r2.1++r3.1)++r12.1) r13.1
 (some ((((r2.1++r3.1)++r12.1)++r13.1),()))))))))))))))
def f (k:Nat):=t k
end spec_ShowRec
namespace spec_l5Text
abbrev Rs:Type:=Option (ByteArray × ByteArray × Bool × Unit)
def t (k:Nat) (a0:ByteArray):Rs :=
 ((spec_ReadVar.f k a0).bind fun r1 =>
 (bif (r1.2.1==0) then
 (some ((⟨#[]⟩:ByteArray),((⟨#[]⟩:ByteArray),(false,()))))
 else
 (bif (decide (r1.1 > (w64 ((ByteArray.size a0:Int)-r1.2.1)))) then
 (some ((⟨#[]⟩:ByteArray),((⟨#[]⟩:ByteArray),(false,()))))
 else
 (inc2 r1.2.1 (w64 (r1.2.1+r1.1)) (ByteArray.size a0:Int)
 (inc (w64 (r1.2.1+r1.1)) (ByteArray.size a0:Int)
 (some ((ByteArray.extract a0 (Int.toNat r1.2.1) (Int.toNat (w64 (r1.2.1+r1.1)))),((ByteArray.extract a0 (Int.toNat (w64 (r1.2.1+r1.1))) (ByteArray.size a0)),(true,())))))))))
def f (k:Nat):=t k
end spec_l5Text
namespace spec_ReadRec
abbrev Rs:Type:=Option ((Ty.den TRec) × Bool × Unit)
def t (k:Nat) (a0:ByteArray):Rs :=
 ((spec_ReadVar.f k a0).bind fun r1 =>
 (inc r1.2.1 (ByteArray.size a0:Int)
 ((spec_ReadVar.f k (ByteArray.extract a0 (Int.toNat r1.2.1) (ByteArray.size a0))).bind fun r2 =>
 (bif (r1.2.1==0) then
 (some ((0,(0,(ByteArray.empty,(ByteArray.empty,(0,(0,())))))),(false,())))
 else
 (bif (r2.2.1==0) then
 (some ((0,(0,(ByteArray.empty,(ByteArray.empty,(0,(0,())))))),(false,())))
 else
 (inc (w64 (r1.2.1+r2.2.1)) (ByteArray.size a0:Int)
 (bif (r1.1==1) then
 (bif (r1.1==1) then
 ((spec_l5Text.f k (ByteArray.extract a0 (Int.toNat (w64 (r1.2.1+r2.2.1))) (ByteArray.size a0))).bind fun r3 =>
 ((spec_l5Text.f k r3.2.1).bind fun r4 =>
 ((spec_ShowRec.f k (r1.1,(r2.1,(r3.1,(r4.1,(0,(0,()))))))).bind fun r5 =>
 (bif (!(seq r5.1 a0)) then
 (some ((0,(0,(ByteArray.empty,(ByteArray.empty,(0,(0,())))))),(false,())))
 else
 (bif (seq a0 (⟨#[]⟩:ByteArray)) then
 (some ((0,(0,(ByteArray.empty,(ByteArray.empty,(0,(0,())))))),(false,())))
 else
 (some ((r1.1,(r2.1,(r3.1,(r4.1,(0,(0,())))))),(true,()))))))))
 else
 (bif (r1.1==2) then
 ((spec_l5Text.f k (ByteArray.extract a0 (Int.toNat (w64 (r1.2.1+r2.2.1))) (ByteArray.size a0))).bind fun r6 =>
 ((spec_ShowRec.f k (r1.1,(r2.1,(r6.1,(ByteArray.empty,(0,(0,()))))))).bind fun r7 =>
 (bif (!(seq r7.1 a0)) then
 (some ((0,(0,(ByteArray.empty,(ByteArray.empty,(0,(0,())))))),(false,())))
 else
 (bif (seq a0 (⟨#[]⟩:ByteArray)) then
 (some ((0,(0,(ByteArray.empty,(ByteArray.empty,(0,(0,())))))),(false,())))
 else
 (some ((r1.1,(r2.1,(r6.1,(ByteArray.empty,(0,(0,())))))),(true,())))))))
 else
 ((spec_ReadVar.f k (ByteArray.extract a0 (Int.toNat (w64 (r1.2.1+r2.2.1))) (ByteArray.size a0))).bind fun r8 =>
 (inc r8.2.1 (ByteArray.size (ByteArray.extract a0 (Int.toNat (w64 (r1.2.1+r2.2.1))) (ByteArray.size a0)):Int)
 ((spec_ReadFixed.f k (ByteArray.extract (ByteArray.extract a0 (Int.toNat (w64 (r1.2.1+r2.2.1))) (ByteArray.size a0)) (Int.toNat r8.2.1) (ByteArray.size (ByteArray.extract a0 (Int.toNat (w64 (r1.2.1+r2.2.1))) (ByteArray.size a0)))) 4).bind fun r9 =>
 ((spec_ShowRec.f k (r1.1,(r2.1,(ByteArray.empty,(ByteArray.empty,(r8.1,(r9.1,()))))))).bind fun r10 =>
 (bif (!(seq r10.1 a0)) then
 (some ((0,(0,(ByteArray.empty,(ByteArray.empty,(0,(0,())))))),(false,())))
 else
 (bif (seq a0 (⟨#[]⟩:ByteArray)) then
 (some ((0,(0,(ByteArray.empty,(ByteArray.empty,(0,(0,())))))),(false,())))
 else
 (some ((r1.1,(r2.1,(ByteArray.empty,(ByteArray.empty,(r8.1,(r9.1,())))))),(true,())))))))))))
 else
 (bif (r1.1==4) then
 ((spec_l5Text.f k (ByteArray.extract a0 (Int.toNat (w64 (r1.2.1+r2.2.1))) (ByteArray.size a0))).bind fun r11 =>
 ((spec_l5Text.f k r11.2.1).bind fun r12 =>
 ((spec_ShowRec.f k (r1.1,(r2.1,(r11.1,(r12.1,(0,(0,()))))))).bind fun r13 =>
 (bif (!(seq r13.1 a0)) then
 (some ((0,(0,(ByteArray.empty,(ByteArray.empty,(0,(0,())))))),(false,())))
 else
 (bif (seq a0 (⟨#[]⟩:ByteArray)) then
 (some ((0,(0,(ByteArray.empty,(ByteArray.empty,(0,(0,())))))),(false,())))
 else
 (some ((r1.1,(r2.1,(r11.1,(r12.1,(0,(0,())))))),(true,()))))))))
 else
 (bif (r1.1==2) then
 ((spec_l5Text.f k (ByteArray.extract a0 (Int.toNat (w64 (r1.2.1+r2.2.1))) (ByteArray.size a0))).bind fun r14 =>
 ((spec_ShowRec.f k (r1.1,(r2.1,(r14.1,(ByteArray.empty,(0,(0,()))))))).bind fun r15 =>
 (bif (!(seq r15.1 a0)) then
 (some ((0,(0,(ByteArray.empty,(ByteArray.empty,(0,(0,())))))),(false,())))
 else
 (bif (seq a0 (⟨#[]⟩:ByteArray)) then
 (some ((0,(0,(ByteArray.empty,(ByteArray.empty,(0,(0,())))))),(false,())))
 else
 (some ((r1.1,(r2.1,(r14.1,(ByteArray.empty,(0,(0,())))))),(true,())))))))
 else
 ((spec_ReadVar.f k (ByteArray.extract a0 (Int.toNat (w64 (r1.2.1+r2.2.1))) (ByteArray.size a0))).bind fun r16 =>
 (inc r16.2.1 (ByteArray.size (ByteArray.extract a0 (Int.toNat (w64 (r1.2.1+r2.2.1))) (ByteArray.size a0)):Int)
 ((spec_ReadFixed.f k (ByteArray.extract (ByteArray.extract a0 (Int.toNat (w64 (r1.2.1+r2.2.1))) (ByteArray.size a0)) (Int.toNat r16.2.1) (ByteArray.size (ByteArray.extract a0 (Int.toNat (w64 (r1.2.1+r2.2.1))) (ByteArray.size a0)))) 4).bind fun r17 =>
 ((spec_ShowRec.f k (r1.1,(r2.1,(ByteArray.empty,(ByteArray.empty,(r16.1,(r17.1,()))))))).bind fun r18 =>
 (bif (!(seq r18.1 a0)) then
 (some ((0,(0,(ByteArray.empty,(ByteArray.empty,(0,(0,())))))),(false,())))
 else
 (bif (seq a0 (⟨#[]⟩:ByteArray)) then
 (some ((0,(0,(ByteArray.empty,(ByteArray.empty,(0,(0,())))))),(false,())))
 else
 (some ((r1.1,(r2.1,(ByteArray.empty,(ByteArray.empty,(r16.1,(r17.1,())))))),(true,()))))))))))))))))))
def f (k:Nat):=t k
end spec_ReadRec
namespace spec_Unframe
abbrev Rs:Type:=Option (ByteArray × Int × Unit)
def t (k:Nat) (a0:ByteArray):Rs :=
 (bif (decide ((ByteArray.size a0:Int)<5)) then
 (some ((⟨#[]⟩:ByteArray),(0,())))
 else
 (inc 4 (ByteArray.size a0:Int)
 ((spec_ReadVar.f k (ByteArray.extract a0 4 (ByteArray.size a0))).bind fun r1 =>
 (bif (r1.2.1==0) then
 (some ((⟨#[]⟩:ByteArray),(0,())))
 else
 (bif (decide (r1.1 > 200)) then
 (some ((⟨#[]⟩:ByteArray),(0,())))
 else
 (bif (decide (r1.1 > (w64 ((w64 ((ByteArray.size a0:Int)-4))-r1.2.1)))) then
 (some ((⟨#[]⟩:ByteArray),(0,())))
 else
 (inc2 (w64 (4+r1.2.1)) (w64 ((w64 (4+r1.2.1))+r1.1)) (ByteArray.size a0:Int)
 (inc (w64 ((w64 (4+r1.2.1))+r1.1)) (ByteArray.size a0:Int)
 ((spec_Frame.f k (ByteArray.extract a0 (Int.toNat (w64 (4+r1.2.1))) (Int.toNat (w64 ((w64 (4+r1.2.1))+r1.1))))).bind fun r2 =>
 (bif (!(seq (ByteArray.extract a0 0 (Int.toNat (w64 ((w64 (4+r1.2.1))+r1.1)))) r2.1)) then
 (some ((⟨#[]⟩:ByteArray),(0,())))
 else
 (some ((ByteArray.extract a0 (Int.toNat (w64 (4+r1.2.1))) (Int.toNat (w64 ((w64 (4+r1.2.1))+r1.1)))),((w64 ((w64 (4+r1.2.1))+r1.1)),())))))))))))))
def f (k:Nat):=t k
end spec_Unframe
namespace spec_ScanRecs
abbrev Rs:Type:=Option ((List (Ty.den TSpot)) × Int × Unit)
abbrev T0:Type:=ByteArray→Int→List (Ty.den TSpot)→Rs
def b0 (k:Nat) (L0:T0):T0:=fun x0_0 x0_1 x0_2 =>
 (bif (decide (x0_1<(ByteArray.size x0_0:Int))) then
 (inc x0_1 (ByteArray.size x0_0:Int)
 ((spec_Unframe.f k (ByteArray.extract x0_0 (Int.toNat x0_1) (ByteArray.size x0_0))).bind fun r1 =>
 ((spec_ReadRec.f k r1.1).bind fun r2 =>
 (bif (r1.2.1==0) then
 (some (x0_2,(x0_1,())))
 else
 (bif (!r2.2.1) then
 (some (x0_2,(x0_1,())))
 else
 (rm (Ty.bytes TSpot) (List.length x0_2+1)
 (L0 x0_0 (w64 (x0_1+r1.2.1)) (x0_2++[(x0_1,(r1.2.1,(r2.1,())))]))))))))
 else
 (some (x0_2,(x0_1,()))))
def l0 (k:Nat):Nat→T0
 | 0=>fun _ _ _=>none
 | n+1=>b0 k (l0 k n)
def t (k:Nat) (L0:T0) (a0:ByteArray):Rs :=
 (L0 a0 0 [])
def f (k:Nat):=t k (l0 k k)
end spec_ScanRecs
end Go.Proofs.YtmakghhmpgfboaaGreatDoor.G

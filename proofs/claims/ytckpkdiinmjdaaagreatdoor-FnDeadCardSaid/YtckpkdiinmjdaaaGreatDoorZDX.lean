/- Functions that this seat does not have, as V runs them elsewhere: what is needed of them. -/
import Derived.Test.YtckpkdiinmjdaaaGreatDoorFD
import Derived.Test.YtckpkdiinmjdaaaGreatDoorVWords
import Derived.Test.YtckpkdiinmjdaaaGreatDoorXLib
set_option linter.unusedVariables false
namespace Go.Proofs.YtckpkdiinmjdaaaGreatDoor.G
open Go.V
abbrev Tscanner:Ty := .pair .str (.pair .bool .unit)
namespace impl_Crc
abbrev Rs:Type:=Option (Int × Unit)
abbrev T1:Type:=ByteArray→Int→Int→Int→Rs
abbrev T0:Type:=ByteArray→Int→Int→Rs
def b1 (k:Nat) (L0:T0) (L1:T1):T1:=fun x1_0 x1_1 x1_2 x1_3 =>
 (bif (decide (x1_3<8)) then
 (bif ((IntKind.wrap .u32 (((BitVec.ofInt (IntKind.bits .u32) x1_1 &&& BitVec.ofInt (IntKind.bits .u32) 1).toNat:Int)))==1) then
 (L1 x1_0 (IntKind.wrap .u32 (((BitVec.ofInt (IntKind.bits .u32) (Int.fdiv x1_1 (2 ^ (Int.toNat 1))) ^^^ BitVec.ofInt (IntKind.bits .u32) 2197175160).toNat:Int))) x1_2 (w64 (x1_3+1)))
 else
 (L1 x1_0 (Int.fdiv x1_1 (2 ^ (Int.toNat 1))) x1_2 (w64 (x1_3+1))))
 else
 (L0 x1_0 x1_1 (w64 (x1_2+1))))
def l1 (k:Nat) (L0:T0):Nat→T1
 | 0=>fun _ _ _ _=>none
 | n+1=>b1 k L0 (l1 k L0 n)
def b0 (k:Nat) (L1:T1) (L0:T0):T0:=fun x0_0 x0_1 x0_2 =>
 (bif (decide (x0_2<(ByteArray.size x0_0:Int))) then
 (inb x0_2 (ByteArray.size x0_0:Int)
 (L1 x0_0 (IntKind.wrap .u32 (((BitVec.ofInt (IntKind.bits .u32) x0_1 ^^^ BitVec.ofInt (IntKind.bits .u32) (IntKind.wrap .u32 (byteAt x0_0 x0_2))).toNat:Int))) x0_2 0))
 else
 (some ((w64 (bitNot .u32 x0_1)),())))
def l0 (k:Nat):Nat→T0
 | 0=>fun _ _ _=>none
 | n+1=>b0 k (l1 k (l0 k n) k) (l0 k n)
def t (k:Nat) (L0:T0) (a0:ByteArray):Rs :=
 (L0 a0 4294967295 0)
def f (k:Nat):=t k (l0 k k)
end impl_Crc
namespace impl_Fixed
abbrev Rs:Type:=Option (ByteArray × Unit)
abbrev T0:Type:=Int→Int→List Int→Rs
def b0 (k:Nat) (L0:T0):T0:=fun x0_0 x0_1 x0_2 =>
 (bif (decide (x0_1≥0)) then
 (bif (decide ((w64 (8*x0_1))<0)) then none else
 (rm (Ty.bytes (.int .u8)) (List.length x0_2+1)
 (L0 x0_0 (w64 (x0_1-1)) (x0_2++[(IntKind.wrap .u8 (Int.fdiv x0_0 (2 ^ (min (Int.toNat (w64 (8*x0_1))) (IntKind.bits .i64)))))]))))
 else
 (some ((bytesOf x0_2),())))
def l0 (k:Nat):Nat→T0
 | 0=>fun _ _ _=>none
 | n+1=>b0 k (l0 k n)
def t (k:Nat) (L0:T0) (a0:Int) (a1:Int):Rs :=
 ((impl_in.f k a1 1 7).bind fun r1 =>
 (bif (!r1.1) then
 (some ((⟨#[]⟩:ByteArray),()))
 else
 (bif (decide ((w64 (8*a1))<0)) then none else
 ((impl_in.f k a0 0 (w64 ((w64 (1*2 ^ (min (Int.toNat (w64 (8*a1))) (IntKind.bits .i64))))-1))).bind fun r2 =>
 (bif (!r2.1) then
 (some ((⟨#[]⟩:ByteArray),()))
 else
 (L0 a0 (w64 (a1-1)) []))))))
def f (k:Nat):=t k (l0 k k)
end impl_Fixed
namespace impl_Var
abbrev Rs:Type:=Option (ByteArray × Unit)
abbrev T0:Type:=Int→List Int→Rs
def b0 (k:Nat) (L0:T0):T0:=fun x0_0 x0_1 =>
 (bif (decide (x0_0 > 127)) then
 (rm (Ty.bytes (.int .u8)) (List.length x0_1+1)
 (L0 (w64 (Int.tdiv x0_0 128)) (x0_1++[(IntKind.wrap .u8 (w64 ((Int.tmod x0_0 128)+128)))])))
 else
 (rm (Ty.bytes (.int .u8)) (List.length x0_1+1)
 (some ((bytesOf (x0_1++[(IntKind.wrap .u8 x0_0)])),()))))
def l0 (k:Nat):Nat→T0
 | 0=>fun _ _=>none
 | n+1=>b0 k (l0 k n)
def t (k:Nat) (L0:T0) (a0:Int):Rs :=
 ((impl_in.f k a0 0 562949953421311).bind fun r1 =>
 (bif (!r1.1) then
 (some ((⟨#[]⟩:ByteArray),()))
 else
 (L0 a0 [])))
def f (k:Nat):=t k (l0 k k)
end impl_Var
namespace impl_textOf
abbrev Rs:Type:=Option (ByteArray × Unit)
def t (k:Nat) (a0:ByteArray):Rs :=
 ((impl_Var.f k (ByteArray.size a0:Int)).bind fun r1 =>
 (cat r1.1 a0
 (some ((r1.1++a0),()))))
def f (k:Nat):=t k
end impl_textOf
namespace impl_Frame
abbrev Rs:Type:=Option (ByteArray × Unit)
def t (k:Nat) (a0:ByteArray):Rs :=
 (bif (decide ((ByteArray.size a0:Int) > 200)) then
 (some ((⟨#[]⟩:ByteArray),()))
 else
 ((impl_textOf.f k a0).bind fun r1 =>
 ((impl_Crc.f k r1.1).bind fun r2 =>
 ((impl_Fixed.f k r2.1 4).bind fun r3 =>
 (cat r3.1 r1.1
 (some ((r3.1++r1.1),())))))))
def f (k:Nat):=t k
end impl_Frame
namespace impl_KeyOk
abbrev Rs:Type:=Option (Bool × Unit)
def t (k:Nat) (a0:ByteArray):Rs :=
 ((impl_in.f k (ByteArray.size a0:Int) 1 8).bind fun r1 =>
 (some r1))
def f (k:Nat):=t k
end impl_KeyOk
namespace impl_ReadFixed
abbrev Rs:Type:=Option (Int × Bool × Unit)
abbrev T0:Type:=ByteArray→Int→Int→Int→Rs
def b0 (k:Nat) (L0:T0):T0:=fun x0_0 x0_1 x0_2 x0_3 =>
 (bif (decide (x0_3<x0_2)) then
 (inb x0_3 (ByteArray.size x0_0:Int)
 (L0 x0_0 (w64 (((BitVec.ofInt (IntKind.bits .i64) (w64 (x0_1*2 ^ (min (Int.toNat 8) (IntKind.bits .i64)))) ||| BitVec.ofInt (IntKind.bits .i64) (w64 (byteAt x0_0 x0_3))).toNat:Int))) x0_2 (w64 (x0_3+1))))
 else
 (some (x0_1,(true,()))))
def l0 (k:Nat):Nat→T0
 | 0=>fun _ _ _ _=>none
 | n+1=>b0 k (l0 k n)
def t (k:Nat) (L0:T0) (a0:ByteArray) (a1:Int):Rs :=
 ((impl_in.f k a1 1 7).bind fun r1 =>
 (bif (!r1.1) then
 (some (0,(false,())))
 else
 (bif (decide ((ByteArray.size a0:Int)<a1)) then
 (some (0,(false,())))
 else
 (L0 a0 0 a1 0))))
def f (k:Nat):=t k (l0 k k)
end impl_ReadFixed
namespace impl_RecOk
abbrev Rs:Type:=Option (Bool × Unit)
def t (k:Nat) (a0:Ty.den TRec):Rs :=
 (bif (a0.1==1) then
 (bif (a0.1==1) then
 ((impl_KeyOk.f k a0.2.2.1).bind fun r1 =>
 (bif r1.1 then
 (bif (decide ((ByteArray.size a0.2.2.2.1:Int)≤24)) then
 ((impl_in.f k a0.2.1 1 1000000).bind fun r2 =>
 (bif r2.1 then
 (some (((a0.1==a0.1)&&((a0.2.1==a0.2.1)&&((seq a0.2.2.1 a0.2.2.1)&&((seq a0.2.2.2.1 a0.2.2.2.1)&&((a0.2.2.2.2.1==0)&&(a0.2.2.2.2.2.1==0)))))),()))
 else
 (some (false,()))))
 else
 (some (false,())))
 else
 (some (false,()))))
 else
 (bif (a0.1==2) then
 ((impl_KeyOk.f k a0.2.2.1).bind fun r3 =>
 (bif r3.1 then
 ((impl_in.f k a0.2.1 1 1000000).bind fun r4 =>
 (bif r4.1 then
 (some (((a0.1==a0.1)&&((a0.2.1==a0.2.1)&&((seq a0.2.2.1 a0.2.2.1)&&((seq a0.2.2.2.1 ByteArray.empty)&&((a0.2.2.2.2.1==0)&&(a0.2.2.2.2.2.1==0)))))),()))
 else
 (some (false,()))))
 else
 (some (false,()))))
 else
 (bif (a0.1==3) then
 ((impl_in.f k a0.2.2.2.2.1 0 8).bind fun r5 =>
 (bif r5.1 then
 ((impl_in.f k a0.2.2.2.2.2.1 0 4294967295).bind fun r6 =>
 (bif r6.1 then
 ((impl_in.f k a0.2.1 1 1000000).bind fun r7 =>
 (bif r7.1 then
 (some (((a0.1==a0.1)&&((a0.2.1==a0.2.1)&&((seq a0.2.2.1 ByteArray.empty)&&((seq a0.2.2.2.1 ByteArray.empty)&&((a0.2.2.2.2.1==a0.2.2.2.2.1)&&(a0.2.2.2.2.2.1==a0.2.2.2.2.2.1)))))),()))
 else
 (some (false,()))))
 else
 (some (false,()))))
 else
 (some (false,()))))
 else
 (bif (a0.1==5) then
 ((impl_in.f k a0.2.2.2.2.1 0 20).bind fun r8 =>
 (bif r8.1 then
 ((impl_in.f k a0.2.2.2.2.2.1 0 4294967295).bind fun r9 =>
 (bif r9.1 then
 ((impl_in.f k a0.2.1 0 1000000).bind fun r10 =>
 (bif r10.1 then
 (some (((a0.1==a0.1)&&((a0.2.1==a0.2.1)&&((seq a0.2.2.1 ByteArray.empty)&&((seq a0.2.2.2.1 ByteArray.empty)&&((a0.2.2.2.2.1==a0.2.2.2.2.1)&&(a0.2.2.2.2.2.1==a0.2.2.2.2.2.1)))))),()))
 else
 (some (false,()))))
 else
 (some (false,()))))
 else
 (some (false,()))))
 else
 (some (false,()))))))
 else
 (bif (a0.1==4) then
 ((impl_KeyOk.f k a0.2.2.1).bind fun r11 =>
 (bif r11.1 then
 (bif (decide ((ByteArray.size a0.2.2.2.1:Int)≤24)) then
 ((impl_in.f k a0.2.1 1 1000000).bind fun r12 =>
 (bif r12.1 then
 (some (((a0.1==a0.1)&&((a0.2.1==a0.2.1)&&((seq a0.2.2.1 a0.2.2.1)&&((seq a0.2.2.2.1 a0.2.2.2.1)&&((a0.2.2.2.2.1==0)&&(a0.2.2.2.2.2.1==0)))))),()))
 else
 (some (false,()))))
 else
 (some (false,())))
 else
 (some (false,()))))
 else
 (bif (a0.1==2) then
 ((impl_KeyOk.f k a0.2.2.1).bind fun r13 =>
 (bif r13.1 then
 ((impl_in.f k a0.2.1 1 1000000).bind fun r14 =>
 (bif r14.1 then
 (some (((a0.1==a0.1)&&((a0.2.1==a0.2.1)&&((seq a0.2.2.1 a0.2.2.1)&&((seq a0.2.2.2.1 ByteArray.empty)&&((a0.2.2.2.2.1==0)&&(a0.2.2.2.2.2.1==0)))))),()))
 else
 (some (false,()))))
 else
 (some (false,()))))
 else
 (bif (a0.1==3) then
 ((impl_in.f k a0.2.2.2.2.1 0 8).bind fun r15 =>
 (bif r15.1 then
 ((impl_in.f k a0.2.2.2.2.2.1 0 4294967295).bind fun r16 =>
 (bif r16.1 then
 ((impl_in.f k a0.2.1 1 1000000).bind fun r17 =>
 (bif r17.1 then
 (some (((a0.1==a0.1)&&((a0.2.1==a0.2.1)&&((seq a0.2.2.1 ByteArray.empty)&&((seq a0.2.2.2.1 ByteArray.empty)&&((a0.2.2.2.2.1==a0.2.2.2.2.1)&&(a0.2.2.2.2.2.1==a0.2.2.2.2.2.1)))))),()))
 else
 (some (false,()))))
 else
 (some (false,()))))
 else
 (some (false,()))))
 else
 (bif (a0.1==5) then
 ((impl_in.f k a0.2.2.2.2.1 0 20).bind fun r18 =>
 (bif r18.1 then
 ((impl_in.f k a0.2.2.2.2.2.1 0 4294967295).bind fun r19 =>
 (bif r19.1 then
 ((impl_in.f k a0.2.1 0 1000000).bind fun r20 =>
 (bif r20.1 then
 (some (((a0.1==a0.1)&&((a0.2.1==a0.2.1)&&((seq a0.2.2.1 ByteArray.empty)&&((seq a0.2.2.2.1 ByteArray.empty)&&((a0.2.2.2.2.1==a0.2.2.2.2.1)&&(a0.2.2.2.2.2.1==a0.2.2.2.2.2.1)))))),()))
 else
 (some (false,()))))
 else
 (some (false,()))))
 else
 (some (false,()))))
 else
 (some (false,())))))))
def f (k:Nat):=t k
end impl_RecOk
namespace impl_scanner__bytes
abbrev Rs:Type:=Option ((Ty.den Tscanner) × ByteArray × Unit)
def t (k:Nat) (a0:Ty.den Tscanner) (a1:Int):Rs :=
 (bif a0.2.1 then
 (some ((a0.1,(true,())),((⟨#[]⟩:ByteArray),())))
 else
 (bif (decide (a1 > (ByteArray.size a0.1:Int))) then
 (some ((a0.1,(true,())),((⟨#[]⟩:ByteArray),())))
 else
 (inc a1 (ByteArray.size a0.1:Int)
 (inc a1 (ByteArray.size a0.1:Int)
 (some (((ByteArray.extract a0.1 (Int.toNat a1) (ByteArray.size a0.1)),a0.2),((ByteArray.extract a0.1 0 (Int.toNat a1)),())))))))
def f (k:Nat):=t k
end impl_scanner__bytes
namespace impl_ReadVar
abbrev Rs:Type:=Option (Int × Int × Unit)
abbrev T0:Type:=ByteArray→Int→Int→Rs
def b0 (k:Nat) (L0:T0):T0:=fun x0_0 x0_1 x0_2 =>
 (bif (decide (x0_2<7)) then
 (bif (decide (x0_2<(ByteArray.size x0_0:Int))) then
 (inb x0_2 (ByteArray.size x0_0:Int)
 (bif (decide ((w64 (7*x0_2))<0)) then none else
 (bif (decide ((w64 (byteAt x0_0 x0_2))≥128)) then
 (L0 x0_0 (w64 (x0_1+(w64 ((Int.tmod (w64 (byteAt x0_0 x0_2)) 128)*2 ^ (min (Int.toNat (w64 (7*x0_2))) (IntKind.bits .i64)))))) (w64 (x0_2+1)))
 else
 (bif ((w64 (byteAt x0_0 x0_2))==0) then
 (bif (decide (x0_2 > 0)) then
 (some (0,(0,())))
 else
 (some ((w64 (x0_1+(w64 ((Int.tmod (w64 (byteAt x0_0 x0_2)) 128)*2 ^ (min (Int.toNat (w64 (7*x0_2))) (IntKind.bits .i64)))))),((w64 (x0_2+1)),()))))
 else
 (some ((w64 (x0_1+(w64 ((Int.tmod (w64 (byteAt x0_0 x0_2)) 128)*2 ^ (min (Int.toNat (w64 (7*x0_2))) (IntKind.bits .i64)))))),((w64 (x0_2+1)),())))))))
 else
 (some (0,(0,()))))
 else
 (some (0,(0,()))))
def l0 (k:Nat):Nat→T0
 | 0=>fun _ _ _=>none
 | n+1=>b0 k (l0 k n)
def t (k:Nat) (L0:T0) (a0:ByteArray):Rs :=
 (L0 a0 0 0)
def f (k:Nat):=t k (l0 k k)
end impl_ReadVar
namespace impl_scanner__num
abbrev Rs:Type:=Option ((Ty.den Tscanner) × Int × Unit)
def t (k:Nat) (a0:Ty.den Tscanner):Rs :=
 ((impl_ReadVar.f k a0.1).bind fun r1 =>
 (bif a0.2.1 then
 (some ((a0.1,(true,())),(0,())))
 else
 (bif (r1.2.1==0) then
 (some ((a0.1,(true,())),(0,())))
 else
 (inc r1.2.1 (ByteArray.size a0.1:Int)
 (some (((ByteArray.extract a0.1 (Int.toNat r1.2.1) (ByteArray.size a0.1)),a0.2),(r1.1,())))))))
def f (k:Nat):=t k
end impl_scanner__num
namespace impl_scanner__text
abbrev Rs:Type:=Option ((Ty.den Tscanner) × ByteArray × Unit)
def t (k:Nat) (a0:Ty.den Tscanner):Rs :=
 ((impl_scanner__num.f k a0).bind fun r1 =>
 ((impl_scanner__bytes.f k r1.1 r1.2.1).bind fun r2 =>
 (some r2)))
def f (k:Nat):=t k
end impl_scanner__text
namespace impl_ReadRec
abbrev Rs:Type:=Option ((Ty.den TRec) × Bool × Unit)
def t (k:Nat) (a0:ByteArray):Rs :=
 ((impl_scanner__num.f k (a0,(false,()))).bind fun r1 =>
 ((impl_scanner__num.f k r1.1).bind fun r2 =>
 (bif (r1.2.1==1) then
 (bif (r1.2.1==1) then
 ((impl_scanner__text.f k r2.1).bind fun r3 =>
 ((impl_scanner__text.f k r3.1).bind fun r4 =>
 (bif r4.1.2.1 then
 (some ((0,(0,(ByteArray.empty,(ByteArray.empty,(0,(0,())))))),(false,())))
 else
 (bif (!(seq r4.1.1 (⟨#[]⟩:ByteArray))) then
 (some ((0,(0,(ByteArray.empty,(ByteArray.empty,(0,(0,())))))),(false,())))
 else
 ((impl_RecOk.f k (r1.2.1,(r2.2.1,(r3.2.1,(r4.2.1,(0,(0,()))))))).bind fun r5 =>
 (bif (!r5.1) then
 (some ((0,(0,(ByteArray.empty,(ByteArray.empty,(0,(0,())))))),(false,())))
 else
 (some ((r1.2.1,(r2.2.1,(r3.2.1,(r4.2.1,(0,(0,())))))),(true,())))))))))
 else
 (bif (r1.2.1==2) then
 ((impl_scanner__text.f k r2.1).bind fun r6 =>
 (bif r6.1.2.1 then
 (some ((0,(0,(ByteArray.empty,(ByteArray.empty,(0,(0,())))))),(false,())))
 else
 (bif (!(seq r6.1.1 (⟨#[]⟩:ByteArray))) then
 (some ((0,(0,(ByteArray.empty,(ByteArray.empty,(0,(0,())))))),(false,())))
 else
 ((impl_RecOk.f k (r1.2.1,(r2.2.1,(r6.2.1,(ByteArray.empty,(0,(0,()))))))).bind fun r7 =>
 (bif (!r7.1) then
 (some ((0,(0,(ByteArray.empty,(ByteArray.empty,(0,(0,())))))),(false,())))
 else
 (some ((r1.2.1,(r2.2.1,(r6.2.1,(ByteArray.empty,(0,(0,())))))),(true,()))))))))
 else
 ((impl_scanner__num.f k r2.1).bind fun r8 =>
 ((impl_scanner__bytes.f k r8.1 4).bind fun r9 =>
 ((impl_ReadFixed.f k r9.2.1 4).bind fun r10 =>
 (bif r9.1.2.1 then
 (some ((0,(0,(ByteArray.empty,(ByteArray.empty,(0,(0,())))))),(false,())))
 else
 (bif (!(seq r9.1.1 (⟨#[]⟩:ByteArray))) then
 (some ((0,(0,(ByteArray.empty,(ByteArray.empty,(0,(0,())))))),(false,())))
 else
 ((impl_RecOk.f k (r1.2.1,(r2.2.1,(ByteArray.empty,(ByteArray.empty,(r8.2.1,(r10.1,()))))))).bind fun r11 =>
 (bif (!r11.1) then
 (some ((0,(0,(ByteArray.empty,(ByteArray.empty,(0,(0,())))))),(false,())))
 else
 (some ((r1.2.1,(r2.2.1,(ByteArray.empty,(ByteArray.empty,(r8.2.1,(r10.1,())))))),(true,()))))))))))))
 else
 (bif (r1.2.1==4) then
 ((impl_scanner__text.f k r2.1).bind fun r12 =>
 ((impl_scanner__text.f k r12.1).bind fun r13 =>
 (bif r13.1.2.1 then
 (some ((0,(0,(ByteArray.empty,(ByteArray.empty,(0,(0,())))))),(false,())))
 else
 (bif (!(seq r13.1.1 (⟨#[]⟩:ByteArray))) then
 (some ((0,(0,(ByteArray.empty,(ByteArray.empty,(0,(0,())))))),(false,())))
 else
 ((impl_RecOk.f k (r1.2.1,(r2.2.1,(r12.2.1,(r13.2.1,(0,(0,()))))))).bind fun r14 =>
 (bif (!r14.1) then
 (some ((0,(0,(ByteArray.empty,(ByteArray.empty,(0,(0,())))))),(false,())))
 else
 (some ((r1.2.1,(r2.2.1,(r12.2.1,(r13.2.1,(0,(0,())))))),(true,())))))))))
 else
 (bif (r1.2.1==2) then
 ((impl_scanner__text.f k r2.1).bind fun r15 =>
 (bif r15.1.2.1 then
 (some ((0,(0,(ByteArray.empty,(ByteArray.empty,(0,(0,())))))),(false,())))
 else
 (bif (!(seq r15.1.1 (⟨#[]⟩:ByteArray))) then
 (some ((0,(0,(ByteArray.empty,(ByteArray.empty,(0,(0,())))))),(false,())))
 else
 ((impl_RecOk.f k (r1.2.1,(r2.2.1,(r15.2.1,(ByteArray.empty,(0,(0,()))))))).bind fun r16 =>
 (bif (!r16.1) then
 (some ((0,(0,(ByteArray.empty,(ByteArray.empty,(0,(0,())))))),(false,())))
 else
 (some ((r1.2.1,(r2.2.1,(r15.2.1,(ByteArray.empty,(0,(0,())))))),(true,()))))))))
 else
 ((impl_scanner__num.f k r2.1).bind fun r17 =>
 ((impl_scanner__bytes.f k r17.1 4).bind fun r18 =>
 ((impl_ReadFixed.f k r18.2.1 4).bind fun r19 =>
 (bif r18.1.2.1 then
 (some ((0,(0,(ByteArray.empty,(ByteArray.empty,(0,(0,())))))),(false,())))
 else
 (bif (!(seq r18.1.1 (⟨#[]⟩:ByteArray))) then
 (some ((0,(0,(ByteArray.empty,(ByteArray.empty,(0,(0,())))))),(false,())))
 else
 ((impl_RecOk.f k (r1.2.1,(r2.2.1,(ByteArray.empty,(ByteArray.empty,(r17.2.1,(r19.1,()))))))).bind fun r20 =>
 (bif (!r20.1) then
 (some ((0,(0,(ByteArray.empty,(ByteArray.empty,(0,(0,())))))),(false,())))
 else
 (some ((r1.2.1,(r2.2.1,(ByteArray.empty,(ByteArray.empty,(r17.2.1,(r19.1,())))))),(true,())))))))))))))))
def f (k:Nat):=t k
end impl_ReadRec
namespace impl_Unframe
abbrev Rs:Type:=Option (ByteArray × Int × Unit)
def t (k:Nat) (a0:ByteArray):Rs :=
 (bif (decide ((ByteArray.size a0:Int)<4)) then
 (some ((⟨#[]⟩:ByteArray),(0,())))
 else
 (inc 4 (ByteArray.size a0:Int)
 ((impl_ReadVar.f k (ByteArray.extract a0 4 (ByteArray.size a0))).bind fun r1 =>
 (bif (r1.2.1==0) then
 (some ((⟨#[]⟩:ByteArray),(0,())))
 else
 (bif (decide (r1.1 > 200)) then
 (some ((⟨#[]⟩:ByteArray),(0,())))
 else
 (bif (decide (r1.1 > (w64 ((w64 ((ByteArray.size a0:Int)-4))-r1.2.1)))) then
 (some ((⟨#[]⟩:ByteArray),(0,())))
 else
 (inc2 (w64 (4+r1.2.1)) (w64 ((w64 (4+r1.2.1))+r1.1)) (ByteArray.size a0:Int)
 ((impl_Frame.f k (ByteArray.extract a0 (Int.toNat (w64 (4+r1.2.1))) (Int.toNat (w64 ((w64 (4+r1.2.1))+r1.1))))).bind fun r2 =>
 (inc (w64 ((w64 (4+r1.2.1))+r1.1)) (ByteArray.size a0:Int)
 (bif (!(seq r2.1 (ByteArray.extract a0 0 (Int.toNat (w64 ((w64 (4+r1.2.1))+r1.1)))))) then
 (some ((⟨#[]⟩:ByteArray),(0,())))
 else
 (some ((ByteArray.extract a0 (Int.toNat (w64 (4+r1.2.1))) (Int.toNat (w64 ((w64 (4+r1.2.1))+r1.1)))),((w64 ((w64 (4+r1.2.1))+r1.1)),())))))))))))))
def f (k:Nat):=t k
end impl_Unframe
namespace impl_ScanRecs
abbrev Rs:Type:=Option ((List (Ty.den TSpot)) × Int × Unit)
abbrev T0:Type:=ByteArray→Int→List (Ty.den TSpot)→Rs
def b0 (k:Nat) (L0:T0):T0:=fun x0_0 x0_1 x0_2 =>
 (inc x0_1 (ByteArray.size x0_0:Int)
 ((impl_Unframe.f k (ByteArray.extract x0_0 (Int.toNat x0_1) (ByteArray.size x0_0))).bind fun r1 =>
 ((impl_ReadRec.f k r1.1).bind fun r2 =>
 (bif (r1.2.1==0) then
 (some (x0_2,(x0_1,())))
 else
 (bif (!r2.2.1) then
 (some (x0_2,(x0_1,())))
 else
 (rm (Ty.bytes TSpot) (List.length x0_2+1)
 (L0 x0_0 (w64 (x0_1+r1.2.1)) (x0_2++[(x0_1,(r1.2.1,(r2.1,())))]))))))))
def l0 (k:Nat):Nat→T0
 | 0=>fun _ _ _=>none
 | n+1=>b0 k (l0 k n)
def t (k:Nat) (L0:T0) (a0:ByteArray):Rs :=
 (L0 a0 0 [])
def f (k:Nat):=t k (l0 k k)
end impl_ScanRecs
end Go.Proofs.YtckpkdiinmjdaaaGreatDoor.G

/- Functions, as V runs them. -/
import Derived.Test.YtiigjojchlplpaaVWords
set_option linter.unusedVariables false
namespace Go.Proofs.Ytiigjojchlplpaa.G
open Go.V
abbrev TEntry : Ty := .pair .str (.pair (.int .i64) (.pair (.int .i64) (.pair (.int .i64) (.pair (.int .i64) .unit))))
abbrev TGroup : Ty := .pair (.slice TEntry) (.pair (.int .i64) (.pair (.int .i64) .unit))
abbrev TRec : Ty := .pair (.int .i64) (.pair (.int .i64) (.pair .str (.pair .str (.pair (.int .i64) (.pair (.int .i64) .unit)))))
abbrev TPlace : Ty := .pair (.int .i64) (.pair (.int .i64) (.pair (.int .i64) (.pair TRec .unit)))
abbrev Tl1Cur : Ty := .pair (.slice (.int .u8)) (.pair (.int .i64) (.pair (.int .i64) .unit))
namespace laws_big
def t (k : Nat) (a0 : List Int) : Option (Bool × Unit) :=
  (some ((decide ((List.length a0 : Int) > 1048576)), ()))
def f (k : Nat) (a0 : List Int) : Option (Bool × Unit) := t k a0
end laws_big
namespace spec_l1New
abbrev T0 : Type := List Int → Int → Int → Option (Unit × (Ty.den Tl1Cur) × Unit)
def b0 (k : Nat) (L0 : T0) (x0_0 : List Int) (x0_1 : Int) (x0_2 : Int) : Option (Unit × (Ty.den Tl1Cur) × Unit) :=
  (bif (decide (x0_2 < (List.length x0_0 : Int))) then
  (bif (decide (x0_2 < 4000)) then
  (inb x0_2 (List.length x0_0 : Int)
  (L0 x0_0 (w64 (((BitVec.ofInt (IntKind.bits .i64) (w64 ((w64 ((w64 (x0_1 * 131)) + (w64 (List.getD x0_0 (Int.toNat x0_2) (Ty.dflt (.int .u8)))))) + 7)) &&& BitVec.ofInt (IntKind.bits .i64) 1073741823).toNat : Int))) (w64 (x0_2 + 1))))
  else
  (some ((), ((x0_0, (0, (x0_1, ()))), ()))))
  else
  (some ((), ((x0_0, (0, (x0_1, ()))), ()))))
def l0 (k : Nat) : Nat → T0
  | 0 => fun _ _ _ => none
  | n + 1 => b0 k (l0 k n)
def t (k : Nat) (L0 : T0) (a0 : List Int) : Option (Unit × (Ty.den Tl1Cur) × Unit) :=
  (L0 a0 (w64 (10101 + (List.length a0 : Int))) 0)
def f (k : Nat) (a0 : List Int) : Option (Unit × (Ty.den Tl1Cur) × Unit) := t k (l0 k k) a0
end spec_l1New
namespace spec_l1Byte
def t (k : Nat) (a0 : Ty.den Tl1Cur) : Option ((Ty.den Tl1Cur) × Int × Unit) :=
  (bif (decide (a0.2.1 < (List.length a0.1 : Int))) then
  (inb a0.2.1 (List.length a0.1 : Int)
  (some ((a0.1, ((w64 (a0.2.1 + 1)), ((w64 ((w64 (a0.2.2.1 * 6364136223846793005)) + 1442695040888963407)), ()))), ((w64 (((BitVec.ofInt (IntKind.bits .i64) (w64 ((w64 (((BitVec.ofInt (IntKind.bits .i64) (w64 (((BitVec.ofInt (IntKind.bits .i64) (Int.fdiv (w64 ((w64 (a0.2.2.1 * 6364136223846793005)) + 1442695040888963407)) (2 ^ (Int.toNat 33))) ^^^ BitVec.ofInt (IntKind.bits .i64) (Int.fdiv (w64 ((w64 (a0.2.2.1 * 6364136223846793005)) + 1442695040888963407)) (2 ^ (Int.toNat 45)))).toNat : Int))) &&& BitVec.ofInt (IntKind.bits .i64) 255).toNat : Int))) + (w64 (List.getD a0.1 (Int.toNat a0.2.1) (Ty.dflt (.int .u8)))))) &&& BitVec.ofInt (IntKind.bits .i64) 255).toNat : Int))), ()))))
  else
  (some ((a0.1, (a0.2.1, ((w64 ((w64 (a0.2.2.1 * 6364136223846793005)) + 1442695040888963407)), ()))), ((w64 (((BitVec.ofInt (IntKind.bits .i64) (w64 (((BitVec.ofInt (IntKind.bits .i64) (Int.fdiv (w64 ((w64 (a0.2.2.1 * 6364136223846793005)) + 1442695040888963407)) (2 ^ (Int.toNat 33))) ^^^ BitVec.ofInt (IntKind.bits .i64) (Int.fdiv (w64 ((w64 (a0.2.2.1 * 6364136223846793005)) + 1442695040888963407)) (2 ^ (Int.toNat 45)))).toNat : Int))) &&& BitVec.ofInt (IntKind.bits .i64) 255).toNat : Int))), ()))))
def f (k : Nat) (a0 : Ty.den Tl1Cur) : Option ((Ty.den Tl1Cur) × Int × Unit) := t k a0
end spec_l1Byte
namespace spec_l1Below
def t (k : Nat) (a0 : Ty.den Tl1Cur) (a1 : Int) : Option ((Ty.den Tl1Cur) × Int × Unit) :=
  (bif (decide (a1 ≤ 0)) then
  (some (a0, (0, ())))
  else
  (bif (decide (a1 ≤ 256)) then
  (Option.bind (spec_l1Byte.f k a0) fun r1 =>
  (bif (decide (a1 = 0)) then none else
  (some (r1.1, ((Int.tmod r1.2.1 a1), ())))))
  else
  (Option.bind (spec_l1Byte.f k a0) fun r2 =>
  (Option.bind (spec_l1Byte.f k r2.1) fun r3 =>
  (Option.bind (spec_l1Byte.f k r3.1) fun r4 =>
  (Option.bind (spec_l1Byte.f k r4.1) fun r5 =>
  (bif (decide (a1 = 0)) then none else
  (some (r5.1, ((Int.tmod (w64 ((w64 ((w64 ((w64 (r2.2.1 * 16777216)) + (w64 (r3.2.1 * 65536)))) + (w64 (r4.2.1 * 256)))) + r5.2.1)) a1), ()))))))))))
def f (k : Nat) (a0 : Ty.den Tl1Cur) (a1 : Int) : Option ((Ty.den Tl1Cur) × Int × Unit) := t k a0 a1
end spec_l1Below
namespace spec_l1Once
def t (k : Nat) (a0 : Ty.den Tl1Cur) (a1 : Int) : Option ((Ty.den Tl1Cur) × Bool × Unit) :=
  (Option.bind (spec_l1Below.f k a0 a1) fun r1 =>
  (some (r1.1, ((r1.2.1 == 0), ()))))
def f (k : Nat) (a0 : Ty.den Tl1Cur) (a1 : Int) : Option ((Ty.den Tl1Cur) × Bool × Unit) := t k a0 a1
end spec_l1Once
namespace spec_l1Pick
def t (k : Nat) (a0 : Ty.den Tl1Cur) (a1 : List ByteArray) : Option ((Ty.den Tl1Cur) × ByteArray × Unit) :=
  (Option.bind (spec_l1Below.f k a0 (List.length a1 : Int)) fun r1 =>
  (inb r1.2.1 (List.length a1 : Int)
  (some (r1.1, ((List.getD a1 (Int.toNat r1.2.1) (Ty.dflt .str)), ())))))
def f (k : Nat) (a0 : Ty.den Tl1Cur) (a1 : List ByteArray) : Option ((Ty.den Tl1Cur) × ByteArray × Unit) := t k a0 a1
end spec_l1Pick
namespace spec_l5Key
def t (k : Nat) (a0 : Ty.den Tl1Cur) : Option ((Ty.den Tl1Cur) × ByteArray × Unit) :=
  (Option.bind (spec_l1Pick.f k a0 [(⟨#[97]⟩ : ByteArray), (⟨#[98]⟩ : ByteArray), (⟨#[99]⟩ : ByteArray), (⟨#[107, 101, 121]⟩ : ByteArray), (⟨#[108, 111, 110, 103, 110, 97, 109, 101]⟩ : ByteArray)]) fun r1 =>
  (some r1))
def f (k : Nat) (a0 : Ty.den Tl1Cur) : Option ((Ty.den Tl1Cur) × ByteArray × Unit) := t k a0
end spec_l5Key
namespace spec_l1Text
abbrev T0 : Type := Int → Int → List Int → Int → Int → List Int → Option ((Ty.den Tl1Cur) × ByteArray × Unit)
def b0 (k : Nat) (L0 : T0) (x0_0 : Int) (x0_1 : Int) (x0_2 : List Int) (x0_3 : Int) (x0_4 : Int) (x0_5 : List Int) : Option ((Ty.den Tl1Cur) × ByteArray × Unit) :=
  (bif (decide (x0_1 > 0)) then
  (Option.bind (spec_l1Byte.f k (x0_2, (x0_3, (x0_4, ())))) fun r3 =>
  (bif (x0_0 == 1) then
  (bif (x0_0 == 2) then
  (rm (Ty.bytes (.int .u8)) (List.length x0_5 + 1)
  (L0 x0_0 (w64 (x0_1 - 1)) r3.1.1 r3.1.2.1 r3.1.2.2.1 (x0_5 ++ [(IntKind.wrap .u8 (w64 (97 + (Int.tmod (Int.tmod r3.2.1 2) 4))))])))
  else
  (rm (Ty.bytes (.int .u8)) (List.length x0_5 + 1)
  (L0 x0_0 (w64 (x0_1 - 1)) r3.1.1 r3.1.2.1 r3.1.2.2.1 (x0_5 ++ [(IntKind.wrap .u8 (Int.tmod r3.2.1 2))]))))
  else
  (bif (x0_0 == 2) then
  (rm (Ty.bytes (.int .u8)) (List.length x0_5 + 1)
  (L0 x0_0 (w64 (x0_1 - 1)) r3.1.1 r3.1.2.1 r3.1.2.2.1 (x0_5 ++ [(IntKind.wrap .u8 (w64 (97 + (Int.tmod r3.2.1 4))))])))
  else
  (rm (Ty.bytes (.int .u8)) (List.length x0_5 + 1)
  (L0 x0_0 (w64 (x0_1 - 1)) r3.1.1 r3.1.2.1 r3.1.2.2.1 (x0_5 ++ [(IntKind.wrap .u8 r3.2.1)]))))))
  else
  (some ((x0_2, (x0_3, (x0_4, ()))), ((bytesOf x0_5), ()))))
def l0 (k : Nat) : Nat → T0
  | 0 => fun _ _ _ _ _ _ => none
  | n + 1 => b0 k (l0 k n)
def t (k : Nat) (L0 : T0) (a0 : Ty.den Tl1Cur) (a1 : Int) : Option ((Ty.den Tl1Cur) × ByteArray × Unit) :=
  (Option.bind (spec_l1Below.f k a0 4) fun r1 =>
  (Option.bind (spec_l1Below.f k r1.1 (w64 (a1 + 1))) fun r2 =>
  (L0 r1.2.1 r2.2.1 r2.1.1 r2.1.2.1 r2.1.2.2.1 [])))
def f (k : Nat) (a0 : Ty.den Tl1Cur) (a1 : Int) : Option ((Ty.den Tl1Cur) × ByteArray × Unit) := t k (l0 k k) a0 a1
end spec_l1Text
namespace spec_l1In
def t (k : Nat) (a0 : Int) (a1 : Int) (a2 : Int) : Option (Bool × Unit) :=
  (bif (decide (a0 ≥ a1)) then
  (some ((decide (a0 ≤ a2)), ()))
  else
  (some (false, ())))
def f (k : Nat) (a0 : Int) (a1 : Int) (a2 : Int) : Option (Bool × Unit) := t k a0 a1 a2
end spec_l1In
namespace spec_KeyOk
def t (k : Nat) (a0 : ByteArray) : Option (Bool × Unit) :=
  (Option.bind (spec_l1In.f k (ByteArray.size a0 : Int) 1 8) fun r1 =>
  (some r1))
def f (k : Nat) (a0 : ByteArray) : Option (Bool × Unit) := t k a0
end spec_KeyOk
namespace spec_RecOk
def t (k : Nat) (a0 : Ty.den TRec) : Option (Bool × Unit) :=
  (Option.bind (spec_l1In.f k a0.2.1 0 1000000) fun r1 =>
  (bif (!r1.1) then
  (some (false, ()))
  else
  (bif (a0.2.1 == 0) then
  (bif (a0.1 != 5) then
  (some (false, ()))
  else
  (bif (a0.1 == 1) then
  (bif (a0.1 == 1) then
  (Option.bind (spec_KeyOk.f k a0.2.2.1) fun r2 =>
  (bif r2.1 then
  (bif (decide ((ByteArray.size a0.2.2.2.1 : Int) ≤ 24)) then
  (bif (a0.2.2.2.2.1 == 0) then
  (some ((a0.2.2.2.2.2.1 == 0), ()))
  else
  (some (false, ())))
  else
  (some (false, ())))
  else
  (some (false, ()))))
  else
  (bif (a0.1 == 2) then
  (Option.bind (spec_KeyOk.f k a0.2.2.1) fun r3 =>
  (bif r3.1 then
  (bif (seq a0.2.2.2.1 (⟨#[]⟩ : ByteArray)) then
  (bif (a0.2.2.2.2.1 == 0) then
  (some ((a0.2.2.2.2.2.1 == 0), ()))
  else
  (some (false, ())))
  else
  (some (false, ())))
  else
  (some (false, ()))))
  else
  (bif (a0.1 == 3) then
  (bif (seq a0.2.2.1 (⟨#[]⟩ : ByteArray)) then
  (bif (seq a0.2.2.2.1 (⟨#[]⟩ : ByteArray)) then
  (Option.bind (spec_l1In.f k a0.2.2.2.2.1 0 8) fun r4 =>
  (bif r4.1 then
  (Option.bind (spec_l1In.f k a0.2.2.2.2.2.1 0 4294967295) fun r5 =>
  (some r5))
  else
  (some (false, ()))))
  else
  (some (false, ())))
  else
  (some (false, ())))
  else
  (bif (a0.1 == 5) then
  (bif (seq a0.2.2.1 (⟨#[]⟩ : ByteArray)) then
  (bif (seq a0.2.2.2.1 (⟨#[]⟩ : ByteArray)) then
  (Option.bind (spec_l1In.f k a0.2.2.2.2.1 0 20) fun r6 =>
  (bif r6.1 then
  (Option.bind (spec_l1In.f k a0.2.2.2.2.2.1 0 4294967295) fun r7 =>
  (some r7))
  else
  (some (false, ()))))
  else
  (some (false, ())))
  else
  (some (false, ())))
  else
  (some (false, ()))))))
  else
  (bif (a0.1 == 4) then
  (Option.bind (spec_KeyOk.f k a0.2.2.1) fun r8 =>
  (bif r8.1 then
  (bif (decide ((ByteArray.size a0.2.2.2.1 : Int) ≤ 24)) then
  (bif (a0.2.2.2.2.1 == 0) then
  (some ((a0.2.2.2.2.2.1 == 0), ()))
  else
  (some (false, ())))
  else
  (some (false, ())))
  else
  (some (false, ()))))
  else
  (bif (a0.1 == 2) then
  (Option.bind (spec_KeyOk.f k a0.2.2.1) fun r9 =>
  (bif r9.1 then
  (bif (seq a0.2.2.2.1 (⟨#[]⟩ : ByteArray)) then
  (bif (a0.2.2.2.2.1 == 0) then
  (some ((a0.2.2.2.2.2.1 == 0), ()))
  else
  (some (false, ())))
  else
  (some (false, ())))
  else
  (some (false, ()))))
  else
  (bif (a0.1 == 3) then
  (bif (seq a0.2.2.1 (⟨#[]⟩ : ByteArray)) then
  (bif (seq a0.2.2.2.1 (⟨#[]⟩ : ByteArray)) then
  (Option.bind (spec_l1In.f k a0.2.2.2.2.1 0 8) fun r10 =>
  (bif r10.1 then
  (Option.bind (spec_l1In.f k a0.2.2.2.2.2.1 0 4294967295) fun r11 =>
  (some r11))
  else
  (some (false, ()))))
  else
  (some (false, ())))
  else
  (some (false, ())))
  else
  (bif (a0.1 == 5) then
  (bif (seq a0.2.2.1 (⟨#[]⟩ : ByteArray)) then
  (bif (seq a0.2.2.2.1 (⟨#[]⟩ : ByteArray)) then
  (Option.bind (spec_l1In.f k a0.2.2.2.2.1 0 20) fun r12 =>
  (bif r12.1 then
  (Option.bind (spec_l1In.f k a0.2.2.2.2.2.1 0 4294967295) fun r13 =>
  (some r13))
  else
  (some (false, ()))))
  else
  (some (false, ())))
  else
  (some (false, ())))
  else
  (some (false, ()))))))))
  else
  (bif (a0.1 == 1) then
  (bif (a0.1 == 1) then
  (Option.bind (spec_KeyOk.f k a0.2.2.1) fun r14 =>
  (bif r14.1 then
  (bif (decide ((ByteArray.size a0.2.2.2.1 : Int) ≤ 24)) then
  (bif (a0.2.2.2.2.1 == 0) then
  (some ((a0.2.2.2.2.2.1 == 0), ()))
  else
  (some (false, ())))
  else
  (some (false, ())))
  else
  (some (false, ()))))
  else
  (bif (a0.1 == 2) then
  (Option.bind (spec_KeyOk.f k a0.2.2.1) fun r15 =>
  (bif r15.1 then
  (bif (seq a0.2.2.2.1 (⟨#[]⟩ : ByteArray)) then
  (bif (a0.2.2.2.2.1 == 0) then
  (some ((a0.2.2.2.2.2.1 == 0), ()))
  else
  (some (false, ())))
  else
  (some (false, ())))
  else
  (some (false, ()))))
  else
  (bif (a0.1 == 3) then
  (bif (seq a0.2.2.1 (⟨#[]⟩ : ByteArray)) then
  (bif (seq a0.2.2.2.1 (⟨#[]⟩ : ByteArray)) then
  (Option.bind (spec_l1In.f k a0.2.2.2.2.1 0 8) fun r16 =>
  (bif r16.1 then
  (Option.bind (spec_l1In.f k a0.2.2.2.2.2.1 0 4294967295) fun r17 =>
  (some r17))
  else
  (some (false, ()))))
  else
  (some (false, ())))
  else
  (some (false, ())))
  else
  (bif (a0.1 == 5) then
  (bif (seq a0.2.2.1 (⟨#[]⟩ : ByteArray)) then
  (bif (seq a0.2.2.2.1 (⟨#[]⟩ : ByteArray)) then
  (Option.bind (spec_l1In.f k a0.2.2.2.2.1 0 20) fun r18 =>
  (bif r18.1 then
  (Option.bind (spec_l1In.f k a0.2.2.2.2.2.1 0 4294967295) fun r19 =>
  (some r19))
  else
  (some (false, ()))))
  else
  (some (false, ())))
  else
  (some (false, ())))
  else
  (some (false, ()))))))
  else
  (bif (a0.1 == 4) then
  (Option.bind (spec_KeyOk.f k a0.2.2.1) fun r20 =>
  (bif r20.1 then
  (bif (decide ((ByteArray.size a0.2.2.2.1 : Int) ≤ 24)) then
  (bif (a0.2.2.2.2.1 == 0) then
  (some ((a0.2.2.2.2.2.1 == 0), ()))
  else
  (some (false, ())))
  else
  (some (false, ())))
  else
  (some (false, ()))))
  else
  (bif (a0.1 == 2) then
  (Option.bind (spec_KeyOk.f k a0.2.2.1) fun r21 =>
  (bif r21.1 then
  (bif (seq a0.2.2.2.1 (⟨#[]⟩ : ByteArray)) then
  (bif (a0.2.2.2.2.1 == 0) then
  (some ((a0.2.2.2.2.2.1 == 0), ()))
  else
  (some (false, ())))
  else
  (some (false, ())))
  else
  (some (false, ()))))
  else
  (bif (a0.1 == 3) then
  (bif (seq a0.2.2.1 (⟨#[]⟩ : ByteArray)) then
  (bif (seq a0.2.2.2.1 (⟨#[]⟩ : ByteArray)) then
  (Option.bind (spec_l1In.f k a0.2.2.2.2.1 0 8) fun r22 =>
  (bif r22.1 then
  (Option.bind (spec_l1In.f k a0.2.2.2.2.2.1 0 4294967295) fun r23 =>
  (some r23))
  else
  (some (false, ()))))
  else
  (some (false, ())))
  else
  (some (false, ())))
  else
  (bif (a0.1 == 5) then
  (bif (seq a0.2.2.1 (⟨#[]⟩ : ByteArray)) then
  (bif (seq a0.2.2.2.1 (⟨#[]⟩ : ByteArray)) then
  (Option.bind (spec_l1In.f k a0.2.2.2.2.1 0 20) fun r24 =>
  (bif r24.1 then
  (Option.bind (spec_l1In.f k a0.2.2.2.2.2.1 0 4294967295) fun r25 =>
  (some r25))
  else
  (some (false, ()))))
  else
  (some (false, ())))
  else
  (some (false, ())))
  else
  (some (false, ()))))))))))
def f (k : Nat) (a0 : Ty.den TRec) : Option (Bool × Unit) := t k a0
end spec_RecOk
namespace spec_Var
abbrev T0 : Type := Int → List Int → Option (ByteArray × Unit)
def b0 (k : Nat) (L0 : T0) (x0_0 : Int) (x0_1 : List Int) : Option (ByteArray × Unit) :=
  (bif (decide (x0_0 ≥ 128)) then
  (rm (Ty.bytes (.int .u8)) (List.length x0_1 + 1)
  (L0 (w64 (Int.tdiv x0_0 128)) (x0_1 ++ [(IntKind.wrap .u8 (w64 (128 + (Int.tmod x0_0 128))))])))
  else
  (rm (Ty.bytes (.int .u8)) (List.length x0_1 + 1)
  (some ((bytesOf (x0_1 ++ [(IntKind.wrap .u8 x0_0)])), ()))))
def l0 (k : Nat) : Nat → T0
  | 0 => fun _ _ => none
  | n + 1 => b0 k (l0 k n)
def t (k : Nat) (L0 : T0) (a0 : Int) : Option (ByteArray × Unit) :=
  (Option.bind (spec_l1In.f k a0 0 562949953421311) fun r1 =>
  (bif (!r1.1) then
  (some ((⟨#[]⟩ : ByteArray), ()))
  else
  (L0 a0 [])))
def f (k : Nat) (a0 : Int) : Option (ByteArray × Unit) := t k (l0 k k) a0
end spec_Var
namespace spec_Fixed
abbrev T0 : Type := Int → Int → ByteArray → Int → Option (ByteArray × Unit)
def b0 (k : Nat) (L0 : T0) (x0_0 : Int) (x0_1 : Int) (x0_2 : ByteArray) (x0_3 : Int) : Option (ByteArray × Unit) :=
  (bif (decide (x0_3 < x0_1)) then
  (cat (bytesOf [(IntKind.wrap .u8 (Int.tmod x0_0 256))]) x0_2
  (L0 (w64 (Int.tdiv x0_0 256)) x0_1 ((bytesOf [(IntKind.wrap .u8 (Int.tmod x0_0 256))]) ++ x0_2) (w64 (x0_3 + 1))))
  else
  (bif (decide (x0_0 > 0)) then
  (some ((⟨#[]⟩ : ByteArray), ()))
  else
  (some (x0_2, ()))))
def l0 (k : Nat) : Nat → T0
  | 0 => fun _ _ _ _ => none
  | n + 1 => b0 k (l0 k n)
def t (k : Nat) (L0 : T0) (a0 : Int) (a1 : Int) : Option (ByteArray × Unit) :=
  (Option.bind (spec_l1In.f k a1 1 7) fun r1 =>
  (bif (!r1.1) then
  (some ((⟨#[]⟩ : ByteArray), ()))
  else
  (bif (decide (a0 < 0)) then
  (some ((⟨#[]⟩ : ByteArray), ()))
  else
  (L0 a0 a1 (⟨#[]⟩ : ByteArray) 0))))
def f (k : Nat) (a0 : Int) (a1 : Int) : Option (ByteArray × Unit) := t k (l0 k k) a0 a1
end spec_Fixed
namespace spec_ShowRec
def t (k : Nat) (a0 : Ty.den TRec) : Option (ByteArray × Unit) :=
  (Option.bind (spec_RecOk.f k a0) fun r1 =>
  (bif (!r1.1) then
  (some ((⟨#[]⟩ : ByteArray), ()))
  else
  (Option.bind (spec_Var.f k a0.1) fun r2 =>
  (Option.bind (spec_Var.f k a0.2.1) fun r3 =>
  (cat r2.1 r3.1
  (bif (a0.1 == 1) then
  (bif (a0.1 == 1) then
  (Option.bind (spec_Var.f k (ByteArray.size a0.2.2.1 : Int)) fun r4 =>
  (cat (r2.1 ++ r3.1) r4.1
  (cat ((r2.1 ++ r3.1) ++ r4.1) a0.2.2.1
  (Option.bind (spec_Var.f k (ByteArray.size a0.2.2.2.1 : Int)) fun r5 =>
  (cat (((r2.1 ++ r3.1) ++ r4.1) ++ a0.2.2.1) r5.1
  (cat ((((r2.1 ++ r3.1) ++ r4.1) ++ a0.2.2.1) ++ r5.1) a0.2.2.2.1
  (some ((((((r2.1 ++ r3.1) ++ r4.1) ++ a0.2.2.1) ++ r5.1) ++ a0.2.2.2.1), ()))))))))
  else
  (bif (a0.1 == 2) then
  (Option.bind (spec_Var.f k (ByteArray.size a0.2.2.1 : Int)) fun r6 =>
  (cat (r2.1 ++ r3.1) r6.1
  (cat ((r2.1 ++ r3.1) ++ r6.1) a0.2.2.1
  (some ((((r2.1 ++ r3.1) ++ r6.1) ++ a0.2.2.1), ())))))
  else
  (Option.bind (spec_Var.f k a0.2.2.2.2.1) fun r7 =>
  (cat (r2.1 ++ r3.1) r7.1
  (Option.bind (spec_Fixed.f k a0.2.2.2.2.2.1 4) fun r8 =>
  (cat ((r2.1 ++ r3.1) ++ r7.1) r8.1
  (some ((((r2.1 ++ r3.1) ++ r7.1) ++ r8.1), ()))))))))
  else
  (bif (a0.1 == 4) then
  (Option.bind (spec_Var.f k (ByteArray.size a0.2.2.1 : Int)) fun r9 =>
  (cat (r2.1 ++ r3.1) r9.1
  (cat ((r2.1 ++ r3.1) ++ r9.1) a0.2.2.1
  (Option.bind (spec_Var.f k (ByteArray.size a0.2.2.2.1 : Int)) fun r10 =>
  (cat (((r2.1 ++ r3.1) ++ r9.1) ++ a0.2.2.1) r10.1
  (cat ((((r2.1 ++ r3.1) ++ r9.1) ++ a0.2.2.1) ++ r10.1) a0.2.2.2.1
  (some ((((((r2.1 ++ r3.1) ++ r9.1) ++ a0.2.2.1) ++ r10.1) ++ a0.2.2.2.1), ()))))))))
  else
  (bif (a0.1 == 2) then
  (Option.bind (spec_Var.f k (ByteArray.size a0.2.2.1 : Int)) fun r11 =>
  (cat (r2.1 ++ r3.1) r11.1
  (cat ((r2.1 ++ r3.1) ++ r11.1) a0.2.2.1
  (some ((((r2.1 ++ r3.1) ++ r11.1) ++ a0.2.2.1), ())))))
  else
  (Option.bind (spec_Var.f k a0.2.2.2.2.1) fun r12 =>
  (cat (r2.1 ++ r3.1) r12.1
  (Option.bind (spec_Fixed.f k a0.2.2.2.2.2.1 4) fun r13 =>
  (cat ((r2.1 ++ r3.1) ++ r12.1) r13.1
  (some ((((r2.1 ++ r3.1) ++ r12.1) ++ r13.1), ()))))))))))))))
def f (k : Nat) (a0 : Ty.den TRec) : Option (ByteArray × Unit) := t k a0
end spec_ShowRec
namespace spec_Crc
abbrev T1 : Type := ByteArray → Int → Int → Int → Option (Int × Unit)
abbrev T0 : Type := ByteArray → Int → Int → Option (Int × Unit)
def b1 (k : Nat) (L0 : T0) (L1 : T1) (x1_0 : ByteArray) (x1_1 : Int) (x1_2 : Int) (x1_3 : Int) : Option (Int × Unit) :=
  (bif (decide (x1_3 < 8)) then
  (bif ((Int.tmod x1_1 2) == 1) then
  (L1 x1_0 (w64 (((BitVec.ofInt (IntKind.bits .i64) (w64 (Int.tdiv x1_1 2)) ^^^ BitVec.ofInt (IntKind.bits .i64) 2197175160).toNat : Int))) x1_2 (w64 (x1_3 + 1)))
  else
  (L1 x1_0 (w64 (Int.tdiv x1_1 2)) x1_2 (w64 (x1_3 + 1))))
  else
  (L0 x1_0 x1_1 (w64 (x1_2 + 1))))
def l1 (k : Nat) (L0 : T0) : Nat → T1
  | 0 => fun _ _ _ _ => none
  | n + 1 => b1 k L0 (l1 k L0 n)
def b0 (k : Nat) (L1 : T1) (L0 : T0) (x0_0 : ByteArray) (x0_1 : Int) (x0_2 : Int) : Option (Int × Unit) :=
  (bif (decide (x0_2 < (ByteArray.size x0_0 : Int))) then
  (inb x0_2 (ByteArray.size x0_0 : Int)
  (L1 x0_0 (w64 (((BitVec.ofInt (IntKind.bits .i64) x0_1 ^^^ BitVec.ofInt (IntKind.bits .i64) (w64 (byteAt x0_0 x0_2))).toNat : Int))) x0_2 0))
  else
  (some ((w64 (4294967295 - x0_1)), ())))
def l0 (k : Nat) : Nat → T0
  | 0 => fun _ _ _ => none
  | n + 1 => b0 k (l1 k (l0 k n) k) (l0 k n)
def t (k : Nat) (L0 : T0) (a0 : ByteArray) : Option (Int × Unit) :=
  (L0 a0 4294967295 0)
def f (k : Nat) (a0 : ByteArray) : Option (Int × Unit) := t k (l0 k k) a0
end spec_Crc
namespace spec_SumOf
abbrev T0 : Type := List (Ty.den TRec) → ByteArray → Int → Option (Int × Unit)
def b0 (k : Nat) (L0 : T0) (x0_0 : List (Ty.den TRec)) (x0_1 : ByteArray) (x0_2 : Int) : Option (Int × Unit) :=
  (bif (decide (x0_2 < (List.length x0_0 : Int))) then
  (inb x0_2 (List.length x0_0 : Int)
  (Option.bind (spec_ShowRec.f k (List.getD x0_0 (Int.toNat x0_2) (Ty.dflt TRec))) fun r1 =>
  (cat x0_1 r1.1
  (L0 x0_0 (x0_1 ++ r1.1) (w64 (x0_2 + 1))))))
  else
  (Option.bind (spec_Crc.f k x0_1) fun r2 =>
  (some r2)))
def l0 (k : Nat) : Nat → T0
  | 0 => fun _ _ _ => none
  | n + 1 => b0 k (l0 k n)
def t (k : Nat) (L0 : T0) (a0 : List (Ty.den TRec)) : Option (Int × Unit) :=
  (L0 a0 (⟨#[]⟩ : ByteArray) 0)
def f (k : Nat) (a0 : List (Ty.den TRec)) : Option (Int × Unit) := t k (l0 k k) a0
end spec_SumOf
namespace spec_l9Seal
def t (k : Nat) (a0 : List (Ty.den TRec)) (a1 : Int) (a2 : Int) : Option ((Ty.den TRec) × Unit) :=
  (Option.bind (spec_SumOf.f k a0) fun r1 =>
  (some ((a2, (a1, (ByteArray.empty, (ByteArray.empty, ((List.length a0 : Int), r1))))), ())))
def f (k : Nat) (a0 : List (Ty.den TRec)) (a1 : Int) (a2 : Int) : Option ((Ty.den TRec) × Unit) := t k a0 a1 a2
end spec_l9Seal
namespace spec_l9Places
abbrev T4 : Type := Int → Int → Int → Int → List Int → Int → Int → List (Ty.den TPlace) → List (Ty.den TRec) → Option ((Ty.den Tl1Cur) × (List (Ty.den TPlace)) × Unit)
abbrev T3 : Type := Int → Int → Int → Int → List Int → Int → Int → List (Ty.den TPlace) → List (Ty.den TRec) → Option ((Ty.den Tl1Cur) × (List (Ty.den TPlace)) × Unit)
abbrev T2 : Type := Int → Int → Int → List Int → Int → Int → List (Ty.den TPlace) → Option ((Ty.den Tl1Cur) × (List (Ty.den TPlace)) × Unit)
abbrev T1 : Type := Int → Int → Int → List Int → Int → Int → List (Ty.den TPlace) → List (Ty.den TRec) → Option ((Ty.den Tl1Cur) × (List (Ty.den TPlace)) × Unit)
abbrev T0 : Type := Int → Int → Int → List Int → Int → Int → List (Ty.den TPlace) → List (Ty.den TRec) → Option ((Ty.den Tl1Cur) × (List (Ty.den TPlace)) × Unit)
def b4 (k : Nat) (L2 : T2) (L4 : T4) (x4_0 : Int) (x4_1 : Int) (x4_2 : Int) (x4_3 : Int) (x4_4 : List Int) (x4_5 : Int) (x4_6 : Int) (x4_7 : List (Ty.den TPlace)) (x4_8 : List (Ty.den TRec)) : Option ((Ty.den Tl1Cur) × (List (Ty.den TPlace)) × Unit) :=
  (bif (decide (x4_3 < (List.length x4_8 : Int))) then
  (inb x4_3 (List.length x4_8 : Int)
  (rm (Ty.bytes TPlace) (List.length x4_7 + 1)
  (L4 x4_0 x4_1 x4_2 (w64 (x4_3 + 1)) x4_4 x4_5 x4_6 (x4_7 ++ [(x4_0, ((w64 (20 * (List.length x4_7 : Int))), (20, ((List.getD x4_8 (Int.toNat x4_3) (Ty.dflt TRec)), ()))))]) x4_8)))
  else
  (Option.bind (spec_l9Seal.f k x4_8 x4_1 3) fun r14 =>
  (Option.bind (spec_l1Below.f k (x4_4, (x4_5, (x4_6, ()))) 8) fun r15 =>
  (bif (r15.2.1 == 0) then
  (L2 x4_0 x4_1 (w64 (x4_2 - 1)) r15.1.1 r15.1.2.1 r15.1.2.2.1 x4_7)
  else
  (bif (r15.2.1 == 1) then
  (rm (Ty.bytes TPlace) (List.length x4_7 + 1)
  (Option.bind (spec_l1Once.f k r15.1 4) fun r16 =>
  (bif r16.2.1 then
  (L2 (w64 (x4_0 + 1)) x4_1 (w64 (x4_2 - 1)) r16.1.1 r16.1.2.1 r16.1.2.2.1 (x4_7 ++ [(x4_0, ((w64 (20 * (List.length x4_7 : Int))), (20, ((r14.1.1, (r14.1.2.1, (r14.1.2.2.1, (r14.1.2.2.2.1, (r14.1.2.2.2.2.1, (7, ())))))), ()))))]))
  else
  (L2 x4_0 x4_1 (w64 (x4_2 - 1)) r16.1.1 r16.1.2.1 r16.1.2.2.1 (x4_7 ++ [(x4_0, ((w64 (20 * (List.length x4_7 : Int))), (20, ((r14.1.1, (r14.1.2.1, (r14.1.2.2.1, (r14.1.2.2.2.1, (r14.1.2.2.2.2.1, (7, ())))))), ()))))])))))
  else
  (rm (Ty.bytes TPlace) (List.length x4_7 + 1)
  (Option.bind (spec_l1Once.f k r15.1 4) fun r17 =>
  (bif r17.2.1 then
  (L2 (w64 (x4_0 + 1)) x4_1 (w64 (x4_2 - 1)) r17.1.1 r17.1.2.1 r17.1.2.2.1 (x4_7 ++ [(x4_0, ((w64 (20 * (List.length x4_7 : Int))), (20, r14)))]))
  else
  (L2 x4_0 x4_1 (w64 (x4_2 - 1)) r17.1.1 r17.1.2.1 r17.1.2.2.1 (x4_7 ++ [(x4_0, ((w64 (20 * (List.length x4_7 : Int))), (20, r14)))]))))))))))
def l4 (k : Nat) (L2 : T2) : Nat → T4
  | 0 => fun _ _ _ _ _ _ _ _ _ => none
  | n + 1 => b4 k L2 (l4 k L2 n)
def b3 (k : Nat) (L4 : T4) (L2 : T2) (L3 : T3) (x3_0 : Int) (x3_1 : Int) (x3_2 : Int) (x3_3 : Int) (x3_4 : List Int) (x3_5 : Int) (x3_6 : Int) (x3_7 : List (Ty.den TPlace)) (x3_8 : List (Ty.den TRec)) : Option ((Ty.den Tl1Cur) × (List (Ty.den TPlace)) × Unit) :=
  (bif (decide (x3_3 > 0)) then
  (Option.bind (spec_l5Key.f k (x3_4, (x3_5, (x3_6, ())))) fun r10 =>
  (Option.bind (spec_l1Text.f k r10.1 4) fun r11 =>
  (Option.bind (spec_l1Once.f k r11.1 3) fun r12 =>
  (bif r12.2.1 then
  (Option.bind (spec_l5Key.f k r12.1) fun r13 =>
  (rm (Ty.bytes TRec) (List.length x3_8 + 1)
  (L3 x3_0 x3_1 x3_2 (w64 (x3_3 - 1)) r13.1.1 r13.1.2.1 r13.1.2.2.1 x3_7 (x3_8 ++ [(2, (x3_1, (r13.2.1, (ByteArray.empty, (0, (0, ()))))))]))))
  else
  (rm (Ty.bytes TRec) (List.length x3_8 + 1)
  (L3 x3_0 x3_1 x3_2 (w64 (x3_3 - 1)) r12.1.1 r12.1.2.1 r12.1.2.2.1 x3_7 (x3_8 ++ [(1, (x3_1, (r10.2.1, (r11.2.1, (0, (0, ()))))))])))))))
  else
  (L4 x3_0 x3_1 x3_2 0 x3_4 x3_5 x3_6 x3_7 x3_8))
def l3 (k : Nat) (L2 : T2) : Nat → T3
  | 0 => fun _ _ _ _ _ _ _ _ _ => none
  | n + 1 => b3 k (l4 k L2 k) L2 (l3 k L2 n)
def b2 (k : Nat) (L3 : T3) (L2 : T2) (x2_0 : Int) (x2_1 : Int) (x2_2 : Int) (x2_3 : List Int) (x2_4 : Int) (x2_5 : Int) (x2_6 : List (Ty.den TPlace)) : Option ((Ty.den Tl1Cur) × (List (Ty.den TPlace)) × Unit) :=
  (bif (decide (x2_2 > 0)) then
  (Option.bind (spec_l1Below.f k (x2_3, (x2_4, (x2_5, ()))) 2) fun r8 =>
  (Option.bind (spec_l1Below.f k r8.1 4) fun r9 =>
  (L3 x2_0 (w64 ((w64 (x2_1 + 1)) + r8.2.1)) x2_2 r9.2.1 r9.1.1 r9.1.2.1 r9.1.2.2.1 x2_6 [])))
  else
  (some ((x2_3, (x2_4, (x2_5, ()))), (x2_6, ()))))
def l2 (k : Nat) : Nat → T2
  | 0 => fun _ _ _ _ _ _ _ => none
  | n + 1 => b2 k (l3 k (l2 k n) k) (l2 k n)
def b1 (k : Nat) (L2 : T2) (L1 : T1) (x1_0 : Int) (x1_1 : Int) (x1_2 : Int) (x1_3 : List Int) (x1_4 : Int) (x1_5 : Int) (x1_6 : List (Ty.den TPlace)) (x1_7 : List (Ty.den TRec)) : Option ((Ty.den Tl1Cur) × (List (Ty.den TPlace)) × Unit) :=
  (bif (decide (x1_2 < (List.length x1_7 : Int))) then
  (inb x1_2 (List.length x1_7 : Int)
  (rm (Ty.bytes TPlace) (List.length x1_6 + 1)
  (L1 x1_0 x1_1 (w64 (x1_2 + 1)) x1_3 x1_4 x1_5 (x1_6 ++ [(x1_0, ((w64 (20 * (List.length x1_6 : Int))), (20, ((List.getD x1_7 (Int.toNat x1_2) (Ty.dflt TRec)), ()))))]) x1_7)))
  else
  (Option.bind (spec_l1Once.f k (x1_3, (x1_4, (x1_5, ()))) 8) fun r5 =>
  (bif (!r5.2.1) then
  (Option.bind (spec_l9Seal.f k x1_7 x1_1 5) fun r6 =>
  (rm (Ty.bytes TPlace) (List.length x1_6 + 1)
  (Option.bind (spec_l1Below.f k r5.1 5) fun r7 =>
  (L2 2 x1_1 r7.2.1 r7.1.1 r7.1.2.1 r7.1.2.2.1 (x1_6 ++ [(x1_0, ((w64 (20 * (List.length x1_6 : Int))), (20, r6)))])))))
  else
  (Option.bind (spec_l1Below.f k r5.1 5) fun r18 =>
  (L2 2 x1_1 r18.2.1 r18.1.1 r18.1.2.1 r18.1.2.2.1 x1_6)))))
def l1 (k : Nat) : Nat → T1
  | 0 => fun _ _ _ _ _ _ _ _ => none
  | n + 1 => b1 k (l2 k k) (l1 k n)
def b0 (k : Nat) (L1 : T1) (L0 : T0) (x0_0 : Int) (x0_1 : Int) (x0_2 : Int) (x0_3 : List Int) (x0_4 : Int) (x0_5 : Int) (x0_6 : List (Ty.den TPlace)) (x0_7 : List (Ty.den TRec)) : Option ((Ty.den Tl1Cur) × (List (Ty.den TPlace)) × Unit) :=
  (bif (decide (x0_2 > 0)) then
  (Option.bind (spec_l5Key.f k (x0_3, (x0_4, (x0_5, ())))) fun r3 =>
  (Option.bind (spec_l1Text.f k r3.1 4) fun r4 =>
  (rm (Ty.bytes TRec) (List.length x0_7 + 1)
  (L0 x0_0 (w64 (x0_1 + 1)) (w64 (x0_2 - 1)) r4.1.1 r4.1.2.1 r4.1.2.2.1 x0_6 (x0_7 ++ [(4, ((w64 (x0_1 + 1)), (r3.2.1, (r4.2.1, (0, (0, ()))))))])))))
  else
  (L1 x0_0 x0_1 0 x0_3 x0_4 x0_5 x0_6 x0_7))
def l0 (k : Nat) : Nat → T0
  | 0 => fun _ _ _ _ _ _ _ _ => none
  | n + 1 => b0 k (l1 k k) (l0 k n)
def t (k : Nat) (L0 : T0) (L2 : T2) (a0 : Ty.den Tl1Cur) : Option ((Ty.den Tl1Cur) × (List (Ty.den TPlace)) × Unit) :=
  (Option.bind (spec_l1Once.f k a0 3) fun r1 =>
  (bif r1.2.1 then
  (Option.bind (spec_l1Below.f k r1.1 3) fun r2 =>
  (L0 1 0 r2.2.1 r2.1.1 r2.1.2.1 r2.1.2.2.1 [] []))
  else
  (Option.bind (spec_l1Below.f k r1.1 5) fun r19 =>
  (L2 1 0 r19.2.1 r19.1.1 r19.1.2.1 r19.1.2.2.1 []))))
def f (k : Nat) (a0 : Ty.den Tl1Cur) : Option ((Ty.den Tl1Cur) × (List (Ty.den TPlace)) × Unit) := t k (l0 k k) (l2 k k) a0
end spec_l9Places
namespace spec_l9Of
abbrev T0 : Type := List (Ty.den TPlace) → Int → Int → Int → List (Ty.den TPlace) → Option ((List (Ty.den TPlace)) × Unit)
def b0 (k : Nat) (L0 : T0) (x0_0 : List (Ty.den TPlace)) (x0_1 : Int) (x0_2 : Int) (x0_3 : Int) (x0_4 : List (Ty.den TPlace)) : Option ((List (Ty.den TPlace)) × Unit) :=
  (bif (decide (x0_3 < x0_1)) then
  (inb x0_3 (List.length x0_0 : Int)
  (bif ((List.getD x0_0 (Int.toNat x0_3) (Ty.dflt TPlace)).2.2.2.1.2.1 == x0_2) then
  (bif ((List.getD x0_0 (Int.toNat x0_3) (Ty.dflt TPlace)).2.2.2.1.1 == 3) then
  (bif ((List.getD x0_0 (Int.toNat x0_3) (Ty.dflt TPlace)).2.2.2.1.2.1 == x0_2) then
  (bif ((List.getD x0_0 (Int.toNat x0_3) (Ty.dflt TPlace)).2.2.2.1.1 == 1) then
  (inb x0_3 (List.length x0_0 : Int)
  (rm (Ty.bytes TPlace) (0 + 1)
  (L0 x0_0 x0_1 x0_2 (w64 (x0_3 + 1)) ([] ++ [(List.getD x0_0 (Int.toNat x0_3) (Ty.dflt TPlace))]))))
  else
  (bif ((List.getD x0_0 (Int.toNat x0_3) (Ty.dflt TPlace)).2.2.2.1.1 == 2) then
  (inb x0_3 (List.length x0_0 : Int)
  (rm (Ty.bytes TPlace) (0 + 1)
  (L0 x0_0 x0_1 x0_2 (w64 (x0_3 + 1)) ([] ++ [(List.getD x0_0 (Int.toNat x0_3) (Ty.dflt TPlace))]))))
  else
  (L0 x0_0 x0_1 x0_2 (w64 (x0_3 + 1)) [])))
  else
  (L0 x0_0 x0_1 x0_2 (w64 (x0_3 + 1)) []))
  else
  (bif ((List.getD x0_0 (Int.toNat x0_3) (Ty.dflt TPlace)).2.2.2.1.2.1 == x0_2) then
  (bif ((List.getD x0_0 (Int.toNat x0_3) (Ty.dflt TPlace)).2.2.2.1.1 == 1) then
  (inb x0_3 (List.length x0_0 : Int)
  (rm (Ty.bytes TPlace) (List.length x0_4 + 1)
  (L0 x0_0 x0_1 x0_2 (w64 (x0_3 + 1)) (x0_4 ++ [(List.getD x0_0 (Int.toNat x0_3) (Ty.dflt TPlace))]))))
  else
  (bif ((List.getD x0_0 (Int.toNat x0_3) (Ty.dflt TPlace)).2.2.2.1.1 == 2) then
  (inb x0_3 (List.length x0_0 : Int)
  (rm (Ty.bytes TPlace) (List.length x0_4 + 1)
  (L0 x0_0 x0_1 x0_2 (w64 (x0_3 + 1)) (x0_4 ++ [(List.getD x0_0 (Int.toNat x0_3) (Ty.dflt TPlace))]))))
  else
  (L0 x0_0 x0_1 x0_2 (w64 (x0_3 + 1)) x0_4)))
  else
  (L0 x0_0 x0_1 x0_2 (w64 (x0_3 + 1)) x0_4)))
  else
  (bif ((List.getD x0_0 (Int.toNat x0_3) (Ty.dflt TPlace)).2.2.2.1.2.1 == x0_2) then
  (bif ((List.getD x0_0 (Int.toNat x0_3) (Ty.dflt TPlace)).2.2.2.1.1 == 1) then
  (inb x0_3 (List.length x0_0 : Int)
  (rm (Ty.bytes TPlace) (List.length x0_4 + 1)
  (L0 x0_0 x0_1 x0_2 (w64 (x0_3 + 1)) (x0_4 ++ [(List.getD x0_0 (Int.toNat x0_3) (Ty.dflt TPlace))]))))
  else
  (bif ((List.getD x0_0 (Int.toNat x0_3) (Ty.dflt TPlace)).2.2.2.1.1 == 2) then
  (inb x0_3 (List.length x0_0 : Int)
  (rm (Ty.bytes TPlace) (List.length x0_4 + 1)
  (L0 x0_0 x0_1 x0_2 (w64 (x0_3 + 1)) (x0_4 ++ [(List.getD x0_0 (Int.toNat x0_3) (Ty.dflt TPlace))]))))
  else
  (L0 x0_0 x0_1 x0_2 (w64 (x0_3 + 1)) x0_4)))
  else
  (L0 x0_0 x0_1 x0_2 (w64 (x0_3 + 1)) x0_4))))
  else
  (some (x0_4, ())))
def l0 (k : Nat) : Nat → T0
  | 0 => fun _ _ _ _ _ => none
  | n + 1 => b0 k (l0 k n)
def t (k : Nat) (L0 : T0) (a0 : List (Ty.den TPlace)) (a1 : Int) (a2 : Int) : Option ((List (Ty.den TPlace)) × Unit) :=
  (L0 a0 a1 a2 0 [])
def f (k : Nat) (a0 : List (Ty.den TPlace)) (a1 : Int) (a2 : Int) : Option ((List (Ty.den TPlace)) × Unit) := t k (l0 k k) a0 a1 a2
end spec_l9Of
namespace spec_l9Recs
abbrev T0 : Type := List (Ty.den TPlace) → Int → List (Ty.den TRec) → Option ((List (Ty.den TRec)) × Unit)
def b0 (k : Nat) (L0 : T0) (x0_0 : List (Ty.den TPlace)) (x0_1 : Int) (x0_2 : List (Ty.den TRec)) : Option ((List (Ty.den TRec)) × Unit) :=
  (bif (decide (x0_1 < (List.length x0_0 : Int))) then
  (inb x0_1 (List.length x0_0 : Int)
  (rm (Ty.bytes TRec) (List.length x0_2 + 1)
  (L0 x0_0 (w64 (x0_1 + 1)) (x0_2 ++ [(List.getD x0_0 (Int.toNat x0_1) (Ty.dflt TPlace)).2.2.2.1]))))
  else
  (some (x0_2, ())))
def l0 (k : Nat) : Nat → T0
  | 0 => fun _ _ _ => none
  | n + 1 => b0 k (l0 k n)
def t (k : Nat) (L0 : T0) (a0 : List (Ty.den TPlace)) : Option ((List (Ty.den TRec)) × Unit) :=
  (L0 a0 0 [])
def f (k : Nat) (a0 : List (Ty.den TPlace)) : Option ((List (Ty.den TRec)) × Unit) := t k (l0 k k) a0
end spec_l9Recs
namespace spec_l9Fits
def t (k : Nat) (a0 : Ty.den TRec) (a1 : List (Ty.den TPlace)) : Option (Bool × Unit) :=
  (bif (a0.2.2.2.2.1 == (List.length a1 : Int)) then
  (Option.bind (spec_l9Recs.f k a1) fun r1 =>
  (Option.bind (spec_SumOf.f k r1.1) fun r2 =>
  (some ((a0.2.2.2.2.2.1 == r2.1), ()))))
  else
  (some (false, ())))
def f (k : Nat) (a0 : Ty.den TRec) (a1 : List (Ty.den TPlace)) : Option (Bool × Unit) := t k a0 a1
end spec_l9Fits
namespace spec_DirDrop
abbrev T0 : Type := List (Ty.den TEntry) → ByteArray → Int → List (Ty.den TEntry) → Option ((List (Ty.den TEntry)) × Unit)
def b0 (k : Nat) (L0 : T0) (x0_0 : List (Ty.den TEntry)) (x0_1 : ByteArray) (x0_2 : Int) (x0_3 : List (Ty.den TEntry)) : Option ((List (Ty.den TEntry)) × Unit) :=
  (bif (decide (x0_2 < (List.length x0_0 : Int))) then
  (inb x0_2 (List.length x0_0 : Int)
  (bif (!(seq (List.getD x0_0 (Int.toNat x0_2) (Ty.dflt TEntry)).1 x0_1)) then
  (inb x0_2 (List.length x0_0 : Int)
  (rm (Ty.bytes TEntry) (List.length x0_3 + 1)
  (L0 x0_0 x0_1 (w64 (x0_2 + 1)) (x0_3 ++ [(List.getD x0_0 (Int.toNat x0_2) (Ty.dflt TEntry))]))))
  else
  (L0 x0_0 x0_1 (w64 (x0_2 + 1)) x0_3)))
  else
  (some (x0_3, ())))
def l0 (k : Nat) : Nat → T0
  | 0 => fun _ _ _ _ => none
  | n + 1 => b0 k (l0 k n)
def t (k : Nat) (L0 : T0) (a0 : List (Ty.den TEntry)) (a1 : ByteArray) : Option ((List (Ty.den TEntry)) × Unit) :=
  (L0 a0 a1 0 [])
def f (k : Nat) (a0 : List (Ty.den TEntry)) (a1 : ByteArray) : Option ((List (Ty.den TEntry)) × Unit) := t k (l0 k k) a0 a1
end spec_DirDrop
namespace spec_DirPut
abbrev T0 : Type := List (Ty.den TEntry) → Bool → Int → ByteArray → Int → Int → Int → Int → List (Ty.den TEntry) → Option ((List (Ty.den TEntry)) × Unit)
def b0 (k : Nat) (L0 : T0) (x0_0 : List (Ty.den TEntry)) (x0_1 : Bool) (x0_2 : Int) (x0_3 : ByteArray) (x0_4 : Int) (x0_5 : Int) (x0_6 : Int) (x0_7 : Int) (x0_8 : List (Ty.den TEntry)) : Option ((List (Ty.den TEntry)) × Unit) :=
  (bif (decide (x0_2 < (List.length x0_0 : Int))) then
  (inb x0_2 (List.length x0_0 : Int)
  (bif (seq (List.getD x0_0 (Int.toNat x0_2) (Ty.dflt TEntry)).1 x0_3) then
  (L0 x0_0 x0_1 (w64 (x0_2 + 1)) x0_3 x0_4 x0_5 x0_6 x0_7 x0_8)
  else
  (bif (!x0_1) then
  (inb x0_2 (List.length x0_0 : Int)
  (bif (!((sls (List.getD x0_0 (Int.toNat x0_2) (Ty.dflt TEntry)).1 x0_3) || (seq (List.getD x0_0 (Int.toNat x0_2) (Ty.dflt TEntry)).1 x0_3))) then
  (rm (Ty.bytes TEntry) (List.length x0_8 + 1)
  (inb x0_2 (List.length x0_0 : Int)
  (rm (Ty.bytes TEntry) (List.length (x0_8 ++ [(x0_3, (x0_4, (x0_5, (x0_6, (x0_7, ())))))]) + 1)
  (L0 x0_0 true (w64 (x0_2 + 1)) x0_3 x0_4 x0_5 x0_6 x0_7 ((x0_8 ++ [(x0_3, (x0_4, (x0_5, (x0_6, (x0_7, ())))))]) ++ [(List.getD x0_0 (Int.toNat x0_2) (Ty.dflt TEntry))])))))
  else
  (inb x0_2 (List.length x0_0 : Int)
  (rm (Ty.bytes TEntry) (List.length x0_8 + 1)
  (L0 x0_0 x0_1 (w64 (x0_2 + 1)) x0_3 x0_4 x0_5 x0_6 x0_7 (x0_8 ++ [(List.getD x0_0 (Int.toNat x0_2) (Ty.dflt TEntry))]))))))
  else
  (inb x0_2 (List.length x0_0 : Int)
  (rm (Ty.bytes TEntry) (List.length x0_8 + 1)
  (L0 x0_0 x0_1 (w64 (x0_2 + 1)) x0_3 x0_4 x0_5 x0_6 x0_7 (x0_8 ++ [(List.getD x0_0 (Int.toNat x0_2) (Ty.dflt TEntry))])))))))
  else
  (bif (!x0_1) then
  (rm (Ty.bytes TEntry) (List.length x0_8 + 1)
  (some ((x0_8 ++ [(x0_3, (x0_4, (x0_5, (x0_6, (x0_7, ())))))]), ())))
  else
  (some (x0_8, ()))))
def l0 (k : Nat) : Nat → T0
  | 0 => fun _ _ _ _ _ _ _ _ _ => none
  | n + 1 => b0 k (l0 k n)
def t (k : Nat) (L0 : T0) (a0 : List (Ty.den TEntry)) (a1 : Ty.den TEntry) : Option ((List (Ty.den TEntry)) × Unit) :=
  (L0 a0 false 0 a1.1 a1.2.1 a1.2.2.1 a1.2.2.2.1 a1.2.2.2.2.1 [])
def f (k : Nat) (a0 : List (Ty.den TEntry)) (a1 : Ty.den TEntry) : Option ((List (Ty.den TEntry)) × Unit) := t k (l0 k k) a0 a1
end spec_DirPut
namespace spec_l9Put
def t (k : Nat) (a0 : List (Ty.den TEntry)) (a1 : Ty.den TPlace) : Option ((List (Ty.den TEntry)) × Unit) :=
  (bif (a1.2.2.2.1.1 == 2) then
  (Option.bind (spec_DirDrop.f k a0 a1.2.2.2.1.2.2.1) fun r1 =>
  (some r1))
  else
  (Option.bind (spec_DirPut.f k a0 (a1.2.2.2.1.2.2.1, (a1.1, (a1.2.1, (a1.2.2.1, (a1.2.2.2.1.2.1, ())))))) fun r2 =>
  (some r2)))
def f (k : Nat) (a0 : List (Ty.den TEntry)) (a1 : Ty.den TPlace) : Option ((List (Ty.den TEntry)) × Unit) := t k a0 a1
end spec_l9Put
namespace spec_l9Kept
abbrev T0 : Type := List (Ty.den TPlace) → Int → Int → List (Ty.den TPlace) → Option ((List (Ty.den TPlace)) × Unit)
def b0 (k : Nat) (L0 : T0) (x0_0 : List (Ty.den TPlace)) (x0_1 : Int) (x0_2 : Int) (x0_3 : List (Ty.den TPlace)) : Option ((List (Ty.den TPlace)) × Unit) :=
  (bif (decide (x0_2 < x0_1)) then
  (inb x0_2 (List.length x0_0 : Int)
  (bif ((List.getD x0_0 (Int.toNat x0_2) (Ty.dflt TPlace)).2.2.2.1.1 == 5) then
  (inb x0_2 (List.length x0_0 : Int)
  (bif ((List.getD x0_0 (Int.toNat x0_2) (Ty.dflt TPlace)).2.2.2.1.1 == 4) then
  (inb x0_2 (List.length x0_0 : Int)
  (rm (Ty.bytes TPlace) (0 + 1)
  (L0 x0_0 x0_1 (w64 (x0_2 + 1)) ([] ++ [(List.getD x0_0 (Int.toNat x0_2) (Ty.dflt TPlace))]))))
  else
  (L0 x0_0 x0_1 (w64 (x0_2 + 1)) [])))
  else
  (inb x0_2 (List.length x0_0 : Int)
  (bif ((List.getD x0_0 (Int.toNat x0_2) (Ty.dflt TPlace)).2.2.2.1.1 == 4) then
  (inb x0_2 (List.length x0_0 : Int)
  (rm (Ty.bytes TPlace) (List.length x0_3 + 1)
  (L0 x0_0 x0_1 (w64 (x0_2 + 1)) (x0_3 ++ [(List.getD x0_0 (Int.toNat x0_2) (Ty.dflt TPlace))]))))
  else
  (L0 x0_0 x0_1 (w64 (x0_2 + 1)) x0_3)))))
  else
  (some (x0_3, ())))
def l0 (k : Nat) : Nat → T0
  | 0 => fun _ _ _ _ => none
  | n + 1 => b0 k (l0 k n)
def t (k : Nat) (L0 : T0) (a0 : List (Ty.den TPlace)) (a1 : Int) : Option ((List (Ty.den TPlace)) × Unit) :=
  (L0 a0 a1 0 [])
def f (k : Nat) (a0 : List (Ty.den TPlace)) (a1 : Int) : Option ((List (Ty.den TPlace)) × Unit) := t k (l0 k k) a0 a1
end spec_l9Kept
namespace spec_Regroup
abbrev T1 : Type := List (Ty.den TPlace) → Int → Int → List (Ty.den TEntry) → Int → Int → List (Ty.den TEntry) → Int → Int → List (Ty.den TPlace) → Option ((Ty.den TGroup) × Unit)
abbrev T0 : Type := List (Ty.den TPlace) → Int → List (Ty.den TEntry) → Int → Int → List (Ty.den TEntry) → Int → Int → Option ((Ty.den TGroup) × Unit)
def b1 (k : Nat) (L0 : T0) (L1 : T1) (x1_0 : List (Ty.den TPlace)) (x1_1 : Int) (x1_2 : Int) (x1_3 : List (Ty.den TEntry)) (x1_4 : Int) (x1_5 : Int) (x1_6 : List (Ty.den TEntry)) (x1_7 : Int) (x1_8 : Int) (x1_9 : List (Ty.den TPlace)) : Option ((Ty.den TGroup) × Unit) :=
  (bif (decide (x1_2 < (List.length x1_9 : Int))) then
  (inb x1_2 (List.length x1_9 : Int)
  (Option.bind (spec_l9Put.f k x1_6 (List.getD x1_9 (Int.toNat x1_2) (Ty.dflt TPlace))) fun r3 =>
  (L1 x1_0 x1_1 (w64 (x1_2 + 1)) x1_3 x1_4 x1_5 r3.1 x1_7 x1_8 x1_9)))
  else
  (bif (decide ((List.length x1_6 : Int) > 20)) then
  (L0 x1_0 (w64 (x1_1 + 1)) x1_3 x1_4 x1_5 x1_6 x1_7 2)
  else
  (L0 x1_0 (w64 (x1_1 + 1)) x1_3 x1_4 x1_5 x1_6 x1_7 x1_8)))
def l1 (k : Nat) (L0 : T0) : Nat → T1
  | 0 => fun _ _ _ _ _ _ _ _ _ _ => none
  | n + 1 => b1 k L0 (l1 k L0 n)
def b0 (k : Nat) (L1 : T1) (L0 : T0) (x0_0 : List (Ty.den TPlace)) (x0_1 : Int) (x0_2 : List (Ty.den TEntry)) (x0_3 : Int) (x0_4 : Int) (x0_5 : List (Ty.den TEntry)) (x0_6 : Int) (x0_7 : Int) : Option ((Ty.den TGroup) × Unit) :=
  (bif (decide (x0_1 < (List.length x0_0 : Int))) then
  (bif (x0_7 == 0) then
  (inb x0_1 (List.length x0_0 : Int)
  (bif ((List.getD x0_0 (Int.toNat x0_1) (Ty.dflt TPlace)).2.2.2.1.1 == 3) then
  (Option.bind (spec_l9Of.f k x0_0 x0_1 (List.getD x0_0 (Int.toNat x0_1) (Ty.dflt TPlace)).2.2.2.1.2.1) fun r1 =>
  (Option.bind (spec_l9Fits.f k (List.getD x0_0 (Int.toNat x0_1) (Ty.dflt TPlace)).2.2.2.1 r1.1) fun r2 =>
  (bif (!r2.1) then
  (L0 x0_0 (w64 (x0_1 + 1)) x0_2 x0_3 x0_4 x0_5 (if (List.getD x0_0 (Int.toNat x0_1) (Ty.dflt TPlace)).2.2.2.1.2.1 > x0_6 then (List.getD x0_0 (Int.toNat x0_1) (Ty.dflt TPlace)).2.2.2.1.2.1 else x0_6) x0_7)
  else
  (L1 x0_0 x0_1 0 x0_2 x0_3 x0_4 x0_5 (if (List.getD x0_0 (Int.toNat x0_1) (Ty.dflt TPlace)).2.2.2.1.2.1 > x0_6 then (List.getD x0_0 (Int.toNat x0_1) (Ty.dflt TPlace)).2.2.2.1.2.1 else x0_6) x0_7 r1.1))))
  else
  (bif ((List.getD x0_0 (Int.toNat x0_1) (Ty.dflt TPlace)).2.2.2.1.1 == 5) then
  (Option.bind (spec_l9Kept.f k x0_0 x0_1) fun r4 =>
  (Option.bind (spec_l9Fits.f k (List.getD x0_0 (Int.toNat x0_1) (Ty.dflt TPlace)).2.2.2.1 r4.1) fun r5 =>
  (bif (!r5.1) then
  (L0 x0_0 (w64 (x0_1 + 1)) x0_2 x0_3 x0_4 x0_5 (if (List.getD x0_0 (Int.toNat x0_1) (Ty.dflt TPlace)).2.2.2.1.2.1 > x0_6 then (List.getD x0_0 (Int.toNat x0_1) (Ty.dflt TPlace)).2.2.2.1.2.1 else x0_6) 1)
  else
  (L1 x0_0 x0_1 0 x0_2 x0_3 x0_4 x0_5 (if (List.getD x0_0 (Int.toNat x0_1) (Ty.dflt TPlace)).2.2.2.1.2.1 > x0_6 then (List.getD x0_0 (Int.toNat x0_1) (Ty.dflt TPlace)).2.2.2.1.2.1 else x0_6) x0_7 r4.1))))
  else
  (L0 x0_0 (w64 (x0_1 + 1)) x0_2 x0_3 x0_4 x0_5 (if (List.getD x0_0 (Int.toNat x0_1) (Ty.dflt TPlace)).2.2.2.1.2.1 > x0_6 then (List.getD x0_0 (Int.toNat x0_1) (Ty.dflt TPlace)).2.2.2.1.2.1 else x0_6) x0_7))))
  else
  (bif (x0_7 == 0) then
  (Option.bind (spec_l9Kept.f k x0_0 (List.length x0_0 : Int)) fun r6 =>
  (bif (decide ((List.length r6.1 : Int) > 0)) then
  (some ((x0_5, (x0_6, (1, ()))), ()))
  else
  (some ((x0_5, (x0_6, (x0_7, ()))), ()))))
  else
  (some ((x0_5, (x0_6, (x0_7, ()))), ()))))
  else
  (bif (x0_7 == 0) then
  (Option.bind (spec_l9Kept.f k x0_0 (List.length x0_0 : Int)) fun r7 =>
  (bif (decide ((List.length r7.1 : Int) > 0)) then
  (some ((x0_5, (x0_6, (1, ()))), ()))
  else
  (some ((x0_5, (x0_6, (x0_7, ()))), ()))))
  else
  (some ((x0_5, (x0_6, (x0_7, ()))), ()))))
def l0 (k : Nat) : Nat → T0
  | 0 => fun _ _ _ _ _ _ _ _ => none
  | n + 1 => b0 k (l1 k (l0 k n) k) (l0 k n)
def t (k : Nat) (L0 : T0) (a0 : Ty.den TGroup) (a1 : List (Ty.den TPlace)) : Option ((Ty.den TGroup) × Unit) :=
  (rm (Ty.bytes TEntry) (0 + List.length a0.1)
  (L0 a1 0 [] 0 0 ([] ++ a0.1) a0.2.1 a0.2.2.1))
def f (k : Nat) (a0 : Ty.den TGroup) (a1 : List (Ty.den TPlace)) : Option ((Ty.den TGroup) × Unit) := t k (l0 k k) a0 a1
end spec_Regroup
namespace spec_l9Group
def t (k : Nat) (a0 : Ty.den Tl1Cur) : Option ((Ty.den Tl1Cur) × (Ty.den TGroup) × Unit) :=
  (Option.bind (spec_l9Places.f k a0) fun r1 =>
  (Option.bind (spec_Regroup.f k ([], (0, (0, ()))) r1.2.1) fun r2 =>
  (Option.bind (spec_l1Once.f k r1.1 10) fun r3 =>
  (bif r3.2.1 then
  (Option.bind (spec_l1Below.f k r3.1 3) fun r4 =>
  (some (r4.1, ((r2.1.1, (r2.1.2.1, r4.2)), ()))))
  else
  (some (r3.1, r2))))))
def f (k : Nat) (a0 : Ty.den Tl1Cur) : Option ((Ty.den Tl1Cur) × (Ty.den TGroup) × Unit) := t k a0
end spec_l9Group
namespace spec_DrawRegroup
def t (k : Nat) (a0 : List Int) : Option ((Ty.den TGroup) × (List (Ty.den TPlace)) × Unit) :=
  (Option.bind (spec_l1New.f k a0) fun r1 =>
  (Option.bind (spec_l1Once.f k r1.2.1 4) fun r2 =>
  (bif r2.2.1 then
  (Option.bind (spec_l9Group.f k r2.1) fun r3 =>
  (Option.bind (spec_l9Places.f k r3.1) fun r4 =>
  (some (r3.2.1, r4.2))))
  else
  (Option.bind (spec_l9Places.f k r2.1) fun r5 =>
  (some (([], (0, (0, ()))), r5.2))))))
def f (k : Nat) (a0 : List Int) : Option ((Ty.den TGroup) × (List (Ty.den TPlace)) × Unit) := t k a0
end spec_DrawRegroup
namespace impl_copyDir
def t (k : Nat) (a0 : List (Ty.den TEntry)) : Option ((List (Ty.den TEntry)) × Unit) :=
  (rm (Ty.bytes TEntry) (List.length a0)
  (some (a0, ())))
def f (k : Nat) (a0 : List (Ty.den TEntry)) : Option ((List (Ty.den TEntry)) × Unit) := t k a0
end impl_copyDir
namespace impl_ownOf
abbrev T0 : Type := List (Ty.den TPlace) → Int → Int → Int → Int → ByteArray → ByteArray → Int → Int → List (Ty.den TPlace) → Option ((List (Ty.den TPlace)) × Unit)
def b0 (k : Nat) (L0 : T0) (x0_0 : List (Ty.den TPlace)) (x0_1 : Int) (x0_2 : Int) (x0_3 : Int) (x0_4 : Int) (x0_5 : ByteArray) (x0_6 : ByteArray) (x0_7 : Int) (x0_8 : Int) (x0_9 : List (Ty.den TPlace)) : Option ((List (Ty.den TPlace)) × Unit) :=
  (bif (decide (x0_2 < x0_1)) then
  (inb x0_2 (List.length x0_0 : Int)
  (bif (x0_3 == 3) then
  (bif ((List.getD x0_0 (Int.toNat x0_2) (Ty.dflt TPlace)).2.2.2.1.2.1 != x0_4) then
  (L0 x0_0 x0_1 (w64 (x0_2 + 1)) x0_3 x0_4 x0_5 x0_6 x0_7 x0_8 x0_9)
  else
  (bif ((List.getD x0_0 (Int.toNat x0_2) (Ty.dflt TPlace)).2.2.2.1.1 == x0_3) then
  (L0 x0_0 x0_1 (w64 (x0_2 + 1)) x0_3 x0_4 x0_5 x0_6 x0_7 x0_8 [])
  else
  (bif (x0_3 == 3) then
  (bif ((List.getD x0_0 (Int.toNat x0_2) (Ty.dflt TPlace)).2.2.2.1.1 == 1) then
  (rm (Ty.bytes TPlace) (List.length x0_9 + 1)
  (L0 x0_0 x0_1 (w64 (x0_2 + 1)) x0_3 x0_4 x0_5 x0_6 x0_7 x0_8 (x0_9 ++ [(List.getD x0_0 (Int.toNat x0_2) (Ty.dflt TPlace))])))
  else
  (bif ((List.getD x0_0 (Int.toNat x0_2) (Ty.dflt TPlace)).2.2.2.1.1 == 2) then
  (bif ((List.getD x0_0 (Int.toNat x0_2) (Ty.dflt TPlace)).2.2.2.1.1 == 2) then
  (rm (Ty.bytes TPlace) (List.length x0_9 + 1)
  (L0 x0_0 x0_1 (w64 (x0_2 + 1)) x0_3 x0_4 x0_5 x0_6 x0_7 x0_8 (x0_9 ++ [(List.getD x0_0 (Int.toNat x0_2) (Ty.dflt TPlace))])))
  else
  (L0 x0_0 x0_1 (w64 (x0_2 + 1)) x0_3 x0_4 x0_5 x0_6 x0_7 x0_8 x0_9))
  else
  (bif (x0_3 == 5) then
  (bif ((List.getD x0_0 (Int.toNat x0_2) (Ty.dflt TPlace)).2.2.2.1.1 == 4) then
  (rm (Ty.bytes TPlace) (List.length x0_9 + 1)
  (L0 x0_0 x0_1 (w64 (x0_2 + 1)) x0_3 x0_4 x0_5 x0_6 x0_7 x0_8 (x0_9 ++ [(List.getD x0_0 (Int.toNat x0_2) (Ty.dflt TPlace))])))
  else
  (L0 x0_0 x0_1 (w64 (x0_2 + 1)) x0_3 x0_4 x0_5 x0_6 x0_7 x0_8 x0_9))
  else
  (L0 x0_0 x0_1 (w64 (x0_2 + 1)) x0_3 x0_4 x0_5 x0_6 x0_7 x0_8 x0_9))))
  else
  (bif (x0_3 == 5) then
  (bif ((List.getD x0_0 (Int.toNat x0_2) (Ty.dflt TPlace)).2.2.2.1.1 == 4) then
  (rm (Ty.bytes TPlace) (List.length x0_9 + 1)
  (L0 x0_0 x0_1 (w64 (x0_2 + 1)) x0_3 x0_4 x0_5 x0_6 x0_7 x0_8 (x0_9 ++ [(List.getD x0_0 (Int.toNat x0_2) (Ty.dflt TPlace))])))
  else
  (L0 x0_0 x0_1 (w64 (x0_2 + 1)) x0_3 x0_4 x0_5 x0_6 x0_7 x0_8 x0_9))
  else
  (L0 x0_0 x0_1 (w64 (x0_2 + 1)) x0_3 x0_4 x0_5 x0_6 x0_7 x0_8 x0_9)))))
  else
  (bif ((List.getD x0_0 (Int.toNat x0_2) (Ty.dflt TPlace)).2.2.2.1.1 == x0_3) then
  (L0 x0_0 x0_1 (w64 (x0_2 + 1)) x0_3 x0_4 x0_5 x0_6 x0_7 x0_8 [])
  else
  (bif (x0_3 == 3) then
  (bif ((List.getD x0_0 (Int.toNat x0_2) (Ty.dflt TPlace)).2.2.2.1.1 == 1) then
  (rm (Ty.bytes TPlace) (List.length x0_9 + 1)
  (L0 x0_0 x0_1 (w64 (x0_2 + 1)) x0_3 x0_4 x0_5 x0_6 x0_7 x0_8 (x0_9 ++ [(List.getD x0_0 (Int.toNat x0_2) (Ty.dflt TPlace))])))
  else
  (bif ((List.getD x0_0 (Int.toNat x0_2) (Ty.dflt TPlace)).2.2.2.1.1 == 2) then
  (bif ((List.getD x0_0 (Int.toNat x0_2) (Ty.dflt TPlace)).2.2.2.1.1 == 2) then
  (rm (Ty.bytes TPlace) (List.length x0_9 + 1)
  (L0 x0_0 x0_1 (w64 (x0_2 + 1)) x0_3 x0_4 x0_5 x0_6 x0_7 x0_8 (x0_9 ++ [(List.getD x0_0 (Int.toNat x0_2) (Ty.dflt TPlace))])))
  else
  (L0 x0_0 x0_1 (w64 (x0_2 + 1)) x0_3 x0_4 x0_5 x0_6 x0_7 x0_8 x0_9))
  else
  (bif (x0_3 == 5) then
  (bif ((List.getD x0_0 (Int.toNat x0_2) (Ty.dflt TPlace)).2.2.2.1.1 == 4) then
  (rm (Ty.bytes TPlace) (List.length x0_9 + 1)
  (L0 x0_0 x0_1 (w64 (x0_2 + 1)) x0_3 x0_4 x0_5 x0_6 x0_7 x0_8 (x0_9 ++ [(List.getD x0_0 (Int.toNat x0_2) (Ty.dflt TPlace))])))
  else
  (L0 x0_0 x0_1 (w64 (x0_2 + 1)) x0_3 x0_4 x0_5 x0_6 x0_7 x0_8 x0_9))
  else
  (L0 x0_0 x0_1 (w64 (x0_2 + 1)) x0_3 x0_4 x0_5 x0_6 x0_7 x0_8 x0_9))))
  else
  (bif (x0_3 == 5) then
  (bif ((List.getD x0_0 (Int.toNat x0_2) (Ty.dflt TPlace)).2.2.2.1.1 == 4) then
  (rm (Ty.bytes TPlace) (List.length x0_9 + 1)
  (L0 x0_0 x0_1 (w64 (x0_2 + 1)) x0_3 x0_4 x0_5 x0_6 x0_7 x0_8 (x0_9 ++ [(List.getD x0_0 (Int.toNat x0_2) (Ty.dflt TPlace))])))
  else
  (L0 x0_0 x0_1 (w64 (x0_2 + 1)) x0_3 x0_4 x0_5 x0_6 x0_7 x0_8 x0_9))
  else
  (L0 x0_0 x0_1 (w64 (x0_2 + 1)) x0_3 x0_4 x0_5 x0_6 x0_7 x0_8 x0_9))))))
  else
  (some (x0_9, ())))
def l0 (k : Nat) : Nat → T0
  | 0 => fun _ _ _ _ _ _ _ _ _ _ => none
  | n + 1 => b0 k (l0 k n)
def t (k : Nat) (L0 : T0) (a0 : List (Ty.den TPlace)) (a1 : Ty.den TRec) : Option ((List (Ty.den TPlace)) × Unit) :=
  (L0 a0 (List.length a0 : Int) 0 a1.1 a1.2.1 a1.2.2.1 a1.2.2.2.1 a1.2.2.2.2.1 a1.2.2.2.2.2.1 [])
def f (k : Nat) (a0 : List (Ty.den TPlace)) (a1 : Ty.den TRec) : Option ((List (Ty.den TPlace)) × Unit) := t k (l0 k k) a0 a1
end impl_ownOf
namespace impl_in
def t (k : Nat) (a0 : Int) (a1 : Int) (a2 : Int) : Option (Bool × Unit) :=
  (bif (decide (a0 ≥ a1)) then
  (some ((decide (a0 ≤ a2)), ()))
  else
  (some (false, ())))
def f (k : Nat) (a0 : Int) (a1 : Int) (a2 : Int) : Option (Bool × Unit) := t k a0 a1 a2
end impl_in
namespace impl_KeyOk
def t (k : Nat) (a0 : ByteArray) : Option (Bool × Unit) :=
  (Option.bind (impl_in.f k (ByteArray.size a0 : Int) 1 8) fun r1 =>
  (some r1))
def f (k : Nat) (a0 : ByteArray) : Option (Bool × Unit) := t k a0
end impl_KeyOk
namespace impl_RecOk
def t (k : Nat) (a0 : Ty.den TRec) : Option (Bool × Unit) :=
  (bif (a0.1 == 1) then
  (bif (a0.1 == 1) then
  (Option.bind (impl_KeyOk.f k a0.2.2.1) fun r1 =>
  (bif r1.1 then
  (bif (decide ((ByteArray.size a0.2.2.2.1 : Int) ≤ 24)) then
  (Option.bind (impl_in.f k a0.2.1 1 1000000) fun r2 =>
  (bif r2.1 then
  (some (((a0.1 == a0.1) && ((a0.2.1 == a0.2.1) && ((seq a0.2.2.1 a0.2.2.1) && ((seq a0.2.2.2.1 a0.2.2.2.1) && ((a0.2.2.2.2.1 == 0) && (a0.2.2.2.2.2.1 == 0)))))), ()))
  else
  (some (false, ()))))
  else
  (some (false, ())))
  else
  (some (false, ()))))
  else
  (bif (a0.1 == 2) then
  (Option.bind (impl_KeyOk.f k a0.2.2.1) fun r3 =>
  (bif r3.1 then
  (Option.bind (impl_in.f k a0.2.1 1 1000000) fun r4 =>
  (bif r4.1 then
  (some (((a0.1 == a0.1) && ((a0.2.1 == a0.2.1) && ((seq a0.2.2.1 a0.2.2.1) && ((seq a0.2.2.2.1 ByteArray.empty) && ((a0.2.2.2.2.1 == 0) && (a0.2.2.2.2.2.1 == 0)))))), ()))
  else
  (some (false, ()))))
  else
  (some (false, ()))))
  else
  (bif (a0.1 == 3) then
  (Option.bind (impl_in.f k a0.2.2.2.2.1 0 8) fun r5 =>
  (bif r5.1 then
  (Option.bind (impl_in.f k a0.2.2.2.2.2.1 0 4294967295) fun r6 =>
  (bif r6.1 then
  (Option.bind (impl_in.f k a0.2.1 1 1000000) fun r7 =>
  (bif r7.1 then
  (some (((a0.1 == a0.1) && ((a0.2.1 == a0.2.1) && ((seq a0.2.2.1 ByteArray.empty) && ((seq a0.2.2.2.1 ByteArray.empty) && ((a0.2.2.2.2.1 == a0.2.2.2.2.1) && (a0.2.2.2.2.2.1 == a0.2.2.2.2.2.1)))))), ()))
  else
  (some (false, ()))))
  else
  (some (false, ()))))
  else
  (some (false, ()))))
  else
  (bif (a0.1 == 5) then
  (Option.bind (impl_in.f k a0.2.2.2.2.1 0 20) fun r8 =>
  (bif r8.1 then
  (Option.bind (impl_in.f k a0.2.2.2.2.2.1 0 4294967295) fun r9 =>
  (bif r9.1 then
  (Option.bind (impl_in.f k a0.2.1 0 1000000) fun r10 =>
  (bif r10.1 then
  (some (((a0.1 == a0.1) && ((a0.2.1 == a0.2.1) && ((seq a0.2.2.1 ByteArray.empty) && ((seq a0.2.2.2.1 ByteArray.empty) && ((a0.2.2.2.2.1 == a0.2.2.2.2.1) && (a0.2.2.2.2.2.1 == a0.2.2.2.2.2.1)))))), ()))
  else
  (some (false, ()))))
  else
  (some (false, ()))))
  else
  (some (false, ()))))
  else
  (some (false, ()))))))
  else
  (bif (a0.1 == 4) then
  (Option.bind (impl_KeyOk.f k a0.2.2.1) fun r11 =>
  (bif r11.1 then
  (bif (decide ((ByteArray.size a0.2.2.2.1 : Int) ≤ 24)) then
  (Option.bind (impl_in.f k a0.2.1 1 1000000) fun r12 =>
  (bif r12.1 then
  (some (((a0.1 == a0.1) && ((a0.2.1 == a0.2.1) && ((seq a0.2.2.1 a0.2.2.1) && ((seq a0.2.2.2.1 a0.2.2.2.1) && ((a0.2.2.2.2.1 == 0) && (a0.2.2.2.2.2.1 == 0)))))), ()))
  else
  (some (false, ()))))
  else
  (some (false, ())))
  else
  (some (false, ()))))
  else
  (bif (a0.1 == 2) then
  (Option.bind (impl_KeyOk.f k a0.2.2.1) fun r13 =>
  (bif r13.1 then
  (Option.bind (impl_in.f k a0.2.1 1 1000000) fun r14 =>
  (bif r14.1 then
  (some (((a0.1 == a0.1) && ((a0.2.1 == a0.2.1) && ((seq a0.2.2.1 a0.2.2.1) && ((seq a0.2.2.2.1 ByteArray.empty) && ((a0.2.2.2.2.1 == 0) && (a0.2.2.2.2.2.1 == 0)))))), ()))
  else
  (some (false, ()))))
  else
  (some (false, ()))))
  else
  (bif (a0.1 == 3) then
  (Option.bind (impl_in.f k a0.2.2.2.2.1 0 8) fun r15 =>
  (bif r15.1 then
  (Option.bind (impl_in.f k a0.2.2.2.2.2.1 0 4294967295) fun r16 =>
  (bif r16.1 then
  (Option.bind (impl_in.f k a0.2.1 1 1000000) fun r17 =>
  (bif r17.1 then
  (some (((a0.1 == a0.1) && ((a0.2.1 == a0.2.1) && ((seq a0.2.2.1 ByteArray.empty) && ((seq a0.2.2.2.1 ByteArray.empty) && ((a0.2.2.2.2.1 == a0.2.2.2.2.1) && (a0.2.2.2.2.2.1 == a0.2.2.2.2.2.1)))))), ()))
  else
  (some (false, ()))))
  else
  (some (false, ()))))
  else
  (some (false, ()))))
  else
  (bif (a0.1 == 5) then
  (Option.bind (impl_in.f k a0.2.2.2.2.1 0 20) fun r18 =>
  (bif r18.1 then
  (Option.bind (impl_in.f k a0.2.2.2.2.2.1 0 4294967295) fun r19 =>
  (bif r19.1 then
  (Option.bind (impl_in.f k a0.2.1 0 1000000) fun r20 =>
  (bif r20.1 then
  (some (((a0.1 == a0.1) && ((a0.2.1 == a0.2.1) && ((seq a0.2.2.1 ByteArray.empty) && ((seq a0.2.2.2.1 ByteArray.empty) && ((a0.2.2.2.2.1 == a0.2.2.2.2.1) && (a0.2.2.2.2.2.1 == a0.2.2.2.2.2.1)))))), ()))
  else
  (some (false, ()))))
  else
  (some (false, ()))))
  else
  (some (false, ()))))
  else
  (some (false, ())))))))
def f (k : Nat) (a0 : Ty.den TRec) : Option (Bool × Unit) := t k a0
end impl_RecOk
namespace impl_Var
abbrev T0 : Type := Int → List Int → Option (ByteArray × Unit)
def b0 (k : Nat) (L0 : T0) (x0_0 : Int) (x0_1 : List Int) : Option (ByteArray × Unit) :=
  (bif (decide (x0_0 > 127)) then
  (rm (Ty.bytes (.int .u8)) (List.length x0_1 + 1)
  (L0 (w64 (Int.tdiv x0_0 128)) (x0_1 ++ [(IntKind.wrap .u8 (w64 ((Int.tmod x0_0 128) + 128)))])))
  else
  (rm (Ty.bytes (.int .u8)) (List.length x0_1 + 1)
  (some ((bytesOf (x0_1 ++ [(IntKind.wrap .u8 x0_0)])), ()))))
def l0 (k : Nat) : Nat → T0
  | 0 => fun _ _ => none
  | n + 1 => b0 k (l0 k n)
def t (k : Nat) (L0 : T0) (a0 : Int) : Option (ByteArray × Unit) :=
  (Option.bind (impl_in.f k a0 0 562949953421311) fun r1 =>
  (bif (!r1.1) then
  (some ((⟨#[]⟩ : ByteArray), ()))
  else
  (L0 a0 [])))
def f (k : Nat) (a0 : Int) : Option (ByteArray × Unit) := t k (l0 k k) a0
end impl_Var
namespace impl_vars
abbrev T0 : Type := ByteArray → List Int → Int → Int → Option (ByteArray × Unit)
def b0 (k : Nat) (L0 : T0) (x0_0 : ByteArray) (x0_1 : List Int) (x0_2 : Int) (x0_3 : Int) : Option (ByteArray × Unit) :=
  (bif (decide (x0_3 < x0_2)) then
  (inb x0_3 (List.length x0_1 : Int)
  (Option.bind (impl_Var.f k (List.getD x0_1 (Int.toNat x0_3) (Ty.dflt (.int .i64)))) fun r1 =>
  (cat x0_0 r1.1
  (L0 (x0_0 ++ r1.1) x0_1 x0_2 (w64 (x0_3 + 1))))))
  else
  (some (x0_0, ())))
def l0 (k : Nat) : Nat → T0
  | 0 => fun _ _ _ _ => none
  | n + 1 => b0 k (l0 k n)
def t (k : Nat) (L0 : T0) (a0 : List Int) : Option (ByteArray × Unit) :=
  (L0 (⟨#[]⟩ : ByteArray) a0 (List.length a0 : Int) 0)
def f (k : Nat) (a0 : List Int) : Option (ByteArray × Unit) := t k (l0 k k) a0
end impl_vars
namespace impl_textOf
def t (k : Nat) (a0 : ByteArray) : Option (ByteArray × Unit) :=
  (Option.bind (impl_Var.f k (ByteArray.size a0 : Int)) fun r1 =>
  (cat r1.1 a0
  (some ((r1.1 ++ a0), ()))))
def f (k : Nat) (a0 : ByteArray) : Option (ByteArray × Unit) := t k a0
end impl_textOf
namespace impl_Fixed
abbrev T0 : Type := Int → Int → List Int → Option (ByteArray × Unit)
def b0 (k : Nat) (L0 : T0) (x0_0 : Int) (x0_1 : Int) (x0_2 : List Int) : Option (ByteArray × Unit) :=
  (bif (decide (x0_1 ≥ 0)) then
  (bif (decide ((w64 (8 * x0_1)) < 0)) then none else
  (rm (Ty.bytes (.int .u8)) (List.length x0_2 + 1)
  (L0 x0_0 (w64 (x0_1 - 1)) (x0_2 ++ [(IntKind.wrap .u8 (Int.fdiv x0_0 (2 ^ (min (Int.toNat (w64 (8 * x0_1))) (IntKind.bits .i64)))))]))))
  else
  (some ((bytesOf x0_2), ())))
def l0 (k : Nat) : Nat → T0
  | 0 => fun _ _ _ => none
  | n + 1 => b0 k (l0 k n)
def t (k : Nat) (L0 : T0) (a0 : Int) (a1 : Int) : Option (ByteArray × Unit) :=
  (Option.bind (impl_in.f k a1 1 7) fun r1 =>
  (bif (!r1.1) then
  (some ((⟨#[]⟩ : ByteArray), ()))
  else
  (bif (decide ((w64 (8 * a1)) < 0)) then none else
  (Option.bind (impl_in.f k a0 0 (w64 ((w64 (1 * 2 ^ (min (Int.toNat (w64 (8 * a1))) (IntKind.bits .i64)))) - 1))) fun r2 =>
  (bif (!r2.1) then
  (some ((⟨#[]⟩ : ByteArray), ()))
  else
  (L0 a0 (w64 (a1 - 1)) []))))))
def f (k : Nat) (a0 : Int) (a1 : Int) : Option (ByteArray × Unit) := t k (l0 k k) a0 a1
end impl_Fixed
namespace impl_ShowRec
def t (k : Nat) (a0 : Ty.den TRec) : Option (ByteArray × Unit) :=
  (Option.bind (impl_RecOk.f k a0) fun r1 =>
  (bif (!r1.1) then
  (some ((⟨#[]⟩ : ByteArray), ()))
  else
  (Option.bind (impl_vars.f k [a0.1, a0.2.1]) fun r2 =>
  (bif (a0.1 == 1) then
  (bif (a0.1 == 1) then
  (Option.bind (impl_textOf.f k a0.2.2.1) fun r3 =>
  (cat r2.1 r3.1
  (Option.bind (impl_textOf.f k a0.2.2.2.1) fun r4 =>
  (cat (r2.1 ++ r3.1) r4.1
  (some (((r2.1 ++ r3.1) ++ r4.1), ()))))))
  else
  (bif (a0.1 == 2) then
  (Option.bind (impl_textOf.f k a0.2.2.1) fun r5 =>
  (cat r2.1 r5.1
  (some ((r2.1 ++ r5.1), ()))))
  else
  (Option.bind (impl_Var.f k a0.2.2.2.2.1) fun r6 =>
  (cat r2.1 r6.1
  (Option.bind (impl_Fixed.f k a0.2.2.2.2.2.1 4) fun r7 =>
  (cat (r2.1 ++ r6.1) r7.1
  (some (((r2.1 ++ r6.1) ++ r7.1), ()))))))))
  else
  (bif (a0.1 == 4) then
  (Option.bind (impl_textOf.f k a0.2.2.1) fun r8 =>
  (cat r2.1 r8.1
  (Option.bind (impl_textOf.f k a0.2.2.2.1) fun r9 =>
  (cat (r2.1 ++ r8.1) r9.1
  (some (((r2.1 ++ r8.1) ++ r9.1), ()))))))
  else
  (bif (a0.1 == 2) then
  (Option.bind (impl_textOf.f k a0.2.2.1) fun r10 =>
  (cat r2.1 r10.1
  (some ((r2.1 ++ r10.1), ()))))
  else
  (Option.bind (impl_Var.f k a0.2.2.2.2.1) fun r11 =>
  (cat r2.1 r11.1
  (Option.bind (impl_Fixed.f k a0.2.2.2.2.2.1 4) fun r12 =>
  (cat (r2.1 ++ r11.1) r12.1
  (some (((r2.1 ++ r11.1) ++ r12.1), ()))))))))))))
def f (k : Nat) (a0 : Ty.den TRec) : Option (ByteArray × Unit) := t k a0
end impl_ShowRec
namespace impl_Crc
abbrev T1 : Type := ByteArray → Int → Int → Int → Option (Int × Unit)
abbrev T0 : Type := ByteArray → Int → Int → Option (Int × Unit)
def b1 (k : Nat) (L0 : T0) (L1 : T1) (x1_0 : ByteArray) (x1_1 : Int) (x1_2 : Int) (x1_3 : Int) : Option (Int × Unit) :=
  (bif (decide (x1_3 < 8)) then
  (bif ((IntKind.wrap .u32 (((BitVec.ofInt (IntKind.bits .u32) x1_1 &&& BitVec.ofInt (IntKind.bits .u32) 1).toNat : Int))) == 1) then
  (L1 x1_0 (IntKind.wrap .u32 (((BitVec.ofInt (IntKind.bits .u32) (Int.fdiv x1_1 (2 ^ (Int.toNat 1))) ^^^ BitVec.ofInt (IntKind.bits .u32) 2197175160).toNat : Int))) x1_2 (w64 (x1_3 + 1)))
  else
  (L1 x1_0 (Int.fdiv x1_1 (2 ^ (Int.toNat 1))) x1_2 (w64 (x1_3 + 1))))
  else
  (L0 x1_0 x1_1 (w64 (x1_2 + 1))))
def l1 (k : Nat) (L0 : T0) : Nat → T1
  | 0 => fun _ _ _ _ => none
  | n + 1 => b1 k L0 (l1 k L0 n)
def b0 (k : Nat) (L1 : T1) (L0 : T0) (x0_0 : ByteArray) (x0_1 : Int) (x0_2 : Int) : Option (Int × Unit) :=
  (bif (decide (x0_2 < (ByteArray.size x0_0 : Int))) then
  (inb x0_2 (ByteArray.size x0_0 : Int)
  (L1 x0_0 (IntKind.wrap .u32 (((BitVec.ofInt (IntKind.bits .u32) x0_1 ^^^ BitVec.ofInt (IntKind.bits .u32) (IntKind.wrap .u32 (byteAt x0_0 x0_2))).toNat : Int))) x0_2 0))
  else
  (some ((w64 (bitNot .u32 x0_1)), ())))
def l0 (k : Nat) : Nat → T0
  | 0 => fun _ _ _ => none
  | n + 1 => b0 k (l1 k (l0 k n) k) (l0 k n)
def t (k : Nat) (L0 : T0) (a0 : ByteArray) : Option (Int × Unit) :=
  (L0 a0 4294967295 0)
def f (k : Nat) (a0 : ByteArray) : Option (Int × Unit) := t k (l0 k k) a0
end impl_Crc
namespace impl_SumOf
abbrev T0 : Type := ByteArray → List (Ty.den TRec) → Int → Int → Option (Int × Unit)
def b0 (k : Nat) (L0 : T0) (x0_0 : ByteArray) (x0_1 : List (Ty.den TRec)) (x0_2 : Int) (x0_3 : Int) : Option (Int × Unit) :=
  (bif (decide (x0_3 < x0_2)) then
  (inb x0_3 (List.length x0_1 : Int)
  (Option.bind (impl_ShowRec.f k (List.getD x0_1 (Int.toNat x0_3) (Ty.dflt TRec))) fun r1 =>
  (cat x0_0 r1.1
  (L0 (x0_0 ++ r1.1) x0_1 x0_2 (w64 (x0_3 + 1))))))
  else
  (Option.bind (impl_Crc.f k x0_0) fun r2 =>
  (some r2)))
def l0 (k : Nat) : Nat → T0
  | 0 => fun _ _ _ _ => none
  | n + 1 => b0 k (l0 k n)
def t (k : Nat) (L0 : T0) (a0 : List (Ty.den TRec)) : Option (Int × Unit) :=
  (L0 (⟨#[]⟩ : ByteArray) a0 (List.length a0 : Int) 0)
def f (k : Nat) (a0 : List (Ty.den TRec)) : Option (Int × Unit) := t k (l0 k k) a0
end impl_SumOf
namespace impl_fits
abbrev T0 : Type := List (Ty.den TPlace) → Int → Int → Int → Int → ByteArray → ByteArray → Int → Int → List (Ty.den TRec) → Option (Bool × Unit)
def b0 (k : Nat) (L0 : T0) (x0_0 : List (Ty.den TPlace)) (x0_1 : Int) (x0_2 : Int) (x0_3 : Int) (x0_4 : Int) (x0_5 : ByteArray) (x0_6 : ByteArray) (x0_7 : Int) (x0_8 : Int) (x0_9 : List (Ty.den TRec)) : Option (Bool × Unit) :=
  (bif (decide (x0_2 < x0_1)) then
  (inb x0_2 (List.length x0_0 : Int)
  (rm (Ty.bytes TRec) (List.length x0_9 + 1)
  (L0 x0_0 x0_1 (w64 (x0_2 + 1)) x0_3 x0_4 x0_5 x0_6 x0_7 x0_8 (x0_9 ++ [(List.getD x0_0 (Int.toNat x0_2) (Ty.dflt TPlace)).2.2.2.1]))))
  else
  (bif (x0_7 == (List.length x0_9 : Int)) then
  (Option.bind (impl_SumOf.f k x0_9) fun r1 =>
  (some ((x0_8 == r1.1), ())))
  else
  (some (false, ()))))
def l0 (k : Nat) : Nat → T0
  | 0 => fun _ _ _ _ _ _ _ _ _ _ => none
  | n + 1 => b0 k (l0 k n)
def t (k : Nat) (L0 : T0) (a0 : Ty.den TRec) (a1 : List (Ty.den TPlace)) : Option (Bool × Unit) :=
  (L0 a1 (List.length a1 : Int) 0 a0.1 a0.2.1 a0.2.2.1 a0.2.2.2.1 a0.2.2.2.2.1 a0.2.2.2.2.2.1 [])
def f (k : Nat) (a0 : Ty.den TRec) (a1 : List (Ty.den TPlace)) : Option (Bool × Unit) := t k (l0 k k) a0 a1
end impl_fits
namespace impl_DirDrop
abbrev T0 : Type := ByteArray → List (Ty.den TEntry) → Int → Int → List (Ty.den TEntry) → Option ((List (Ty.den TEntry)) × Unit)
def b0 (k : Nat) (L0 : T0) (x0_0 : ByteArray) (x0_1 : List (Ty.den TEntry)) (x0_2 : Int) (x0_3 : Int) (x0_4 : List (Ty.den TEntry)) : Option ((List (Ty.den TEntry)) × Unit) :=
  (bif (decide (x0_3 < x0_2)) then
  (inb x0_3 (List.length x0_1 : Int)
  (bif (!(seq (List.getD x0_1 (Int.toNat x0_3) (Ty.dflt TEntry)).1 x0_0)) then
  (rm (Ty.bytes TEntry) (List.length x0_4 + 1)
  (L0 x0_0 x0_1 x0_2 (w64 (x0_3 + 1)) (x0_4 ++ [(List.getD x0_1 (Int.toNat x0_3) (Ty.dflt TEntry))])))
  else
  (L0 x0_0 x0_1 x0_2 (w64 (x0_3 + 1)) x0_4)))
  else
  (some (x0_4, ())))
def l0 (k : Nat) : Nat → T0
  | 0 => fun _ _ _ _ _ => none
  | n + 1 => b0 k (l0 k n)
def t (k : Nat) (L0 : T0) (a0 : List (Ty.den TEntry)) (a1 : ByteArray) : Option ((List (Ty.den TEntry)) × Unit) :=
  (L0 a1 a0 (List.length a0 : Int) 0 [])
def f (k : Nat) (a0 : List (Ty.den TEntry)) (a1 : ByteArray) : Option ((List (Ty.den TEntry)) × Unit) := t k (l0 k k) a0 a1
end impl_DirDrop
namespace impl_DirPut
abbrev T0 : Type := Int → ByteArray → Int → Int → Int → Int → List (Ty.den TEntry) → Option ((List (Ty.den TEntry)) × Unit)
def b0 (k : Nat) (L0 : T0) (x0_0 : Int) (x0_1 : ByteArray) (x0_2 : Int) (x0_3 : Int) (x0_4 : Int) (x0_5 : Int) (x0_6 : List (Ty.den TEntry)) : Option ((List (Ty.den TEntry)) × Unit) :=
  (bif (decide (x0_0 < (List.length x0_6 : Int))) then
  (inb x0_0 (List.length x0_6 : Int)
  (bif ((sls (List.getD x0_6 (Int.toNat x0_0) (Ty.dflt TEntry)).1 x0_1) || (seq (List.getD x0_6 (Int.toNat x0_0) (Ty.dflt TEntry)).1 x0_1)) then
  (L0 (w64 (x0_0 + 1)) x0_1 x0_2 x0_3 x0_4 x0_5 x0_6)
  else
  (inc x0_0 (List.length x0_6 : Int)
  (Option.bind (impl_copyDir.f k (List.take (Int.toNat x0_0) x0_6)) fun r2 =>
  (rm (Ty.bytes TEntry) (List.length r2.1 + 1)
  (inc x0_0 (List.length x0_6 : Int)
  (rm (Ty.bytes TEntry) (List.length (r2.1 ++ [(x0_1, (x0_2, (x0_3, (x0_4, (x0_5, ())))))]) + List.length (List.drop (Int.toNat x0_0) x0_6))
  (some (((r2.1 ++ [(x0_1, (x0_2, (x0_3, (x0_4, (x0_5, ())))))]) ++ (List.drop (Int.toNat x0_0) x0_6)), ())))))))))
  else
  (inc x0_0 (List.length x0_6 : Int)
  (Option.bind (impl_copyDir.f k (List.take (Int.toNat x0_0) x0_6)) fun r3 =>
  (rm (Ty.bytes TEntry) (List.length r3.1 + 1)
  (inc x0_0 (List.length x0_6 : Int)
  (rm (Ty.bytes TEntry) (List.length (r3.1 ++ [(x0_1, (x0_2, (x0_3, (x0_4, (x0_5, ())))))]) + List.length (List.drop (Int.toNat x0_0) x0_6))
  (some (((r3.1 ++ [(x0_1, (x0_2, (x0_3, (x0_4, (x0_5, ())))))]) ++ (List.drop (Int.toNat x0_0) x0_6)), ()))))))))
def l0 (k : Nat) : Nat → T0
  | 0 => fun _ _ _ _ _ _ _ => none
  | n + 1 => b0 k (l0 k n)
def t (k : Nat) (L0 : T0) (a0 : List (Ty.den TEntry)) (a1 : Ty.den TEntry) : Option ((List (Ty.den TEntry)) × Unit) :=
  (Option.bind (impl_DirDrop.f k a0 a1.1) fun r1 =>
  (L0 0 a1.1 a1.2.1 a1.2.2.1 a1.2.2.2.1 a1.2.2.2.2.1 r1.1))
def f (k : Nat) (a0 : List (Ty.den TEntry)) (a1 : Ty.den TEntry) : Option ((List (Ty.den TEntry)) × Unit) := t k (l0 k k) a0 a1
end impl_DirPut
namespace impl_Group__apply
abbrev T0 : Type := List (Ty.den TPlace) → Int → Int → List (Ty.den TEntry) → Int → Int → Option ((Ty.den TGroup) × Unit)
def b0 (k : Nat) (L0 : T0) (x0_0 : List (Ty.den TPlace)) (x0_1 : Int) (x0_2 : Int) (x0_3 : List (Ty.den TEntry)) (x0_4 : Int) (x0_5 : Int) : Option ((Ty.den TGroup) × Unit) :=
  (bif (decide (x0_2 < x0_1)) then
  (inb x0_2 (List.length x0_0 : Int)
  (bif ((List.getD x0_0 (Int.toNat x0_2) (Ty.dflt TPlace)).2.2.2.1.1 == 2) then
  (Option.bind (impl_DirDrop.f k x0_3 (List.getD x0_0 (Int.toNat x0_2) (Ty.dflt TPlace)).2.2.2.1.2.2.1) fun r1 =>
  (L0 x0_0 x0_1 (w64 (x0_2 + 1)) r1.1 x0_4 x0_5))
  else
  (Option.bind (impl_DirPut.f k x0_3 ((List.getD x0_0 (Int.toNat x0_2) (Ty.dflt TPlace)).2.2.2.1.2.2.1, ((List.getD x0_0 (Int.toNat x0_2) (Ty.dflt TPlace)).1, ((List.getD x0_0 (Int.toNat x0_2) (Ty.dflt TPlace)).2.1, ((List.getD x0_0 (Int.toNat x0_2) (Ty.dflt TPlace)).2.2.1, ((List.getD x0_0 (Int.toNat x0_2) (Ty.dflt TPlace)).2.2.2.1.2.1, ())))))) fun r2 =>
  (L0 x0_0 x0_1 (w64 (x0_2 + 1)) r2.1 x0_4 x0_5))))
  else
  (bif (decide ((List.length x0_3 : Int) > 20)) then
  (some ((x0_3, (x0_4, (2, ()))), ()))
  else
  (some ((x0_3, (x0_4, (x0_5, ()))), ()))))
def l0 (k : Nat) : Nat → T0
  | 0 => fun _ _ _ _ _ _ => none
  | n + 1 => b0 k (l0 k n)
def t (k : Nat) (L0 : T0) (a0 : Ty.den TGroup) (a1 : List (Ty.den TPlace)) : Option ((Ty.den TGroup) × Unit) :=
  (L0 a1 (List.length a1 : Int) 0 a0.1 a0.2.1 a0.2.2.1)
def f (k : Nat) (a0 : Ty.den TGroup) (a1 : List (Ty.den TPlace)) : Option ((Ty.den TGroup) × Unit) := t k (l0 k k) a0 a1
end impl_Group__apply
namespace impl_Regroup
abbrev T0 : Type := List (Ty.den TPlace) → List (Ty.den TPlace) → Int → Int → List (Ty.den TEntry) → Int → Int → List (Ty.den TEntry) → Int → Int → Option ((Ty.den TGroup) × Unit)
def b0 (k : Nat) (L0 : T0) (x0_0 : List (Ty.den TPlace)) (x0_1 : List (Ty.den TPlace)) (x0_2 : Int) (x0_3 : Int) (x0_4 : List (Ty.den TEntry)) (x0_5 : Int) (x0_6 : Int) (x0_7 : List (Ty.den TEntry)) (x0_8 : Int) (x0_9 : Int) : Option ((Ty.den TGroup) × Unit) :=
  (bif (decide (x0_3 < x0_2)) then
  (inb x0_3 (List.length x0_1 : Int)
  (bif (x0_9 != 0) then
  (some ((x0_7, (x0_8, (x0_9, ()))), ()))
  else
  (bif ((List.getD x0_1 (Int.toNat x0_3) (Ty.dflt TPlace)).2.2.2.1.1 != 3) then
  (bif ((List.getD x0_1 (Int.toNat x0_3) (Ty.dflt TPlace)).2.2.2.1.1 != 5) then
  (L0 x0_0 x0_1 x0_2 (w64 (x0_3 + 1)) x0_4 x0_5 x0_6 x0_7 (if (List.getD x0_1 (Int.toNat x0_3) (Ty.dflt TPlace)).2.2.2.1.2.1 > x0_8 then (List.getD x0_1 (Int.toNat x0_3) (Ty.dflt TPlace)).2.2.2.1.2.1 else x0_8) x0_9)
  else
  (inc x0_3 (List.length x0_0 : Int)
  (Option.bind (impl_ownOf.f k (List.take (Int.toNat x0_3) x0_0) (List.getD x0_1 (Int.toNat x0_3) (Ty.dflt TPlace)).2.2.2.1) fun r2 =>
  (Option.bind (impl_fits.f k (List.getD x0_1 (Int.toNat x0_3) (Ty.dflt TPlace)).2.2.2.1 r2.1) fun r3 =>
  (bif r3.1 then
  (Option.bind (impl_Group__apply.f k (x0_7, ((if (List.getD x0_1 (Int.toNat x0_3) (Ty.dflt TPlace)).2.2.2.1.2.1 > x0_8 then (List.getD x0_1 (Int.toNat x0_3) (Ty.dflt TPlace)).2.2.2.1.2.1 else x0_8), (x0_9, ()))) r2.1) fun r4 =>
  (L0 x0_0 x0_1 x0_2 (w64 (x0_3 + 1)) x0_4 x0_5 x0_6 r4.1.1 r4.1.2.1 r4.1.2.2.1))
  else
  (bif ((List.getD x0_1 (Int.toNat x0_3) (Ty.dflt TPlace)).2.2.2.1.1 == 5) then
  (L0 x0_0 x0_1 x0_2 (w64 (x0_3 + 1)) x0_4 x0_5 x0_6 x0_7 (if (List.getD x0_1 (Int.toNat x0_3) (Ty.dflt TPlace)).2.2.2.1.2.1 > x0_8 then (List.getD x0_1 (Int.toNat x0_3) (Ty.dflt TPlace)).2.2.2.1.2.1 else x0_8) 1)
  else
  (L0 x0_0 x0_1 x0_2 (w64 (x0_3 + 1)) x0_4 x0_5 x0_6 x0_7 (if (List.getD x0_1 (Int.toNat x0_3) (Ty.dflt TPlace)).2.2.2.1.2.1 > x0_8 then (List.getD x0_1 (Int.toNat x0_3) (Ty.dflt TPlace)).2.2.2.1.2.1 else x0_8) x0_9)))))))
  else
  (inc x0_3 (List.length x0_0 : Int)
  (Option.bind (impl_ownOf.f k (List.take (Int.toNat x0_3) x0_0) (List.getD x0_1 (Int.toNat x0_3) (Ty.dflt TPlace)).2.2.2.1) fun r5 =>
  (Option.bind (impl_fits.f k (List.getD x0_1 (Int.toNat x0_3) (Ty.dflt TPlace)).2.2.2.1 r5.1) fun r6 =>
  (bif r6.1 then
  (Option.bind (impl_Group__apply.f k (x0_7, ((if (List.getD x0_1 (Int.toNat x0_3) (Ty.dflt TPlace)).2.2.2.1.2.1 > x0_8 then (List.getD x0_1 (Int.toNat x0_3) (Ty.dflt TPlace)).2.2.2.1.2.1 else x0_8), (x0_9, ()))) r5.1) fun r7 =>
  (L0 x0_0 x0_1 x0_2 (w64 (x0_3 + 1)) x0_4 x0_5 x0_6 r7.1.1 r7.1.2.1 r7.1.2.2.1))
  else
  (bif ((List.getD x0_1 (Int.toNat x0_3) (Ty.dflt TPlace)).2.2.2.1.1 == 5) then
  (L0 x0_0 x0_1 x0_2 (w64 (x0_3 + 1)) x0_4 x0_5 x0_6 x0_7 (if (List.getD x0_1 (Int.toNat x0_3) (Ty.dflt TPlace)).2.2.2.1.2.1 > x0_8 then (List.getD x0_1 (Int.toNat x0_3) (Ty.dflt TPlace)).2.2.2.1.2.1 else x0_8) 1)
  else
  (L0 x0_0 x0_1 x0_2 (w64 (x0_3 + 1)) x0_4 x0_5 x0_6 x0_7 (if (List.getD x0_1 (Int.toNat x0_3) (Ty.dflt TPlace)).2.2.2.1.2.1 > x0_8 then (List.getD x0_1 (Int.toNat x0_3) (Ty.dflt TPlace)).2.2.2.1.2.1 else x0_8) x0_9)))))))))
  else
  (bif (x0_9 == 0) then
  (Option.bind (impl_ownOf.f k x0_0 (5, (0, (ByteArray.empty, (ByteArray.empty, (0, (0, ()))))))) fun r8 =>
  (bif (decide ((List.length r8.1 : Int) > 0)) then
  (some ((x0_7, (x0_8, (1, ()))), ()))
  else
  (some ((x0_7, (x0_8, (x0_9, ()))), ()))))
  else
  (some ((x0_7, (x0_8, (x0_9, ()))), ()))))
def l0 (k : Nat) : Nat → T0
  | 0 => fun _ _ _ _ _ _ _ _ _ _ => none
  | n + 1 => b0 k (l0 k n)
def t (k : Nat) (L0 : T0) (a0 : Ty.den TGroup) (a1 : List (Ty.den TPlace)) : Option ((Ty.den TGroup) × Unit) :=
  (Option.bind (impl_copyDir.f k a0.1) fun r1 =>
  (L0 a1 a1 (List.length a1 : Int) 0 [] 0 0 r1.1 a0.2.1 a0.2.2.1))
def f (k : Nat) (a0 : Ty.den TGroup) (a1 : List (Ty.den TPlace)) : Option ((Ty.den TGroup) × Unit) := t k (l0 k k) a0 a1
end impl_Regroup
namespace spec_SameDir
abbrev T0 : Type := List (Ty.den TEntry) → List (Ty.den TEntry) → Int → Option (Bool × Unit)
def b0 (k : Nat) (L0 : T0) (x0_0 : List (Ty.den TEntry)) (x0_1 : List (Ty.den TEntry)) (x0_2 : Int) : Option (Bool × Unit) :=
  (bif (decide (x0_2 < (List.length x0_0 : Int))) then
  (inb x0_2 (List.length x0_0 : Int)
  (inb x0_2 (List.length x0_1 : Int)
  (bif (!((seq (List.getD x0_0 (Int.toNat x0_2) (Ty.dflt TEntry)).1 (List.getD x0_1 (Int.toNat x0_2) (Ty.dflt TEntry)).1) && (((List.getD x0_0 (Int.toNat x0_2) (Ty.dflt TEntry)).2.1 == (List.getD x0_1 (Int.toNat x0_2) (Ty.dflt TEntry)).2.1) && (((List.getD x0_0 (Int.toNat x0_2) (Ty.dflt TEntry)).2.2.1 == (List.getD x0_1 (Int.toNat x0_2) (Ty.dflt TEntry)).2.2.1) && (((List.getD x0_0 (Int.toNat x0_2) (Ty.dflt TEntry)).2.2.2.1 == (List.getD x0_1 (Int.toNat x0_2) (Ty.dflt TEntry)).2.2.2.1) && ((List.getD x0_0 (Int.toNat x0_2) (Ty.dflt TEntry)).2.2.2.2.1 == (List.getD x0_1 (Int.toNat x0_2) (Ty.dflt TEntry)).2.2.2.2.1)))))) then
  (some (false, ()))
  else
  (L0 x0_0 x0_1 (w64 (x0_2 + 1))))))
  else
  (some (true, ())))
def l0 (k : Nat) : Nat → T0
  | 0 => fun _ _ _ => none
  | n + 1 => b0 k (l0 k n)
def t (k : Nat) (L0 : T0) (a0 : List (Ty.den TEntry)) (a1 : List (Ty.den TEntry)) : Option (Bool × Unit) :=
  (bif ((List.length a0 : Int) != (List.length a1 : Int)) then
  (some (false, ()))
  else
  (L0 a0 a1 0))
def f (k : Nat) (a0 : List (Ty.den TEntry)) (a1 : List (Ty.den TEntry)) : Option (Bool × Unit) := t k (l0 k k) a0 a1
end spec_SameDir
namespace impl_Sealed
abbrev T0 : Type := List (Ty.den TPlace) → List (Ty.den TPlace) → Int → Int → List Int → Option ((List Int) × Unit)
def b0 (k : Nat) (L0 : T0) (x0_0 : List (Ty.den TPlace)) (x0_1 : List (Ty.den TPlace)) (x0_2 : Int) (x0_3 : Int) (x0_4 : List Int) : Option ((List Int) × Unit) :=
  (bif (decide (x0_3 < x0_2)) then
  (inb x0_3 (List.length x0_1 : Int)
  (bif ((List.getD x0_1 (Int.toNat x0_3) (Ty.dflt TPlace)).2.2.2.1.1 == 3) then
  (inc x0_3 (List.length x0_0 : Int)
  (Option.bind (impl_ownOf.f k (List.take (Int.toNat x0_3) x0_0) (List.getD x0_1 (Int.toNat x0_3) (Ty.dflt TPlace)).2.2.2.1) fun r1 =>
  (Option.bind (impl_fits.f k (List.getD x0_1 (Int.toNat x0_3) (Ty.dflt TPlace)).2.2.2.1 r1.1) fun r2 =>
  (bif r2.1 then
  (rm (Ty.bytes (.int .i64)) (List.length x0_4 + 1)
  (L0 x0_0 x0_1 x0_2 (w64 (x0_3 + 1)) (x0_4 ++ [(List.getD x0_1 (Int.toNat x0_3) (Ty.dflt TPlace)).2.2.2.1.2.1])))
  else
  (L0 x0_0 x0_1 x0_2 (w64 (x0_3 + 1)) x0_4)))))
  else
  (L0 x0_0 x0_1 x0_2 (w64 (x0_3 + 1)) x0_4)))
  else
  (some (x0_4, ())))
def l0 (k : Nat) : Nat → T0
  | 0 => fun _ _ _ _ _ => none
  | n + 1 => b0 k (l0 k n)
def t (k : Nat) (L0 : T0) (a0 : List (Ty.den TPlace)) : Option ((List Int) × Unit) :=
  (L0 a0 a0 (List.length a0 : Int) 0 [])
def f (k : Nat) (a0 : List (Ty.den TPlace)) : Option ((List Int) × Unit) := t k (l0 k k) a0
end impl_Sealed
namespace laws_has
abbrev T0 : Type := List Int → Int → Int → Option (Bool × Unit)
def b0 (k : Nat) (L0 : T0) (x0_0 : List Int) (x0_1 : Int) (x0_2 : Int) : Option (Bool × Unit) :=
  (bif (decide (x0_2 < (List.length x0_0 : Int))) then
  (inb x0_2 (List.length x0_0 : Int)
  (bif ((List.getD x0_0 (Int.toNat x0_2) (Ty.dflt (.int .i64))) == x0_1) then
  (some (true, ()))
  else
  (L0 x0_0 x0_1 (w64 (x0_2 + 1)))))
  else
  (some (false, ())))
def l0 (k : Nat) : Nat → T0
  | 0 => fun _ _ _ => none
  | n + 1 => b0 k (l0 k n)
def t (k : Nat) (L0 : T0) (a0 : List Int) (a1 : Int) : Option (Bool × Unit) :=
  (L0 a0 a1 0)
def f (k : Nat) (a0 : List Int) (a1 : Int) : Option (Bool × Unit) := t k (l0 k k) a0 a1
end laws_has
namespace laws_FnGroups
abbrev T1 : Type := Int → List (Ty.den TEntry) → Int → Int → List Int → List (Ty.den TPlace) → Option (Bool × Unit)
abbrev T0 : Type := Int → List (Ty.den TPlace) → List (Ty.den TEntry) → Int → Int → List Int → List (Ty.den TPlace) → Option (Bool × Unit)
def b1 (k : Nat) (L1 : T1) (x1_0 : Int) (x1_1 : List (Ty.den TEntry)) (x1_2 : Int) (x1_3 : Int) (x1_4 : List Int) (x1_5 : List (Ty.den TPlace)) : Option (Bool × Unit) :=
  (bif (decide (x1_0 < (List.length x1_5 : Int))) then
  (inb x1_0 (List.length x1_5 : Int)
  (bif ((List.getD x1_5 (Int.toNat x1_0) (Ty.dflt TPlace)).2.2.2.1.1 == 3) then
  (inb x1_0 (List.length x1_5 : Int)
  (Option.bind (laws_has.f k x1_4 (List.getD x1_5 (Int.toNat x1_0) (Ty.dflt TPlace)).2.2.2.1.2.1) fun r10 =>
  (bif (!r10.1) then
  (inb x1_0 (List.length x1_5 : Int)
  (bif ((List.getD x1_5 (Int.toNat x1_0) (Ty.dflt TPlace)).2.2.2.1.2.2.2.2.1 == 0) then
  (some (true, ()))
  else
  (L1 (w64 (x1_0 + 1)) x1_1 x1_2 x1_3 x1_4 x1_5)))
  else
  (L1 (w64 (x1_0 + 1)) x1_1 x1_2 x1_3 x1_4 x1_5))))
  else
  (L1 (w64 (x1_0 + 1)) x1_1 x1_2 x1_3 x1_4 x1_5)))
  else
  (Option.bind (impl_Regroup.f k ([], (0, (0, ()))) x1_5) fun r11 =>
  (bif (r11.1.2.2.1 == x1_3) then
  (Option.bind (spec_SameDir.f k r11.1.1 x1_1) fun r12 =>
  (bif r12.1 then
  (some ((decide (r11.1.2.1 ≤ x1_2)), ()))
  else
  (some (false, ()))))
  else
  (some (false, ())))))
def l1 (k : Nat) : Nat → T1
  | 0 => fun _ _ _ _ _ _ => none
  | n + 1 => b1 k (l1 k n)
def b0 (k : Nat) (L1 : T1) (L0 : T0) (x0_0 : Int) (x0_1 : List (Ty.den TPlace)) (x0_2 : List (Ty.den TEntry)) (x0_3 : Int) (x0_4 : Int) (x0_5 : List Int) (x0_6 : List (Ty.den TPlace)) : Option (Bool × Unit) :=
  (bif (decide (x0_0 < (List.length x0_1 : Int))) then
  (inb x0_0 (List.length x0_1 : Int)
  (bif ((List.getD x0_1 (Int.toNat x0_0) (Ty.dflt TPlace)).2.2.2.1.1 == 1) then
  (Option.bind (laws_has.f k x0_5 (List.getD x0_1 (Int.toNat x0_0) (Ty.dflt TPlace)).2.2.2.1.2.1) fun r7 =>
  (bif (!r7.1) then
  (L0 (w64 (x0_0 + 1)) x0_1 x0_2 x0_3 x0_4 x0_5 x0_6)
  else
  (bif ((List.getD x0_1 (Int.toNat x0_0) (Ty.dflt TPlace)).2.2.2.1.1 == 2) then
  (Option.bind (laws_has.f k x0_5 (List.getD x0_1 (Int.toNat x0_0) (Ty.dflt TPlace)).2.2.2.1.2.1) fun r8 =>
  (bif (!r8.1) then
  (L0 (w64 (x0_0 + 1)) x0_1 x0_2 x0_3 x0_4 x0_5 x0_6)
  else
  (inb x0_0 (List.length x0_1 : Int)
  (rm (Ty.bytes TPlace) (List.length x0_6 + 1)
  (L0 (w64 (x0_0 + 1)) x0_1 x0_2 x0_3 x0_4 x0_5 (x0_6 ++ [(List.getD x0_1 (Int.toNat x0_0) (Ty.dflt TPlace))]))))))
  else
  (inb x0_0 (List.length x0_1 : Int)
  (rm (Ty.bytes TPlace) (List.length x0_6 + 1)
  (L0 (w64 (x0_0 + 1)) x0_1 x0_2 x0_3 x0_4 x0_5 (x0_6 ++ [(List.getD x0_1 (Int.toNat x0_0) (Ty.dflt TPlace))])))))))
  else
  (bif ((List.getD x0_1 (Int.toNat x0_0) (Ty.dflt TPlace)).2.2.2.1.1 == 2) then
  (Option.bind (laws_has.f k x0_5 (List.getD x0_1 (Int.toNat x0_0) (Ty.dflt TPlace)).2.2.2.1.2.1) fun r9 =>
  (bif (!r9.1) then
  (L0 (w64 (x0_0 + 1)) x0_1 x0_2 x0_3 x0_4 x0_5 x0_6)
  else
  (inb x0_0 (List.length x0_1 : Int)
  (rm (Ty.bytes TPlace) (List.length x0_6 + 1)
  (L0 (w64 (x0_0 + 1)) x0_1 x0_2 x0_3 x0_4 x0_5 (x0_6 ++ [(List.getD x0_1 (Int.toNat x0_0) (Ty.dflt TPlace))]))))))
  else
  (inb x0_0 (List.length x0_1 : Int)
  (rm (Ty.bytes TPlace) (List.length x0_6 + 1)
  (L0 (w64 (x0_0 + 1)) x0_1 x0_2 x0_3 x0_4 x0_5 (x0_6 ++ [(List.getD x0_1 (Int.toNat x0_0) (Ty.dflt TPlace))])))))))
  else
  (L1 0 x0_2 x0_3 x0_4 x0_5 x0_6))
def l0 (k : Nat) : Nat → T0
  | 0 => fun _ _ _ _ _ _ _ => none
  | n + 1 => b0 k (l1 k k) (l0 k n)
def t (k : Nat) (L0 : T0) (a0 : List Int) : Option (Bool × Unit) :=
  (Option.bind (laws_big.f k a0) fun r1 =>
  (bif r1.1 then
  (some (true, ()))
  else
  (Option.bind (spec_DrawRegroup.f k a0) fun r2 =>
  (Option.bind (impl_Regroup.f k ([], (0, (0, ()))) r2.2.1) fun r3 =>
  (Option.bind (spec_Regroup.f k ([], (0, (0, ()))) r2.2.1) fun r4 =>
  (bif (r3.1.2.2.1 != r4.1.2.2.1) then
  (some (false, ()))
  else
  (bif (r3.1.2.1 != r4.1.2.1) then
  (some (false, ()))
  else
  (Option.bind (spec_SameDir.f k r3.1.1 r4.1.1) fun r5 =>
  (bif (!r5.1) then
  (some (false, ()))
  else
  (Option.bind (impl_Sealed.f k r2.2.1) fun r6 =>
  (L0 0 r2.2.1 r3.1.1 r3.1.2.1 r3.1.2.2.1 r6.1 [])))))))))))
def f (k : Nat) (a0 : List Int) : Option (Bool × Unit) := t k (l0 k k) a0
end laws_FnGroups
end Go.Proofs.Ytiigjojchlplpaa.G

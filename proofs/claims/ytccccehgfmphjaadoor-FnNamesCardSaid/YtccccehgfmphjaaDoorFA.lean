/- Functions, as V runs them. -/
import Derived.Test.YtccccehgfmphjaaDoorVWords
import Derived.Test.YtccccehgfmphjaaDoorXLib
set_option linter.unusedVariables false
namespace Go.Proofs.YtccccehgfmphjaaDoor.G
open Go.V
abbrev TFile : Ty := .pair .str (.pair .str (.pair (.int .i64) .unit))
abbrev TDisk : Ty := .pair (.slice TFile) (.pair (.int .i64) (.pair (.int .i64) (.pair .bool .unit)))
abbrev TLive : Ty := .pair (.int .i64) (.pair (.slice (.int .i64)) .unit)
abbrev Tl1Cur : Ty := .pair (.slice (.int .u8)) (.pair (.int .i64) (.pair (.int .i64) .unit))
abbrev Tscanner : Ty := .pair .str (.pair .bool .unit)
namespace laws_big
def t (k : Nat) (a0 : List Int) : Option (Bool × Unit) :=
  (some ((decide ((List.length a0 : Int) > 1048576)), ()))
def f (k : Nat) (a0 : List Int) : Option (Bool × Unit) := t k a0
end laws_big
namespace spec_l1New
abbrev T0 : Type := List Int → Int → Int → Option (Unit × (Ty.den Tl1Cur) × Unit)
def b0 (k : Nat) (L0 : T0) (x0_0 : List Int) (x0_1 : Int) (x0_2 : Int) : Option (Unit × (Ty.den Tl1Cur) × Unit) :=
  (bif (decide (x0_2 < (List.length x0_0 : Int))) then
  (bif (decide (x0_2 < 4000)) then
  (inb x0_2 (List.length x0_0 : Int)
  (L0 x0_0 (w64 (((BitVec.ofInt (IntKind.bits .i64) (w64 ((w64 ((w64 (x0_1 * 131)) + (w64 (List.getD x0_0 (Int.toNat x0_2) (Ty.dflt (.int .u8)))))) + 7)) &&& BitVec.ofInt (IntKind.bits .i64) 1073741823).toNat : Int))) (w64 (x0_2 + 1))))
  else
  (some ((), ((x0_0, (0, (x0_1, ()))), ()))))
  else
  (some ((), ((x0_0, (0, (x0_1, ()))), ()))))
def l0 (k : Nat) : Nat → T0
  | 0 => fun _ _ _ => none
  | n + 1 => b0 k (l0 k n)
def t (k : Nat) (L0 : T0) (a0 : List Int) : Option (Unit × (Ty.den Tl1Cur) × Unit) :=
  (L0 a0 (w64 (10101 + (List.length a0 : Int))) 0)
def f (k : Nat) (a0 : List Int) : Option (Unit × (Ty.den Tl1Cur) × Unit) := t k (l0 k k) a0
end spec_l1New
namespace spec_l1Byte
def t (k : Nat) (a0 : Ty.den Tl1Cur) : Option ((Ty.den Tl1Cur) × Int × Unit) :=
  (bif (decide (a0.2.1 < (List.length a0.1 : Int))) then
  (inb a0.2.1 (List.length a0.1 : Int)
  (some ((a0.1, ((w64 (a0.2.1 + 1)), ((w64 ((w64 (a0.2.2.1 * 6364136223846793005)) + 1442695040888963407)), ()))), ((w64 (((BitVec.ofInt (IntKind.bits .i64) (w64 ((w64 (((BitVec.ofInt (IntKind.bits .i64) (w64 (((BitVec.ofInt (IntKind.bits .i64) (Int.fdiv (w64 ((w64 (a0.2.2.1 * 6364136223846793005)) + 1442695040888963407)) (2 ^ (Int.toNat 33))) ^^^ BitVec.ofInt (IntKind.bits .i64) (Int.fdiv (w64 ((w64 (a0.2.2.1 * 6364136223846793005)) + 1442695040888963407)) (2 ^ (Int.toNat 45)))).toNat : Int))) &&& BitVec.ofInt (IntKind.bits .i64) 255).toNat : Int))) + (w64 (List.getD a0.1 (Int.toNat a0.2.1) (Ty.dflt (.int .u8)))))) &&& BitVec.ofInt (IntKind.bits .i64) 255).toNat : Int))), ()))))
  else
  (some ((a0.1, (a0.2.1, ((w64 ((w64 (a0.2.2.1 * 6364136223846793005)) + 1442695040888963407)), ()))), ((w64 (((BitVec.ofInt (IntKind.bits .i64) (w64 (((BitVec.ofInt (IntKind.bits .i64) (Int.fdiv (w64 ((w64 (a0.2.2.1 * 6364136223846793005)) + 1442695040888963407)) (2 ^ (Int.toNat 33))) ^^^ BitVec.ofInt (IntKind.bits .i64) (Int.fdiv (w64 ((w64 (a0.2.2.1 * 6364136223846793005)) + 1442695040888963407)) (2 ^ (Int.toNat 45)))).toNat : Int))) &&& BitVec.ofInt (IntKind.bits .i64) 255).toNat : Int))), ()))))
def f (k : Nat) (a0 : Ty.den Tl1Cur) : Option ((Ty.den Tl1Cur) × Int × Unit) := t k a0
end spec_l1Byte
namespace spec_l1Below
def t (k : Nat) (a0 : Ty.den Tl1Cur) (a1 : Int) : Option ((Ty.den Tl1Cur) × Int × Unit) :=
  (bif (decide (a1 ≤ 0)) then
  (some (a0, (0, ())))
  else
  (bif (decide (a1 ≤ 256)) then
  (Option.bind (spec_l1Byte.f k a0) fun r1 =>
  (bif (decide (a1 = 0)) then none else
  (some (r1.1, ((Int.tmod r1.2.1 a1), ())))))
  else
  (Option.bind (spec_l1Byte.f k a0) fun r2 =>
  (Option.bind (spec_l1Byte.f k r2.1) fun r3 =>
  (Option.bind (spec_l1Byte.f k r3.1) fun r4 =>
  (Option.bind (spec_l1Byte.f k r4.1) fun r5 =>
  (bif (decide (a1 = 0)) then none else
  (some (r5.1, ((Int.tmod (w64 ((w64 ((w64 ((w64 (r2.2.1 * 16777216)) + (w64 (r3.2.1 * 65536)))) + (w64 (r4.2.1 * 256)))) + r5.2.1)) a1), ()))))))))))
def f (k : Nat) (a0 : Ty.den Tl1Cur) (a1 : Int) : Option ((Ty.den Tl1Cur) × Int × Unit) := t k a0 a1
end spec_l1Below
namespace spec_l7Live
abbrev T0 : Type := Int → Int → List Int → Int → Int → List Int → Int → List Int → Int → Option ((Ty.den Tl1Cur) × (Ty.den TLive) × Unit)
def b0 (k : Nat) (L0 : T0) (x0_0 : Int) (x0_1 : Int) (x0_2 : List Int) (x0_3 : Int) (x0_4 : Int) (x0_5 : List Int) (x0_6 : Int) (x0_7 : List Int) (x0_8 : Int) : Option ((Ty.den Tl1Cur) × (Ty.den TLive) × Unit) :=
  (bif (decide (x0_1 > 0)) then
  (Option.bind (spec_l1Below.f k (x0_2, (x0_3, (x0_4, ()))) 3) fun r2 =>
  (rm (Ty.bytes (.int .i64)) (List.length x0_7 + 1)
  (L0 (w64 ((w64 (x0_0 + 1)) + r2.2.1)) (w64 (x0_1 - 1)) r2.1.1 r2.1.2.1 r2.1.2.2.1 x0_5 x0_6 (x0_7 ++ [(w64 ((w64 (x0_0 + 1)) + r2.2.1))]) x0_8)))
  else
  (Option.bind (spec_l1Below.f k (x0_2, (x0_3, (x0_4, ()))) 3) fun r3 =>
  (some (r3.1, (((w64 ((w64 (x0_0 + 1)) + r3.2.1)), (x0_7, ())), ())))))
def l0 (k : Nat) : Nat → T0
  | 0 => fun _ _ _ _ _ _ _ _ _ => none
  | n + 1 => b0 k (l0 k n)
def t (k : Nat) (L0 : T0) (a0 : Ty.den Tl1Cur) : Option ((Ty.den Tl1Cur) × (Ty.den TLive) × Unit) :=
  (Option.bind (spec_l1Below.f k a0 4) fun r1 =>
  (L0 0 (w64 (1 + r1.2.1)) r1.1.1 r1.1.2.1 r1.1.2.2.1 [] 0 [] 0))
def f (k : Nat) (a0 : Ty.den Tl1Cur) : Option ((Ty.den Tl1Cur) × (Ty.den TLive) × Unit) := t k (l0 k k) a0
end spec_l7Live
namespace spec_l1PickInt
def t (k : Nat) (a0 : Ty.den Tl1Cur) (a1 : List Int) : Option ((Ty.den Tl1Cur) × Int × Unit) :=
  (Option.bind (spec_l1Below.f k a0 (List.length a1 : Int)) fun r1 =>
  (inb r1.2.1 (List.length a1 : Int)
  (some (r1.1, ((List.getD a1 (Int.toNat r1.2.1) (Ty.dflt (.int .i64))), ())))))
def f (k : Nat) (a0 : Ty.den Tl1Cur) (a1 : List Int) : Option ((Ty.den Tl1Cur) × Int × Unit) := t k a0 a1
end spec_l1PickInt
namespace spec_l7Any
abbrev T0 : Type := List Int → Int → Int → List Int → Int → List Int → Int → Option ((Ty.den Tl1Cur) × (Ty.den TLive) × Unit)
def b0 (k : Nat) (L0 : T0) (x0_0 : List Int) (x0_1 : Int) (x0_2 : Int) (x0_3 : List Int) (x0_4 : Int) (x0_5 : List Int) (x0_6 : Int) : Option ((Ty.den Tl1Cur) × (Ty.den TLive) × Unit) :=
  (Option.bind (spec_l1Below.f k (x0_0, (x0_1, (x0_2, ()))) 2) fun r5 =>
  (bif (decide ((List.length x0_5 : Int) < (w64 (60 + r5.2.1)))) then
  (inb (w64 ((List.length x0_5 : Int) - 1)) (List.length x0_5 : Int)
  (rm (Ty.bytes (.int .i64)) (List.length x0_5 + 1)
  (L0 r5.1.1 r5.1.2.1 r5.1.2.2.1 x0_3 x0_4 (x0_5 ++ [(w64 ((List.getD x0_5 (Int.toNat (w64 ((List.length x0_5 : Int) - 1))) (Ty.dflt (.int .i64))) + 1))]) x0_6)))
  else
  (some (r5.1, ((90, (x0_5, ())), ())))))
def l0 (k : Nat) : Nat → T0
  | 0 => fun _ _ _ _ _ _ _ => none
  | n + 1 => b0 k (l0 k n)
def t (k : Nat) (L0 : T0) (a0 : Ty.den Tl1Cur) : Option ((Ty.den Tl1Cur) × (Ty.den TLive) × Unit) :=
  (Option.bind (spec_l7Live.f k a0) fun r1 =>
  (Option.bind (spec_l1Below.f k r1.1 10) fun r2 =>
  (bif (r2.2.1 == 0) then
  (Option.bind (spec_l1PickInt.f k r2.1 [0, 1, 100000, 100001]) fun r3 =>
  (some (r3.1, ((r3.2.1, r1.2.1.2), ()))))
  else
  (bif (r2.2.1 == 1) then
  (Option.bind (spec_l1Below.f k r2.1 9) fun r4 =>
  (rm (Ty.bytes (.int .i64)) (List.length r1.2.1.2.1 + 1)
  (some (r4.1, ((r1.2.1.1, ((r1.2.1.2.1 ++ [r4.2.1]), ())), ())))))
  else
  (bif (r2.2.1 == 2) then
  (some (r2.1, ((r1.2.1.1, ([], ())), ())))
  else
  (bif (r2.2.1 == 3) then
  (L0 r2.1.1 r2.1.2.1 r2.1.2.2.1 [] 0 r1.2.1.2.1 r1.2.1.1)
  else
  (some (r2.1, r1.2))))))))
def f (k : Nat) (a0 : Ty.den Tl1Cur) : Option ((Ty.den Tl1Cur) × (Ty.den TLive) × Unit) := t k (l0 k k) a0
end spec_l7Any
namespace spec_DrawShowLive
def t (k : Nat) (a0 : List Int) : Option ((Ty.den TLive) × Unit) :=
  (Option.bind (spec_l1New.f k a0) fun r1 =>
  (Option.bind (spec_l7Any.f k r1.2.1) fun r2 =>
  (some r2.2)))
def f (k : Nat) (a0 : List Int) : Option ((Ty.den TLive) × Unit) := t k a0
end spec_DrawShowLive
namespace impl_in
def t (k : Nat) (a0 : Int) (a1 : Int) (a2 : Int) : Option (Bool × Unit) :=
  (bif (decide (a0 ≥ a1)) then
  (some ((decide (a0 ≤ a2)), ()))
  else
  (some (false, ())))
def f (k : Nat) (a0 : Int) (a1 : Int) (a2 : Int) : Option (Bool × Unit) := t k a0 a1 a2
end impl_in
namespace impl_LiveOk
abbrev T0 : Type := List Int → Int → Int → Int → List Int → Option (Bool × Unit)
def b0 (k : Nat) (L0 : T0) (x0_0 : List Int) (x0_1 : Int) (x0_2 : Int) (x0_3 : Int) (x0_4 : List Int) : Option (Bool × Unit) :=
  (bif (decide (x0_2 < x0_1)) then
  (inb x0_2 (List.length x0_0 : Int)
  (Option.bind (impl_in.f k (List.getD x0_0 (Int.toNat x0_2) (Ty.dflt (.int .i64))) 1 (w64 (x0_3 - 1))) fun r1 =>
  (bif (!r1.1) then
  (some (false, ()))
  else
  (bif (decide (x0_2 > 0)) then
  (inb (w64 (x0_2 - 1)) (List.length x0_4 : Int)
  (bif (decide ((List.getD x0_4 (Int.toNat (w64 (x0_2 - 1))) (Ty.dflt (.int .i64))) ≥ (List.getD x0_0 (Int.toNat x0_2) (Ty.dflt (.int .i64))))) then
  (some (false, ()))
  else
  (L0 x0_0 x0_1 (w64 (x0_2 + 1)) x0_3 x0_4)))
  else
  (L0 x0_0 x0_1 (w64 (x0_2 + 1)) x0_3 x0_4)))))
  else
  (Option.bind (impl_in.f k x0_3 1 100000) fun r2 =>
  (bif r2.1 then
  (Option.bind (impl_in.f k (List.length x0_4 : Int) 1 60) fun r3 =>
  (some r3))
  else
  (some (false, ())))))
def l0 (k : Nat) : Nat → T0
  | 0 => fun _ _ _ _ _ => none
  | n + 1 => b0 k (l0 k n)
def t (k : Nat) (L0 : T0) (a0 : Ty.den TLive) : Option (Bool × Unit) :=
  (L0 a0.2.1 (List.length a0.2.1 : Int) 0 a0.1 a0.2.1)
def f (k : Nat) (a0 : Ty.den TLive) : Option (Bool × Unit) := t k (l0 k k) a0
end impl_LiveOk
namespace impl_Var
abbrev T0 : Type := Int → List Int → Option (ByteArray × Unit)
def b0 (k : Nat) (L0 : T0) (x0_0 : Int) (x0_1 : List Int) : Option (ByteArray × Unit) :=
  (bif (decide (x0_0 > 127)) then
  (rm (Ty.bytes (.int .u8)) (List.length x0_1 + 1)
  (L0 (w64 (Int.tdiv x0_0 128)) (x0_1 ++ [(IntKind.wrap .u8 (w64 ((Int.tmod x0_0 128) + 128)))])))
  else
  (rm (Ty.bytes (.int .u8)) (List.length x0_1 + 1)
  (some ((bytesOf (x0_1 ++ [(IntKind.wrap .u8 x0_0)])), ()))))
def l0 (k : Nat) : Nat → T0
  | 0 => fun _ _ => none
  | n + 1 => b0 k (l0 k n)
def t (k : Nat) (L0 : T0) (a0 : Int) : Option (ByteArray × Unit) :=
  (Option.bind (impl_in.f k a0 0 562949953421311) fun r1 =>
  (bif (!r1.1) then
  (some ((⟨#[]⟩ : ByteArray), ()))
  else
  (L0 a0 [])))
def f (k : Nat) (a0 : Int) : Option (ByteArray × Unit) := t k (l0 k k) a0
end impl_Var
namespace impl_vars
abbrev T0 : Type := ByteArray → List Int → Int → Int → Option (ByteArray × Unit)
def b0 (k : Nat) (L0 : T0) (x0_0 : ByteArray) (x0_1 : List Int) (x0_2 : Int) (x0_3 : Int) : Option (ByteArray × Unit) :=
  (bif (decide (x0_3 < x0_2)) then
  (inb x0_3 (List.length x0_1 : Int)
  (Option.bind (impl_Var.f k (List.getD x0_1 (Int.toNat x0_3) (Ty.dflt (.int .i64)))) fun r1 =>
  (cat x0_0 r1.1
  (L0 (x0_0 ++ r1.1) x0_1 x0_2 (w64 (x0_3 + 1))))))
  else
  (some (x0_0, ())))
def l0 (k : Nat) : Nat → T0
  | 0 => fun _ _ _ _ => none
  | n + 1 => b0 k (l0 k n)
def t (k : Nat) (L0 : T0) (a0 : List Int) : Option (ByteArray × Unit) :=
  (L0 (⟨#[]⟩ : ByteArray) a0 (List.length a0 : Int) 0)
def f (k : Nat) (a0 : List Int) : Option (ByteArray × Unit) := t k (l0 k k) a0
end impl_vars
namespace impl_textOf
def t (k : Nat) (a0 : ByteArray) : Option (ByteArray × Unit) :=
  (Option.bind (impl_Var.f k (ByteArray.size a0 : Int)) fun r1 =>
  (cat r1.1 a0
  (some ((r1.1 ++ a0), ()))))
def f (k : Nat) (a0 : ByteArray) : Option (ByteArray × Unit) := t k a0
end impl_textOf
namespace impl_Crc
abbrev T1 : Type := ByteArray → Int → Int → Int → Option (Int × Unit)
abbrev T0 : Type := ByteArray → Int → Int → Option (Int × Unit)
def b1 (k : Nat) (L0 : T0) (L1 : T1) (x1_0 : ByteArray) (x1_1 : Int) (x1_2 : Int) (x1_3 : Int) : Option (Int × Unit) :=
  (bif (decide (x1_3 < 8)) then
  (bif ((IntKind.wrap .u32 (((BitVec.ofInt (IntKind.bits .u32) x1_1 &&& BitVec.ofInt (IntKind.bits .u32) 1).toNat : Int))) == 1) then
  (L1 x1_0 (IntKind.wrap .u32 (((BitVec.ofInt (IntKind.bits .u32) (Int.fdiv x1_1 (2 ^ (Int.toNat 1))) ^^^ BitVec.ofInt (IntKind.bits .u32) 2197175160).toNat : Int))) x1_2 (w64 (x1_3 + 1)))
  else
  (L1 x1_0 (Int.fdiv x1_1 (2 ^ (Int.toNat 1))) x1_2 (w64 (x1_3 + 1))))
  else
  (L0 x1_0 x1_1 (w64 (x1_2 + 1))))
def l1 (k : Nat) (L0 : T0) : Nat → T1
  | 0 => fun _ _ _ _ => none
  | n + 1 => b1 k L0 (l1 k L0 n)
def b0 (k : Nat) (L1 : T1) (L0 : T0) (x0_0 : ByteArray) (x0_1 : Int) (x0_2 : Int) : Option (Int × Unit) :=
  (bif (decide (x0_2 < (ByteArray.size x0_0 : Int))) then
  (inb x0_2 (ByteArray.size x0_0 : Int)
  (L1 x0_0 (IntKind.wrap .u32 (((BitVec.ofInt (IntKind.bits .u32) x0_1 ^^^ BitVec.ofInt (IntKind.bits .u32) (IntKind.wrap .u32 (byteAt x0_0 x0_2))).toNat : Int))) x0_2 0))
  else
  (some ((w64 (bitNot .u32 x0_1)), ())))
def l0 (k : Nat) : Nat → T0
  | 0 => fun _ _ _ => none
  | n + 1 => b0 k (l1 k (l0 k n) k) (l0 k n)
def t (k : Nat) (L0 : T0) (a0 : ByteArray) : Option (Int × Unit) :=
  (L0 a0 4294967295 0)
def f (k : Nat) (a0 : ByteArray) : Option (Int × Unit) := t k (l0 k k) a0
end impl_Crc
namespace impl_Fixed
abbrev T0 : Type := Int → Int → List Int → Option (ByteArray × Unit)
def b0 (k : Nat) (L0 : T0) (x0_0 : Int) (x0_1 : Int) (x0_2 : List Int) : Option (ByteArray × Unit) :=
  (bif (decide (x0_1 ≥ 0)) then
  (bif (decide ((w64 (8 * x0_1)) < 0)) then none else
  (rm (Ty.bytes (.int .u8)) (List.length x0_2 + 1)
  (L0 x0_0 (w64 (x0_1 - 1)) (x0_2 ++ [(IntKind.wrap .u8 (Int.fdiv x0_0 (2 ^ (min (Int.toNat (w64 (8 * x0_1))) (IntKind.bits .i64)))))]))))
  else
  (some ((bytesOf x0_2), ())))
def l0 (k : Nat) : Nat → T0
  | 0 => fun _ _ _ => none
  | n + 1 => b0 k (l0 k n)
def t (k : Nat) (L0 : T0) (a0 : Int) (a1 : Int) : Option (ByteArray × Unit) :=
  (Option.bind (impl_in.f k a1 1 7) fun r1 =>
  (bif (!r1.1) then
  (some ((⟨#[]⟩ : ByteArray), ()))
  else
  (bif (decide ((w64 (8 * a1)) < 0)) then none else
  (Option.bind (impl_in.f k a0 0 (w64 ((w64 (1 * 2 ^ (min (Int.toNat (w64 (8 * a1))) (IntKind.bits .i64)))) - 1))) fun r2 =>
  (bif (!r2.1) then
  (some ((⟨#[]⟩ : ByteArray), ()))
  else
  (L0 a0 (w64 (a1 - 1)) []))))))
def f (k : Nat) (a0 : Int) (a1 : Int) : Option (ByteArray × Unit) := t k (l0 k k) a0 a1
end impl_Fixed
namespace impl_Frame
def t (k : Nat) (a0 : ByteArray) : Option (ByteArray × Unit) :=
  (bif (decide ((ByteArray.size a0 : Int) > 200)) then
  (some ((⟨#[]⟩ : ByteArray), ()))
  else
  (Option.bind (impl_textOf.f k a0) fun r1 =>
  (Option.bind (impl_Crc.f k r1.1) fun r2 =>
  (Option.bind (impl_Fixed.f k r2.1 4) fun r3 =>
  (cat r3.1 r1.1
  (some ((r3.1 ++ r1.1), ())))))))
def f (k : Nat) (a0 : ByteArray) : Option (ByteArray × Unit) := t k a0
end impl_Frame
namespace impl_ShowLive
def t (k : Nat) (a0 : Ty.den TLive) : Option (ByteArray × Unit) :=
  (Option.bind (impl_LiveOk.f k a0) fun r1 =>
  (bif (!r1.1) then
  (some ((⟨#[]⟩ : ByteArray), ()))
  else
  (Option.bind (impl_vars.f k [a0.1, (List.length a0.2.1 : Int)]) fun r2 =>
  (Option.bind (impl_vars.f k a0.2.1) fun r3 =>
  (cat r2.1 r3.1
  (Option.bind (impl_Frame.f k (r2.1 ++ r3.1)) fun r4 =>
  (some r4)))))))
def f (k : Nat) (a0 : Ty.den TLive) : Option (ByteArray × Unit) := t k a0
end impl_ShowLive
namespace impl_ReadVar
abbrev T0 : Type := ByteArray → Int → Int → Option (Int × Int × Unit)
def b0 (k : Nat) (L0 : T0) (x0_0 : ByteArray) (x0_1 : Int) (x0_2 : Int) : Option (Int × Int × Unit) :=
  (bif (decide (x0_2 < 7)) then
  (bif (decide (x0_2 < (ByteArray.size x0_0 : Int))) then
  (inb x0_2 (ByteArray.size x0_0 : Int)
  (bif (decide ((w64 (7 * x0_2)) < 0)) then none else
  (bif (decide ((w64 (byteAt x0_0 x0_2)) ≥ 128)) then
  (L0 x0_0 (w64 (x0_1 + (w64 ((Int.tmod (w64 (byteAt x0_0 x0_2)) 128) * 2 ^ (min (Int.toNat (w64 (7 * x0_2))) (IntKind.bits .i64)))))) (w64 (x0_2 + 1)))
  else
  (bif ((w64 (byteAt x0_0 x0_2)) == 0) then
  (bif (decide (x0_2 > 0)) then
  (some (0, (0, ())))
  else
  (some ((w64 (x0_1 + (w64 ((Int.tmod (w64 (byteAt x0_0 x0_2)) 128) * 2 ^ (min (Int.toNat (w64 (7 * x0_2))) (IntKind.bits .i64)))))), ((w64 (x0_2 + 1)), ()))))
  else
  (some ((w64 (x0_1 + (w64 ((Int.tmod (w64 (byteAt x0_0 x0_2)) 128) * 2 ^ (min (Int.toNat (w64 (7 * x0_2))) (IntKind.bits .i64)))))), ((w64 (x0_2 + 1)), ())))))))
  else
  (some (0, (0, ()))))
  else
  (some (0, (0, ()))))
def l0 (k : Nat) : Nat → T0
  | 0 => fun _ _ _ => none
  | n + 1 => b0 k (l0 k n)
def t (k : Nat) (L0 : T0) (a0 : ByteArray) : Option (Int × Int × Unit) :=
  (L0 a0 0 0)
def f (k : Nat) (a0 : ByteArray) : Option (Int × Int × Unit) := t k (l0 k k) a0
end impl_ReadVar
namespace impl_Unframe
def t (k : Nat) (a0 : ByteArray) : Option (ByteArray × Int × Unit) :=
  (bif (decide ((ByteArray.size a0 : Int) < 4)) then
  (some ((⟨#[]⟩ : ByteArray), (0, ())))
  else
  (inc 4 (ByteArray.size a0 : Int)
  (Option.bind (impl_ReadVar.f k (ByteArray.extract a0 4 (ByteArray.size a0))) fun r1 =>
  (bif (r1.2.1 == 0) then
  (some ((⟨#[]⟩ : ByteArray), (0, ())))
  else
  (bif (decide (r1.1 > 200)) then
  (some ((⟨#[]⟩ : ByteArray), (0, ())))
  else
  (bif (decide (r1.1 > (w64 ((w64 ((ByteArray.size a0 : Int) - 4)) - r1.2.1)))) then
  (some ((⟨#[]⟩ : ByteArray), (0, ())))
  else
  (inc2 (w64 (4 + r1.2.1)) (w64 ((w64 (4 + r1.2.1)) + r1.1)) (ByteArray.size a0 : Int)
  (Option.bind (impl_Frame.f k (ByteArray.extract a0 (Int.toNat (w64 (4 + r1.2.1))) (Int.toNat (w64 ((w64 (4 + r1.2.1)) + r1.1))))) fun r2 =>
  (inc (w64 ((w64 (4 + r1.2.1)) + r1.1)) (ByteArray.size a0 : Int)
  (bif (!(seq r2.1 (ByteArray.extract a0 0 (Int.toNat (w64 ((w64 (4 + r1.2.1)) + r1.1)))))) then
  (some ((⟨#[]⟩ : ByteArray), (0, ())))
  else
  (some ((ByteArray.extract a0 (Int.toNat (w64 (4 + r1.2.1))) (Int.toNat (w64 ((w64 (4 + r1.2.1)) + r1.1)))), ((w64 ((w64 (4 + r1.2.1)) + r1.1)), ())))))))))))))
def f (k : Nat) (a0 : ByteArray) : Option (ByteArray × Int × Unit) := t k a0
end impl_Unframe
namespace impl_scanner__num
def t (k : Nat) (a0 : Ty.den Tscanner) : Option ((Ty.den Tscanner) × Int × Unit) :=
  (Option.bind (impl_ReadVar.f k a0.1) fun r1 =>
  (bif a0.2.1 then
  (some ((a0.1, (true, ())), (0, ())))
  else
  (bif (r1.2.1 == 0) then
  (some ((a0.1, (true, ())), (0, ())))
  else
  (inc r1.2.1 (ByteArray.size a0.1 : Int)
  (some (((ByteArray.extract a0.1 (Int.toNat r1.2.1) (ByteArray.size a0.1)), a0.2), (r1.1, ())))))))
def f (k : Nat) (a0 : Ty.den Tscanner) : Option ((Ty.den Tscanner) × Int × Unit) := t k a0
end impl_scanner__num
namespace impl_ReadLive
abbrev T0 : Type := ByteArray → Int → Int → Int → List Int → Int → ByteArray → Bool → List Int → Int → Option ((Ty.den TLive) × Bool × Unit)
def b0 (k : Nat) (L0 : T0) (x0_0 : ByteArray) (x0_1 : Int) (x0_2 : Int) (x0_3 : Int) (x0_4 : List Int) (x0_5 : Int) (x0_6 : ByteArray) (x0_7 : Bool) (x0_8 : List Int) (x0_9 : Int) : Option ((Ty.den TLive) × Bool × Unit) :=
  (bif (decide (x0_3 < x0_2)) then
  (bif (!x0_7) then
  (Option.bind (impl_scanner__num.f k (x0_6, (x0_7, ()))) fun r4 =>
  (rm (Ty.bytes (.int .i64)) (List.length x0_8 + 1)
  (L0 x0_0 x0_1 x0_2 (w64 (x0_3 + 1)) x0_4 x0_5 r4.1.1 r4.1.2.1 (x0_8 ++ [r4.2.1]) x0_9)))
  else
  (bif (x0_1 == 0) then
  (some ((0, ([], ())), (false, ())))
  else
  (bif (x0_1 != (ByteArray.size x0_0 : Int)) then
  (some ((0, ([], ())), (false, ())))
  else
  (bif x0_7 then
  (some ((0, ([], ())), (false, ())))
  else
  (bif (!(seq x0_6 (⟨#[]⟩ : ByteArray))) then
  (some ((0, ([], ())), (false, ())))
  else
  (Option.bind (impl_LiveOk.f k (x0_9, (x0_8, ()))) fun r5 =>
  (bif (!r5.1) then
  (some ((0, ([], ())), (false, ())))
  else
  (some ((x0_9, (x0_8, ())), (true, ()))))))))))
  else
  (bif (x0_1 == 0) then
  (some ((0, ([], ())), (false, ())))
  else
  (bif (x0_1 != (ByteArray.size x0_0 : Int)) then
  (some ((0, ([], ())), (false, ())))
  else
  (bif x0_7 then
  (some ((0, ([], ())), (false, ())))
  else
  (bif (!(seq x0_6 (⟨#[]⟩ : ByteArray))) then
  (some ((0, ([], ())), (false, ())))
  else
  (Option.bind (impl_LiveOk.f k (x0_9, (x0_8, ()))) fun r6 =>
  (bif (!r6.1) then
  (some ((0, ([], ())), (false, ())))
  else
  (some ((x0_9, (x0_8, ())), (true, ()))))))))))
def l0 (k : Nat) : Nat → T0
  | 0 => fun _ _ _ _ _ _ _ _ _ _ => none
  | n + 1 => b0 k (l0 k n)
def t (k : Nat) (L0 : T0) (a0 : ByteArray) : Option ((Ty.den TLive) × Bool × Unit) :=
  (Option.bind (impl_Unframe.f k a0) fun r1 =>
  (Option.bind (impl_scanner__num.f k (r1.1, (false, ()))) fun r2 =>
  (Option.bind (impl_scanner__num.f k r2.1) fun r3 =>
  (L0 a0 r1.2.1 r3.2.1 0 [] 0 r3.1.1 r3.1.2.1 [] r2.2.1))))
def f (k : Nat) (a0 : ByteArray) : Option ((Ty.den TLive) × Bool × Unit) := t k (l0 k k) a0
end impl_ReadLive
namespace spec_l1In
def t (k : Nat) (a0 : Int) (a1 : Int) (a2 : Int) : Option (Bool × Unit) :=
  (bif (decide (a0 ≥ a1)) then
  (some ((decide (a0 ≤ a2)), ()))
  else
  (some (false, ())))
def f (k : Nat) (a0 : Int) (a1 : Int) (a2 : Int) : Option (Bool × Unit) := t k a0 a1 a2
end spec_l1In
namespace spec_LiveOk
abbrev T0 : Type := Int → Int → List Int → Option (Bool × Unit)
def b0 (k : Nat) (L0 : T0) (x0_0 : Int) (x0_1 : Int) (x0_2 : List Int) : Option (Bool × Unit) :=
  (bif (decide (x0_0 < (List.length x0_2 : Int))) then
  (inb x0_0 (List.length x0_2 : Int)
  (Option.bind (spec_l1In.f k (List.getD x0_2 (Int.toNat x0_0) (Ty.dflt (.int .i64))) 1 (w64 (x0_1 - 1))) fun r3 =>
  (bif (!r3.1) then
  (some (false, ()))
  else
  (bif (decide (x0_0 > 0)) then
  (inb x0_0 (List.length x0_2 : Int)
  (inb (w64 (x0_0 - 1)) (List.length x0_2 : Int)
  (bif (decide ((List.getD x0_2 (Int.toNat x0_0) (Ty.dflt (.int .i64))) ≤ (List.getD x0_2 (Int.toNat (w64 (x0_0 - 1))) (Ty.dflt (.int .i64))))) then
  (some (false, ()))
  else
  (L0 (w64 (x0_0 + 1)) x0_1 x0_2))))
  else
  (L0 (w64 (x0_0 + 1)) x0_1 x0_2)))))
  else
  (some (true, ())))
def l0 (k : Nat) : Nat → T0
  | 0 => fun _ _ _ => none
  | n + 1 => b0 k (l0 k n)
def t (k : Nat) (L0 : T0) (a0 : Ty.den TLive) : Option (Bool × Unit) :=
  (Option.bind (spec_l1In.f k a0.1 1 100000) fun r1 =>
  (bif (!r1.1) then
  (some (false, ()))
  else
  (Option.bind (spec_l1In.f k (List.length a0.2.1 : Int) 1 60) fun r2 =>
  (bif (!r2.1) then
  (some (false, ()))
  else
  (L0 0 a0.1 a0.2.1)))))
def f (k : Nat) (a0 : Ty.den TLive) : Option (Bool × Unit) := t k (l0 k k) a0
end spec_LiveOk
namespace laws_sameInts
abbrev T0 : Type := List Int → List Int → Int → Option (Bool × Unit)
def b0 (k : Nat) (L0 : T0) (x0_0 : List Int) (x0_1 : List Int) (x0_2 : Int) : Option (Bool × Unit) :=
  (bif (decide (x0_2 < (List.length x0_0 : Int))) then
  (inb x0_2 (List.length x0_0 : Int)
  (inb x0_2 (List.length x0_1 : Int)
  (bif ((List.getD x0_0 (Int.toNat x0_2) (Ty.dflt (.int .i64))) != (List.getD x0_1 (Int.toNat x0_2) (Ty.dflt (.int .i64)))) then
  (some (false, ()))
  else
  (L0 x0_0 x0_1 (w64 (x0_2 + 1))))))
  else
  (some (true, ())))
def l0 (k : Nat) : Nat → T0
  | 0 => fun _ _ _ => none
  | n + 1 => b0 k (l0 k n)
def t (k : Nat) (L0 : T0) (a0 : List Int) (a1 : List Int) : Option (Bool × Unit) :=
  (bif ((List.length a0 : Int) != (List.length a1 : Int)) then
  (some (false, ()))
  else
  (L0 a0 a1 0))
def f (k : Nat) (a0 : List Int) (a1 : List Int) : Option (Bool × Unit) := t k (l0 k k) a0 a1
end laws_sameInts
namespace spec_DrawSegName
def t (k : Nat) (a0 : List Int) : Option (Int × Unit) :=
  (Option.bind (spec_l1New.f k a0) fun r1 =>
  (Option.bind (spec_l1PickInt.f k r1.2.1 [0, 1, 12, 100000, 100001, (-1)]) fun r2 =>
  (some r2.2)))
def f (k : Nat) (a0 : List Int) : Option (Int × Unit) := t k a0
end spec_DrawSegName
namespace impl_Dec
def t (k : Nat) (a0 : Int) : Option (ByteArray × Unit) :=
  (Option.bind (lib_Itoa.f k a0) fun r1 =>
  (some r1))
def f (k : Nat) (a0 : Int) : Option (ByteArray × Unit) := t k a0
end impl_Dec
namespace impl_named
def t (k : Nat) (a0 : ByteArray) (a1 : Int) : Option (ByteArray × Unit) :=
  (Option.bind (impl_in.f k a1 1 100000) fun r1 =>
  (bif (!r1.1) then
  (some ((⟨#[]⟩ : ByteArray), ()))
  else
  (Option.bind (impl_Dec.f k a1) fun r2 =>
  (cat a0 r2.1
  (some ((a0 ++ r2.1), ()))))))
def f (k : Nat) (a0 : ByteArray) (a1 : Int) : Option (ByteArray × Unit) := t k a0 a1
end impl_named
namespace impl_SegName
def t (k : Nat) (a0 : Int) : Option (ByteArray × Unit) :=
  (Option.bind (impl_named.f k (⟨#[115, 101, 103]⟩ : ByteArray) a0) fun r1 =>
  (some r1))
def f (k : Nat) (a0 : Int) : Option (ByteArray × Unit) := t k a0
end impl_SegName
namespace impl_IdOf
def t (k : Nat) (a0 : ByteArray) : Option (Int × Bool × Unit) :=
  (Option.bind (lib_CutPrefix.f k a0 (⟨#[115, 101, 103]⟩ : ByteArray)) fun r1 =>
  (bif (!r1.2.1) then
  (Option.bind (lib_CutPrefix.f k a0 (⟨#[104, 105, 110, 116]⟩ : ByteArray)) fun r2 =>
  (Option.bind (impl_ReadDec.f k r2.1) fun r3 =>
  (bif (!r2.2.1) then
  (some (0, (false, ())))
  else
  (bif (!r3.2.1) then
  (some (0, (false, ())))
  else
  (Option.bind (impl_in.f k r3.1 1 100000) fun r4 =>
  (bif (!r4.1) then
  (some (0, (false, ())))
  else
  (some (r3.1, (true, ())))))))))
  else
  (Option.bind (impl_ReadDec.f k r1.1) fun r5 =>
  (bif (!r1.2.1) then
  (some (0, (false, ())))
  else
  (bif (!r5.2.1) then
  (some (0, (false, ())))
  else
  (Option.bind (impl_in.f k r5.1 1 100000) fun r6 =>
  (bif (!r6.1) then
  (some (0, (false, ())))
  else
  (some (r5.1, (true, ()))))))))))
def f (k : Nat) (a0 : ByteArray) : Option (Int × Bool × Unit) := t k a0
end impl_IdOf
namespace impl_HintName
def t (k : Nat) (a0 : Int) : Option (ByteArray × Unit) :=
  (Option.bind (impl_named.f k (⟨#[104, 105, 110, 116]⟩ : ByteArray) a0) fun r1 =>
  (some r1))
def f (k : Nat) (a0 : Int) : Option (ByteArray × Unit) := t k a0
end impl_HintName
namespace spec_DiskNew
def t (k : Nat) (a0 : Int) : Option ((Ty.den TDisk) × Unit) :=
  (Option.bind (spec_l1In.f k a0 0 100000) fun r1 =>
  (bif (!r1.1) then
  (some (([], (0, (0, (false, ())))), ()))
  else
  (some (([], (a0, ((-1), (false, ())))), ()))))
def f (k : Nat) (a0 : Int) : Option ((Ty.den TDisk) × Unit) := t k a0
end spec_DiskNew
namespace spec_l1Pick
def t (k : Nat) (a0 : Ty.den Tl1Cur) (a1 : List ByteArray) : Option ((Ty.den Tl1Cur) × ByteArray × Unit) :=
  (Option.bind (spec_l1Below.f k a0 (List.length a1 : Int)) fun r1 =>
  (inb r1.2.1 (List.length a1 : Int)
  (some (r1.1, ((List.getD a1 (Int.toNat r1.2.1) (Ty.dflt .str)), ())))))
def f (k : Nat) (a0 : Ty.den Tl1Cur) (a1 : List ByteArray) : Option ((Ty.den Tl1Cur) × ByteArray × Unit) := t k a0 a1
end spec_l1Pick
namespace spec_l3Name
def t (k : Nat) (a0 : Ty.den Tl1Cur) : Option ((Ty.den Tl1Cur) × ByteArray × Unit) :=
  (Option.bind (spec_l1Pick.f k a0 [(⟨#[108, 105, 118, 101]⟩ : ByteArray), (⟨#[115, 101, 103, 49]⟩ : ByteArray), (⟨#[115, 101, 103, 50]⟩ : ByteArray), (⟨#[115, 101, 103, 51]⟩ : ByteArray), (⟨#[116, 101, 109, 112]⟩ : ByteArray), (⟨#[104, 105, 110, 116, 49]⟩ : ByteArray), (⟨#[120]⟩ : ByteArray), (⟨#[97, 57]⟩ : ByteArray)]) fun r1 =>
  (some r1))
def f (k : Nat) (a0 : Ty.den Tl1Cur) : Option ((Ty.den Tl1Cur) × ByteArray × Unit) := t k a0
end spec_l3Name
namespace spec_l3Copy
def t (k : Nat) (a0 : Ty.den TDisk) : Option ((Ty.den TDisk) × Unit) :=
  (rm (Ty.bytes TFile) (0 + List.length a0.1)
  (some ((([] ++ a0.1), a0.2), ())))
def f (k : Nat) (a0 : Ty.den TDisk) : Option ((Ty.den TDisk) × Unit) := t k a0
end spec_l3Copy
namespace spec_l3Used
abbrev T0 : Type := Int → Int → List (Ty.den TFile) → Int → Int → Bool → Option (Int × Unit)
def b0 (k : Nat) (L0 : T0) (x0_0 : Int) (x0_1 : Int) (x0_2 : List (Ty.den TFile)) (x0_3 : Int) (x0_4 : Int) (x0_5 : Bool) : Option (Int × Unit) :=
  (bif (decide (x0_1 < (List.length x0_2 : Int))) then
  (inb x0_1 (List.length x0_2 : Int)
  (L0 (w64 (x0_0 + (ByteArray.size (List.getD x0_2 (Int.toNat x0_1) (Ty.dflt TFile)).2.1 : Int))) (w64 (x0_1 + 1)) x0_2 x0_3 x0_4 x0_5))
  else
  (some (x0_0, ())))
def l0 (k : Nat) : Nat → T0
  | 0 => fun _ _ _ _ _ _ => none
  | n + 1 => b0 k (l0 k n)
def t (k : Nat) (L0 : T0) (a0 : Ty.den TDisk) : Option (Int × Unit) :=
  (L0 0 0 a0.1 a0.2.1 a0.2.2.1 a0.2.2.2.1)
def f (k : Nat) (a0 : Ty.den TDisk) : Option (Int × Unit) := t k (l0 k k) a0
end spec_l3Used
namespace spec_NameOk
abbrev T0 : Type := ByteArray → Int → Option (Bool × Unit)
def b0 (k : Nat) (L0 : T0) (x0_0 : ByteArray) (x0_1 : Int) : Option (Bool × Unit) :=
  (bif (decide (x0_1 < (ByteArray.size x0_0 : Int))) then
  (inb x0_1 (ByteArray.size x0_0 : Int)
  (bif (decide ((byteAt x0_0 x0_1) ≥ 97)) then
  (inb x0_1 (ByteArray.size x0_0 : Int)
  (bif (decide ((byteAt x0_0 x0_1) ≤ 122)) then
  (L0 x0_0 (w64 (x0_1 + 1)))
  else
  (inb x0_1 (ByteArray.size x0_0 : Int)
  (bif (decide ((byteAt x0_0 x0_1) ≥ 48)) then
  (inb x0_1 (ByteArray.size x0_0 : Int)
  (bif (!(decide ((byteAt x0_0 x0_1) ≤ 57))) then
  (some (false, ()))
  else
  (L0 x0_0 (w64 (x0_1 + 1)))))
  else
  (some (false, ()))))))
  else
  (inb x0_1 (ByteArray.size x0_0 : Int)
  (bif (decide ((byteAt x0_0 x0_1) ≥ 48)) then
  (inb x0_1 (ByteArray.size x0_0 : Int)
  (bif (!(decide ((byteAt x0_0 x0_1) ≤ 57))) then
  (some (false, ()))
  else
  (L0 x0_0 (w64 (x0_1 + 1)))))
  else
  (some (false, ()))))))
  else
  (Option.bind (spec_l1In.f k (ByteArray.size x0_0 : Int) 1 12) fun r1 =>
  (some r1)))
def l0 (k : Nat) : Nat → T0
  | 0 => fun _ _ => none
  | n + 1 => b0 k (l0 k n)
def t (k : Nat) (L0 : T0) (a0 : ByteArray) : Option (Bool × Unit) :=
  (L0 a0 0)
def f (k : Nat) (a0 : ByteArray) : Option (Bool × Unit) := t k (l0 k k) a0
end spec_NameOk
namespace spec_DiskOk
abbrev T0 : Type := Int → List (Ty.den TFile) → Int → Int → Bool → Option (Bool × Unit)
def b0 (k : Nat) (L0 : T0) (x0_0 : Int) (x0_1 : List (Ty.den TFile)) (x0_2 : Int) (x0_3 : Int) (x0_4 : Bool) : Option (Bool × Unit) :=
  (bif (decide (x0_0 < (List.length x0_1 : Int))) then
  (inb x0_0 (List.length x0_1 : Int)
  (Option.bind (spec_NameOk.f k (List.getD x0_1 (Int.toNat x0_0) (Ty.dflt TFile)).1) fun r4 =>
  (bif (!r4.1) then
  (some (false, ()))
  else
  (inb x0_0 (List.length x0_1 : Int)
  (inb x0_0 (List.length x0_1 : Int)
  (Option.bind (spec_l1In.f k (List.getD x0_1 (Int.toNat x0_0) (Ty.dflt TFile)).2.2.1 0 (ByteArray.size (List.getD x0_1 (Int.toNat x0_0) (Ty.dflt TFile)).2.1 : Int)) fun r5 =>
  (bif (!r5.1) then
  (some (false, ()))
  else
  (bif (decide (x0_0 > 0)) then
  (inb x0_0 (List.length x0_1 : Int)
  (inb (w64 (x0_0 - 1)) (List.length x0_1 : Int)
  (bif ((sls (List.getD x0_1 (Int.toNat x0_0) (Ty.dflt TFile)).1 (List.getD x0_1 (Int.toNat (w64 (x0_0 - 1))) (Ty.dflt TFile)).1) || (seq (List.getD x0_1 (Int.toNat x0_0) (Ty.dflt TFile)).1 (List.getD x0_1 (Int.toNat (w64 (x0_0 - 1))) (Ty.dflt TFile)).1)) then
  (some (false, ()))
  else
  (L0 (w64 (x0_0 + 1)) x0_1 x0_2 x0_3 x0_4))))
  else
  (L0 (w64 (x0_0 + 1)) x0_1 x0_2 x0_3 x0_4)))))))))
  else
  (some (true, ())))
def l0 (k : Nat) : Nat → T0
  | 0 => fun _ _ _ _ _ => none
  | n + 1 => b0 k (l0 k n)
def t (k : Nat) (L0 : T0) (a0 : Ty.den TDisk) : Option (Bool × Unit) :=
  (bif (decide ((List.length a0.1 : Int) > 130)) then
  (some (false, ()))
  else
  (Option.bind (spec_l1In.f k a0.2.1 0 100000) fun r1 =>
  (bif (!r1.1) then
  (some (false, ()))
  else
  (Option.bind (spec_l1In.f k a0.2.2.1 (-1) 100000) fun r2 =>
  (bif (!r2.1) then
  (some (false, ()))
  else
  (Option.bind (spec_l3Used.f k a0) fun r3 =>
  (bif (decide (r3.1 > a0.2.1)) then
  (some (false, ()))
  else
  (L0 0 a0.1 a0.2.1 a0.2.2.1 a0.2.2.2.1))))))))
def f (k : Nat) (a0 : Ty.den TDisk) : Option (Bool × Unit) := t k (l0 k k) a0
end spec_DiskOk
namespace spec_l3Begin
def t (k : Nat) (a0 : Ty.den TDisk) : Option ((Ty.den TDisk) × Int × Unit) :=
  (Option.bind (spec_l3Copy.f k a0) fun r1 =>
  (Option.bind (spec_DiskOk.f k a0) fun r2 =>
  (bif (!r2.1) then
  (some (r1.1, (5, ())))
  else
  (bif a0.2.2.2.1 then
  (some ((r1.1.1, (r1.1.2.1, (r1.1.2.2.1, (true, ())))), (1, ())))
  else
  (bif (a0.2.2.1 == 0) then
  (some ((r1.1.1, (r1.1.2.1, (r1.1.2.2.1, (true, ())))), (1, ())))
  else
  (bif (decide (a0.2.2.1 > 0)) then
  (some ((r1.1.1, (r1.1.2.1, ((w64 (a0.2.2.1 - 1)), r1.1.2.2.2))), (0, ())))
  else
  (some (r1.1, (0, ())))))))))
def f (k : Nat) (a0 : Ty.den TDisk) : Option ((Ty.den TDisk) × Int × Unit) := t k a0
end spec_l3Begin
namespace spec_l3Find
abbrev T0 : Type := ByteArray → Int → List (Ty.den TFile) → Int → Int → Bool → Option (Int × Unit)
def b0 (k : Nat) (L0 : T0) (x0_0 : ByteArray) (x0_1 : Int) (x0_2 : List (Ty.den TFile)) (x0_3 : Int) (x0_4 : Int) (x0_5 : Bool) : Option (Int × Unit) :=
  (bif (decide (x0_1 < (List.length x0_2 : Int))) then
  (inb x0_1 (List.length x0_2 : Int)
  (bif (seq (List.getD x0_2 (Int.toNat x0_1) (Ty.dflt TFile)).1 x0_0) then
  (some (x0_1, ()))
  else
  (L0 x0_0 (w64 (x0_1 + 1)) x0_2 x0_3 x0_4 x0_5)))
  else
  (some ((-1), ())))
def l0 (k : Nat) : Nat → T0
  | 0 => fun _ _ _ _ _ _ => none
  | n + 1 => b0 k (l0 k n)
def t (k : Nat) (L0 : T0) (a0 : Ty.den TDisk) (a1 : ByteArray) : Option (Int × Unit) :=
  (L0 a1 0 a0.1 a0.2.1 a0.2.2.1 a0.2.2.2.1)
def f (k : Nat) (a0 : Ty.den TDisk) (a1 : ByteArray) : Option (Int × Unit) := t k (l0 k k) a0 a1
end spec_l3Find
namespace spec_l3Insert
abbrev T0 : Type := List (Ty.den TFile) → Bool → Int → ByteArray → ByteArray → Int → List (Ty.den TFile) → Option ((List (Ty.den TFile)) × Unit)
def b0 (k : Nat) (L0 : T0) (x0_0 : List (Ty.den TFile)) (x0_1 : Bool) (x0_2 : Int) (x0_3 : ByteArray) (x0_4 : ByteArray) (x0_5 : Int) (x0_6 : List (Ty.den TFile)) : Option ((List (Ty.den TFile)) × Unit) :=
  (bif (decide (x0_2 < (List.length x0_0 : Int))) then
  (bif (!x0_1) then
  (inb x0_2 (List.length x0_0 : Int)
  (bif (!((sls (List.getD x0_0 (Int.toNat x0_2) (Ty.dflt TFile)).1 x0_3) || (seq (List.getD x0_0 (Int.toNat x0_2) (Ty.dflt TFile)).1 x0_3))) then
  (rm (Ty.bytes TFile) (List.length x0_6 + 1)
  (inb x0_2 (List.length x0_0 : Int)
  (rm (Ty.bytes TFile) (List.length (x0_6 ++ [(x0_3, (x0_4, (x0_5, ())))]) + 1)
  (L0 x0_0 true (w64 (x0_2 + 1)) x0_3 x0_4 x0_5 ((x0_6 ++ [(x0_3, (x0_4, (x0_5, ())))]) ++ [(List.getD x0_0 (Int.toNat x0_2) (Ty.dflt TFile))])))))
  else
  (inb x0_2 (List.length x0_0 : Int)
  (rm (Ty.bytes TFile) (List.length x0_6 + 1)
  (L0 x0_0 x0_1 (w64 (x0_2 + 1)) x0_3 x0_4 x0_5 (x0_6 ++ [(List.getD x0_0 (Int.toNat x0_2) (Ty.dflt TFile))]))))))
  else
  (inb x0_2 (List.length x0_0 : Int)
  (rm (Ty.bytes TFile) (List.length x0_6 + 1)
  (L0 x0_0 x0_1 (w64 (x0_2 + 1)) x0_3 x0_4 x0_5 (x0_6 ++ [(List.getD x0_0 (Int.toNat x0_2) (Ty.dflt TFile))])))))
  else
  (bif (!x0_1) then
  (rm (Ty.bytes TFile) (List.length x0_6 + 1)
  (some ((x0_6 ++ [(x0_3, (x0_4, (x0_5, ())))]), ())))
  else
  (some (x0_6, ()))))
def l0 (k : Nat) : Nat → T0
  | 0 => fun _ _ _ _ _ _ _ => none
  | n + 1 => b0 k (l0 k n)
def t (k : Nat) (L0 : T0) (a0 : List (Ty.den TFile)) (a1 : Ty.den TFile) : Option ((List (Ty.den TFile)) × Unit) :=
  (L0 a0 false 0 a1.1 a1.2.1 a1.2.2.1 [])
def f (k : Nat) (a0 : List (Ty.den TFile)) (a1 : Ty.den TFile) : Option ((List (Ty.den TFile)) × Unit) := t k (l0 k k) a0 a1
end spec_l3Insert
namespace spec_Create
def t (k : Nat) (a0 : Ty.den TDisk) (a1 : ByteArray) : Option ((Ty.den TDisk) × Int × Unit) :=
  (Option.bind (spec_l3Begin.f k a0) fun r1 =>
  (bif (r1.2.1 != 0) then
  (some r1)
  else
  (Option.bind (spec_NameOk.f k a1) fun r2 =>
  (bif (!r2.1) then
  (some (r1.1, (5, ())))
  else
  (Option.bind (spec_l3Find.f k a0 a1) fun r3 =>
  (bif (decide (r3.1 ≥ 0)) then
  (some (r1.1, (4, ())))
  else
  (bif (decide ((List.length a0.1 : Int) ≥ 130)) then
  (some (r1.1, (2, ())))
  else
  (Option.bind (spec_l3Insert.f k r1.1.1 (a1, (ByteArray.empty, (0, ())))) fun r4 =>
  (some ((r4.1, r1.1.2), (0, ())))))))))))
def f (k : Nat) (a0 : Ty.den TDisk) (a1 : ByteArray) : Option ((Ty.den TDisk) × Int × Unit) := t k a0 a1
end spec_Create
namespace spec_l1Text
abbrev T0 : Type := Int → Int → List Int → Int → Int → List Int → Option ((Ty.den Tl1Cur) × ByteArray × Unit)
def b0 (k : Nat) (L0 : T0) (x0_0 : Int) (x0_1 : Int) (x0_2 : List Int) (x0_3 : Int) (x0_4 : Int) (x0_5 : List Int) : Option ((Ty.den Tl1Cur) × ByteArray × Unit) :=
  (bif (decide (x0_1 > 0)) then
  (Option.bind (spec_l1Byte.f k (x0_2, (x0_3, (x0_4, ())))) fun r3 =>
  (bif (x0_0 == 1) then
  (bif (x0_0 == 2) then
  (rm (Ty.bytes (.int .u8)) (List.length x0_5 + 1)
  (L0 x0_0 (w64 (x0_1 - 1)) r3.1.1 r3.1.2.1 r3.1.2.2.1 (x0_5 ++ [(IntKind.wrap .u8 (w64 (97 + (Int.tmod (Int.tmod r3.2.1 2) 4))))])))
  else
  (rm (Ty.bytes (.int .u8)) (List.length x0_5 + 1)
  (L0 x0_0 (w64 (x0_1 - 1)) r3.1.1 r3.1.2.1 r3.1.2.2.1 (x0_5 ++ [(IntKind.wrap .u8 (Int.tmod r3.2.1 2))]))))
  else
  (bif (x0_0 == 2) then
  (rm (Ty.bytes (.int .u8)) (List.length x0_5 + 1)
  (L0 x0_0 (w64 (x0_1 - 1)) r3.1.1 r3.1.2.1 r3.1.2.2.1 (x0_5 ++ [(IntKind.wrap .u8 (w64 (97 + (Int.tmod r3.2.1 4))))])))
  else
  (rm (Ty.bytes (.int .u8)) (List.length x0_5 + 1)
  (L0 x0_0 (w64 (x0_1 - 1)) r3.1.1 r3.1.2.1 r3.1.2.2.1 (x0_5 ++ [(IntKind.wrap .u8 r3.2.1)]))))))
  else
  (some ((x0_2, (x0_3, (x0_4, ()))), ((bytesOf x0_5), ()))))
def l0 (k : Nat) : Nat → T0
  | 0 => fun _ _ _ _ _ _ => none
  | n + 1 => b0 k (l0 k n)
def t (k : Nat) (L0 : T0) (a0 : Ty.den Tl1Cur) (a1 : Int) : Option ((Ty.den Tl1Cur) × ByteArray × Unit) :=
  (Option.bind (spec_l1Below.f k a0 4) fun r1 =>
  (Option.bind (spec_l1Below.f k r1.1 (w64 (a1 + 1))) fun r2 =>
  (L0 r1.2.1 r2.2.1 r2.1.1 r2.1.2.1 r2.1.2.2.1 [])))
def f (k : Nat) (a0 : Ty.den Tl1Cur) (a1 : Int) : Option ((Ty.den Tl1Cur) × ByteArray × Unit) := t k (l0 k k) a0 a1
end spec_l1Text
namespace spec_Append
def t (k : Nat) (a0 : Ty.den TDisk) (a1 : ByteArray) (a2 : ByteArray) : Option ((Ty.den TDisk) × Int × Unit) :=
  (Option.bind (spec_l3Begin.f k a0) fun r1 =>
  (bif (r1.2.1 != 0) then
  (some r1)
  else
  (Option.bind (spec_l3Find.f k a0 a1) fun r2 =>
  (bif (decide (r2.1 < 0)) then
  (some (r1.1, (3, ())))
  else
  (Option.bind (spec_l3Used.f k a0) fun r3 =>
  (bif (decide ((ByteArray.size a2 : Int) > (w64 (a0.2.1 - r3.1)))) then
  (some (r1.1, (2, ())))
  else
  (inb r2.1 (List.length a0.1 : Int)
  (cat (List.getD a0.1 (Int.toNat r2.1) (Ty.dflt TFile)).2.1 a2
  (inb r2.1 (List.length r1.1.1 : Int)
  (let l4 := (List.set r1.1.1 (Int.toNat r2.1) ((List.getD r1.1.1 (Int.toNat r2.1) (Ty.dflt TFile)).1, (((List.getD a0.1 (Int.toNat r2.1) (Ty.dflt TFile)).2.1 ++ a2), (List.getD r1.1.1 (Int.toNat r2.1) (Ty.dflt TFile)).2.2)));
  (some ((l4, r1.1.2), (0, ())))))))))))))
def f (k : Nat) (a0 : Ty.den TDisk) (a1 : ByteArray) (a2 : ByteArray) : Option ((Ty.den TDisk) × Int × Unit) := t k a0 a1 a2
end spec_Append
namespace spec_Sync
def t (k : Nat) (a0 : Ty.den TDisk) (a1 : ByteArray) : Option ((Ty.den TDisk) × Int × Unit) :=
  (Option.bind (spec_l3Begin.f k a0) fun r1 =>
  (bif (r1.2.1 != 0) then
  (some r1)
  else
  (Option.bind (spec_l3Find.f k a0 a1) fun r2 =>
  (bif (decide (r2.1 < 0)) then
  (some (r1.1, (3, ())))
  else
  (inb r2.1 (List.length a0.1 : Int)
  (inb r2.1 (List.length r1.1.1 : Int)
  (let l3 := (List.set r1.1.1 (Int.toNat r2.1) ((List.getD r1.1.1 (Int.toNat r2.1) (Ty.dflt TFile)).1, ((List.getD r1.1.1 (Int.toNat r2.1) (Ty.dflt TFile)).2.1, ((ByteArray.size (List.getD a0.1 (Int.toNat r2.1) (Ty.dflt TFile)).2.1 : Int), (List.getD r1.1.1 (Int.toNat r2.1) (Ty.dflt TFile)).2.2.2))));
  (some ((l3, r1.1.2), (0, ()))))))))))
def f (k : Nat) (a0 : Ty.den TDisk) (a1 : ByteArray) : Option ((Ty.den TDisk) × Int × Unit) := t k a0 a1
end spec_Sync
namespace spec_l3Without
def t (k : Nat) (a0 : List (Ty.den TFile)) (a1 : Int) : Option ((List (Ty.den TFile)) × Unit) :=
  (inc a1 (List.length a0 : Int)
  (rm (Ty.bytes TFile) (0 + List.length (List.take (Int.toNat a1) a0))
  (inc (w64 (a1 + 1)) (List.length a0 : Int)
  (rm (Ty.bytes TFile) (List.length ([] ++ (List.take (Int.toNat a1) a0)) + List.length (List.drop (Int.toNat (w64 (a1 + 1))) a0))
  (some ((([] ++ (List.take (Int.toNat a1) a0)) ++ (List.drop (Int.toNat (w64 (a1 + 1))) a0)), ()))))))
def f (k : Nat) (a0 : List (Ty.den TFile)) (a1 : Int) : Option ((List (Ty.den TFile)) × Unit) := t k a0 a1
end spec_l3Without
namespace spec_Rename
def t (k : Nat) (a0 : Ty.den TDisk) (a1 : ByteArray) (a2 : ByteArray) : Option ((Ty.den TDisk) × Int × Unit) :=
  (Option.bind (spec_l3Begin.f k a0) fun r1 =>
  (bif (r1.2.1 != 0) then
  (some r1)
  else
  (Option.bind (spec_NameOk.f k a2) fun r2 =>
  (bif (!r2.1) then
  (some (r1.1, (5, ())))
  else
  (Option.bind (spec_l3Find.f k a0 a1) fun r3 =>
  (bif (decide (r3.1 < 0)) then
  (some (r1.1, (3, ())))
  else
  (bif (seq a1 a2) then
  (some (r1.1, (0, ())))
  else
  (inb r3.1 (List.length a0.1 : Int)
  (Option.bind (spec_l3Without.f k r1.1.1 r3.1) fun r4 =>
  (Option.bind (spec_l3Find.f k (r4.1, r1.1.2) a2) fun r5 =>
  (bif (decide (r5.1 ≥ 0)) then
  (Option.bind (spec_l3Without.f k r4.1 r5.1) fun r6 =>
  (Option.bind (spec_l3Insert.f k r6.1 (a2, (List.getD a0.1 (Int.toNat r3.1) (Ty.dflt TFile)).2)) fun r7 =>
  (some ((r7.1, r1.1.2), (0, ())))))
  else
  (Option.bind (spec_l3Insert.f k r4.1 (a2, (List.getD a0.1 (Int.toNat r3.1) (Ty.dflt TFile)).2)) fun r8 =>
  (some ((r8.1, r1.1.2), (0, ())))))))))))))))
def f (k : Nat) (a0 : Ty.den TDisk) (a1 : ByteArray) (a2 : ByteArray) : Option ((Ty.den TDisk) × Int × Unit) := t k a0 a1 a2
end spec_Rename
namespace spec_l3Disk
abbrev T0 : Type := Int → List Int → Int → Int → List (Ty.den TFile) → Int → Int → Bool → List (Ty.den TFile) → Int → Int → Bool → Option ((Ty.den Tl1Cur) × (Ty.den TDisk) × Unit)
def b0 (k : Nat) (L0 : T0) (x0_0 : Int) (x0_1 : List Int) (x0_2 : Int) (x0_3 : Int) (x0_4 : List (Ty.den TFile)) (x0_5 : Int) (x0_6 : Int) (x0_7 : Bool) (x0_8 : List (Ty.den TFile)) (x0_9 : Int) (x0_10 : Int) (x0_11 : Bool) : Option ((Ty.den Tl1Cur) × (Ty.den TDisk) × Unit) :=
  (bif (decide (x0_0 > 0)) then
  (Option.bind (spec_l3Name.f k (x0_1, (x0_2, (x0_3, ())))) fun r3 =>
  (Option.bind (spec_l1Below.f k r3.1 6) fun r4 =>
  (bif (r4.2.1 == 0) then
  (bif (r4.2.1 == 0) then
  (Option.bind (spec_Create.f k (x0_8, (x0_9, (x0_10, (x0_11, ())))) r3.2.1) fun r5 =>
  (L0 (w64 (x0_0 - 1)) r4.1.1 r4.1.2.1 r4.1.2.2.1 x0_4 x0_5 x0_6 x0_7 r5.1.1 r5.1.2.1 r5.1.2.2.1 r5.1.2.2.2.1))
  else
  (bif (r4.2.1 == 2) then
  (bif (r4.2.1 == 2) then
  (Option.bind (spec_l1Text.f k r4.1 9) fun r6 =>
  (Option.bind (spec_Append.f k (x0_8, (x0_9, (x0_10, (x0_11, ())))) r3.2.1 r6.2.1) fun r7 =>
  (L0 (w64 (x0_0 - 1)) r6.1.1 r6.1.2.1 r6.1.2.2.1 x0_4 x0_5 x0_6 x0_7 r7.1.1 r7.1.2.1 r7.1.2.2.1 r7.1.2.2.2.1)))
  else
  (bif (r4.2.1 == 4) then
  (Option.bind (spec_Sync.f k (x0_8, (x0_9, (x0_10, (x0_11, ())))) r3.2.1) fun r8 =>
  (L0 (w64 (x0_0 - 1)) r4.1.1 r4.1.2.1 r4.1.2.2.1 x0_4 x0_5 x0_6 x0_7 r8.1.1 r8.1.2.1 r8.1.2.2.1 r8.1.2.2.2.1))
  else
  (Option.bind (spec_l3Name.f k r4.1) fun r9 =>
  (Option.bind (spec_Rename.f k (x0_8, (x0_9, (x0_10, (x0_11, ())))) r3.2.1 r9.2.1) fun r10 =>
  (L0 (w64 (x0_0 - 1)) r9.1.1 r9.1.2.1 r9.1.2.2.1 x0_4 x0_5 x0_6 x0_7 r10.1.1 r10.1.2.1 r10.1.2.2.1 r10.1.2.2.2.1)))))
  else
  (bif (r4.2.1 == 3) then
  (Option.bind (spec_l1Text.f k r4.1 9) fun r11 =>
  (Option.bind (spec_Append.f k (x0_8, (x0_9, (x0_10, (x0_11, ())))) r3.2.1 r11.2.1) fun r12 =>
  (L0 (w64 (x0_0 - 1)) r11.1.1 r11.1.2.1 r11.1.2.2.1 x0_4 x0_5 x0_6 x0_7 r12.1.1 r12.1.2.1 r12.1.2.2.1 r12.1.2.2.2.1)))
  else
  (bif (r4.2.1 == 4) then
  (Option.bind (spec_Sync.f k (x0_8, (x0_9, (x0_10, (x0_11, ())))) r3.2.1) fun r13 =>
  (L0 (w64 (x0_0 - 1)) r4.1.1 r4.1.2.1 r4.1.2.2.1 x0_4 x0_5 x0_6 x0_7 r13.1.1 r13.1.2.1 r13.1.2.2.1 r13.1.2.2.2.1))
  else
  (Option.bind (spec_l3Name.f k r4.1) fun r14 =>
  (Option.bind (spec_Rename.f k (x0_8, (x0_9, (x0_10, (x0_11, ())))) r3.2.1 r14.2.1) fun r15 =>
  (L0 (w64 (x0_0 - 1)) r14.1.1 r14.1.2.1 r14.1.2.2.1 x0_4 x0_5 x0_6 x0_7 r15.1.1 r15.1.2.1 r15.1.2.2.1 r15.1.2.2.2.1)))))))
  else
  (bif (r4.2.1 == 1) then
  (Option.bind (spec_Create.f k (x0_8, (x0_9, (x0_10, (x0_11, ())))) r3.2.1) fun r16 =>
  (L0 (w64 (x0_0 - 1)) r4.1.1 r4.1.2.1 r4.1.2.2.1 x0_4 x0_5 x0_6 x0_7 r16.1.1 r16.1.2.1 r16.1.2.2.1 r16.1.2.2.2.1))
  else
  (bif (r4.2.1 == 2) then
  (bif (r4.2.1 == 2) then
  (Option.bind (spec_l1Text.f k r4.1 9) fun r17 =>
  (Option.bind (spec_Append.f k (x0_8, (x0_9, (x0_10, (x0_11, ())))) r3.2.1 r17.2.1) fun r18 =>
  (L0 (w64 (x0_0 - 1)) r17.1.1 r17.1.2.1 r17.1.2.2.1 x0_4 x0_5 x0_6 x0_7 r18.1.1 r18.1.2.1 r18.1.2.2.1 r18.1.2.2.2.1)))
  else
  (bif (r4.2.1 == 4) then
  (Option.bind (spec_Sync.f k (x0_8, (x0_9, (x0_10, (x0_11, ())))) r3.2.1) fun r19 =>
  (L0 (w64 (x0_0 - 1)) r4.1.1 r4.1.2.1 r4.1.2.2.1 x0_4 x0_5 x0_6 x0_7 r19.1.1 r19.1.2.1 r19.1.2.2.1 r19.1.2.2.2.1))
  else
  (Option.bind (spec_l3Name.f k r4.1) fun r20 =>
  (Option.bind (spec_Rename.f k (x0_8, (x0_9, (x0_10, (x0_11, ())))) r3.2.1 r20.2.1) fun r21 =>
  (L0 (w64 (x0_0 - 1)) r20.1.1 r20.1.2.1 r20.1.2.2.1 x0_4 x0_5 x0_6 x0_7 r21.1.1 r21.1.2.1 r21.1.2.2.1 r21.1.2.2.2.1)))))
  else
  (bif (r4.2.1 == 3) then
  (Option.bind (spec_l1Text.f k r4.1 9) fun r22 =>
  (Option.bind (spec_Append.f k (x0_8, (x0_9, (x0_10, (x0_11, ())))) r3.2.1 r22.2.1) fun r23 =>
  (L0 (w64 (x0_0 - 1)) r22.1.1 r22.1.2.1 r22.1.2.2.1 x0_4 x0_5 x0_6 x0_7 r23.1.1 r23.1.2.1 r23.1.2.2.1 r23.1.2.2.2.1)))
  else
  (bif (r4.2.1 == 4) then
  (Option.bind (spec_Sync.f k (x0_8, (x0_9, (x0_10, (x0_11, ())))) r3.2.1) fun r24 =>
  (L0 (w64 (x0_0 - 1)) r4.1.1 r4.1.2.1 r4.1.2.2.1 x0_4 x0_5 x0_6 x0_7 r24.1.1 r24.1.2.1 r24.1.2.2.1 r24.1.2.2.2.1))
  else
  (Option.bind (spec_l3Name.f k r4.1) fun r25 =>
  (Option.bind (spec_Rename.f k (x0_8, (x0_9, (x0_10, (x0_11, ())))) r3.2.1 r25.2.1) fun r26 =>
  (L0 (w64 (x0_0 - 1)) r25.1.1 r25.1.2.1 r25.1.2.2.1 x0_4 x0_5 x0_6 x0_7 r26.1.1 r26.1.2.1 r26.1.2.2.1 r26.1.2.2.2.1))))))))))
  else
  (some ((x0_1, (x0_2, (x0_3, ()))), ((x0_8, (x0_9, (x0_10, (x0_11, ())))), ()))))
def l0 (k : Nat) : Nat → T0
  | 0 => fun _ _ _ _ _ _ _ _ _ _ _ _ => none
  | n + 1 => b0 k (l0 k n)
def t (k : Nat) (L0 : T0) (a0 : Ty.den Tl1Cur) : Option ((Ty.den Tl1Cur) × (Ty.den TDisk) × Unit) :=
  (Option.bind (spec_DiskNew.f k 200) fun r1 =>
  (Option.bind (spec_l1Below.f k a0 12) fun r2 =>
  (L0 r2.2.1 r2.1.1 r2.1.2.1 r2.1.2.2.1 [] 0 0 false r1.1.1 r1.1.2.1 r1.1.2.2.1 r1.1.2.2.2.1)))
def f (k : Nat) (a0 : Ty.den Tl1Cur) : Option ((Ty.den Tl1Cur) × (Ty.den TDisk) × Unit) := t k (l0 k k) a0
end spec_l3Disk
namespace spec_Dec
abbrev T0 : Type := Int → ByteArray → Bool → Option (ByteArray × Unit)
def b0 (k : Nat) (L0 : T0) (x0_0 : Int) (x0_1 : ByteArray) (x0_2 : Bool) : Option (ByteArray × Unit) :=
  (bif (x0_0 != 0) then
  (bif (decide ((Int.tmod x0_0 10) < 0)) then
  (cat (bytesOf [(IntKind.wrap .u8 (w64 (48 + (w64 (0 - (Int.tmod x0_0 10))))))]) x0_1
  (L0 (w64 (Int.tdiv x0_0 10)) ((bytesOf [(IntKind.wrap .u8 (w64 (48 + (w64 (0 - (Int.tmod x0_0 10))))))]) ++ x0_1) x0_2))
  else
  (cat (bytesOf [(IntKind.wrap .u8 (w64 (48 + (Int.tmod x0_0 10))))]) x0_1
  (L0 (w64 (Int.tdiv x0_0 10)) ((bytesOf [(IntKind.wrap .u8 (w64 (48 + (Int.tmod x0_0 10))))]) ++ x0_1) x0_2)))
  else
  (bif x0_2 then
  (cat (⟨#[45]⟩ : ByteArray) x0_1
  (some (((⟨#[45]⟩ : ByteArray) ++ x0_1), ())))
  else
  (some (x0_1, ()))))
def l0 (k : Nat) : Nat → T0
  | 0 => fun _ _ _ => none
  | n + 1 => b0 k (l0 k n)
def t (k : Nat) (L0 : T0) (a0 : Int) : Option (ByteArray × Unit) :=
  (bif (a0 == 0) then
  (some ((⟨#[48]⟩ : ByteArray), ()))
  else
  (L0 a0 (⟨#[]⟩ : ByteArray) (decide (a0 < 0))))
def f (k : Nat) (a0 : Int) : Option (ByteArray × Unit) := t k (l0 k k) a0
end spec_Dec
namespace spec_l3Any
abbrev T0 : Type := Int → List Int → Int → Int → List (Ty.den TFile) → Int → Int → Bool → List (Ty.den TFile) → Int → Int → Bool → Option ((Ty.den Tl1Cur) × (Ty.den TDisk) × Unit)
def b0 (k : Nat) (L0 : T0) (x0_0 : Int) (x0_1 : List Int) (x0_2 : Int) (x0_3 : Int) (x0_4 : List (Ty.den TFile)) (x0_5 : Int) (x0_6 : Int) (x0_7 : Bool) (x0_8 : List (Ty.den TFile)) (x0_9 : Int) (x0_10 : Int) (x0_11 : Bool) : Option ((Ty.den Tl1Cur) × (Ty.den TDisk) × Unit) :=
  (Option.bind (spec_l1Below.f k (x0_1, (x0_2, (x0_3, ()))) 3) fun r11 =>
  (bif (decide (x0_0 < (w64 (129 + r11.2.1)))) then
  (bif (decide ((List.length x0_8 : Int) < 131)) then
  (Option.bind (spec_Dec.f k (w64 (100 + x0_0))) fun r12 =>
  (cat (⟨#[121]⟩ : ByteArray) r12.1
  (rm (Ty.bytes TFile) (List.length x0_8 + 1)
  (L0 (w64 (x0_0 + 1)) r11.1.1 r11.1.2.1 r11.1.2.2.1 x0_4 x0_5 x0_6 x0_7 (x0_8 ++ [(((⟨#[121]⟩ : ByteArray) ++ r12.1), (ByteArray.empty, (0, ())))]) x0_9 x0_10 x0_11))))
  else
  (some (r11.1, ((x0_8, (x0_9, (x0_10, (x0_11, ())))), ()))))
  else
  (some (r11.1, ((x0_8, (x0_9, (x0_10, (x0_11, ())))), ())))))
def l0 (k : Nat) : Nat → T0
  | 0 => fun _ _ _ _ _ _ _ _ _ _ _ _ => none
  | n + 1 => b0 k (l0 k n)
def t (k : Nat) (L0 : T0) (a0 : Ty.den Tl1Cur) : Option ((Ty.den Tl1Cur) × (Ty.den TDisk) × Unit) :=
  (Option.bind (spec_l3Disk.f k a0) fun r1 =>
  (Option.bind (spec_l1Below.f k r1.1 14) fun r2 =>
  (bif (r2.2.1 == 0) then
  (Option.bind (spec_l1PickInt.f k r2.1 [0, 1, (-2), (-1)]) fun r3 =>
  (some (r3.1, ((r1.2.1.1, (r1.2.1.2.1, (r3.2.1, r1.2.1.2.2.2))), ()))))
  else
  (bif (r2.2.1 == 1) then
  (some (r2.1, ((r1.2.1.1, (r1.2.1.2.1, (r1.2.1.2.2.1, (true, ())))), ())))
  else
  (bif (r2.2.1 == 2) then
  (Option.bind (spec_l3Used.f k r1.2.1) fun r4 =>
  (Option.bind (spec_l3Used.f k r1.2.1) fun r5 =>
  (Option.bind (spec_l1PickInt.f k r2.1 [(-1), 5, r4.1, (w64 (r5.1 + 3)), 100000, 100001]) fun r6 =>
  (some (r6.1, ((r1.2.1.1, (r6.2.1, r1.2.1.2.2)), ()))))))
  else
  (bif (r2.2.1 == 3) then
  (bif (decide ((List.length r1.2.1.1 : Int) > 0)) then
  (Option.bind (spec_l1Below.f k r2.1 9) fun r7 =>
  (inb 0 (List.length r1.2.1.1 : Int)
  (let l8 := (List.set r1.2.1.1 0 ((List.getD r1.2.1.1 0 (Ty.dflt TFile)).1, ((List.getD r1.2.1.1 0 (Ty.dflt TFile)).2.1, ((w64 (r7.2.1 - 1)), (List.getD r1.2.1.1 0 (Ty.dflt TFile)).2.2.2))));
  (some (r7.1, ((l8, r1.2.1.2), ()))))))
  else
  (some (r2.1, r1.2)))
  else
  (bif (r2.2.1 == 4) then
  (bif (decide ((List.length r1.2.1.1 : Int) > 0)) then
  (Option.bind (spec_l1Pick.f k r2.1 [(⟨#[]⟩ : ByteArray), (⟨#[65]⟩ : ByteArray), (⟨#[122, 122]⟩ : ByteArray), (⟨#[116, 111, 111, 108, 111, 110, 103, 97, 110, 97, 109, 101, 49]⟩ : ByteArray)]) fun r9 =>
  (inb 0 (List.length r1.2.1.1 : Int)
  (let l10 := (List.set r1.2.1.1 0 (r9.2.1, (List.getD r1.2.1.1 0 (Ty.dflt TFile)).2));
  (some (r9.1, ((l10, r1.2.1.2), ()))))))
  else
  (some (r2.1, r1.2)))
  else
  (bif (r2.2.1 == 5) then
  (L0 0 r2.1.1 r2.1.2.1 r2.1.2.2.1 [] 0 0 false r1.2.1.1 r1.2.1.2.1 r1.2.1.2.2.1 r1.2.1.2.2.2.1)
  else
  (some (r2.1, r1.2))))))))))
def f (k : Nat) (a0 : Ty.den Tl1Cur) : Option ((Ty.den Tl1Cur) × (Ty.den TDisk) × Unit) := t k (l0 k k) a0
end spec_l3Any
namespace spec_DrawOrphans
def t (k : Nat) (a0 : List Int) : Option ((Ty.den TDisk) × (Ty.den TLive) × Unit) :=
  (Option.bind (spec_l1New.f k a0) fun r1 =>
  (Option.bind (spec_l3Any.f k r1.2.1) fun r2 =>
  (Option.bind (spec_l7Any.f k r2.1) fun r3 =>
  (some (r2.2.1, r3.2)))))
def f (k : Nat) (a0 : List Int) : Option ((Ty.den TDisk) × (Ty.den TLive) × Unit) := t k a0
end spec_DrawOrphans
namespace impl_NameOk
abbrev T0 : Type := ByteArray → Int → Option (Bool × Unit)
def b0 (k : Nat) (L0 : T0) (x0_0 : ByteArray) (x0_1 : Int) : Option (Bool × Unit) :=
  (bif (decide (x0_1 < (ByteArray.size x0_0 : Int))) then
  (inb x0_1 (ByteArray.size x0_0 : Int)
  (bif (decide ((byteAt x0_0 x0_1) ≥ 97)) then
  (inb x0_1 (ByteArray.size x0_0 : Int)
  (bif (!(decide ((byteAt x0_0 x0_1) ≤ 122))) then
  (inb x0_1 (ByteArray.size x0_0 : Int)
  (bif (decide ((byteAt x0_0 x0_1) ≥ 48)) then
  (inb x0_1 (ByteArray.size x0_0 : Int)
  (bif (!(decide ((byteAt x0_0 x0_1) ≤ 57))) then
  (some (false, ()))
  else
  (L0 x0_0 (w64 (x0_1 + 1)))))
  else
  (some (false, ()))))
  else
  (L0 x0_0 (w64 (x0_1 + 1)))))
  else
  (inb x0_1 (ByteArray.size x0_0 : Int)
  (bif (decide ((byteAt x0_0 x0_1) ≥ 48)) then
  (inb x0_1 (ByteArray.size x0_0 : Int)
  (bif (!(decide ((byteAt x0_0 x0_1) ≤ 57))) then
  (some (false, ()))
  else
  (L0 x0_0 (w64 (x0_1 + 1)))))
  else
  (some (false, ()))))))
  else
  (Option.bind (impl_in.f k (ByteArray.size x0_0 : Int) 1 12) fun r1 =>
  (some r1)))
def l0 (k : Nat) : Nat → T0
  | 0 => fun _ _ => none
  | n + 1 => b0 k (l0 k n)
def t (k : Nat) (L0 : T0) (a0 : ByteArray) : Option (Bool × Unit) :=
  (L0 a0 0)
def f (k : Nat) (a0 : ByteArray) : Option (Bool × Unit) := t k (l0 k k) a0
end impl_NameOk
namespace impl_DiskOk
abbrev T0 : Type := Int → List (Ty.den TFile) → Int → Int → List (Ty.den TFile) → Int → Int → Bool → Option (Bool × Unit)
def b0 (k : Nat) (L0 : T0) (x0_0 : Int) (x0_1 : List (Ty.den TFile)) (x0_2 : Int) (x0_3 : Int) (x0_4 : List (Ty.den TFile)) (x0_5 : Int) (x0_6 : Int) (x0_7 : Bool) : Option (Bool × Unit) :=
  (bif (decide (x0_3 < x0_2)) then
  (inb x0_3 (List.length x0_1 : Int)
  (Option.bind (impl_NameOk.f k (List.getD x0_1 (Int.toNat x0_3) (Ty.dflt TFile)).1) fun r3 =>
  (bif (!r3.1) then
  (some (false, ()))
  else
  (Option.bind (impl_in.f k (List.getD x0_1 (Int.toNat x0_3) (Ty.dflt TFile)).2.2.1 0 (ByteArray.size (List.getD x0_1 (Int.toNat x0_3) (Ty.dflt TFile)).2.1 : Int)) fun r4 =>
  (bif (!r4.1) then
  (some (false, ()))
  else
  (bif (decide (x0_3 > 0)) then
  (inb (w64 (x0_3 - 1)) (List.length x0_4 : Int)
  (bif (!(sls (List.getD x0_4 (Int.toNat (w64 (x0_3 - 1))) (Ty.dflt TFile)).1 (List.getD x0_1 (Int.toNat x0_3) (Ty.dflt TFile)).1)) then
  (some (false, ()))
  else
  (L0 (w64 (x0_0 + (ByteArray.size (List.getD x0_1 (Int.toNat x0_3) (Ty.dflt TFile)).2.1 : Int))) x0_1 x0_2 (w64 (x0_3 + 1)) x0_4 x0_5 x0_6 x0_7)))
  else
  (L0 (w64 (x0_0 + (ByteArray.size (List.getD x0_1 (Int.toNat x0_3) (Ty.dflt TFile)).2.1 : Int))) x0_1 x0_2 (w64 (x0_3 + 1)) x0_4 x0_5 x0_6 x0_7)))))))
  else
  (some ((decide (x0_0 ≤ x0_5)), ())))
def l0 (k : Nat) : Nat → T0
  | 0 => fun _ _ _ _ _ _ _ _ => none
  | n + 1 => b0 k (l0 k n)
def t (k : Nat) (L0 : T0) (a0 : Ty.den TDisk) : Option (Bool × Unit) :=
  (bif (decide ((List.length a0.1 : Int) > 130)) then
  (some (false, ()))
  else
  (Option.bind (impl_in.f k a0.2.1 0 100000) fun r1 =>
  (bif (!r1.1) then
  (some (false, ()))
  else
  (Option.bind (impl_in.f k a0.2.2.1 (-1) 100000) fun r2 =>
  (bif (!r2.1) then
  (some (false, ()))
  else
  (L0 0 a0.1 (List.length a0.1 : Int) 0 a0.1 a0.2.1 a0.2.2.1 a0.2.2.2.1))))))
def f (k : Nat) (a0 : Ty.den TDisk) : Option (Bool × Unit) := t k (l0 k k) a0
end impl_DiskOk
namespace impl_hasInt
abbrev T0 : Type := Int → List Int → Int → Int → Option (Bool × Unit)
def b0 (k : Nat) (L0 : T0) (x0_0 : Int) (x0_1 : List Int) (x0_2 : Int) (x0_3 : Int) : Option (Bool × Unit) :=
  (bif (decide (x0_3 < x0_2)) then
  (inb x0_3 (List.length x0_1 : Int)
  (bif ((List.getD x0_1 (Int.toNat x0_3) (Ty.dflt (.int .i64))) == x0_0) then
  (some (true, ()))
  else
  (L0 x0_0 x0_1 x0_2 (w64 (x0_3 + 1)))))
  else
  (some (false, ())))
def l0 (k : Nat) : Nat → T0
  | 0 => fun _ _ _ _ => none
  | n + 1 => b0 k (l0 k n)
def t (k : Nat) (L0 : T0) (a0 : List Int) (a1 : Int) : Option (Bool × Unit) :=
  (L0 a1 a0 (List.length a0 : Int) 0)
def f (k : Nat) (a0 : List Int) (a1 : Int) : Option (Bool × Unit) := t k (l0 k k) a0 a1
end impl_hasInt
namespace impl_Orphans
abbrev T0 : Type := List (Ty.den TFile) → Int → Int → Int → List Int → List ByteArray → Option ((List ByteArray) × Unit)
def b0 (k : Nat) (L0 : T0) (x0_0 : List (Ty.den TFile)) (x0_1 : Int) (x0_2 : Int) (x0_3 : Int) (x0_4 : List Int) (x0_5 : List ByteArray) : Option ((List ByteArray) × Unit) :=
  (bif (decide (x0_2 < x0_1)) then
  (inb x0_2 (List.length x0_0 : Int)
  (Option.bind (impl_IdOf.f k (List.getD x0_0 (Int.toNat x0_2) (Ty.dflt TFile)).1) fun r2 =>
  (bif (seq (List.getD x0_0 (Int.toNat x0_2) (Ty.dflt TFile)).1 (⟨#[116, 101, 109, 112]⟩ : ByteArray)) then
  (rm (Ty.bytes .str) (List.length x0_5 + 1)
  (L0 x0_0 x0_1 (w64 (x0_2 + 1)) x0_3 x0_4 (x0_5 ++ [(List.getD x0_0 (Int.toNat x0_2) (Ty.dflt TFile)).1])))
  else
  (bif r2.2.1 then
  (Option.bind (impl_hasInt.f k x0_4 r2.1) fun r3 =>
  (bif (!r3.1) then
  (rm (Ty.bytes .str) (List.length x0_5 + 1)
  (L0 x0_0 x0_1 (w64 (x0_2 + 1)) x0_3 x0_4 (x0_5 ++ [(List.getD x0_0 (Int.toNat x0_2) (Ty.dflt TFile)).1])))
  else
  (L0 x0_0 x0_1 (w64 (x0_2 + 1)) x0_3 x0_4 x0_5)))
  else
  (L0 x0_0 x0_1 (w64 (x0_2 + 1)) x0_3 x0_4 x0_5)))))
  else
  (some (x0_5, ())))
def l0 (k : Nat) : Nat → T0
  | 0 => fun _ _ _ _ _ _ => none
  | n + 1 => b0 k (l0 k n)
def t (k : Nat) (L0 : T0) (a0 : Ty.den TDisk) (a1 : Ty.den TLive) : Option ((List ByteArray) × Unit) :=
  (Option.bind (impl_DiskOk.f k a0) fun r1 =>
  (bif (!r1.1) then
  (some ([], ()))
  else
  (L0 a0.1 (List.length a0.1 : Int) 0 a1.1 a1.2.1 [])))
def f (k : Nat) (a0 : Ty.den TDisk) (a1 : Ty.den TLive) : Option ((List ByteArray) × Unit) := t k (l0 k k) a0 a1
end impl_Orphans
namespace spec_ReadDec
abbrev T0 : Type := ByteArray → Int → Int → Int → Option (Int × Bool × Unit)
def b0 (k : Nat) (L0 : T0) (x0_0 : ByteArray) (x0_1 : Int) (x0_2 : Int) (x0_3 : Int) : Option (Int × Bool × Unit) :=
  (bif (decide (x0_3 < (ByteArray.size x0_0 : Int))) then
  (bif (decide (x0_3 < 11)) then
  (inb x0_3 (ByteArray.size x0_0 : Int)
  (bif (decide ((byteAt x0_0 x0_3) ≥ 48)) then
  (inb x0_3 (ByteArray.size x0_0 : Int)
  (bif (decide ((byteAt x0_0 x0_3) ≤ 57)) then
  (inb x0_3 (ByteArray.size x0_0 : Int)
  (L0 x0_0 (w64 ((w64 (x0_1 * 10)) + (w64 (IntKind.wrap .u8 ((byteAt x0_0 x0_3) - 48))))) (w64 (x0_2 + 1)) (w64 (x0_3 + 1))))
  else
  (L0 x0_0 x0_1 x0_2 (w64 (x0_3 + 1)))))
  else
  (L0 x0_0 x0_1 x0_2 (w64 (x0_3 + 1)))))
  else
  (bif (decide ((ByteArray.size x0_0 : Int) > 0)) then
  (inb 0 (ByteArray.size x0_0 : Int)
  (bif ((byteAt x0_0 0) == 45) then
  (bif (decide (x0_2 > 9)) then
  (some (0, (false, ())))
  else
  (bif (decide ((ByteArray.size x0_0 : Int) > 10)) then
  (some (0, (false, ())))
  else
  (Option.bind (spec_Dec.f k (w64 (0 - x0_1))) fun r1 =>
  (bif (!(seq r1.1 x0_0)) then
  (some (0, (false, ())))
  else
  (some ((w64 (0 - x0_1)), (true, ())))))))
  else
  (bif (decide (x0_2 > 9)) then
  (some (0, (false, ())))
  else
  (bif (decide ((ByteArray.size x0_0 : Int) > 10)) then
  (some (0, (false, ())))
  else
  (Option.bind (spec_Dec.f k x0_1) fun r2 =>
  (bif (!(seq r2.1 x0_0)) then
  (some (0, (false, ())))
  else
  (some (x0_1, (true, ())))))))))
  else
  (bif (decide (x0_2 > 9)) then
  (some (0, (false, ())))
  else
  (bif (decide ((ByteArray.size x0_0 : Int) > 10)) then
  (some (0, (false, ())))
  else
  (Option.bind (spec_Dec.f k x0_1) fun r3 =>
  (bif (!(seq r3.1 x0_0)) then
  (some (0, (false, ())))
  else
  (some (x0_1, (true, ())))))))))
  else
  (bif (decide ((ByteArray.size x0_0 : Int) > 0)) then
  (inb 0 (ByteArray.size x0_0 : Int)
  (bif ((byteAt x0_0 0) == 45) then
  (bif (decide (x0_2 > 9)) then
  (some (0, (false, ())))
  else
  (bif (decide ((ByteArray.size x0_0 : Int) > 10)) then
  (some (0, (false, ())))
  else
  (Option.bind (spec_Dec.f k (w64 (0 - x0_1))) fun r4 =>
  (bif (!(seq r4.1 x0_0)) then
  (some (0, (false, ())))
  else
  (some ((w64 (0 - x0_1)), (true, ())))))))
  else
  (bif (decide (x0_2 > 9)) then
  (some (0, (false, ())))
  else
  (bif (decide ((ByteArray.size x0_0 : Int) > 10)) then
  (some (0, (false, ())))
  else
  (Option.bind (spec_Dec.f k x0_1) fun r5 =>
  (bif (!(seq r5.1 x0_0)) then
  (some (0, (false, ())))
  else
  (some (x0_1, (true, ())))))))))
  else
  (bif (decide (x0_2 > 9)) then
  (some (0, (false, ())))
  else
  (bif (decide ((ByteArray.size x0_0 : Int) > 10)) then
  (some (0, (false, ())))
  else
  (Option.bind (spec_Dec.f k x0_1) fun r6 =>
  (bif (!(seq r6.1 x0_0)) then
  (some (0, (false, ())))
  else
  (some (x0_1, (true, ())))))))))
def l0 (k : Nat) : Nat → T0
  | 0 => fun _ _ _ _ => none
  | n + 1 => b0 k (l0 k n)
def t (k : Nat) (L0 : T0) (a0 : ByteArray) : Option (Int × Bool × Unit) :=
  (L0 a0 0 0 0)
def f (k : Nat) (a0 : ByteArray) : Option (Int × Bool × Unit) := t k (l0 k k) a0
end spec_ReadDec
namespace spec_SegName
def t (k : Nat) (a0 : Int) : Option (ByteArray × Unit) :=
  (Option.bind (spec_l1In.f k a0 1 100000) fun r1 =>
  (bif (!r1.1) then
  (some ((⟨#[]⟩ : ByteArray), ()))
  else
  (Option.bind (spec_Dec.f k a0) fun r2 =>
  (cat (⟨#[115, 101, 103]⟩ : ByteArray) r2.1
  (some (((⟨#[115, 101, 103]⟩ : ByteArray) ++ r2.1), ()))))))
def f (k : Nat) (a0 : Int) : Option (ByteArray × Unit) := t k a0
end spec_SegName
namespace spec_HintName
def t (k : Nat) (a0 : Int) : Option (ByteArray × Unit) :=
  (Option.bind (spec_l1In.f k a0 1 100000) fun r1 =>
  (bif (!r1.1) then
  (some ((⟨#[]⟩ : ByteArray), ()))
  else
  (Option.bind (spec_Dec.f k a0) fun r2 =>
  (cat (⟨#[104, 105, 110, 116]⟩ : ByteArray) r2.1
  (some (((⟨#[104, 105, 110, 116]⟩ : ByteArray) ++ r2.1), ()))))))
def f (k : Nat) (a0 : Int) : Option (ByteArray × Unit) := t k a0
end spec_HintName
namespace spec_IdOf
abbrev T0 : Type := ByteArray → Int → Option (Int × Bool × Unit)
def b0 (k : Nat) (L0 : T0) (x0_0 : ByteArray) (x0_1 : Int) : Option (Int × Bool × Unit) :=
  (bif (decide (x0_1 ≤ 4)) then
  (bif (decide ((ByteArray.size x0_0 : Int) > x0_1)) then
  (inc x0_1 (ByteArray.size x0_0 : Int)
  (Option.bind (spec_ReadDec.f k (ByteArray.extract x0_0 (Int.toNat x0_1) (ByteArray.size x0_0))) fun r1 =>
  (bif r1.2.1 then
  (bif (decide (r1.1 ≥ 1)) then
  (Option.bind (spec_SegName.f k r1.1) fun r2 =>
  (bif (seq r2.1 x0_0) then
  (some (r1.1, (true, ())))
  else
  (Option.bind (spec_HintName.f k r1.1) fun r3 =>
  (bif (seq r3.1 x0_0) then
  (some (r1.1, (true, ())))
  else
  (L0 x0_0 (w64 (x0_1 + 1)))))))
  else
  (L0 x0_0 (w64 (x0_1 + 1))))
  else
  (L0 x0_0 (w64 (x0_1 + 1))))))
  else
  (L0 x0_0 (w64 (x0_1 + 1))))
  else
  (some (0, (false, ()))))
def l0 (k : Nat) : Nat → T0
  | 0 => fun _ _ => none
  | n + 1 => b0 k (l0 k n)
def t (k : Nat) (L0 : T0) (a0 : ByteArray) : Option (Int × Bool × Unit) :=
  (L0 a0 3)
def f (k : Nat) (a0 : ByteArray) : Option (Int × Bool × Unit) := t k (l0 k k) a0
end spec_IdOf
namespace laws_has
abbrev T0 : Type := List Int → Int → Int → Option (Bool × Unit)
def b0 (k : Nat) (L0 : T0) (x0_0 : List Int) (x0_1 : Int) (x0_2 : Int) : Option (Bool × Unit) :=
  (bif (decide (x0_2 < (List.length x0_0 : Int))) then
  (inb x0_2 (List.length x0_0 : Int)
  (bif ((List.getD x0_0 (Int.toNat x0_2) (Ty.dflt (.int .i64))) == x0_1) then
  (some (true, ()))
  else
  (L0 x0_0 x0_1 (w64 (x0_2 + 1)))))
  else
  (some (false, ())))
def l0 (k : Nat) : Nat → T0
  | 0 => fun _ _ _ => none
  | n + 1 => b0 k (l0 k n)
def t (k : Nat) (L0 : T0) (a0 : List Int) (a1 : Int) : Option (Bool × Unit) :=
  (L0 a0 a1 0)
def f (k : Nat) (a0 : List Int) (a1 : Int) : Option (Bool × Unit) := t k (l0 k k) a0 a1
end laws_has
namespace spec_Orphans
abbrev T1 : Type := Int → Int → Bool → Bool → Int → List (Ty.den TFile) → Int → Int → Bool → Int → List Int → List ByteArray → Option ((List ByteArray) × Unit)
abbrev T0 : Type := Int → List (Ty.den TFile) → Int → Int → Bool → Int → List Int → List ByteArray → Option ((List ByteArray) × Unit)
def b1 (k : Nat) (L0 : T0) (L1 : T1) (x1_0 : Int) (x1_1 : Int) (x1_2 : Bool) (x1_3 : Bool) (x1_4 : Int) (x1_5 : List (Ty.den TFile)) (x1_6 : Int) (x1_7 : Int) (x1_8 : Bool) (x1_9 : Int) (x1_10 : List Int) (x1_11 : List ByteArray) : Option ((List ByteArray) × Unit) :=
  (bif (decide (x1_4 < (List.length x1_10 : Int))) then
  (bif x1_3 then
  (L1 x1_0 x1_1 x1_2 true (w64 (x1_4 + 1)) x1_5 x1_6 x1_7 x1_8 x1_9 x1_10 x1_11)
  else
  (inb x1_4 (List.length x1_10 : Int)
  (L1 x1_0 x1_1 x1_2 ((List.getD x1_10 (Int.toNat x1_4) (Ty.dflt (.int .i64))) == x1_1) (w64 (x1_4 + 1)) x1_5 x1_6 x1_7 x1_8 x1_9 x1_10 x1_11)))
  else
  (bif x1_2 then
  (bif (!x1_3) then
  (inb x1_0 (List.length x1_5 : Int)
  (rm (Ty.bytes .str) (List.length x1_11 + 1)
  (L0 (w64 (x1_0 + 1)) x1_5 x1_6 x1_7 x1_8 x1_9 x1_10 (x1_11 ++ [(List.getD x1_5 (Int.toNat x1_0) (Ty.dflt TFile)).1]))))
  else
  (inb x1_0 (List.length x1_5 : Int)
  (bif (seq (List.getD x1_5 (Int.toNat x1_0) (Ty.dflt TFile)).1 (⟨#[116, 101, 109, 112]⟩ : ByteArray)) then
  (inb x1_0 (List.length x1_5 : Int)
  (rm (Ty.bytes .str) (List.length x1_11 + 1)
  (L0 (w64 (x1_0 + 1)) x1_5 x1_6 x1_7 x1_8 x1_9 x1_10 (x1_11 ++ [(List.getD x1_5 (Int.toNat x1_0) (Ty.dflt TFile)).1]))))
  else
  (L0 (w64 (x1_0 + 1)) x1_5 x1_6 x1_7 x1_8 x1_9 x1_10 x1_11))))
  else
  (inb x1_0 (List.length x1_5 : Int)
  (bif (seq (List.getD x1_5 (Int.toNat x1_0) (Ty.dflt TFile)).1 (⟨#[116, 101, 109, 112]⟩ : ByteArray)) then
  (inb x1_0 (List.length x1_5 : Int)
  (rm (Ty.bytes .str) (List.length x1_11 + 1)
  (L0 (w64 (x1_0 + 1)) x1_5 x1_6 x1_7 x1_8 x1_9 x1_10 (x1_11 ++ [(List.getD x1_5 (Int.toNat x1_0) (Ty.dflt TFile)).1]))))
  else
  (L0 (w64 (x1_0 + 1)) x1_5 x1_6 x1_7 x1_8 x1_9 x1_10 x1_11)))))
def l1 (k : Nat) (L0 : T0) : Nat → T1
  | 0 => fun _ _ _ _ _ _ _ _ _ _ _ _ => none
  | n + 1 => b1 k L0 (l1 k L0 n)
def b0 (k : Nat) (L1 : T1) (L0 : T0) (x0_0 : Int) (x0_1 : List (Ty.den TFile)) (x0_2 : Int) (x0_3 : Int) (x0_4 : Bool) (x0_5 : Int) (x0_6 : List Int) (x0_7 : List ByteArray) : Option ((List ByteArray) × Unit) :=
  (bif (decide (x0_0 < (List.length x0_1 : Int))) then
  (inb x0_0 (List.length x0_1 : Int)
  (Option.bind (spec_IdOf.f k (List.getD x0_1 (Int.toNat x0_0) (Ty.dflt TFile)).1) fun r2 =>
  (L1 x0_0 r2.1 r2.2.1 false 0 x0_1 x0_2 x0_3 x0_4 x0_5 x0_6 x0_7)))
  else
  (some (x0_7, ())))
def l0 (k : Nat) : Nat → T0
  | 0 => fun _ _ _ _ _ _ _ _ => none
  | n + 1 => b0 k (l1 k (l0 k n) k) (l0 k n)
def t (k : Nat) (L0 : T0) (a0 : Ty.den TDisk) (a1 : Ty.den TLive) : Option ((List ByteArray) × Unit) :=
  (Option.bind (spec_DiskOk.f k a0) fun r1 =>
  (bif (!r1.1) then
  (some ([], ()))
  else
  (L0 0 a0.1 a0.2.1 a0.2.2.1 a0.2.2.2.1 a1.1 a1.2.1 [])))
def f (k : Nat) (a0 : Ty.den TDisk) (a1 : Ty.den TLive) : Option ((List ByteArray) × Unit) := t k (l0 k k) a0 a1
end spec_Orphans
namespace laws_sameTexts
abbrev T0 : Type := List ByteArray → List ByteArray → Int → Option (Bool × Unit)
def b0 (k : Nat) (L0 : T0) (x0_0 : List ByteArray) (x0_1 : List ByteArray) (x0_2 : Int) : Option (Bool × Unit) :=
  (bif (decide (x0_2 < (List.length x0_0 : Int))) then
  (inb x0_2 (List.length x0_0 : Int)
  (inb x0_2 (List.length x0_1 : Int)
  (bif (!(seq (List.getD x0_0 (Int.toNat x0_2) (Ty.dflt .str)) (List.getD x0_1 (Int.toNat x0_2) (Ty.dflt .str)))) then
  (some (false, ()))
  else
  (L0 x0_0 x0_1 (w64 (x0_2 + 1))))))
  else
  (some (true, ())))
def l0 (k : Nat) : Nat → T0
  | 0 => fun _ _ _ => none
  | n + 1 => b0 k (l0 k n)
def t (k : Nat) (L0 : T0) (a0 : List ByteArray) (a1 : List ByteArray) : Option (Bool × Unit) :=
  (bif ((List.length a0 : Int) != (List.length a1 : Int)) then
  (some (false, ()))
  else
  (L0 a0 a1 0))
def f (k : Nat) (a0 : List ByteArray) (a1 : List ByteArray) : Option (Bool × Unit) := t k (l0 k k) a0 a1
end laws_sameTexts
namespace laws_FnNames
abbrev T0 : Type := Int → List (Ty.den TFile) → Int → Int → Bool → List Int → Int → List ByteArray → Option (Bool × Unit)
abbrev T1 : Type := Int → List (Ty.den TFile) → Int → Int → Bool → List Int → Int → List ByteArray → Option (Bool × Unit)
abbrev T2 : Type := Int → List (Ty.den TFile) → Int → Int → Bool → List Int → Int → List ByteArray → Option (Bool × Unit)
abbrev T3 : Type := Int → List (Ty.den TFile) → Int → Int → Bool → List Int → Int → List ByteArray → Option (Bool × Unit)
abbrev T4 : Type := Int → List (Ty.den TFile) → Int → Int → Bool → List Int → Int → List ByteArray → Option (Bool × Unit)
abbrev T5 : Type := Int → List (Ty.den TFile) → Int → Int → Bool → List Int → Int → List ByteArray → Option (Bool × Unit)
def b0 (k : Nat) (L0 : T0) (x0_0 : Int) (x0_1 : List (Ty.den TFile)) (x0_2 : Int) (x0_3 : Int) (x0_4 : Bool) (x0_5 : List Int) (x0_6 : Int) (x0_7 : List ByteArray) : Option (Bool × Unit) :=
  (bif (decide (x0_0 < (List.length x0_7 : Int))) then
  (inb x0_0 (List.length x0_7 : Int)
  (Option.bind (spec_IdOf.f k (List.getD x0_7 (Int.toNat x0_0) (Ty.dflt .str))) fun r14 =>
  (inb x0_0 (List.length x0_7 : Int)
  (bif (!(seq (List.getD x0_7 (Int.toNat x0_0) (Ty.dflt .str)) (⟨#[116, 101, 109, 112]⟩ : ByteArray))) then
  (bif (!r14.2.1) then
  (some (false, ()))
  else
  (Option.bind (laws_has.f k x0_5 r14.1) fun r15 =>
  (bif r15.1 then
  (some (false, ()))
  else
  (L0 (w64 (x0_0 + 1)) x0_1 x0_2 x0_3 x0_4 x0_5 x0_6 x0_7))))
  else
  (L0 (w64 (x0_0 + 1)) x0_1 x0_2 x0_3 x0_4 x0_5 x0_6 x0_7)))))
  else
  (Option.bind (spec_Orphans.f k (x0_1, (x0_2, (x0_3, (x0_4, ())))) (x0_6, (x0_5, ()))) fun r16 =>
  (Option.bind (laws_sameTexts.f k x0_7 r16.1) fun r17 =>
  (some r17))))
def l0 (k : Nat) : Nat → T0
  | 0 => fun _ _ _ _ _ _ _ _ => none
  | n + 1 => b0 k (l0 k n)
def b1 (k : Nat) (L1 : T1) (x1_0 : Int) (x1_1 : List (Ty.den TFile)) (x1_2 : Int) (x1_3 : Int) (x1_4 : Bool) (x1_5 : List Int) (x1_6 : Int) (x1_7 : List ByteArray) : Option (Bool × Unit) :=
  (bif (decide (x1_0 < (List.length x1_7 : Int))) then
  (inb x1_0 (List.length x1_7 : Int)
  (Option.bind (spec_IdOf.f k (List.getD x1_7 (Int.toNat x1_0) (Ty.dflt .str))) fun r20 =>
  (inb x1_0 (List.length x1_7 : Int)
  (bif (!(seq (List.getD x1_7 (Int.toNat x1_0) (Ty.dflt .str)) (⟨#[116, 101, 109, 112]⟩ : ByteArray))) then
  (bif (!r20.2.1) then
  (some (false, ()))
  else
  (Option.bind (laws_has.f k x1_5 r20.1) fun r21 =>
  (bif r21.1 then
  (some (false, ()))
  else
  (L1 (w64 (x1_0 + 1)) x1_1 x1_2 x1_3 x1_4 x1_5 x1_6 x1_7))))
  else
  (L1 (w64 (x1_0 + 1)) x1_1 x1_2 x1_3 x1_4 x1_5 x1_6 x1_7)))))
  else
  (Option.bind (spec_Orphans.f k (x1_1, (x1_2, (x1_3, (x1_4, ())))) (x1_6, (x1_5, ()))) fun r22 =>
  (Option.bind (laws_sameTexts.f k x1_7 r22.1) fun r23 =>
  (some r23))))
def l1 (k : Nat) : Nat → T1
  | 0 => fun _ _ _ _ _ _ _ _ => none
  | n + 1 => b1 k (l1 k n)
def b2 (k : Nat) (L2 : T2) (x2_0 : Int) (x2_1 : List (Ty.den TFile)) (x2_2 : Int) (x2_3 : Int) (x2_4 : Bool) (x2_5 : List Int) (x2_6 : Int) (x2_7 : List ByteArray) : Option (Bool × Unit) :=
  (bif (decide (x2_0 < (List.length x2_7 : Int))) then
  (inb x2_0 (List.length x2_7 : Int)
  (Option.bind (spec_IdOf.f k (List.getD x2_7 (Int.toNat x2_0) (Ty.dflt .str))) fun r26 =>
  (inb x2_0 (List.length x2_7 : Int)
  (bif (!(seq (List.getD x2_7 (Int.toNat x2_0) (Ty.dflt .str)) (⟨#[116, 101, 109, 112]⟩ : ByteArray))) then
  (bif (!r26.2.1) then
  (some (false, ()))
  else
  (Option.bind (laws_has.f k x2_5 r26.1) fun r27 =>
  (bif r27.1 then
  (some (false, ()))
  else
  (L2 (w64 (x2_0 + 1)) x2_1 x2_2 x2_3 x2_4 x2_5 x2_6 x2_7))))
  else
  (L2 (w64 (x2_0 + 1)) x2_1 x2_2 x2_3 x2_4 x2_5 x2_6 x2_7)))))
  else
  (Option.bind (spec_Orphans.f k (x2_1, (x2_2, (x2_3, (x2_4, ())))) (x2_6, (x2_5, ()))) fun r28 =>
  (Option.bind (laws_sameTexts.f k x2_7 r28.1) fun r29 =>
  (some r29))))
def l2 (k : Nat) : Nat → T2
  | 0 => fun _ _ _ _ _ _ _ _ => none
  | n + 1 => b2 k (l2 k n)
def b3 (k : Nat) (L3 : T3) (x3_0 : Int) (x3_1 : List (Ty.den TFile)) (x3_2 : Int) (x3_3 : Int) (x3_4 : Bool) (x3_5 : List Int) (x3_6 : Int) (x3_7 : List ByteArray) : Option (Bool × Unit) :=
  (bif (decide (x3_0 < (List.length x3_7 : Int))) then
  (inb x3_0 (List.length x3_7 : Int)
  (Option.bind (spec_IdOf.f k (List.getD x3_7 (Int.toNat x3_0) (Ty.dflt .str))) fun r37 =>
  (inb x3_0 (List.length x3_7 : Int)
  (bif (!(seq (List.getD x3_7 (Int.toNat x3_0) (Ty.dflt .str)) (⟨#[116, 101, 109, 112]⟩ : ByteArray))) then
  (bif (!r37.2.1) then
  (some (false, ()))
  else
  (Option.bind (laws_has.f k x3_5 r37.1) fun r38 =>
  (bif r38.1 then
  (some (false, ()))
  else
  (L3 (w64 (x3_0 + 1)) x3_1 x3_2 x3_3 x3_4 x3_5 x3_6 x3_7))))
  else
  (L3 (w64 (x3_0 + 1)) x3_1 x3_2 x3_3 x3_4 x3_5 x3_6 x3_7)))))
  else
  (Option.bind (spec_Orphans.f k (x3_1, (x3_2, (x3_3, (x3_4, ())))) (x3_6, (x3_5, ()))) fun r39 =>
  (Option.bind (laws_sameTexts.f k x3_7 r39.1) fun r40 =>
  (some r40))))
def l3 (k : Nat) : Nat → T3
  | 0 => fun _ _ _ _ _ _ _ _ => none
  | n + 1 => b3 k (l3 k n)
def b4 (k : Nat) (L4 : T4) (x4_0 : Int) (x4_1 : List (Ty.den TFile)) (x4_2 : Int) (x4_3 : Int) (x4_4 : Bool) (x4_5 : List Int) (x4_6 : Int) (x4_7 : List ByteArray) : Option (Bool × Unit) :=
  (bif (decide (x4_0 < (List.length x4_7 : Int))) then
  (inb x4_0 (List.length x4_7 : Int)
  (Option.bind (spec_IdOf.f k (List.getD x4_7 (Int.toNat x4_0) (Ty.dflt .str))) fun r43 =>
  (inb x4_0 (List.length x4_7 : Int)
  (bif (!(seq (List.getD x4_7 (Int.toNat x4_0) (Ty.dflt .str)) (⟨#[116, 101, 109, 112]⟩ : ByteArray))) then
  (bif (!r43.2.1) then
  (some (false, ()))
  else
  (Option.bind (laws_has.f k x4_5 r43.1) fun r44 =>
  (bif r44.1 then
  (some (false, ()))
  else
  (L4 (w64 (x4_0 + 1)) x4_1 x4_2 x4_3 x4_4 x4_5 x4_6 x4_7))))
  else
  (L4 (w64 (x4_0 + 1)) x4_1 x4_2 x4_3 x4_4 x4_5 x4_6 x4_7)))))
  else
  (Option.bind (spec_Orphans.f k (x4_1, (x4_2, (x4_3, (x4_4, ())))) (x4_6, (x4_5, ()))) fun r45 =>
  (Option.bind (laws_sameTexts.f k x4_7 r45.1) fun r46 =>
  (some r46))))
def l4 (k : Nat) : Nat → T4
  | 0 => fun _ _ _ _ _ _ _ _ => none
  | n + 1 => b4 k (l4 k n)
def b5 (k : Nat) (L5 : T5) (x5_0 : Int) (x5_1 : List (Ty.den TFile)) (x5_2 : Int) (x5_3 : Int) (x5_4 : Bool) (x5_5 : List Int) (x5_6 : Int) (x5_7 : List ByteArray) : Option (Bool × Unit) :=
  (bif (decide (x5_0 < (List.length x5_7 : Int))) then
  (inb x5_0 (List.length x5_7 : Int)
  (Option.bind (spec_IdOf.f k (List.getD x5_7 (Int.toNat x5_0) (Ty.dflt .str))) fun r49 =>
  (inb x5_0 (List.length x5_7 : Int)
  (bif (!(seq (List.getD x5_7 (Int.toNat x5_0) (Ty.dflt .str)) (⟨#[116, 101, 109, 112]⟩ : ByteArray))) then
  (bif (!r49.2.1) then
  (some (false, ()))
  else
  (Option.bind (laws_has.f k x5_5 r49.1) fun r50 =>
  (bif r50.1 then
  (some (false, ()))
  else
  (L5 (w64 (x5_0 + 1)) x5_1 x5_2 x5_3 x5_4 x5_5 x5_6 x5_7))))
  else
  (L5 (w64 (x5_0 + 1)) x5_1 x5_2 x5_3 x5_4 x5_5 x5_6 x5_7)))))
  else
  (Option.bind (spec_Orphans.f k (x5_1, (x5_2, (x5_3, (x5_4, ())))) (x5_6, (x5_5, ()))) fun r51 =>
  (Option.bind (laws_sameTexts.f k x5_7 r51.1) fun r52 =>
  (some r52))))
def l5 (k : Nat) : Nat → T5
  | 0 => fun _ _ _ _ _ _ _ _ => none
  | n + 1 => b5 k (l5 k n)
def t (k : Nat) (L0 : T0) (L1 : T1) (L2 : T2) (L3 : T3) (L4 : T4) (L5 : T5) (a0 : List Int) : Option (Bool × Unit) :=
  (Option.bind (laws_big.f k a0) fun r1 =>
  (bif r1.1 then
  (some (true, ()))
  else
  (Option.bind (spec_DrawShowLive.f k a0) fun r2 =>
  (Option.bind (impl_ShowLive.f k r2.1) fun r3 =>
  (Option.bind (impl_ReadLive.f k r3.1) fun r4 =>
  (Option.bind (spec_LiveOk.f k r2.1) fun r5 =>
  (bif (!((!(seq r3.1 (⟨#[]⟩ : ByteArray))) == r5.1)) then
  (some (false, ()))
  else
  (bif (!(r4.2.1 == (!(seq r3.1 (⟨#[]⟩ : ByteArray))))) then
  (some (false, ()))
  else
  (bif r4.2.1 then
  (bif (r4.1.1 != r2.1.1) then
  (some (false, ()))
  else
  (Option.bind (laws_sameInts.f k r4.1.2.1 r2.1.2.1) fun r6 =>
  (bif (!r6.1) then
  (some (false, ()))
  else
  (Option.bind (spec_DrawSegName.f k a0) fun r7 =>
  (Option.bind (impl_SegName.f k r7.1) fun r8 =>
  (Option.bind (impl_IdOf.f k r8.1) fun r9 =>
  (Option.bind (impl_HintName.f k r7.1) fun r10 =>
  (Option.bind (impl_IdOf.f k r10.1) fun r11 =>
  (bif (decide (r7.1 ≥ 1)) then
  (bif (!(r9.2.1 == (decide (r7.1 ≤ 100000)))) then
  (some (false, ()))
  else
  (bif (!(r11.2.1 == (decide (r7.1 ≤ 100000)))) then
  (some (false, ()))
  else
  (bif (decide (r7.1 ≤ 100000)) then
  (bif (r9.1 != r7.1) then
  (some (false, ()))
  else
  (bif (r11.1 != r7.1) then
  (some (false, ()))
  else
  (Option.bind (spec_DrawOrphans.f k a0) fun r12 =>
  (Option.bind (impl_Orphans.f k r12.1 r12.2.1) fun r13 =>
  (L0 0 r12.1.1 r12.1.2.1 r12.1.2.2.1 r12.1.2.2.2.1 r12.2.1.2.1 r12.2.1.1 r13.1)))))
  else
  (Option.bind (spec_DrawOrphans.f k a0) fun r18 =>
  (Option.bind (impl_Orphans.f k r18.1 r18.2.1) fun r19 =>
  (L1 0 r18.1.1 r18.1.2.1 r18.1.2.2.1 r18.1.2.2.2.1 r18.2.1.2.1 r18.2.1.1 r19.1))))))
  else
  (bif (!(r9.2.1 == false)) then
  (some (false, ()))
  else
  (bif (!(r11.2.1 == false)) then
  (some (false, ()))
  else
  (Option.bind (spec_DrawOrphans.f k a0) fun r24 =>
  (Option.bind (impl_Orphans.f k r24.1 r24.2.1) fun r25 =>
  (L2 0 r24.1.1 r24.1.2.1 r24.1.2.2.1 r24.1.2.2.2.1 r24.2.1.2.1 r24.2.1.1 r25.1))))))))))))))
  else
  (Option.bind (spec_DrawSegName.f k a0) fun r30 =>
  (Option.bind (impl_SegName.f k r30.1) fun r31 =>
  (Option.bind (impl_IdOf.f k r31.1) fun r32 =>
  (Option.bind (impl_HintName.f k r30.1) fun r33 =>
  (Option.bind (impl_IdOf.f k r33.1) fun r34 =>
  (bif (decide (r30.1 ≥ 1)) then
  (bif (!(r32.2.1 == (decide (r30.1 ≤ 100000)))) then
  (some (false, ()))
  else
  (bif (!(r34.2.1 == (decide (r30.1 ≤ 100000)))) then
  (some (false, ()))
  else
  (bif (decide (r30.1 ≤ 100000)) then
  (bif (r32.1 != r30.1) then
  (some (false, ()))
  else
  (bif (r34.1 != r30.1) then
  (some (false, ()))
  else
  (Option.bind (spec_DrawOrphans.f k a0) fun r35 =>
  (Option.bind (impl_Orphans.f k r35.1 r35.2.1) fun r36 =>
  (L3 0 r35.1.1 r35.1.2.1 r35.1.2.2.1 r35.1.2.2.2.1 r35.2.1.2.1 r35.2.1.1 r36.1)))))
  else
  (Option.bind (spec_DrawOrphans.f k a0) fun r41 =>
  (Option.bind (impl_Orphans.f k r41.1 r41.2.1) fun r42 =>
  (L4 0 r41.1.1 r41.1.2.1 r41.1.2.2.1 r41.1.2.2.2.1 r41.2.1.2.1 r41.2.1.1 r42.1))))))
  else
  (bif (!(r32.2.1 == false)) then
  (some (false, ()))
  else
  (bif (!(r34.2.1 == false)) then
  (some (false, ()))
  else
  (Option.bind (spec_DrawOrphans.f k a0) fun r47 =>
  (Option.bind (impl_Orphans.f k r47.1 r47.2.1) fun r48 =>
  (L5 0 r47.1.1 r47.1.2.1 r47.1.2.2.1 r47.1.2.2.2.1 r47.2.1.2.1 r47.2.1.1 r48.1))))))))))))))))))))
def f (k : Nat) (a0 : List Int) : Option (Bool × Unit) := t k (l0 k k) (l1 k k) (l2 k k) (l3 k k) (l4 k k) (l5 k k) a0
end laws_FnNames
end Go.Proofs.YtccccehgfmphjaaDoor.G

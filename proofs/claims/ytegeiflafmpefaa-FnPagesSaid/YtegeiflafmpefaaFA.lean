/- Functions, as V runs them. -/
import Derived.Test.YtegeiflafmpefaaVWords
set_option linter.unusedVariables false
namespace Go.Proofs.Ytegeiflafmpefaa.G
open Go.V
abbrev TEntry : Ty := .pair .str (.pair (.int .i64) (.pair (.int .i64) (.pair (.int .i64) (.pair (.int .i64) .unit))))
abbrev Tl1Cur : Ty := .pair (.slice (.int .u8)) (.pair (.int .i64) (.pair (.int .i64) .unit))
namespace laws_big
def t (k : Nat) (a0 : List Int) : Option (Bool × Unit) :=
  (some ((decide ((List.length a0 : Int) > 1048576)), ()))
def f (k : Nat) (a0 : List Int) : Option (Bool × Unit) := t k a0
end laws_big
namespace spec_l1New
abbrev T0 : Type := List Int → Int → Int → Option (Unit × (Ty.den Tl1Cur) × Unit)
def b0 (k : Nat) (L0 : T0) (x0_0 : List Int) (x0_1 : Int) (x0_2 : Int) : Option (Unit × (Ty.den Tl1Cur) × Unit) :=
  (bif (decide (x0_2 < (List.length x0_0 : Int))) then
  (bif (decide (x0_2 < 4000)) then
  (inb x0_2 (List.length x0_0 : Int)
  (L0 x0_0 (w64 (((BitVec.ofInt (IntKind.bits .i64) (w64 ((w64 ((w64 (x0_1 * 131)) + (w64 (List.getD x0_0 (Int.toNat x0_2) (Ty.dflt (.int .u8)))))) + 7)) &&& BitVec.ofInt (IntKind.bits .i64) 1073741823).toNat : Int))) (w64 (x0_2 + 1))))
  else
  (some ((), ((x0_0, (0, (x0_1, ()))), ()))))
  else
  (some ((), ((x0_0, (0, (x0_1, ()))), ()))))
def l0 (k : Nat) : Nat → T0
  | 0 => fun _ _ _ => none
  | n + 1 => b0 k (l0 k n)
def t (k : Nat) (L0 : T0) (a0 : List Int) : Option (Unit × (Ty.den Tl1Cur) × Unit) :=
  (L0 a0 (w64 (10101 + (List.length a0 : Int))) 0)
def f (k : Nat) (a0 : List Int) : Option (Unit × (Ty.den Tl1Cur) × Unit) := t k (l0 k k) a0
end spec_l1New
namespace spec_l1Byte
def t (k : Nat) (a0 : Ty.den Tl1Cur) : Option ((Ty.den Tl1Cur) × Int × Unit) :=
  (bif (decide (a0.2.1 < (List.length a0.1 : Int))) then
  (inb a0.2.1 (List.length a0.1 : Int)
  (some ((a0.1, ((w64 (a0.2.1 + 1)), ((w64 ((w64 (a0.2.2.1 * 6364136223846793005)) + 1442695040888963407)), ()))), ((w64 (((BitVec.ofInt (IntKind.bits .i64) (w64 ((w64 (((BitVec.ofInt (IntKind.bits .i64) (w64 (((BitVec.ofInt (IntKind.bits .i64) (Int.fdiv (w64 ((w64 (a0.2.2.1 * 6364136223846793005)) + 1442695040888963407)) (2 ^ (Int.toNat 33))) ^^^ BitVec.ofInt (IntKind.bits .i64) (Int.fdiv (w64 ((w64 (a0.2.2.1 * 6364136223846793005)) + 1442695040888963407)) (2 ^ (Int.toNat 45)))).toNat : Int))) &&& BitVec.ofInt (IntKind.bits .i64) 255).toNat : Int))) + (w64 (List.getD a0.1 (Int.toNat a0.2.1) (Ty.dflt (.int .u8)))))) &&& BitVec.ofInt (IntKind.bits .i64) 255).toNat : Int))), ()))))
  else
  (some ((a0.1, (a0.2.1, ((w64 ((w64 (a0.2.2.1 * 6364136223846793005)) + 1442695040888963407)), ()))), ((w64 (((BitVec.ofInt (IntKind.bits .i64) (w64 (((BitVec.ofInt (IntKind.bits .i64) (Int.fdiv (w64 ((w64 (a0.2.2.1 * 6364136223846793005)) + 1442695040888963407)) (2 ^ (Int.toNat 33))) ^^^ BitVec.ofInt (IntKind.bits .i64) (Int.fdiv (w64 ((w64 (a0.2.2.1 * 6364136223846793005)) + 1442695040888963407)) (2 ^ (Int.toNat 45)))).toNat : Int))) &&& BitVec.ofInt (IntKind.bits .i64) 255).toNat : Int))), ()))))
def f (k : Nat) (a0 : Ty.den Tl1Cur) : Option ((Ty.den Tl1Cur) × Int × Unit) := t k a0
end spec_l1Byte
namespace spec_l1Below
def t (k : Nat) (a0 : Ty.den Tl1Cur) (a1 : Int) : Option ((Ty.den Tl1Cur) × Int × Unit) :=
  (bif (decide (a1 ≤ 0)) then
  (some (a0, (0, ())))
  else
  (bif (decide (a1 ≤ 256)) then
  (Option.bind (spec_l1Byte.f k a0) fun r1 =>
  (bif (decide (a1 = 0)) then none else
  (some (r1.1, ((Int.tmod r1.2.1 a1), ())))))
  else
  (Option.bind (spec_l1Byte.f k a0) fun r2 =>
  (Option.bind (spec_l1Byte.f k r2.1) fun r3 =>
  (Option.bind (spec_l1Byte.f k r3.1) fun r4 =>
  (Option.bind (spec_l1Byte.f k r4.1) fun r5 =>
  (bif (decide (a1 = 0)) then none else
  (some (r5.1, ((Int.tmod (w64 ((w64 ((w64 ((w64 (r2.2.1 * 16777216)) + (w64 (r3.2.1 * 65536)))) + (w64 (r4.2.1 * 256)))) + r5.2.1)) a1), ()))))))))))
def f (k : Nat) (a0 : Ty.den Tl1Cur) (a1 : Int) : Option ((Ty.den Tl1Cur) × Int × Unit) := t k a0 a1
end spec_l1Below
namespace spec_l1Pick
def t (k : Nat) (a0 : Ty.den Tl1Cur) (a1 : List ByteArray) : Option ((Ty.den Tl1Cur) × ByteArray × Unit) :=
  (Option.bind (spec_l1Below.f k a0 (List.length a1 : Int)) fun r1 =>
  (inb r1.2.1 (List.length a1 : Int)
  (some (r1.1, ((List.getD a1 (Int.toNat r1.2.1) (Ty.dflt .str)), ())))))
def f (k : Nat) (a0 : Ty.den Tl1Cur) (a1 : List ByteArray) : Option ((Ty.den Tl1Cur) × ByteArray × Unit) := t k a0 a1
end spec_l1Pick
namespace spec_l5Key
def t (k : Nat) (a0 : Ty.den Tl1Cur) : Option ((Ty.den Tl1Cur) × ByteArray × Unit) :=
  (Option.bind (spec_l1Pick.f k a0 [(⟨#[97]⟩ : ByteArray), (⟨#[98]⟩ : ByteArray), (⟨#[99]⟩ : ByteArray), (⟨#[107, 101, 121]⟩ : ByteArray), (⟨#[108, 111, 110, 103, 110, 97, 109, 101]⟩ : ByteArray)]) fun r1 =>
  (some r1))
def f (k : Nat) (a0 : Ty.den Tl1Cur) : Option ((Ty.den Tl1Cur) × ByteArray × Unit) := t k a0
end spec_l5Key
namespace spec_l8Entry
def t (k : Nat) (a0 : Ty.den Tl1Cur) : Option ((Ty.den Tl1Cur) × (Ty.den TEntry) × Unit) :=
  (Option.bind (spec_l5Key.f k a0) fun r1 =>
  (Option.bind (spec_l1Below.f k r1.1 4) fun r2 =>
  (Option.bind (spec_l1Below.f k r2.1 90) fun r3 =>
  (Option.bind (spec_l1Below.f k r3.1 30) fun r4 =>
  (Option.bind (spec_l1Below.f k r4.1 9) fun r5 =>
  (some (r5.1, ((r1.2.1, ((w64 (1 + r2.2.1)), (r3.2.1, ((w64 (8 + r4.2.1)), ((w64 (1 + r5.2.1)), ()))))), ()))))))))
def f (k : Nat) (a0 : Ty.den Tl1Cur) : Option ((Ty.den Tl1Cur) × (Ty.den TEntry) × Unit) := t k a0
end spec_l8Entry
namespace spec_DirPut
abbrev T0 : Type := List (Ty.den TEntry) → Bool → Int → ByteArray → Int → Int → Int → Int → List (Ty.den TEntry) → Option ((List (Ty.den TEntry)) × Unit)
def b0 (k : Nat) (L0 : T0) (x0_0 : List (Ty.den TEntry)) (x0_1 : Bool) (x0_2 : Int) (x0_3 : ByteArray) (x0_4 : Int) (x0_5 : Int) (x0_6 : Int) (x0_7 : Int) (x0_8 : List (Ty.den TEntry)) : Option ((List (Ty.den TEntry)) × Unit) :=
  (bif (decide (x0_2 < (List.length x0_0 : Int))) then
  (inb x0_2 (List.length x0_0 : Int)
  (bif (seq (List.getD x0_0 (Int.toNat x0_2) (Ty.dflt TEntry)).1 x0_3) then
  (L0 x0_0 x0_1 (w64 (x0_2 + 1)) x0_3 x0_4 x0_5 x0_6 x0_7 x0_8)
  else
  (bif (!x0_1) then
  (inb x0_2 (List.length x0_0 : Int)
  (bif (!((sls (List.getD x0_0 (Int.toNat x0_2) (Ty.dflt TEntry)).1 x0_3) || (seq (List.getD x0_0 (Int.toNat x0_2) (Ty.dflt TEntry)).1 x0_3))) then
  (rm (Ty.bytes TEntry) (List.length x0_8 + 1)
  (inb x0_2 (List.length x0_0 : Int)
  (rm (Ty.bytes TEntry) (List.length (x0_8 ++ [(x0_3, (x0_4, (x0_5, (x0_6, (x0_7, ())))))]) + 1)
  (L0 x0_0 true (w64 (x0_2 + 1)) x0_3 x0_4 x0_5 x0_6 x0_7 ((x0_8 ++ [(x0_3, (x0_4, (x0_5, (x0_6, (x0_7, ())))))]) ++ [(List.getD x0_0 (Int.toNat x0_2) (Ty.dflt TEntry))])))))
  else
  (inb x0_2 (List.length x0_0 : Int)
  (rm (Ty.bytes TEntry) (List.length x0_8 + 1)
  (L0 x0_0 x0_1 (w64 (x0_2 + 1)) x0_3 x0_4 x0_5 x0_6 x0_7 (x0_8 ++ [(List.getD x0_0 (Int.toNat x0_2) (Ty.dflt TEntry))]))))))
  else
  (inb x0_2 (List.length x0_0 : Int)
  (rm (Ty.bytes TEntry) (List.length x0_8 + 1)
  (L0 x0_0 x0_1 (w64 (x0_2 + 1)) x0_3 x0_4 x0_5 x0_6 x0_7 (x0_8 ++ [(List.getD x0_0 (Int.toNat x0_2) (Ty.dflt TEntry))])))))))
  else
  (bif (!x0_1) then
  (rm (Ty.bytes TEntry) (List.length x0_8 + 1)
  (some ((x0_8 ++ [(x0_3, (x0_4, (x0_5, (x0_6, (x0_7, ())))))]), ())))
  else
  (some (x0_8, ()))))
def l0 (k : Nat) : Nat → T0
  | 0 => fun _ _ _ _ _ _ _ _ _ => none
  | n + 1 => b0 k (l0 k n)
def t (k : Nat) (L0 : T0) (a0 : List (Ty.den TEntry)) (a1 : Ty.den TEntry) : Option ((List (Ty.den TEntry)) × Unit) :=
  (L0 a0 false 0 a1.1 a1.2.1 a1.2.2.1 a1.2.2.2.1 a1.2.2.2.2.1 [])
def f (k : Nat) (a0 : List (Ty.den TEntry)) (a1 : Ty.den TEntry) : Option ((List (Ty.den TEntry)) × Unit) := t k (l0 k k) a0 a1
end spec_DirPut
namespace spec_l1Once
def t (k : Nat) (a0 : Ty.den Tl1Cur) (a1 : Int) : Option ((Ty.den Tl1Cur) × Bool × Unit) :=
  (Option.bind (spec_l1Below.f k a0 a1) fun r1 =>
  (some (r1.1, ((r1.2.1 == 0), ()))))
def f (k : Nat) (a0 : Ty.den Tl1Cur) (a1 : Int) : Option ((Ty.den Tl1Cur) × Bool × Unit) := t k a0 a1
end spec_l1Once
namespace spec_l1PickInt
def t (k : Nat) (a0 : Ty.den Tl1Cur) (a1 : List Int) : Option ((Ty.den Tl1Cur) × Int × Unit) :=
  (Option.bind (spec_l1Below.f k a0 (List.length a1 : Int)) fun r1 =>
  (inb r1.2.1 (List.length a1 : Int)
  (some (r1.1, ((List.getD a1 (Int.toNat r1.2.1) (Ty.dflt (.int .i64))), ())))))
def f (k : Nat) (a0 : Ty.den Tl1Cur) (a1 : List Int) : Option ((Ty.den Tl1Cur) × Int × Unit) := t k a0 a1
end spec_l1PickInt
namespace spec_l8Dir
abbrev T0 : Type := Int → List Int → Int → Int → List (Ty.den TEntry) → Option ((Ty.den Tl1Cur) × (List (Ty.den TEntry)) × Unit)
def b0 (k : Nat) (L0 : T0) (x0_0 : Int) (x0_1 : List Int) (x0_2 : Int) (x0_3 : Int) (x0_4 : List (Ty.den TEntry)) : Option ((Ty.den Tl1Cur) × (List (Ty.den TEntry)) × Unit) :=
  (bif (decide (x0_0 > 0)) then
  (Option.bind (spec_l8Entry.f k (x0_1, (x0_2, (x0_3, ())))) fun r2 =>
  (Option.bind (spec_DirPut.f k x0_4 r2.2.1) fun r3 =>
  (L0 (w64 (x0_0 - 1)) r2.1.1 r2.1.2.1 r2.1.2.2.1 r3.1)))
  else
  (bif (decide ((List.length x0_4 : Int) > 0)) then
  (Option.bind (spec_l1Once.f k (x0_1, (x0_2, (x0_3, ()))) 8) fun r4 =>
  (bif r4.2.1 then
  (Option.bind (spec_l1Below.f k r4.1 (List.length x0_4 : Int)) fun r5 =>
  (Option.bind (spec_l1Below.f k r5.1 4) fun r6 =>
  (bif (r6.2.1 == 0) then
  (Option.bind (spec_l1Pick.f k r6.1 [(⟨#[]⟩ : ByteArray), (⟨#[122, 122, 122, 122, 122, 122, 122, 122, 122]⟩ : ByteArray), (⟨#[97]⟩ : ByteArray)]) fun r7 =>
  (inb r5.2.1 (List.length x0_4 : Int)
  (let l8 := (List.set x0_4 (Int.toNat r5.2.1) (r7.2.1, (List.getD x0_4 (Int.toNat r5.2.1) (Ty.dflt TEntry)).2));
  (some (r7.1, (l8, ()))))))
  else
  (bif (r6.2.1 == 1) then
  (inb r5.2.1 (List.length x0_4 : Int)
  (let l9 := (List.set x0_4 (Int.toNat r5.2.1) ((List.getD x0_4 (Int.toNat r5.2.1) (Ty.dflt TEntry)).1, (0, (List.getD x0_4 (Int.toNat r5.2.1) (Ty.dflt TEntry)).2.2)));
  (some (r6.1, (l9, ())))))
  else
  (bif (r6.2.1 == 2) then
  (Option.bind (spec_l1PickInt.f k r6.1 [0, 210, 211]) fun r10 =>
  (inb r5.2.1 (List.length x0_4 : Int)
  (let l11 := (List.set x0_4 (Int.toNat r5.2.1) ((List.getD x0_4 (Int.toNat r5.2.1) (Ty.dflt TEntry)).1, ((List.getD x0_4 (Int.toNat r5.2.1) (Ty.dflt TEntry)).2.1, ((List.getD x0_4 (Int.toNat r5.2.1) (Ty.dflt TEntry)).2.2.1, (r10.2.1, (List.getD x0_4 (Int.toNat r5.2.1) (Ty.dflt TEntry)).2.2.2.2)))));
  (some (r10.1, (l11, ()))))))
  else
  (Option.bind (spec_l1PickInt.f k r6.1 [0, 1000001]) fun r12 =>
  (inb r5.2.1 (List.length x0_4 : Int)
  (let l13 := (List.set x0_4 (Int.toNat r5.2.1) ((List.getD x0_4 (Int.toNat r5.2.1) (Ty.dflt TEntry)).1, ((List.getD x0_4 (Int.toNat r5.2.1) (Ty.dflt TEntry)).2.1, ((List.getD x0_4 (Int.toNat r5.2.1) (Ty.dflt TEntry)).2.2.1, ((List.getD x0_4 (Int.toNat r5.2.1) (Ty.dflt TEntry)).2.2.2.1, r12.2)))));
  (some (r12.1, (l13, ())))))))))))
  else
  (some (r4.1, (x0_4, ())))))
  else
  (some ((x0_1, (x0_2, (x0_3, ()))), (x0_4, ())))))
def l0 (k : Nat) : Nat → T0
  | 0 => fun _ _ _ _ _ => none
  | n + 1 => b0 k (l0 k n)
def t (k : Nat) (L0 : T0) (a0 : Ty.den Tl1Cur) : Option ((Ty.den Tl1Cur) × (List (Ty.den TEntry)) × Unit) :=
  (Option.bind (spec_l1Below.f k a0 7) fun r1 =>
  (L0 r1.2.1 r1.1.1 r1.1.2.1 r1.1.2.2.1 []))
def f (k : Nat) (a0 : Ty.den Tl1Cur) : Option ((Ty.den Tl1Cur) × (List (Ty.den TEntry)) × Unit) := t k (l0 k k) a0
end spec_l8Dir
namespace spec_DrawRangeOf
def t (k : Nat) (a0 : List Int) : Option ((List (Ty.den TEntry)) × ByteArray × ByteArray × Unit) :=
  (Option.bind (spec_l1New.f k a0) fun r1 =>
  (Option.bind (spec_l8Dir.f k r1.2.1) fun r2 =>
  (Option.bind (spec_l1Pick.f k r2.1 [(⟨#[]⟩ : ByteArray), (⟨#[97]⟩ : ByteArray), (⟨#[98]⟩ : ByteArray)]) fun r3 =>
  (Option.bind (spec_l1Pick.f k r3.1 [(⟨#[]⟩ : ByteArray), (⟨#[98]⟩ : ByteArray), (⟨#[99]⟩ : ByteArray), (⟨#[107, 101, 121]⟩ : ByteArray), (⟨#[122]⟩ : ByteArray)]) fun r4 =>
  (some (r2.2.1, (r3.2.1, r4.2)))))))
def f (k : Nat) (a0 : List Int) : Option ((List (Ty.den TEntry)) × ByteArray × ByteArray × Unit) := t k a0
end spec_DrawRangeOf
namespace spec_l1In
def t (k : Nat) (a0 : Int) (a1 : Int) (a2 : Int) : Option (Bool × Unit) :=
  (bif (decide (a0 ≥ a1)) then
  (some ((decide (a0 ≤ a2)), ()))
  else
  (some (false, ())))
def f (k : Nat) (a0 : Int) (a1 : Int) (a2 : Int) : Option (Bool × Unit) := t k a0 a1 a2
end spec_l1In
namespace spec_KeyOk
def t (k : Nat) (a0 : ByteArray) : Option (Bool × Unit) :=
  (Option.bind (spec_l1In.f k (ByteArray.size a0 : Int) 1 8) fun r1 =>
  (some r1))
def f (k : Nat) (a0 : ByteArray) : Option (Bool × Unit) := t k a0
end spec_KeyOk
namespace spec_DirOk
abbrev T0 : Type := List (Ty.den TEntry) → Int → Option (Bool × Unit)
def b0 (k : Nat) (L0 : T0) (x0_0 : List (Ty.den TEntry)) (x0_1 : Int) : Option (Bool × Unit) :=
  (bif (decide (x0_1 < (List.length x0_0 : Int))) then
  (inb x0_1 (List.length x0_0 : Int)
  (Option.bind (spec_KeyOk.f k (List.getD x0_0 (Int.toNat x0_1) (Ty.dflt TEntry)).1) fun r1 =>
  (bif (!r1.1) then
  (some (false, ()))
  else
  (Option.bind (spec_l1In.f k (List.getD x0_0 (Int.toNat x0_1) (Ty.dflt TEntry)).2.1 1 100000) fun r2 =>
  (bif (!r2.1) then
  (some (false, ()))
  else
  (bif (decide ((List.getD x0_0 (Int.toNat x0_1) (Ty.dflt TEntry)).2.2.1 < 0)) then
  (some (false, ()))
  else
  (Option.bind (spec_l1In.f k (List.getD x0_0 (Int.toNat x0_1) (Ty.dflt TEntry)).2.2.2.1 1 210) fun r3 =>
  (bif (!r3.1) then
  (some (false, ()))
  else
  (Option.bind (spec_l1In.f k (List.getD x0_0 (Int.toNat x0_1) (Ty.dflt TEntry)).2.2.2.2.1 1 1000000) fun r4 =>
  (bif (!r4.1) then
  (some (false, ()))
  else
  (bif (decide (x0_1 > 0)) then
  (inb (w64 (x0_1 - 1)) (List.length x0_0 : Int)
  (bif ((sls (List.getD x0_0 (Int.toNat x0_1) (Ty.dflt TEntry)).1 (List.getD x0_0 (Int.toNat (w64 (x0_1 - 1))) (Ty.dflt TEntry)).1) || (seq (List.getD x0_0 (Int.toNat x0_1) (Ty.dflt TEntry)).1 (List.getD x0_0 (Int.toNat (w64 (x0_1 - 1))) (Ty.dflt TEntry)).1)) then
  (some (false, ()))
  else
  (L0 x0_0 (w64 (x0_1 + 1)))))
  else
  (L0 x0_0 (w64 (x0_1 + 1))))))))))))))
  else
  (some (true, ())))
def l0 (k : Nat) : Nat → T0
  | 0 => fun _ _ => none
  | n + 1 => b0 k (l0 k n)
def t (k : Nat) (L0 : T0) (a0 : List (Ty.den TEntry)) : Option (Bool × Unit) :=
  (bif (decide ((List.length a0 : Int) > 20)) then
  (some (false, ()))
  else
  (L0 a0 0))
def f (k : Nat) (a0 : List (Ty.den TEntry)) : Option (Bool × Unit) := t k (l0 k k) a0
end spec_DirOk
namespace laws_at
def t (k : Nat) (a0 : List Int) (a1 : Int) : Option (Int × Unit) :=
  (bif (decide (a1 < (List.length a0 : Int))) then
  (inb a1 (List.length a0 : Int)
  (some ((w64 (List.getD a0 (Int.toNat a1) (Ty.dflt (.int .u8)))), ())))
  else
  (some ((Int.tmod (w64 ((w64 (a1 * 37)) + (w64 ((List.length a0 : Int) * 11)))) 256), ())))
def f (k : Nat) (a0 : List Int) (a1 : Int) : Option (Int × Unit) := t k a0 a1
end laws_at
namespace impl_Page
abbrev T0 : Type := ByteArray → Int → ByteArray → List (Ty.den TEntry) → Int → Int → List ByteArray → Option ((List ByteArray) × ByteArray × Unit)
def b0 (k : Nat) (L0 : T0) (x0_0 : ByteArray) (x0_1 : Int) (x0_2 : ByteArray) (x0_3 : List (Ty.den TEntry)) (x0_4 : Int) (x0_5 : Int) (x0_6 : List ByteArray) : Option ((List ByteArray) × ByteArray × Unit) :=
  (bif (decide (x0_5 < x0_4)) then
  (inb x0_5 (List.length x0_3 : Int)
  (bif (!((sls (List.getD x0_3 (Int.toNat x0_5) (Ty.dflt TEntry)).1 x0_0) || (seq (List.getD x0_3 (Int.toNat x0_5) (Ty.dflt TEntry)).1 x0_0))) then
  (bif (decide ((List.length x0_6 : Int) < x0_1)) then
  (rm (Ty.bytes .str) (List.length x0_6 + 1)
  (L0 x0_0 x0_1 (List.getD x0_3 (Int.toNat x0_5) (Ty.dflt TEntry)).1 x0_3 x0_4 (w64 (x0_5 + 1)) (x0_6 ++ [(List.getD x0_3 (Int.toNat x0_5) (Ty.dflt TEntry)).1])))
  else
  (L0 x0_0 x0_1 x0_2 x0_3 x0_4 (w64 (x0_5 + 1)) x0_6))
  else
  (L0 x0_0 x0_1 x0_2 x0_3 x0_4 (w64 (x0_5 + 1)) x0_6)))
  else
  (some (x0_6, (x0_2, ()))))
def l0 (k : Nat) : Nat → T0
  | 0 => fun _ _ _ _ _ _ _ => none
  | n + 1 => b0 k (l0 k n)
def t (k : Nat) (L0 : T0) (a0 : List (Ty.den TEntry)) (a1 : ByteArray) (a2 : Int) : Option ((List ByteArray) × ByteArray × Unit) :=
  (L0 a1 a2 (⟨#[]⟩ : ByteArray) a0 (List.length a0 : Int) 0 [])
def f (k : Nat) (a0 : List (Ty.den TEntry)) (a1 : ByteArray) (a2 : Int) : Option ((List ByteArray) × ByteArray × Unit) := t k (l0 k k) a0 a1 a2
end impl_Page
namespace impl_RangeOf
abbrev T0 : Type := ByteArray → ByteArray → List (Ty.den TEntry) → Int → Int → List ByteArray → Option ((List ByteArray) × Unit)
def b0 (k : Nat) (L0 : T0) (x0_0 : ByteArray) (x0_1 : ByteArray) (x0_2 : List (Ty.den TEntry)) (x0_3 : Int) (x0_4 : Int) (x0_5 : List ByteArray) : Option ((List ByteArray) × Unit) :=
  (bif (decide (x0_4 < x0_3)) then
  (inb x0_4 (List.length x0_2 : Int)
  (bif (!(sls (List.getD x0_2 (Int.toNat x0_4) (Ty.dflt TEntry)).1 x0_0)) then
  (bif (seq x0_1 (⟨#[]⟩ : ByteArray)) then
  (rm (Ty.bytes .str) (List.length x0_5 + 1)
  (L0 x0_0 x0_1 x0_2 x0_3 (w64 (x0_4 + 1)) (x0_5 ++ [(List.getD x0_2 (Int.toNat x0_4) (Ty.dflt TEntry)).1])))
  else
  (bif (sls (List.getD x0_2 (Int.toNat x0_4) (Ty.dflt TEntry)).1 x0_1) then
  (rm (Ty.bytes .str) (List.length x0_5 + 1)
  (L0 x0_0 x0_1 x0_2 x0_3 (w64 (x0_4 + 1)) (x0_5 ++ [(List.getD x0_2 (Int.toNat x0_4) (Ty.dflt TEntry)).1])))
  else
  (L0 x0_0 x0_1 x0_2 x0_3 (w64 (x0_4 + 1)) x0_5)))
  else
  (L0 x0_0 x0_1 x0_2 x0_3 (w64 (x0_4 + 1)) x0_5)))
  else
  (some (x0_5, ())))
def l0 (k : Nat) : Nat → T0
  | 0 => fun _ _ _ _ _ _ => none
  | n + 1 => b0 k (l0 k n)
def t (k : Nat) (L0 : T0) (a0 : List (Ty.den TEntry)) (a1 : ByteArray) (a2 : ByteArray) : Option ((List ByteArray) × Unit) :=
  (L0 a1 a2 a0 (List.length a0 : Int) 0 [])
def f (k : Nat) (a0 : List (Ty.den TEntry)) (a1 : ByteArray) (a2 : ByteArray) : Option ((List ByteArray) × Unit) := t k (l0 k k) a0 a1 a2
end impl_RangeOf
namespace spec_DirGet
abbrev T0 : Type := List (Ty.den TEntry) → ByteArray → Int → ByteArray → Int → Int → Int → Int → Option ((Ty.den TEntry) × Bool × Unit)
def b0 (k : Nat) (L0 : T0) (x0_0 : List (Ty.den TEntry)) (x0_1 : ByteArray) (x0_2 : Int) (x0_3 : ByteArray) (x0_4 : Int) (x0_5 : Int) (x0_6 : Int) (x0_7 : Int) : Option ((Ty.den TEntry) × Bool × Unit) :=
  (bif (decide (x0_2 < (List.length x0_0 : Int))) then
  (inb x0_2 (List.length x0_0 : Int)
  (bif (seq (List.getD x0_0 (Int.toNat x0_2) (Ty.dflt TEntry)).1 x0_1) then
  (inb x0_2 (List.length x0_0 : Int)
  (some ((List.getD x0_0 (Int.toNat x0_2) (Ty.dflt TEntry)), (true, ()))))
  else
  (L0 x0_0 x0_1 (w64 (x0_2 + 1)) x0_3 x0_4 x0_5 x0_6 x0_7)))
  else
  (some ((ByteArray.empty, (0, (0, (0, (0, ()))))), (false, ()))))
def l0 (k : Nat) : Nat → T0
  | 0 => fun _ _ _ _ _ _ _ _ => none
  | n + 1 => b0 k (l0 k n)
def t (k : Nat) (L0 : T0) (a0 : List (Ty.den TEntry)) (a1 : ByteArray) : Option ((Ty.den TEntry) × Bool × Unit) :=
  (L0 a0 a1 0 ByteArray.empty 0 0 0 0)
def f (k : Nat) (a0 : List (Ty.den TEntry)) (a1 : ByteArray) : Option ((Ty.den TEntry) × Bool × Unit) := t k (l0 k k) a0 a1
end spec_DirGet
namespace impl_Pages
abbrev T0 : Type := List (Ty.den TEntry) → Int → ByteArray → List ByteArray → Option ((List ByteArray) × Unit)
def b0 (k : Nat) (L0 : T0) (x0_0 : List (Ty.den TEntry)) (x0_1 : Int) (x0_2 : ByteArray) (x0_3 : List ByteArray) : Option ((List ByteArray) × Unit) :=
  (bif (decide (x0_1 > 0)) then
  (Option.bind (impl_Page.f k x0_0 x0_2 x0_1) fun r1 =>
  (bif ((List.length r1.1 : Int) == 0) then
  (some (x0_3, ()))
  else
  (rm (Ty.bytes .str) (List.length x0_3 + List.length r1.1)
  (L0 x0_0 x0_1 r1.2.1 (x0_3 ++ r1.1)))))
  else
  (some (x0_3, ())))
def l0 (k : Nat) : Nat → T0
  | 0 => fun _ _ _ _ => none
  | n + 1 => b0 k (l0 k n)
def t (k : Nat) (L0 : T0) (a0 : List (Ty.den TEntry)) (a1 : Int) : Option ((List ByteArray) × Unit) :=
  (L0 a0 a1 (⟨#[]⟩ : ByteArray) [])
def f (k : Nat) (a0 : List (Ty.den TEntry)) (a1 : Int) : Option ((List ByteArray) × Unit) := t k (l0 k k) a0 a1
end impl_Pages
namespace spec_DirKeys
abbrev T0 : Type := List (Ty.den TEntry) → Int → List ByteArray → Option ((List ByteArray) × Unit)
def b0 (k : Nat) (L0 : T0) (x0_0 : List (Ty.den TEntry)) (x0_1 : Int) (x0_2 : List ByteArray) : Option ((List ByteArray) × Unit) :=
  (bif (decide (x0_1 < (List.length x0_0 : Int))) then
  (inb x0_1 (List.length x0_0 : Int)
  (rm (Ty.bytes .str) (List.length x0_2 + 1)
  (L0 x0_0 (w64 (x0_1 + 1)) (x0_2 ++ [(List.getD x0_0 (Int.toNat x0_1) (Ty.dflt TEntry)).1]))))
  else
  (some (x0_2, ())))
def l0 (k : Nat) : Nat → T0
  | 0 => fun _ _ _ => none
  | n + 1 => b0 k (l0 k n)
def t (k : Nat) (L0 : T0) (a0 : List (Ty.den TEntry)) : Option ((List ByteArray) × Unit) :=
  (L0 a0 0 [])
def f (k : Nat) (a0 : List (Ty.den TEntry)) : Option ((List ByteArray) × Unit) := t k (l0 k k) a0
end spec_DirKeys
namespace laws_sameTexts
abbrev T0 : Type := List ByteArray → List ByteArray → Int → Option (Bool × Unit)
def b0 (k : Nat) (L0 : T0) (x0_0 : List ByteArray) (x0_1 : List ByteArray) (x0_2 : Int) : Option (Bool × Unit) :=
  (bif (decide (x0_2 < (List.length x0_0 : Int))) then
  (inb x0_2 (List.length x0_0 : Int)
  (inb x0_2 (List.length x0_1 : Int)
  (bif (!(seq (List.getD x0_0 (Int.toNat x0_2) (Ty.dflt .str)) (List.getD x0_1 (Int.toNat x0_2) (Ty.dflt .str)))) then
  (some (false, ()))
  else
  (L0 x0_0 x0_1 (w64 (x0_2 + 1))))))
  else
  (some (true, ())))
def l0 (k : Nat) : Nat → T0
  | 0 => fun _ _ _ => none
  | n + 1 => b0 k (l0 k n)
def t (k : Nat) (L0 : T0) (a0 : List ByteArray) (a1 : List ByteArray) : Option (Bool × Unit) :=
  (bif ((List.length a0 : Int) != (List.length a1 : Int)) then
  (some (false, ()))
  else
  (L0 a0 a1 0))
def f (k : Nat) (a0 : List ByteArray) (a1 : List ByteArray) : Option (Bool × Unit) := t k (l0 k k) a0 a1
end laws_sameTexts
namespace laws_FnPages
abbrev T0 : Type := ByteArray → ByteArray → Int → ByteArray → Int → List (Ty.den TEntry) → List ByteArray → List ByteArray → Option (Bool × Unit)
def b0 (k : Nat) (L0 : T0) (x0_0 : ByteArray) (x0_1 : ByteArray) (x0_2 : Int) (x0_3 : ByteArray) (x0_4 : Int) (x0_5 : List (Ty.den TEntry)) (x0_6 : List ByteArray) (x0_7 : List ByteArray) : Option (Bool × Unit) :=
  (bif (decide (x0_4 < (List.length x0_7 : Int))) then
  (inb x0_4 (List.length x0_7 : Int)
  (Option.bind (spec_DirGet.f k x0_5 (List.getD x0_7 (Int.toNat x0_4) (Ty.dflt .str))) fun r7 =>
  (bif (!r7.2.1) then
  (some (false, ()))
  else
  (inb x0_4 (List.length x0_7 : Int)
  (bif (sls (List.getD x0_7 (Int.toNat x0_4) (Ty.dflt .str)) x0_0) then
  (some (false, ()))
  else
  (bif (!(seq x0_1 (⟨#[]⟩ : ByteArray))) then
  (inb x0_4 (List.length x0_7 : Int)
  (bif (!(sls (List.getD x0_7 (Int.toNat x0_4) (Ty.dflt .str)) x0_1)) then
  (some (false, ()))
  else
  (bif (decide (x0_4 > 0)) then
  (inb x0_4 (List.length x0_7 : Int)
  (inb (w64 (x0_4 - 1)) (List.length x0_7 : Int)
  (bif ((sls (List.getD x0_7 (Int.toNat x0_4) (Ty.dflt .str)) (List.getD x0_7 (Int.toNat (w64 (x0_4 - 1))) (Ty.dflt .str))) || (seq (List.getD x0_7 (Int.toNat x0_4) (Ty.dflt .str)) (List.getD x0_7 (Int.toNat (w64 (x0_4 - 1))) (Ty.dflt .str)))) then
  (some (false, ()))
  else
  (L0 x0_0 x0_1 x0_2 x0_3 (w64 (x0_4 + 1)) x0_5 x0_6 x0_7))))
  else
  (L0 x0_0 x0_1 x0_2 x0_3 (w64 (x0_4 + 1)) x0_5 x0_6 x0_7))))
  else
  (bif (decide (x0_4 > 0)) then
  (inb x0_4 (List.length x0_7 : Int)
  (inb (w64 (x0_4 - 1)) (List.length x0_7 : Int)
  (bif ((sls (List.getD x0_7 (Int.toNat x0_4) (Ty.dflt .str)) (List.getD x0_7 (Int.toNat (w64 (x0_4 - 1))) (Ty.dflt .str))) || (seq (List.getD x0_7 (Int.toNat x0_4) (Ty.dflt .str)) (List.getD x0_7 (Int.toNat (w64 (x0_4 - 1))) (Ty.dflt .str)))) then
  (some (false, ()))
  else
  (L0 x0_0 x0_1 x0_2 x0_3 (w64 (x0_4 + 1)) x0_5 x0_6 x0_7))))
  else
  (L0 x0_0 x0_1 x0_2 x0_3 (w64 (x0_4 + 1)) x0_5 x0_6 x0_7))))))))
  else
  (Option.bind (impl_Pages.f k x0_5 x0_2) fun r8 =>
  (Option.bind (spec_DirKeys.f k x0_5) fun r9 =>
  (Option.bind (laws_sameTexts.f k r8.1 r9.1) fun r10 =>
  (bif r10.1 then
  (bif (decide ((List.length x0_6 : Int) ≤ x0_2)) then
  (bif (((List.length x0_6 : Int) == 0) == (seq x0_3 (⟨#[]⟩ : ByteArray))) then
  (bif ((List.length x0_6 : Int) == 0) then
  (Option.bind (impl_RangeOf.f k x0_5 (⟨#[]⟩ : ByteArray) (⟨#[]⟩ : ByteArray)) fun r11 =>
  (Option.bind (spec_DirKeys.f k x0_5) fun r12 =>
  (Option.bind (laws_sameTexts.f k r11.1 r12.1) fun r13 =>
  (bif r13.1 then
  (Option.bind (impl_RangeOf.f k x0_5 (⟨#[]⟩ : ByteArray) x0_0) fun r14 =>
  (Option.bind (impl_RangeOf.f k x0_5 x0_0 (⟨#[]⟩ : ByteArray)) fun r15 =>
  (some ((decide ((w64 ((List.length x0_7 : Int) + (List.length r14.1 : Int))) ≤ (w64 ((List.length x0_5 : Int) + (List.length r15.1 : Int))))), ()))))
  else
  (some (false, ()))))))
  else
  (inb (w64 ((List.length x0_6 : Int) - 1)) (List.length x0_6 : Int)
  (bif (seq (List.getD x0_6 (Int.toNat (w64 ((List.length x0_6 : Int) - 1))) (Ty.dflt .str)) x0_3) then
  (inb 0 (List.length x0_6 : Int)
  (bif (!((sls (List.getD x0_6 0 (Ty.dflt .str)) x0_0) || (seq (List.getD x0_6 0 (Ty.dflt .str)) x0_0))) then
  (Option.bind (impl_RangeOf.f k x0_5 (⟨#[]⟩ : ByteArray) (⟨#[]⟩ : ByteArray)) fun r16 =>
  (Option.bind (spec_DirKeys.f k x0_5) fun r17 =>
  (Option.bind (laws_sameTexts.f k r16.1 r17.1) fun r18 =>
  (bif r18.1 then
  (Option.bind (impl_RangeOf.f k x0_5 (⟨#[]⟩ : ByteArray) x0_0) fun r19 =>
  (Option.bind (impl_RangeOf.f k x0_5 x0_0 (⟨#[]⟩ : ByteArray)) fun r20 =>
  (some ((decide ((w64 ((List.length x0_7 : Int) + (List.length r19.1 : Int))) ≤ (w64 ((List.length x0_5 : Int) + (List.length r20.1 : Int))))), ()))))
  else
  (some (false, ()))))))
  else
  (some (false, ()))))
  else
  (some (false, ())))))
  else
  (some (false, ())))
  else
  (some (false, ())))
  else
  (some (false, ())))))))
def l0 (k : Nat) : Nat → T0
  | 0 => fun _ _ _ _ _ _ _ _ => none
  | n + 1 => b0 k (l0 k n)
def t (k : Nat) (L0 : T0) (a0 : List Int) : Option (Bool × Unit) :=
  (Option.bind (laws_big.f k a0) fun r1 =>
  (bif r1.1 then
  (some (true, ()))
  else
  (Option.bind (spec_DrawRangeOf.f k a0) fun r2 =>
  (Option.bind (spec_DirOk.f k r2.1) fun r3 =>
  (bif (!r3.1) then
  (some (true, ()))
  else
  (Option.bind (laws_at.f k a0 0) fun r4 =>
  (Option.bind (impl_Page.f k r2.1 r2.2.1 (w64 (1 + (Int.tmod r4.1 4)))) fun r5 =>
  (Option.bind (impl_RangeOf.f k r2.1 r2.2.1 r2.2.2.1) fun r6 =>
  (L0 r2.2.1 r2.2.2.1 (w64 (1 + (Int.tmod r4.1 4))) r5.2.1 0 r2.1 r5.1 r6.1)))))))))
def f (k : Nat) (a0 : List Int) : Option (Bool × Unit) := t k (l0 k k) a0
end laws_FnPages
end Go.Proofs.Ytegeiflafmpefaa.G

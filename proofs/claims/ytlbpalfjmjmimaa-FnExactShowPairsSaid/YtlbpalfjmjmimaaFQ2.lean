/- Functions, as V runs them. -/
import Derived.Test.YtlbpalfjmjmimaaVWords
set_option linter.unusedVariables false
namespace Go.Proofs.Ytlbpalfjmjmimaa.G
open Go.V
abbrev TBit : Ty := .pair (.int .i64) (.pair (.int .i64) (.pair .str .unit))
abbrev TEntry : Ty := .pair .str (.pair (.int .i64) (.pair (.int .i64) (.pair (.int .i64) (.pair (.int .i64) .unit))))
abbrev TPiece : Ty := .pair (.int .i64) (.pair .str .unit)
abbrev TFollower : Ty := .pair (.int .i64) (.pair (.slice TPiece) .unit)
abbrev TLive : Ty := .pair (.int .i64) (.pair (.slice (.int .i64)) .unit)
abbrev TPair : Ty := .pair .str (.pair .str (.pair (.int .i64) .unit))
abbrev TParcel : Ty := .pair (.int .i64) (.pair (.slice TBit) .unit)
abbrev TPut : Ty := .pair .str (.pair .bool (.pair .str .unit))
abbrev TRec : Ty := .pair (.int .i64) (.pair (.int .i64) (.pair .str (.pair .str (.pair (.int .i64) (.pair (.int .i64) .unit)))))
def laws_szEntry.t (k : Nat) (a0 : Ty.den TEntry) (a1 : Int) : Option (Int × Unit) :=
  (bif (decide ((w64 (a1 - (ByteArray.size a0.1 : Int))) < 0)) then
  (some ((-1), ()))
  else
  (some ((w64 (a1 - (ByteArray.size a0.1 : Int))), ())))
def laws_szEntry.f (k : Nat) (a0 : Ty.den TEntry) (a1 : Int) : Option (Int × Unit) := laws_szEntry.t k a0 a1
def laws_szEntryS.b0 (k : Nat) (L0 : List (Ty.den TEntry) → Int → Int → Option (Int × Unit)) (x0_0 : List (Ty.den TEntry)) (x0_1 : Int) (x0_2 : Int) : Option (Int × Unit) :=
  (bif (decide (x0_2 < (List.length x0_0 : Int))) then
  (inb x0_2 (List.length x0_0 : Int)
  (Option.bind (laws_szEntry.f k (List.getD x0_0 (Int.toNat x0_2) (Ty.dflt TEntry)) x0_1) fun r1 =>
  (bif (decide (r1.1 < 0)) then
  (some ((-1), ()))
  else
  (L0 x0_0 r1.1 (w64 (x0_2 + 1))))))
  else
  (some (x0_1, ())))
def laws_szEntryS.l0 (k : Nat) : Nat → List (Ty.den TEntry) → Int → Int → Option (Int × Unit)
  | 0 => fun _ _ _ => none
  | n + 1 => laws_szEntryS.b0 k (laws_szEntryS.l0 k n)
def laws_szEntryS.t (k : Nat) (L0 : List (Ty.den TEntry) → Int → Int → Option (Int × Unit)) (a0 : List (Ty.den TEntry)) (a1 : Int) : Option (Int × Unit) :=
  (bif (decide ((w64 (a1 - (List.length a0 : Int))) < 0)) then
  (some ((-1), ()))
  else
  (L0 a0 (w64 (a1 - (List.length a0 : Int))) 0))
def laws_szEntryS.f (k : Nat) (a0 : List (Ty.den TEntry)) (a1 : Int) : Option (Int × Unit) := laws_szEntryS.t k (laws_szEntryS.l0 k k) a0 a1
def laws_toEntry.t (k : Nat) (a0 : Ty.den TEntry) : Option ((Ty.den TEntry) × Unit) :=
  (some (a0, ()))
def laws_toEntry.f (k : Nat) (a0 : Ty.den TEntry) : Option ((Ty.den TEntry) × Unit) := laws_toEntry.t k a0
def laws_toEntryS.b0 (k : Nat) (L0 : List (Ty.den TEntry) → Int → List (Ty.den TEntry) → Option ((List (Ty.den TEntry)) × Unit)) (x0_0 : List (Ty.den TEntry)) (x0_1 : Int) (x0_2 : List (Ty.den TEntry)) : Option ((List (Ty.den TEntry)) × Unit) :=
  (bif (decide (x0_1 < (List.length x0_0 : Int))) then
  (inb x0_1 (List.length x0_0 : Int)
  (Option.bind (laws_toEntry.f k (List.getD x0_0 (Int.toNat x0_1) (Ty.dflt TEntry))) fun r1 =>
  (inb x0_1 (List.length x0_2 : Int)
  (let l2 := (List.set x0_2 (Int.toNat x0_1) r1.1);
  (L0 x0_0 (w64 (x0_1 + 1)) l2)))))
  else
  (some (x0_2, ())))
def laws_toEntryS.l0 (k : Nat) : Nat → List (Ty.den TEntry) → Int → List (Ty.den TEntry) → Option ((List (Ty.den TEntry)) × Unit)
  | 0 => fun _ _ _ => none
  | n + 1 => laws_toEntryS.b0 k (laws_toEntryS.l0 k n)
def laws_toEntryS.t (k : Nat) (L0 : List (Ty.den TEntry) → Int → List (Ty.den TEntry) → Option ((List (Ty.den TEntry)) × Unit)) (a0 : List (Ty.den TEntry)) : Option ((List (Ty.den TEntry)) × Unit) :=
  (mks (Ty.bytes TEntry) (List.length a0 : Int)
  (L0 a0 0 (List.replicate (Int.toNat (List.length a0 : Int)) (Ty.dflt TEntry))))
def laws_toEntryS.f (k : Nat) (a0 : List (Ty.den TEntry)) : Option ((List (Ty.den TEntry)) × Unit) := laws_toEntryS.t k (laws_toEntryS.l0 k k) a0
def spec_RangeOf.b0 (k : Nat) (L0 : List (Ty.den TEntry) → ByteArray → ByteArray → Int → List ByteArray → Option ((List ByteArray) × Unit)) (x0_0 : List (Ty.den TEntry)) (x0_1 : ByteArray) (x0_2 : ByteArray) (x0_3 : Int) (x0_4 : List ByteArray) : Option ((List ByteArray) × Unit) :=
  (bif (decide (x0_3 < (List.length x0_0 : Int))) then
  (inb x0_3 (List.length x0_0 : Int)
  (bif (!(sls (List.getD x0_0 (Int.toNat x0_3) (Ty.dflt TEntry)).1 x0_1)) then
  (bif (seq x0_2 (⟨#[]⟩ : ByteArray)) then
  (inb x0_3 (List.length x0_0 : Int)
  (rm (Ty.bytes .str) (List.length x0_4 + 1)
  (L0 x0_0 x0_1 x0_2 (w64 (x0_3 + 1)) (x0_4 ++ [(List.getD x0_0 (Int.toNat x0_3) (Ty.dflt TEntry)).1]))))
  else
  (inb x0_3 (List.length x0_0 : Int)
  (bif (sls (List.getD x0_0 (Int.toNat x0_3) (Ty.dflt TEntry)).1 x0_2) then
  (inb x0_3 (List.length x0_0 : Int)
  (rm (Ty.bytes .str) (List.length x0_4 + 1)
  (L0 x0_0 x0_1 x0_2 (w64 (x0_3 + 1)) (x0_4 ++ [(List.getD x0_0 (Int.toNat x0_3) (Ty.dflt TEntry)).1]))))
  else
  (L0 x0_0 x0_1 x0_2 (w64 (x0_3 + 1)) x0_4))))
  else
  (L0 x0_0 x0_1 x0_2 (w64 (x0_3 + 1)) x0_4)))
  else
  (some (x0_4, ())))
def spec_RangeOf.l0 (k : Nat) : Nat → List (Ty.den TEntry) → ByteArray → ByteArray → Int → List ByteArray → Option ((List ByteArray) × Unit)
  | 0 => fun _ _ _ _ _ => none
  | n + 1 => spec_RangeOf.b0 k (spec_RangeOf.l0 k n)
def spec_RangeOf.t (k : Nat) (L0 : List (Ty.den TEntry) → ByteArray → ByteArray → Int → List ByteArray → Option ((List ByteArray) × Unit)) (a0 : List (Ty.den TEntry)) (a1 : ByteArray) (a2 : ByteArray) : Option ((List ByteArray) × Unit) :=
  (L0 a0 a1 a2 0 [])
def spec_RangeOf.f (k : Nat) (a0 : List (Ty.den TEntry)) (a1 : ByteArray) (a2 : ByteArray) : Option ((List ByteArray) × Unit) := spec_RangeOf.t k (spec_RangeOf.l0 k k) a0 a1 a2
def impl_RangeOf.b0 (k : Nat) (L0 : ByteArray → ByteArray → List (Ty.den TEntry) → Int → Int → List ByteArray → Option ((List ByteArray) × Unit)) (x0_0 : ByteArray) (x0_1 : ByteArray) (x0_2 : List (Ty.den TEntry)) (x0_3 : Int) (x0_4 : Int) (x0_5 : List ByteArray) : Option ((List ByteArray) × Unit) :=
  (bif (decide (x0_4 < x0_3)) then
  (inb x0_4 (List.length x0_2 : Int)
  (bif (!(sls (List.getD x0_2 (Int.toNat x0_4) (Ty.dflt TEntry)).1 x0_0)) then
  (bif (seq x0_1 (⟨#[]⟩ : ByteArray)) then
  (rm (Ty.bytes .str) (List.length x0_5 + 1)
  (L0 x0_0 x0_1 x0_2 x0_3 (w64 (x0_4 + 1)) (x0_5 ++ [(List.getD x0_2 (Int.toNat x0_4) (Ty.dflt TEntry)).1])))
  else
  (bif (sls (List.getD x0_2 (Int.toNat x0_4) (Ty.dflt TEntry)).1 x0_1) then
  (rm (Ty.bytes .str) (List.length x0_5 + 1)
  (L0 x0_0 x0_1 x0_2 x0_3 (w64 (x0_4 + 1)) (x0_5 ++ [(List.getD x0_2 (Int.toNat x0_4) (Ty.dflt TEntry)).1])))
  else
  (L0 x0_0 x0_1 x0_2 x0_3 (w64 (x0_4 + 1)) x0_5)))
  else
  (L0 x0_0 x0_1 x0_2 x0_3 (w64 (x0_4 + 1)) x0_5)))
  else
  (some (x0_5, ())))
def impl_RangeOf.l0 (k : Nat) : Nat → ByteArray → ByteArray → List (Ty.den TEntry) → Int → Int → List ByteArray → Option ((List ByteArray) × Unit)
  | 0 => fun _ _ _ _ _ _ => none
  | n + 1 => impl_RangeOf.b0 k (impl_RangeOf.l0 k n)
def impl_RangeOf.t (k : Nat) (L0 : ByteArray → ByteArray → List (Ty.den TEntry) → Int → Int → List ByteArray → Option ((List ByteArray) × Unit)) (a0 : List (Ty.den TEntry)) (a1 : ByteArray) (a2 : ByteArray) : Option ((List ByteArray) × Unit) :=
  (L0 a1 a2 a0 (List.length a0 : Int) 0 [])
def impl_RangeOf.f (k : Nat) (a0 : List (Ty.den TEntry)) (a1 : ByteArray) (a2 : ByteArray) : Option ((List ByteArray) × Unit) := impl_RangeOf.t k (impl_RangeOf.l0 k k) a0 a1 a2
def laws_eqStringS.b0 (k : Nat) (L0 : List ByteArray → List ByteArray → Int → Option (Bool × Unit)) (x0_0 : List ByteArray) (x0_1 : List ByteArray) (x0_2 : Int) : Option (Bool × Unit) :=
  (bif (decide (x0_2 < (List.length x0_0 : Int))) then
  (inb x0_2 (List.length x0_0 : Int)
  (inb x0_2 (List.length x0_1 : Int)
  (bif (!(seq (List.getD x0_0 (Int.toNat x0_2) (Ty.dflt .str)) (List.getD x0_1 (Int.toNat x0_2) (Ty.dflt .str)))) then
  (some (false, ()))
  else
  (L0 x0_0 x0_1 (w64 (x0_2 + 1))))))
  else
  (some (true, ())))
def laws_eqStringS.l0 (k : Nat) : Nat → List ByteArray → List ByteArray → Int → Option (Bool × Unit)
  | 0 => fun _ _ _ => none
  | n + 1 => laws_eqStringS.b0 k (laws_eqStringS.l0 k n)
def laws_eqStringS.t (k : Nat) (L0 : List ByteArray → List ByteArray → Int → Option (Bool × Unit)) (a0 : List ByteArray) (a1 : List ByteArray) : Option (Bool × Unit) :=
  (bif ((List.length a0 : Int) != (List.length a1 : Int)) then
  (some (false, ()))
  else
  (L0 a0 a1 0))
def laws_eqStringS.f (k : Nat) (a0 : List ByteArray) (a1 : List ByteArray) : Option (Bool × Unit) := laws_eqStringS.t k (laws_eqStringS.l0 k k) a0 a1
def laws_eqEntry.t (k : Nat) (a0 : Ty.den TEntry) (a1 : Ty.den TEntry) : Option (Bool × Unit) :=
  (bif (!(seq a0.1 a1.1)) then
  (some (false, ()))
  else
  (bif (a0.2.1 != a1.2.1) then
  (some (false, ()))
  else
  (bif (a0.2.2.1 != a1.2.2.1) then
  (some (false, ()))
  else
  (bif (a0.2.2.2.1 != a1.2.2.2.1) then
  (some (false, ()))
  else
  (bif (a0.2.2.2.2.1 != a1.2.2.2.2.1) then
  (some (false, ()))
  else
  (some (true, ())))))))
def laws_eqEntry.f (k : Nat) (a0 : Ty.den TEntry) (a1 : Ty.den TEntry) : Option (Bool × Unit) := laws_eqEntry.t k a0 a1
def laws_eqEntryS.b0 (k : Nat) (L0 : List (Ty.den TEntry) → List (Ty.den TEntry) → Int → Option (Bool × Unit)) (x0_0 : List (Ty.den TEntry)) (x0_1 : List (Ty.den TEntry)) (x0_2 : Int) : Option (Bool × Unit) :=
  (bif (decide (x0_2 < (List.length x0_0 : Int))) then
  (inb x0_2 (List.length x0_0 : Int)
  (inb x0_2 (List.length x0_1 : Int)
  (Option.bind (laws_eqEntry.f k (List.getD x0_0 (Int.toNat x0_2) (Ty.dflt TEntry)) (List.getD x0_1 (Int.toNat x0_2) (Ty.dflt TEntry))) fun r1 =>
  (bif (!r1.1) then
  (some (false, ()))
  else
  (L0 x0_0 x0_1 (w64 (x0_2 + 1)))))))
  else
  (some (true, ())))
def laws_eqEntryS.l0 (k : Nat) : Nat → List (Ty.den TEntry) → List (Ty.den TEntry) → Int → Option (Bool × Unit)
  | 0 => fun _ _ _ => none
  | n + 1 => laws_eqEntryS.b0 k (laws_eqEntryS.l0 k n)
def laws_eqEntryS.t (k : Nat) (L0 : List (Ty.den TEntry) → List (Ty.den TEntry) → Int → Option (Bool × Unit)) (a0 : List (Ty.den TEntry)) (a1 : List (Ty.den TEntry)) : Option (Bool × Unit) :=
  (bif ((List.length a0 : Int) != (List.length a1 : Int)) then
  (some (false, ()))
  else
  (L0 a0 a1 0))
def laws_eqEntryS.f (k : Nat) (a0 : List (Ty.den TEntry)) (a1 : List (Ty.den TEntry)) : Option (Bool × Unit) := laws_eqEntryS.t k (laws_eqEntryS.l0 k k) a0 a1
def laws_markText.b0 (k : Nat) (L0 : Int → ByteArray → Option (ByteArray × Unit)) (x0_0 : Int) (x0_1 : ByteArray) : Option (ByteArray × Unit) :=
  (bif (decide (x0_0 > 0)) then
  (cat (bytesOf [(IntKind.wrap .u8 (w64 (48 + (Int.tmod x0_0 10))))]) x0_1
  (L0 (w64 (Int.tdiv x0_0 10)) ((bytesOf [(IntKind.wrap .u8 (w64 (48 + (Int.tmod x0_0 10))))]) ++ x0_1)))
  else
  (cat (⟨#[109]⟩ : ByteArray) x0_1
  (some (((⟨#[109]⟩ : ByteArray) ++ x0_1), ()))))
def laws_markText.l0 (k : Nat) : Nat → Int → ByteArray → Option (ByteArray × Unit)
  | 0 => fun _ _ => none
  | n + 1 => laws_markText.b0 k (laws_markText.l0 k n)
def laws_markText.t (k : Nat) (L0 : Int → ByteArray → Option (ByteArray × Unit)) (a0 : Int) : Option (ByteArray × Unit) :=
  (bif (decide (a0 ≤ 0)) then
  (some ((⟨#[109, 48]⟩ : ByteArray), ()))
  else
  (L0 a0 (⟨#[]⟩ : ByteArray)))
def laws_markText.f (k : Nat) (a0 : Int) : Option (ByteArray × Unit) := laws_markText.t k (laws_markText.l0 k k) a0
def laws_markEntryS.b0 (k : Nat) (a0 : List (Ty.den TEntry)) (a1 : Int) (L0 : Int → Int → List (Ty.den TEntry) → Option ((List (Ty.den TEntry)) × Int × Unit)) (x0_0 : Int) (x0_1 : Int) (x0_2 : List (Ty.den TEntry)) : Option ((List (Ty.den TEntry)) × Int × Unit) :=
  (bif (decide (x0_1 < (List.length x0_2 : Int))) then
  (Option.bind (laws_markText.f k x0_0) fun r1 =>
  (inb x0_1 (List.length x0_2 : Int)
  (let l2 := (List.set x0_2 (Int.toNat x0_1) (r1.1, (List.getD x0_2 (Int.toNat x0_1) (Ty.dflt TEntry)).2));
  (inb x0_1 (List.length l2 : Int)
  (let l3 := (List.set l2 (Int.toNat x0_1) ((List.getD l2 (Int.toNat x0_1) (Ty.dflt TEntry)).1, ((w64 (x0_0 + 1)), (List.getD l2 (Int.toNat x0_1) (Ty.dflt TEntry)).2.2)));
  (inb x0_1 (List.length l3 : Int)
  (let l4 := (List.set l3 (Int.toNat x0_1) ((List.getD l3 (Int.toNat x0_1) (Ty.dflt TEntry)).1, ((List.getD l3 (Int.toNat x0_1) (Ty.dflt TEntry)).2.1, ((w64 ((w64 (x0_0 + 1)) + 1)), (List.getD l3 (Int.toNat x0_1) (Ty.dflt TEntry)).2.2.2))));
  (inb x0_1 (List.length l4 : Int)
  (let l5 := (List.set l4 (Int.toNat x0_1) ((List.getD l4 (Int.toNat x0_1) (Ty.dflt TEntry)).1, ((List.getD l4 (Int.toNat x0_1) (Ty.dflt TEntry)).2.1, ((List.getD l4 (Int.toNat x0_1) (Ty.dflt TEntry)).2.2.1, ((w64 ((w64 ((w64 (x0_0 + 1)) + 1)) + 1)), (List.getD l4 (Int.toNat x0_1) (Ty.dflt TEntry)).2.2.2.2)))));
  (inb x0_1 (List.length l5 : Int)
  (let l6 := (List.set l5 (Int.toNat x0_1) ((List.getD l5 (Int.toNat x0_1) (Ty.dflt TEntry)).1, ((List.getD l5 (Int.toNat x0_1) (Ty.dflt TEntry)).2.1, ((List.getD l5 (Int.toNat x0_1) (Ty.dflt TEntry)).2.2.1, ((List.getD l5 (Int.toNat x0_1) (Ty.dflt TEntry)).2.2.2.1, ((w64 ((w64 ((w64 ((w64 (x0_0 + 1)) + 1)) + 1)) + 1)), (List.getD l5 (Int.toNat x0_1) (Ty.dflt TEntry)).2.2.2.2.2))))));
  (L0 (w64 ((w64 ((w64 ((w64 ((w64 (x0_0 + 1)) + 1)) + 1)) + 1)) + 1)) (w64 (x0_1 + 1)) l6))))))))))))
  else
  (some (x0_2, (x0_0, ()))))
def laws_markEntryS.l0 (k : Nat) (a0 : List (Ty.den TEntry)) (a1 : Int) : Nat → Int → Int → List (Ty.den TEntry) → Option ((List (Ty.den TEntry)) × Int × Unit)
  | 0 => fun _ _ _ => none
  | n + 1 => laws_markEntryS.b0 k a0 a1 (laws_markEntryS.l0 k a0 a1 n)
def laws_markEntryS.t (k : Nat) (L0 : Int → Int → List (Ty.den TEntry) → Option ((List (Ty.den TEntry)) × Int × Unit)) (a0 : List (Ty.den TEntry)) (a1 : Int) : Option ((List (Ty.den TEntry)) × Int × Unit) :=
  (L0 a1 0 a0)
def laws_markEntryS.f (k : Nat) (a0 : List (Ty.den TEntry)) (a1 : Int) : Option ((List (Ty.den TEntry)) × Int × Unit) := laws_markEntryS.t k (laws_markEntryS.l0 k a0 a1 k) a0 a1
def laws_markStringS.b0 (k : Nat) (a0 : List ByteArray) (a1 : Int) (L0 : Int → Int → List ByteArray → Option ((List ByteArray) × Int × Unit)) (x0_0 : Int) (x0_1 : Int) (x0_2 : List ByteArray) : Option ((List ByteArray) × Int × Unit) :=
  (bif (decide (x0_1 < (List.length x0_2 : Int))) then
  (Option.bind (laws_markText.f k x0_0) fun r1 =>
  (inb x0_1 (List.length x0_2 : Int)
  (let l2 := (List.set x0_2 (Int.toNat x0_1) r1.1);
  (L0 (w64 (x0_0 + 1)) (w64 (x0_1 + 1)) l2))))
  else
  (some (x0_2, (x0_0, ()))))
def laws_markStringS.l0 (k : Nat) (a0 : List ByteArray) (a1 : Int) : Nat → Int → Int → List ByteArray → Option ((List ByteArray) × Int × Unit)
  | 0 => fun _ _ _ => none
  | n + 1 => laws_markStringS.b0 k a0 a1 (laws_markStringS.l0 k a0 a1 n)
def laws_markStringS.t (k : Nat) (L0 : Int → Int → List ByteArray → Option ((List ByteArray) × Int × Unit)) (a0 : List ByteArray) (a1 : Int) : Option ((List ByteArray) × Int × Unit) :=
  (L0 a1 0 a0)
def laws_markStringS.f (k : Nat) (a0 : List ByteArray) (a1 : Int) : Option ((List ByteArray) × Int × Unit) := laws_markStringS.t k (laws_markStringS.l0 k a0 a1 k) a0 a1
def laws_heldStringS.b0 (k : Nat) (L0 : List ByteArray → Int → Int → Option (Int × Unit)) (x0_0 : List ByteArray) (x0_1 : Int) (x0_2 : Int) : Option (Int × Unit) :=
  (bif (decide (x0_2 < (List.length x0_0 : Int))) then
  (inb x0_2 (List.length x0_0 : Int)
  (Option.bind (laws_markText.f k x0_1) fun r1 =>
  (bif (!(seq (List.getD x0_0 (Int.toNat x0_2) (Ty.dflt .str)) r1.1)) then
  (some ((-1), ()))
  else
  (L0 x0_0 (w64 (x0_1 + 1)) (w64 (x0_2 + 1))))))
  else
  (some (x0_1, ())))
def laws_heldStringS.l0 (k : Nat) : Nat → List ByteArray → Int → Int → Option (Int × Unit)
  | 0 => fun _ _ _ => none
  | n + 1 => laws_heldStringS.b0 k (laws_heldStringS.l0 k n)
def laws_heldStringS.t (k : Nat) (L0 : List ByteArray → Int → Int → Option (Int × Unit)) (a0 : List ByteArray) (a1 : Int) : Option (Int × Unit) :=
  (L0 a0 a1 0)
def laws_heldStringS.f (k : Nat) (a0 : List ByteArray) (a1 : Int) : Option (Int × Unit) := laws_heldStringS.t k (laws_heldStringS.l0 k k) a0 a1
def laws_FnExactRangeOf.t (k : Nat) (a0 : List (Ty.den TEntry)) (a1 : ByteArray) (a2 : ByteArray) : Option (Bool × Unit) :=
  (bif (decide ((ByteArray.size a1 : Int) > 1048576)) then
  (some (true, ()))
  else
  (bif (decide ((ByteArray.size a2 : Int) > 1048576)) then
  (some (true, ()))
  else
  (Option.bind (laws_szEntryS.f k a0 1048576) fun r1 =>
  (bif (decide (r1.1 < 0)) then
  (some (true, ()))
  else
  (Option.bind (laws_toEntryS.f k a0) fun r2 =>
  (Option.bind (spec_RangeOf.f k r2.1 a1 a2) fun r3 =>
  (Option.bind (laws_toEntryS.f k a0) fun r4 =>
  (Option.bind (impl_RangeOf.f k r4.1 a1 a2) fun r5 =>
  (Option.bind (laws_eqStringS.f k r5.1 r3.1) fun r6 =>
  (bif (!r6.1) then
  (some (false, ()))
  else
  (Option.bind (laws_toEntryS.f k a0) fun r7 =>
  (Option.bind (laws_eqEntryS.f k r4.1 r7.1) fun r8 =>
  (bif (!r8.1) then
  (some (false, ()))
  else
  (Option.bind (laws_markEntryS.f k r4.1 1) fun r9 =>
  (bif (decide (r9.2.1 < 0)) then
  (some (false, ()))
  else
  (Option.bind (laws_eqStringS.f k r5.1 r3.1) fun r10 =>
  (bif (!r10.1) then
  (some (false, ()))
  else
  (Option.bind (laws_markStringS.f k r5.1 1) fun r11 =>
  (Option.bind (laws_heldStringS.f k r11.1 1) fun r12 =>
  (bif (decide (r12.1 < 0)) then
  (some (false, ()))
  else
  (bif (r12.1 != r11.2.1) then
  (some (false, ()))
  else
  (Option.bind (laws_toEntryS.f k a0) fun r13 =>
  (Option.bind (impl_RangeOf.f k r13.1 a1 a2) fun r14 =>
  (Option.bind (laws_eqStringS.f k r14.1 r3.1) fun r15 =>
  (bif (!r15.1) then
  (some (false, ()))
  else
  (Option.bind (laws_heldStringS.f k r11.1 1) fun r16 =>
  (bif (decide (r16.1 < 0)) then
  (some (false, ()))
  else
  (bif (r16.1 != r11.2.1) then
  (some (false, ()))
  else
  (some (true, ()))))))))))))))))))))))))))))))
def laws_FnExactRangeOf.f (k : Nat) (a0 : List (Ty.den TEntry)) (a1 : ByteArray) (a2 : ByteArray) : Option (Bool × Unit) := laws_FnExactRangeOf.t k a0 a1 a2
def spec_Page.b0 (k : Nat) (L0 : List (Ty.den TEntry) → ByteArray → Int → ByteArray → Int → List ByteArray → Option ((List ByteArray) × ByteArray × Unit)) (x0_0 : List (Ty.den TEntry)) (x0_1 : ByteArray) (x0_2 : Int) (x0_3 : ByteArray) (x0_4 : Int) (x0_5 : List ByteArray) : Option ((List ByteArray) × ByteArray × Unit) :=
  (bif (decide (x0_4 < (List.length x0_0 : Int))) then
  (inb x0_4 (List.length x0_0 : Int)
  (bif ((sls (List.getD x0_0 (Int.toNat x0_4) (Ty.dflt TEntry)).1 x0_1) || (seq (List.getD x0_0 (Int.toNat x0_4) (Ty.dflt TEntry)).1 x0_1)) then
  (L0 x0_0 x0_1 x0_2 x0_3 (w64 (x0_4 + 1)) x0_5)
  else
  (bif (decide ((List.length x0_5 : Int) < x0_2)) then
  (inb x0_4 (List.length x0_0 : Int)
  (rm (Ty.bytes .str) (List.length x0_5 + 1)
  (inb x0_4 (List.length x0_0 : Int)
  (L0 x0_0 x0_1 x0_2 (List.getD x0_0 (Int.toNat x0_4) (Ty.dflt TEntry)).1 (w64 (x0_4 + 1)) (x0_5 ++ [(List.getD x0_0 (Int.toNat x0_4) (Ty.dflt TEntry)).1])))))
  else
  (L0 x0_0 x0_1 x0_2 x0_3 (w64 (x0_4 + 1)) x0_5))))
  else
  (some (x0_5, (x0_3, ()))))
def spec_Page.l0 (k : Nat) : Nat → List (Ty.den TEntry) → ByteArray → Int → ByteArray → Int → List ByteArray → Option ((List ByteArray) × ByteArray × Unit)
  | 0 => fun _ _ _ _ _ _ => none
  | n + 1 => spec_Page.b0 k (spec_Page.l0 k n)
def spec_Page.t (k : Nat) (L0 : List (Ty.den TEntry) → ByteArray → Int → ByteArray → Int → List ByteArray → Option ((List ByteArray) × ByteArray × Unit)) (a0 : List (Ty.den TEntry)) (a1 : ByteArray) (a2 : Int) : Option ((List ByteArray) × ByteArray × Unit) :=
  (L0 a0 a1 a2 (⟨#[]⟩ : ByteArray) 0 [])
def spec_Page.f (k : Nat) (a0 : List (Ty.den TEntry)) (a1 : ByteArray) (a2 : Int) : Option ((List ByteArray) × ByteArray × Unit) := spec_Page.t k (spec_Page.l0 k k) a0 a1 a2
def impl_Page.b0 (k : Nat) (L0 : ByteArray → Int → ByteArray → List (Ty.den TEntry) → Int → Int → List ByteArray → Option ((List ByteArray) × ByteArray × Unit)) (x0_0 : ByteArray) (x0_1 : Int) (x0_2 : ByteArray) (x0_3 : List (Ty.den TEntry)) (x0_4 : Int) (x0_5 : Int) (x0_6 : List ByteArray) : Option ((List ByteArray) × ByteArray × Unit) :=
  (bif (decide (x0_5 < x0_4)) then
  (inb x0_5 (List.length x0_3 : Int)
  (bif (!((sls (List.getD x0_3 (Int.toNat x0_5) (Ty.dflt TEntry)).1 x0_0) || (seq (List.getD x0_3 (Int.toNat x0_5) (Ty.dflt TEntry)).1 x0_0))) then
  (bif (decide ((List.length x0_6 : Int) < x0_1)) then
  (rm (Ty.bytes .str) (List.length x0_6 + 1)
  (L0 x0_0 x0_1 (List.getD x0_3 (Int.toNat x0_5) (Ty.dflt TEntry)).1 x0_3 x0_4 (w64 (x0_5 + 1)) (x0_6 ++ [(List.getD x0_3 (Int.toNat x0_5) (Ty.dflt TEntry)).1])))
  else
  (L0 x0_0 x0_1 x0_2 x0_3 x0_4 (w64 (x0_5 + 1)) x0_6))
  else
  (L0 x0_0 x0_1 x0_2 x0_3 x0_4 (w64 (x0_5 + 1)) x0_6)))
  else
  (some (x0_6, (x0_2, ()))))
def impl_Page.l0 (k : Nat) : Nat → ByteArray → Int → ByteArray → List (Ty.den TEntry) → Int → Int → List ByteArray → Option ((List ByteArray) × ByteArray × Unit)
  | 0 => fun _ _ _ _ _ _ _ => none
  | n + 1 => impl_Page.b0 k (impl_Page.l0 k n)
def impl_Page.t (k : Nat) (L0 : ByteArray → Int → ByteArray → List (Ty.den TEntry) → Int → Int → List ByteArray → Option ((List ByteArray) × ByteArray × Unit)) (a0 : List (Ty.den TEntry)) (a1 : ByteArray) (a2 : Int) : Option ((List ByteArray) × ByteArray × Unit) :=
  (L0 a1 a2 (⟨#[]⟩ : ByteArray) a0 (List.length a0 : Int) 0 [])
def impl_Page.f (k : Nat) (a0 : List (Ty.den TEntry)) (a1 : ByteArray) (a2 : Int) : Option ((List ByteArray) × ByteArray × Unit) := impl_Page.t k (impl_Page.l0 k k) a0 a1 a2
def laws_FnExactPage.t (k : Nat) (a0 : List (Ty.den TEntry)) (a1 : ByteArray) (a2 : Int) : Option (Bool × Unit) :=
  (bif (decide ((ByteArray.size a1 : Int) > 1048576)) then
  (some (true, ()))
  else
  (Option.bind (laws_szEntryS.f k a0 1048576) fun r1 =>
  (bif (decide (r1.1 < 0)) then
  (some (true, ()))
  else
  (Option.bind (laws_toEntryS.f k a0) fun r2 =>
  (Option.bind (spec_Page.f k r2.1 a1 a2) fun r3 =>
  (Option.bind (laws_toEntryS.f k a0) fun r4 =>
  (Option.bind (impl_Page.f k r4.1 a1 a2) fun r5 =>
  (Option.bind (laws_eqStringS.f k r5.1 r3.1) fun r6 =>
  (bif (!r6.1) then
  (some (false, ()))
  else
  (bif (!(seq r5.2.1 r3.2.1)) then
  (some (false, ()))
  else
  (Option.bind (laws_toEntryS.f k a0) fun r7 =>
  (Option.bind (laws_eqEntryS.f k r4.1 r7.1) fun r8 =>
  (bif (!r8.1) then
  (some (false, ()))
  else
  (Option.bind (laws_markEntryS.f k r4.1 1) fun r9 =>
  (bif (decide (r9.2.1 < 0)) then
  (some (false, ()))
  else
  (Option.bind (laws_eqStringS.f k r5.1 r3.1) fun r10 =>
  (bif (!r10.1) then
  (some (false, ()))
  else
  (bif (!(seq r5.2.1 r3.2.1)) then
  (some (false, ()))
  else
  (Option.bind (laws_markStringS.f k r5.1 1) fun r11 =>
  (Option.bind (laws_heldStringS.f k r11.1 1) fun r12 =>
  (bif (decide (r12.1 < 0)) then
  (some (false, ()))
  else
  (bif (r12.1 != r11.2.1) then
  (some (false, ()))
  else
  (Option.bind (laws_toEntryS.f k a0) fun r13 =>
  (Option.bind (impl_Page.f k r13.1 a1 a2) fun r14 =>
  (Option.bind (laws_eqStringS.f k r14.1 r3.1) fun r15 =>
  (bif (!r15.1) then
  (some (false, ()))
  else
  (bif (!(seq r14.2.1 r3.2.1)) then
  (some (false, ()))
  else
  (Option.bind (laws_heldStringS.f k r11.1 1) fun r16 =>
  (bif (decide (r16.1 < 0)) then
  (some (false, ()))
  else
  (bif (r16.1 != r11.2.1) then
  (some (false, ()))
  else
  (some (true, ()))))))))))))))))))))))))))))))))
def laws_FnExactPage.f (k : Nat) (a0 : List (Ty.den TEntry)) (a1 : ByteArray) (a2 : Int) : Option (Bool × Unit) := laws_FnExactPage.t k a0 a1 a2
def spec_Pages.b0 (k : Nat) (L0 : List (Ty.den TEntry) → Int → ByteArray → Int → List ByteArray → Option ((List ByteArray) × Unit)) (x0_0 : List (Ty.den TEntry)) (x0_1 : Int) (x0_2 : ByteArray) (x0_3 : Int) (x0_4 : List ByteArray) : Option ((List ByteArray) × Unit) :=
  (bif (decide (x0_3 ≤ (List.length x0_0 : Int))) then
  (bif (decide (x0_1 > 0)) then
  (Option.bind (spec_Page.f k x0_0 x0_2 x0_1) fun r1 =>
  (rm (Ty.bytes .str) (List.length x0_4 + List.length r1.1)
  (bif (seq r1.2.1 (⟨#[]⟩ : ByteArray)) then
  (some ((x0_4 ++ r1.1), ()))
  else
  (L0 x0_0 x0_1 r1.2.1 (w64 (x0_3 + 1)) (x0_4 ++ r1.1)))))
  else
  (some (x0_4, ())))
  else
  (some (x0_4, ())))
def spec_Pages.l0 (k : Nat) : Nat → List (Ty.den TEntry) → Int → ByteArray → Int → List ByteArray → Option ((List ByteArray) × Unit)
  | 0 => fun _ _ _ _ _ => none
  | n + 1 => spec_Pages.b0 k (spec_Pages.l0 k n)
def spec_Pages.t (k : Nat) (L0 : List (Ty.den TEntry) → Int → ByteArray → Int → List ByteArray → Option ((List ByteArray) × Unit)) (a0 : List (Ty.den TEntry)) (a1 : Int) : Option ((List ByteArray) × Unit) :=
  (L0 a0 a1 (⟨#[]⟩ : ByteArray) 0 [])
def spec_Pages.f (k : Nat) (a0 : List (Ty.den TEntry)) (a1 : Int) : Option ((List ByteArray) × Unit) := spec_Pages.t k (spec_Pages.l0 k k) a0 a1
def impl_Pages.b0 (k : Nat) (L0 : List (Ty.den TEntry) → Int → ByteArray → List ByteArray → Option ((List ByteArray) × Unit)) (x0_0 : List (Ty.den TEntry)) (x0_1 : Int) (x0_2 : ByteArray) (x0_3 : List ByteArray) : Option ((List ByteArray) × Unit) :=
  (bif (decide (x0_1 > 0)) then
  (Option.bind (impl_Page.f k x0_0 x0_2 x0_1) fun r1 =>
  (bif ((List.length r1.1 : Int) == 0) then
  (some (x0_3, ()))
  else
  (rm (Ty.bytes .str) (List.length x0_3 + List.length r1.1)
  (L0 x0_0 x0_1 r1.2.1 (x0_3 ++ r1.1)))))
  else
  (some (x0_3, ())))
def impl_Pages.l0 (k : Nat) : Nat → List (Ty.den TEntry) → Int → ByteArray → List ByteArray → Option ((List ByteArray) × Unit)
  | 0 => fun _ _ _ _ => none
  | n + 1 => impl_Pages.b0 k (impl_Pages.l0 k n)
def impl_Pages.t (k : Nat) (L0 : List (Ty.den TEntry) → Int → ByteArray → List ByteArray → Option ((List ByteArray) × Unit)) (a0 : List (Ty.den TEntry)) (a1 : Int) : Option ((List ByteArray) × Unit) :=
  (L0 a0 a1 (⟨#[]⟩ : ByteArray) [])
def impl_Pages.f (k : Nat) (a0 : List (Ty.den TEntry)) (a1 : Int) : Option ((List ByteArray) × Unit) := impl_Pages.t k (impl_Pages.l0 k k) a0 a1
def laws_FnExactPages.t (k : Nat) (a0 : List (Ty.den TEntry)) (a1 : Int) : Option (Bool × Unit) :=
  (Option.bind (laws_szEntryS.f k a0 1048576) fun r1 =>
  (bif (decide (r1.1 < 0)) then
  (some (true, ()))
  else
  (Option.bind (laws_toEntryS.f k a0) fun r2 =>
  (Option.bind (spec_Pages.f k r2.1 a1) fun r3 =>
  (Option.bind (laws_toEntryS.f k a0) fun r4 =>
  (Option.bind (impl_Pages.f k r4.1 a1) fun r5 =>
  (Option.bind (laws_eqStringS.f k r5.1 r3.1) fun r6 =>
  (bif (!r6.1) then
  (some (false, ()))
  else
  (Option.bind (laws_toEntryS.f k a0) fun r7 =>
  (Option.bind (laws_eqEntryS.f k r4.1 r7.1) fun r8 =>
  (bif (!r8.1) then
  (some (false, ()))
  else
  (Option.bind (laws_markEntryS.f k r4.1 1) fun r9 =>
  (bif (decide (r9.2.1 < 0)) then
  (some (false, ()))
  else
  (Option.bind (laws_eqStringS.f k r5.1 r3.1) fun r10 =>
  (bif (!r10.1) then
  (some (false, ()))
  else
  (Option.bind (laws_markStringS.f k r5.1 1) fun r11 =>
  (Option.bind (laws_heldStringS.f k r11.1 1) fun r12 =>
  (bif (decide (r12.1 < 0)) then
  (some (false, ()))
  else
  (bif (r12.1 != r11.2.1) then
  (some (false, ()))
  else
  (Option.bind (laws_toEntryS.f k a0) fun r13 =>
  (Option.bind (impl_Pages.f k r13.1 a1) fun r14 =>
  (Option.bind (laws_eqStringS.f k r14.1 r3.1) fun r15 =>
  (bif (!r15.1) then
  (some (false, ()))
  else
  (Option.bind (laws_heldStringS.f k r11.1 1) fun r16 =>
  (bif (decide (r16.1 < 0)) then
  (some (false, ()))
  else
  (bif (r16.1 != r11.2.1) then
  (some (false, ()))
  else
  (some (true, ()))))))))))))))))))))))))))))
def laws_FnExactPages.f (k : Nat) (a0 : List (Ty.den TEntry)) (a1 : Int) : Option (Bool × Unit) := laws_FnExactPages.t k a0 a1
def laws_szPair.t (k : Nat) (a0 : Ty.den TPair) (a1 : Int) : Option (Int × Unit) :=
  (bif (decide ((w64 (a1 - (ByteArray.size a0.1 : Int))) < 0)) then
  (some ((-1), ()))
  else
  (bif (decide ((w64 ((w64 (a1 - (ByteArray.size a0.1 : Int))) - (ByteArray.size a0.2.1 : Int))) < 0)) then
  (some ((-1), ()))
  else
  (some ((w64 ((w64 (a1 - (ByteArray.size a0.1 : Int))) - (ByteArray.size a0.2.1 : Int))), ()))))
def laws_szPair.f (k : Nat) (a0 : Ty.den TPair) (a1 : Int) : Option (Int × Unit) := laws_szPair.t k a0 a1
def laws_szPairS.b0 (k : Nat) (L0 : List (Ty.den TPair) → Int → Int → Option (Int × Unit)) (x0_0 : List (Ty.den TPair)) (x0_1 : Int) (x0_2 : Int) : Option (Int × Unit) :=
  (bif (decide (x0_2 < (List.length x0_0 : Int))) then
  (inb x0_2 (List.length x0_0 : Int)
  (Option.bind (laws_szPair.f k (List.getD x0_0 (Int.toNat x0_2) (Ty.dflt TPair)) x0_1) fun r1 =>
  (bif (decide (r1.1 < 0)) then
  (some ((-1), ()))
  else
  (L0 x0_0 r1.1 (w64 (x0_2 + 1))))))
  else
  (some (x0_1, ())))
def laws_szPairS.l0 (k : Nat) : Nat → List (Ty.den TPair) → Int → Int → Option (Int × Unit)
  | 0 => fun _ _ _ => none
  | n + 1 => laws_szPairS.b0 k (laws_szPairS.l0 k n)
def laws_szPairS.t (k : Nat) (L0 : List (Ty.den TPair) → Int → Int → Option (Int × Unit)) (a0 : List (Ty.den TPair)) (a1 : Int) : Option (Int × Unit) :=
  (bif (decide ((w64 (a1 - (List.length a0 : Int))) < 0)) then
  (some ((-1), ()))
  else
  (L0 a0 (w64 (a1 - (List.length a0 : Int))) 0))
def laws_szPairS.f (k : Nat) (a0 : List (Ty.den TPair)) (a1 : Int) : Option (Int × Unit) := laws_szPairS.t k (laws_szPairS.l0 k k) a0 a1
def laws_toPair.t (k : Nat) (a0 : Ty.den TPair) : Option ((Ty.den TPair) × Unit) :=
  (some (a0, ()))
def laws_toPair.f (k : Nat) (a0 : Ty.den TPair) : Option ((Ty.den TPair) × Unit) := laws_toPair.t k a0
def laws_toPairS.b0 (k : Nat) (L0 : List (Ty.den TPair) → Int → List (Ty.den TPair) → Option ((List (Ty.den TPair)) × Unit)) (x0_0 : List (Ty.den TPair)) (x0_1 : Int) (x0_2 : List (Ty.den TPair)) : Option ((List (Ty.den TPair)) × Unit) :=
  (bif (decide (x0_1 < (List.length x0_0 : Int))) then
  (inb x0_1 (List.length x0_0 : Int)
  (Option.bind (laws_toPair.f k (List.getD x0_0 (Int.toNat x0_1) (Ty.dflt TPair))) fun r1 =>
  (inb x0_1 (List.length x0_2 : Int)
  (let l2 := (List.set x0_2 (Int.toNat x0_1) r1.1);
  (L0 x0_0 (w64 (x0_1 + 1)) l2)))))
  else
  (some (x0_2, ())))
def laws_toPairS.l0 (k : Nat) : Nat → List (Ty.den TPair) → Int → List (Ty.den TPair) → Option ((List (Ty.den TPair)) × Unit)
  | 0 => fun _ _ _ => none
  | n + 1 => laws_toPairS.b0 k (laws_toPairS.l0 k n)
def laws_toPairS.t (k : Nat) (L0 : List (Ty.den TPair) → Int → List (Ty.den TPair) → Option ((List (Ty.den TPair)) × Unit)) (a0 : List (Ty.den TPair)) : Option ((List (Ty.den TPair)) × Unit) :=
  (mks (Ty.bytes TPair) (List.length a0 : Int)
  (L0 a0 0 (List.replicate (Int.toNat (List.length a0 : Int)) (Ty.dflt TPair))))
def laws_toPairS.f (k : Nat) (a0 : List (Ty.den TPair)) : Option ((List (Ty.den TPair)) × Unit) := laws_toPairS.t k (laws_toPairS.l0 k k) a0
def spec_l17Find.b0 (k : Nat) (L0 : List (Ty.den TPair) → ByteArray → Int → ByteArray → ByteArray → Int → Option ((Ty.den TPair) × Int × Unit)) (x0_0 : List (Ty.den TPair)) (x0_1 : ByteArray) (x0_2 : Int) (x0_3 : ByteArray) (x0_4 : ByteArray) (x0_5 : Int) : Option ((Ty.den TPair) × Int × Unit) :=
  (bif (decide (x0_2 < (List.length x0_0 : Int))) then
  (inb x0_2 (List.length x0_0 : Int)
  (bif (seq (List.getD x0_0 (Int.toNat x0_2) (Ty.dflt TPair)).1 x0_1) then
  (inb x0_2 (List.length x0_0 : Int)
  (some ((List.getD x0_0 (Int.toNat x0_2) (Ty.dflt TPair)), (0, ()))))
  else
  (L0 x0_0 x0_1 (w64 (x0_2 + 1)) x0_3 x0_4 x0_5)))
  else
  (some ((ByteArray.empty, (ByteArray.empty, (0, ()))), (8, ()))))
def spec_l17Find.l0 (k : Nat) : Nat → List (Ty.den TPair) → ByteArray → Int → ByteArray → ByteArray → Int → Option ((Ty.den TPair) × Int × Unit)
  | 0 => fun _ _ _ _ _ _ => none
  | n + 1 => spec_l17Find.b0 k (spec_l17Find.l0 k n)
def spec_l17Find.t (k : Nat) (L0 : List (Ty.den TPair) → ByteArray → Int → ByteArray → ByteArray → Int → Option ((Ty.den TPair) × Int × Unit)) (a0 : List (Ty.den TPair)) (a1 : ByteArray) : Option ((Ty.den TPair) × Int × Unit) :=
  (L0 a0 a1 0 ByteArray.empty ByteArray.empty 0)
def spec_l17Find.f (k : Nat) (a0 : List (Ty.den TPair)) (a1 : ByteArray) : Option ((Ty.den TPair) × Int × Unit) := spec_l17Find.t k (spec_l17Find.l0 k k) a0 a1
def spec_Diff.b1 (k : Nat) (L1 : List (Ty.den TPair) → List (Ty.den TPair) → Int → List (Ty.den TPut) → Option ((List (Ty.den TPut)) × Unit)) (x1_0 : List (Ty.den TPair)) (x1_1 : List (Ty.den TPair)) (x1_2 : Int) (x1_3 : List (Ty.den TPut)) : Option ((List (Ty.den TPut)) × Unit) :=
  (bif (decide (x1_2 < (List.length x1_1 : Int))) then
  (inb x1_2 (List.length x1_1 : Int)
  (Option.bind (spec_l17Find.f k x1_0 (List.getD x1_1 (Int.toNat x1_2) (Ty.dflt TPair)).1) fun r2 =>
  (bif (r2.2.1 != 0) then
  (inb x1_2 (List.length x1_1 : Int)
  (inb x1_2 (List.length x1_1 : Int)
  (rm (Ty.bytes TPut) (List.length x1_3 + 1)
  (L1 x1_0 x1_1 (w64 (x1_2 + 1)) (x1_3 ++ [((List.getD x1_1 (Int.toNat x1_2) (Ty.dflt TPair)).1, (false, ((List.getD x1_1 (Int.toNat x1_2) (Ty.dflt TPair)).2.1, ())))])))))
  else
  (inb x1_2 (List.length x1_1 : Int)
  (bif (!(seq r2.1.2.1 (List.getD x1_1 (Int.toNat x1_2) (Ty.dflt TPair)).2.1)) then
  (inb x1_2 (List.length x1_1 : Int)
  (inb x1_2 (List.length x1_1 : Int)
  (rm (Ty.bytes TPut) (List.length x1_3 + 1)
  (L1 x1_0 x1_1 (w64 (x1_2 + 1)) (x1_3 ++ [((List.getD x1_1 (Int.toNat x1_2) (Ty.dflt TPair)).1, (false, ((List.getD x1_1 (Int.toNat x1_2) (Ty.dflt TPair)).2.1, ())))])))))
  else
  (L1 x1_0 x1_1 (w64 (x1_2 + 1)) x1_3))))))
  else
  (some (x1_3, ())))
def spec_Diff.l1 (k : Nat) : Nat → List (Ty.den TPair) → List (Ty.den TPair) → Int → List (Ty.den TPut) → Option ((List (Ty.den TPut)) × Unit)
  | 0 => fun _ _ _ _ => none
  | n + 1 => spec_Diff.b1 k (spec_Diff.l1 k n)
def spec_Diff.b0 (k : Nat) (L1 : List (Ty.den TPair) → List (Ty.den TPair) → Int → List (Ty.den TPut) → Option ((List (Ty.den TPut)) × Unit)) (L0 : List (Ty.den TPair) → List (Ty.den TPair) → Int → List (Ty.den TPut) → Option ((List (Ty.den TPut)) × Unit)) (x0_0 : List (Ty.den TPair)) (x0_1 : List (Ty.den TPair)) (x0_2 : Int) (x0_3 : List (Ty.den TPut)) : Option ((List (Ty.den TPut)) × Unit) :=
  (bif (decide (x0_2 < (List.length x0_0 : Int))) then
  (inb x0_2 (List.length x0_0 : Int)
  (Option.bind (spec_l17Find.f k x0_1 (List.getD x0_0 (Int.toNat x0_2) (Ty.dflt TPair)).1) fun r1 =>
  (bif (r1.2.1 != 0) then
  (inb x0_2 (List.length x0_0 : Int)
  (rm (Ty.bytes TPut) (List.length x0_3 + 1)
  (L0 x0_0 x0_1 (w64 (x0_2 + 1)) (x0_3 ++ [((List.getD x0_0 (Int.toNat x0_2) (Ty.dflt TPair)).1, (true, (ByteArray.empty, ())))]))))
  else
  (L0 x0_0 x0_1 (w64 (x0_2 + 1)) x0_3))))
  else
  (L1 x0_0 x0_1 0 x0_3))
def spec_Diff.l0 (k : Nat) : Nat → List (Ty.den TPair) → List (Ty.den TPair) → Int → List (Ty.den TPut) → Option ((List (Ty.den TPut)) × Unit)
  | 0 => fun _ _ _ _ => none
  | n + 1 => spec_Diff.b0 k (spec_Diff.l1 k k) (spec_Diff.l0 k n)
def spec_Diff.t (k : Nat) (L0 : List (Ty.den TPair) → List (Ty.den TPair) → Int → List (Ty.den TPut) → Option ((List (Ty.den TPut)) × Unit)) (a0 : List (Ty.den TPair)) (a1 : List (Ty.den TPair)) : Option ((List (Ty.den TPut)) × Unit) :=
  (L0 a0 a1 0 [])
def spec_Diff.f (k : Nat) (a0 : List (Ty.den TPair)) (a1 : List (Ty.den TPair)) : Option ((List (Ty.den TPut)) × Unit) := spec_Diff.t k (spec_Diff.l0 k k) a0 a1
def impl_pairAt.b0 (k : Nat) (L0 : ByteArray → List (Ty.den TPair) → Int → Int → ByteArray → ByteArray → Int → Option ((Ty.den TPair) × Bool × Unit)) (x0_0 : ByteArray) (x0_1 : List (Ty.den TPair)) (x0_2 : Int) (x0_3 : Int) (x0_4 : ByteArray) (x0_5 : ByteArray) (x0_6 : Int) : Option ((Ty.den TPair) × Bool × Unit) :=
  (bif (decide (x0_3 < x0_2)) then
  (inb x0_3 (List.length x0_1 : Int)
  (bif (seq (List.getD x0_1 (Int.toNat x0_3) (Ty.dflt TPair)).1 x0_0) then
  (some ((List.getD x0_1 (Int.toNat x0_3) (Ty.dflt TPair)), (true, ())))
  else
  (L0 x0_0 x0_1 x0_2 (w64 (x0_3 + 1)) x0_4 x0_5 x0_6)))
  else
  (some ((ByteArray.empty, (ByteArray.empty, (0, ()))), (false, ()))))
def impl_pairAt.l0 (k : Nat) : Nat → ByteArray → List (Ty.den TPair) → Int → Int → ByteArray → ByteArray → Int → Option ((Ty.den TPair) × Bool × Unit)
  | 0 => fun _ _ _ _ _ _ _ => none
  | n + 1 => impl_pairAt.b0 k (impl_pairAt.l0 k n)
def impl_pairAt.t (k : Nat) (L0 : ByteArray → List (Ty.den TPair) → Int → Int → ByteArray → ByteArray → Int → Option ((Ty.den TPair) × Bool × Unit)) (a0 : List (Ty.den TPair)) (a1 : ByteArray) : Option ((Ty.den TPair) × Bool × Unit) :=
  (L0 a1 a0 (List.length a0 : Int) 0 ByteArray.empty ByteArray.empty 0)
def impl_pairAt.f (k : Nat) (a0 : List (Ty.den TPair)) (a1 : ByteArray) : Option ((Ty.den TPair) × Bool × Unit) := impl_pairAt.t k (impl_pairAt.l0 k k) a0 a1
def impl_Diff.b1 (k : Nat) (L1 : List (Ty.den TPair) → List (Ty.den TPair) → Int → Int → List (Ty.den TPut) → Option ((List (Ty.den TPut)) × Unit)) (x1_0 : List (Ty.den TPair)) (x1_1 : List (Ty.den TPair)) (x1_2 : Int) (x1_3 : Int) (x1_4 : List (Ty.den TPut)) : Option ((List (Ty.den TPut)) × Unit) :=
  (bif (decide (x1_3 < x1_2)) then
  (inb x1_3 (List.length x1_1 : Int)
  (Option.bind (impl_pairAt.f k x1_0 (List.getD x1_1 (Int.toNat x1_3) (Ty.dflt TPair)).1) fun r2 =>
  (bif (!r2.2.1) then
  (rm (Ty.bytes TPut) (List.length x1_4 + 1)
  (L1 x1_0 x1_1 x1_2 (w64 (x1_3 + 1)) (x1_4 ++ [((List.getD x1_1 (Int.toNat x1_3) (Ty.dflt TPair)).1, (false, ((List.getD x1_1 (Int.toNat x1_3) (Ty.dflt TPair)).2.1, ())))])))
  else
  (bif (!(seq r2.1.2.1 (List.getD x1_1 (Int.toNat x1_3) (Ty.dflt TPair)).2.1)) then
  (rm (Ty.bytes TPut) (List.length x1_4 + 1)
  (L1 x1_0 x1_1 x1_2 (w64 (x1_3 + 1)) (x1_4 ++ [((List.getD x1_1 (Int.toNat x1_3) (Ty.dflt TPair)).1, (false, ((List.getD x1_1 (Int.toNat x1_3) (Ty.dflt TPair)).2.1, ())))])))
  else
  (L1 x1_0 x1_1 x1_2 (w64 (x1_3 + 1)) x1_4)))))
  else
  (some (x1_4, ())))
def impl_Diff.l1 (k : Nat) : Nat → List (Ty.den TPair) → List (Ty.den TPair) → Int → Int → List (Ty.den TPut) → Option ((List (Ty.den TPut)) × Unit)
  | 0 => fun _ _ _ _ _ => none
  | n + 1 => impl_Diff.b1 k (impl_Diff.l1 k n)
def impl_Diff.b0 (k : Nat) (L1 : List (Ty.den TPair) → List (Ty.den TPair) → Int → Int → List (Ty.den TPut) → Option ((List (Ty.den TPut)) × Unit)) (L0 : List (Ty.den TPair) → List (Ty.den TPair) → List (Ty.den TPair) → Int → Int → List (Ty.den TPut) → Option ((List (Ty.den TPut)) × Unit)) (x0_0 : List (Ty.den TPair)) (x0_1 : List (Ty.den TPair)) (x0_2 : List (Ty.den TPair)) (x0_3 : Int) (x0_4 : Int) (x0_5 : List (Ty.den TPut)) : Option ((List (Ty.den TPut)) × Unit) :=
  (bif (decide (x0_4 < x0_3)) then
  (inb x0_4 (List.length x0_2 : Int)
  (Option.bind (impl_pairAt.f k x0_1 (List.getD x0_2 (Int.toNat x0_4) (Ty.dflt TPair)).1) fun r1 =>
  (bif (!r1.2.1) then
  (rm (Ty.bytes TPut) (List.length x0_5 + 1)
  (L0 x0_0 x0_1 x0_2 x0_3 (w64 (x0_4 + 1)) (x0_5 ++ [((List.getD x0_2 (Int.toNat x0_4) (Ty.dflt TPair)).1, (true, (ByteArray.empty, ())))])))
  else
  (L0 x0_0 x0_1 x0_2 x0_3 (w64 (x0_4 + 1)) x0_5))))
  else
  (L1 x0_0 x0_1 (List.length x0_1 : Int) 0 x0_5))
def impl_Diff.l0 (k : Nat) : Nat → List (Ty.den TPair) → List (Ty.den TPair) → List (Ty.den TPair) → Int → Int → List (Ty.den TPut) → Option ((List (Ty.den TPut)) × Unit)
  | 0 => fun _ _ _ _ _ _ => none
  | n + 1 => impl_Diff.b0 k (impl_Diff.l1 k k) (impl_Diff.l0 k n)
def impl_Diff.t (k : Nat) (L0 : List (Ty.den TPair) → List (Ty.den TPair) → List (Ty.den TPair) → Int → Int → List (Ty.den TPut) → Option ((List (Ty.den TPut)) × Unit)) (a0 : List (Ty.den TPair)) (a1 : List (Ty.den TPair)) : Option ((List (Ty.den TPut)) × Unit) :=
  (L0 a0 a1 a0 (List.length a0 : Int) 0 [])
def impl_Diff.f (k : Nat) (a0 : List (Ty.den TPair)) (a1 : List (Ty.den TPair)) : Option ((List (Ty.den TPut)) × Unit) := impl_Diff.t k (impl_Diff.l0 k k) a0 a1
def laws_eqPut.t (k : Nat) (a0 : Ty.den TPut) (a1 : Ty.den TPut) : Option (Bool × Unit) :=
  (bif (!(seq a0.1 a1.1)) then
  (some (false, ()))
  else
  (bif (!(a0.2.1 == a1.2.1)) then
  (some (false, ()))
  else
  (bif (!(seq a0.2.2.1 a1.2.2.1)) then
  (some (false, ()))
  else
  (some (true, ())))))
def laws_eqPut.f (k : Nat) (a0 : Ty.den TPut) (a1 : Ty.den TPut) : Option (Bool × Unit) := laws_eqPut.t k a0 a1
def laws_eqPutS.b0 (k : Nat) (L0 : List (Ty.den TPut) → List (Ty.den TPut) → Int → Option (Bool × Unit)) (x0_0 : List (Ty.den TPut)) (x0_1 : List (Ty.den TPut)) (x0_2 : Int) : Option (Bool × Unit) :=
  (bif (decide (x0_2 < (List.length x0_0 : Int))) then
  (inb x0_2 (List.length x0_0 : Int)
  (inb x0_2 (List.length x0_1 : Int)
  (Option.bind (laws_eqPut.f k (List.getD x0_0 (Int.toNat x0_2) (Ty.dflt TPut)) (List.getD x0_1 (Int.toNat x0_2) (Ty.dflt TPut))) fun r1 =>
  (bif (!r1.1) then
  (some (false, ()))
  else
  (L0 x0_0 x0_1 (w64 (x0_2 + 1)))))))
  else
  (some (true, ())))
def laws_eqPutS.l0 (k : Nat) : Nat → List (Ty.den TPut) → List (Ty.den TPut) → Int → Option (Bool × Unit)
  | 0 => fun _ _ _ => none
  | n + 1 => laws_eqPutS.b0 k (laws_eqPutS.l0 k n)
def laws_eqPutS.t (k : Nat) (L0 : List (Ty.den TPut) → List (Ty.den TPut) → Int → Option (Bool × Unit)) (a0 : List (Ty.den TPut)) (a1 : List (Ty.den TPut)) : Option (Bool × Unit) :=
  (bif ((List.length a0 : Int) != (List.length a1 : Int)) then
  (some (false, ()))
  else
  (L0 a0 a1 0))
def laws_eqPutS.f (k : Nat) (a0 : List (Ty.den TPut)) (a1 : List (Ty.den TPut)) : Option (Bool × Unit) := laws_eqPutS.t k (laws_eqPutS.l0 k k) a0 a1
def laws_eqPair.t (k : Nat) (a0 : Ty.den TPair) (a1 : Ty.den TPair) : Option (Bool × Unit) :=
  (bif (!(seq a0.1 a1.1)) then
  (some (false, ()))
  else
  (bif (!(seq a0.2.1 a1.2.1)) then
  (some (false, ()))
  else
  (bif (a0.2.2.1 != a1.2.2.1) then
  (some (false, ()))
  else
  (some (true, ())))))
def laws_eqPair.f (k : Nat) (a0 : Ty.den TPair) (a1 : Ty.den TPair) : Option (Bool × Unit) := laws_eqPair.t k a0 a1
def laws_eqPairS.b0 (k : Nat) (L0 : List (Ty.den TPair) → List (Ty.den TPair) → Int → Option (Bool × Unit)) (x0_0 : List (Ty.den TPair)) (x0_1 : List (Ty.den TPair)) (x0_2 : Int) : Option (Bool × Unit) :=
  (bif (decide (x0_2 < (List.length x0_0 : Int))) then
  (inb x0_2 (List.length x0_0 : Int)
  (inb x0_2 (List.length x0_1 : Int)
  (Option.bind (laws_eqPair.f k (List.getD x0_0 (Int.toNat x0_2) (Ty.dflt TPair)) (List.getD x0_1 (Int.toNat x0_2) (Ty.dflt TPair))) fun r1 =>
  (bif (!r1.1) then
  (some (false, ()))
  else
  (L0 x0_0 x0_1 (w64 (x0_2 + 1)))))))
  else
  (some (true, ())))
def laws_eqPairS.l0 (k : Nat) : Nat → List (Ty.den TPair) → List (Ty.den TPair) → Int → Option (Bool × Unit)
  | 0 => fun _ _ _ => none
  | n + 1 => laws_eqPairS.b0 k (laws_eqPairS.l0 k n)
def laws_eqPairS.t (k : Nat) (L0 : List (Ty.den TPair) → List (Ty.den TPair) → Int → Option (Bool × Unit)) (a0 : List (Ty.den TPair)) (a1 : List (Ty.den TPair)) : Option (Bool × Unit) :=
  (bif ((List.length a0 : Int) != (List.length a1 : Int)) then
  (some (false, ()))
  else
  (L0 a0 a1 0))
def laws_eqPairS.f (k : Nat) (a0 : List (Ty.den TPair)) (a1 : List (Ty.den TPair)) : Option (Bool × Unit) := laws_eqPairS.t k (laws_eqPairS.l0 k k) a0 a1
def laws_markPairS.b0 (k : Nat) (a0 : List (Ty.den TPair)) (a1 : Int) (L0 : Int → Int → List (Ty.den TPair) → Option ((List (Ty.den TPair)) × Int × Unit)) (x0_0 : Int) (x0_1 : Int) (x0_2 : List (Ty.den TPair)) : Option ((List (Ty.den TPair)) × Int × Unit) :=
  (bif (decide (x0_1 < (List.length x0_2 : Int))) then
  (Option.bind (laws_markText.f k x0_0) fun r1 =>
  (inb x0_1 (List.length x0_2 : Int)
  (let l2 := (List.set x0_2 (Int.toNat x0_1) (r1.1, (List.getD x0_2 (Int.toNat x0_1) (Ty.dflt TPair)).2));
  (Option.bind (laws_markText.f k (w64 (x0_0 + 1))) fun r3 =>
  (inb x0_1 (List.length l2 : Int)
  (let l4 := (List.set l2 (Int.toNat x0_1) ((List.getD l2 (Int.toNat x0_1) (Ty.dflt TPair)).1, (r3.1, (List.getD l2 (Int.toNat x0_1) (Ty.dflt TPair)).2.2)));
  (inb x0_1 (List.length l4 : Int)
  (let l5 := (List.set l4 (Int.toNat x0_1) ((List.getD l4 (Int.toNat x0_1) (Ty.dflt TPair)).1, ((List.getD l4 (Int.toNat x0_1) (Ty.dflt TPair)).2.1, ((w64 ((w64 (x0_0 + 1)) + 1)), (List.getD l4 (Int.toNat x0_1) (Ty.dflt TPair)).2.2.2))));
  (L0 (w64 ((w64 ((w64 (x0_0 + 1)) + 1)) + 1)) (w64 (x0_1 + 1)) l5)))))))))
  else
  (some (x0_2, (x0_0, ()))))
def laws_markPairS.l0 (k : Nat) (a0 : List (Ty.den TPair)) (a1 : Int) : Nat → Int → Int → List (Ty.den TPair) → Option ((List (Ty.den TPair)) × Int × Unit)
  | 0 => fun _ _ _ => none
  | n + 1 => laws_markPairS.b0 k a0 a1 (laws_markPairS.l0 k a0 a1 n)
def laws_markPairS.t (k : Nat) (L0 : Int → Int → List (Ty.den TPair) → Option ((List (Ty.den TPair)) × Int × Unit)) (a0 : List (Ty.den TPair)) (a1 : Int) : Option ((List (Ty.den TPair)) × Int × Unit) :=
  (L0 a1 0 a0)
def laws_markPairS.f (k : Nat) (a0 : List (Ty.den TPair)) (a1 : Int) : Option ((List (Ty.den TPair)) × Int × Unit) := laws_markPairS.t k (laws_markPairS.l0 k a0 a1 k) a0 a1
def laws_markPutS.b0 (k : Nat) (a0 : List (Ty.den TPut)) (a1 : Int) (L0 : Int → Int → List (Ty.den TPut) → Option ((List (Ty.den TPut)) × Int × Unit)) (x0_0 : Int) (x0_1 : Int) (x0_2 : List (Ty.den TPut)) : Option ((List (Ty.den TPut)) × Int × Unit) :=
  (bif (decide (x0_1 < (List.length x0_2 : Int))) then
  (Option.bind (laws_markText.f k x0_0) fun r1 =>
  (inb x0_1 (List.length x0_2 : Int)
  (let l2 := (List.set x0_2 (Int.toNat x0_1) (r1.1, (List.getD x0_2 (Int.toNat x0_1) (Ty.dflt TPut)).2));
  (inb x0_1 (List.length l2 : Int)
  (let l3 := (List.set l2 (Int.toNat x0_1) ((List.getD l2 (Int.toNat x0_1) (Ty.dflt TPut)).1, (((Int.tmod (w64 (x0_0 + 1)) 3) == 0), (List.getD l2 (Int.toNat x0_1) (Ty.dflt TPut)).2.2)));
  (Option.bind (laws_markText.f k (w64 ((w64 (x0_0 + 1)) + 1))) fun r4 =>
  (inb x0_1 (List.length l3 : Int)
  (let l5 := (List.set l3 (Int.toNat x0_1) ((List.getD l3 (Int.toNat x0_1) (Ty.dflt TPut)).1, ((List.getD l3 (Int.toNat x0_1) (Ty.dflt TPut)).2.1, r4)));
  (L0 (w64 ((w64 ((w64 (x0_0 + 1)) + 1)) + 1)) (w64 (x0_1 + 1)) l5)))))))))
  else
  (some (x0_2, (x0_0, ()))))
def laws_markPutS.l0 (k : Nat) (a0 : List (Ty.den TPut)) (a1 : Int) : Nat → Int → Int → List (Ty.den TPut) → Option ((List (Ty.den TPut)) × Int × Unit)
  | 0 => fun _ _ _ => none
  | n + 1 => laws_markPutS.b0 k a0 a1 (laws_markPutS.l0 k a0 a1 n)
def laws_markPutS.t (k : Nat) (L0 : Int → Int → List (Ty.den TPut) → Option ((List (Ty.den TPut)) × Int × Unit)) (a0 : List (Ty.den TPut)) (a1 : Int) : Option ((List (Ty.den TPut)) × Int × Unit) :=
  (L0 a1 0 a0)
def laws_markPutS.f (k : Nat) (a0 : List (Ty.den TPut)) (a1 : Int) : Option ((List (Ty.den TPut)) × Int × Unit) := laws_markPutS.t k (laws_markPutS.l0 k a0 a1 k) a0 a1
def laws_heldPutS.b0 (k : Nat) (L0 : List (Ty.den TPut) → Int → Int → Option (Int × Unit)) (x0_0 : List (Ty.den TPut)) (x0_1 : Int) (x0_2 : Int) : Option (Int × Unit) :=
  (bif (decide (x0_2 < (List.length x0_0 : Int))) then
  (inb x0_2 (List.length x0_0 : Int)
  (Option.bind (laws_markText.f k x0_1) fun r1 =>
  (bif (!(seq (List.getD x0_0 (Int.toNat x0_2) (Ty.dflt TPut)).1 r1.1)) then
  (some ((-1), ()))
  else
  (inb x0_2 (List.length x0_0 : Int)
  (bif (!((List.getD x0_0 (Int.toNat x0_2) (Ty.dflt TPut)).2.1 == ((Int.tmod (w64 (x0_1 + 1)) 3) == 0))) then
  (some ((-1), ()))
  else
  (inb x0_2 (List.length x0_0 : Int)
  (Option.bind (laws_markText.f k (w64 ((w64 (x0_1 + 1)) + 1))) fun r2 =>
  (bif (!(seq (List.getD x0_0 (Int.toNat x0_2) (Ty.dflt TPut)).2.2.1 r2.1)) then
  (some ((-1), ()))
  else
  (L0 x0_0 (w64 ((w64 ((w64 (x0_1 + 1)) + 1)) + 1)) (w64 (x0_2 + 1)))))))))))
  else
  (some (x0_1, ())))
def laws_heldPutS.l0 (k : Nat) : Nat → List (Ty.den TPut) → Int → Int → Option (Int × Unit)
  | 0 => fun _ _ _ => none
  | n + 1 => laws_heldPutS.b0 k (laws_heldPutS.l0 k n)
def laws_heldPutS.t (k : Nat) (L0 : List (Ty.den TPut) → Int → Int → Option (Int × Unit)) (a0 : List (Ty.den TPut)) (a1 : Int) : Option (Int × Unit) :=
  (L0 a0 a1 0)
def laws_heldPutS.f (k : Nat) (a0 : List (Ty.den TPut)) (a1 : Int) : Option (Int × Unit) := laws_heldPutS.t k (laws_heldPutS.l0 k k) a0 a1
def laws_FnExactDiff.t (k : Nat) (a0 : List (Ty.den TPair)) (a1 : List (Ty.den TPair)) : Option (Bool × Unit) :=
  (Option.bind (laws_szPairS.f k a0 1048576) fun r1 =>
  (bif (decide (r1.1 < 0)) then
  (some (true, ()))
  else
  (Option.bind (laws_szPairS.f k a1 r1.1) fun r2 =>
  (bif (decide (r2.1 < 0)) then
  (some (true, ()))
  else
  (Option.bind (laws_toPairS.f k a0) fun r3 =>
  (Option.bind (laws_toPairS.f k a1) fun r4 =>
  (Option.bind (spec_Diff.f k r3.1 r4.1) fun r5 =>
  (Option.bind (laws_toPairS.f k a0) fun r6 =>
  (Option.bind (laws_toPairS.f k a1) fun r7 =>
  (Option.bind (impl_Diff.f k r6.1 r7.1) fun r8 =>
  (Option.bind (laws_eqPutS.f k r8.1 r5.1) fun r9 =>
  (bif (!r9.1) then
  (some (false, ()))
  else
  (Option.bind (laws_toPairS.f k a0) fun r10 =>
  (Option.bind (laws_eqPairS.f k r6.1 r10.1) fun r11 =>
  (bif (!r11.1) then
  (some (false, ()))
  else
  (Option.bind (laws_toPairS.f k a1) fun r12 =>
  (Option.bind (laws_eqPairS.f k r7.1 r12.1) fun r13 =>
  (bif (!r13.1) then
  (some (false, ()))
  else
  (Option.bind (laws_markPairS.f k r6.1 1) fun r14 =>
  (Option.bind (laws_markPairS.f k r7.1 r14.2.1) fun r15 =>
  (bif (decide (r15.2.1 < 0)) then
  (some (false, ()))
  else
  (Option.bind (laws_eqPutS.f k r8.1 r5.1) fun r16 =>
  (bif (!r16.1) then
  (some (false, ()))
  else
  (Option.bind (laws_markPutS.f k r8.1 1) fun r17 =>
  (Option.bind (laws_heldPutS.f k r17.1 1) fun r18 =>
  (bif (decide (r18.1 < 0)) then
  (some (false, ()))
  else
  (bif (r18.1 != r17.2.1) then
  (some (false, ()))
  else
  (Option.bind (laws_toPairS.f k a0) fun r19 =>
  (Option.bind (laws_toPairS.f k a1) fun r20 =>
  (Option.bind (impl_Diff.f k r19.1 r20.1) fun r21 =>
  (Option.bind (laws_eqPutS.f k r21.1 r5.1) fun r22 =>
  (bif (!r22.1) then
  (some (false, ()))
  else
  (Option.bind (laws_heldPutS.f k r17.1 1) fun r23 =>
  (bif (decide (r23.1 < 0)) then
  (some (false, ()))
  else
  (bif (r23.1 != r17.2.1) then
  (some (false, ()))
  else
  (some (true, ())))))))))))))))))))))))))))))))))))))
def laws_FnExactDiff.f (k : Nat) (a0 : List (Ty.den TPair)) (a1 : List (Ty.den TPair)) : Option (Bool × Unit) := laws_FnExactDiff.t k a0 a1
def laws_szPiece.t (k : Nat) (a0 : Ty.den TPiece) (a1 : Int) : Option (Int × Unit) :=
  (bif (decide ((w64 (a1 - (ByteArray.size a0.2.1 : Int))) < 0)) then
  (some ((-1), ()))
  else
  (some ((w64 (a1 - (ByteArray.size a0.2.1 : Int))), ())))
def laws_szPiece.f (k : Nat) (a0 : Ty.den TPiece) (a1 : Int) : Option (Int × Unit) := laws_szPiece.t k a0 a1
def laws_szPieceS.b0 (k : Nat) (L0 : List (Ty.den TPiece) → Int → Int → Option (Int × Unit)) (x0_0 : List (Ty.den TPiece)) (x0_1 : Int) (x0_2 : Int) : Option (Int × Unit) :=
  (bif (decide (x0_2 < (List.length x0_0 : Int))) then
  (inb x0_2 (List.length x0_0 : Int)
  (Option.bind (laws_szPiece.f k (List.getD x0_0 (Int.toNat x0_2) (Ty.dflt TPiece)) x0_1) fun r1 =>
  (bif (decide (r1.1 < 0)) then
  (some ((-1), ()))
  else
  (L0 x0_0 r1.1 (w64 (x0_2 + 1))))))
  else
  (some (x0_1, ())))
def laws_szPieceS.l0 (k : Nat) : Nat → List (Ty.den TPiece) → Int → Int → Option (Int × Unit)
  | 0 => fun _ _ _ => none
  | n + 1 => laws_szPieceS.b0 k (laws_szPieceS.l0 k n)
def laws_szPieceS.t (k : Nat) (L0 : List (Ty.den TPiece) → Int → Int → Option (Int × Unit)) (a0 : List (Ty.den TPiece)) (a1 : Int) : Option (Int × Unit) :=
  (bif (decide ((w64 (a1 - (List.length a0 : Int))) < 0)) then
  (some ((-1), ()))
  else
  (L0 a0 (w64 (a1 - (List.length a0 : Int))) 0))
def laws_szPieceS.f (k : Nat) (a0 : List (Ty.den TPiece)) (a1 : Int) : Option (Int × Unit) := laws_szPieceS.t k (laws_szPieceS.l0 k k) a0 a1
def laws_szFollower.t (k : Nat) (a0 : Ty.den TFollower) (a1 : Int) : Option (Int × Unit) :=
  (Option.bind (laws_szPieceS.f k a0.2.1 a1) fun r1 =>
  (bif (decide (r1.1 < 0)) then
  (some ((-1), ()))
  else
  (some r1)))
def laws_szFollower.f (k : Nat) (a0 : Ty.den TFollower) (a1 : Int) : Option (Int × Unit) := laws_szFollower.t k a0 a1
def laws_szBit.t (k : Nat) (a0 : Ty.den TBit) (a1 : Int) : Option (Int × Unit) :=
  (bif (decide ((w64 (a1 - (ByteArray.size a0.2.2.1 : Int))) < 0)) then
  (some ((-1), ()))
  else
  (some ((w64 (a1 - (ByteArray.size a0.2.2.1 : Int))), ())))
def laws_szBit.f (k : Nat) (a0 : Ty.den TBit) (a1 : Int) : Option (Int × Unit) := laws_szBit.t k a0 a1
def laws_szBitS.b0 (k : Nat) (L0 : List (Ty.den TBit) → Int → Int → Option (Int × Unit)) (x0_0 : List (Ty.den TBit)) (x0_1 : Int) (x0_2 : Int) : Option (Int × Unit) :=
  (bif (decide (x0_2 < (List.length x0_0 : Int))) then
  (inb x0_2 (List.length x0_0 : Int)
  (Option.bind (laws_szBit.f k (List.getD x0_0 (Int.toNat x0_2) (Ty.dflt TBit)) x0_1) fun r1 =>
  (bif (decide (r1.1 < 0)) then
  (some ((-1), ()))
  else
  (L0 x0_0 r1.1 (w64 (x0_2 + 1))))))
  else
  (some (x0_1, ())))
def laws_szBitS.l0 (k : Nat) : Nat → List (Ty.den TBit) → Int → Int → Option (Int × Unit)
  | 0 => fun _ _ _ => none
  | n + 1 => laws_szBitS.b0 k (laws_szBitS.l0 k n)
def laws_szBitS.t (k : Nat) (L0 : List (Ty.den TBit) → Int → Int → Option (Int × Unit)) (a0 : List (Ty.den TBit)) (a1 : Int) : Option (Int × Unit) :=
  (bif (decide ((w64 (a1 - (List.length a0 : Int))) < 0)) then
  (some ((-1), ()))
  else
  (L0 a0 (w64 (a1 - (List.length a0 : Int))) 0))
def laws_szBitS.f (k : Nat) (a0 : List (Ty.den TBit)) (a1 : Int) : Option (Int × Unit) := laws_szBitS.t k (laws_szBitS.l0 k k) a0 a1
def laws_szParcel.t (k : Nat) (a0 : Ty.den TParcel) (a1 : Int) : Option (Int × Unit) :=
  (Option.bind (laws_szBitS.f k a0.2.1 a1) fun r1 =>
  (bif (decide (r1.1 < 0)) then
  (some ((-1), ()))
  else
  (some r1)))
def laws_szParcel.f (k : Nat) (a0 : Ty.den TParcel) (a1 : Int) : Option (Int × Unit) := laws_szParcel.t k a0 a1
def laws_toPiece.t (k : Nat) (a0 : Ty.den TPiece) : Option ((Ty.den TPiece) × Unit) :=
  (some (a0, ()))
def laws_toPiece.f (k : Nat) (a0 : Ty.den TPiece) : Option ((Ty.den TPiece) × Unit) := laws_toPiece.t k a0
def laws_toPieceS.b0 (k : Nat) (L0 : List (Ty.den TPiece) → Int → List (Ty.den TPiece) → Option ((List (Ty.den TPiece)) × Unit)) (x0_0 : List (Ty.den TPiece)) (x0_1 : Int) (x0_2 : List (Ty.den TPiece)) : Option ((List (Ty.den TPiece)) × Unit) :=
  (bif (decide (x0_1 < (List.length x0_0 : Int))) then
  (inb x0_1 (List.length x0_0 : Int)
  (Option.bind (laws_toPiece.f k (List.getD x0_0 (Int.toNat x0_1) (Ty.dflt TPiece))) fun r1 =>
  (inb x0_1 (List.length x0_2 : Int)
  (let l2 := (List.set x0_2 (Int.toNat x0_1) r1.1);
  (L0 x0_0 (w64 (x0_1 + 1)) l2)))))
  else
  (some (x0_2, ())))
def laws_toPieceS.l0 (k : Nat) : Nat → List (Ty.den TPiece) → Int → List (Ty.den TPiece) → Option ((List (Ty.den TPiece)) × Unit)
  | 0 => fun _ _ _ => none
  | n + 1 => laws_toPieceS.b0 k (laws_toPieceS.l0 k n)
def laws_toPieceS.t (k : Nat) (L0 : List (Ty.den TPiece) → Int → List (Ty.den TPiece) → Option ((List (Ty.den TPiece)) × Unit)) (a0 : List (Ty.den TPiece)) : Option ((List (Ty.den TPiece)) × Unit) :=
  (mks (Ty.bytes TPiece) (List.length a0 : Int)
  (L0 a0 0 (List.replicate (Int.toNat (List.length a0 : Int)) (Ty.dflt TPiece))))
def laws_toPieceS.f (k : Nat) (a0 : List (Ty.den TPiece)) : Option ((List (Ty.den TPiece)) × Unit) := laws_toPieceS.t k (laws_toPieceS.l0 k k) a0
def laws_toFollower.t (k : Nat) (a0 : Ty.den TFollower) : Option ((Ty.den TFollower) × Unit) :=
  (Option.bind (laws_toPieceS.f k a0.2.1) fun r1 =>
  (some ((a0.1, r1), ())))
def laws_toFollower.f (k : Nat) (a0 : Ty.den TFollower) : Option ((Ty.den TFollower) × Unit) := laws_toFollower.t k a0
def laws_toBit.t (k : Nat) (a0 : Ty.den TBit) : Option ((Ty.den TBit) × Unit) :=
  (some (a0, ()))
def laws_toBit.f (k : Nat) (a0 : Ty.den TBit) : Option ((Ty.den TBit) × Unit) := laws_toBit.t k a0
def laws_toBitS.b0 (k : Nat) (L0 : List (Ty.den TBit) → Int → List (Ty.den TBit) → Option ((List (Ty.den TBit)) × Unit)) (x0_0 : List (Ty.den TBit)) (x0_1 : Int) (x0_2 : List (Ty.den TBit)) : Option ((List (Ty.den TBit)) × Unit) :=
  (bif (decide (x0_1 < (List.length x0_0 : Int))) then
  (inb x0_1 (List.length x0_0 : Int)
  (Option.bind (laws_toBit.f k (List.getD x0_0 (Int.toNat x0_1) (Ty.dflt TBit))) fun r1 =>
  (inb x0_1 (List.length x0_2 : Int)
  (let l2 := (List.set x0_2 (Int.toNat x0_1) r1.1);
  (L0 x0_0 (w64 (x0_1 + 1)) l2)))))
  else
  (some (x0_2, ())))
def laws_toBitS.l0 (k : Nat) : Nat → List (Ty.den TBit) → Int → List (Ty.den TBit) → Option ((List (Ty.den TBit)) × Unit)
  | 0 => fun _ _ _ => none
  | n + 1 => laws_toBitS.b0 k (laws_toBitS.l0 k n)
def laws_toBitS.t (k : Nat) (L0 : List (Ty.den TBit) → Int → List (Ty.den TBit) → Option ((List (Ty.den TBit)) × Unit)) (a0 : List (Ty.den TBit)) : Option ((List (Ty.den TBit)) × Unit) :=
  (mks (Ty.bytes TBit) (List.length a0 : Int)
  (L0 a0 0 (List.replicate (Int.toNat (List.length a0 : Int)) (Ty.dflt TBit))))
def laws_toBitS.f (k : Nat) (a0 : List (Ty.den TBit)) : Option ((List (Ty.den TBit)) × Unit) := laws_toBitS.t k (laws_toBitS.l0 k k) a0
def laws_toParcel.t (k : Nat) (a0 : Ty.den TParcel) : Option ((Ty.den TParcel) × Unit) :=
  (Option.bind (laws_toBitS.f k a0.2.1) fun r1 =>
  (some ((a0.1, r1), ())))
def laws_toParcel.f (k : Nat) (a0 : Ty.den TParcel) : Option ((Ty.den TParcel) × Unit) := laws_toParcel.t k a0
def spec_l27Text.b0 (k : Nat) (L0 : Int → Int → Int → List (Ty.den TPiece) → Option (ByteArray × Unit)) (x0_0 : Int) (x0_1 : Int) (x0_2 : Int) (x0_3 : List (Ty.den TPiece)) : Option (ByteArray × Unit) :=
  (bif (decide (x0_1 < (List.length x0_3 : Int))) then
  (inb x0_1 (List.length x0_3 : Int)
  (bif ((List.getD x0_3 (Int.toNat x0_1) (Ty.dflt TPiece)).1 == x0_0) then
  (inb x0_1 (List.length x0_3 : Int)
  (some (List.getD x0_3 (Int.toNat x0_1) (Ty.dflt TPiece)).2))
  else
  (L0 x0_0 (w64 (x0_1 + 1)) x0_2 x0_3)))
  else
  (some ((⟨#[]⟩ : ByteArray), ())))
def spec_l27Text.l0 (k : Nat) : Nat → Int → Int → Int → List (Ty.den TPiece) → Option (ByteArray × Unit)
  | 0 => fun _ _ _ _ => none
  | n + 1 => spec_l27Text.b0 k (spec_l27Text.l0 k n)
def spec_l27Text.t (k : Nat) (L0 : Int → Int → Int → List (Ty.den TPiece) → Option (ByteArray × Unit)) (a0 : Ty.den TFollower) (a1 : Int) : Option (ByteArray × Unit) :=
  (L0 a1 0 a0.1 a0.2.1)
def spec_l27Text.f (k : Nat) (a0 : Ty.den TFollower) (a1 : Int) : Option (ByteArray × Unit) := spec_l27Text.t k (spec_l27Text.l0 k k) a0 a1
def spec_l1In.t (k : Nat) (a0 : Int) (a1 : Int) (a2 : Int) : Option (Bool × Unit) :=
  (bif (decide (a0 ≥ a1)) then
  (some ((decide (a0 ≤ a2)), ()))
  else
  (some (false, ())))
def spec_l1In.f (k : Nat) (a0 : Int) (a1 : Int) (a2 : Int) : Option (Bool × Unit) := spec_l1In.t k a0 a1 a2
def spec_LiveOk.b0 (k : Nat) (L0 : Int → Int → List Int → Option (Bool × Unit)) (x0_0 : Int) (x0_1 : Int) (x0_2 : List Int) : Option (Bool × Unit) :=
  (bif (decide (x0_0 < (List.length x0_2 : Int))) then
  (inb x0_0 (List.length x0_2 : Int)
  (Option.bind (spec_l1In.f k (List.getD x0_2 (Int.toNat x0_0) (Ty.dflt (.int .i64))) 1 (w64 (x0_1 - 1))) fun r3 =>
  (bif (!r3.1) then
  (some (false, ()))
  else
  (bif (decide (x0_0 > 0)) then
  (inb x0_0 (List.length x0_2 : Int)
  (inb (w64 (x0_0 - 1)) (List.length x0_2 : Int)
  (bif (decide ((List.getD x0_2 (Int.toNat x0_0) (Ty.dflt (.int .i64))) ≤ (List.getD x0_2 (Int.toNat (w64 (x0_0 - 1))) (Ty.dflt (.int .i64))))) then
  (some (false, ()))
  else
  (L0 (w64 (x0_0 + 1)) x0_1 x0_2))))
  else
  (L0 (w64 (x0_0 + 1)) x0_1 x0_2)))))
  else
  (some (true, ())))
def spec_LiveOk.l0 (k : Nat) : Nat → Int → Int → List Int → Option (Bool × Unit)
  | 0 => fun _ _ _ => none
  | n + 1 => spec_LiveOk.b0 k (spec_LiveOk.l0 k n)
def spec_LiveOk.t (k : Nat) (L0 : Int → Int → List Int → Option (Bool × Unit)) (a0 : Ty.den TLive) : Option (Bool × Unit) :=
  (Option.bind (spec_l1In.f k a0.1 1 100000) fun r1 =>
  (bif (!r1.1) then
  (some (false, ()))
  else
  (Option.bind (spec_l1In.f k (List.length a0.2.1 : Int) 1 60) fun r2 =>
  (bif (!r2.1) then
  (some (false, ()))
  else
  (L0 0 a0.1 a0.2.1)))))
def spec_LiveOk.f (k : Nat) (a0 : Ty.den TLive) : Option (Bool × Unit) := spec_LiveOk.t k (spec_LiveOk.l0 k k) a0
def spec_Receive.b0 (k : Nat) (L0 : Int → Int → List (Ty.den TPiece) → Int → List (Ty.den TBit) → List (Ty.den TPiece) → Int → List (Ty.den TPiece) → Int → List (Ty.den TPiece) → Int → List Int → Option ((Ty.den TFollower) × Bool × Unit)) (x0_0 : Int) (x0_1 : Int) (x0_2 : List (Ty.den TPiece)) (x0_3 : Int) (x0_4 : List (Ty.den TBit)) (x0_5 : List (Ty.den TPiece)) (x0_6 : Int) (x0_7 : List (Ty.den TPiece)) (x0_8 : Int) (x0_9 : List (Ty.den TPiece)) (x0_10 : Int) (x0_11 : List Int) : Option ((Ty.den TFollower) × Bool × Unit) :=
  (bif (decide (x0_0 < (List.length x0_4 : Int))) then
  (inb x0_0 (List.length x0_4 : Int)
  (Option.bind (spec_l27Text.f k (x0_1, (x0_2, ())) (List.getD x0_4 (Int.toNat x0_0) (Ty.dflt TBit)).1) fun r1 =>
  (Option.bind (spec_l1In.f k (List.getD x0_4 (Int.toNat x0_0) (Ty.dflt TBit)).2.1 0 (ByteArray.size r1.1 : Int)) fun r2 =>
  (bif (!r2.1) then
  (some ((x0_8, (x0_7, ())), (false, ())))
  else
  (inc (List.getD x0_4 (Int.toNat x0_0) (Ty.dflt TBit)).2.1 (ByteArray.size r1.1 : Int)
  (cat (ByteArray.extract r1.1 0 (Int.toNat (List.getD x0_4 (Int.toNat x0_0) (Ty.dflt TBit)).2.1)) (List.getD x0_4 (Int.toNat x0_0) (Ty.dflt TBit)).2.2.1
  (rm (Ty.bytes TPiece) (List.length x0_9 + 1)
  (rm (Ty.bytes (.int .i64)) (List.length x0_11 + 1)
  (L0 (w64 (x0_0 + 1)) x0_1 x0_2 x0_3 x0_4 x0_5 x0_6 x0_7 x0_8 (x0_9 ++ [((List.getD x0_4 (Int.toNat x0_0) (Ty.dflt TBit)).1, (((ByteArray.extract r1.1 0 (Int.toNat (List.getD x0_4 (Int.toNat x0_0) (Ty.dflt TBit)).2.1)) ++ (List.getD x0_4 (Int.toNat x0_0) (Ty.dflt TBit)).2.2.1), ()))]) x0_10 (x0_11 ++ [(List.getD x0_4 (Int.toNat x0_0) (Ty.dflt TBit)).1]))))))))))
  else
  (Option.bind (spec_LiveOk.f k (x0_3, (x0_11, ()))) fun r3 =>
  (bif (!r3.1) then
  (some ((x0_8, (x0_7, ())), (false, ())))
  else
  (some ((x0_10, (x0_9, ())), (true, ()))))))
def spec_Receive.l0 (k : Nat) : Nat → Int → Int → List (Ty.den TPiece) → Int → List (Ty.den TBit) → List (Ty.den TPiece) → Int → List (Ty.den TPiece) → Int → List (Ty.den TPiece) → Int → List Int → Option ((Ty.den TFollower) × Bool × Unit)
  | 0 => fun _ _ _ _ _ _ _ _ _ _ _ _ => none
  | n + 1 => spec_Receive.b0 k (spec_Receive.l0 k n)
def spec_Receive.t (k : Nat) (L0 : Int → Int → List (Ty.den TPiece) → Int → List (Ty.den TBit) → List (Ty.den TPiece) → Int → List (Ty.den TPiece) → Int → List (Ty.den TPiece) → Int → List Int → Option ((Ty.den TFollower) × Bool × Unit)) (a0 : Ty.den TFollower) (a1 : Ty.den TParcel) : Option ((Ty.den TFollower) × Bool × Unit) :=
  (rm (Ty.bytes TPiece) (0 + List.length a0.2.1)
  (L0 0 a0.1 a0.2.1 a1.1 a1.2.1 [] 0 ([] ++ a0.2.1) a0.1 [] a1.1 []))
def spec_Receive.f (k : Nat) (a0 : Ty.den TFollower) (a1 : Ty.den TParcel) : Option ((Ty.den TFollower) × Bool × Unit) := spec_Receive.t k (spec_Receive.l0 k k) a0 a1
def impl_has.b0 (k : Nat) (L0 : Int → List (Ty.den TPiece) → Int → Int → Option (ByteArray × Unit)) (x0_0 : Int) (x0_1 : List (Ty.den TPiece)) (x0_2 : Int) (x0_3 : Int) : Option (ByteArray × Unit) :=
  (bif (decide (x0_3 < x0_2)) then
  (inb x0_3 (List.length x0_1 : Int)
  (bif ((List.getD x0_1 (Int.toNat x0_3) (Ty.dflt TPiece)).1 == x0_0) then
  (some (List.getD x0_1 (Int.toNat x0_3) (Ty.dflt TPiece)).2)
  else
  (L0 x0_0 x0_1 x0_2 (w64 (x0_3 + 1)))))
  else
  (some ((⟨#[]⟩ : ByteArray), ())))
def impl_has.l0 (k : Nat) : Nat → Int → List (Ty.den TPiece) → Int → Int → Option (ByteArray × Unit)
  | 0 => fun _ _ _ _ => none
  | n + 1 => impl_has.b0 k (impl_has.l0 k n)
def impl_has.t (k : Nat) (L0 : Int → List (Ty.den TPiece) → Int → Int → Option (ByteArray × Unit)) (a0 : Ty.den TFollower) (a1 : Int) : Option (ByteArray × Unit) :=
  (L0 a1 a0.2.1 (List.length a0.2.1 : Int) 0)
def impl_has.f (k : Nat) (a0 : Ty.den TFollower) (a1 : Int) : Option (ByteArray × Unit) := impl_has.t k (impl_has.l0 k k) a0 a1
def impl_in.t (k : Nat) (a0 : Int) (a1 : Int) (a2 : Int) : Option (Bool × Unit) :=
  (bif (decide (a0 ≥ a1)) then
  (some ((decide (a0 ≤ a2)), ()))
  else
  (some (false, ())))
def impl_in.f (k : Nat) (a0 : Int) (a1 : Int) (a2 : Int) : Option (Bool × Unit) := impl_in.t k a0 a1 a2
def impl_LiveOk.b0 (k : Nat) (L0 : List Int → Int → Int → Int → List Int → Option (Bool × Unit)) (x0_0 : List Int) (x0_1 : Int) (x0_2 : Int) (x0_3 : Int) (x0_4 : List Int) : Option (Bool × Unit) :=
  (bif (decide (x0_2 < x0_1)) then
  (inb x0_2 (List.length x0_0 : Int)
  (Option.bind (impl_in.f k (List.getD x0_0 (Int.toNat x0_2) (Ty.dflt (.int .i64))) 1 (w64 (x0_3 - 1))) fun r1 =>
  (bif (!r1.1) then
  (some (false, ()))
  else
  (bif (decide (x0_2 > 0)) then
  (inb (w64 (x0_2 - 1)) (List.length x0_4 : Int)
  (bif (decide ((List.getD x0_4 (Int.toNat (w64 (x0_2 - 1))) (Ty.dflt (.int .i64))) ≥ (List.getD x0_0 (Int.toNat x0_2) (Ty.dflt (.int .i64))))) then
  (some (false, ()))
  else
  (L0 x0_0 x0_1 (w64 (x0_2 + 1)) x0_3 x0_4)))
  else
  (L0 x0_0 x0_1 (w64 (x0_2 + 1)) x0_3 x0_4)))))
  else
  (Option.bind (impl_in.f k x0_3 1 100000) fun r2 =>
  (bif r2.1 then
  (Option.bind (impl_in.f k (List.length x0_4 : Int) 1 60) fun r3 =>
  (some r3))
  else
  (some (false, ())))))
def impl_LiveOk.l0 (k : Nat) : Nat → List Int → Int → Int → Int → List Int → Option (Bool × Unit)
  | 0 => fun _ _ _ _ _ => none
  | n + 1 => impl_LiveOk.b0 k (impl_LiveOk.l0 k n)
def impl_LiveOk.t (k : Nat) (L0 : List Int → Int → Int → Int → List Int → Option (Bool × Unit)) (a0 : Ty.den TLive) : Option (Bool × Unit) :=
  (L0 a0.2.1 (List.length a0.2.1 : Int) 0 a0.1 a0.2.1)
def impl_LiveOk.f (k : Nat) (a0 : Ty.den TLive) : Option (Bool × Unit) := impl_LiveOk.t k (impl_LiveOk.l0 k k) a0
def impl_Receive.b0 (k : Nat) (L0 : List (Ty.den TBit) → Int → Int → Int → List (Ty.den TPiece) → List (Ty.den TPiece) → Int → List (Ty.den TPiece) → Int → List (Ty.den TPiece) → Int → List Int → Int → Option ((Ty.den TFollower) × Bool × Unit)) (x0_0 : List (Ty.den TBit)) (x0_1 : Int) (x0_2 : Int) (x0_3 : Int) (x0_4 : List (Ty.den TPiece)) (x0_5 : List (Ty.den TPiece)) (x0_6 : Int) (x0_7 : List (Ty.den TPiece)) (x0_8 : Int) (x0_9 : List (Ty.den TPiece)) (x0_10 : Int) (x0_11 : List Int) (x0_12 : Int) : Option ((Ty.den TFollower) × Bool × Unit) :=
  (bif (decide (x0_2 < x0_1)) then
  (inb x0_2 (List.length x0_0 : Int)
  (Option.bind (impl_has.f k (x0_3, (x0_4, ())) (List.getD x0_0 (Int.toNat x0_2) (Ty.dflt TBit)).1) fun r1 =>
  (Option.bind (impl_in.f k (List.getD x0_0 (Int.toNat x0_2) (Ty.dflt TBit)).2.1 0 (ByteArray.size r1.1 : Int)) fun r2 =>
  (bif (!r2.1) then
  (some ((x0_8, (x0_7, ())), (false, ())))
  else
  (inc (List.getD x0_0 (Int.toNat x0_2) (Ty.dflt TBit)).2.1 (ByteArray.size r1.1 : Int)
  (cat (ByteArray.extract r1.1 0 (Int.toNat (List.getD x0_0 (Int.toNat x0_2) (Ty.dflt TBit)).2.1)) (List.getD x0_0 (Int.toNat x0_2) (Ty.dflt TBit)).2.2.1
  (rm (Ty.bytes TPiece) (List.length x0_9 + 1)
  (rm (Ty.bytes (.int .i64)) (List.length x0_11 + 1)
  (L0 x0_0 x0_1 (w64 (x0_2 + 1)) x0_3 x0_4 x0_5 x0_6 x0_7 x0_8 (x0_9 ++ [((List.getD x0_0 (Int.toNat x0_2) (Ty.dflt TBit)).1, (((ByteArray.extract r1.1 0 (Int.toNat (List.getD x0_0 (Int.toNat x0_2) (Ty.dflt TBit)).2.1)) ++ (List.getD x0_0 (Int.toNat x0_2) (Ty.dflt TBit)).2.2.1), ()))]) x0_10 (x0_11 ++ [(List.getD x0_0 (Int.toNat x0_2) (Ty.dflt TBit)).1]) x0_12)))))))))
  else
  (Option.bind (impl_LiveOk.f k (x0_12, (x0_11, ()))) fun r3 =>
  (bif (!r3.1) then
  (some ((x0_8, (x0_7, ())), (false, ())))
  else
  (some ((x0_10, (x0_9, ())), (true, ()))))))
def impl_Receive.l0 (k : Nat) : Nat → List (Ty.den TBit) → Int → Int → Int → List (Ty.den TPiece) → List (Ty.den TPiece) → Int → List (Ty.den TPiece) → Int → List (Ty.den TPiece) → Int → List Int → Int → Option ((Ty.den TFollower) × Bool × Unit)
  | 0 => fun _ _ _ _ _ _ _ _ _ _ _ _ _ => none
  | n + 1 => impl_Receive.b0 k (impl_Receive.l0 k n)
def impl_Receive.t (k : Nat) (L0 : List (Ty.den TBit) → Int → Int → Int → List (Ty.den TPiece) → List (Ty.den TPiece) → Int → List (Ty.den TPiece) → Int → List (Ty.den TPiece) → Int → List Int → Int → Option ((Ty.den TFollower) × Bool × Unit)) (a0 : Ty.den TFollower) (a1 : Ty.den TParcel) : Option ((Ty.den TFollower) × Bool × Unit) :=
  (rm (Ty.bytes TPiece) (List.length a0.2.1)
  (L0 a1.2.1 (List.length a1.2.1 : Int) 0 a0.1 a0.2.1 [] 0 a0.2.1 a0.1 [] a1.1 [] a1.1))
def impl_Receive.f (k : Nat) (a0 : Ty.den TFollower) (a1 : Ty.den TParcel) : Option ((Ty.den TFollower) × Bool × Unit) := impl_Receive.t k (impl_Receive.l0 k k) a0 a1
def laws_eqPiece.t (k : Nat) (a0 : Ty.den TPiece) (a1 : Ty.den TPiece) : Option (Bool × Unit) :=
  (bif (a0.1 != a1.1) then
  (some (false, ()))
  else
  (bif (!(seq a0.2.1 a1.2.1)) then
  (some (false, ()))
  else
  (some (true, ()))))
def laws_eqPiece.f (k : Nat) (a0 : Ty.den TPiece) (a1 : Ty.den TPiece) : Option (Bool × Unit) := laws_eqPiece.t k a0 a1
def laws_eqPieceS.b0 (k : Nat) (L0 : List (Ty.den TPiece) → List (Ty.den TPiece) → Int → Option (Bool × Unit)) (x0_0 : List (Ty.den TPiece)) (x0_1 : List (Ty.den TPiece)) (x0_2 : Int) : Option (Bool × Unit) :=
  (bif (decide (x0_2 < (List.length x0_0 : Int))) then
  (inb x0_2 (List.length x0_0 : Int)
  (inb x0_2 (List.length x0_1 : Int)
  (Option.bind (laws_eqPiece.f k (List.getD x0_0 (Int.toNat x0_2) (Ty.dflt TPiece)) (List.getD x0_1 (Int.toNat x0_2) (Ty.dflt TPiece))) fun r1 =>
  (bif (!r1.1) then
  (some (false, ()))
  else
  (L0 x0_0 x0_1 (w64 (x0_2 + 1)))))))
  else
  (some (true, ())))
def laws_eqPieceS.l0 (k : Nat) : Nat → List (Ty.den TPiece) → List (Ty.den TPiece) → Int → Option (Bool × Unit)
  | 0 => fun _ _ _ => none
  | n + 1 => laws_eqPieceS.b0 k (laws_eqPieceS.l0 k n)
def laws_eqPieceS.t (k : Nat) (L0 : List (Ty.den TPiece) → List (Ty.den TPiece) → Int → Option (Bool × Unit)) (a0 : List (Ty.den TPiece)) (a1 : List (Ty.den TPiece)) : Option (Bool × Unit) :=
  (bif ((List.length a0 : Int) != (List.length a1 : Int)) then
  (some (false, ()))
  else
  (L0 a0 a1 0))
def laws_eqPieceS.f (k : Nat) (a0 : List (Ty.den TPiece)) (a1 : List (Ty.den TPiece)) : Option (Bool × Unit) := laws_eqPieceS.t k (laws_eqPieceS.l0 k k) a0 a1
def laws_eqFollower.t (k : Nat) (a0 : Ty.den TFollower) (a1 : Ty.den TFollower) : Option (Bool × Unit) :=
  (bif (a0.1 != a1.1) then
  (some (false, ()))
  else
  (Option.bind (laws_eqPieceS.f k a0.2.1 a1.2.1) fun r1 =>
  (bif (!r1.1) then
  (some (false, ()))
  else
  (some (true, ())))))
def laws_eqFollower.f (k : Nat) (a0 : Ty.den TFollower) (a1 : Ty.den TFollower) : Option (Bool × Unit) := laws_eqFollower.t k a0 a1
def laws_eqBit.t (k : Nat) (a0 : Ty.den TBit) (a1 : Ty.den TBit) : Option (Bool × Unit) :=
  (bif (a0.1 != a1.1) then
  (some (false, ()))
  else
  (bif (a0.2.1 != a1.2.1) then
  (some (false, ()))
  else
  (bif (!(seq a0.2.2.1 a1.2.2.1)) then
  (some (false, ()))
  else
  (some (true, ())))))
def laws_eqBit.f (k : Nat) (a0 : Ty.den TBit) (a1 : Ty.den TBit) : Option (Bool × Unit) := laws_eqBit.t k a0 a1
def laws_eqBitS.b0 (k : Nat) (L0 : List (Ty.den TBit) → List (Ty.den TBit) → Int → Option (Bool × Unit)) (x0_0 : List (Ty.den TBit)) (x0_1 : List (Ty.den TBit)) (x0_2 : Int) : Option (Bool × Unit) :=
  (bif (decide (x0_2 < (List.length x0_0 : Int))) then
  (inb x0_2 (List.length x0_0 : Int)
  (inb x0_2 (List.length x0_1 : Int)
  (Option.bind (laws_eqBit.f k (List.getD x0_0 (Int.toNat x0_2) (Ty.dflt TBit)) (List.getD x0_1 (Int.toNat x0_2) (Ty.dflt TBit))) fun r1 =>
  (bif (!r1.1) then
  (some (false, ()))
  else
  (L0 x0_0 x0_1 (w64 (x0_2 + 1)))))))
  else
  (some (true, ())))
def laws_eqBitS.l0 (k : Nat) : Nat → List (Ty.den TBit) → List (Ty.den TBit) → Int → Option (Bool × Unit)
  | 0 => fun _ _ _ => none
  | n + 1 => laws_eqBitS.b0 k (laws_eqBitS.l0 k n)
def laws_eqBitS.t (k : Nat) (L0 : List (Ty.den TBit) → List (Ty.den TBit) → Int → Option (Bool × Unit)) (a0 : List (Ty.den TBit)) (a1 : List (Ty.den TBit)) : Option (Bool × Unit) :=
  (bif ((List.length a0 : Int) != (List.length a1 : Int)) then
  (some (false, ()))
  else
  (L0 a0 a1 0))
def laws_eqBitS.f (k : Nat) (a0 : List (Ty.den TBit)) (a1 : List (Ty.den TBit)) : Option (Bool × Unit) := laws_eqBitS.t k (laws_eqBitS.l0 k k) a0 a1
def laws_eqParcel.t (k : Nat) (a0 : Ty.den TParcel) (a1 : Ty.den TParcel) : Option (Bool × Unit) :=
  (bif (a0.1 != a1.1) then
  (some (false, ()))
  else
  (Option.bind (laws_eqBitS.f k a0.2.1 a1.2.1) fun r1 =>
  (bif (!r1.1) then
  (some (false, ()))
  else
  (some (true, ())))))
def laws_eqParcel.f (k : Nat) (a0 : Ty.den TParcel) (a1 : Ty.den TParcel) : Option (Bool × Unit) := laws_eqParcel.t k a0 a1
def laws_markPieceS.b0 (k : Nat) (a0 : List (Ty.den TPiece)) (a1 : Int) (L0 : Int → Int → List (Ty.den TPiece) → Option ((List (Ty.den TPiece)) × Int × Unit)) (x0_0 : Int) (x0_1 : Int) (x0_2 : List (Ty.den TPiece)) : Option ((List (Ty.den TPiece)) × Int × Unit) :=
  (bif (decide (x0_1 < (List.length x0_2 : Int))) then
  (inb x0_1 (List.length x0_2 : Int)
  (let l1 := (List.set x0_2 (Int.toNat x0_1) (x0_0, (List.getD x0_2 (Int.toNat x0_1) (Ty.dflt TPiece)).2));
  (Option.bind (laws_markText.f k (w64 (x0_0 + 1))) fun r2 =>
  (inb x0_1 (List.length l1 : Int)
  (let l3 := (List.set l1 (Int.toNat x0_1) ((List.getD l1 (Int.toNat x0_1) (Ty.dflt TPiece)).1, r2));
  (L0 (w64 ((w64 (x0_0 + 1)) + 1)) (w64 (x0_1 + 1)) l3))))))
  else
  (some (x0_2, (x0_0, ()))))
def laws_markPieceS.l0 (k : Nat) (a0 : List (Ty.den TPiece)) (a1 : Int) : Nat → Int → Int → List (Ty.den TPiece) → Option ((List (Ty.den TPiece)) × Int × Unit)
  | 0 => fun _ _ _ => none
  | n + 1 => laws_markPieceS.b0 k a0 a1 (laws_markPieceS.l0 k a0 a1 n)
def laws_markPieceS.t (k : Nat) (L0 : Int → Int → List (Ty.den TPiece) → Option ((List (Ty.den TPiece)) × Int × Unit)) (a0 : List (Ty.den TPiece)) (a1 : Int) : Option ((List (Ty.den TPiece)) × Int × Unit) :=
  (L0 a1 0 a0)
def laws_markPieceS.f (k : Nat) (a0 : List (Ty.den TPiece)) (a1 : Int) : Option ((List (Ty.den TPiece)) × Int × Unit) := laws_markPieceS.t k (laws_markPieceS.l0 k a0 a1 k) a0 a1
def laws_markFollower.t (k : Nat) (a0 : Ty.den TFollower) (a1 : Int) : Option ((Ty.den TFollower) × Int × Unit) :=
  (Option.bind (laws_markPieceS.f k a0.2.1 a1) fun r1 =>
  (some ((a0.1, (r1.1, ())), r1.2)))
def laws_markFollower.f (k : Nat) (a0 : Ty.den TFollower) (a1 : Int) : Option ((Ty.den TFollower) × Int × Unit) := laws_markFollower.t k a0 a1
def laws_markBitS.b0 (k : Nat) (a0 : List (Ty.den TBit)) (a1 : Int) (L0 : Int → Int → List (Ty.den TBit) → Option ((List (Ty.den TBit)) × Int × Unit)) (x0_0 : Int) (x0_1 : Int) (x0_2 : List (Ty.den TBit)) : Option ((List (Ty.den TBit)) × Int × Unit) :=
  (bif (decide (x0_1 < (List.length x0_2 : Int))) then
  (inb x0_1 (List.length x0_2 : Int)
  (let l1 := (List.set x0_2 (Int.toNat x0_1) (x0_0, (List.getD x0_2 (Int.toNat x0_1) (Ty.dflt TBit)).2));
  (inb x0_1 (List.length l1 : Int)
  (let l2 := (List.set l1 (Int.toNat x0_1) ((List.getD l1 (Int.toNat x0_1) (Ty.dflt TBit)).1, ((w64 (x0_0 + 1)), (List.getD l1 (Int.toNat x0_1) (Ty.dflt TBit)).2.2)));
  (Option.bind (laws_markText.f k (w64 ((w64 (x0_0 + 1)) + 1))) fun r3 =>
  (inb x0_1 (List.length l2 : Int)
  (let l4 := (List.set l2 (Int.toNat x0_1) ((List.getD l2 (Int.toNat x0_1) (Ty.dflt TBit)).1, ((List.getD l2 (Int.toNat x0_1) (Ty.dflt TBit)).2.1, r3)));
  (L0 (w64 ((w64 ((w64 (x0_0 + 1)) + 1)) + 1)) (w64 (x0_1 + 1)) l4))))))))
  else
  (some (x0_2, (x0_0, ()))))
def laws_markBitS.l0 (k : Nat) (a0 : List (Ty.den TBit)) (a1 : Int) : Nat → Int → Int → List (Ty.den TBit) → Option ((List (Ty.den TBit)) × Int × Unit)
  | 0 => fun _ _ _ => none
  | n + 1 => laws_markBitS.b0 k a0 a1 (laws_markBitS.l0 k a0 a1 n)
def laws_markBitS.t (k : Nat) (L0 : Int → Int → List (Ty.den TBit) → Option ((List (Ty.den TBit)) × Int × Unit)) (a0 : List (Ty.den TBit)) (a1 : Int) : Option ((List (Ty.den TBit)) × Int × Unit) :=
  (L0 a1 0 a0)
def laws_markBitS.f (k : Nat) (a0 : List (Ty.den TBit)) (a1 : Int) : Option ((List (Ty.den TBit)) × Int × Unit) := laws_markBitS.t k (laws_markBitS.l0 k a0 a1 k) a0 a1
def laws_markParcel.t (k : Nat) (a0 : Ty.den TParcel) (a1 : Int) : Option ((Ty.den TParcel) × Int × Unit) :=
  (Option.bind (laws_markBitS.f k a0.2.1 a1) fun r1 =>
  (some ((a0.1, (r1.1, ())), r1.2)))
def laws_markParcel.f (k : Nat) (a0 : Ty.den TParcel) (a1 : Int) : Option ((Ty.den TParcel) × Int × Unit) := laws_markParcel.t k a0 a1
def laws_heldPieceS.b0 (k : Nat) (L0 : List (Ty.den TPiece) → Int → Int → Option (Int × Unit)) (x0_0 : List (Ty.den TPiece)) (x0_1 : Int) (x0_2 : Int) : Option (Int × Unit) :=
  (bif (decide (x0_2 < (List.length x0_0 : Int))) then
  (inb x0_2 (List.length x0_0 : Int)
  (bif ((List.getD x0_0 (Int.toNat x0_2) (Ty.dflt TPiece)).1 != x0_1) then
  (some ((-1), ()))
  else
  (inb x0_2 (List.length x0_0 : Int)
  (Option.bind (laws_markText.f k (w64 (x0_1 + 1))) fun r1 =>
  (bif (!(seq (List.getD x0_0 (Int.toNat x0_2) (Ty.dflt TPiece)).2.1 r1.1)) then
  (some ((-1), ()))
  else
  (L0 x0_0 (w64 ((w64 (x0_1 + 1)) + 1)) (w64 (x0_2 + 1))))))))
  else
  (some (x0_1, ())))
def laws_heldPieceS.l0 (k : Nat) : Nat → List (Ty.den TPiece) → Int → Int → Option (Int × Unit)
  | 0 => fun _ _ _ => none
  | n + 1 => laws_heldPieceS.b0 k (laws_heldPieceS.l0 k n)
def laws_heldPieceS.t (k : Nat) (L0 : List (Ty.den TPiece) → Int → Int → Option (Int × Unit)) (a0 : List (Ty.den TPiece)) (a1 : Int) : Option (Int × Unit) :=
  (L0 a0 a1 0)
def laws_heldPieceS.f (k : Nat) (a0 : List (Ty.den TPiece)) (a1 : Int) : Option (Int × Unit) := laws_heldPieceS.t k (laws_heldPieceS.l0 k k) a0 a1
def laws_heldFollower.t (k : Nat) (a0 : Ty.den TFollower) (a1 : Int) : Option (Int × Unit) :=
  (Option.bind (laws_heldPieceS.f k a0.2.1 a1) fun r1 =>
  (bif (decide (r1.1 < 0)) then
  (some ((-1), ()))
  else
  (some r1)))
def laws_heldFollower.f (k : Nat) (a0 : Ty.den TFollower) (a1 : Int) : Option (Int × Unit) := laws_heldFollower.t k a0 a1
def laws_FnExactReceive.t (k : Nat) (a0 : Ty.den TFollower) (a1 : Ty.den TParcel) : Option (Bool × Unit) :=
  (Option.bind (laws_szFollower.f k a0 1048576) fun r1 =>
  (bif (decide (r1.1 < 0)) then
  (some (true, ()))
  else
  (Option.bind (laws_szParcel.f k a1 r1.1) fun r2 =>
  (bif (decide (r2.1 < 0)) then
  (some (true, ()))
  else
  (Option.bind (laws_toFollower.f k a0) fun r3 =>
  (Option.bind (laws_toParcel.f k a1) fun r4 =>
  (Option.bind (spec_Receive.f k r3.1 r4.1) fun r5 =>
  (Option.bind (laws_toFollower.f k a0) fun r6 =>
  (Option.bind (laws_toParcel.f k a1) fun r7 =>
  (Option.bind (impl_Receive.f k r6.1 r7.1) fun r8 =>
  (Option.bind (laws_eqFollower.f k r8.1 r5.1) fun r9 =>
  (bif (!r9.1) then
  (some (false, ()))
  else
  (bif (!(r8.2.1 == r5.2.1)) then
  (some (false, ()))
  else
  (Option.bind (laws_toFollower.f k a0) fun r10 =>
  (Option.bind (laws_eqFollower.f k r6.1 r10.1) fun r11 =>
  (bif (!r11.1) then
  (some (false, ()))
  else
  (Option.bind (laws_toParcel.f k a1) fun r12 =>
  (Option.bind (laws_eqParcel.f k r7.1 r12.1) fun r13 =>
  (bif (!r13.1) then
  (some (false, ()))
  else
  (Option.bind (laws_markFollower.f k r6.1 1) fun r14 =>
  (Option.bind (laws_markParcel.f k r7.1 r14.2.1) fun r15 =>
  (bif (decide (r15.2.1 < 0)) then
  (some (false, ()))
  else
  (Option.bind (laws_eqFollower.f k r8.1 r5.1) fun r16 =>
  (bif (!r16.1) then
  (some (false, ()))
  else
  (bif (!(r8.2.1 == r5.2.1)) then
  (some (false, ()))
  else
  (Option.bind (laws_markFollower.f k r8.1 1) fun r17 =>
  (Option.bind (laws_heldFollower.f k (r8.1.1, r17.1.2) 1) fun r18 =>
  (bif (decide (r18.1 < 0)) then
  (some (false, ()))
  else
  (bif (r18.1 != r17.2.1) then
  (some (false, ()))
  else
  (Option.bind (laws_toFollower.f k a0) fun r19 =>
  (Option.bind (laws_toParcel.f k a1) fun r20 =>
  (Option.bind (impl_Receive.f k r19.1 r20.1) fun r21 =>
  (Option.bind (laws_eqFollower.f k r21.1 r5.1) fun r22 =>
  (bif (!r22.1) then
  (some (false, ()))
  else
  (bif (!(r21.2.1 == r5.2.1)) then
  (some (false, ()))
  else
  (Option.bind (laws_heldFollower.f k (r8.1.1, r17.1.2) 1) fun r23 =>
  (bif (decide (r23.1 < 0)) then
  (some (false, ()))
  else
  (bif (r23.1 != r17.2.1) then
  (some (false, ()))
  else
  (some (true, ()))))))))))))))))))))))))))))))))))))))))
def laws_FnExactReceive.f (k : Nat) (a0 : Ty.den TFollower) (a1 : Ty.den TParcel) : Option (Bool × Unit) := laws_FnExactReceive.t k a0 a1
def spec_KeyOk.t (k : Nat) (a0 : ByteArray) : Option (Bool × Unit) :=
  (Option.bind (spec_l1In.f k (ByteArray.size a0 : Int) 1 8) fun r1 =>
  (some r1))
def spec_KeyOk.f (k : Nat) (a0 : ByteArray) : Option (Bool × Unit) := spec_KeyOk.t k a0
def spec_PairsOk.b0 (k : Nat) (L0 : List (Ty.den TPair) → Int → Option (Bool × Unit)) (x0_0 : List (Ty.den TPair)) (x0_1 : Int) : Option (Bool × Unit) :=
  (bif (decide (x0_1 < (List.length x0_0 : Int))) then
  (inb x0_1 (List.length x0_0 : Int)
  (Option.bind (spec_KeyOk.f k (List.getD x0_0 (Int.toNat x0_1) (Ty.dflt TPair)).1) fun r1 =>
  (bif (!r1.1) then
  (some (false, ()))
  else
  (inb x0_1 (List.length x0_0 : Int)
  (bif (decide ((ByteArray.size (List.getD x0_0 (Int.toNat x0_1) (Ty.dflt TPair)).2.1 : Int) > 24)) then
  (some (false, ()))
  else
  (inb x0_1 (List.length x0_0 : Int)
  (Option.bind (spec_l1In.f k (List.getD x0_0 (Int.toNat x0_1) (Ty.dflt TPair)).2.2.1 1 1000000) fun r2 =>
  (bif (!r2.1) then
  (some (false, ()))
  else
  (bif (decide (x0_1 > 0)) then
  (inb x0_1 (List.length x0_0 : Int)
  (inb (w64 (x0_1 - 1)) (List.length x0_0 : Int)
  (bif ((sls (List.getD x0_0 (Int.toNat x0_1) (Ty.dflt TPair)).1 (List.getD x0_0 (Int.toNat (w64 (x0_1 - 1))) (Ty.dflt TPair)).1) || (seq (List.getD x0_0 (Int.toNat x0_1) (Ty.dflt TPair)).1 (List.getD x0_0 (Int.toNat (w64 (x0_1 - 1))) (Ty.dflt TPair)).1)) then
  (some (false, ()))
  else
  (L0 x0_0 (w64 (x0_1 + 1))))))
  else
  (L0 x0_0 (w64 (x0_1 + 1))))))))))))
  else
  (some (true, ())))
def spec_PairsOk.l0 (k : Nat) : Nat → List (Ty.den TPair) → Int → Option (Bool × Unit)
  | 0 => fun _ _ => none
  | n + 1 => spec_PairsOk.b0 k (spec_PairsOk.l0 k n)
def spec_PairsOk.t (k : Nat) (L0 : List (Ty.den TPair) → Int → Option (Bool × Unit)) (a0 : List (Ty.den TPair)) : Option (Bool × Unit) :=
  (bif (decide ((List.length a0 : Int) > 20)) then
  (some (false, ()))
  else
  (L0 a0 0))
def spec_PairsOk.f (k : Nat) (a0 : List (Ty.den TPair)) : Option (Bool × Unit) := spec_PairsOk.t k (spec_PairsOk.l0 k k) a0
def spec_l14Keep.t (k : Nat) (a0 : Ty.den TPair) : Option ((Ty.den TRec) × Unit) :=
  (some ((4, (a0.2.2.1, (a0.1, (a0.2.1, (0, (0, ())))))), ()))
def spec_l14Keep.f (k : Nat) (a0 : Ty.den TPair) : Option ((Ty.den TRec) × Unit) := spec_l14Keep.t k a0
def spec_RecOk.t (k : Nat) (a0 : Ty.den TRec) : Option (Bool × Unit) :=
  (Option.bind (spec_l1In.f k a0.2.1 0 1000000) fun r1 =>
  (bif (!r1.1) then
  (some (false, ()))
  else
  (bif (a0.2.1 == 0) then
  (bif (a0.1 != 5) then
  (some (false, ()))
  else
  (bif (a0.1 == 1) then
  (bif (a0.1 == 1) then
  (Option.bind (spec_KeyOk.f k a0.2.2.1) fun r2 =>
  (bif r2.1 then
  (bif (decide ((ByteArray.size a0.2.2.2.1 : Int) ≤ 24)) then
  (bif (a0.2.2.2.2.1 == 0) then
  (some ((a0.2.2.2.2.2.1 == 0), ()))
  else
  (some (false, ())))
  else
  (some (false, ())))
  else
  (some (false, ()))))
  else
  (bif (a0.1 == 2) then
  (Option.bind (spec_KeyOk.f k a0.2.2.1) fun r3 =>
  (bif r3.1 then
  (bif (seq a0.2.2.2.1 (⟨#[]⟩ : ByteArray)) then
  (bif (a0.2.2.2.2.1 == 0) then
  (some ((a0.2.2.2.2.2.1 == 0), ()))
  else
  (some (false, ())))
  else
  (some (false, ())))
  else
  (some (false, ()))))
  else
  (bif (a0.1 == 3) then
  (bif (seq a0.2.2.1 (⟨#[]⟩ : ByteArray)) then
  (bif (seq a0.2.2.2.1 (⟨#[]⟩ : ByteArray)) then
  (Option.bind (spec_l1In.f k a0.2.2.2.2.1 0 8) fun r4 =>
  (bif r4.1 then
  (Option.bind (spec_l1In.f k a0.2.2.2.2.2.1 0 4294967295) fun r5 =>
  (some r5))
  else
  (some (false, ()))))
  else
  (some (false, ())))
  else
  (some (false, ())))
  else
  (bif (a0.1 == 5) then
  (bif (seq a0.2.2.1 (⟨#[]⟩ : ByteArray)) then
  (bif (seq a0.2.2.2.1 (⟨#[]⟩ : ByteArray)) then
  (Option.bind (spec_l1In.f k a0.2.2.2.2.1 0 20) fun r6 =>
  (bif r6.1 then
  (Option.bind (spec_l1In.f k a0.2.2.2.2.2.1 0 4294967295) fun r7 =>
  (some r7))
  else
  (some (false, ()))))
  else
  (some (false, ())))
  else
  (some (false, ())))
  else
  (some (false, ()))))))
  else
  (bif (a0.1 == 4) then
  (Option.bind (spec_KeyOk.f k a0.2.2.1) fun r8 =>
  (bif r8.1 then
  (bif (decide ((ByteArray.size a0.2.2.2.1 : Int) ≤ 24)) then
  (bif (a0.2.2.2.2.1 == 0) then
  (some ((a0.2.2.2.2.2.1 == 0), ()))
  else
  (some (false, ())))
  else
  (some (false, ())))
  else
  (some (false, ()))))
  else
  (bif (a0.1 == 2) then
  (Option.bind (spec_KeyOk.f k a0.2.2.1) fun r9 =>
  (bif r9.1 then
  (bif (seq a0.2.2.2.1 (⟨#[]⟩ : ByteArray)) then
  (bif (a0.2.2.2.2.1 == 0) then
  (some ((a0.2.2.2.2.2.1 == 0), ()))
  else
  (some (false, ())))
  else
  (some (false, ())))
  else
  (some (false, ()))))
  else
  (bif (a0.1 == 3) then
  (bif (seq a0.2.2.1 (⟨#[]⟩ : ByteArray)) then
  (bif (seq a0.2.2.2.1 (⟨#[]⟩ : ByteArray)) then
  (Option.bind (spec_l1In.f k a0.2.2.2.2.1 0 8) fun r10 =>
  (bif r10.1 then
  (Option.bind (spec_l1In.f k a0.2.2.2.2.2.1 0 4294967295) fun r11 =>
  (some r11))
  else
  (some (false, ()))))
  else
  (some (false, ())))
  else
  (some (false, ())))
  else
  (bif (a0.1 == 5) then
  (bif (seq a0.2.2.1 (⟨#[]⟩ : ByteArray)) then
  (bif (seq a0.2.2.2.1 (⟨#[]⟩ : ByteArray)) then
  (Option.bind (spec_l1In.f k a0.2.2.2.2.1 0 20) fun r12 =>
  (bif r12.1 then
  (Option.bind (spec_l1In.f k a0.2.2.2.2.2.1 0 4294967295) fun r13 =>
  (some r13))
  else
  (some (false, ()))))
  else
  (some (false, ())))
  else
  (some (false, ())))
  else
  (some (false, ()))))))))
  else
  (bif (a0.1 == 1) then
  (bif (a0.1 == 1) then
  (Option.bind (spec_KeyOk.f k a0.2.2.1) fun r14 =>
  (bif r14.1 then
  (bif (decide ((ByteArray.size a0.2.2.2.1 : Int) ≤ 24)) then
  (bif (a0.2.2.2.2.1 == 0) then
  (some ((a0.2.2.2.2.2.1 == 0), ()))
  else
  (some (false, ())))
  else
  (some (false, ())))
  else
  (some (false, ()))))
  else
  (bif (a0.1 == 2) then
  (Option.bind (spec_KeyOk.f k a0.2.2.1) fun r15 =>
  (bif r15.1 then
  (bif (seq a0.2.2.2.1 (⟨#[]⟩ : ByteArray)) then
  (bif (a0.2.2.2.2.1 == 0) then
  (some ((a0.2.2.2.2.2.1 == 0), ()))
  else
  (some (false, ())))
  else
  (some (false, ())))
  else
  (some (false, ()))))
  else
  (bif (a0.1 == 3) then
  (bif (seq a0.2.2.1 (⟨#[]⟩ : ByteArray)) then
  (bif (seq a0.2.2.2.1 (⟨#[]⟩ : ByteArray)) then
  (Option.bind (spec_l1In.f k a0.2.2.2.2.1 0 8) fun r16 =>
  (bif r16.1 then
  (Option.bind (spec_l1In.f k a0.2.2.2.2.2.1 0 4294967295) fun r17 =>
  (some r17))
  else
  (some (false, ()))))
  else
  (some (false, ())))
  else
  (some (false, ())))
  else
  (bif (a0.1 == 5) then
  (bif (seq a0.2.2.1 (⟨#[]⟩ : ByteArray)) then
  (bif (seq a0.2.2.2.1 (⟨#[]⟩ : ByteArray)) then
  (Option.bind (spec_l1In.f k a0.2.2.2.2.1 0 20) fun r18 =>
  (bif r18.1 then
  (Option.bind (spec_l1In.f k a0.2.2.2.2.2.1 0 4294967295) fun r19 =>
  (some r19))
  else
  (some (false, ()))))
  else
  (some (false, ())))
  else
  (some (false, ())))
  else
  (some (false, ()))))))
  else
  (bif (a0.1 == 4) then
  (Option.bind (spec_KeyOk.f k a0.2.2.1) fun r20 =>
  (bif r20.1 then
  (bif (decide ((ByteArray.size a0.2.2.2.1 : Int) ≤ 24)) then
  (bif (a0.2.2.2.2.1 == 0) then
  (some ((a0.2.2.2.2.2.1 == 0), ()))
  else
  (some (false, ())))
  else
  (some (false, ())))
  else
  (some (false, ()))))
  else
  (bif (a0.1 == 2) then
  (Option.bind (spec_KeyOk.f k a0.2.2.1) fun r21 =>
  (bif r21.1 then
  (bif (seq a0.2.2.2.1 (⟨#[]⟩ : ByteArray)) then
  (bif (a0.2.2.2.2.1 == 0) then
  (some ((a0.2.2.2.2.2.1 == 0), ()))
  else
  (some (false, ())))
  else
  (some (false, ())))
  else
  (some (false, ()))))
  else
  (bif (a0.1 == 3) then
  (bif (seq a0.2.2.1 (⟨#[]⟩ : ByteArray)) then
  (bif (seq a0.2.2.2.1 (⟨#[]⟩ : ByteArray)) then
  (Option.bind (spec_l1In.f k a0.2.2.2.2.1 0 8) fun r22 =>
  (bif r22.1 then
  (Option.bind (spec_l1In.f k a0.2.2.2.2.2.1 0 4294967295) fun r23 =>
  (some r23))
  else
  (some (false, ()))))
  else
  (some (false, ())))
  else
  (some (false, ())))
  else
  (bif (a0.1 == 5) then
  (bif (seq a0.2.2.1 (⟨#[]⟩ : ByteArray)) then
  (bif (seq a0.2.2.2.1 (⟨#[]⟩ : ByteArray)) then
  (Option.bind (spec_l1In.f k a0.2.2.2.2.1 0 20) fun r24 =>
  (bif r24.1 then
  (Option.bind (spec_l1In.f k a0.2.2.2.2.2.1 0 4294967295) fun r25 =>
  (some r25))
  else
  (some (false, ()))))
  else
  (some (false, ())))
  else
  (some (false, ())))
  else
  (some (false, ()))))))))))
def spec_RecOk.f (k : Nat) (a0 : Ty.den TRec) : Option (Bool × Unit) := spec_RecOk.t k a0
def spec_Var.b0 (k : Nat) (L0 : Int → List Int → Option (ByteArray × Unit)) (x0_0 : Int) (x0_1 : List Int) : Option (ByteArray × Unit) :=
  (bif (decide (x0_0 ≥ 128)) then
  (rm (Ty.bytes (.int .u8)) (List.length x0_1 + 1)
  (L0 (w64 (Int.tdiv x0_0 128)) (x0_1 ++ [(IntKind.wrap .u8 (w64 (128 + (Int.tmod x0_0 128))))])))
  else
  (rm (Ty.bytes (.int .u8)) (List.length x0_1 + 1)
  (some ((bytesOf (x0_1 ++ [(IntKind.wrap .u8 x0_0)])), ()))))
def spec_Var.l0 (k : Nat) : Nat → Int → List Int → Option (ByteArray × Unit)
  | 0 => fun _ _ => none
  | n + 1 => spec_Var.b0 k (spec_Var.l0 k n)
def spec_Var.t (k : Nat) (L0 : Int → List Int → Option (ByteArray × Unit)) (a0 : Int) : Option (ByteArray × Unit) :=
  (Option.bind (spec_l1In.f k a0 0 562949953421311) fun r1 =>
  (bif (!r1.1) then
  (some ((⟨#[]⟩ : ByteArray), ()))
  else
  (L0 a0 [])))
def spec_Var.f (k : Nat) (a0 : Int) : Option (ByteArray × Unit) := spec_Var.t k (spec_Var.l0 k k) a0
def spec_Fixed.b0 (k : Nat) (L0 : Int → Int → ByteArray → Int → Option (ByteArray × Unit)) (x0_0 : Int) (x0_1 : Int) (x0_2 : ByteArray) (x0_3 : Int) : Option (ByteArray × Unit) :=
  (bif (decide (x0_3 < x0_1)) then
  (cat (bytesOf [(IntKind.wrap .u8 (Int.tmod x0_0 256))]) x0_2
  (L0 (w64 (Int.tdiv x0_0 256)) x0_1 ((bytesOf [(IntKind.wrap .u8 (Int.tmod x0_0 256))]) ++ x0_2) (w64 (x0_3 + 1))))
  else
  (bif (decide (x0_0 > 0)) then
  (some ((⟨#[]⟩ : ByteArray), ()))
  else
  (some (x0_2, ()))))
def spec_Fixed.l0 (k : Nat) : Nat → Int → Int → ByteArray → Int → Option (ByteArray × Unit)
  | 0 => fun _ _ _ _ => none
  | n + 1 => spec_Fixed.b0 k (spec_Fixed.l0 k n)
def spec_Fixed.t (k : Nat) (L0 : Int → Int → ByteArray → Int → Option (ByteArray × Unit)) (a0 : Int) (a1 : Int) : Option (ByteArray × Unit) :=
  (Option.bind (spec_l1In.f k a1 1 7) fun r1 =>
  (bif (!r1.1) then
  (some ((⟨#[]⟩ : ByteArray), ()))
  else
  (bif (decide (a0 < 0)) then
  (some ((⟨#[]⟩ : ByteArray), ()))
  else
  (L0 a0 a1 (⟨#[]⟩ : ByteArray) 0))))
def spec_Fixed.f (k : Nat) (a0 : Int) (a1 : Int) : Option (ByteArray × Unit) := spec_Fixed.t k (spec_Fixed.l0 k k) a0 a1
def spec_ShowRec.t (k : Nat) (a0 : Ty.den TRec) : Option (ByteArray × Unit) :=
  (Option.bind (spec_RecOk.f k a0) fun r1 =>
  (bif (!r1.1) then
  (some ((⟨#[]⟩ : ByteArray), ()))
  else
  (Option.bind (spec_Var.f k a0.1) fun r2 =>
  (Option.bind (spec_Var.f k a0.2.1) fun r3 =>
  (cat r2.1 r3.1
  (bif (a0.1 == 1) then
  (bif (a0.1 == 1) then
  (Option.bind (spec_Var.f k (ByteArray.size a0.2.2.1 : Int)) fun r4 =>
  (cat (r2.1 ++ r3.1) r4.1
  (cat ((r2.1 ++ r3.1) ++ r4.1) a0.2.2.1
  (Option.bind (spec_Var.f k (ByteArray.size a0.2.2.2.1 : Int)) fun r5 =>
  (cat (((r2.1 ++ r3.1) ++ r4.1) ++ a0.2.2.1) r5.1
  (cat ((((r2.1 ++ r3.1) ++ r4.1) ++ a0.2.2.1) ++ r5.1) a0.2.2.2.1
  (some ((((((r2.1 ++ r3.1) ++ r4.1) ++ a0.2.2.1) ++ r5.1) ++ a0.2.2.2.1), ()))))))))
  else
  (bif (a0.1 == 2) then
  (Option.bind (spec_Var.f k (ByteArray.size a0.2.2.1 : Int)) fun r6 =>
  (cat (r2.1 ++ r3.1) r6.1
  (cat ((r2.1 ++ r3.1) ++ r6.1) a0.2.2.1
  (some ((((r2.1 ++ r3.1) ++ r6.1) ++ a0.2.2.1), ())))))
  else
  (Option.bind (spec_Var.f k a0.2.2.2.2.1) fun r7 =>
  (cat (r2.1 ++ r3.1) r7.1
  (Option.bind (spec_Fixed.f k a0.2.2.2.2.2.1 4) fun r8 =>
  (cat ((r2.1 ++ r3.1) ++ r7.1) r8.1
  (some ((((r2.1 ++ r3.1) ++ r7.1) ++ r8.1), ()))))))))
  else
  (bif (a0.1 == 4) then
  (Option.bind (spec_Var.f k (ByteArray.size a0.2.2.1 : Int)) fun r9 =>
  (cat (r2.1 ++ r3.1) r9.1
  (cat ((r2.1 ++ r3.1) ++ r9.1) a0.2.2.1
  (Option.bind (spec_Var.f k (ByteArray.size a0.2.2.2.1 : Int)) fun r10 =>
  (cat (((r2.1 ++ r3.1) ++ r9.1) ++ a0.2.2.1) r10.1
  (cat ((((r2.1 ++ r3.1) ++ r9.1) ++ a0.2.2.1) ++ r10.1) a0.2.2.2.1
  (some ((((((r2.1 ++ r3.1) ++ r9.1) ++ a0.2.2.1) ++ r10.1) ++ a0.2.2.2.1), ()))))))))
  else
  (bif (a0.1 == 2) then
  (Option.bind (spec_Var.f k (ByteArray.size a0.2.2.1 : Int)) fun r11 =>
  (cat (r2.1 ++ r3.1) r11.1
  (cat ((r2.1 ++ r3.1) ++ r11.1) a0.2.2.1
  (some ((((r2.1 ++ r3.1) ++ r11.1) ++ a0.2.2.1), ())))))
  else
  (Option.bind (spec_Var.f k a0.2.2.2.2.1) fun r12 =>
  (cat (r2.1 ++ r3.1) r12.1
  (Option.bind (spec_Fixed.f k a0.2.2.2.2.2.1 4) fun r13 =>
  (cat ((r2.1 ++ r3.1) ++ r12.1) r13.1
  (some ((((r2.1 ++ r3.1) ++ r12.1) ++ r13.1), ()))))))))))))))
def spec_ShowRec.f (k : Nat) (a0 : Ty.den TRec) : Option (ByteArray × Unit) := spec_ShowRec.t k a0
def spec_Crc.b1 (k : Nat) (L0 : ByteArray → Int → Int → Option (Int × Unit)) (L1 : ByteArray → Int → Int → Int → Option (Int × Unit)) (x1_0 : ByteArray) (x1_1 : Int) (x1_2 : Int) (x1_3 : Int) : Option (Int × Unit) :=
  (bif (decide (x1_3 < 8)) then
  (bif ((Int.tmod x1_1 2) == 1) then
  (L1 x1_0 (w64 (((BitVec.ofInt (IntKind.bits .i64) (w64 (Int.tdiv x1_1 2)) ^^^ BitVec.ofInt (IntKind.bits .i64) 2197175160).toNat : Int))) x1_2 (w64 (x1_3 + 1)))
  else
  (L1 x1_0 (w64 (Int.tdiv x1_1 2)) x1_2 (w64 (x1_3 + 1))))
  else
  (L0 x1_0 x1_1 (w64 (x1_2 + 1))))
def spec_Crc.l1 (k : Nat) (L0 : ByteArray → Int → Int → Option (Int × Unit)) : Nat → ByteArray → Int → Int → Int → Option (Int × Unit)
  | 0 => fun _ _ _ _ => none
  | n + 1 => spec_Crc.b1 k L0 (spec_Crc.l1 k L0 n)
def spec_Crc.b0 (k : Nat) (L1 : ByteArray → Int → Int → Int → Option (Int × Unit)) (L0 : ByteArray → Int → Int → Option (Int × Unit)) (x0_0 : ByteArray) (x0_1 : Int) (x0_2 : Int) : Option (Int × Unit) :=
  (bif (decide (x0_2 < (ByteArray.size x0_0 : Int))) then
  (inb x0_2 (ByteArray.size x0_0 : Int)
  (L1 x0_0 (w64 (((BitVec.ofInt (IntKind.bits .i64) x0_1 ^^^ BitVec.ofInt (IntKind.bits .i64) (w64 (byteAt x0_0 x0_2))).toNat : Int))) x0_2 0))
  else
  (some ((w64 (4294967295 - x0_1)), ())))
def spec_Crc.l0 (k : Nat) : Nat → ByteArray → Int → Int → Option (Int × Unit)
  | 0 => fun _ _ _ => none
  | n + 1 => spec_Crc.b0 k (spec_Crc.l1 k (spec_Crc.l0 k n) k) (spec_Crc.l0 k n)
def spec_Crc.t (k : Nat) (L0 : ByteArray → Int → Int → Option (Int × Unit)) (a0 : ByteArray) : Option (Int × Unit) :=
  (L0 a0 4294967295 0)
def spec_Crc.f (k : Nat) (a0 : ByteArray) : Option (Int × Unit) := spec_Crc.t k (spec_Crc.l0 k k) a0
def spec_Frame.t (k : Nat) (a0 : ByteArray) : Option (ByteArray × Unit) :=
  (bif (decide ((ByteArray.size a0 : Int) > 200)) then
  (some ((⟨#[]⟩ : ByteArray), ()))
  else
  (Option.bind (spec_Var.f k (ByteArray.size a0 : Int)) fun r1 =>
  (cat r1.1 a0
  (Option.bind (spec_Crc.f k (r1.1 ++ a0)) fun r2 =>
  (Option.bind (spec_Fixed.f k r2.1 4) fun r3 =>
  (cat r3.1 (r1.1 ++ a0)
  (some ((r3.1 ++ (r1.1 ++ a0)), ()))))))))
def spec_Frame.f (k : Nat) (a0 : ByteArray) : Option (ByteArray × Unit) := spec_Frame.t k a0
def spec_SumOf.b0 (k : Nat) (L0 : List (Ty.den TRec) → ByteArray → Int → Option (Int × Unit)) (x0_0 : List (Ty.den TRec)) (x0_1 : ByteArray) (x0_2 : Int) : Option (Int × Unit) :=
  (bif (decide (x0_2 < (List.length x0_0 : Int))) then
  (inb x0_2 (List.length x0_0 : Int)
  (Option.bind (spec_ShowRec.f k (List.getD x0_0 (Int.toNat x0_2) (Ty.dflt TRec))) fun r1 =>
  (cat x0_1 r1.1
  (L0 x0_0 (x0_1 ++ r1.1) (w64 (x0_2 + 1))))))
  else
  (Option.bind (spec_Crc.f k x0_1) fun r2 =>
  (some r2)))
def spec_SumOf.l0 (k : Nat) : Nat → List (Ty.den TRec) → ByteArray → Int → Option (Int × Unit)
  | 0 => fun _ _ _ => none
  | n + 1 => spec_SumOf.b0 k (spec_SumOf.l0 k n)
def spec_SumOf.t (k : Nat) (L0 : List (Ty.den TRec) → ByteArray → Int → Option (Int × Unit)) (a0 : List (Ty.den TRec)) : Option (Int × Unit) :=
  (L0 a0 (⟨#[]⟩ : ByteArray) 0)
def spec_SumOf.f (k : Nat) (a0 : List (Ty.den TRec)) : Option (Int × Unit) := spec_SumOf.t k (spec_SumOf.l0 k k) a0
def spec_l9Seal.t (k : Nat) (a0 : List (Ty.den TRec)) (a1 : Int) (a2 : Int) : Option ((Ty.den TRec) × Unit) :=
  (Option.bind (spec_SumOf.f k a0) fun r1 =>
  (some ((a2, (a1, (ByteArray.empty, (ByteArray.empty, ((List.length a0 : Int), r1))))), ())))
def spec_l9Seal.f (k : Nat) (a0 : List (Ty.den TRec)) (a1 : Int) (a2 : Int) : Option ((Ty.den TRec) × Unit) := spec_l9Seal.t k a0 a1 a2
def spec_ShowPairs.b0 (k : Nat) (L0 : List (Ty.den TPair) → ByteArray → Int → List (Ty.den TRec) → Option (ByteArray × Unit)) (x0_0 : List (Ty.den TPair)) (x0_1 : ByteArray) (x0_2 : Int) (x0_3 : List (Ty.den TRec)) : Option (ByteArray × Unit) :=
  (bif (decide (x0_2 < (List.length x0_0 : Int))) then
  (inb x0_2 (List.length x0_0 : Int)
  (Option.bind (spec_l14Keep.f k (List.getD x0_0 (Int.toNat x0_2) (Ty.dflt TPair))) fun r2 =>
  (rm (Ty.bytes TRec) (List.length x0_3 + 1)
  (inb x0_2 (List.length x0_0 : Int)
  (Option.bind (spec_l14Keep.f k (List.getD x0_0 (Int.toNat x0_2) (Ty.dflt TPair))) fun r3 =>
  (Option.bind (spec_ShowRec.f k r3.1) fun r4 =>
  (Option.bind (spec_Frame.f k r4.1) fun r5 =>
  (cat x0_1 r5.1
  (L0 x0_0 (x0_1 ++ r5.1) (w64 (x0_2 + 1)) (x0_3 ++ [r2.1]))))))))))
  else
  (Option.bind (spec_l9Seal.f k x0_3 0 5) fun r6 =>
  (Option.bind (spec_ShowRec.f k r6.1) fun r7 =>
  (Option.bind (spec_Frame.f k r7.1) fun r8 =>
  (cat x0_1 r8.1
  (some ((x0_1 ++ r8.1), ())))))))
def spec_ShowPairs.l0 (k : Nat) : Nat → List (Ty.den TPair) → ByteArray → Int → List (Ty.den TRec) → Option (ByteArray × Unit)
  | 0 => fun _ _ _ _ => none
  | n + 1 => spec_ShowPairs.b0 k (spec_ShowPairs.l0 k n)
def spec_ShowPairs.t (k : Nat) (L0 : List (Ty.den TPair) → ByteArray → Int → List (Ty.den TRec) → Option (ByteArray × Unit)) (a0 : List (Ty.den TPair)) : Option (ByteArray × Unit) :=
  (Option.bind (spec_PairsOk.f k a0) fun r1 =>
  (bif (!r1.1) then
  (some ((⟨#[]⟩ : ByteArray), ()))
  else
  (L0 a0 (⟨#[]⟩ : ByteArray) 0 [])))
def spec_ShowPairs.f (k : Nat) (a0 : List (Ty.den TPair)) : Option (ByteArray × Unit) := spec_ShowPairs.t k (spec_ShowPairs.l0 k k) a0
def impl_KeyOk.t (k : Nat) (a0 : ByteArray) : Option (Bool × Unit) :=
  (Option.bind (impl_in.f k (ByteArray.size a0 : Int) 1 8) fun r1 =>
  (some r1))
def impl_KeyOk.f (k : Nat) (a0 : ByteArray) : Option (Bool × Unit) := impl_KeyOk.t k a0
def impl_PairsOk.b0 (k : Nat) (L0 : List (Ty.den TPair) → List (Ty.den TPair) → Int → Int → Option (Bool × Unit)) (x0_0 : List (Ty.den TPair)) (x0_1 : List (Ty.den TPair)) (x0_2 : Int) (x0_3 : Int) : Option (Bool × Unit) :=
  (bif (decide (x0_3 < x0_2)) then
  (inb x0_3 (List.length x0_1 : Int)
  (Option.bind (impl_KeyOk.f k (List.getD x0_1 (Int.toNat x0_3) (Ty.dflt TPair)).1) fun r1 =>
  (bif (!r1.1) then
  (some (false, ()))
  else
  (bif (decide ((ByteArray.size (List.getD x0_1 (Int.toNat x0_3) (Ty.dflt TPair)).2.1 : Int) > 24)) then
  (some (false, ()))
  else
  (Option.bind (impl_in.f k (List.getD x0_1 (Int.toNat x0_3) (Ty.dflt TPair)).2.2.1 1 1000000) fun r2 =>
  (bif (!r2.1) then
  (some (false, ()))
  else
  (bif (decide (x0_3 > 0)) then
  (inb (w64 (x0_3 - 1)) (List.length x0_0 : Int)
  (bif (!(sls (List.getD x0_0 (Int.toNat (w64 (x0_3 - 1))) (Ty.dflt TPair)).1 (List.getD x0_1 (Int.toNat x0_3) (Ty.dflt TPair)).1)) then
  (some (false, ()))
  else
  (L0 x0_0 x0_1 x0_2 (w64 (x0_3 + 1)))))
  else
  (L0 x0_0 x0_1 x0_2 (w64 (x0_3 + 1))))))))))
  else
  (some ((decide ((List.length x0_0 : Int) ≤ 20)), ())))
def impl_PairsOk.l0 (k : Nat) : Nat → List (Ty.den TPair) → List (Ty.den TPair) → Int → Int → Option (Bool × Unit)
  | 0 => fun _ _ _ _ => none
  | n + 1 => impl_PairsOk.b0 k (impl_PairsOk.l0 k n)
def impl_PairsOk.t (k : Nat) (L0 : List (Ty.den TPair) → List (Ty.den TPair) → Int → Int → Option (Bool × Unit)) (a0 : List (Ty.den TPair)) : Option (Bool × Unit) :=
  (L0 a0 a0 (List.length a0 : Int) 0)
def impl_PairsOk.f (k : Nat) (a0 : List (Ty.den TPair)) : Option (Bool × Unit) := impl_PairsOk.t k (impl_PairsOk.l0 k k) a0
def impl_RecOk.t (k : Nat) (a0 : Ty.den TRec) : Option (Bool × Unit) :=
  (bif (a0.1 == 1) then
  (bif (a0.1 == 1) then
  (Option.bind (impl_KeyOk.f k a0.2.2.1) fun r1 =>
  (bif r1.1 then
  (bif (decide ((ByteArray.size a0.2.2.2.1 : Int) ≤ 24)) then
  (Option.bind (impl_in.f k a0.2.1 1 1000000) fun r2 =>
  (bif r2.1 then
  (some (((a0.1 == a0.1) && ((a0.2.1 == a0.2.1) && ((seq a0.2.2.1 a0.2.2.1) && ((seq a0.2.2.2.1 a0.2.2.2.1) && ((a0.2.2.2.2.1 == 0) && (a0.2.2.2.2.2.1 == 0)))))), ()))
  else
  (some (false, ()))))
  else
  (some (false, ())))
  else
  (some (false, ()))))
  else
  (bif (a0.1 == 2) then
  (Option.bind (impl_KeyOk.f k a0.2.2.1) fun r3 =>
  (bif r3.1 then
  (Option.bind (impl_in.f k a0.2.1 1 1000000) fun r4 =>
  (bif r4.1 then
  (some (((a0.1 == a0.1) && ((a0.2.1 == a0.2.1) && ((seq a0.2.2.1 a0.2.2.1) && ((seq a0.2.2.2.1 ByteArray.empty) && ((a0.2.2.2.2.1 == 0) && (a0.2.2.2.2.2.1 == 0)))))), ()))
  else
  (some (false, ()))))
  else
  (some (false, ()))))
  else
  (bif (a0.1 == 3) then
  (Option.bind (impl_in.f k a0.2.2.2.2.1 0 8) fun r5 =>
  (bif r5.1 then
  (Option.bind (impl_in.f k a0.2.2.2.2.2.1 0 4294967295) fun r6 =>
  (bif r6.1 then
  (Option.bind (impl_in.f k a0.2.1 1 1000000) fun r7 =>
  (bif r7.1 then
  (some (((a0.1 == a0.1) && ((a0.2.1 == a0.2.1) && ((seq a0.2.2.1 ByteArray.empty) && ((seq a0.2.2.2.1 ByteArray.empty) && ((a0.2.2.2.2.1 == a0.2.2.2.2.1) && (a0.2.2.2.2.2.1 == a0.2.2.2.2.2.1)))))), ()))
  else
  (some (false, ()))))
  else
  (some (false, ()))))
  else
  (some (false, ()))))
  else
  (bif (a0.1 == 5) then
  (Option.bind (impl_in.f k a0.2.2.2.2.1 0 20) fun r8 =>
  (bif r8.1 then
  (Option.bind (impl_in.f k a0.2.2.2.2.2.1 0 4294967295) fun r9 =>
  (bif r9.1 then
  (Option.bind (impl_in.f k a0.2.1 0 1000000) fun r10 =>
  (bif r10.1 then
  (some (((a0.1 == a0.1) && ((a0.2.1 == a0.2.1) && ((seq a0.2.2.1 ByteArray.empty) && ((seq a0.2.2.2.1 ByteArray.empty) && ((a0.2.2.2.2.1 == a0.2.2.2.2.1) && (a0.2.2.2.2.2.1 == a0.2.2.2.2.2.1)))))), ()))
  else
  (some (false, ()))))
  else
  (some (false, ()))))
  else
  (some (false, ()))))
  else
  (some (false, ()))))))
  else
  (bif (a0.1 == 4) then
  (Option.bind (impl_KeyOk.f k a0.2.2.1) fun r11 =>
  (bif r11.1 then
  (bif (decide ((ByteArray.size a0.2.2.2.1 : Int) ≤ 24)) then
  (Option.bind (impl_in.f k a0.2.1 1 1000000) fun r12 =>
  (bif r12.1 then
  (some (((a0.1 == a0.1) && ((a0.2.1 == a0.2.1) && ((seq a0.2.2.1 a0.2.2.1) && ((seq a0.2.2.2.1 a0.2.2.2.1) && ((a0.2.2.2.2.1 == 0) && (a0.2.2.2.2.2.1 == 0)))))), ()))
  else
  (some (false, ()))))
  else
  (some (false, ())))
  else
  (some (false, ()))))
  else
  (bif (a0.1 == 2) then
  (Option.bind (impl_KeyOk.f k a0.2.2.1) fun r13 =>
  (bif r13.1 then
  (Option.bind (impl_in.f k a0.2.1 1 1000000) fun r14 =>
  (bif r14.1 then
  (some (((a0.1 == a0.1) && ((a0.2.1 == a0.2.1) && ((seq a0.2.2.1 a0.2.2.1) && ((seq a0.2.2.2.1 ByteArray.empty) && ((a0.2.2.2.2.1 == 0) && (a0.2.2.2.2.2.1 == 0)))))), ()))
  else
  (some (false, ()))))
  else
  (some (false, ()))))
  else
  (bif (a0.1 == 3) then
  (Option.bind (impl_in.f k a0.2.2.2.2.1 0 8) fun r15 =>
  (bif r15.1 then
  (Option.bind (impl_in.f k a0.2.2.2.2.2.1 0 4294967295) fun r16 =>
  (bif r16.1 then
  (Option.bind (impl_in.f k a0.2.1 1 1000000) fun r17 =>
  (bif r17.1 then
  (some (((a0.1 == a0.1) && ((a0.2.1 == a0.2.1) && ((seq a0.2.2.1 ByteArray.empty) && ((seq a0.2.2.2.1 ByteArray.empty) && ((a0.2.2.2.2.1 == a0.2.2.2.2.1) && (a0.2.2.2.2.2.1 == a0.2.2.2.2.2.1)))))), ()))
  else
  (some (false, ()))))
  else
  (some (false, ()))))
  else
  (some (false, ()))))
  else
  (bif (a0.1 == 5) then
  (Option.bind (impl_in.f k a0.2.2.2.2.1 0 20) fun r18 =>
  (bif r18.1 then
  (Option.bind (impl_in.f k a0.2.2.2.2.2.1 0 4294967295) fun r19 =>
  (bif r19.1 then
  (Option.bind (impl_in.f k a0.2.1 0 1000000) fun r20 =>
  (bif r20.1 then
  (some (((a0.1 == a0.1) && ((a0.2.1 == a0.2.1) && ((seq a0.2.2.1 ByteArray.empty) && ((seq a0.2.2.2.1 ByteArray.empty) && ((a0.2.2.2.2.1 == a0.2.2.2.2.1) && (a0.2.2.2.2.2.1 == a0.2.2.2.2.2.1)))))), ()))
  else
  (some (false, ()))))
  else
  (some (false, ()))))
  else
  (some (false, ()))))
  else
  (some (false, ())))))))
def impl_RecOk.f (k : Nat) (a0 : Ty.den TRec) : Option (Bool × Unit) := impl_RecOk.t k a0
def impl_Var.b0 (k : Nat) (L0 : Int → List Int → Option (ByteArray × Unit)) (x0_0 : Int) (x0_1 : List Int) : Option (ByteArray × Unit) :=
  (bif (decide (x0_0 > 127)) then
  (rm (Ty.bytes (.int .u8)) (List.length x0_1 + 1)
  (L0 (w64 (Int.tdiv x0_0 128)) (x0_1 ++ [(IntKind.wrap .u8 (w64 ((Int.tmod x0_0 128) + 128)))])))
  else
  (rm (Ty.bytes (.int .u8)) (List.length x0_1 + 1)
  (some ((bytesOf (x0_1 ++ [(IntKind.wrap .u8 x0_0)])), ()))))
def impl_Var.l0 (k : Nat) : Nat → Int → List Int → Option (ByteArray × Unit)
  | 0 => fun _ _ => none
  | n + 1 => impl_Var.b0 k (impl_Var.l0 k n)
def impl_Var.t (k : Nat) (L0 : Int → List Int → Option (ByteArray × Unit)) (a0 : Int) : Option (ByteArray × Unit) :=
  (Option.bind (impl_in.f k a0 0 562949953421311) fun r1 =>
  (bif (!r1.1) then
  (some ((⟨#[]⟩ : ByteArray), ()))
  else
  (L0 a0 [])))
def impl_Var.f (k : Nat) (a0 : Int) : Option (ByteArray × Unit) := impl_Var.t k (impl_Var.l0 k k) a0
def impl_vars.b0 (k : Nat) (L0 : ByteArray → List Int → Int → Int → Option (ByteArray × Unit)) (x0_0 : ByteArray) (x0_1 : List Int) (x0_2 : Int) (x0_3 : Int) : Option (ByteArray × Unit) :=
  (bif (decide (x0_3 < x0_2)) then
  (inb x0_3 (List.length x0_1 : Int)
  (Option.bind (impl_Var.f k (List.getD x0_1 (Int.toNat x0_3) (Ty.dflt (.int .i64)))) fun r1 =>
  (cat x0_0 r1.1
  (L0 (x0_0 ++ r1.1) x0_1 x0_2 (w64 (x0_3 + 1))))))
  else
  (some (x0_0, ())))
def impl_vars.l0 (k : Nat) : Nat → ByteArray → List Int → Int → Int → Option (ByteArray × Unit)
  | 0 => fun _ _ _ _ => none
  | n + 1 => impl_vars.b0 k (impl_vars.l0 k n)
def impl_vars.t (k : Nat) (L0 : ByteArray → List Int → Int → Int → Option (ByteArray × Unit)) (a0 : List Int) : Option (ByteArray × Unit) :=
  (L0 (⟨#[]⟩ : ByteArray) a0 (List.length a0 : Int) 0)
def impl_vars.f (k : Nat) (a0 : List Int) : Option (ByteArray × Unit) := impl_vars.t k (impl_vars.l0 k k) a0
def impl_textOf.t (k : Nat) (a0 : ByteArray) : Option (ByteArray × Unit) :=
  (Option.bind (impl_Var.f k (ByteArray.size a0 : Int)) fun r1 =>
  (cat r1.1 a0
  (some ((r1.1 ++ a0), ()))))
def impl_textOf.f (k : Nat) (a0 : ByteArray) : Option (ByteArray × Unit) := impl_textOf.t k a0
def impl_Fixed.b0 (k : Nat) (L0 : Int → Int → List Int → Option (ByteArray × Unit)) (x0_0 : Int) (x0_1 : Int) (x0_2 : List Int) : Option (ByteArray × Unit) :=
  (bif (decide (x0_1 ≥ 0)) then
  (bif (decide ((w64 (8 * x0_1)) < 0)) then none else
  (rm (Ty.bytes (.int .u8)) (List.length x0_2 + 1)
  (L0 x0_0 (w64 (x0_1 - 1)) (x0_2 ++ [(IntKind.wrap .u8 (Int.fdiv x0_0 (2 ^ (min (Int.toNat (w64 (8 * x0_1))) (IntKind.bits .i64)))))]))))
  else
  (some ((bytesOf x0_2), ())))
def impl_Fixed.l0 (k : Nat) : Nat → Int → Int → List Int → Option (ByteArray × Unit)
  | 0 => fun _ _ _ => none
  | n + 1 => impl_Fixed.b0 k (impl_Fixed.l0 k n)
def impl_Fixed.t (k : Nat) (L0 : Int → Int → List Int → Option (ByteArray × Unit)) (a0 : Int) (a1 : Int) : Option (ByteArray × Unit) :=
  (Option.bind (impl_in.f k a1 1 7) fun r1 =>
  (bif (!r1.1) then
  (some ((⟨#[]⟩ : ByteArray), ()))
  else
  (bif (decide ((w64 (8 * a1)) < 0)) then none else
  (Option.bind (impl_in.f k a0 0 (w64 ((w64 (1 * 2 ^ (min (Int.toNat (w64 (8 * a1))) (IntKind.bits .i64)))) - 1))) fun r2 =>
  (bif (!r2.1) then
  (some ((⟨#[]⟩ : ByteArray), ()))
  else
  (L0 a0 (w64 (a1 - 1)) []))))))
def impl_Fixed.f (k : Nat) (a0 : Int) (a1 : Int) : Option (ByteArray × Unit) := impl_Fixed.t k (impl_Fixed.l0 k k) a0 a1
def impl_ShowRec.t (k : Nat) (a0 : Ty.den TRec) : Option (ByteArray × Unit) :=
  (Option.bind (impl_RecOk.f k a0) fun r1 =>
  (bif (!r1.1) then
  (some ((⟨#[]⟩ : ByteArray), ()))
  else
  (Option.bind (impl_vars.f k [a0.1, a0.2.1]) fun r2 =>
  (bif (a0.1 == 1) then
  (bif (a0.1 == 1) then
  (Option.bind (impl_textOf.f k a0.2.2.1) fun r3 =>
  (cat r2.1 r3.1
  (Option.bind (impl_textOf.f k a0.2.2.2.1) fun r4 =>
  (cat (r2.1 ++ r3.1) r4.1
  (some (((r2.1 ++ r3.1) ++ r4.1), ()))))))
  else
  (bif (a0.1 == 2) then
  (Option.bind (impl_textOf.f k a0.2.2.1) fun r5 =>
  (cat r2.1 r5.1
  (some ((r2.1 ++ r5.1), ()))))
  else
  (Option.bind (impl_Var.f k a0.2.2.2.2.1) fun r6 =>
  (cat r2.1 r6.1
  (Option.bind (impl_Fixed.f k a0.2.2.2.2.2.1 4) fun r7 =>
  (cat (r2.1 ++ r6.1) r7.1
  (some (((r2.1 ++ r6.1) ++ r7.1), ()))))))))
  else
  (bif (a0.1 == 4) then
  (Option.bind (impl_textOf.f k a0.2.2.1) fun r8 =>
  (cat r2.1 r8.1
  (Option.bind (impl_textOf.f k a0.2.2.2.1) fun r9 =>
  (cat (r2.1 ++ r8.1) r9.1
  (some (((r2.1 ++ r8.1) ++ r9.1), ()))))))
  else
  (bif (a0.1 == 2) then
  (Option.bind (impl_textOf.f k a0.2.2.1) fun r10 =>
  (cat r2.1 r10.1
  (some ((r2.1 ++ r10.1), ()))))
  else
  (Option.bind (impl_Var.f k a0.2.2.2.2.1) fun r11 =>
  (cat r2.1 r11.1
  (Option.bind (impl_Fixed.f k a0.2.2.2.2.2.1 4) fun r12 =>
  (cat (r2.1 ++ r11.1) r12.1
  (some (((r2.1 ++ r11.1) ++ r12.1), ()))))))))))))
def impl_ShowRec.f (k : Nat) (a0 : Ty.den TRec) : Option (ByteArray × Unit) := impl_ShowRec.t k a0
def impl_Crc.b1 (k : Nat) (L0 : ByteArray → Int → Int → Option (Int × Unit)) (L1 : ByteArray → Int → Int → Int → Option (Int × Unit)) (x1_0 : ByteArray) (x1_1 : Int) (x1_2 : Int) (x1_3 : Int) : Option (Int × Unit) :=
  (bif (decide (x1_3 < 8)) then
  (bif ((IntKind.wrap .u32 (((BitVec.ofInt (IntKind.bits .u32) x1_1 &&& BitVec.ofInt (IntKind.bits .u32) 1).toNat : Int))) == 1) then
  (L1 x1_0 (IntKind.wrap .u32 (((BitVec.ofInt (IntKind.bits .u32) (Int.fdiv x1_1 (2 ^ (Int.toNat 1))) ^^^ BitVec.ofInt (IntKind.bits .u32) 2197175160).toNat : Int))) x1_2 (w64 (x1_3 + 1)))
  else
  (L1 x1_0 (Int.fdiv x1_1 (2 ^ (Int.toNat 1))) x1_2 (w64 (x1_3 + 1))))
  else
  (L0 x1_0 x1_1 (w64 (x1_2 + 1))))
def impl_Crc.l1 (k : Nat) (L0 : ByteArray → Int → Int → Option (Int × Unit)) : Nat → ByteArray → Int → Int → Int → Option (Int × Unit)
  | 0 => fun _ _ _ _ => none
  | n + 1 => impl_Crc.b1 k L0 (impl_Crc.l1 k L0 n)
def impl_Crc.b0 (k : Nat) (L1 : ByteArray → Int → Int → Int → Option (Int × Unit)) (L0 : ByteArray → Int → Int → Option (Int × Unit)) (x0_0 : ByteArray) (x0_1 : Int) (x0_2 : Int) : Option (Int × Unit) :=
  (bif (decide (x0_2 < (ByteArray.size x0_0 : Int))) then
  (inb x0_2 (ByteArray.size x0_0 : Int)
  (L1 x0_0 (IntKind.wrap .u32 (((BitVec.ofInt (IntKind.bits .u32) x0_1 ^^^ BitVec.ofInt (IntKind.bits .u32) (IntKind.wrap .u32 (byteAt x0_0 x0_2))).toNat : Int))) x0_2 0))
  else
  (some ((w64 (bitNot .u32 x0_1)), ())))
def impl_Crc.l0 (k : Nat) : Nat → ByteArray → Int → Int → Option (Int × Unit)
  | 0 => fun _ _ _ => none
  | n + 1 => impl_Crc.b0 k (impl_Crc.l1 k (impl_Crc.l0 k n) k) (impl_Crc.l0 k n)
def impl_Crc.t (k : Nat) (L0 : ByteArray → Int → Int → Option (Int × Unit)) (a0 : ByteArray) : Option (Int × Unit) :=
  (L0 a0 4294967295 0)
def impl_Crc.f (k : Nat) (a0 : ByteArray) : Option (Int × Unit) := impl_Crc.t k (impl_Crc.l0 k k) a0
def impl_SumOf.b0 (k : Nat) (L0 : ByteArray → List (Ty.den TRec) → Int → Int → Option (Int × Unit)) (x0_0 : ByteArray) (x0_1 : List (Ty.den TRec)) (x0_2 : Int) (x0_3 : Int) : Option (Int × Unit) :=
  (bif (decide (x0_3 < x0_2)) then
  (inb x0_3 (List.length x0_1 : Int)
  (Option.bind (impl_ShowRec.f k (List.getD x0_1 (Int.toNat x0_3) (Ty.dflt TRec))) fun r1 =>
  (cat x0_0 r1.1
  (L0 (x0_0 ++ r1.1) x0_1 x0_2 (w64 (x0_3 + 1))))))
  else
  (Option.bind (impl_Crc.f k x0_0) fun r2 =>
  (some r2)))
def impl_SumOf.l0 (k : Nat) : Nat → ByteArray → List (Ty.den TRec) → Int → Int → Option (Int × Unit)
  | 0 => fun _ _ _ _ => none
  | n + 1 => impl_SumOf.b0 k (impl_SumOf.l0 k n)
def impl_SumOf.t (k : Nat) (L0 : ByteArray → List (Ty.den TRec) → Int → Int → Option (Int × Unit)) (a0 : List (Ty.den TRec)) : Option (Int × Unit) :=
  (L0 (⟨#[]⟩ : ByteArray) a0 (List.length a0 : Int) 0)
def impl_SumOf.f (k : Nat) (a0 : List (Ty.den TRec)) : Option (Int × Unit) := impl_SumOf.t k (impl_SumOf.l0 k k) a0
def impl_keeps.b0 (k : Nat) (L0 : List (Ty.den TPair) → Int → List (Ty.den TPair) → Int → Int → List (Ty.den TRec) → Option ((List (Ty.den TRec)) × Unit)) (x0_0 : List (Ty.den TPair)) (x0_1 : Int) (x0_2 : List (Ty.den TPair)) (x0_3 : Int) (x0_4 : Int) (x0_5 : List (Ty.den TRec)) : Option ((List (Ty.den TRec)) × Unit) :=
  (bif (decide (x0_4 < x0_3)) then
  (inb x0_4 (List.length x0_2 : Int)
  (rm (Ty.bytes TRec) (List.length x0_5 + 1)
  (L0 x0_0 x0_1 x0_2 x0_3 (w64 (x0_4 + 1)) (x0_5 ++ [(4, ((List.getD x0_2 (Int.toNat x0_4) (Ty.dflt TPair)).2.2.1, ((List.getD x0_2 (Int.toNat x0_4) (Ty.dflt TPair)).1, ((List.getD x0_2 (Int.toNat x0_4) (Ty.dflt TPair)).2.1, (0, (0, ()))))))]))))
  else
  (Option.bind (impl_SumOf.f k x0_5) fun r1 =>
  (rm (Ty.bytes TRec) (List.length x0_5 + 1)
  (some ((x0_5 ++ [(5, (x0_1, (ByteArray.empty, (ByteArray.empty, ((List.length x0_0 : Int), r1)))))]), ())))))
def impl_keeps.l0 (k : Nat) : Nat → List (Ty.den TPair) → Int → List (Ty.den TPair) → Int → Int → List (Ty.den TRec) → Option ((List (Ty.den TRec)) × Unit)
  | 0 => fun _ _ _ _ _ _ => none
  | n + 1 => impl_keeps.b0 k (impl_keeps.l0 k n)
def impl_keeps.t (k : Nat) (L0 : List (Ty.den TPair) → Int → List (Ty.den TPair) → Int → Int → List (Ty.den TRec) → Option ((List (Ty.den TRec)) × Unit)) (a0 : List (Ty.den TPair)) (a1 : Int) : Option ((List (Ty.den TRec)) × Unit) :=
  (L0 a0 a1 a0 (List.length a0 : Int) 0 [])
def impl_keeps.f (k : Nat) (a0 : List (Ty.den TPair)) (a1 : Int) : Option ((List (Ty.den TRec)) × Unit) := impl_keeps.t k (impl_keeps.l0 k k) a0 a1
def impl_Frame.t (k : Nat) (a0 : ByteArray) : Option (ByteArray × Unit) :=
  (bif (decide ((ByteArray.size a0 : Int) > 200)) then
  (some ((⟨#[]⟩ : ByteArray), ()))
  else
  (Option.bind (impl_textOf.f k a0) fun r1 =>
  (Option.bind (impl_Crc.f k r1.1) fun r2 =>
  (Option.bind (impl_Fixed.f k r2.1 4) fun r3 =>
  (cat r3.1 r1.1
  (some ((r3.1 ++ r1.1), ())))))))
def impl_Frame.f (k : Nat) (a0 : ByteArray) : Option (ByteArray × Unit) := impl_Frame.t k a0
def impl_ShowPairs.b0 (k : Nat) (L0 : ByteArray → Int → Int → List (Ty.den TRec) → Option (ByteArray × Unit)) (x0_0 : ByteArray) (x0_1 : Int) (x0_2 : Int) (x0_3 : List (Ty.den TRec)) : Option (ByteArray × Unit) :=
  (bif (decide (x0_2 < x0_1)) then
  (inb x0_2 (List.length x0_3 : Int)
  (Option.bind (impl_ShowRec.f k (List.getD x0_3 (Int.toNat x0_2) (Ty.dflt TRec))) fun r3 =>
  (Option.bind (impl_Frame.f k r3.1) fun r4 =>
  (cat x0_0 r4.1
  (L0 (x0_0 ++ r4.1) x0_1 (w64 (x0_2 + 1)) x0_3)))))
  else
  (some (x0_0, ())))
def impl_ShowPairs.l0 (k : Nat) : Nat → ByteArray → Int → Int → List (Ty.den TRec) → Option (ByteArray × Unit)
  | 0 => fun _ _ _ _ => none
  | n + 1 => impl_ShowPairs.b0 k (impl_ShowPairs.l0 k n)
def impl_ShowPairs.t (k : Nat) (L0 : ByteArray → Int → Int → List (Ty.den TRec) → Option (ByteArray × Unit)) (a0 : List (Ty.den TPair)) : Option (ByteArray × Unit) :=
  (Option.bind (impl_PairsOk.f k a0) fun r1 =>
  (bif (!r1.1) then
  (some ((⟨#[]⟩ : ByteArray), ()))
  else
  (Option.bind (impl_keeps.f k a0 0) fun r2 =>
  (L0 (⟨#[]⟩ : ByteArray) (List.length r2.1 : Int) 0 r2.1))))
def impl_ShowPairs.f (k : Nat) (a0 : List (Ty.den TPair)) : Option (ByteArray × Unit) := impl_ShowPairs.t k (impl_ShowPairs.l0 k k) a0
def laws_FnExactShowPairs.t (k : Nat) (a0 : List (Ty.den TPair)) : Option (Bool × Unit) :=
  (Option.bind (laws_szPairS.f k a0 1048576) fun r1 =>
  (bif (decide (r1.1 < 0)) then
  (some (true, ()))
  else
  (Option.bind (laws_toPairS.f k a0) fun r2 =>
  (Option.bind (spec_ShowPairs.f k r2.1) fun r3 =>
  (Option.bind (laws_toPairS.f k a0) fun r4 =>
  (Option.bind (impl_ShowPairs.f k r4.1) fun r5 =>
  (bif (!(seq r5.1 r3.1)) then
  (some (false, ()))
  else
  (Option.bind (laws_toPairS.f k a0) fun r6 =>
  (Option.bind (laws_eqPairS.f k r4.1 r6.1) fun r7 =>
  (bif (!r7.1) then
  (some (false, ()))
  else
  (some (true, ()))))))))))))
def laws_FnExactShowPairs.f (k : Nat) (a0 : List (Ty.den TPair)) : Option (Bool × Unit) := laws_FnExactShowPairs.t k a0
end Go.Proofs.Ytlbpalfjmjmimaa.G

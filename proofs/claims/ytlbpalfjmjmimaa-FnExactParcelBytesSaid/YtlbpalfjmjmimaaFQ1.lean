/- Functions, as V runs them. -/
import Derived.Test.YtlbpalfjmjmimaaVWords
set_option linter.unusedVariables false
namespace Go.Proofs.Ytlbpalfjmjmimaa.G
open Go.V
abbrev TBit : Ty := .pair (.int .i64) (.pair (.int .i64) (.pair .str .unit))
abbrev TSlot : Ty := .pair .str (.pair (.int .i64) (.pair .str .unit))
abbrev TCache : Ty := .pair (.int .i64) (.pair (.slice TSlot) (.pair (.int .i64) .unit))
abbrev TPiece : Ty := .pair (.int .i64) (.pair .str .unit)
abbrev TFollower : Ty := .pair (.int .i64) (.pair (.slice TPiece) .unit)
abbrev TPair : Ty := .pair .str (.pair .str (.pair (.int .i64) .unit))
abbrev TParcel : Ty := .pair (.int .i64) (.pair (.slice TBit) .unit)
abbrev TRec : Ty := .pair (.int .i64) (.pair (.int .i64) (.pair .str (.pair .str (.pair (.int .i64) (.pair (.int .i64) .unit)))))
def laws_szPair.t (k : Nat) (a0 : Ty.den TPair) (a1 : Int) : Option (Int × Unit) :=
  (bif (decide ((w64 (a1 - (ByteArray.size a0.1 : Int))) < 0)) then
  (some ((-1), ()))
  else
  (bif (decide ((w64 ((w64 (a1 - (ByteArray.size a0.1 : Int))) - (ByteArray.size a0.2.1 : Int))) < 0)) then
  (some ((-1), ()))
  else
  (some ((w64 ((w64 (a1 - (ByteArray.size a0.1 : Int))) - (ByteArray.size a0.2.1 : Int))), ()))))
def laws_szPair.f (k : Nat) (a0 : Ty.den TPair) (a1 : Int) : Option (Int × Unit) := laws_szPair.t k a0 a1
def laws_szPairS.b0 (k : Nat) (L0 : List (Ty.den TPair) → Int → Int → Option (Int × Unit)) (x0_0 : List (Ty.den TPair)) (x0_1 : Int) (x0_2 : Int) : Option (Int × Unit) :=
  (bif (decide (x0_2 < (List.length x0_0 : Int))) then
  (inb x0_2 (List.length x0_0 : Int)
  (Option.bind (laws_szPair.f k (List.getD x0_0 (Int.toNat x0_2) (Ty.dflt TPair)) x0_1) fun r1 =>
  (bif (decide (r1.1 < 0)) then
  (some ((-1), ()))
  else
  (L0 x0_0 r1.1 (w64 (x0_2 + 1))))))
  else
  (some (x0_1, ())))
def laws_szPairS.l0 (k : Nat) : Nat → List (Ty.den TPair) → Int → Int → Option (Int × Unit)
  | 0 => fun _ _ _ => none
  | n + 1 => laws_szPairS.b0 k (laws_szPairS.l0 k n)
def laws_szPairS.t (k : Nat) (L0 : List (Ty.den TPair) → Int → Int → Option (Int × Unit)) (a0 : List (Ty.den TPair)) (a1 : Int) : Option (Int × Unit) :=
  (bif (decide ((w64 (a1 - (List.length a0 : Int))) < 0)) then
  (some ((-1), ()))
  else
  (L0 a0 (w64 (a1 - (List.length a0 : Int))) 0))
def laws_szPairS.f (k : Nat) (a0 : List (Ty.den TPair)) (a1 : Int) : Option (Int × Unit) := laws_szPairS.t k (laws_szPairS.l0 k k) a0 a1
def laws_toPair.t (k : Nat) (a0 : Ty.den TPair) : Option ((Ty.den TPair) × Unit) :=
  (some (a0, ()))
def laws_toPair.f (k : Nat) (a0 : Ty.den TPair) : Option ((Ty.den TPair) × Unit) := laws_toPair.t k a0
def laws_toPairS.b0 (k : Nat) (L0 : List (Ty.den TPair) → Int → List (Ty.den TPair) → Option ((List (Ty.den TPair)) × Unit)) (x0_0 : List (Ty.den TPair)) (x0_1 : Int) (x0_2 : List (Ty.den TPair)) : Option ((List (Ty.den TPair)) × Unit) :=
  (bif (decide (x0_1 < (List.length x0_0 : Int))) then
  (inb x0_1 (List.length x0_0 : Int)
  (Option.bind (laws_toPair.f k (List.getD x0_0 (Int.toNat x0_1) (Ty.dflt TPair))) fun r1 =>
  (inb x0_1 (List.length x0_2 : Int)
  (L0 x0_0 (w64 (x0_1 + 1)) (List.set x0_2 (Int.toNat x0_1) r1.1)))))
  else
  (some (x0_2, ())))
def laws_toPairS.l0 (k : Nat) : Nat → List (Ty.den TPair) → Int → List (Ty.den TPair) → Option ((List (Ty.den TPair)) × Unit)
  | 0 => fun _ _ _ => none
  | n + 1 => laws_toPairS.b0 k (laws_toPairS.l0 k n)
def laws_toPairS.t (k : Nat) (L0 : List (Ty.den TPair) → Int → List (Ty.den TPair) → Option ((List (Ty.den TPair)) × Unit)) (a0 : List (Ty.den TPair)) : Option ((List (Ty.den TPair)) × Unit) :=
  (mks (Ty.bytes TPair) (List.length a0 : Int)
  (L0 a0 0 (List.replicate (Int.toNat (List.length a0 : Int)) (Ty.dflt TPair))))
def laws_toPairS.f (k : Nat) (a0 : List (Ty.den TPair)) : Option ((List (Ty.den TPair)) × Unit) := laws_toPairS.t k (laws_toPairS.l0 k k) a0
def spec_l1In.t (k : Nat) (a0 : Int) (a1 : Int) (a2 : Int) : Option (Bool × Unit) :=
  (bif (decide (a0 ≥ a1)) then
  (some ((decide (a0 ≤ a2)), ()))
  else
  (some (false, ())))
def spec_l1In.f (k : Nat) (a0 : Int) (a1 : Int) (a2 : Int) : Option (Bool × Unit) := spec_l1In.t k a0 a1 a2
def spec_KeyOk.t (k : Nat) (a0 : ByteArray) : Option (Bool × Unit) :=
  (Option.bind (spec_l1In.f k (ByteArray.size a0 : Int) 1 8) fun r1 =>
  (some r1))
def spec_KeyOk.f (k : Nat) (a0 : ByteArray) : Option (Bool × Unit) := spec_KeyOk.t k a0
def spec_PairsOk.b0 (k : Nat) (L0 : List (Ty.den TPair) → Int → Option (Bool × Unit)) (x0_0 : List (Ty.den TPair)) (x0_1 : Int) : Option (Bool × Unit) :=
  (bif (decide (x0_1 < (List.length x0_0 : Int))) then
  (inb x0_1 (List.length x0_0 : Int)
  (Option.bind (spec_KeyOk.f k (List.getD x0_0 (Int.toNat x0_1) (Ty.dflt TPair)).1) fun r1 =>
  (bif (!r1.1) then
  (some (false, ()))
  else
  (inb x0_1 (List.length x0_0 : Int)
  (bif (decide ((ByteArray.size (List.getD x0_0 (Int.toNat x0_1) (Ty.dflt TPair)).2.1 : Int) > 24)) then
  (some (false, ()))
  else
  (inb x0_1 (List.length x0_0 : Int)
  (Option.bind (spec_l1In.f k (List.getD x0_0 (Int.toNat x0_1) (Ty.dflt TPair)).2.2.1 1 1000000) fun r2 =>
  (bif (!r2.1) then
  (some (false, ()))
  else
  (bif (decide (x0_1 > 0)) then
  (inb x0_1 (List.length x0_0 : Int)
  (inb (w64 (x0_1 - 1)) (List.length x0_0 : Int)
  (bif ((sls (List.getD x0_0 (Int.toNat x0_1) (Ty.dflt TPair)).1 (List.getD x0_0 (Int.toNat (w64 (x0_1 - 1))) (Ty.dflt TPair)).1) || (seq (List.getD x0_0 (Int.toNat x0_1) (Ty.dflt TPair)).1 (List.getD x0_0 (Int.toNat (w64 (x0_1 - 1))) (Ty.dflt TPair)).1)) then
  (some (false, ()))
  else
  (L0 x0_0 (w64 (x0_1 + 1))))))
  else
  (L0 x0_0 (w64 (x0_1 + 1))))))))))))
  else
  (some (true, ())))
def spec_PairsOk.l0 (k : Nat) : Nat → List (Ty.den TPair) → Int → Option (Bool × Unit)
  | 0 => fun _ _ => none
  | n + 1 => spec_PairsOk.b0 k (spec_PairsOk.l0 k n)
def spec_PairsOk.t (k : Nat) (L0 : List (Ty.den TPair) → Int → Option (Bool × Unit)) (a0 : List (Ty.den TPair)) : Option (Bool × Unit) :=
  (bif (decide ((List.length a0 : Int) > 20)) then
  (some (false, ()))
  else
  (L0 a0 0))
def spec_PairsOk.f (k : Nat) (a0 : List (Ty.den TPair)) : Option (Bool × Unit) := spec_PairsOk.t k (spec_PairsOk.l0 k k) a0
def impl_in.t (k : Nat) (a0 : Int) (a1 : Int) (a2 : Int) : Option (Bool × Unit) :=
  (bif (decide (a0 ≥ a1)) then
  (some ((decide (a0 ≤ a2)), ()))
  else
  (some (false, ())))
def impl_in.f (k : Nat) (a0 : Int) (a1 : Int) (a2 : Int) : Option (Bool × Unit) := impl_in.t k a0 a1 a2
def impl_KeyOk.t (k : Nat) (a0 : ByteArray) : Option (Bool × Unit) :=
  (Option.bind (impl_in.f k (ByteArray.size a0 : Int) 1 8) fun r1 =>
  (some r1))
def impl_KeyOk.f (k : Nat) (a0 : ByteArray) : Option (Bool × Unit) := impl_KeyOk.t k a0
def impl_PairsOk.b0 (k : Nat) (L0 : List (Ty.den TPair) → List (Ty.den TPair) → Int → Int → Option (Bool × Unit)) (x0_0 : List (Ty.den TPair)) (x0_1 : List (Ty.den TPair)) (x0_2 : Int) (x0_3 : Int) : Option (Bool × Unit) :=
  (bif (decide (x0_3 < x0_2)) then
  (inb x0_3 (List.length x0_1 : Int)
  (Option.bind (impl_KeyOk.f k (List.getD x0_1 (Int.toNat x0_3) (Ty.dflt TPair)).1) fun r1 =>
  (bif (!r1.1) then
  (some (false, ()))
  else
  (bif (decide ((ByteArray.size (List.getD x0_1 (Int.toNat x0_3) (Ty.dflt TPair)).2.1 : Int) > 24)) then
  (some (false, ()))
  else
  (Option.bind (impl_in.f k (List.getD x0_1 (Int.toNat x0_3) (Ty.dflt TPair)).2.2.1 1 1000000) fun r2 =>
  (bif (!r2.1) then
  (some (false, ()))
  else
  (bif (decide (x0_3 > 0)) then
  (inb (w64 (x0_3 - 1)) (List.length x0_0 : Int)
  (bif (!(sls (List.getD x0_0 (Int.toNat (w64 (x0_3 - 1))) (Ty.dflt TPair)).1 (List.getD x0_1 (Int.toNat x0_3) (Ty.dflt TPair)).1)) then
  (some (false, ()))
  else
  (L0 x0_0 x0_1 x0_2 (w64 (x0_3 + 1)))))
  else
  (L0 x0_0 x0_1 x0_2 (w64 (x0_3 + 1))))))))))
  else
  (some ((decide ((List.length x0_0 : Int) ≤ 20)), ())))
def impl_PairsOk.l0 (k : Nat) : Nat → List (Ty.den TPair) → List (Ty.den TPair) → Int → Int → Option (Bool × Unit)
  | 0 => fun _ _ _ _ => none
  | n + 1 => impl_PairsOk.b0 k (impl_PairsOk.l0 k n)
def impl_PairsOk.t (k : Nat) (L0 : List (Ty.den TPair) → List (Ty.den TPair) → Int → Int → Option (Bool × Unit)) (a0 : List (Ty.den TPair)) : Option (Bool × Unit) :=
  (L0 a0 a0 (List.length a0 : Int) 0)
def impl_PairsOk.f (k : Nat) (a0 : List (Ty.den TPair)) : Option (Bool × Unit) := impl_PairsOk.t k (impl_PairsOk.l0 k k) a0
def laws_eqPair.t (k : Nat) (a0 : Ty.den TPair) (a1 : Ty.den TPair) : Option (Bool × Unit) :=
  (bif (!(seq a0.1 a1.1)) then
  (some (false, ()))
  else
  (bif (!(seq a0.2.1 a1.2.1)) then
  (some (false, ()))
  else
  (bif (a0.2.2.1 != a1.2.2.1) then
  (some (false, ()))
  else
  (some (true, ())))))
def laws_eqPair.f (k : Nat) (a0 : Ty.den TPair) (a1 : Ty.den TPair) : Option (Bool × Unit) := laws_eqPair.t k a0 a1
def laws_eqPairS.b0 (k : Nat) (L0 : List (Ty.den TPair) → List (Ty.den TPair) → Int → Option (Bool × Unit)) (x0_0 : List (Ty.den TPair)) (x0_1 : List (Ty.den TPair)) (x0_2 : Int) : Option (Bool × Unit) :=
  (bif (decide (x0_2 < (List.length x0_0 : Int))) then
  (inb x0_2 (List.length x0_0 : Int)
  (inb x0_2 (List.length x0_1 : Int)
  (Option.bind (laws_eqPair.f k (List.getD x0_0 (Int.toNat x0_2) (Ty.dflt TPair)) (List.getD x0_1 (Int.toNat x0_2) (Ty.dflt TPair))) fun r1 =>
  (bif (!r1.1) then
  (some (false, ()))
  else
  (L0 x0_0 x0_1 (w64 (x0_2 + 1)))))))
  else
  (some (true, ())))
def laws_eqPairS.l0 (k : Nat) : Nat → List (Ty.den TPair) → List (Ty.den TPair) → Int → Option (Bool × Unit)
  | 0 => fun _ _ _ => none
  | n + 1 => laws_eqPairS.b0 k (laws_eqPairS.l0 k n)
def laws_eqPairS.t (k : Nat) (L0 : List (Ty.den TPair) → List (Ty.den TPair) → Int → Option (Bool × Unit)) (a0 : List (Ty.den TPair)) (a1 : List (Ty.den TPair)) : Option (Bool × Unit) :=
  (bif ((List.length a0 : Int) != (List.length a1 : Int)) then
  (some (false, ()))
  else
  (L0 a0 a1 0))
def laws_eqPairS.f (k : Nat) (a0 : List (Ty.den TPair)) (a1 : List (Ty.den TPair)) : Option (Bool × Unit) := laws_eqPairS.t k (laws_eqPairS.l0 k k) a0 a1
def laws_FnExactPairsOk.t (k : Nat) (a0 : List (Ty.den TPair)) : Option (Bool × Unit) :=
  (Option.bind (laws_szPairS.f k a0 1048576) fun r1 =>
  (bif (decide (r1.1 < 0)) then
  (some (true, ()))
  else
  (Option.bind (laws_toPairS.f k a0) fun r2 =>
  (Option.bind (spec_PairsOk.f k r2.1) fun r3 =>
  (Option.bind (laws_toPairS.f k a0) fun r4 =>
  (Option.bind (impl_PairsOk.f k r4.1) fun r5 =>
  (bif (!(r5.1 == r3.1)) then
  (some (false, ()))
  else
  (Option.bind (laws_toPairS.f k a0) fun r6 =>
  (Option.bind (laws_eqPairS.f k r4.1 r6.1) fun r7 =>
  (bif (!r7.1) then
  (some (false, ()))
  else
  (some (true, ()))))))))))))
def laws_FnExactPairsOk.f (k : Nat) (a0 : List (Ty.den TPair)) : Option (Bool × Unit) := laws_FnExactPairsOk.t k a0
def laws_szBit.t (k : Nat) (a0 : Ty.den TBit) (a1 : Int) : Option (Int × Unit) :=
  (bif (decide ((w64 (a1 - (ByteArray.size a0.2.2.1 : Int))) < 0)) then
  (some ((-1), ()))
  else
  (some ((w64 (a1 - (ByteArray.size a0.2.2.1 : Int))), ())))
def laws_szBit.f (k : Nat) (a0 : Ty.den TBit) (a1 : Int) : Option (Int × Unit) := laws_szBit.t k a0 a1
def laws_szBitS.b0 (k : Nat) (L0 : List (Ty.den TBit) → Int → Int → Option (Int × Unit)) (x0_0 : List (Ty.den TBit)) (x0_1 : Int) (x0_2 : Int) : Option (Int × Unit) :=
  (bif (decide (x0_2 < (List.length x0_0 : Int))) then
  (inb x0_2 (List.length x0_0 : Int)
  (Option.bind (laws_szBit.f k (List.getD x0_0 (Int.toNat x0_2) (Ty.dflt TBit)) x0_1) fun r1 =>
  (bif (decide (r1.1 < 0)) then
  (some ((-1), ()))
  else
  (L0 x0_0 r1.1 (w64 (x0_2 + 1))))))
  else
  (some (x0_1, ())))
def laws_szBitS.l0 (k : Nat) : Nat → List (Ty.den TBit) → Int → Int → Option (Int × Unit)
  | 0 => fun _ _ _ => none
  | n + 1 => laws_szBitS.b0 k (laws_szBitS.l0 k n)
def laws_szBitS.t (k : Nat) (L0 : List (Ty.den TBit) → Int → Int → Option (Int × Unit)) (a0 : List (Ty.den TBit)) (a1 : Int) : Option (Int × Unit) :=
  (bif (decide ((w64 (a1 - (List.length a0 : Int))) < 0)) then
  (some ((-1), ()))
  else
  (L0 a0 (w64 (a1 - (List.length a0 : Int))) 0))
def laws_szBitS.f (k : Nat) (a0 : List (Ty.den TBit)) (a1 : Int) : Option (Int × Unit) := laws_szBitS.t k (laws_szBitS.l0 k k) a0 a1
def laws_szParcel.t (k : Nat) (a0 : Ty.den TParcel) (a1 : Int) : Option (Int × Unit) :=
  (Option.bind (laws_szBitS.f k a0.2.1 a1) fun r1 =>
  (bif (decide (r1.1 < 0)) then
  (some ((-1), ()))
  else
  (some r1)))
def laws_szParcel.f (k : Nat) (a0 : Ty.den TParcel) (a1 : Int) : Option (Int × Unit) := laws_szParcel.t k a0 a1
def laws_toBit.t (k : Nat) (a0 : Ty.den TBit) : Option ((Ty.den TBit) × Unit) :=
  (some (a0, ()))
def laws_toBit.f (k : Nat) (a0 : Ty.den TBit) : Option ((Ty.den TBit) × Unit) := laws_toBit.t k a0
def laws_toBitS.b0 (k : Nat) (L0 : List (Ty.den TBit) → Int → List (Ty.den TBit) → Option ((List (Ty.den TBit)) × Unit)) (x0_0 : List (Ty.den TBit)) (x0_1 : Int) (x0_2 : List (Ty.den TBit)) : Option ((List (Ty.den TBit)) × Unit) :=
  (bif (decide (x0_1 < (List.length x0_0 : Int))) then
  (inb x0_1 (List.length x0_0 : Int)
  (Option.bind (laws_toBit.f k (List.getD x0_0 (Int.toNat x0_1) (Ty.dflt TBit))) fun r1 =>
  (inb x0_1 (List.length x0_2 : Int)
  (L0 x0_0 (w64 (x0_1 + 1)) (List.set x0_2 (Int.toNat x0_1) r1.1)))))
  else
  (some (x0_2, ())))
def laws_toBitS.l0 (k : Nat) : Nat → List (Ty.den TBit) → Int → List (Ty.den TBit) → Option ((List (Ty.den TBit)) × Unit)
  | 0 => fun _ _ _ => none
  | n + 1 => laws_toBitS.b0 k (laws_toBitS.l0 k n)
def laws_toBitS.t (k : Nat) (L0 : List (Ty.den TBit) → Int → List (Ty.den TBit) → Option ((List (Ty.den TBit)) × Unit)) (a0 : List (Ty.den TBit)) : Option ((List (Ty.den TBit)) × Unit) :=
  (mks (Ty.bytes TBit) (List.length a0 : Int)
  (L0 a0 0 (List.replicate (Int.toNat (List.length a0 : Int)) (Ty.dflt TBit))))
def laws_toBitS.f (k : Nat) (a0 : List (Ty.den TBit)) : Option ((List (Ty.den TBit)) × Unit) := laws_toBitS.t k (laws_toBitS.l0 k k) a0
def laws_toParcel.t (k : Nat) (a0 : Ty.den TParcel) : Option ((Ty.den TParcel) × Unit) :=
  (Option.bind (laws_toBitS.f k a0.2.1) fun r1 =>
  (some ((a0.1, r1), ())))
def laws_toParcel.f (k : Nat) (a0 : Ty.den TParcel) : Option ((Ty.den TParcel) × Unit) := laws_toParcel.t k a0
def spec_ParcelBytes.b0 (k : Nat) (L0 : Int → Int → Int → List (Ty.den TBit) → Option (Int × Unit)) (x0_0 : Int) (x0_1 : Int) (x0_2 : Int) (x0_3 : List (Ty.den TBit)) : Option (Int × Unit) :=
  (bif (decide (x0_1 < (List.length x0_3 : Int))) then
  (inb x0_1 (List.length x0_3 : Int)
  (L0 (w64 (x0_0 + (ByteArray.size (List.getD x0_3 (Int.toNat x0_1) (Ty.dflt TBit)).2.2.1 : Int))) (w64 (x0_1 + 1)) x0_2 x0_3))
  else
  (some (x0_0, ())))
def spec_ParcelBytes.l0 (k : Nat) : Nat → Int → Int → Int → List (Ty.den TBit) → Option (Int × Unit)
  | 0 => fun _ _ _ _ => none
  | n + 1 => spec_ParcelBytes.b0 k (spec_ParcelBytes.l0 k n)
def spec_ParcelBytes.t (k : Nat) (L0 : Int → Int → Int → List (Ty.den TBit) → Option (Int × Unit)) (a0 : Ty.den TParcel) : Option (Int × Unit) :=
  (L0 0 0 a0.1 a0.2.1)
def spec_ParcelBytes.f (k : Nat) (a0 : Ty.den TParcel) : Option (Int × Unit) := spec_ParcelBytes.t k (spec_ParcelBytes.l0 k k) a0
def impl_ParcelBytes.b0 (k : Nat) (L0 : Int → List (Ty.den TBit) → Int → Int → Option (Int × Unit)) (x0_0 : Int) (x0_1 : List (Ty.den TBit)) (x0_2 : Int) (x0_3 : Int) : Option (Int × Unit) :=
  (bif (decide (x0_3 < x0_2)) then
  (inb x0_3 (List.length x0_1 : Int)
  (L0 (w64 (x0_0 + (ByteArray.size (List.getD x0_1 (Int.toNat x0_3) (Ty.dflt TBit)).2.2.1 : Int))) x0_1 x0_2 (w64 (x0_3 + 1))))
  else
  (some (x0_0, ())))
def impl_ParcelBytes.l0 (k : Nat) : Nat → Int → List (Ty.den TBit) → Int → Int → Option (Int × Unit)
  | 0 => fun _ _ _ _ => none
  | n + 1 => impl_ParcelBytes.b0 k (impl_ParcelBytes.l0 k n)
def impl_ParcelBytes.t (k : Nat) (L0 : Int → List (Ty.den TBit) → Int → Int → Option (Int × Unit)) (a0 : Ty.den TParcel) : Option (Int × Unit) :=
  (L0 0 a0.2.1 (List.length a0.2.1 : Int) 0)
def impl_ParcelBytes.f (k : Nat) (a0 : Ty.den TParcel) : Option (Int × Unit) := impl_ParcelBytes.t k (impl_ParcelBytes.l0 k k) a0
def laws_eqBit.t (k : Nat) (a0 : Ty.den TBit) (a1 : Ty.den TBit) : Option (Bool × Unit) :=
  (bif (a0.1 != a1.1) then
  (some (false, ()))
  else
  (bif (a0.2.1 != a1.2.1) then
  (some (false, ()))
  else
  (bif (!(seq a0.2.2.1 a1.2.2.1)) then
  (some (false, ()))
  else
  (some (true, ())))))
def laws_eqBit.f (k : Nat) (a0 : Ty.den TBit) (a1 : Ty.den TBit) : Option (Bool × Unit) := laws_eqBit.t k a0 a1
def laws_eqBitS.b0 (k : Nat) (L0 : List (Ty.den TBit) → List (Ty.den TBit) → Int → Option (Bool × Unit)) (x0_0 : List (Ty.den TBit)) (x0_1 : List (Ty.den TBit)) (x0_2 : Int) : Option (Bool × Unit) :=
  (bif (decide (x0_2 < (List.length x0_0 : Int))) then
  (inb x0_2 (List.length x0_0 : Int)
  (inb x0_2 (List.length x0_1 : Int)
  (Option.bind (laws_eqBit.f k (List.getD x0_0 (Int.toNat x0_2) (Ty.dflt TBit)) (List.getD x0_1 (Int.toNat x0_2) (Ty.dflt TBit))) fun r1 =>
  (bif (!r1.1) then
  (some (false, ()))
  else
  (L0 x0_0 x0_1 (w64 (x0_2 + 1)))))))
  else
  (some (true, ())))
def laws_eqBitS.l0 (k : Nat) : Nat → List (Ty.den TBit) → List (Ty.den TBit) → Int → Option (Bool × Unit)
  | 0 => fun _ _ _ => none
  | n + 1 => laws_eqBitS.b0 k (laws_eqBitS.l0 k n)
def laws_eqBitS.t (k : Nat) (L0 : List (Ty.den TBit) → List (Ty.den TBit) → Int → Option (Bool × Unit)) (a0 : List (Ty.den TBit)) (a1 : List (Ty.den TBit)) : Option (Bool × Unit) :=
  (bif ((List.length a0 : Int) != (List.length a1 : Int)) then
  (some (false, ()))
  else
  (L0 a0 a1 0))
def laws_eqBitS.f (k : Nat) (a0 : List (Ty.den TBit)) (a1 : List (Ty.den TBit)) : Option (Bool × Unit) := laws_eqBitS.t k (laws_eqBitS.l0 k k) a0 a1
def laws_eqParcel.t (k : Nat) (a0 : Ty.den TParcel) (a1 : Ty.den TParcel) : Option (Bool × Unit) :=
  (bif (a0.1 != a1.1) then
  (some (false, ()))
  else
  (Option.bind (laws_eqBitS.f k a0.2.1 a1.2.1) fun r1 =>
  (bif (!r1.1) then
  (some (false, ()))
  else
  (some (true, ())))))
def laws_eqParcel.f (k : Nat) (a0 : Ty.den TParcel) (a1 : Ty.den TParcel) : Option (Bool × Unit) := laws_eqParcel.t k a0 a1
def laws_FnExactParcelBytes.t (k : Nat) (a0 : Ty.den TParcel) : Option (Bool × Unit) :=
  (Option.bind (laws_szParcel.f k a0 1048576) fun r1 =>
  (bif (decide (r1.1 < 0)) then
  (some (true, ()))
  else
  (Option.bind (laws_toParcel.f k a0) fun r2 =>
  (Option.bind (spec_ParcelBytes.f k r2.1) fun r3 =>
  (Option.bind (laws_toParcel.f k a0) fun r4 =>
  (Option.bind (impl_ParcelBytes.f k r4.1) fun r5 =>
  (bif (r5.1 != r3.1) then
  (some (false, ()))
  else
  (Option.bind (laws_toParcel.f k a0) fun r6 =>
  (Option.bind (laws_eqParcel.f k r4.1 r6.1) fun r7 =>
  (bif (!r7.1) then
  (some (false, ()))
  else
  (some (true, ()))))))))))))
def laws_FnExactParcelBytes.f (k : Nat) (a0 : Ty.den TParcel) : Option (Bool × Unit) := laws_FnExactParcelBytes.t k a0
def laws_szPiece.t (k : Nat) (a0 : Ty.den TPiece) (a1 : Int) : Option (Int × Unit) :=
  (bif (decide ((w64 (a1 - (ByteArray.size a0.2.1 : Int))) < 0)) then
  (some ((-1), ()))
  else
  (some ((w64 (a1 - (ByteArray.size a0.2.1 : Int))), ())))
def laws_szPiece.f (k : Nat) (a0 : Ty.den TPiece) (a1 : Int) : Option (Int × Unit) := laws_szPiece.t k a0 a1
def laws_szPieceS.b0 (k : Nat) (L0 : List (Ty.den TPiece) → Int → Int → Option (Int × Unit)) (x0_0 : List (Ty.den TPiece)) (x0_1 : Int) (x0_2 : Int) : Option (Int × Unit) :=
  (bif (decide (x0_2 < (List.length x0_0 : Int))) then
  (inb x0_2 (List.length x0_0 : Int)
  (Option.bind (laws_szPiece.f k (List.getD x0_0 (Int.toNat x0_2) (Ty.dflt TPiece)) x0_1) fun r1 =>
  (bif (decide (r1.1 < 0)) then
  (some ((-1), ()))
  else
  (L0 x0_0 r1.1 (w64 (x0_2 + 1))))))
  else
  (some (x0_1, ())))
def laws_szPieceS.l0 (k : Nat) : Nat → List (Ty.den TPiece) → Int → Int → Option (Int × Unit)
  | 0 => fun _ _ _ => none
  | n + 1 => laws_szPieceS.b0 k (laws_szPieceS.l0 k n)
def laws_szPieceS.t (k : Nat) (L0 : List (Ty.den TPiece) → Int → Int → Option (Int × Unit)) (a0 : List (Ty.den TPiece)) (a1 : Int) : Option (Int × Unit) :=
  (bif (decide ((w64 (a1 - (List.length a0 : Int))) < 0)) then
  (some ((-1), ()))
  else
  (L0 a0 (w64 (a1 - (List.length a0 : Int))) 0))
def laws_szPieceS.f (k : Nat) (a0 : List (Ty.den TPiece)) (a1 : Int) : Option (Int × Unit) := laws_szPieceS.t k (laws_szPieceS.l0 k k) a0 a1
def laws_szFollower.t (k : Nat) (a0 : Ty.den TFollower) (a1 : Int) : Option (Int × Unit) :=
  (Option.bind (laws_szPieceS.f k a0.2.1 a1) fun r1 =>
  (bif (decide (r1.1 < 0)) then
  (some ((-1), ()))
  else
  (some r1)))
def laws_szFollower.f (k : Nat) (a0 : Ty.den TFollower) (a1 : Int) : Option (Int × Unit) := laws_szFollower.t k a0 a1
def laws_toPiece.t (k : Nat) (a0 : Ty.den TPiece) : Option ((Ty.den TPiece) × Unit) :=
  (some (a0, ()))
def laws_toPiece.f (k : Nat) (a0 : Ty.den TPiece) : Option ((Ty.den TPiece) × Unit) := laws_toPiece.t k a0
def laws_toPieceS.b0 (k : Nat) (L0 : List (Ty.den TPiece) → Int → List (Ty.den TPiece) → Option ((List (Ty.den TPiece)) × Unit)) (x0_0 : List (Ty.den TPiece)) (x0_1 : Int) (x0_2 : List (Ty.den TPiece)) : Option ((List (Ty.den TPiece)) × Unit) :=
  (bif (decide (x0_1 < (List.length x0_0 : Int))) then
  (inb x0_1 (List.length x0_0 : Int)
  (Option.bind (laws_toPiece.f k (List.getD x0_0 (Int.toNat x0_1) (Ty.dflt TPiece))) fun r1 =>
  (inb x0_1 (List.length x0_2 : Int)
  (L0 x0_0 (w64 (x0_1 + 1)) (List.set x0_2 (Int.toNat x0_1) r1.1)))))
  else
  (some (x0_2, ())))
def laws_toPieceS.l0 (k : Nat) : Nat → List (Ty.den TPiece) → Int → List (Ty.den TPiece) → Option ((List (Ty.den TPiece)) × Unit)
  | 0 => fun _ _ _ => none
  | n + 1 => laws_toPieceS.b0 k (laws_toPieceS.l0 k n)
def laws_toPieceS.t (k : Nat) (L0 : List (Ty.den TPiece) → Int → List (Ty.den TPiece) → Option ((List (Ty.den TPiece)) × Unit)) (a0 : List (Ty.den TPiece)) : Option ((List (Ty.den TPiece)) × Unit) :=
  (mks (Ty.bytes TPiece) (List.length a0 : Int)
  (L0 a0 0 (List.replicate (Int.toNat (List.length a0 : Int)) (Ty.dflt TPiece))))
def laws_toPieceS.f (k : Nat) (a0 : List (Ty.den TPiece)) : Option ((List (Ty.den TPiece)) × Unit) := laws_toPieceS.t k (laws_toPieceS.l0 k k) a0
def laws_toFollower.t (k : Nat) (a0 : Ty.den TFollower) : Option ((Ty.den TFollower) × Unit) :=
  (Option.bind (laws_toPieceS.f k a0.2.1) fun r1 =>
  (some ((a0.1, r1), ())))
def laws_toFollower.f (k : Nat) (a0 : Ty.den TFollower) : Option ((Ty.den TFollower) × Unit) := laws_toFollower.t k a0
def spec_SameFollower.b0 (k : Nat) (L0 : Int → Int → List (Ty.den TPiece) → Int → List (Ty.den TPiece) → Option (Bool × Unit)) (x0_0 : Int) (x0_1 : Int) (x0_2 : List (Ty.den TPiece)) (x0_3 : Int) (x0_4 : List (Ty.den TPiece)) : Option (Bool × Unit) :=
  (bif (decide (x0_0 < (List.length x0_2 : Int))) then
  (inb x0_0 (List.length x0_2 : Int)
  (inb x0_0 (List.length x0_4 : Int)
  (bif (!(((List.getD x0_2 (Int.toNat x0_0) (Ty.dflt TPiece)).1 == (List.getD x0_4 (Int.toNat x0_0) (Ty.dflt TPiece)).1) && (seq (List.getD x0_2 (Int.toNat x0_0) (Ty.dflt TPiece)).2.1 (List.getD x0_4 (Int.toNat x0_0) (Ty.dflt TPiece)).2.1))) then
  (some (false, ()))
  else
  (L0 (w64 (x0_0 + 1)) x0_1 x0_2 x0_3 x0_4))))
  else
  (some (true, ())))
def spec_SameFollower.l0 (k : Nat) : Nat → Int → Int → List (Ty.den TPiece) → Int → List (Ty.den TPiece) → Option (Bool × Unit)
  | 0 => fun _ _ _ _ _ => none
  | n + 1 => spec_SameFollower.b0 k (spec_SameFollower.l0 k n)
def spec_SameFollower.t (k : Nat) (L0 : Int → Int → List (Ty.den TPiece) → Int → List (Ty.den TPiece) → Option (Bool × Unit)) (a0 : Ty.den TFollower) (a1 : Ty.den TFollower) : Option (Bool × Unit) :=
  (bif (a0.1 != a1.1) then
  (some (false, ()))
  else
  (bif ((List.length a0.2.1 : Int) != (List.length a1.2.1 : Int)) then
  (some (false, ()))
  else
  (L0 0 a0.1 a0.2.1 a1.1 a1.2.1)))
def spec_SameFollower.f (k : Nat) (a0 : Ty.den TFollower) (a1 : Ty.den TFollower) : Option (Bool × Unit) := spec_SameFollower.t k (spec_SameFollower.l0 k k) a0 a1
def impl_SameFollower.b0 (k : Nat) (L0 : Int → Int → Int → List (Ty.den TPiece) → Int → List (Ty.den TPiece) → Option (Bool × Unit)) (x0_0 : Int) (x0_1 : Int) (x0_2 : Int) (x0_3 : List (Ty.den TPiece)) (x0_4 : Int) (x0_5 : List (Ty.den TPiece)) : Option (Bool × Unit) :=
  (bif (decide (x0_1 < x0_0)) then
  (inb x0_1 (List.length x0_3 : Int)
  (inb x0_1 (List.length x0_5 : Int)
  (bif (!(((List.getD x0_3 (Int.toNat x0_1) (Ty.dflt TPiece)).1 == (List.getD x0_5 (Int.toNat x0_1) (Ty.dflt TPiece)).1) && (seq (List.getD x0_3 (Int.toNat x0_1) (Ty.dflt TPiece)).2.1 (List.getD x0_5 (Int.toNat x0_1) (Ty.dflt TPiece)).2.1))) then
  (some (false, ()))
  else
  (L0 x0_0 (w64 (x0_1 + 1)) x0_2 x0_3 x0_4 x0_5))))
  else
  (some (true, ())))
def impl_SameFollower.l0 (k : Nat) : Nat → Int → Int → Int → List (Ty.den TPiece) → Int → List (Ty.den TPiece) → Option (Bool × Unit)
  | 0 => fun _ _ _ _ _ _ => none
  | n + 1 => impl_SameFollower.b0 k (impl_SameFollower.l0 k n)
def impl_SameFollower.t (k : Nat) (L0 : Int → Int → Int → List (Ty.den TPiece) → Int → List (Ty.den TPiece) → Option (Bool × Unit)) (a0 : Ty.den TFollower) (a1 : Ty.den TFollower) : Option (Bool × Unit) :=
  (bif (a0.1 != a1.1) then
  (some (false, ()))
  else
  (bif ((List.length a0.2.1 : Int) != (List.length a1.2.1 : Int)) then
  (some (false, ()))
  else
  (L0 (List.length a0.2.1 : Int) 0 a0.1 a0.2.1 a1.1 a1.2.1)))
def impl_SameFollower.f (k : Nat) (a0 : Ty.den TFollower) (a1 : Ty.den TFollower) : Option (Bool × Unit) := impl_SameFollower.t k (impl_SameFollower.l0 k k) a0 a1
def laws_eqPiece.t (k : Nat) (a0 : Ty.den TPiece) (a1 : Ty.den TPiece) : Option (Bool × Unit) :=
  (bif (a0.1 != a1.1) then
  (some (false, ()))
  else
  (bif (!(seq a0.2.1 a1.2.1)) then
  (some (false, ()))
  else
  (some (true, ()))))
def laws_eqPiece.f (k : Nat) (a0 : Ty.den TPiece) (a1 : Ty.den TPiece) : Option (Bool × Unit) := laws_eqPiece.t k a0 a1
def laws_eqPieceS.b0 (k : Nat) (L0 : List (Ty.den TPiece) → List (Ty.den TPiece) → Int → Option (Bool × Unit)) (x0_0 : List (Ty.den TPiece)) (x0_1 : List (Ty.den TPiece)) (x0_2 : Int) : Option (Bool × Unit) :=
  (bif (decide (x0_2 < (List.length x0_0 : Int))) then
  (inb x0_2 (List.length x0_0 : Int)
  (inb x0_2 (List.length x0_1 : Int)
  (Option.bind (laws_eqPiece.f k (List.getD x0_0 (Int.toNat x0_2) (Ty.dflt TPiece)) (List.getD x0_1 (Int.toNat x0_2) (Ty.dflt TPiece))) fun r1 =>
  (bif (!r1.1) then
  (some (false, ()))
  else
  (L0 x0_0 x0_1 (w64 (x0_2 + 1)))))))
  else
  (some (true, ())))
def laws_eqPieceS.l0 (k : Nat) : Nat → List (Ty.den TPiece) → List (Ty.den TPiece) → Int → Option (Bool × Unit)
  | 0 => fun _ _ _ => none
  | n + 1 => laws_eqPieceS.b0 k (laws_eqPieceS.l0 k n)
def laws_eqPieceS.t (k : Nat) (L0 : List (Ty.den TPiece) → List (Ty.den TPiece) → Int → Option (Bool × Unit)) (a0 : List (Ty.den TPiece)) (a1 : List (Ty.den TPiece)) : Option (Bool × Unit) :=
  (bif ((List.length a0 : Int) != (List.length a1 : Int)) then
  (some (false, ()))
  else
  (L0 a0 a1 0))
def laws_eqPieceS.f (k : Nat) (a0 : List (Ty.den TPiece)) (a1 : List (Ty.den TPiece)) : Option (Bool × Unit) := laws_eqPieceS.t k (laws_eqPieceS.l0 k k) a0 a1
def laws_eqFollower.t (k : Nat) (a0 : Ty.den TFollower) (a1 : Ty.den TFollower) : Option (Bool × Unit) :=
  (bif (a0.1 != a1.1) then
  (some (false, ()))
  else
  (Option.bind (laws_eqPieceS.f k a0.2.1 a1.2.1) fun r1 =>
  (bif (!r1.1) then
  (some (false, ()))
  else
  (some (true, ())))))
def laws_eqFollower.f (k : Nat) (a0 : Ty.den TFollower) (a1 : Ty.den TFollower) : Option (Bool × Unit) := laws_eqFollower.t k a0 a1
def laws_FnExactSameFollower.t (k : Nat) (a0 : Ty.den TFollower) (a1 : Ty.den TFollower) : Option (Bool × Unit) :=
  (Option.bind (laws_szFollower.f k a0 1048576) fun r1 =>
  (bif (decide (r1.1 < 0)) then
  (some (true, ()))
  else
  (Option.bind (laws_szFollower.f k a1 r1.1) fun r2 =>
  (bif (decide (r2.1 < 0)) then
  (some (true, ()))
  else
  (Option.bind (laws_toFollower.f k a0) fun r3 =>
  (Option.bind (laws_toFollower.f k a1) fun r4 =>
  (Option.bind (spec_SameFollower.f k r3.1 r4.1) fun r5 =>
  (Option.bind (laws_toFollower.f k a0) fun r6 =>
  (Option.bind (laws_toFollower.f k a1) fun r7 =>
  (Option.bind (impl_SameFollower.f k r6.1 r7.1) fun r8 =>
  (bif (!(r8.1 == r5.1)) then
  (some (false, ()))
  else
  (Option.bind (laws_toFollower.f k a0) fun r9 =>
  (Option.bind (laws_eqFollower.f k r6.1 r9.1) fun r10 =>
  (bif (!r10.1) then
  (some (false, ()))
  else
  (Option.bind (laws_toFollower.f k a1) fun r11 =>
  (Option.bind (laws_eqFollower.f k r7.1 r11.1) fun r12 =>
  (bif (!r12.1) then
  (some (false, ()))
  else
  (some (true, ())))))))))))))))))))
def laws_FnExactSameFollower.f (k : Nat) (a0 : Ty.den TFollower) (a1 : Ty.den TFollower) : Option (Bool × Unit) := laws_FnExactSameFollower.t k a0 a1
def laws_szSlot.t (k : Nat) (a0 : Ty.den TSlot) (a1 : Int) : Option (Int × Unit) :=
  (bif (decide ((w64 (a1 - (ByteArray.size a0.1 : Int))) < 0)) then
  (some ((-1), ()))
  else
  (bif (decide ((w64 ((w64 (a1 - (ByteArray.size a0.1 : Int))) - (ByteArray.size a0.2.2.1 : Int))) < 0)) then
  (some ((-1), ()))
  else
  (some ((w64 ((w64 (a1 - (ByteArray.size a0.1 : Int))) - (ByteArray.size a0.2.2.1 : Int))), ()))))
def laws_szSlot.f (k : Nat) (a0 : Ty.den TSlot) (a1 : Int) : Option (Int × Unit) := laws_szSlot.t k a0 a1
def laws_szSlotS.b0 (k : Nat) (L0 : List (Ty.den TSlot) → Int → Int → Option (Int × Unit)) (x0_0 : List (Ty.den TSlot)) (x0_1 : Int) (x0_2 : Int) : Option (Int × Unit) :=
  (bif (decide (x0_2 < (List.length x0_0 : Int))) then
  (inb x0_2 (List.length x0_0 : Int)
  (Option.bind (laws_szSlot.f k (List.getD x0_0 (Int.toNat x0_2) (Ty.dflt TSlot)) x0_1) fun r1 =>
  (bif (decide (r1.1 < 0)) then
  (some ((-1), ()))
  else
  (L0 x0_0 r1.1 (w64 (x0_2 + 1))))))
  else
  (some (x0_1, ())))
def laws_szSlotS.l0 (k : Nat) : Nat → List (Ty.den TSlot) → Int → Int → Option (Int × Unit)
  | 0 => fun _ _ _ => none
  | n + 1 => laws_szSlotS.b0 k (laws_szSlotS.l0 k n)
def laws_szSlotS.t (k : Nat) (L0 : List (Ty.den TSlot) → Int → Int → Option (Int × Unit)) (a0 : List (Ty.den TSlot)) (a1 : Int) : Option (Int × Unit) :=
  (bif (decide ((w64 (a1 - (List.length a0 : Int))) < 0)) then
  (some ((-1), ()))
  else
  (L0 a0 (w64 (a1 - (List.length a0 : Int))) 0))
def laws_szSlotS.f (k : Nat) (a0 : List (Ty.den TSlot)) (a1 : Int) : Option (Int × Unit) := laws_szSlotS.t k (laws_szSlotS.l0 k k) a0 a1
def laws_szCache.t (k : Nat) (a0 : Ty.den TCache) (a1 : Int) : Option (Int × Unit) :=
  (Option.bind (laws_szSlotS.f k a0.2.1 a1) fun r1 =>
  (bif (decide (r1.1 < 0)) then
  (some ((-1), ()))
  else
  (some r1)))
def laws_szCache.f (k : Nat) (a0 : Ty.den TCache) (a1 : Int) : Option (Int × Unit) := laws_szCache.t k a0 a1
def laws_toSlot.t (k : Nat) (a0 : Ty.den TSlot) : Option ((Ty.den TSlot) × Unit) :=
  (some (a0, ()))
def laws_toSlot.f (k : Nat) (a0 : Ty.den TSlot) : Option ((Ty.den TSlot) × Unit) := laws_toSlot.t k a0
def laws_toSlotS.b0 (k : Nat) (L0 : List (Ty.den TSlot) → Int → List (Ty.den TSlot) → Option ((List (Ty.den TSlot)) × Unit)) (x0_0 : List (Ty.den TSlot)) (x0_1 : Int) (x0_2 : List (Ty.den TSlot)) : Option ((List (Ty.den TSlot)) × Unit) :=
  (bif (decide (x0_1 < (List.length x0_0 : Int))) then
  (inb x0_1 (List.length x0_0 : Int)
  (Option.bind (laws_toSlot.f k (List.getD x0_0 (Int.toNat x0_1) (Ty.dflt TSlot))) fun r1 =>
  (inb x0_1 (List.length x0_2 : Int)
  (L0 x0_0 (w64 (x0_1 + 1)) (List.set x0_2 (Int.toNat x0_1) r1.1)))))
  else
  (some (x0_2, ())))
def laws_toSlotS.l0 (k : Nat) : Nat → List (Ty.den TSlot) → Int → List (Ty.den TSlot) → Option ((List (Ty.den TSlot)) × Unit)
  | 0 => fun _ _ _ => none
  | n + 1 => laws_toSlotS.b0 k (laws_toSlotS.l0 k n)
def laws_toSlotS.t (k : Nat) (L0 : List (Ty.den TSlot) → Int → List (Ty.den TSlot) → Option ((List (Ty.den TSlot)) × Unit)) (a0 : List (Ty.den TSlot)) : Option ((List (Ty.den TSlot)) × Unit) :=
  (mks (Ty.bytes TSlot) (List.length a0 : Int)
  (L0 a0 0 (List.replicate (Int.toNat (List.length a0 : Int)) (Ty.dflt TSlot))))
def laws_toSlotS.f (k : Nat) (a0 : List (Ty.den TSlot)) : Option ((List (Ty.den TSlot)) × Unit) := laws_toSlotS.t k (laws_toSlotS.l0 k k) a0
def laws_toCache.t (k : Nat) (a0 : Ty.den TCache) : Option ((Ty.den TCache) × Unit) :=
  (Option.bind (laws_toSlotS.f k a0.2.1) fun r1 =>
  (some ((a0.1, (r1.1, a0.2.2)), ())))
def laws_toCache.f (k : Nat) (a0 : Ty.den TCache) : Option ((Ty.den TCache) × Unit) := laws_toCache.t k a0
def spec_CacheOk.b1 (k : Nat) (L0 : Int → Int → List (Ty.den TSlot) → Int → Option (Bool × Unit)) (L1 : Int → Int → Int → List (Ty.den TSlot) → Int → Option (Bool × Unit)) (x1_0 : Int) (x1_1 : Int) (x1_2 : Int) (x1_3 : List (Ty.den TSlot)) (x1_4 : Int) : Option (Bool × Unit) :=
  (bif (decide (x1_1 < x1_0)) then
  (inb x1_1 (List.length x1_3 : Int)
  (inb x1_0 (List.length x1_3 : Int)
  (bif (seq (List.getD x1_3 (Int.toNat x1_1) (Ty.dflt TSlot)).1 (List.getD x1_3 (Int.toNat x1_0) (Ty.dflt TSlot)).1) then
  (some (false, ()))
  else
  (L1 x1_0 (w64 (x1_1 + 1)) x1_2 x1_3 x1_4))))
  else
  (L0 (w64 (x1_0 + 1)) x1_2 x1_3 x1_4))
def spec_CacheOk.l1 (k : Nat) (L0 : Int → Int → List (Ty.den TSlot) → Int → Option (Bool × Unit)) : Nat → Int → Int → Int → List (Ty.den TSlot) → Int → Option (Bool × Unit)
  | 0 => fun _ _ _ _ _ => none
  | n + 1 => spec_CacheOk.b1 k L0 (spec_CacheOk.l1 k L0 n)
def spec_CacheOk.b0 (k : Nat) (L1 : Int → Int → Int → List (Ty.den TSlot) → Int → Option (Bool × Unit)) (L0 : Int → Int → List (Ty.den TSlot) → Int → Option (Bool × Unit)) (x0_0 : Int) (x0_1 : Int) (x0_2 : List (Ty.den TSlot)) (x0_3 : Int) : Option (Bool × Unit) :=
  (bif (decide (x0_0 < (List.length x0_2 : Int))) then
  (L1 x0_0 0 x0_1 x0_2 x0_3)
  else
  (some (true, ())))
def spec_CacheOk.l0 (k : Nat) : Nat → Int → Int → List (Ty.den TSlot) → Int → Option (Bool × Unit)
  | 0 => fun _ _ _ _ => none
  | n + 1 => spec_CacheOk.b0 k (spec_CacheOk.l1 k (spec_CacheOk.l0 k n) k) (spec_CacheOk.l0 k n)
def spec_CacheOk.t (k : Nat) (L0 : Int → Int → List (Ty.den TSlot) → Int → Option (Bool × Unit)) (a0 : Ty.den TCache) : Option (Bool × Unit) :=
  (Option.bind (spec_l1In.f k a0.1 1 10) fun r1 =>
  (bif (!r1.1) then
  (some (false, ()))
  else
  (bif (decide ((List.length a0.2.1 : Int) > a0.1)) then
  (some (false, ()))
  else
  (bif (decide (a0.2.2.1 < 0)) then
  (some (false, ()))
  else
  (L0 0 a0.1 a0.2.1 a0.2.2.1)))))
def spec_CacheOk.f (k : Nat) (a0 : Ty.den TCache) : Option (Bool × Unit) := spec_CacheOk.t k (spec_CacheOk.l0 k k) a0
def impl_slotAt.b0 (k : Nat) (L0 : ByteArray → List (Ty.den TSlot) → Int → Int → Option (Int × Unit)) (x0_0 : ByteArray) (x0_1 : List (Ty.den TSlot)) (x0_2 : Int) (x0_3 : Int) : Option (Int × Unit) :=
  (bif (decide (x0_3 < x0_2)) then
  (inb x0_3 (List.length x0_1 : Int)
  (bif (seq (List.getD x0_1 (Int.toNat x0_3) (Ty.dflt TSlot)).1 x0_0) then
  (some (x0_3, ()))
  else
  (L0 x0_0 x0_1 x0_2 (w64 (x0_3 + 1)))))
  else
  (some ((-1), ())))
def impl_slotAt.l0 (k : Nat) : Nat → ByteArray → List (Ty.den TSlot) → Int → Int → Option (Int × Unit)
  | 0 => fun _ _ _ _ => none
  | n + 1 => impl_slotAt.b0 k (impl_slotAt.l0 k n)
def impl_slotAt.t (k : Nat) (L0 : ByteArray → List (Ty.den TSlot) → Int → Int → Option (Int × Unit)) (a0 : List (Ty.den TSlot)) (a1 : ByteArray) : Option (Int × Unit) :=
  (L0 a1 a0 (List.length a0 : Int) 0)
def impl_slotAt.f (k : Nat) (a0 : List (Ty.den TSlot)) (a1 : ByteArray) : Option (Int × Unit) := impl_slotAt.t k (impl_slotAt.l0 k k) a0 a1
def impl_CacheOk.b0 (k : Nat) (L0 : List (Ty.den TSlot) → Int → Int → Int → List (Ty.den TSlot) → Int → Option (Bool × Unit)) (x0_0 : List (Ty.den TSlot)) (x0_1 : Int) (x0_2 : Int) (x0_3 : Int) (x0_4 : List (Ty.den TSlot)) (x0_5 : Int) : Option (Bool × Unit) :=
  (bif (decide (x0_2 < x0_1)) then
  (inb x0_2 (List.length x0_0 : Int)
  (inc x0_2 (List.length x0_4 : Int)
  (Option.bind (impl_slotAt.f k (List.take (Int.toNat x0_2) x0_4) (List.getD x0_0 (Int.toNat x0_2) (Ty.dflt TSlot)).1) fun r1 =>
  (bif (decide (r1.1 ≥ 0)) then
  (some (false, ()))
  else
  (L0 x0_0 x0_1 (w64 (x0_2 + 1)) x0_3 x0_4 x0_5)))))
  else
  (Option.bind (impl_in.f k x0_3 1 10) fun r2 =>
  (bif r2.1 then
  (bif (decide ((List.length x0_4 : Int) ≤ x0_3)) then
  (some ((decide (x0_5 ≥ 0)), ()))
  else
  (some (false, ())))
  else
  (some (false, ())))))
def impl_CacheOk.l0 (k : Nat) : Nat → List (Ty.den TSlot) → Int → Int → Int → List (Ty.den TSlot) → Int → Option (Bool × Unit)
  | 0 => fun _ _ _ _ _ _ => none
  | n + 1 => impl_CacheOk.b0 k (impl_CacheOk.l0 k n)
def impl_CacheOk.t (k : Nat) (L0 : List (Ty.den TSlot) → Int → Int → Int → List (Ty.den TSlot) → Int → Option (Bool × Unit)) (a0 : Ty.den TCache) : Option (Bool × Unit) :=
  (L0 a0.2.1 (List.length a0.2.1 : Int) 0 a0.1 a0.2.1 a0.2.2.1)
def impl_CacheOk.f (k : Nat) (a0 : Ty.den TCache) : Option (Bool × Unit) := impl_CacheOk.t k (impl_CacheOk.l0 k k) a0
def laws_eqSlot.t (k : Nat) (a0 : Ty.den TSlot) (a1 : Ty.den TSlot) : Option (Bool × Unit) :=
  (bif (!(seq a0.1 a1.1)) then
  (some (false, ()))
  else
  (bif (a0.2.1 != a1.2.1) then
  (some (false, ()))
  else
  (bif (!(seq a0.2.2.1 a1.2.2.1)) then
  (some (false, ()))
  else
  (some (true, ())))))
def laws_eqSlot.f (k : Nat) (a0 : Ty.den TSlot) (a1 : Ty.den TSlot) : Option (Bool × Unit) := laws_eqSlot.t k a0 a1
def laws_eqSlotS.b0 (k : Nat) (L0 : List (Ty.den TSlot) → List (Ty.den TSlot) → Int → Option (Bool × Unit)) (x0_0 : List (Ty.den TSlot)) (x0_1 : List (Ty.den TSlot)) (x0_2 : Int) : Option (Bool × Unit) :=
  (bif (decide (x0_2 < (List.length x0_0 : Int))) then
  (inb x0_2 (List.length x0_0 : Int)
  (inb x0_2 (List.length x0_1 : Int)
  (Option.bind (laws_eqSlot.f k (List.getD x0_0 (Int.toNat x0_2) (Ty.dflt TSlot)) (List.getD x0_1 (Int.toNat x0_2) (Ty.dflt TSlot))) fun r1 =>
  (bif (!r1.1) then
  (some (false, ()))
  else
  (L0 x0_0 x0_1 (w64 (x0_2 + 1)))))))
  else
  (some (true, ())))
def laws_eqSlotS.l0 (k : Nat) : Nat → List (Ty.den TSlot) → List (Ty.den TSlot) → Int → Option (Bool × Unit)
  | 0 => fun _ _ _ => none
  | n + 1 => laws_eqSlotS.b0 k (laws_eqSlotS.l0 k n)
def laws_eqSlotS.t (k : Nat) (L0 : List (Ty.den TSlot) → List (Ty.den TSlot) → Int → Option (Bool × Unit)) (a0 : List (Ty.den TSlot)) (a1 : List (Ty.den TSlot)) : Option (Bool × Unit) :=
  (bif ((List.length a0 : Int) != (List.length a1 : Int)) then
  (some (false, ()))
  else
  (L0 a0 a1 0))
def laws_eqSlotS.f (k : Nat) (a0 : List (Ty.den TSlot)) (a1 : List (Ty.den TSlot)) : Option (Bool × Unit) := laws_eqSlotS.t k (laws_eqSlotS.l0 k k) a0 a1
def laws_eqCache.t (k : Nat) (a0 : Ty.den TCache) (a1 : Ty.den TCache) : Option (Bool × Unit) :=
  (bif (a0.1 != a1.1) then
  (some (false, ()))
  else
  (Option.bind (laws_eqSlotS.f k a0.2.1 a1.2.1) fun r1 =>
  (bif (!r1.1) then
  (some (false, ()))
  else
  (bif (a0.2.2.1 != a1.2.2.1) then
  (some (false, ()))
  else
  (some (true, ()))))))
def laws_eqCache.f (k : Nat) (a0 : Ty.den TCache) (a1 : Ty.den TCache) : Option (Bool × Unit) := laws_eqCache.t k a0 a1
def laws_FnExactCacheOk.t (k : Nat) (a0 : Ty.den TCache) : Option (Bool × Unit) :=
  (Option.bind (laws_szCache.f k a0 1048576) fun r1 =>
  (bif (decide (r1.1 < 0)) then
  (some (true, ()))
  else
  (Option.bind (laws_toCache.f k a0) fun r2 =>
  (Option.bind (spec_CacheOk.f k r2.1) fun r3 =>
  (Option.bind (laws_toCache.f k a0) fun r4 =>
  (Option.bind (impl_CacheOk.f k r4.1) fun r5 =>
  (bif (!(r5.1 == r3.1)) then
  (some (false, ()))
  else
  (Option.bind (laws_toCache.f k a0) fun r6 =>
  (Option.bind (laws_eqCache.f k r4.1 r6.1) fun r7 =>
  (bif (!r7.1) then
  (some (false, ()))
  else
  (some (true, ()))))))))))))
def laws_FnExactCacheOk.f (k : Nat) (a0 : Ty.den TCache) : Option (Bool × Unit) := laws_FnExactCacheOk.t k a0
def spec_l14Keep.t (k : Nat) (a0 : Ty.den TPair) : Option ((Ty.den TRec) × Unit) :=
  (some ((4, (a0.2.2.1, (a0.1, (a0.2.1, (0, (0, ())))))), ()))
def spec_l14Keep.f (k : Nat) (a0 : Ty.den TPair) : Option ((Ty.den TRec) × Unit) := spec_l14Keep.t k a0
def spec_RecOk.t (k : Nat) (a0 : Ty.den TRec) : Option (Bool × Unit) :=
  (Option.bind (spec_l1In.f k a0.2.1 0 1000000) fun r1 =>
  (bif (!r1.1) then
  (some (false, ()))
  else
  (bif (a0.2.1 == 0) then
  (bif (a0.1 != 5) then
  (some (false, ()))
  else
  (bif (a0.1 == 1) then
  (bif (a0.1 == 1) then
  (Option.bind (spec_KeyOk.f k a0.2.2.1) fun r2 =>
  (bif r2.1 then
  (bif (decide ((ByteArray.size a0.2.2.2.1 : Int) ≤ 24)) then
  (bif (a0.2.2.2.2.1 == 0) then
  (some ((a0.2.2.2.2.2.1 == 0), ()))
  else
  (some (false, ())))
  else
  (some (false, ())))
  else
  (some (false, ()))))
  else
  (bif (a0.1 == 2) then
  (Option.bind (spec_KeyOk.f k a0.2.2.1) fun r3 =>
  (bif r3.1 then
  (bif (seq a0.2.2.2.1 (⟨#[]⟩ : ByteArray)) then
  (bif (a0.2.2.2.2.1 == 0) then
  (some ((a0.2.2.2.2.2.1 == 0), ()))
  else
  (some (false, ())))
  else
  (some (false, ())))
  else
  (some (false, ()))))
  else
  (bif (a0.1 == 3) then
  (bif (seq a0.2.2.1 (⟨#[]⟩ : ByteArray)) then
  (bif (seq a0.2.2.2.1 (⟨#[]⟩ : ByteArray)) then
  (Option.bind (spec_l1In.f k a0.2.2.2.2.1 0 8) fun r4 =>
  (bif r4.1 then
  (Option.bind (spec_l1In.f k a0.2.2.2.2.2.1 0 4294967295) fun r5 =>
  (some r5))
  else
  (some (false, ()))))
  else
  (some (false, ())))
  else
  (some (false, ())))
  else
  (bif (a0.1 == 5) then
  (bif (seq a0.2.2.1 (⟨#[]⟩ : ByteArray)) then
  (bif (seq a0.2.2.2.1 (⟨#[]⟩ : ByteArray)) then
  (Option.bind (spec_l1In.f k a0.2.2.2.2.1 0 20) fun r6 =>
  (bif r6.1 then
  (Option.bind (spec_l1In.f k a0.2.2.2.2.2.1 0 4294967295) fun r7 =>
  (some r7))
  else
  (some (false, ()))))
  else
  (some (false, ())))
  else
  (some (false, ())))
  else
  (some (false, ()))))))
  else
  (bif (a0.1 == 4) then
  (Option.bind (spec_KeyOk.f k a0.2.2.1) fun r8 =>
  (bif r8.1 then
  (bif (decide ((ByteArray.size a0.2.2.2.1 : Int) ≤ 24)) then
  (bif (a0.2.2.2.2.1 == 0) then
  (some ((a0.2.2.2.2.2.1 == 0), ()))
  else
  (some (false, ())))
  else
  (some (false, ())))
  else
  (some (false, ()))))
  else
  (bif (a0.1 == 2) then
  (Option.bind (spec_KeyOk.f k a0.2.2.1) fun r9 =>
  (bif r9.1 then
  (bif (seq a0.2.2.2.1 (⟨#[]⟩ : ByteArray)) then
  (bif (a0.2.2.2.2.1 == 0) then
  (some ((a0.2.2.2.2.2.1 == 0), ()))
  else
  (some (false, ())))
  else
  (some (false, ())))
  else
  (some (false, ()))))
  else
  (bif (a0.1 == 3) then
  (bif (seq a0.2.2.1 (⟨#[]⟩ : ByteArray)) then
  (bif (seq a0.2.2.2.1 (⟨#[]⟩ : ByteArray)) then
  (Option.bind (spec_l1In.f k a0.2.2.2.2.1 0 8) fun r10 =>
  (bif r10.1 then
  (Option.bind (spec_l1In.f k a0.2.2.2.2.2.1 0 4294967295) fun r11 =>
  (some r11))
  else
  (some (false, ()))))
  else
  (some (false, ())))
  else
  (some (false, ())))
  else
  (bif (a0.1 == 5) then
  (bif (seq a0.2.2.1 (⟨#[]⟩ : ByteArray)) then
  (bif (seq a0.2.2.2.1 (⟨#[]⟩ : ByteArray)) then
  (Option.bind (spec_l1In.f k a0.2.2.2.2.1 0 20) fun r12 =>
  (bif r12.1 then
  (Option.bind (spec_l1In.f k a0.2.2.2.2.2.1 0 4294967295) fun r13 =>
  (some r13))
  else
  (some (false, ()))))
  else
  (some (false, ())))
  else
  (some (false, ())))
  else
  (some (false, ()))))))))
  else
  (bif (a0.1 == 1) then
  (bif (a0.1 == 1) then
  (Option.bind (spec_KeyOk.f k a0.2.2.1) fun r14 =>
  (bif r14.1 then
  (bif (decide ((ByteArray.size a0.2.2.2.1 : Int) ≤ 24)) then
  (bif (a0.2.2.2.2.1 == 0) then
  (some ((a0.2.2.2.2.2.1 == 0), ()))
  else
  (some (false, ())))
  else
  (some (false, ())))
  else
  (some (false, ()))))
  else
  (bif (a0.1 == 2) then
  (Option.bind (spec_KeyOk.f k a0.2.2.1) fun r15 =>
  (bif r15.1 then
  (bif (seq a0.2.2.2.1 (⟨#[]⟩ : ByteArray)) then
  (bif (a0.2.2.2.2.1 == 0) then
  (some ((a0.2.2.2.2.2.1 == 0), ()))
  else
  (some (false, ())))
  else
  (some (false, ())))
  else
  (some (false, ()))))
  else
  (bif (a0.1 == 3) then
  (bif (seq a0.2.2.1 (⟨#[]⟩ : ByteArray)) then
  (bif (seq a0.2.2.2.1 (⟨#[]⟩ : ByteArray)) then
  (Option.bind (spec_l1In.f k a0.2.2.2.2.1 0 8) fun r16 =>
  (bif r16.1 then
  (Option.bind (spec_l1In.f k a0.2.2.2.2.2.1 0 4294967295) fun r17 =>
  (some r17))
  else
  (some (false, ()))))
  else
  (some (false, ())))
  else
  (some (false, ())))
  else
  (bif (a0.1 == 5) then
  (bif (seq a0.2.2.1 (⟨#[]⟩ : ByteArray)) then
  (bif (seq a0.2.2.2.1 (⟨#[]⟩ : ByteArray)) then
  (Option.bind (spec_l1In.f k a0.2.2.2.2.1 0 20) fun r18 =>
  (bif r18.1 then
  (Option.bind (spec_l1In.f k a0.2.2.2.2.2.1 0 4294967295) fun r19 =>
  (some r19))
  else
  (some (false, ()))))
  else
  (some (false, ())))
  else
  (some (false, ())))
  else
  (some (false, ()))))))
  else
  (bif (a0.1 == 4) then
  (Option.bind (spec_KeyOk.f k a0.2.2.1) fun r20 =>
  (bif r20.1 then
  (bif (decide ((ByteArray.size a0.2.2.2.1 : Int) ≤ 24)) then
  (bif (a0.2.2.2.2.1 == 0) then
  (some ((a0.2.2.2.2.2.1 == 0), ()))
  else
  (some (false, ())))
  else
  (some (false, ())))
  else
  (some (false, ()))))
  else
  (bif (a0.1 == 2) then
  (Option.bind (spec_KeyOk.f k a0.2.2.1) fun r21 =>
  (bif r21.1 then
  (bif (seq a0.2.2.2.1 (⟨#[]⟩ : ByteArray)) then
  (bif (a0.2.2.2.2.1 == 0) then
  (some ((a0.2.2.2.2.2.1 == 0), ()))
  else
  (some (false, ())))
  else
  (some (false, ())))
  else
  (some (false, ()))))
  else
  (bif (a0.1 == 3) then
  (bif (seq a0.2.2.1 (⟨#[]⟩ : ByteArray)) then
  (bif (seq a0.2.2.2.1 (⟨#[]⟩ : ByteArray)) then
  (Option.bind (spec_l1In.f k a0.2.2.2.2.1 0 8) fun r22 =>
  (bif r22.1 then
  (Option.bind (spec_l1In.f k a0.2.2.2.2.2.1 0 4294967295) fun r23 =>
  (some r23))
  else
  (some (false, ()))))
  else
  (some (false, ())))
  else
  (some (false, ())))
  else
  (bif (a0.1 == 5) then
  (bif (seq a0.2.2.1 (⟨#[]⟩ : ByteArray)) then
  (bif (seq a0.2.2.2.1 (⟨#[]⟩ : ByteArray)) then
  (Option.bind (spec_l1In.f k a0.2.2.2.2.1 0 20) fun r24 =>
  (bif r24.1 then
  (Option.bind (spec_l1In.f k a0.2.2.2.2.2.1 0 4294967295) fun r25 =>
  (some r25))
  else
  (some (false, ()))))
  else
  (some (false, ())))
  else
  (some (false, ())))
  else
  (some (false, ()))))))))))
def spec_RecOk.f (k : Nat) (a0 : Ty.den TRec) : Option (Bool × Unit) := spec_RecOk.t k a0
def spec_Var.b0 (k : Nat) (L0 : Int → List Int → Option (ByteArray × Unit)) (x0_0 : Int) (x0_1 : List Int) : Option (ByteArray × Unit) :=
  (bif (decide (x0_0 ≥ 128)) then
  (rm (Ty.bytes (.int .u8)) (List.length x0_1 + 1)
  (L0 (w64 (Int.tdiv x0_0 128)) (x0_1 ++ [(IntKind.wrap .u8 (w64 (128 + (Int.tmod x0_0 128))))])))
  else
  (rm (Ty.bytes (.int .u8)) (List.length x0_1 + 1)
  (some ((bytesOf (x0_1 ++ [(IntKind.wrap .u8 x0_0)])), ()))))
def spec_Var.l0 (k : Nat) : Nat → Int → List Int → Option (ByteArray × Unit)
  | 0 => fun _ _ => none
  | n + 1 => spec_Var.b0 k (spec_Var.l0 k n)
def spec_Var.t (k : Nat) (L0 : Int → List Int → Option (ByteArray × Unit)) (a0 : Int) : Option (ByteArray × Unit) :=
  (Option.bind (spec_l1In.f k a0 0 562949953421311) fun r1 =>
  (bif (!r1.1) then
  (some ((⟨#[]⟩ : ByteArray), ()))
  else
  (L0 a0 [])))
def spec_Var.f (k : Nat) (a0 : Int) : Option (ByteArray × Unit) := spec_Var.t k (spec_Var.l0 k k) a0
def spec_Fixed.b0 (k : Nat) (L0 : Int → Int → ByteArray → Int → Option (ByteArray × Unit)) (x0_0 : Int) (x0_1 : Int) (x0_2 : ByteArray) (x0_3 : Int) : Option (ByteArray × Unit) :=
  (bif (decide (x0_3 < x0_1)) then
  (cat (bytesOf [(IntKind.wrap .u8 (Int.tmod x0_0 256))]) x0_2
  (L0 (w64 (Int.tdiv x0_0 256)) x0_1 ((bytesOf [(IntKind.wrap .u8 (Int.tmod x0_0 256))]) ++ x0_2) (w64 (x0_3 + 1))))
  else
  (bif (decide (x0_0 > 0)) then
  (some ((⟨#[]⟩ : ByteArray), ()))
  else
  (some (x0_2, ()))))
def spec_Fixed.l0 (k : Nat) : Nat → Int → Int → ByteArray → Int → Option (ByteArray × Unit)
  | 0 => fun _ _ _ _ => none
  | n + 1 => spec_Fixed.b0 k (spec_Fixed.l0 k n)
def spec_Fixed.t (k : Nat) (L0 : Int → Int → ByteArray → Int → Option (ByteArray × Unit)) (a0 : Int) (a1 : Int) : Option (ByteArray × Unit) :=
  (Option.bind (spec_l1In.f k a1 1 7) fun r1 =>
  (bif (!r1.1) then
  (some ((⟨#[]⟩ : ByteArray), ()))
  else
  (bif (decide (a0 < 0)) then
  (some ((⟨#[]⟩ : ByteArray), ()))
  else
  (L0 a0 a1 (⟨#[]⟩ : ByteArray) 0))))
def spec_Fixed.f (k : Nat) (a0 : Int) (a1 : Int) : Option (ByteArray × Unit) := spec_Fixed.t k (spec_Fixed.l0 k k) a0 a1
def spec_ShowRec.t (k : Nat) (a0 : Ty.den TRec) : Option (ByteArray × Unit) :=
  (Option.bind (spec_RecOk.f k a0) fun r1 =>
  (bif (!r1.1) then
  (some ((⟨#[]⟩ : ByteArray), ()))
  else
  (Option.bind (spec_Var.f k a0.1) fun r2 =>
  (Option.bind (spec_Var.f k a0.2.1) fun r3 =>
  (cat r2.1 r3.1
  (bif (a0.1 == 1) then
  (bif (a0.1 == 1) then
  (Option.bind (spec_Var.f k (ByteArray.size a0.2.2.1 : Int)) fun r4 =>
  (cat (r2.1 ++ r3.1) r4.1
  (cat ((r2.1 ++ r3.1) ++ r4.1) a0.2.2.1
  (Option.bind (spec_Var.f k (ByteArray.size a0.2.2.2.1 : Int)) fun r5 =>
  (cat (((r2.1 ++ r3.1) ++ r4.1) ++ a0.2.2.1) r5.1
  (cat ((((r2.1 ++ r3.1) ++ r4.1) ++ a0.2.2.1) ++ r5.1) a0.2.2.2.1
  (some ((((((r2.1 ++ r3.1) ++ r4.1) ++ a0.2.2.1) ++ r5.1) ++ a0.2.2.2.1), ()))))))))
  else
  (bif (a0.1 == 2) then
  (Option.bind (spec_Var.f k (ByteArray.size a0.2.2.1 : Int)) fun r6 =>
  (cat (r2.1 ++ r3.1) r6.1
  (cat ((r2.1 ++ r3.1) ++ r6.1) a0.2.2.1
  (some ((((r2.1 ++ r3.1) ++ r6.1) ++ a0.2.2.1), ())))))
  else
  (Option.bind (spec_Var.f k a0.2.2.2.2.1) fun r7 =>
  (cat (r2.1 ++ r3.1) r7.1
  (Option.bind (spec_Fixed.f k a0.2.2.2.2.2.1 4) fun r8 =>
  (cat ((r2.1 ++ r3.1) ++ r7.1) r8.1
  (some ((((r2.1 ++ r3.1) ++ r7.1) ++ r8.1), ()))))))))
  else
  (bif (a0.1 == 4) then
  (Option.bind (spec_Var.f k (ByteArray.size a0.2.2.1 : Int)) fun r9 =>
  (cat (r2.1 ++ r3.1) r9.1
  (cat ((r2.1 ++ r3.1) ++ r9.1) a0.2.2.1
  (Option.bind (spec_Var.f k (ByteArray.size a0.2.2.2.1 : Int)) fun r10 =>
  (cat (((r2.1 ++ r3.1) ++ r9.1) ++ a0.2.2.1) r10.1
  (cat ((((r2.1 ++ r3.1) ++ r9.1) ++ a0.2.2.1) ++ r10.1) a0.2.2.2.1
  (some ((((((r2.1 ++ r3.1) ++ r9.1) ++ a0.2.2.1) ++ r10.1) ++ a0.2.2.2.1), ()))))))))
  else
  (bif (a0.1 == 2) then
  (Option.bind (spec_Var.f k (ByteArray.size a0.2.2.1 : Int)) fun r11 =>
  (cat (r2.1 ++ r3.1) r11.1
  (cat ((r2.1 ++ r3.1) ++ r11.1) a0.2.2.1
  (some ((((r2.1 ++ r3.1) ++ r11.1) ++ a0.2.2.1), ())))))
  else
  (Option.bind (spec_Var.f k a0.2.2.2.2.1) fun r12 =>
  (cat (r2.1 ++ r3.1) r12.1
  (Option.bind (spec_Fixed.f k a0.2.2.2.2.2.1 4) fun r13 =>
  (cat ((r2.1 ++ r3.1) ++ r12.1) r13.1
  (some ((((r2.1 ++ r3.1) ++ r12.1) ++ r13.1), ()))))))))))))))
def spec_ShowRec.f (k : Nat) (a0 : Ty.den TRec) : Option (ByteArray × Unit) := spec_ShowRec.t k a0
def spec_Crc.b1 (k : Nat) (L0 : ByteArray → Int → Int → Option (Int × Unit)) (L1 : ByteArray → Int → Int → Int → Option (Int × Unit)) (x1_0 : ByteArray) (x1_1 : Int) (x1_2 : Int) (x1_3 : Int) : Option (Int × Unit) :=
  (bif (decide (x1_3 < 8)) then
  (bif ((Int.tmod x1_1 2) == 1) then
  (L1 x1_0 (w64 (((BitVec.ofInt (IntKind.bits .i64) (w64 (Int.tdiv x1_1 2)) ^^^ BitVec.ofInt (IntKind.bits .i64) 2197175160).toNat : Int))) x1_2 (w64 (x1_3 + 1)))
  else
  (L1 x1_0 (w64 (Int.tdiv x1_1 2)) x1_2 (w64 (x1_3 + 1))))
  else
  (L0 x1_0 x1_1 (w64 (x1_2 + 1))))
def spec_Crc.l1 (k : Nat) (L0 : ByteArray → Int → Int → Option (Int × Unit)) : Nat → ByteArray → Int → Int → Int → Option (Int × Unit)
  | 0 => fun _ _ _ _ => none
  | n + 1 => spec_Crc.b1 k L0 (spec_Crc.l1 k L0 n)
def spec_Crc.b0 (k : Nat) (L1 : ByteArray → Int → Int → Int → Option (Int × Unit)) (L0 : ByteArray → Int → Int → Option (Int × Unit)) (x0_0 : ByteArray) (x0_1 : Int) (x0_2 : Int) : Option (Int × Unit) :=
  (bif (decide (x0_2 < (ByteArray.size x0_0 : Int))) then
  (inb x0_2 (ByteArray.size x0_0 : Int)
  (L1 x0_0 (w64 (((BitVec.ofInt (IntKind.bits .i64) x0_1 ^^^ BitVec.ofInt (IntKind.bits .i64) (w64 (byteAt x0_0 x0_2))).toNat : Int))) x0_2 0))
  else
  (some ((w64 (4294967295 - x0_1)), ())))
def spec_Crc.l0 (k : Nat) : Nat → ByteArray → Int → Int → Option (Int × Unit)
  | 0 => fun _ _ _ => none
  | n + 1 => spec_Crc.b0 k (spec_Crc.l1 k (spec_Crc.l0 k n) k) (spec_Crc.l0 k n)
def spec_Crc.t (k : Nat) (L0 : ByteArray → Int → Int → Option (Int × Unit)) (a0 : ByteArray) : Option (Int × Unit) :=
  (L0 a0 4294967295 0)
def spec_Crc.f (k : Nat) (a0 : ByteArray) : Option (Int × Unit) := spec_Crc.t k (spec_Crc.l0 k k) a0
def spec_Frame.t (k : Nat) (a0 : ByteArray) : Option (ByteArray × Unit) :=
  (bif (decide ((ByteArray.size a0 : Int) > 200)) then
  (some ((⟨#[]⟩ : ByteArray), ()))
  else
  (Option.bind (spec_Var.f k (ByteArray.size a0 : Int)) fun r1 =>
  (cat r1.1 a0
  (Option.bind (spec_Crc.f k (r1.1 ++ a0)) fun r2 =>
  (Option.bind (spec_Fixed.f k r2.1 4) fun r3 =>
  (cat r3.1 (r1.1 ++ a0)
  (some ((r3.1 ++ (r1.1 ++ a0)), ()))))))))
def spec_Frame.f (k : Nat) (a0 : ByteArray) : Option (ByteArray × Unit) := spec_Frame.t k a0
def spec_SumOf.b0 (k : Nat) (L0 : List (Ty.den TRec) → ByteArray → Int → Option (Int × Unit)) (x0_0 : List (Ty.den TRec)) (x0_1 : ByteArray) (x0_2 : Int) : Option (Int × Unit) :=
  (bif (decide (x0_2 < (List.length x0_0 : Int))) then
  (inb x0_2 (List.length x0_0 : Int)
  (Option.bind (spec_ShowRec.f k (List.getD x0_0 (Int.toNat x0_2) (Ty.dflt TRec))) fun r1 =>
  (cat x0_1 r1.1
  (L0 x0_0 (x0_1 ++ r1.1) (w64 (x0_2 + 1))))))
  else
  (Option.bind (spec_Crc.f k x0_1) fun r2 =>
  (some r2)))
def spec_SumOf.l0 (k : Nat) : Nat → List (Ty.den TRec) → ByteArray → Int → Option (Int × Unit)
  | 0 => fun _ _ _ => none
  | n + 1 => spec_SumOf.b0 k (spec_SumOf.l0 k n)
def spec_SumOf.t (k : Nat) (L0 : List (Ty.den TRec) → ByteArray → Int → Option (Int × Unit)) (a0 : List (Ty.den TRec)) : Option (Int × Unit) :=
  (L0 a0 (⟨#[]⟩ : ByteArray) 0)
def spec_SumOf.f (k : Nat) (a0 : List (Ty.den TRec)) : Option (Int × Unit) := spec_SumOf.t k (spec_SumOf.l0 k k) a0
def spec_l9Seal.t (k : Nat) (a0 : List (Ty.den TRec)) (a1 : Int) (a2 : Int) : Option ((Ty.den TRec) × Unit) :=
  (Option.bind (spec_SumOf.f k a0) fun r1 =>
  (some ((a2, (a1, (ByteArray.empty, (ByteArray.empty, ((List.length a0 : Int), r1))))), ())))
def spec_l9Seal.f (k : Nat) (a0 : List (Ty.den TRec)) (a1 : Int) (a2 : Int) : Option ((Ty.den TRec) × Unit) := spec_l9Seal.t k a0 a1 a2
def spec_ShowPairs.b0 (k : Nat) (L0 : List (Ty.den TPair) → ByteArray → Int → List (Ty.den TRec) → Option (ByteArray × Unit)) (x0_0 : List (Ty.den TPair)) (x0_1 : ByteArray) (x0_2 : Int) (x0_3 : List (Ty.den TRec)) : Option (ByteArray × Unit) :=
  (bif (decide (x0_2 < (List.length x0_0 : Int))) then
  (inb x0_2 (List.length x0_0 : Int)
  (Option.bind (spec_l14Keep.f k (List.getD x0_0 (Int.toNat x0_2) (Ty.dflt TPair))) fun r2 =>
  (rm (Ty.bytes TRec) (List.length x0_3 + 1)
  (inb x0_2 (List.length x0_0 : Int)
  (Option.bind (spec_l14Keep.f k (List.getD x0_0 (Int.toNat x0_2) (Ty.dflt TPair))) fun r3 =>
  (Option.bind (spec_ShowRec.f k r3.1) fun r4 =>
  (Option.bind (spec_Frame.f k r4.1) fun r5 =>
  (cat x0_1 r5.1
  (L0 x0_0 (x0_1 ++ r5.1) (w64 (x0_2 + 1)) (x0_3 ++ [r2.1]))))))))))
  else
  (Option.bind (spec_l9Seal.f k x0_3 0 5) fun r6 =>
  (Option.bind (spec_ShowRec.f k r6.1) fun r7 =>
  (Option.bind (spec_Frame.f k r7.1) fun r8 =>
  (cat x0_1 r8.1
  (some ((x0_1 ++ r8.1), ())))))))
def spec_ShowPairs.l0 (k : Nat) : Nat → List (Ty.den TPair) → ByteArray → Int → List (Ty.den TRec) → Option (ByteArray × Unit)
  | 0 => fun _ _ _ _ => none
  | n + 1 => spec_ShowPairs.b0 k (spec_ShowPairs.l0 k n)
def spec_ShowPairs.t (k : Nat) (L0 : List (Ty.den TPair) → ByteArray → Int → List (Ty.den TRec) → Option (ByteArray × Unit)) (a0 : List (Ty.den TPair)) : Option (ByteArray × Unit) :=
  (Option.bind (spec_PairsOk.f k a0) fun r1 =>
  (bif (!r1.1) then
  (some ((⟨#[]⟩ : ByteArray), ()))
  else
  (L0 a0 (⟨#[]⟩ : ByteArray) 0 [])))
def spec_ShowPairs.f (k : Nat) (a0 : List (Ty.den TPair)) : Option (ByteArray × Unit) := spec_ShowPairs.t k (spec_ShowPairs.l0 k k) a0
def impl_RecOk.t (k : Nat) (a0 : Ty.den TRec) : Option (Bool × Unit) :=
  (bif (a0.1 == 1) then
  (bif (a0.1 == 1) then
  (Option.bind (impl_KeyOk.f k a0.2.2.1) fun r1 =>
  (bif r1.1 then
  (bif (decide ((ByteArray.size a0.2.2.2.1 : Int) ≤ 24)) then
  (Option.bind (impl_in.f k a0.2.1 1 1000000) fun r2 =>
  (bif r2.1 then
  (some (((a0.1 == a0.1) && ((a0.2.1 == a0.2.1) && ((seq a0.2.2.1 a0.2.2.1) && ((seq a0.2.2.2.1 a0.2.2.2.1) && ((a0.2.2.2.2.1 == 0) && (a0.2.2.2.2.2.1 == 0)))))), ()))
  else
  (some (false, ()))))
  else
  (some (false, ())))
  else
  (some (false, ()))))
  else
  (bif (a0.1 == 2) then
  (Option.bind (impl_KeyOk.f k a0.2.2.1) fun r3 =>
  (bif r3.1 then
  (Option.bind (impl_in.f k a0.2.1 1 1000000) fun r4 =>
  (bif r4.1 then
  (some (((a0.1 == a0.1) && ((a0.2.1 == a0.2.1) && ((seq a0.2.2.1 a0.2.2.1) && ((seq a0.2.2.2.1 ByteArray.empty) && ((a0.2.2.2.2.1 == 0) && (a0.2.2.2.2.2.1 == 0)))))), ()))
  else
  (some (false, ()))))
  else
  (some (false, ()))))
  else
  (bif (a0.1 == 3) then
  (Option.bind (impl_in.f k a0.2.2.2.2.1 0 8) fun r5 =>
  (bif r5.1 then
  (Option.bind (impl_in.f k a0.2.2.2.2.2.1 0 4294967295) fun r6 =>
  (bif r6.1 then
  (Option.bind (impl_in.f k a0.2.1 1 1000000) fun r7 =>
  (bif r7.1 then
  (some (((a0.1 == a0.1) && ((a0.2.1 == a0.2.1) && ((seq a0.2.2.1 ByteArray.empty) && ((seq a0.2.2.2.1 ByteArray.empty) && ((a0.2.2.2.2.1 == a0.2.2.2.2.1) && (a0.2.2.2.2.2.1 == a0.2.2.2.2.2.1)))))), ()))
  else
  (some (false, ()))))
  else
  (some (false, ()))))
  else
  (some (false, ()))))
  else
  (bif (a0.1 == 5) then
  (Option.bind (impl_in.f k a0.2.2.2.2.1 0 20) fun r8 =>
  (bif r8.1 then
  (Option.bind (impl_in.f k a0.2.2.2.2.2.1 0 4294967295) fun r9 =>
  (bif r9.1 then
  (Option.bind (impl_in.f k a0.2.1 0 1000000) fun r10 =>
  (bif r10.1 then
  (some (((a0.1 == a0.1) && ((a0.2.1 == a0.2.1) && ((seq a0.2.2.1 ByteArray.empty) && ((seq a0.2.2.2.1 ByteArray.empty) && ((a0.2.2.2.2.1 == a0.2.2.2.2.1) && (a0.2.2.2.2.2.1 == a0.2.2.2.2.2.1)))))), ()))
  else
  (some (false, ()))))
  else
  (some (false, ()))))
  else
  (some (false, ()))))
  else
  (some (false, ()))))))
  else
  (bif (a0.1 == 4) then
  (Option.bind (impl_KeyOk.f k a0.2.2.1) fun r11 =>
  (bif r11.1 then
  (bif (decide ((ByteArray.size a0.2.2.2.1 : Int) ≤ 24)) then
  (Option.bind (impl_in.f k a0.2.1 1 1000000) fun r12 =>
  (bif r12.1 then
  (some (((a0.1 == a0.1) && ((a0.2.1 == a0.2.1) && ((seq a0.2.2.1 a0.2.2.1) && ((seq a0.2.2.2.1 a0.2.2.2.1) && ((a0.2.2.2.2.1 == 0) && (a0.2.2.2.2.2.1 == 0)))))), ()))
  else
  (some (false, ()))))
  else
  (some (false, ())))
  else
  (some (false, ()))))
  else
  (bif (a0.1 == 2) then
  (Option.bind (impl_KeyOk.f k a0.2.2.1) fun r13 =>
  (bif r13.1 then
  (Option.bind (impl_in.f k a0.2.1 1 1000000) fun r14 =>
  (bif r14.1 then
  (some (((a0.1 == a0.1) && ((a0.2.1 == a0.2.1) && ((seq a0.2.2.1 a0.2.2.1) && ((seq a0.2.2.2.1 ByteArray.empty) && ((a0.2.2.2.2.1 == 0) && (a0.2.2.2.2.2.1 == 0)))))), ()))
  else
  (some (false, ()))))
  else
  (some (false, ()))))
  else
  (bif (a0.1 == 3) then
  (Option.bind (impl_in.f k a0.2.2.2.2.1 0 8) fun r15 =>
  (bif r15.1 then
  (Option.bind (impl_in.f k a0.2.2.2.2.2.1 0 4294967295) fun r16 =>
  (bif r16.1 then
  (Option.bind (impl_in.f k a0.2.1 1 1000000) fun r17 =>
  (bif r17.1 then
  (some (((a0.1 == a0.1) && ((a0.2.1 == a0.2.1) && ((seq a0.2.2.1 ByteArray.empty) && ((seq a0.2.2.2.1 ByteArray.empty) && ((a0.2.2.2.2.1 == a0.2.2.2.2.1) && (a0.2.2.2.2.2.1 == a0.2.2.2.2.2.1)))))), ()))
  else
  (some (false, ()))))
  else
  (some (false, ()))))
  else
  (some (false, ()))))
  else
  (bif (a0.1 == 5) then
  (Option.bind (impl_in.f k a0.2.2.2.2.1 0 20) fun r18 =>
  (bif r18.1 then
  (Option.bind (impl_in.f k a0.2.2.2.2.2.1 0 4294967295) fun r19 =>
  (bif r19.1 then
  (Option.bind (impl_in.f k a0.2.1 0 1000000) fun r20 =>
  (bif r20.1 then
  (some (((a0.1 == a0.1) && ((a0.2.1 == a0.2.1) && ((seq a0.2.2.1 ByteArray.empty) && ((seq a0.2.2.2.1 ByteArray.empty) && ((a0.2.2.2.2.1 == a0.2.2.2.2.1) && (a0.2.2.2.2.2.1 == a0.2.2.2.2.2.1)))))), ()))
  else
  (some (false, ()))))
  else
  (some (false, ()))))
  else
  (some (false, ()))))
  else
  (some (false, ())))))))
def impl_RecOk.f (k : Nat) (a0 : Ty.den TRec) : Option (Bool × Unit) := impl_RecOk.t k a0
def impl_Var.b0 (k : Nat) (L0 : Int → List Int → Option (ByteArray × Unit)) (x0_0 : Int) (x0_1 : List Int) : Option (ByteArray × Unit) :=
  (bif (decide (x0_0 > 127)) then
  (rm (Ty.bytes (.int .u8)) (List.length x0_1 + 1)
  (L0 (w64 (Int.tdiv x0_0 128)) (x0_1 ++ [(IntKind.wrap .u8 (w64 ((Int.tmod x0_0 128) + 128)))])))
  else
  (rm (Ty.bytes (.int .u8)) (List.length x0_1 + 1)
  (some ((bytesOf (x0_1 ++ [(IntKind.wrap .u8 x0_0)])), ()))))
def impl_Var.l0 (k : Nat) : Nat → Int → List Int → Option (ByteArray × Unit)
  | 0 => fun _ _ => none
  | n + 1 => impl_Var.b0 k (impl_Var.l0 k n)
def impl_Var.t (k : Nat) (L0 : Int → List Int → Option (ByteArray × Unit)) (a0 : Int) : Option (ByteArray × Unit) :=
  (Option.bind (impl_in.f k a0 0 562949953421311) fun r1 =>
  (bif (!r1.1) then
  (some ((⟨#[]⟩ : ByteArray), ()))
  else
  (L0 a0 [])))
def impl_Var.f (k : Nat) (a0 : Int) : Option (ByteArray × Unit) := impl_Var.t k (impl_Var.l0 k k) a0
def impl_vars.b0 (k : Nat) (L0 : ByteArray → List Int → Int → Int → Option (ByteArray × Unit)) (x0_0 : ByteArray) (x0_1 : List Int) (x0_2 : Int) (x0_3 : Int) : Option (ByteArray × Unit) :=
  (bif (decide (x0_3 < x0_2)) then
  (inb x0_3 (List.length x0_1 : Int)
  (Option.bind (impl_Var.f k (List.getD x0_1 (Int.toNat x0_3) (Ty.dflt (.int .i64)))) fun r1 =>
  (cat x0_0 r1.1
  (L0 (x0_0 ++ r1.1) x0_1 x0_2 (w64 (x0_3 + 1))))))
  else
  (some (x0_0, ())))
def impl_vars.l0 (k : Nat) : Nat → ByteArray → List Int → Int → Int → Option (ByteArray × Unit)
  | 0 => fun _ _ _ _ => none
  | n + 1 => impl_vars.b0 k (impl_vars.l0 k n)
def impl_vars.t (k : Nat) (L0 : ByteArray → List Int → Int → Int → Option (ByteArray × Unit)) (a0 : List Int) : Option (ByteArray × Unit) :=
  (L0 (⟨#[]⟩ : ByteArray) a0 (List.length a0 : Int) 0)
def impl_vars.f (k : Nat) (a0 : List Int) : Option (ByteArray × Unit) := impl_vars.t k (impl_vars.l0 k k) a0
def impl_textOf.t (k : Nat) (a0 : ByteArray) : Option (ByteArray × Unit) :=
  (Option.bind (impl_Var.f k (ByteArray.size a0 : Int)) fun r1 =>
  (cat r1.1 a0
  (some ((r1.1 ++ a0), ()))))
def impl_textOf.f (k : Nat) (a0 : ByteArray) : Option (ByteArray × Unit) := impl_textOf.t k a0
def impl_Fixed.b0 (k : Nat) (L0 : Int → Int → List Int → Option (ByteArray × Unit)) (x0_0 : Int) (x0_1 : Int) (x0_2 : List Int) : Option (ByteArray × Unit) :=
  (bif (decide (x0_1 ≥ 0)) then
  (bif (decide ((w64 (8 * x0_1)) < 0)) then none else
  (rm (Ty.bytes (.int .u8)) (List.length x0_2 + 1)
  (L0 x0_0 (w64 (x0_1 - 1)) (x0_2 ++ [(IntKind.wrap .u8 (Int.fdiv x0_0 (2 ^ (min (Int.toNat (w64 (8 * x0_1))) (IntKind.bits .i64)))))]))))
  else
  (some ((bytesOf x0_2), ())))
def impl_Fixed.l0 (k : Nat) : Nat → Int → Int → List Int → Option (ByteArray × Unit)
  | 0 => fun _ _ _ => none
  | n + 1 => impl_Fixed.b0 k (impl_Fixed.l0 k n)
def impl_Fixed.t (k : Nat) (L0 : Int → Int → List Int → Option (ByteArray × Unit)) (a0 : Int) (a1 : Int) : Option (ByteArray × Unit) :=
  (Option.bind (impl_in.f k a1 1 7) fun r1 =>
  (bif (!r1.1) then
  (some ((⟨#[]⟩ : ByteArray), ()))
  else
  (bif (decide ((w64 (8 * a1)) < 0)) then none else
  (Option.bind (impl_in.f k a0 0 (w64 ((w64 (1 * 2 ^ (min (Int.toNat (w64 (8 * a1))) (IntKind.bits .i64)))) - 1))) fun r2 =>
  (bif (!r2.1) then
  (some ((⟨#[]⟩ : ByteArray), ()))
  else
  (L0 a0 (w64 (a1 - 1)) []))))))
def impl_Fixed.f (k : Nat) (a0 : Int) (a1 : Int) : Option (ByteArray × Unit) := impl_Fixed.t k (impl_Fixed.l0 k k) a0 a1
def impl_ShowRec.t (k : Nat) (a0 : Ty.den TRec) : Option (ByteArray × Unit) :=
  (Option.bind (impl_RecOk.f k a0) fun r1 =>
  (bif (!r1.1) then
  (some ((⟨#[]⟩ : ByteArray), ()))
  else
  (Option.bind (impl_vars.f k [a0.1, a0.2.1]) fun r2 =>
  (bif (a0.1 == 1) then
  (bif (a0.1 == 1) then
  (Option.bind (impl_textOf.f k a0.2.2.1) fun r3 =>
  (cat r2.1 r3.1
  (Option.bind (impl_textOf.f k a0.2.2.2.1) fun r4 =>
  (cat (r2.1 ++ r3.1) r4.1
  (some (((r2.1 ++ r3.1) ++ r4.1), ()))))))
  else
  (bif (a0.1 == 2) then
  (Option.bind (impl_textOf.f k a0.2.2.1) fun r5 =>
  (cat r2.1 r5.1
  (some ((r2.1 ++ r5.1), ()))))
  else
  (Option.bind (impl_Var.f k a0.2.2.2.2.1) fun r6 =>
  (cat r2.1 r6.1
  (Option.bind (impl_Fixed.f k a0.2.2.2.2.2.1 4) fun r7 =>
  (cat (r2.1 ++ r6.1) r7.1
  (some (((r2.1 ++ r6.1) ++ r7.1), ()))))))))
  else
  (bif (a0.1 == 4) then
  (Option.bind (impl_textOf.f k a0.2.2.1) fun r8 =>
  (cat r2.1 r8.1
  (Option.bind (impl_textOf.f k a0.2.2.2.1) fun r9 =>
  (cat (r2.1 ++ r8.1) r9.1
  (some (((r2.1 ++ r8.1) ++ r9.1), ()))))))
  else
  (bif (a0.1 == 2) then
  (Option.bind (impl_textOf.f k a0.2.2.1) fun r10 =>
  (cat r2.1 r10.1
  (some ((r2.1 ++ r10.1), ()))))
  else
  (Option.bind (impl_Var.f k a0.2.2.2.2.1) fun r11 =>
  (cat r2.1 r11.1
  (Option.bind (impl_Fixed.f k a0.2.2.2.2.2.1 4) fun r12 =>
  (cat (r2.1 ++ r11.1) r12.1
  (some (((r2.1 ++ r11.1) ++ r12.1), ()))))))))))))
def impl_ShowRec.f (k : Nat) (a0 : Ty.den TRec) : Option (ByteArray × Unit) := impl_ShowRec.t k a0
def impl_Crc.b1 (k : Nat) (L0 : ByteArray → Int → Int → Option (Int × Unit)) (L1 : ByteArray → Int → Int → Int → Option (Int × Unit)) (x1_0 : ByteArray) (x1_1 : Int) (x1_2 : Int) (x1_3 : Int) : Option (Int × Unit) :=
  (bif (decide (x1_3 < 8)) then
  (bif ((IntKind.wrap .u32 (((BitVec.ofInt (IntKind.bits .u32) x1_1 &&& BitVec.ofInt (IntKind.bits .u32) 1).toNat : Int))) == 1) then
  (L1 x1_0 (IntKind.wrap .u32 (((BitVec.ofInt (IntKind.bits .u32) (Int.fdiv x1_1 (2 ^ (Int.toNat 1))) ^^^ BitVec.ofInt (IntKind.bits .u32) 2197175160).toNat : Int))) x1_2 (w64 (x1_3 + 1)))
  else
  (L1 x1_0 (Int.fdiv x1_1 (2 ^ (Int.toNat 1))) x1_2 (w64 (x1_3 + 1))))
  else
  (L0 x1_0 x1_1 (w64 (x1_2 + 1))))
def impl_Crc.l1 (k : Nat) (L0 : ByteArray → Int → Int → Option (Int × Unit)) : Nat → ByteArray → Int → Int → Int → Option (Int × Unit)
  | 0 => fun _ _ _ _ => none
  | n + 1 => impl_Crc.b1 k L0 (impl_Crc.l1 k L0 n)
def impl_Crc.b0 (k : Nat) (L1 : ByteArray → Int → Int → Int → Option (Int × Unit)) (L0 : ByteArray → Int → Int → Option (Int × Unit)) (x0_0 : ByteArray) (x0_1 : Int) (x0_2 : Int) : Option (Int × Unit) :=
  (bif (decide (x0_2 < (ByteArray.size x0_0 : Int))) then
  (inb x0_2 (ByteArray.size x0_0 : Int)
  (L1 x0_0 (IntKind.wrap .u32 (((BitVec.ofInt (IntKind.bits .u32) x0_1 ^^^ BitVec.ofInt (IntKind.bits .u32) (IntKind.wrap .u32 (byteAt x0_0 x0_2))).toNat : Int))) x0_2 0))
  else
  (some ((w64 (bitNot .u32 x0_1)), ())))
def impl_Crc.l0 (k : Nat) : Nat → ByteArray → Int → Int → Option (Int × Unit)
  | 0 => fun _ _ _ => none
  | n + 1 => impl_Crc.b0 k (impl_Crc.l1 k (impl_Crc.l0 k n) k) (impl_Crc.l0 k n)
def impl_Crc.t (k : Nat) (L0 : ByteArray → Int → Int → Option (Int × Unit)) (a0 : ByteArray) : Option (Int × Unit) :=
  (L0 a0 4294967295 0)
def impl_Crc.f (k : Nat) (a0 : ByteArray) : Option (Int × Unit) := impl_Crc.t k (impl_Crc.l0 k k) a0
def impl_SumOf.b0 (k : Nat) (L0 : ByteArray → List (Ty.den TRec) → Int → Int → Option (Int × Unit)) (x0_0 : ByteArray) (x0_1 : List (Ty.den TRec)) (x0_2 : Int) (x0_3 : Int) : Option (Int × Unit) :=
  (bif (decide (x0_3 < x0_2)) then
  (inb x0_3 (List.length x0_1 : Int)
  (Option.bind (impl_ShowRec.f k (List.getD x0_1 (Int.toNat x0_3) (Ty.dflt TRec))) fun r1 =>
  (cat x0_0 r1.1
  (L0 (x0_0 ++ r1.1) x0_1 x0_2 (w64 (x0_3 + 1))))))
  else
  (Option.bind (impl_Crc.f k x0_0) fun r2 =>
  (some r2)))
def impl_SumOf.l0 (k : Nat) : Nat → ByteArray → List (Ty.den TRec) → Int → Int → Option (Int × Unit)
  | 0 => fun _ _ _ _ => none
  | n + 1 => impl_SumOf.b0 k (impl_SumOf.l0 k n)
def impl_SumOf.t (k : Nat) (L0 : ByteArray → List (Ty.den TRec) → Int → Int → Option (Int × Unit)) (a0 : List (Ty.den TRec)) : Option (Int × Unit) :=
  (L0 (⟨#[]⟩ : ByteArray) a0 (List.length a0 : Int) 0)
def impl_SumOf.f (k : Nat) (a0 : List (Ty.den TRec)) : Option (Int × Unit) := impl_SumOf.t k (impl_SumOf.l0 k k) a0
def impl_keeps.b0 (k : Nat) (L0 : List (Ty.den TPair) → Int → List (Ty.den TPair) → Int → Int → List (Ty.den TRec) → Option ((List (Ty.den TRec)) × Unit)) (x0_0 : List (Ty.den TPair)) (x0_1 : Int) (x0_2 : List (Ty.den TPair)) (x0_3 : Int) (x0_4 : Int) (x0_5 : List (Ty.den TRec)) : Option ((List (Ty.den TRec)) × Unit) :=
  (bif (decide (x0_4 < x0_3)) then
  (inb x0_4 (List.length x0_2 : Int)
  (rm (Ty.bytes TRec) (List.length x0_5 + 1)
  (L0 x0_0 x0_1 x0_2 x0_3 (w64 (x0_4 + 1)) (x0_5 ++ [(4, ((List.getD x0_2 (Int.toNat x0_4) (Ty.dflt TPair)).2.2.1, ((List.getD x0_2 (Int.toNat x0_4) (Ty.dflt TPair)).1, ((List.getD x0_2 (Int.toNat x0_4) (Ty.dflt TPair)).2.1, (0, (0, ()))))))]))))
  else
  (Option.bind (impl_SumOf.f k x0_5) fun r1 =>
  (rm (Ty.bytes TRec) (List.length x0_5 + 1)
  (some ((x0_5 ++ [(5, (x0_1, (ByteArray.empty, (ByteArray.empty, ((List.length x0_0 : Int), r1)))))]), ())))))
def impl_keeps.l0 (k : Nat) : Nat → List (Ty.den TPair) → Int → List (Ty.den TPair) → Int → Int → List (Ty.den TRec) → Option ((List (Ty.den TRec)) × Unit)
  | 0 => fun _ _ _ _ _ _ => none
  | n + 1 => impl_keeps.b0 k (impl_keeps.l0 k n)
def impl_keeps.t (k : Nat) (L0 : List (Ty.den TPair) → Int → List (Ty.den TPair) → Int → Int → List (Ty.den TRec) → Option ((List (Ty.den TRec)) × Unit)) (a0 : List (Ty.den TPair)) (a1 : Int) : Option ((List (Ty.den TRec)) × Unit) :=
  (L0 a0 a1 a0 (List.length a0 : Int) 0 [])
def impl_keeps.f (k : Nat) (a0 : List (Ty.den TPair)) (a1 : Int) : Option ((List (Ty.den TRec)) × Unit) := impl_keeps.t k (impl_keeps.l0 k k) a0 a1
def impl_Frame.t (k : Nat) (a0 : ByteArray) : Option (ByteArray × Unit) :=
  (bif (decide ((ByteArray.size a0 : Int) > 200)) then
  (some ((⟨#[]⟩ : ByteArray), ()))
  else
  (Option.bind (impl_textOf.f k a0) fun r1 =>
  (Option.bind (impl_Crc.f k r1.1) fun r2 =>
  (Option.bind (impl_Fixed.f k r2.1 4) fun r3 =>
  (cat r3.1 r1.1
  (some ((r3.1 ++ r1.1), ())))))))
def impl_Frame.f (k : Nat) (a0 : ByteArray) : Option (ByteArray × Unit) := impl_Frame.t k a0
def impl_ShowPairs.b0 (k : Nat) (L0 : ByteArray → Int → Int → List (Ty.den TRec) → Option (ByteArray × Unit)) (x0_0 : ByteArray) (x0_1 : Int) (x0_2 : Int) (x0_3 : List (Ty.den TRec)) : Option (ByteArray × Unit) :=
  (bif (decide (x0_2 < x0_1)) then
  (inb x0_2 (List.length x0_3 : Int)
  (Option.bind (impl_ShowRec.f k (List.getD x0_3 (Int.toNat x0_2) (Ty.dflt TRec))) fun r3 =>
  (Option.bind (impl_Frame.f k r3.1) fun r4 =>
  (cat x0_0 r4.1
  (L0 (x0_0 ++ r4.1) x0_1 (w64 (x0_2 + 1)) x0_3)))))
  else
  (some (x0_0, ())))
def impl_ShowPairs.l0 (k : Nat) : Nat → ByteArray → Int → Int → List (Ty.den TRec) → Option (ByteArray × Unit)
  | 0 => fun _ _ _ _ => none
  | n + 1 => impl_ShowPairs.b0 k (impl_ShowPairs.l0 k n)
def impl_ShowPairs.t (k : Nat) (L0 : ByteArray → Int → Int → List (Ty.den TRec) → Option (ByteArray × Unit)) (a0 : List (Ty.den TPair)) : Option (ByteArray × Unit) :=
  (Option.bind (impl_PairsOk.f k a0) fun r1 =>
  (bif (!r1.1) then
  (some ((⟨#[]⟩ : ByteArray), ()))
  else
  (Option.bind (impl_keeps.f k a0 0) fun r2 =>
  (L0 (⟨#[]⟩ : ByteArray) (List.length r2.1 : Int) 0 r2.1))))
def impl_ShowPairs.f (k : Nat) (a0 : List (Ty.den TPair)) : Option (ByteArray × Unit) := impl_ShowPairs.t k (impl_ShowPairs.l0 k k) a0
def laws_FnExactShowPairs.t (k : Nat) (a0 : List (Ty.den TPair)) : Option (Bool × Unit) :=
  (Option.bind (laws_szPairS.f k a0 1048576) fun r1 =>
  (bif (decide (r1.1 < 0)) then
  (some (true, ()))
  else
  (Option.bind (laws_toPairS.f k a0) fun r2 =>
  (Option.bind (spec_ShowPairs.f k r2.1) fun r3 =>
  (Option.bind (laws_toPairS.f k a0) fun r4 =>
  (Option.bind (impl_ShowPairs.f k r4.1) fun r5 =>
  (bif (!(seq r5.1 r3.1)) then
  (some (false, ()))
  else
  (Option.bind (laws_toPairS.f k a0) fun r6 =>
  (Option.bind (laws_eqPairS.f k r4.1 r6.1) fun r7 =>
  (bif (!r7.1) then
  (some (false, ()))
  else
  (some (true, ()))))))))))))
def laws_FnExactShowPairs.f (k : Nat) (a0 : List (Ty.den TPair)) : Option (Bool × Unit) := laws_FnExactShowPairs.t k a0
end Go.Proofs.Ytlbpalfjmjmimaa.G

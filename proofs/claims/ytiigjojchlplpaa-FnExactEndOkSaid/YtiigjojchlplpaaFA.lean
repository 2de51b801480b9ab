/- Functions, as V runs them. -/
import Derived.Test.YtiigjojchlplpaaVWords
set_option linter.unusedVariables false
namespace Go.Proofs.Ytiigjojchlplpaa.G
open Go.V
abbrev TPut : Ty := .pair .str (.pair .bool (.pair .str .unit))
abbrev TAck : Ty := .pair (.int .i64) (.pair (.slice TPut) .unit)
abbrev TPair : Ty := .pair .str (.pair .str (.pair (.int .i64) .unit))
abbrev TEnd : Ty := .pair (.slice TPair) (.pair (.slice TAck) (.pair (.slice TPut) (.pair (.slice TPair) (.pair (.int .i64) .unit))))
abbrev THist : Ty := .pair (.int .i64) (.pair (.slice TPair) (.pair (.slice .str) (.pair (.slice TPut) .unit)))
def laws_szPair.t (k : Nat) (a0 : Ty.den TPair) (a1 : Int) : Option (Int × Unit) :=
  (bif (decide ((w64 (a1 - (ByteArray.size a0.1 : Int))) < 0)) then
  (some ((-1), ()))
  else
  (bif (decide ((w64 ((w64 (a1 - (ByteArray.size a0.1 : Int))) - (ByteArray.size a0.2.1 : Int))) < 0)) then
  (some ((-1), ()))
  else
  (some ((w64 ((w64 (a1 - (ByteArray.size a0.1 : Int))) - (ByteArray.size a0.2.1 : Int))), ()))))
def laws_szPair.f (k : Nat) (a0 : Ty.den TPair) (a1 : Int) : Option (Int × Unit) := laws_szPair.t k a0 a1
def laws_szPairS.b0 (k : Nat) (L0 : List (Ty.den TPair) → Int → Int → Option (Int × Unit)) (x0_0 : List (Ty.den TPair)) (x0_1 : Int) (x0_2 : Int) : Option (Int × Unit) :=
  (bif (decide (x0_2 < (List.length x0_0 : Int))) then
  (inb x0_2 (List.length x0_0 : Int)
  (Option.bind (laws_szPair.f k (List.getD x0_0 (Int.toNat x0_2) (Ty.dflt TPair)) x0_1) fun r1 =>
  (bif (decide (r1.1 < 0)) then
  (some ((-1), ()))
  else
  (L0 x0_0 r1.1 (w64 (x0_2 + 1))))))
  else
  (some (x0_1, ())))
def laws_szPairS.l0 (k : Nat) : Nat → List (Ty.den TPair) → Int → Int → Option (Int × Unit)
  | 0 => fun _ _ _ => none
  | n + 1 => laws_szPairS.b0 k (laws_szPairS.l0 k n)
def laws_szPairS.t (k : Nat) (L0 : List (Ty.den TPair) → Int → Int → Option (Int × Unit)) (a0 : List (Ty.den TPair)) (a1 : Int) : Option (Int × Unit) :=
  (bif (decide ((w64 (a1 - (List.length a0 : Int))) < 0)) then
  (some ((-1), ()))
  else
  (L0 a0 (w64 (a1 - (List.length a0 : Int))) 0))
def laws_szPairS.f (k : Nat) (a0 : List (Ty.den TPair)) (a1 : Int) : Option (Int × Unit) := laws_szPairS.t k (laws_szPairS.l0 k k) a0 a1
def laws_szStringS.b0 (k : Nat) (L0 : List ByteArray → Int → Int → Option (Int × Unit)) (x0_0 : List ByteArray) (x0_1 : Int) (x0_2 : Int) : Option (Int × Unit) :=
  (bif (decide (x0_2 < (List.length x0_0 : Int))) then
  (inb x0_2 (List.length x0_0 : Int)
  (bif (decide ((w64 (x0_1 - (ByteArray.size (List.getD x0_0 (Int.toNat x0_2) (Ty.dflt .str)) : Int))) < 0)) then
  (some ((-1), ()))
  else
  (L0 x0_0 (w64 (x0_1 - (ByteArray.size (List.getD x0_0 (Int.toNat x0_2) (Ty.dflt .str)) : Int))) (w64 (x0_2 + 1)))))
  else
  (some (x0_1, ())))
def laws_szStringS.l0 (k : Nat) : Nat → List ByteArray → Int → Int → Option (Int × Unit)
  | 0 => fun _ _ _ => none
  | n + 1 => laws_szStringS.b0 k (laws_szStringS.l0 k n)
def laws_szStringS.t (k : Nat) (L0 : List ByteArray → Int → Int → Option (Int × Unit)) (a0 : List ByteArray) (a1 : Int) : Option (Int × Unit) :=
  (bif (decide ((w64 (a1 - (List.length a0 : Int))) < 0)) then
  (some ((-1), ()))
  else
  (L0 a0 (w64 (a1 - (List.length a0 : Int))) 0))
def laws_szStringS.f (k : Nat) (a0 : List ByteArray) (a1 : Int) : Option (Int × Unit) := laws_szStringS.t k (laws_szStringS.l0 k k) a0 a1
def laws_szPut.t (k : Nat) (a0 : Ty.den TPut) (a1 : Int) : Option (Int × Unit) :=
  (bif (decide ((w64 (a1 - (ByteArray.size a0.1 : Int))) < 0)) then
  (some ((-1), ()))
  else
  (bif (decide ((w64 ((w64 (a1 - (ByteArray.size a0.1 : Int))) - (ByteArray.size a0.2.2.1 : Int))) < 0)) then
  (some ((-1), ()))
  else
  (some ((w64 ((w64 (a1 - (ByteArray.size a0.1 : Int))) - (ByteArray.size a0.2.2.1 : Int))), ()))))
def laws_szPut.f (k : Nat) (a0 : Ty.den TPut) (a1 : Int) : Option (Int × Unit) := laws_szPut.t k a0 a1
def laws_szPutS.b0 (k : Nat) (L0 : List (Ty.den TPut) → Int → Int → Option (Int × Unit)) (x0_0 : List (Ty.den TPut)) (x0_1 : Int) (x0_2 : Int) : Option (Int × Unit) :=
  (bif (decide (x0_2 < (List.length x0_0 : Int))) then
  (inb x0_2 (List.length x0_0 : Int)
  (Option.bind (laws_szPut.f k (List.getD x0_0 (Int.toNat x0_2) (Ty.dflt TPut)) x0_1) fun r1 =>
  (bif (decide (r1.1 < 0)) then
  (some ((-1), ()))
  else
  (L0 x0_0 r1.1 (w64 (x0_2 + 1))))))
  else
  (some (x0_1, ())))
def laws_szPutS.l0 (k : Nat) : Nat → List (Ty.den TPut) → Int → Int → Option (Int × Unit)
  | 0 => fun _ _ _ => none
  | n + 1 => laws_szPutS.b0 k (laws_szPutS.l0 k n)
def laws_szPutS.t (k : Nat) (L0 : List (Ty.den TPut) → Int → Int → Option (Int × Unit)) (a0 : List (Ty.den TPut)) (a1 : Int) : Option (Int × Unit) :=
  (bif (decide ((w64 (a1 - (List.length a0 : Int))) < 0)) then
  (some ((-1), ()))
  else
  (L0 a0 (w64 (a1 - (List.length a0 : Int))) 0))
def laws_szPutS.f (k : Nat) (a0 : List (Ty.den TPut)) (a1 : Int) : Option (Int × Unit) := laws_szPutS.t k (laws_szPutS.l0 k k) a0 a1
def laws_szHist.t (k : Nat) (a0 : Ty.den THist) (a1 : Int) : Option (Int × Unit) :=
  (Option.bind (laws_szPairS.f k a0.2.1 a1) fun r1 =>
  (bif (decide (r1.1 < 0)) then
  (some ((-1), ()))
  else
  (Option.bind (laws_szStringS.f k a0.2.2.1 r1.1) fun r2 =>
  (bif (decide (r2.1 < 0)) then
  (some ((-1), ()))
  else
  (Option.bind (laws_szPutS.f k a0.2.2.2.1 r2.1) fun r3 =>
  (bif (decide (r3.1 < 0)) then
  (some ((-1), ()))
  else
  (some r3)))))))
def laws_szHist.f (k : Nat) (a0 : Ty.den THist) (a1 : Int) : Option (Int × Unit) := laws_szHist.t k a0 a1
def laws_szHistS.b0 (k : Nat) (L0 : List (Ty.den THist) → Int → Int → Option (Int × Unit)) (x0_0 : List (Ty.den THist)) (x0_1 : Int) (x0_2 : Int) : Option (Int × Unit) :=
  (bif (decide (x0_2 < (List.length x0_0 : Int))) then
  (inb x0_2 (List.length x0_0 : Int)
  (Option.bind (laws_szHist.f k (List.getD x0_0 (Int.toNat x0_2) (Ty.dflt THist)) x0_1) fun r1 =>
  (bif (decide (r1.1 < 0)) then
  (some ((-1), ()))
  else
  (L0 x0_0 r1.1 (w64 (x0_2 + 1))))))
  else
  (some (x0_1, ())))
def laws_szHistS.l0 (k : Nat) : Nat → List (Ty.den THist) → Int → Int → Option (Int × Unit)
  | 0 => fun _ _ _ => none
  | n + 1 => laws_szHistS.b0 k (laws_szHistS.l0 k n)
def laws_szHistS.t (k : Nat) (L0 : List (Ty.den THist) → Int → Int → Option (Int × Unit)) (a0 : List (Ty.den THist)) (a1 : Int) : Option (Int × Unit) :=
  (bif (decide ((w64 (a1 - (List.length a0 : Int))) < 0)) then
  (some ((-1), ()))
  else
  (L0 a0 (w64 (a1 - (List.length a0 : Int))) 0))
def laws_szHistS.f (k : Nat) (a0 : List (Ty.den THist)) (a1 : Int) : Option (Int × Unit) := laws_szHistS.t k (laws_szHistS.l0 k k) a0 a1
def laws_toPair.t (k : Nat) (a0 : Ty.den TPair) : Option ((Ty.den TPair) × Unit) :=
  (some (a0, ()))
def laws_toPair.f (k : Nat) (a0 : Ty.den TPair) : Option ((Ty.den TPair) × Unit) := laws_toPair.t k a0
def laws_toPairS.b0 (k : Nat) (L0 : List (Ty.den TPair) → Int → List (Ty.den TPair) → Option ((List (Ty.den TPair)) × Unit)) (x0_0 : List (Ty.den TPair)) (x0_1 : Int) (x0_2 : List (Ty.den TPair)) : Option ((List (Ty.den TPair)) × Unit) :=
  (bif (decide (x0_1 < (List.length x0_0 : Int))) then
  (inb x0_1 (List.length x0_0 : Int)
  (Option.bind (laws_toPair.f k (List.getD x0_0 (Int.toNat x0_1) (Ty.dflt TPair))) fun r1 =>
  (inb x0_1 (List.length x0_2 : Int)
  (let l2 := (List.set x0_2 (Int.toNat x0_1) r1.1);
  (L0 x0_0 (w64 (x0_1 + 1)) l2)))))
  else
  (some (x0_2, ())))
def laws_toPairS.l0 (k : Nat) : Nat → List (Ty.den TPair) → Int → List (Ty.den TPair) → Option ((List (Ty.den TPair)) × Unit)
  | 0 => fun _ _ _ => none
  | n + 1 => laws_toPairS.b0 k (laws_toPairS.l0 k n)
def laws_toPairS.t (k : Nat) (L0 : List (Ty.den TPair) → Int → List (Ty.den TPair) → Option ((List (Ty.den TPair)) × Unit)) (a0 : List (Ty.den TPair)) : Option ((List (Ty.den TPair)) × Unit) :=
  (mks (Ty.bytes TPair) (List.length a0 : Int)
  (L0 a0 0 (List.replicate (Int.toNat (List.length a0 : Int)) (Ty.dflt TPair))))
def laws_toPairS.f (k : Nat) (a0 : List (Ty.den TPair)) : Option ((List (Ty.den TPair)) × Unit) := laws_toPairS.t k (laws_toPairS.l0 k k) a0
def laws_toStringS.b0 (k : Nat) (L0 : List ByteArray → Int → List ByteArray → Option ((List ByteArray) × Unit)) (x0_0 : List ByteArray) (x0_1 : Int) (x0_2 : List ByteArray) : Option ((List ByteArray) × Unit) :=
  (bif (decide (x0_1 < (List.length x0_0 : Int))) then
  (inb x0_1 (List.length x0_0 : Int)
  (inb x0_1 (List.length x0_2 : Int)
  (let l1 := (List.set x0_2 (Int.toNat x0_1) (List.getD x0_0 (Int.toNat x0_1) (Ty.dflt .str)));
  (L0 x0_0 (w64 (x0_1 + 1)) l1))))
  else
  (some (x0_2, ())))
def laws_toStringS.l0 (k : Nat) : Nat → List ByteArray → Int → List ByteArray → Option ((List ByteArray) × Unit)
  | 0 => fun _ _ _ => none
  | n + 1 => laws_toStringS.b0 k (laws_toStringS.l0 k n)
def laws_toStringS.t (k : Nat) (L0 : List ByteArray → Int → List ByteArray → Option ((List ByteArray) × Unit)) (a0 : List ByteArray) : Option ((List ByteArray) × Unit) :=
  (mks (Ty.bytes .str) (List.length a0 : Int)
  (L0 a0 0 (List.replicate (Int.toNat (List.length a0 : Int)) (Ty.dflt .str))))
def laws_toStringS.f (k : Nat) (a0 : List ByteArray) : Option ((List ByteArray) × Unit) := laws_toStringS.t k (laws_toStringS.l0 k k) a0
def laws_toPut.t (k : Nat) (a0 : Ty.den TPut) : Option ((Ty.den TPut) × Unit) :=
  (some (a0, ()))
def laws_toPut.f (k : Nat) (a0 : Ty.den TPut) : Option ((Ty.den TPut) × Unit) := laws_toPut.t k a0
def laws_toPutS.b0 (k : Nat) (L0 : List (Ty.den TPut) → Int → List (Ty.den TPut) → Option ((List (Ty.den TPut)) × Unit)) (x0_0 : List (Ty.den TPut)) (x0_1 : Int) (x0_2 : List (Ty.den TPut)) : Option ((List (Ty.den TPut)) × Unit) :=
  (bif (decide (x0_1 < (List.length x0_0 : Int))) then
  (inb x0_1 (List.length x0_0 : Int)
  (Option.bind (laws_toPut.f k (List.getD x0_0 (Int.toNat x0_1) (Ty.dflt TPut))) fun r1 =>
  (inb x0_1 (List.length x0_2 : Int)
  (let l2 := (List.set x0_2 (Int.toNat x0_1) r1.1);
  (L0 x0_0 (w64 (x0_1 + 1)) l2)))))
  else
  (some (x0_2, ())))
def laws_toPutS.l0 (k : Nat) : Nat → List (Ty.den TPut) → Int → List (Ty.den TPut) → Option ((List (Ty.den TPut)) × Unit)
  | 0 => fun _ _ _ => none
  | n + 1 => laws_toPutS.b0 k (laws_toPutS.l0 k n)
def laws_toPutS.t (k : Nat) (L0 : List (Ty.den TPut) → Int → List (Ty.den TPut) → Option ((List (Ty.den TPut)) × Unit)) (a0 : List (Ty.den TPut)) : Option ((List (Ty.den TPut)) × Unit) :=
  (mks (Ty.bytes TPut) (List.length a0 : Int)
  (L0 a0 0 (List.replicate (Int.toNat (List.length a0 : Int)) (Ty.dflt TPut))))
def laws_toPutS.f (k : Nat) (a0 : List (Ty.den TPut)) : Option ((List (Ty.den TPut)) × Unit) := laws_toPutS.t k (laws_toPutS.l0 k k) a0
def laws_toHist.t (k : Nat) (a0 : Ty.den THist) : Option ((Ty.den THist) × Unit) :=
  (Option.bind (laws_toPairS.f k a0.2.1) fun r1 =>
  (Option.bind (laws_toStringS.f k a0.2.2.1) fun r2 =>
  (Option.bind (laws_toPutS.f k a0.2.2.2.1) fun r3 =>
  (some ((a0.1, (r1.1, (r2.1, r3))), ())))))
def laws_toHist.f (k : Nat) (a0 : Ty.den THist) : Option ((Ty.den THist) × Unit) := laws_toHist.t k a0
def laws_toHistS.b0 (k : Nat) (L0 : List (Ty.den THist) → Int → List (Ty.den THist) → Option ((List (Ty.den THist)) × Unit)) (x0_0 : List (Ty.den THist)) (x0_1 : Int) (x0_2 : List (Ty.den THist)) : Option ((List (Ty.den THist)) × Unit) :=
  (bif (decide (x0_1 < (List.length x0_0 : Int))) then
  (inb x0_1 (List.length x0_0 : Int)
  (Option.bind (laws_toHist.f k (List.getD x0_0 (Int.toNat x0_1) (Ty.dflt THist))) fun r1 =>
  (inb x0_1 (List.length x0_2 : Int)
  (let l2 := (List.set x0_2 (Int.toNat x0_1) r1.1);
  (L0 x0_0 (w64 (x0_1 + 1)) l2)))))
  else
  (some (x0_2, ())))
def laws_toHistS.l0 (k : Nat) : Nat → List (Ty.den THist) → Int → List (Ty.den THist) → Option ((List (Ty.den THist)) × Unit)
  | 0 => fun _ _ _ => none
  | n + 1 => laws_toHistS.b0 k (laws_toHistS.l0 k n)
def laws_toHistS.t (k : Nat) (L0 : List (Ty.den THist) → Int → List (Ty.den THist) → Option ((List (Ty.den THist)) × Unit)) (a0 : List (Ty.den THist)) : Option ((List (Ty.den THist)) × Unit) :=
  (mks (Ty.bytes THist) (List.length a0 : Int)
  (L0 a0 0 (List.replicate (Int.toNat (List.length a0 : Int)) (Ty.dflt THist))))
def laws_toHistS.f (k : Nat) (a0 : List (Ty.den THist)) : Option ((List (Ty.den THist)) × Unit) := laws_toHistS.t k (laws_toHistS.l0 k k) a0
def spec_l13Set.b0 (k : Nat) (L0 : List (Ty.den TPair) → Bool → Int → ByteArray → ByteArray → Int → List (Ty.den TPair) → Option ((List (Ty.den TPair)) × Unit)) (x0_0 : List (Ty.den TPair)) (x0_1 : Bool) (x0_2 : Int) (x0_3 : ByteArray) (x0_4 : ByteArray) (x0_5 : Int) (x0_6 : List (Ty.den TPair)) : Option ((List (Ty.den TPair)) × Unit) :=
  (bif (decide (x0_2 < (List.length x0_0 : Int))) then
  (inb x0_2 (List.length x0_0 : Int)
  (bif (seq (List.getD x0_0 (Int.toNat x0_2) (Ty.dflt TPair)).1 x0_3) then
  (L0 x0_0 x0_1 (w64 (x0_2 + 1)) x0_3 x0_4 x0_5 x0_6)
  else
  (bif (!x0_1) then
  (inb x0_2 (List.length x0_0 : Int)
  (bif (!((sls (List.getD x0_0 (Int.toNat x0_2) (Ty.dflt TPair)).1 x0_3) || (seq (List.getD x0_0 (Int.toNat x0_2) (Ty.dflt TPair)).1 x0_3))) then
  (rm (Ty.bytes TPair) (List.length x0_6 + 1)
  (inb x0_2 (List.length x0_0 : Int)
  (rm (Ty.bytes TPair) (List.length (x0_6 ++ [(x0_3, (x0_4, (x0_5, ())))]) + 1)
  (L0 x0_0 true (w64 (x0_2 + 1)) x0_3 x0_4 x0_5 ((x0_6 ++ [(x0_3, (x0_4, (x0_5, ())))]) ++ [(List.getD x0_0 (Int.toNat x0_2) (Ty.dflt TPair))])))))
  else
  (inb x0_2 (List.length x0_0 : Int)
  (rm (Ty.bytes TPair) (List.length x0_6 + 1)
  (L0 x0_0 x0_1 (w64 (x0_2 + 1)) x0_3 x0_4 x0_5 (x0_6 ++ [(List.getD x0_0 (Int.toNat x0_2) (Ty.dflt TPair))]))))))
  else
  (inb x0_2 (List.length x0_0 : Int)
  (rm (Ty.bytes TPair) (List.length x0_6 + 1)
  (L0 x0_0 x0_1 (w64 (x0_2 + 1)) x0_3 x0_4 x0_5 (x0_6 ++ [(List.getD x0_0 (Int.toNat x0_2) (Ty.dflt TPair))])))))))
  else
  (bif (!x0_1) then
  (rm (Ty.bytes TPair) (List.length x0_6 + 1)
  (some ((x0_6 ++ [(x0_3, (x0_4, (x0_5, ())))]), ())))
  else
  (some (x0_6, ()))))
def spec_l13Set.l0 (k : Nat) : Nat → List (Ty.den TPair) → Bool → Int → ByteArray → ByteArray → Int → List (Ty.den TPair) → Option ((List (Ty.den TPair)) × Unit)
  | 0 => fun _ _ _ _ _ _ _ => none
  | n + 1 => spec_l13Set.b0 k (spec_l13Set.l0 k n)
def spec_l13Set.t (k : Nat) (L0 : List (Ty.den TPair) → Bool → Int → ByteArray → ByteArray → Int → List (Ty.den TPair) → Option ((List (Ty.den TPair)) × Unit)) (a0 : List (Ty.den TPair)) (a1 : Ty.den TPair) (a2 : Bool) : Option ((List (Ty.den TPair)) × Unit) :=
  (L0 a0 a2 0 a1.1 a1.2.1 a1.2.2.1 [])
def spec_l13Set.f (k : Nat) (a0 : List (Ty.den TPair)) (a1 : Ty.den TPair) (a2 : Bool) : Option ((List (Ty.den TPair)) × Unit) := spec_l13Set.t k (spec_l13Set.l0 k k) a0 a1 a2
def spec_Fold.b0 (k : Nat) (L0 : List (Ty.den TPut) → Int → Int → List (Ty.den TPair) → Option ((List (Ty.den TPair)) × Unit)) (x0_0 : List (Ty.den TPut)) (x0_1 : Int) (x0_2 : Int) (x0_3 : List (Ty.den TPair)) : Option ((List (Ty.den TPair)) × Unit) :=
  (bif (decide (x0_2 < (List.length x0_0 : Int))) then
  (inb x0_2 (List.length x0_0 : Int)
  (inb x0_2 (List.length x0_0 : Int)
  (inb x0_2 (List.length x0_0 : Int)
  (Option.bind (spec_l13Set.f k x0_3 ((List.getD x0_0 (Int.toNat x0_2) (Ty.dflt TPut)).1, ((List.getD x0_0 (Int.toNat x0_2) (Ty.dflt TPut)).2.2.1, (x0_1, ()))) (List.getD x0_0 (Int.toNat x0_2) (Ty.dflt TPut)).2.1) fun r1 =>
  (L0 x0_0 x0_1 (w64 (x0_2 + 1)) r1.1)))))
  else
  (some (x0_3, ())))
def spec_Fold.l0 (k : Nat) : Nat → List (Ty.den TPut) → Int → Int → List (Ty.den TPair) → Option ((List (Ty.den TPair)) × Unit)
  | 0 => fun _ _ _ _ => none
  | n + 1 => spec_Fold.b0 k (spec_Fold.l0 k n)
def spec_Fold.t (k : Nat) (L0 : List (Ty.den TPut) → Int → Int → List (Ty.den TPair) → Option ((List (Ty.den TPair)) × Unit)) (a0 : List (Ty.den TPair)) (a1 : List (Ty.den TPut)) (a2 : Int) : Option ((List (Ty.den TPair)) × Unit) :=
  (rm (Ty.bytes TPair) (0 + List.length a0)
  (L0 a1 a2 0 ([] ++ a0)))
def spec_Fold.f (k : Nat) (a0 : List (Ty.den TPair)) (a1 : List (Ty.den TPut)) (a2 : Int) : Option ((List (Ty.den TPair)) × Unit) := spec_Fold.t k (spec_Fold.l0 k k) a0 a1 a2
def spec_SerialMap.b0 (k : Nat) (L0 : List (Ty.den THist) → Int → List (Ty.den TPair) → Option ((List (Ty.den TPair)) × Unit)) (x0_0 : List (Ty.den THist)) (x0_1 : Int) (x0_2 : List (Ty.den TPair)) : Option ((List (Ty.den TPair)) × Unit) :=
  (bif (decide (x0_1 < (List.length x0_0 : Int))) then
  (inb x0_1 (List.length x0_0 : Int)
  (Option.bind (spec_Fold.f k x0_2 (List.getD x0_0 (Int.toNat x0_1) (Ty.dflt THist)).2.2.2.1 0) fun r1 =>
  (L0 x0_0 (w64 (x0_1 + 1)) r1.1)))
  else
  (some (x0_2, ())))
def spec_SerialMap.l0 (k : Nat) : Nat → List (Ty.den THist) → Int → List (Ty.den TPair) → Option ((List (Ty.den TPair)) × Unit)
  | 0 => fun _ _ _ => none
  | n + 1 => spec_SerialMap.b0 k (spec_SerialMap.l0 k n)
def spec_SerialMap.t (k : Nat) (L0 : List (Ty.den THist) → Int → List (Ty.den TPair) → Option ((List (Ty.den TPair)) × Unit)) (a0 : List (Ty.den THist)) : Option ((List (Ty.den TPair)) × Unit) :=
  (L0 a0 0 [])
def spec_SerialMap.f (k : Nat) (a0 : List (Ty.den THist)) : Option ((List (Ty.den TPair)) × Unit) := spec_SerialMap.t k (spec_SerialMap.l0 k k) a0
def spec_l17Find.b0 (k : Nat) (L0 : List (Ty.den TPair) → ByteArray → Int → ByteArray → ByteArray → Int → Option ((Ty.den TPair) × Int × Unit)) (x0_0 : List (Ty.den TPair)) (x0_1 : ByteArray) (x0_2 : Int) (x0_3 : ByteArray) (x0_4 : ByteArray) (x0_5 : Int) : Option ((Ty.den TPair) × Int × Unit) :=
  (bif (decide (x0_2 < (List.length x0_0 : Int))) then
  (inb x0_2 (List.length x0_0 : Int)
  (bif (seq (List.getD x0_0 (Int.toNat x0_2) (Ty.dflt TPair)).1 x0_1) then
  (inb x0_2 (List.length x0_0 : Int)
  (some ((List.getD x0_0 (Int.toNat x0_2) (Ty.dflt TPair)), (0, ()))))
  else
  (L0 x0_0 x0_1 (w64 (x0_2 + 1)) x0_3 x0_4 x0_5)))
  else
  (some ((ByteArray.empty, (ByteArray.empty, (0, ()))), (8, ()))))
def spec_l17Find.l0 (k : Nat) : Nat → List (Ty.den TPair) → ByteArray → Int → ByteArray → ByteArray → Int → Option ((Ty.den TPair) × Int × Unit)
  | 0 => fun _ _ _ _ _ _ => none
  | n + 1 => spec_l17Find.b0 k (spec_l17Find.l0 k n)
def spec_l17Find.t (k : Nat) (L0 : List (Ty.den TPair) → ByteArray → Int → ByteArray → ByteArray → Int → Option ((Ty.den TPair) × Int × Unit)) (a0 : List (Ty.den TPair)) (a1 : ByteArray) : Option ((Ty.den TPair) × Int × Unit) :=
  (L0 a0 a1 0 ByteArray.empty ByteArray.empty 0)
def spec_l17Find.f (k : Nat) (a0 : List (Ty.den TPair)) (a1 : ByteArray) : Option ((Ty.den TPair) × Int × Unit) := spec_l17Find.t k (spec_l17Find.l0 k k) a0 a1
def spec_SerialOk.b2 (k : Nat) (L0 : List (Ty.den THist) → Int → Option (Bool × Unit)) (L2 : List (Ty.den THist) → Int → Int → List (Ty.den TPair) → Option (Bool × Unit)) (x2_0 : List (Ty.den THist)) (x2_1 : Int) (x2_2 : Int) (x2_3 : List (Ty.den TPair)) : Option (Bool × Unit) :=
  (inb x2_1 (List.length x2_0 : Int)
  (bif (decide (x2_2 < (List.length (List.getD x2_0 (Int.toNat x2_1) (Ty.dflt THist)).2.2.1 : Int))) then
  (inb x2_1 (List.length x2_0 : Int)
  (inb x2_2 (List.length (List.getD x2_0 (Int.toNat x2_1) (Ty.dflt THist)).2.2.1 : Int)
  (Option.bind (spec_l17Find.f k x2_3 (List.getD (List.getD x2_0 (Int.toNat x2_1) (Ty.dflt THist)).2.2.1 (Int.toNat x2_2) (Ty.dflt .str))) fun r3 =>
  (bif (r3.2.1 != 8) then
  (some (false, ()))
  else
  (L2 x2_0 x2_1 (w64 (x2_2 + 1)) x2_3)))))
  else
  (L0 x2_0 (w64 (x2_1 + 1)))))
def spec_SerialOk.l2 (k : Nat) (L0 : List (Ty.den THist) → Int → Option (Bool × Unit)) : Nat → List (Ty.den THist) → Int → Int → List (Ty.den TPair) → Option (Bool × Unit)
  | 0 => fun _ _ _ _ => none
  | n + 1 => spec_SerialOk.b2 k L0 (spec_SerialOk.l2 k L0 n)
def spec_SerialOk.b1 (k : Nat) (L2 : List (Ty.den THist) → Int → Int → List (Ty.den TPair) → Option (Bool × Unit)) (L0 : List (Ty.den THist) → Int → Option (Bool × Unit)) (L1 : List (Ty.den THist) → Int → Int → List (Ty.den TPair) → Option (Bool × Unit)) (x1_0 : List (Ty.den THist)) (x1_1 : Int) (x1_2 : Int) (x1_3 : List (Ty.den TPair)) : Option (Bool × Unit) :=
  (inb x1_1 (List.length x1_0 : Int)
  (bif (decide (x1_2 < (List.length (List.getD x1_0 (Int.toNat x1_1) (Ty.dflt THist)).2.1 : Int))) then
  (inb x1_1 (List.length x1_0 : Int)
  (inb x1_2 (List.length (List.getD x1_0 (Int.toNat x1_1) (Ty.dflt THist)).2.1 : Int)
  (Option.bind (spec_l17Find.f k x1_3 (List.getD (List.getD x1_0 (Int.toNat x1_1) (Ty.dflt THist)).2.1 (Int.toNat x1_2) (Ty.dflt TPair)).1) fun r2 =>
  (bif (r2.2.1 != 0) then
  (some (false, ()))
  else
  (inb x1_1 (List.length x1_0 : Int)
  (inb x1_2 (List.length (List.getD x1_0 (Int.toNat x1_1) (Ty.dflt THist)).2.1 : Int)
  (bif (!(seq r2.1.2.1 (List.getD (List.getD x1_0 (Int.toNat x1_1) (Ty.dflt THist)).2.1 (Int.toNat x1_2) (Ty.dflt TPair)).2.1)) then
  (some (false, ()))
  else
  (L1 x1_0 x1_1 (w64 (x1_2 + 1)) x1_3))))))))
  else
  (L2 x1_0 x1_1 0 x1_3)))
def spec_SerialOk.l1 (k : Nat) (L0 : List (Ty.den THist) → Int → Option (Bool × Unit)) : Nat → List (Ty.den THist) → Int → Int → List (Ty.den TPair) → Option (Bool × Unit)
  | 0 => fun _ _ _ _ => none
  | n + 1 => spec_SerialOk.b1 k (spec_SerialOk.l2 k L0 k) L0 (spec_SerialOk.l1 k L0 n)
def spec_SerialOk.b0 (k : Nat) (L1 : List (Ty.den THist) → Int → Int → List (Ty.den TPair) → Option (Bool × Unit)) (L0 : List (Ty.den THist) → Int → Option (Bool × Unit)) (x0_0 : List (Ty.den THist)) (x0_1 : Int) : Option (Bool × Unit) :=
  (bif (decide (x0_1 < (List.length x0_0 : Int))) then
  (inc x0_1 (List.length x0_0 : Int)
  (Option.bind (spec_SerialMap.f k (List.take (Int.toNat x0_1) x0_0)) fun r1 =>
  (L1 x0_0 x0_1 0 r1.1)))
  else
  (some (true, ())))
def spec_SerialOk.l0 (k : Nat) : Nat → List (Ty.den THist) → Int → Option (Bool × Unit)
  | 0 => fun _ _ => none
  | n + 1 => spec_SerialOk.b0 k (spec_SerialOk.l1 k (spec_SerialOk.l0 k n) k) (spec_SerialOk.l0 k n)
def spec_SerialOk.t (k : Nat) (L0 : List (Ty.den THist) → Int → Option (Bool × Unit)) (a0 : List (Ty.den THist)) : Option (Bool × Unit) :=
  (L0 a0 0)
def spec_SerialOk.f (k : Nat) (a0 : List (Ty.den THist)) : Option (Bool × Unit) := spec_SerialOk.t k (spec_SerialOk.l0 k k) a0
def impl_copyPairs.t (k : Nat) (a0 : List (Ty.den TPair)) : Option ((List (Ty.den TPair)) × Unit) :=
  (rm (Ty.bytes TPair) (List.length a0)
  (some (a0, ())))
def impl_copyPairs.f (k : Nat) (a0 : List (Ty.den TPair)) : Option ((List (Ty.den TPair)) × Unit) := impl_copyPairs.t k a0
def impl_without.b0 (k : Nat) (L0 : ByteArray → List (Ty.den TPair) → Int → Int → List (Ty.den TPair) → Option ((List (Ty.den TPair)) × Unit)) (x0_0 : ByteArray) (x0_1 : List (Ty.den TPair)) (x0_2 : Int) (x0_3 : Int) (x0_4 : List (Ty.den TPair)) : Option ((List (Ty.den TPair)) × Unit) :=
  (bif (decide (x0_3 < x0_2)) then
  (inb x0_3 (List.length x0_1 : Int)
  (bif (!(seq (List.getD x0_1 (Int.toNat x0_3) (Ty.dflt TPair)).1 x0_0)) then
  (rm (Ty.bytes TPair) (List.length x0_4 + 1)
  (L0 x0_0 x0_1 x0_2 (w64 (x0_3 + 1)) (x0_4 ++ [(List.getD x0_1 (Int.toNat x0_3) (Ty.dflt TPair))])))
  else
  (L0 x0_0 x0_1 x0_2 (w64 (x0_3 + 1)) x0_4)))
  else
  (some (x0_4, ())))
def impl_without.l0 (k : Nat) : Nat → ByteArray → List (Ty.den TPair) → Int → Int → List (Ty.den TPair) → Option ((List (Ty.den TPair)) × Unit)
  | 0 => fun _ _ _ _ _ => none
  | n + 1 => impl_without.b0 k (impl_without.l0 k n)
def impl_without.t (k : Nat) (L0 : ByteArray → List (Ty.den TPair) → Int → Int → List (Ty.den TPair) → Option ((List (Ty.den TPair)) × Unit)) (a0 : List (Ty.den TPair)) (a1 : ByteArray) : Option ((List (Ty.den TPair)) × Unit) :=
  (L0 a1 a0 (List.length a0 : Int) 0 [])
def impl_without.f (k : Nat) (a0 : List (Ty.den TPair)) (a1 : ByteArray) : Option ((List (Ty.den TPair)) × Unit) := impl_without.t k (impl_without.l0 k k) a0 a1
def impl_Fold.b1 (k : Nat) (L0 : Int → List (Ty.den TPut) → Int → Int → List (Ty.den TPair) → Option ((List (Ty.den TPair)) × Unit)) (L1 : Int → Int → List (Ty.den TPut) → Int → Int → List (Ty.den TPair) → ByteArray → Bool → ByteArray → Option ((List (Ty.den TPair)) × Unit)) (x1_0 : Int) (x1_1 : Int) (x1_2 : List (Ty.den TPut)) (x1_3 : Int) (x1_4 : Int) (x1_5 : List (Ty.den TPair)) (x1_6 : ByteArray) (x1_7 : Bool) (x1_8 : ByteArray) : Option ((List (Ty.den TPair)) × Unit) :=
  (bif (decide (x1_1 < (List.length x1_5 : Int))) then
  (inb x1_1 (List.length x1_5 : Int)
  (bif ((sls (List.getD x1_5 (Int.toNat x1_1) (Ty.dflt TPair)).1 x1_6) || (seq (List.getD x1_5 (Int.toNat x1_1) (Ty.dflt TPair)).1 x1_6)) then
  (L1 x1_0 (w64 (x1_1 + 1)) x1_2 x1_3 x1_4 x1_5 x1_6 x1_7 x1_8)
  else
  (inc x1_1 (List.length x1_5 : Int)
  (Option.bind (impl_copyPairs.f k (List.take (Int.toNat x1_1) x1_5)) fun r3 =>
  (rm (Ty.bytes TPair) (List.length r3.1 + 1)
  (inc x1_1 (List.length x1_5 : Int)
  (rm (Ty.bytes TPair) (List.length (r3.1 ++ [(x1_6, (x1_8, (x1_0, ())))]) + List.length (List.drop (Int.toNat x1_1) x1_5))
  (L0 x1_0 x1_2 x1_3 (w64 (x1_4 + 1)) ((r3.1 ++ [(x1_6, (x1_8, (x1_0, ())))]) ++ (List.drop (Int.toNat x1_1) x1_5))))))))))
  else
  (inc x1_1 (List.length x1_5 : Int)
  (Option.bind (impl_copyPairs.f k (List.take (Int.toNat x1_1) x1_5)) fun r4 =>
  (rm (Ty.bytes TPair) (List.length r4.1 + 1)
  (inc x1_1 (List.length x1_5 : Int)
  (rm (Ty.bytes TPair) (List.length (r4.1 ++ [(x1_6, (x1_8, (x1_0, ())))]) + List.length (List.drop (Int.toNat x1_1) x1_5))
  (L0 x1_0 x1_2 x1_3 (w64 (x1_4 + 1)) ((r4.1 ++ [(x1_6, (x1_8, (x1_0, ())))]) ++ (List.drop (Int.toNat x1_1) x1_5)))))))))
def impl_Fold.l1 (k : Nat) (L0 : Int → List (Ty.den TPut) → Int → Int → List (Ty.den TPair) → Option ((List (Ty.den TPair)) × Unit)) : Nat → Int → Int → List (Ty.den TPut) → Int → Int → List (Ty.den TPair) → ByteArray → Bool → ByteArray → Option ((List (Ty.den TPair)) × Unit)
  | 0 => fun _ _ _ _ _ _ _ _ _ => none
  | n + 1 => impl_Fold.b1 k L0 (impl_Fold.l1 k L0 n)
def impl_Fold.b0 (k : Nat) (L1 : Int → Int → List (Ty.den TPut) → Int → Int → List (Ty.den TPair) → ByteArray → Bool → ByteArray → Option ((List (Ty.den TPair)) × Unit)) (L0 : Int → List (Ty.den TPut) → Int → Int → List (Ty.den TPair) → Option ((List (Ty.den TPair)) × Unit)) (x0_0 : Int) (x0_1 : List (Ty.den TPut)) (x0_2 : Int) (x0_3 : Int) (x0_4 : List (Ty.den TPair)) : Option ((List (Ty.den TPair)) × Unit) :=
  (bif (decide (x0_3 < x0_2)) then
  (inb x0_3 (List.length x0_1 : Int)
  (Option.bind (impl_without.f k x0_4 (List.getD x0_1 (Int.toNat x0_3) (Ty.dflt TPut)).1) fun r2 =>
  (bif (List.getD x0_1 (Int.toNat x0_3) (Ty.dflt TPut)).2.1 then
  (L0 x0_0 x0_1 x0_2 (w64 (x0_3 + 1)) r2.1)
  else
  (L1 x0_0 0 x0_1 x0_2 x0_3 r2.1 (List.getD x0_1 (Int.toNat x0_3) (Ty.dflt TPut)).1 (List.getD x0_1 (Int.toNat x0_3) (Ty.dflt TPut)).2.1 (List.getD x0_1 (Int.toNat x0_3) (Ty.dflt TPut)).2.2.1))))
  else
  (some (x0_4, ())))
def impl_Fold.l0 (k : Nat) : Nat → Int → List (Ty.den TPut) → Int → Int → List (Ty.den TPair) → Option ((List (Ty.den TPair)) × Unit)
  | 0 => fun _ _ _ _ _ => none
  | n + 1 => impl_Fold.b0 k (impl_Fold.l1 k (impl_Fold.l0 k n) k) (impl_Fold.l0 k n)
def impl_Fold.t (k : Nat) (L0 : Int → List (Ty.den TPut) → Int → Int → List (Ty.den TPair) → Option ((List (Ty.den TPair)) × Unit)) (a0 : List (Ty.den TPair)) (a1 : List (Ty.den TPut)) (a2 : Int) : Option ((List (Ty.den TPair)) × Unit) :=
  (Option.bind (impl_copyPairs.f k a0) fun r1 =>
  (L0 a2 a1 (List.length a1 : Int) 0 r1.1))
def impl_Fold.f (k : Nat) (a0 : List (Ty.den TPair)) (a1 : List (Ty.den TPut)) (a2 : Int) : Option ((List (Ty.den TPair)) × Unit) := impl_Fold.t k (impl_Fold.l0 k k) a0 a1 a2
def impl_SerialMap.b0 (k : Nat) (L0 : List (Ty.den THist) → Int → Int → List (Ty.den TPair) → Option ((List (Ty.den TPair)) × Unit)) (x0_0 : List (Ty.den THist)) (x0_1 : Int) (x0_2 : Int) (x0_3 : List (Ty.den TPair)) : Option ((List (Ty.den TPair)) × Unit) :=
  (bif (decide (x0_2 < x0_1)) then
  (inb x0_2 (List.length x0_0 : Int)
  (Option.bind (impl_Fold.f k x0_3 (List.getD x0_0 (Int.toNat x0_2) (Ty.dflt THist)).2.2.2.1 0) fun r1 =>
  (L0 x0_0 x0_1 (w64 (x0_2 + 1)) r1.1)))
  else
  (some (x0_3, ())))
def impl_SerialMap.l0 (k : Nat) : Nat → List (Ty.den THist) → Int → Int → List (Ty.den TPair) → Option ((List (Ty.den TPair)) × Unit)
  | 0 => fun _ _ _ _ => none
  | n + 1 => impl_SerialMap.b0 k (impl_SerialMap.l0 k n)
def impl_SerialMap.t (k : Nat) (L0 : List (Ty.den THist) → Int → Int → List (Ty.den TPair) → Option ((List (Ty.den TPair)) × Unit)) (a0 : List (Ty.den THist)) : Option ((List (Ty.den TPair)) × Unit) :=
  (L0 a0 (List.length a0 : Int) 0 [])
def impl_SerialMap.f (k : Nat) (a0 : List (Ty.den THist)) : Option ((List (Ty.den TPair)) × Unit) := impl_SerialMap.t k (impl_SerialMap.l0 k k) a0
def impl_pairAt.b0 (k : Nat) (L0 : ByteArray → List (Ty.den TPair) → Int → Int → ByteArray → ByteArray → Int → Option ((Ty.den TPair) × Bool × Unit)) (x0_0 : ByteArray) (x0_1 : List (Ty.den TPair)) (x0_2 : Int) (x0_3 : Int) (x0_4 : ByteArray) (x0_5 : ByteArray) (x0_6 : Int) : Option ((Ty.den TPair) × Bool × Unit) :=
  (bif (decide (x0_3 < x0_2)) then
  (inb x0_3 (List.length x0_1 : Int)
  (bif (seq (List.getD x0_1 (Int.toNat x0_3) (Ty.dflt TPair)).1 x0_0) then
  (some ((List.getD x0_1 (Int.toNat x0_3) (Ty.dflt TPair)), (true, ())))
  else
  (L0 x0_0 x0_1 x0_2 (w64 (x0_3 + 1)) x0_4 x0_5 x0_6)))
  else
  (some ((ByteArray.empty, (ByteArray.empty, (0, ()))), (false, ()))))
def impl_pairAt.l0 (k : Nat) : Nat → ByteArray → List (Ty.den TPair) → Int → Int → ByteArray → ByteArray → Int → Option ((Ty.den TPair) × Bool × Unit)
  | 0 => fun _ _ _ _ _ _ _ => none
  | n + 1 => impl_pairAt.b0 k (impl_pairAt.l0 k n)
def impl_pairAt.t (k : Nat) (L0 : ByteArray → List (Ty.den TPair) → Int → Int → ByteArray → ByteArray → Int → Option ((Ty.den TPair) × Bool × Unit)) (a0 : List (Ty.den TPair)) (a1 : ByteArray) : Option ((Ty.den TPair) × Bool × Unit) :=
  (L0 a1 a0 (List.length a0 : Int) 0 ByteArray.empty ByteArray.empty 0)
def impl_pairAt.f (k : Nat) (a0 : List (Ty.den TPair)) (a1 : ByteArray) : Option ((Ty.den TPair) × Bool × Unit) := impl_pairAt.t k (impl_pairAt.l0 k k) a0 a1
def impl_sees.b1 (k : Nat) (L1 : List (Ty.den TPair) → List ByteArray → Int → Int → Option (Bool × Unit)) (x1_0 : List (Ty.den TPair)) (x1_1 : List ByteArray) (x1_2 : Int) (x1_3 : Int) : Option (Bool × Unit) :=
  (bif (decide (x1_3 < x1_2)) then
  (inb x1_3 (List.length x1_1 : Int)
  (Option.bind (impl_pairAt.f k x1_0 (List.getD x1_1 (Int.toNat x1_3) (Ty.dflt .str))) fun r2 =>
  (bif r2.2.1 then
  (some (false, ()))
  else
  (L1 x1_0 x1_1 x1_2 (w64 (x1_3 + 1))))))
  else
  (some (true, ())))
def impl_sees.l1 (k : Nat) : Nat → List (Ty.den TPair) → List ByteArray → Int → Int → Option (Bool × Unit)
  | 0 => fun _ _ _ _ => none
  | n + 1 => impl_sees.b1 k (impl_sees.l1 k n)
def impl_sees.b0 (k : Nat) (L1 : List (Ty.den TPair) → List ByteArray → Int → Int → Option (Bool × Unit)) (L0 : List (Ty.den TPair) → List (Ty.den TPair) → Int → Int → Int → List (Ty.den TPair) → List ByteArray → List (Ty.den TPut) → Option (Bool × Unit)) (x0_0 : List (Ty.den TPair)) (x0_1 : List (Ty.den TPair)) (x0_2 : Int) (x0_3 : Int) (x0_4 : Int) (x0_5 : List (Ty.den TPair)) (x0_6 : List ByteArray) (x0_7 : List (Ty.den TPut)) : Option (Bool × Unit) :=
  (bif (decide (x0_3 < x0_2)) then
  (inb x0_3 (List.length x0_1 : Int)
  (Option.bind (impl_pairAt.f k x0_0 (List.getD x0_1 (Int.toNat x0_3) (Ty.dflt TPair)).1) fun r1 =>
  (bif (!r1.2.1) then
  (some (false, ()))
  else
  (bif (!(seq r1.1.2.1 (List.getD x0_1 (Int.toNat x0_3) (Ty.dflt TPair)).2.1)) then
  (some (false, ()))
  else
  (L0 x0_0 x0_1 x0_2 (w64 (x0_3 + 1)) x0_4 x0_5 x0_6 x0_7)))))
  else
  (L1 x0_0 x0_6 (List.length x0_6 : Int) 0))
def impl_sees.l0 (k : Nat) : Nat → List (Ty.den TPair) → List (Ty.den TPair) → Int → Int → Int → List (Ty.den TPair) → List ByteArray → List (Ty.den TPut) → Option (Bool × Unit)
  | 0 => fun _ _ _ _ _ _ _ _ => none
  | n + 1 => impl_sees.b0 k (impl_sees.l1 k k) (impl_sees.l0 k n)
def impl_sees.t (k : Nat) (L0 : List (Ty.den TPair) → List (Ty.den TPair) → Int → Int → Int → List (Ty.den TPair) → List ByteArray → List (Ty.den TPut) → Option (Bool × Unit)) (a0 : List (Ty.den TPair)) (a1 : Ty.den THist) : Option (Bool × Unit) :=
  (L0 a0 a1.2.1 (List.length a1.2.1 : Int) 0 a1.1 a1.2.1 a1.2.2.1 a1.2.2.2.1)
def impl_sees.f (k : Nat) (a0 : List (Ty.den TPair)) (a1 : Ty.den THist) : Option (Bool × Unit) := impl_sees.t k (impl_sees.l0 k k) a0 a1
def impl_SerialOk.b0 (k : Nat) (L0 : List (Ty.den THist) → List (Ty.den THist) → Int → Int → Option (Bool × Unit)) (x0_0 : List (Ty.den THist)) (x0_1 : List (Ty.den THist)) (x0_2 : Int) (x0_3 : Int) : Option (Bool × Unit) :=
  (bif (decide (x0_3 < x0_2)) then
  (inb x0_3 (List.length x0_1 : Int)
  (inc x0_3 (List.length x0_0 : Int)
  (Option.bind (impl_SerialMap.f k (List.take (Int.toNat x0_3) x0_0)) fun r1 =>
  (Option.bind (impl_sees.f k r1.1 (List.getD x0_1 (Int.toNat x0_3) (Ty.dflt THist))) fun r2 =>
  (bif (!r2.1) then
  (some (false, ()))
  else
  (L0 x0_0 x0_1 x0_2 (w64 (x0_3 + 1))))))))
  else
  (some (true, ())))
def impl_SerialOk.l0 (k : Nat) : Nat → List (Ty.den THist) → List (Ty.den THist) → Int → Int → Option (Bool × Unit)
  | 0 => fun _ _ _ _ => none
  | n + 1 => impl_SerialOk.b0 k (impl_SerialOk.l0 k n)
def impl_SerialOk.t (k : Nat) (L0 : List (Ty.den THist) → List (Ty.den THist) → Int → Int → Option (Bool × Unit)) (a0 : List (Ty.den THist)) : Option (Bool × Unit) :=
  (L0 a0 a0 (List.length a0 : Int) 0)
def impl_SerialOk.f (k : Nat) (a0 : List (Ty.den THist)) : Option (Bool × Unit) := impl_SerialOk.t k (impl_SerialOk.l0 k k) a0
def laws_eqPair.t (k : Nat) (a0 : Ty.den TPair) (a1 : Ty.den TPair) : Option (Bool × Unit) :=
  (bif (!(seq a0.1 a1.1)) then
  (some (false, ()))
  else
  (bif (!(seq a0.2.1 a1.2.1)) then
  (some (false, ()))
  else
  (bif (a0.2.2.1 != a1.2.2.1) then
  (some (false, ()))
  else
  (some (true, ())))))
def laws_eqPair.f (k : Nat) (a0 : Ty.den TPair) (a1 : Ty.den TPair) : Option (Bool × Unit) := laws_eqPair.t k a0 a1
def laws_eqPairS.b0 (k : Nat) (L0 : List (Ty.den TPair) → List (Ty.den TPair) → Int → Option (Bool × Unit)) (x0_0 : List (Ty.den TPair)) (x0_1 : List (Ty.den TPair)) (x0_2 : Int) : Option (Bool × Unit) :=
  (bif (decide (x0_2 < (List.length x0_0 : Int))) then
  (inb x0_2 (List.length x0_0 : Int)
  (inb x0_2 (List.length x0_1 : Int)
  (Option.bind (laws_eqPair.f k (List.getD x0_0 (Int.toNat x0_2) (Ty.dflt TPair)) (List.getD x0_1 (Int.toNat x0_2) (Ty.dflt TPair))) fun r1 =>
  (bif (!r1.1) then
  (some (false, ()))
  else
  (L0 x0_0 x0_1 (w64 (x0_2 + 1)))))))
  else
  (some (true, ())))
def laws_eqPairS.l0 (k : Nat) : Nat → List (Ty.den TPair) → List (Ty.den TPair) → Int → Option (Bool × Unit)
  | 0 => fun _ _ _ => none
  | n + 1 => laws_eqPairS.b0 k (laws_eqPairS.l0 k n)
def laws_eqPairS.t (k : Nat) (L0 : List (Ty.den TPair) → List (Ty.den TPair) → Int → Option (Bool × Unit)) (a0 : List (Ty.den TPair)) (a1 : List (Ty.den TPair)) : Option (Bool × Unit) :=
  (bif ((List.length a0 : Int) != (List.length a1 : Int)) then
  (some (false, ()))
  else
  (L0 a0 a1 0))
def laws_eqPairS.f (k : Nat) (a0 : List (Ty.den TPair)) (a1 : List (Ty.den TPair)) : Option (Bool × Unit) := laws_eqPairS.t k (laws_eqPairS.l0 k k) a0 a1
def laws_eqStringS.b0 (k : Nat) (L0 : List ByteArray → List ByteArray → Int → Option (Bool × Unit)) (x0_0 : List ByteArray) (x0_1 : List ByteArray) (x0_2 : Int) : Option (Bool × Unit) :=
  (bif (decide (x0_2 < (List.length x0_0 : Int))) then
  (inb x0_2 (List.length x0_0 : Int)
  (inb x0_2 (List.length x0_1 : Int)
  (bif (!(seq (List.getD x0_0 (Int.toNat x0_2) (Ty.dflt .str)) (List.getD x0_1 (Int.toNat x0_2) (Ty.dflt .str)))) then
  (some (false, ()))
  else
  (L0 x0_0 x0_1 (w64 (x0_2 + 1))))))
  else
  (some (true, ())))
def laws_eqStringS.l0 (k : Nat) : Nat → List ByteArray → List ByteArray → Int → Option (Bool × Unit)
  | 0 => fun _ _ _ => none
  | n + 1 => laws_eqStringS.b0 k (laws_eqStringS.l0 k n)
def laws_eqStringS.t (k : Nat) (L0 : List ByteArray → List ByteArray → Int → Option (Bool × Unit)) (a0 : List ByteArray) (a1 : List ByteArray) : Option (Bool × Unit) :=
  (bif ((List.length a0 : Int) != (List.length a1 : Int)) then
  (some (false, ()))
  else
  (L0 a0 a1 0))
def laws_eqStringS.f (k : Nat) (a0 : List ByteArray) (a1 : List ByteArray) : Option (Bool × Unit) := laws_eqStringS.t k (laws_eqStringS.l0 k k) a0 a1
def laws_eqPut.t (k : Nat) (a0 : Ty.den TPut) (a1 : Ty.den TPut) : Option (Bool × Unit) :=
  (bif (!(seq a0.1 a1.1)) then
  (some (false, ()))
  else
  (bif (!(a0.2.1 == a1.2.1)) then
  (some (false, ()))
  else
  (bif (!(seq a0.2.2.1 a1.2.2.1)) then
  (some (false, ()))
  else
  (some (true, ())))))
def laws_eqPut.f (k : Nat) (a0 : Ty.den TPut) (a1 : Ty.den TPut) : Option (Bool × Unit) := laws_eqPut.t k a0 a1
def laws_eqPutS.b0 (k : Nat) (L0 : List (Ty.den TPut) → List (Ty.den TPut) → Int → Option (Bool × Unit)) (x0_0 : List (Ty.den TPut)) (x0_1 : List (Ty.den TPut)) (x0_2 : Int) : Option (Bool × Unit) :=
  (bif (decide (x0_2 < (List.length x0_0 : Int))) then
  (inb x0_2 (List.length x0_0 : Int)
  (inb x0_2 (List.length x0_1 : Int)
  (Option.bind (laws_eqPut.f k (List.getD x0_0 (Int.toNat x0_2) (Ty.dflt TPut)) (List.getD x0_1 (Int.toNat x0_2) (Ty.dflt TPut))) fun r1 =>
  (bif (!r1.1) then
  (some (false, ()))
  else
  (L0 x0_0 x0_1 (w64 (x0_2 + 1)))))))
  else
  (some (true, ())))
def laws_eqPutS.l0 (k : Nat) : Nat → List (Ty.den TPut) → List (Ty.den TPut) → Int → Option (Bool × Unit)
  | 0 => fun _ _ _ => none
  | n + 1 => laws_eqPutS.b0 k (laws_eqPutS.l0 k n)
def laws_eqPutS.t (k : Nat) (L0 : List (Ty.den TPut) → List (Ty.den TPut) → Int → Option (Bool × Unit)) (a0 : List (Ty.den TPut)) (a1 : List (Ty.den TPut)) : Option (Bool × Unit) :=
  (bif ((List.length a0 : Int) != (List.length a1 : Int)) then
  (some (false, ()))
  else
  (L0 a0 a1 0))
def laws_eqPutS.f (k : Nat) (a0 : List (Ty.den TPut)) (a1 : List (Ty.den TPut)) : Option (Bool × Unit) := laws_eqPutS.t k (laws_eqPutS.l0 k k) a0 a1
def laws_eqHist.t (k : Nat) (a0 : Ty.den THist) (a1 : Ty.den THist) : Option (Bool × Unit) :=
  (bif (a0.1 != a1.1) then
  (some (false, ()))
  else
  (Option.bind (laws_eqPairS.f k a0.2.1 a1.2.1) fun r1 =>
  (bif (!r1.1) then
  (some (false, ()))
  else
  (Option.bind (laws_eqStringS.f k a0.2.2.1 a1.2.2.1) fun r2 =>
  (bif (!r2.1) then
  (some (false, ()))
  else
  (Option.bind (laws_eqPutS.f k a0.2.2.2.1 a1.2.2.2.1) fun r3 =>
  (bif (!r3.1) then
  (some (false, ()))
  else
  (some (true, ())))))))))
def laws_eqHist.f (k : Nat) (a0 : Ty.den THist) (a1 : Ty.den THist) : Option (Bool × Unit) := laws_eqHist.t k a0 a1
def laws_eqHistS.b0 (k : Nat) (L0 : List (Ty.den THist) → List (Ty.den THist) → Int → Option (Bool × Unit)) (x0_0 : List (Ty.den THist)) (x0_1 : List (Ty.den THist)) (x0_2 : Int) : Option (Bool × Unit) :=
  (bif (decide (x0_2 < (List.length x0_0 : Int))) then
  (inb x0_2 (List.length x0_0 : Int)
  (inb x0_2 (List.length x0_1 : Int)
  (Option.bind (laws_eqHist.f k (List.getD x0_0 (Int.toNat x0_2) (Ty.dflt THist)) (List.getD x0_1 (Int.toNat x0_2) (Ty.dflt THist))) fun r1 =>
  (bif (!r1.1) then
  (some (false, ()))
  else
  (L0 x0_0 x0_1 (w64 (x0_2 + 1)))))))
  else
  (some (true, ())))
def laws_eqHistS.l0 (k : Nat) : Nat → List (Ty.den THist) → List (Ty.den THist) → Int → Option (Bool × Unit)
  | 0 => fun _ _ _ => none
  | n + 1 => laws_eqHistS.b0 k (laws_eqHistS.l0 k n)
def laws_eqHistS.t (k : Nat) (L0 : List (Ty.den THist) → List (Ty.den THist) → Int → Option (Bool × Unit)) (a0 : List (Ty.den THist)) (a1 : List (Ty.den THist)) : Option (Bool × Unit) :=
  (bif ((List.length a0 : Int) != (List.length a1 : Int)) then
  (some (false, ()))
  else
  (L0 a0 a1 0))
def laws_eqHistS.f (k : Nat) (a0 : List (Ty.den THist)) (a1 : List (Ty.den THist)) : Option (Bool × Unit) := laws_eqHistS.t k (laws_eqHistS.l0 k k) a0 a1
def laws_FnExactSerialOk.t (k : Nat) (a0 : List (Ty.den THist)) : Option (Bool × Unit) :=
  (Option.bind (laws_szHistS.f k a0 1048576) fun r1 =>
  (bif (decide (r1.1 < 0)) then
  (some (true, ()))
  else
  (Option.bind (laws_toHistS.f k a0) fun r2 =>
  (Option.bind (spec_SerialOk.f k r2.1) fun r3 =>
  (Option.bind (laws_toHistS.f k a0) fun r4 =>
  (Option.bind (impl_SerialOk.f k r4.1) fun r5 =>
  (bif (!(r5.1 == r3.1)) then
  (some (false, ()))
  else
  (Option.bind (laws_toHistS.f k a0) fun r6 =>
  (Option.bind (laws_eqHistS.f k r4.1 r6.1) fun r7 =>
  (bif (!r7.1) then
  (some (false, ()))
  else
  (some (true, ()))))))))))))
def laws_FnExactSerialOk.f (k : Nat) (a0 : List (Ty.den THist)) : Option (Bool × Unit) := laws_FnExactSerialOk.t k a0
def laws_szAck.t (k : Nat) (a0 : Ty.den TAck) (a1 : Int) : Option (Int × Unit) :=
  (Option.bind (laws_szPutS.f k a0.2.1 a1) fun r1 =>
  (bif (decide (r1.1 < 0)) then
  (some ((-1), ()))
  else
  (some r1)))
def laws_szAck.f (k : Nat) (a0 : Ty.den TAck) (a1 : Int) : Option (Int × Unit) := laws_szAck.t k a0 a1
def laws_szAckS.b0 (k : Nat) (L0 : List (Ty.den TAck) → Int → Int → Option (Int × Unit)) (x0_0 : List (Ty.den TAck)) (x0_1 : Int) (x0_2 : Int) : Option (Int × Unit) :=
  (bif (decide (x0_2 < (List.length x0_0 : Int))) then
  (inb x0_2 (List.length x0_0 : Int)
  (Option.bind (laws_szAck.f k (List.getD x0_0 (Int.toNat x0_2) (Ty.dflt TAck)) x0_1) fun r1 =>
  (bif (decide (r1.1 < 0)) then
  (some ((-1), ()))
  else
  (L0 x0_0 r1.1 (w64 (x0_2 + 1))))))
  else
  (some (x0_1, ())))
def laws_szAckS.l0 (k : Nat) : Nat → List (Ty.den TAck) → Int → Int → Option (Int × Unit)
  | 0 => fun _ _ _ => none
  | n + 1 => laws_szAckS.b0 k (laws_szAckS.l0 k n)
def laws_szAckS.t (k : Nat) (L0 : List (Ty.den TAck) → Int → Int → Option (Int × Unit)) (a0 : List (Ty.den TAck)) (a1 : Int) : Option (Int × Unit) :=
  (bif (decide ((w64 (a1 - (List.length a0 : Int))) < 0)) then
  (some ((-1), ()))
  else
  (L0 a0 (w64 (a1 - (List.length a0 : Int))) 0))
def laws_szAckS.f (k : Nat) (a0 : List (Ty.den TAck)) (a1 : Int) : Option (Int × Unit) := laws_szAckS.t k (laws_szAckS.l0 k k) a0 a1
def laws_szEnd.t (k : Nat) (a0 : Ty.den TEnd) (a1 : Int) : Option (Int × Unit) :=
  (Option.bind (laws_szPairS.f k a0.1 a1) fun r1 =>
  (bif (decide (r1.1 < 0)) then
  (some ((-1), ()))
  else
  (Option.bind (laws_szAckS.f k a0.2.1 r1.1) fun r2 =>
  (bif (decide (r2.1 < 0)) then
  (some ((-1), ()))
  else
  (Option.bind (laws_szPutS.f k a0.2.2.1 r2.1) fun r3 =>
  (bif (decide (r3.1 < 0)) then
  (some ((-1), ()))
  else
  (Option.bind (laws_szPairS.f k a0.2.2.2.1 r3.1) fun r4 =>
  (bif (decide (r4.1 < 0)) then
  (some ((-1), ()))
  else
  (some r4)))))))))
def laws_szEnd.f (k : Nat) (a0 : Ty.den TEnd) (a1 : Int) : Option (Int × Unit) := laws_szEnd.t k a0 a1
def laws_toAck.t (k : Nat) (a0 : Ty.den TAck) : Option ((Ty.den TAck) × Unit) :=
  (Option.bind (laws_toPutS.f k a0.2.1) fun r1 =>
  (some ((a0.1, r1), ())))
def laws_toAck.f (k : Nat) (a0 : Ty.den TAck) : Option ((Ty.den TAck) × Unit) := laws_toAck.t k a0
def laws_toAckS.b0 (k : Nat) (L0 : List (Ty.den TAck) → Int → List (Ty.den TAck) → Option ((List (Ty.den TAck)) × Unit)) (x0_0 : List (Ty.den TAck)) (x0_1 : Int) (x0_2 : List (Ty.den TAck)) : Option ((List (Ty.den TAck)) × Unit) :=
  (bif (decide (x0_1 < (List.length x0_0 : Int))) then
  (inb x0_1 (List.length x0_0 : Int)
  (Option.bind (laws_toAck.f k (List.getD x0_0 (Int.toNat x0_1) (Ty.dflt TAck))) fun r1 =>
  (inb x0_1 (List.length x0_2 : Int)
  (let l2 := (List.set x0_2 (Int.toNat x0_1) r1.1);
  (L0 x0_0 (w64 (x0_1 + 1)) l2)))))
  else
  (some (x0_2, ())))
def laws_toAckS.l0 (k : Nat) : Nat → List (Ty.den TAck) → Int → List (Ty.den TAck) → Option ((List (Ty.den TAck)) × Unit)
  | 0 => fun _ _ _ => none
  | n + 1 => laws_toAckS.b0 k (laws_toAckS.l0 k n)
def laws_toAckS.t (k : Nat) (L0 : List (Ty.den TAck) → Int → List (Ty.den TAck) → Option ((List (Ty.den TAck)) × Unit)) (a0 : List (Ty.den TAck)) : Option ((List (Ty.den TAck)) × Unit) :=
  (mks (Ty.bytes TAck) (List.length a0 : Int)
  (L0 a0 0 (List.replicate (Int.toNat (List.length a0 : Int)) (Ty.dflt TAck))))
def laws_toAckS.f (k : Nat) (a0 : List (Ty.den TAck)) : Option ((List (Ty.den TAck)) × Unit) := laws_toAckS.t k (laws_toAckS.l0 k k) a0
def laws_toEnd.t (k : Nat) (a0 : Ty.den TEnd) : Option ((Ty.den TEnd) × Unit) :=
  (Option.bind (laws_toPairS.f k a0.1) fun r1 =>
  (Option.bind (laws_toAckS.f k a0.2.1) fun r2 =>
  (Option.bind (laws_toPutS.f k a0.2.2.1) fun r3 =>
  (Option.bind (laws_toPairS.f k a0.2.2.2.1) fun r4 =>
  (some ((r1.1, (r2.1, (r3.1, (r4.1, a0.2.2.2.2)))), ()))))))
def laws_toEnd.f (k : Nat) (a0 : Ty.den TEnd) : Option ((Ty.den TEnd) × Unit) := laws_toEnd.t k a0
def spec_FoldAcks.b0 (k : Nat) (L0 : List (Ty.den TAck) → Int → List (Ty.den TPair) → Option ((List (Ty.den TPair)) × Unit)) (x0_0 : List (Ty.den TAck)) (x0_1 : Int) (x0_2 : List (Ty.den TPair)) : Option ((List (Ty.den TPair)) × Unit) :=
  (bif (decide (x0_1 < (List.length x0_0 : Int))) then
  (inb x0_1 (List.length x0_0 : Int)
  (inb x0_1 (List.length x0_0 : Int)
  (Option.bind (spec_Fold.f k x0_2 (List.getD x0_0 (Int.toNat x0_1) (Ty.dflt TAck)).2.1 (List.getD x0_0 (Int.toNat x0_1) (Ty.dflt TAck)).1) fun r1 =>
  (L0 x0_0 (w64 (x0_1 + 1)) r1.1))))
  else
  (some (x0_2, ())))
def spec_FoldAcks.l0 (k : Nat) : Nat → List (Ty.den TAck) → Int → List (Ty.den TPair) → Option ((List (Ty.den TPair)) × Unit)
  | 0 => fun _ _ _ => none
  | n + 1 => spec_FoldAcks.b0 k (spec_FoldAcks.l0 k n)
def spec_FoldAcks.t (k : Nat) (L0 : List (Ty.den TAck) → Int → List (Ty.den TPair) → Option ((List (Ty.den TPair)) × Unit)) (a0 : List (Ty.den TPair)) (a1 : List (Ty.den TAck)) : Option ((List (Ty.den TPair)) × Unit) :=
  (rm (Ty.bytes TPair) (0 + List.length a0)
  (L0 a1 0 ([] ++ a0)))
def spec_FoldAcks.f (k : Nat) (a0 : List (Ty.den TPair)) (a1 : List (Ty.den TAck)) : Option ((List (Ty.den TPair)) × Unit) := spec_FoldAcks.t k (spec_FoldAcks.l0 k k) a0 a1
def spec_SamePairs.b0 (k : Nat) (L0 : List (Ty.den TPair) → List (Ty.den TPair) → Int → Option (Bool × Unit)) (x0_0 : List (Ty.den TPair)) (x0_1 : List (Ty.den TPair)) (x0_2 : Int) : Option (Bool × Unit) :=
  (bif (decide (x0_2 < (List.length x0_0 : Int))) then
  (inb x0_2 (List.length x0_0 : Int)
  (inb x0_2 (List.length x0_1 : Int)
  (bif (!((seq (List.getD x0_0 (Int.toNat x0_2) (Ty.dflt TPair)).1 (List.getD x0_1 (Int.toNat x0_2) (Ty.dflt TPair)).1) && ((seq (List.getD x0_0 (Int.toNat x0_2) (Ty.dflt TPair)).2.1 (List.getD x0_1 (Int.toNat x0_2) (Ty.dflt TPair)).2.1) && ((List.getD x0_0 (Int.toNat x0_2) (Ty.dflt TPair)).2.2.1 == (List.getD x0_1 (Int.toNat x0_2) (Ty.dflt TPair)).2.2.1)))) then
  (some (false, ()))
  else
  (L0 x0_0 x0_1 (w64 (x0_2 + 1))))))
  else
  (some (true, ())))
def spec_SamePairs.l0 (k : Nat) : Nat → List (Ty.den TPair) → List (Ty.den TPair) → Int → Option (Bool × Unit)
  | 0 => fun _ _ _ => none
  | n + 1 => spec_SamePairs.b0 k (spec_SamePairs.l0 k n)
def spec_SamePairs.t (k : Nat) (L0 : List (Ty.den TPair) → List (Ty.den TPair) → Int → Option (Bool × Unit)) (a0 : List (Ty.den TPair)) (a1 : List (Ty.den TPair)) : Option (Bool × Unit) :=
  (bif ((List.length a0 : Int) != (List.length a1 : Int)) then
  (some (false, ()))
  else
  (L0 a0 a1 0))
def spec_SamePairs.f (k : Nat) (a0 : List (Ty.den TPair)) (a1 : List (Ty.den TPair)) : Option (Bool × Unit) := spec_SamePairs.t k (spec_SamePairs.l0 k k) a0 a1
def spec_EndOk.b0 (k : Nat) (L0 : Int → List (Ty.den TPair) → List (Ty.den TAck) → List (Ty.den TPut) → List (Ty.den TPair) → Int → List (Ty.den TPair) → Option (Bool × Unit)) (x0_0 : Int) (x0_1 : List (Ty.den TPair)) (x0_2 : List (Ty.den TAck)) (x0_3 : List (Ty.den TPut)) (x0_4 : List (Ty.den TPair)) (x0_5 : Int) (x0_6 : List (Ty.den TPair)) : Option (Bool × Unit) :=
  (bif (decide (x0_0 < (List.length x0_4 : Int))) then
  (bif (decide ((List.length x0_3 : Int) > 0)) then
  (inb x0_0 (List.length x0_4 : Int)
  (Option.bind (spec_Fold.f k x0_6 x0_3 (List.getD x0_4 (Int.toNat x0_0) (Ty.dflt TPair)).2.2.1) fun r3 =>
  (Option.bind (spec_SamePairs.f k x0_4 r3.1) fun r4 =>
  (bif r4.1 then
  (some (true, ()))
  else
  (L0 (w64 (x0_0 + 1)) x0_1 x0_2 x0_3 x0_4 x0_5 x0_6)))))
  else
  (bif (decide ((List.length x0_3 : Int) > 0)) then
  (Option.bind (spec_Fold.f k x0_6 x0_3 1) fun r5 =>
  (Option.bind (spec_SamePairs.f k x0_4 r5.1) fun r6 =>
  (some r6)))
  else
  (some (false, ()))))
  else
  (bif (decide ((List.length x0_3 : Int) > 0)) then
  (Option.bind (spec_Fold.f k x0_6 x0_3 1) fun r7 =>
  (Option.bind (spec_SamePairs.f k x0_4 r7.1) fun r8 =>
  (some r8)))
  else
  (some (false, ()))))
def spec_EndOk.l0 (k : Nat) : Nat → Int → List (Ty.den TPair) → List (Ty.den TAck) → List (Ty.den TPut) → List (Ty.den TPair) → Int → List (Ty.den TPair) → Option (Bool × Unit)
  | 0 => fun _ _ _ _ _ _ _ => none
  | n + 1 => spec_EndOk.b0 k (spec_EndOk.l0 k n)
def spec_EndOk.t (k : Nat) (L0 : Int → List (Ty.den TPair) → List (Ty.den TAck) → List (Ty.den TPut) → List (Ty.den TPair) → Int → List (Ty.den TPair) → Option (Bool × Unit)) (a0 : Ty.den TEnd) : Option (Bool × Unit) :=
  (bif (a0.2.2.2.2.1 != 0) then
  (some (false, ()))
  else
  (Option.bind (spec_FoldAcks.f k a0.1 a0.2.1) fun r1 =>
  (Option.bind (spec_SamePairs.f k a0.2.2.2.1 r1.1) fun r2 =>
  (bif r2.1 then
  (some (true, ()))
  else
  (L0 0 a0.1 a0.2.1 a0.2.2.1 a0.2.2.2.1 a0.2.2.2.2.1 r1.1)))))
def spec_EndOk.f (k : Nat) (a0 : Ty.den TEnd) : Option (Bool × Unit) := spec_EndOk.t k (spec_EndOk.l0 k k) a0
def impl_FoldAcks.b0 (k : Nat) (L0 : List (Ty.den TAck) → Int → Int → List (Ty.den TPair) → Option ((List (Ty.den TPair)) × Unit)) (x0_0 : List (Ty.den TAck)) (x0_1 : Int) (x0_2 : Int) (x0_3 : List (Ty.den TPair)) : Option ((List (Ty.den TPair)) × Unit) :=
  (bif (decide (x0_2 < x0_1)) then
  (inb x0_2 (List.length x0_0 : Int)
  (Option.bind (impl_Fold.f k x0_3 (List.getD x0_0 (Int.toNat x0_2) (Ty.dflt TAck)).2.1 (List.getD x0_0 (Int.toNat x0_2) (Ty.dflt TAck)).1) fun r2 =>
  (L0 x0_0 x0_1 (w64 (x0_2 + 1)) r2.1)))
  else
  (some (x0_3, ())))
def impl_FoldAcks.l0 (k : Nat) : Nat → List (Ty.den TAck) → Int → Int → List (Ty.den TPair) → Option ((List (Ty.den TPair)) × Unit)
  | 0 => fun _ _ _ _ => none
  | n + 1 => impl_FoldAcks.b0 k (impl_FoldAcks.l0 k n)
def impl_FoldAcks.t (k : Nat) (L0 : List (Ty.den TAck) → Int → Int → List (Ty.den TPair) → Option ((List (Ty.den TPair)) × Unit)) (a0 : List (Ty.den TPair)) (a1 : List (Ty.den TAck)) : Option ((List (Ty.den TPair)) × Unit) :=
  (Option.bind (impl_copyPairs.f k a0) fun r1 =>
  (L0 a1 (List.length a1 : Int) 0 r1.1))
def impl_FoldAcks.f (k : Nat) (a0 : List (Ty.den TPair)) (a1 : List (Ty.den TAck)) : Option ((List (Ty.den TPair)) × Unit) := impl_FoldAcks.t k (impl_FoldAcks.l0 k k) a0 a1
def impl_SamePairs.b0 (k : Nat) (L0 : List (Ty.den TPair) → List (Ty.den TPair) → Int → Int → Option (Bool × Unit)) (x0_0 : List (Ty.den TPair)) (x0_1 : List (Ty.den TPair)) (x0_2 : Int) (x0_3 : Int) : Option (Bool × Unit) :=
  (bif (decide (x0_3 < x0_2)) then
  (inb x0_3 (List.length x0_0 : Int)
  (inb x0_3 (List.length x0_1 : Int)
  (bif (!((seq (List.getD x0_0 (Int.toNat x0_3) (Ty.dflt TPair)).1 (List.getD x0_1 (Int.toNat x0_3) (Ty.dflt TPair)).1) && ((seq (List.getD x0_0 (Int.toNat x0_3) (Ty.dflt TPair)).2.1 (List.getD x0_1 (Int.toNat x0_3) (Ty.dflt TPair)).2.1) && ((List.getD x0_0 (Int.toNat x0_3) (Ty.dflt TPair)).2.2.1 == (List.getD x0_1 (Int.toNat x0_3) (Ty.dflt TPair)).2.2.1)))) then
  (some (false, ()))
  else
  (L0 x0_0 x0_1 x0_2 (w64 (x0_3 + 1))))))
  else
  (some (true, ())))
def impl_SamePairs.l0 (k : Nat) : Nat → List (Ty.den TPair) → List (Ty.den TPair) → Int → Int → Option (Bool × Unit)
  | 0 => fun _ _ _ _ => none
  | n + 1 => impl_SamePairs.b0 k (impl_SamePairs.l0 k n)
def impl_SamePairs.t (k : Nat) (L0 : List (Ty.den TPair) → List (Ty.den TPair) → Int → Int → Option (Bool × Unit)) (a0 : List (Ty.den TPair)) (a1 : List (Ty.den TPair)) : Option (Bool × Unit) :=
  (bif ((List.length a0 : Int) != (List.length a1 : Int)) then
  (some (false, ()))
  else
  (L0 a0 a1 (List.length a0 : Int) 0))
def impl_SamePairs.f (k : Nat) (a0 : List (Ty.den TPair)) (a1 : List (Ty.den TPair)) : Option (Bool × Unit) := impl_SamePairs.t k (impl_SamePairs.l0 k k) a0 a1
def impl_EndOk.b1 (k : Nat) (L1 : Int → Int → List (Ty.den TPair) → List (Ty.den TAck) → List (Ty.den TPut) → List (Ty.den TPair) → Int → List (Ty.den TPair) → List Int → Option (Bool × Unit)) (x1_0 : Int) (x1_1 : Int) (x1_2 : List (Ty.den TPair)) (x1_3 : List (Ty.den TAck)) (x1_4 : List (Ty.den TPut)) (x1_5 : List (Ty.den TPair)) (x1_6 : Int) (x1_7 : List (Ty.den TPair)) (x1_8 : List Int) : Option (Bool × Unit) :=
  (bif (decide (x1_1 < x1_0)) then
  (inb x1_1 (List.length x1_8 : Int)
  (Option.bind (impl_Fold.f k x1_7 x1_4 (List.getD x1_8 (Int.toNat x1_1) (Ty.dflt (.int .i64)))) fun r3 =>
  (Option.bind (impl_SamePairs.f k x1_5 r3.1) fun r4 =>
  (bif r4.1 then
  (some (true, ()))
  else
  (L1 x1_0 (w64 (x1_1 + 1)) x1_2 x1_3 x1_4 x1_5 x1_6 x1_7 x1_8)))))
  else
  (some (false, ())))
def impl_EndOk.l1 (k : Nat) : Nat → Int → Int → List (Ty.den TPair) → List (Ty.den TAck) → List (Ty.den TPut) → List (Ty.den TPair) → Int → List (Ty.den TPair) → List Int → Option (Bool × Unit)
  | 0 => fun _ _ _ _ _ _ _ _ _ => none
  | n + 1 => impl_EndOk.b1 k (impl_EndOk.l1 k n)
def impl_EndOk.b0 (k : Nat) (L1 : Int → Int → List (Ty.den TPair) → List (Ty.den TAck) → List (Ty.den TPut) → List (Ty.den TPair) → Int → List (Ty.den TPair) → List Int → Option (Bool × Unit)) (L0 : List (Ty.den TPair) → Int → Int → List (Ty.den TPair) → List (Ty.den TAck) → List (Ty.den TPut) → List (Ty.den TPair) → Int → List (Ty.den TPair) → List Int → Option (Bool × Unit)) (x0_0 : List (Ty.den TPair)) (x0_1 : Int) (x0_2 : Int) (x0_3 : List (Ty.den TPair)) (x0_4 : List (Ty.den TAck)) (x0_5 : List (Ty.den TPut)) (x0_6 : List (Ty.den TPair)) (x0_7 : Int) (x0_8 : List (Ty.den TPair)) (x0_9 : List Int) : Option (Bool × Unit) :=
  (bif (decide (x0_2 < x0_1)) then
  (inb x0_2 (List.length x0_0 : Int)
  (rm (Ty.bytes (.int .i64)) (List.length x0_9 + 1)
  (L0 x0_0 x0_1 (w64 (x0_2 + 1)) x0_3 x0_4 x0_5 x0_6 x0_7 x0_8 (x0_9 ++ [(List.getD x0_0 (Int.toNat x0_2) (Ty.dflt TPair)).2.2.1]))))
  else
  (L1 (List.length x0_9 : Int) 0 x0_3 x0_4 x0_5 x0_6 x0_7 x0_8 x0_9))
def impl_EndOk.l0 (k : Nat) : Nat → List (Ty.den TPair) → Int → Int → List (Ty.den TPair) → List (Ty.den TAck) → List (Ty.den TPut) → List (Ty.den TPair) → Int → List (Ty.den TPair) → List Int → Option (Bool × Unit)
  | 0 => fun _ _ _ _ _ _ _ _ _ _ => none
  | n + 1 => impl_EndOk.b0 k (impl_EndOk.l1 k k) (impl_EndOk.l0 k n)
def impl_EndOk.t (k : Nat) (L0 : List (Ty.den TPair) → Int → Int → List (Ty.den TPair) → List (Ty.den TAck) → List (Ty.den TPut) → List (Ty.den TPair) → Int → List (Ty.den TPair) → List Int → Option (Bool × Unit)) (a0 : Ty.den TEnd) : Option (Bool × Unit) :=
  (Option.bind (impl_FoldAcks.f k a0.1 a0.2.1) fun r1 =>
  (bif (a0.2.2.2.2.1 != 0) then
  (some (false, ()))
  else
  (Option.bind (impl_SamePairs.f k a0.2.2.2.1 r1.1) fun r2 =>
  (bif r2.1 then
  (some (true, ()))
  else
  (bif ((List.length a0.2.2.1 : Int) == 0) then
  (some (false, ()))
  else
  (L0 a0.2.2.2.1 (List.length a0.2.2.2.1 : Int) 0 a0.1 a0.2.1 a0.2.2.1 a0.2.2.2.1 a0.2.2.2.2.1 r1.1 [0]))))))
def impl_EndOk.f (k : Nat) (a0 : Ty.den TEnd) : Option (Bool × Unit) := impl_EndOk.t k (impl_EndOk.l0 k k) a0
def laws_eqAck.t (k : Nat) (a0 : Ty.den TAck) (a1 : Ty.den TAck) : Option (Bool × Unit) :=
  (bif (a0.1 != a1.1) then
  (some (false, ()))
  else
  (Option.bind (laws_eqPutS.f k a0.2.1 a1.2.1) fun r1 =>
  (bif (!r1.1) then
  (some (false, ()))
  else
  (some (true, ())))))
def laws_eqAck.f (k : Nat) (a0 : Ty.den TAck) (a1 : Ty.den TAck) : Option (Bool × Unit) := laws_eqAck.t k a0 a1
def laws_eqAckS.b0 (k : Nat) (L0 : List (Ty.den TAck) → List (Ty.den TAck) → Int → Option (Bool × Unit)) (x0_0 : List (Ty.den TAck)) (x0_1 : List (Ty.den TAck)) (x0_2 : Int) : Option (Bool × Unit) :=
  (bif (decide (x0_2 < (List.length x0_0 : Int))) then
  (inb x0_2 (List.length x0_0 : Int)
  (inb x0_2 (List.length x0_1 : Int)
  (Option.bind (laws_eqAck.f k (List.getD x0_0 (Int.toNat x0_2) (Ty.dflt TAck)) (List.getD x0_1 (Int.toNat x0_2) (Ty.dflt TAck))) fun r1 =>
  (bif (!r1.1) then
  (some (false, ()))
  else
  (L0 x0_0 x0_1 (w64 (x0_2 + 1)))))))
  else
  (some (true, ())))
def laws_eqAckS.l0 (k : Nat) : Nat → List (Ty.den TAck) → List (Ty.den TAck) → Int → Option (Bool × Unit)
  | 0 => fun _ _ _ => none
  | n + 1 => laws_eqAckS.b0 k (laws_eqAckS.l0 k n)
def laws_eqAckS.t (k : Nat) (L0 : List (Ty.den TAck) → List (Ty.den TAck) → Int → Option (Bool × Unit)) (a0 : List (Ty.den TAck)) (a1 : List (Ty.den TAck)) : Option (Bool × Unit) :=
  (bif ((List.length a0 : Int) != (List.length a1 : Int)) then
  (some (false, ()))
  else
  (L0 a0 a1 0))
def laws_eqAckS.f (k : Nat) (a0 : List (Ty.den TAck)) (a1 : List (Ty.den TAck)) : Option (Bool × Unit) := laws_eqAckS.t k (laws_eqAckS.l0 k k) a0 a1
def laws_eqEnd.t (k : Nat) (a0 : Ty.den TEnd) (a1 : Ty.den TEnd) : Option (Bool × Unit) :=
  (Option.bind (laws_eqPairS.f k a0.1 a1.1) fun r1 =>
  (bif (!r1.1) then
  (some (false, ()))
  else
  (Option.bind (laws_eqAckS.f k a0.2.1 a1.2.1) fun r2 =>
  (bif (!r2.1) then
  (some (false, ()))
  else
  (Option.bind (laws_eqPutS.f k a0.2.2.1 a1.2.2.1) fun r3 =>
  (bif (!r3.1) then
  (some (false, ()))
  else
  (Option.bind (laws_eqPairS.f k a0.2.2.2.1 a1.2.2.2.1) fun r4 =>
  (bif (!r4.1) then
  (some (false, ()))
  else
  (bif (a0.2.2.2.2.1 != a1.2.2.2.2.1) then
  (some (false, ()))
  else
  (some (true, ())))))))))))
def laws_eqEnd.f (k : Nat) (a0 : Ty.den TEnd) (a1 : Ty.den TEnd) : Option (Bool × Unit) := laws_eqEnd.t k a0 a1
def laws_FnExactEndOk.t (k : Nat) (a0 : Ty.den TEnd) : Option (Bool × Unit) :=
  (Option.bind (laws_szEnd.f k a0 1048576) fun r1 =>
  (bif (decide (r1.1 < 0)) then
  (some (true, ()))
  else
  (Option.bind (laws_toEnd.f k a0) fun r2 =>
  (Option.bind (spec_EndOk.f k r2.1) fun r3 =>
  (Option.bind (laws_toEnd.f k a0) fun r4 =>
  (Option.bind (impl_EndOk.f k r4.1) fun r5 =>
  (bif (!(r5.1 == r3.1)) then
  (some (false, ()))
  else
  (Option.bind (laws_toEnd.f k a0) fun r6 =>
  (Option.bind (laws_eqEnd.f k r4.1 r6.1) fun r7 =>
  (bif (!r7.1) then
  (some (false, ()))
  else
  (some (true, ()))))))))))))
def laws_FnExactEndOk.f (k : Nat) (a0 : Ty.den TEnd) : Option (Bool × Unit) := laws_FnExactEndOk.t k a0
end Go.Proofs.Ytiigjojchlplpaa.G

/- Functions, as V runs them. -/
import Derived.Test.YtiigjojchlplpaaVWords
set_option linter.unusedVariables false
namespace Go.Proofs.Ytiigjojchlplpaa.G
open Go.V
abbrev TCost : Ty := .pair (.int .i64) (.pair (.int .i64) .unit)
abbrev TEntry : Ty := .pair .str (.pair (.int .i64) (.pair (.int .i64) (.pair (.int .i64) (.pair (.int .i64) .unit))))
abbrev TPiece : Ty := .pair (.int .i64) (.pair .str .unit)
abbrev TFollower : Ty := .pair (.int .i64) (.pair (.slice TPiece) .unit)
abbrev TGroup : Ty := .pair (.slice TEntry) (.pair (.int .i64) (.pair (.int .i64) .unit))
abbrev TLive : Ty := .pair (.int .i64) (.pair (.slice (.int .i64)) .unit)
abbrev TPair : Ty := .pair .str (.pair .str (.pair (.int .i64) .unit))
abbrev TRec : Ty := .pair (.int .i64) (.pair (.int .i64) (.pair .str (.pair .str (.pair (.int .i64) (.pair (.int .i64) .unit)))))
abbrev TPlace : Ty := .pair (.int .i64) (.pair (.int .i64) (.pair (.int .i64) (.pair TRec .unit)))
abbrev TPut : Ty := .pair .str (.pair .bool (.pair .str .unit))
abbrev TSpot : Ty := .pair (.int .i64) (.pair (.int .i64) (.pair TRec .unit))
abbrev TStore : Ty := .pair TLive (.pair (.slice TEntry) (.pair (.int .i64) (.pair (.int .i64) (.pair (.int .i64) .unit))))
abbrev Tscanner : Ty := .pair .str (.pair .bool .unit)
def laws_szIntS.t (k : Nat) (a0 : List Int) (a1 : Int) : Option (Int × Unit) :=
  (bif (decide ((w64 (a1 - (List.length a0 : Int))) < 0)) then
  (some ((-1), ()))
  else
  (some ((w64 (a1 - (List.length a0 : Int))), ())))
def laws_szIntS.f (k : Nat) (a0 : List Int) (a1 : Int) : Option (Int × Unit) := laws_szIntS.t k a0 a1
def laws_szLive.t (k : Nat) (a0 : Ty.den TLive) (a1 : Int) : Option (Int × Unit) :=
  (Option.bind (laws_szIntS.f k a0.2.1 a1) fun r1 =>
  (bif (decide (r1.1 < 0)) then
  (some ((-1), ()))
  else
  (some r1)))
def laws_szLive.f (k : Nat) (a0 : Ty.den TLive) (a1 : Int) : Option (Int × Unit) := laws_szLive.t k a0 a1
def laws_szEntry.t (k : Nat) (a0 : Ty.den TEntry) (a1 : Int) : Option (Int × Unit) :=
  (bif (decide ((w64 (a1 - (ByteArray.size a0.1 : Int))) < 0)) then
  (some ((-1), ()))
  else
  (some ((w64 (a1 - (ByteArray.size a0.1 : Int))), ())))
def laws_szEntry.f (k : Nat) (a0 : Ty.den TEntry) (a1 : Int) : Option (Int × Unit) := laws_szEntry.t k a0 a1
def laws_szEntryS.b0 (k : Nat) (L0 : List (Ty.den TEntry) → Int → Int → Option (Int × Unit)) (x0_0 : List (Ty.den TEntry)) (x0_1 : Int) (x0_2 : Int) : Option (Int × Unit) :=
  (bif (decide (x0_2 < (List.length x0_0 : Int))) then
  (inb x0_2 (List.length x0_0 : Int)
  (Option.bind (laws_szEntry.f k (List.getD x0_0 (Int.toNat x0_2) (Ty.dflt TEntry)) x0_1) fun r1 =>
  (bif (decide (r1.1 < 0)) then
  (some ((-1), ()))
  else
  (L0 x0_0 r1.1 (w64 (x0_2 + 1))))))
  else
  (some (x0_1, ())))
def laws_szEntryS.l0 (k : Nat) : Nat → List (Ty.den TEntry) → Int → Int → Option (Int × Unit)
  | 0 => fun _ _ _ => none
  | n + 1 => laws_szEntryS.b0 k (laws_szEntryS.l0 k n)
def laws_szEntryS.t (k : Nat) (L0 : List (Ty.den TEntry) → Int → Int → Option (Int × Unit)) (a0 : List (Ty.den TEntry)) (a1 : Int) : Option (Int × Unit) :=
  (bif (decide ((w64 (a1 - (List.length a0 : Int))) < 0)) then
  (some ((-1), ()))
  else
  (L0 a0 (w64 (a1 - (List.length a0 : Int))) 0))
def laws_szEntryS.f (k : Nat) (a0 : List (Ty.den TEntry)) (a1 : Int) : Option (Int × Unit) := laws_szEntryS.t k (laws_szEntryS.l0 k k) a0 a1
def laws_szStore.t (k : Nat) (a0 : Ty.den TStore) (a1 : Int) : Option (Int × Unit) :=
  (Option.bind (laws_szLive.f k a0.1 a1) fun r1 =>
  (bif (decide (r1.1 < 0)) then
  (some ((-1), ()))
  else
  (Option.bind (laws_szEntryS.f k a0.2.1 r1.1) fun r2 =>
  (bif (decide (r2.1 < 0)) then
  (some ((-1), ()))
  else
  (some r2)))))
def laws_szStore.f (k : Nat) (a0 : Ty.den TStore) (a1 : Int) : Option (Int × Unit) := laws_szStore.t k a0 a1
def laws_szPut.t (k : Nat) (a0 : Ty.den TPut) (a1 : Int) : Option (Int × Unit) :=
  (bif (decide ((w64 (a1 - (ByteArray.size a0.1 : Int))) < 0)) then
  (some ((-1), ()))
  else
  (bif (decide ((w64 ((w64 (a1 - (ByteArray.size a0.1 : Int))) - (ByteArray.size a0.2.2.1 : Int))) < 0)) then
  (some ((-1), ()))
  else
  (some ((w64 ((w64 (a1 - (ByteArray.size a0.1 : Int))) - (ByteArray.size a0.2.2.1 : Int))), ()))))
def laws_szPut.f (k : Nat) (a0 : Ty.den TPut) (a1 : Int) : Option (Int × Unit) := laws_szPut.t k a0 a1
def laws_szPutS.b0 (k : Nat) (L0 : List (Ty.den TPut) → Int → Int → Option (Int × Unit)) (x0_0 : List (Ty.den TPut)) (x0_1 : Int) (x0_2 : Int) : Option (Int × Unit) :=
  (bif (decide (x0_2 < (List.length x0_0 : Int))) then
  (inb x0_2 (List.length x0_0 : Int)
  (Option.bind (laws_szPut.f k (List.getD x0_0 (Int.toNat x0_2) (Ty.dflt TPut)) x0_1) fun r1 =>
  (bif (decide (r1.1 < 0)) then
  (some ((-1), ()))
  else
  (L0 x0_0 r1.1 (w64 (x0_2 + 1))))))
  else
  (some (x0_1, ())))
def laws_szPutS.l0 (k : Nat) : Nat → List (Ty.den TPut) → Int → Int → Option (Int × Unit)
  | 0 => fun _ _ _ => none
  | n + 1 => laws_szPutS.b0 k (laws_szPutS.l0 k n)
def laws_szPutS.t (k : Nat) (L0 : List (Ty.den TPut) → Int → Int → Option (Int × Unit)) (a0 : List (Ty.den TPut)) (a1 : Int) : Option (Int × Unit) :=
  (bif (decide ((w64 (a1 - (List.length a0 : Int))) < 0)) then
  (some ((-1), ()))
  else
  (L0 a0 (w64 (a1 - (List.length a0 : Int))) 0))
def laws_szPutS.f (k : Nat) (a0 : List (Ty.den TPut)) (a1 : Int) : Option (Int × Unit) := laws_szPutS.t k (laws_szPutS.l0 k k) a0 a1
def laws_toIntS.b0 (k : Nat) (L0 : List Int → Int → List Int → Option ((List Int) × Unit)) (x0_0 : List Int) (x0_1 : Int) (x0_2 : List Int) : Option ((List Int) × Unit) :=
  (bif (decide (x0_1 < (List.length x0_0 : Int))) then
  (inb x0_1 (List.length x0_0 : Int)
  (inb x0_1 (List.length x0_2 : Int)
  (let l1 := (List.set x0_2 (Int.toNat x0_1) (List.getD x0_0 (Int.toNat x0_1) (Ty.dflt (.int .i64))));
  (L0 x0_0 (w64 (x0_1 + 1)) l1))))
  else
  (some (x0_2, ())))
def laws_toIntS.l0 (k : Nat) : Nat → List Int → Int → List Int → Option ((List Int) × Unit)
  | 0 => fun _ _ _ => none
  | n + 1 => laws_toIntS.b0 k (laws_toIntS.l0 k n)
def laws_toIntS.t (k : Nat) (L0 : List Int → Int → List Int → Option ((List Int) × Unit)) (a0 : List Int) : Option ((List Int) × Unit) :=
  (mks (Ty.bytes (.int .i64)) (List.length a0 : Int)
  (L0 a0 0 (List.replicate (Int.toNat (List.length a0 : Int)) (Ty.dflt (.int .i64)))))
def laws_toIntS.f (k : Nat) (a0 : List Int) : Option ((List Int) × Unit) := laws_toIntS.t k (laws_toIntS.l0 k k) a0
def laws_toLive.t (k : Nat) (a0 : Ty.den TLive) : Option ((Ty.den TLive) × Unit) :=
  (Option.bind (laws_toIntS.f k a0.2.1) fun r1 =>
  (some ((a0.1, r1), ())))
def laws_toLive.f (k : Nat) (a0 : Ty.den TLive) : Option ((Ty.den TLive) × Unit) := laws_toLive.t k a0
def laws_toEntry.t (k : Nat) (a0 : Ty.den TEntry) : Option ((Ty.den TEntry) × Unit) :=
  (some (a0, ()))
def laws_toEntry.f (k : Nat) (a0 : Ty.den TEntry) : Option ((Ty.den TEntry) × Unit) := laws_toEntry.t k a0
def laws_toEntryS.b0 (k : Nat) (L0 : List (Ty.den TEntry) → Int → List (Ty.den TEntry) → Option ((List (Ty.den TEntry)) × Unit)) (x0_0 : List (Ty.den TEntry)) (x0_1 : Int) (x0_2 : List (Ty.den TEntry)) : Option ((List (Ty.den TEntry)) × Unit) :=
  (bif (decide (x0_1 < (List.length x0_0 : Int))) then
  (inb x0_1 (List.length x0_0 : Int)
  (Option.bind (laws_toEntry.f k (List.getD x0_0 (Int.toNat x0_1) (Ty.dflt TEntry))) fun r1 =>
  (inb x0_1 (List.length x0_2 : Int)
  (let l2 := (List.set x0_2 (Int.toNat x0_1) r1.1);
  (L0 x0_0 (w64 (x0_1 + 1)) l2)))))
  else
  (some (x0_2, ())))
def laws_toEntryS.l0 (k : Nat) : Nat → List (Ty.den TEntry) → Int → List (Ty.den TEntry) → Option ((List (Ty.den TEntry)) × Unit)
  | 0 => fun _ _ _ => none
  | n + 1 => laws_toEntryS.b0 k (laws_toEntryS.l0 k n)
def laws_toEntryS.t (k : Nat) (L0 : List (Ty.den TEntry) → Int → List (Ty.den TEntry) → Option ((List (Ty.den TEntry)) × Unit)) (a0 : List (Ty.den TEntry)) : Option ((List (Ty.den TEntry)) × Unit) :=
  (mks (Ty.bytes TEntry) (List.length a0 : Int)
  (L0 a0 0 (List.replicate (Int.toNat (List.length a0 : Int)) (Ty.dflt TEntry))))
def laws_toEntryS.f (k : Nat) (a0 : List (Ty.den TEntry)) : Option ((List (Ty.den TEntry)) × Unit) := laws_toEntryS.t k (laws_toEntryS.l0 k k) a0
def laws_toStore.t (k : Nat) (a0 : Ty.den TStore) : Option ((Ty.den TStore) × Unit) :=
  (Option.bind (laws_toLive.f k a0.1) fun r1 =>
  (Option.bind (laws_toEntryS.f k a0.2.1) fun r2 =>
  (some ((r1.1, (r2.1, a0.2.2)), ()))))
def laws_toStore.f (k : Nat) (a0 : Ty.den TStore) : Option ((Ty.den TStore) × Unit) := laws_toStore.t k a0
def laws_toPut.t (k : Nat) (a0 : Ty.den TPut) : Option ((Ty.den TPut) × Unit) :=
  (some (a0, ()))
def laws_toPut.f (k : Nat) (a0 : Ty.den TPut) : Option ((Ty.den TPut) × Unit) := laws_toPut.t k a0
def laws_toPutS.b0 (k : Nat) (L0 : List (Ty.den TPut) → Int → List (Ty.den TPut) → Option ((List (Ty.den TPut)) × Unit)) (x0_0 : List (Ty.den TPut)) (x0_1 : Int) (x0_2 : List (Ty.den TPut)) : Option ((List (Ty.den TPut)) × Unit) :=
  (bif (decide (x0_1 < (List.length x0_0 : Int))) then
  (inb x0_1 (List.length x0_0 : Int)
  (Option.bind (laws_toPut.f k (List.getD x0_0 (Int.toNat x0_1) (Ty.dflt TPut))) fun r1 =>
  (inb x0_1 (List.length x0_2 : Int)
  (let l2 := (List.set x0_2 (Int.toNat x0_1) r1.1);
  (L0 x0_0 (w64 (x0_1 + 1)) l2)))))
  else
  (some (x0_2, ())))
def laws_toPutS.l0 (k : Nat) : Nat → List (Ty.den TPut) → Int → List (Ty.den TPut) → Option ((List (Ty.den TPut)) × Unit)
  | 0 => fun _ _ _ => none
  | n + 1 => laws_toPutS.b0 k (laws_toPutS.l0 k n)
def laws_toPutS.t (k : Nat) (L0 : List (Ty.den TPut) → Int → List (Ty.den TPut) → Option ((List (Ty.den TPut)) × Unit)) (a0 : List (Ty.den TPut)) : Option ((List (Ty.den TPut)) × Unit) :=
  (mks (Ty.bytes TPut) (List.length a0 : Int)
  (L0 a0 0 (List.replicate (Int.toNat (List.length a0 : Int)) (Ty.dflt TPut))))
def laws_toPutS.f (k : Nat) (a0 : List (Ty.den TPut)) : Option ((List (Ty.den TPut)) × Unit) := laws_toPutS.t k (laws_toPutS.l0 k k) a0
def spec_l1In.t (k : Nat) (a0 : Int) (a1 : Int) (a2 : Int) : Option (Bool × Unit) :=
  (bif (decide (a0 ≥ a1)) then
  (some ((decide (a0 ≤ a2)), ()))
  else
  (some (false, ())))
def spec_l1In.f (k : Nat) (a0 : Int) (a1 : Int) (a2 : Int) : Option (Bool × Unit) := spec_l1In.t k a0 a1 a2
def spec_KeyOk.t (k : Nat) (a0 : ByteArray) : Option (Bool × Unit) :=
  (Option.bind (spec_l1In.f k (ByteArray.size a0 : Int) 1 8) fun r1 =>
  (some r1))
def spec_KeyOk.f (k : Nat) (a0 : ByteArray) : Option (Bool × Unit) := spec_KeyOk.t k a0
def spec_PutsOk.b0 (k : Nat) (L0 : List (Ty.den TPut) → Int → Option (Bool × Unit)) (x0_0 : List (Ty.den TPut)) (x0_1 : Int) : Option (Bool × Unit) :=
  (bif (decide (x0_1 < (List.length x0_0 : Int))) then
  (inb x0_1 (List.length x0_0 : Int)
  (Option.bind (spec_KeyOk.f k (List.getD x0_0 (Int.toNat x0_1) (Ty.dflt TPut)).1) fun r1 =>
  (bif (!r1.1) then
  (some (false, ()))
  else
  (inb x0_1 (List.length x0_0 : Int)
  (bif (decide ((ByteArray.size (List.getD x0_0 (Int.toNat x0_1) (Ty.dflt TPut)).2.2.1 : Int) > 24)) then
  (some (false, ()))
  else
  (inb x0_1 (List.length x0_0 : Int)
  (bif (List.getD x0_0 (Int.toNat x0_1) (Ty.dflt TPut)).2.1 then
  (inb x0_1 (List.length x0_0 : Int)
  (bif (!(seq (List.getD x0_0 (Int.toNat x0_1) (Ty.dflt TPut)).2.2.1 (⟨#[]⟩ : ByteArray))) then
  (some (false, ()))
  else
  (L0 x0_0 (w64 (x0_1 + 1)))))
  else
  (L0 x0_0 (w64 (x0_1 + 1))))))))))
  else
  (some (true, ())))
def spec_PutsOk.l0 (k : Nat) : Nat → List (Ty.den TPut) → Int → Option (Bool × Unit)
  | 0 => fun _ _ => none
  | n + 1 => spec_PutsOk.b0 k (spec_PutsOk.l0 k n)
def spec_PutsOk.t (k : Nat) (L0 : List (Ty.den TPut) → Int → Option (Bool × Unit)) (a0 : List (Ty.den TPut)) : Option (Bool × Unit) :=
  (bif (decide ((List.length a0 : Int) > 8)) then
  (some (false, ()))
  else
  (L0 a0 0))
def spec_PutsOk.f (k : Nat) (a0 : List (Ty.den TPut)) : Option (Bool × Unit) := spec_PutsOk.t k (spec_PutsOk.l0 k k) a0
def spec_RecOk.t (k : Nat) (a0 : Ty.den TRec) : Option (Bool × Unit) :=
  (Option.bind (spec_l1In.f k a0.2.1 0 1000000) fun r1 =>
  (bif (!r1.1) then
  (some (false, ()))
  else
  (bif (a0.2.1 == 0) then
  (bif (a0.1 != 5) then
  (some (false, ()))
  else
  (bif (a0.1 == 1) then
  (bif (a0.1 == 1) then
  (Option.bind (spec_KeyOk.f k a0.2.2.1) fun r2 =>
  (bif r2.1 then
  (bif (decide ((ByteArray.size a0.2.2.2.1 : Int) ≤ 24)) then
  (bif (a0.2.2.2.2.1 == 0) then
  (some ((a0.2.2.2.2.2.1 == 0), ()))
  else
  (some (false, ())))
  else
  (some (false, ())))
  else
  (some (false, ()))))
  else
  (bif (a0.1 == 2) then
  (Option.bind (spec_KeyOk.f k a0.2.2.1) fun r3 =>
  (bif r3.1 then
  (bif (seq a0.2.2.2.1 (⟨#[]⟩ : ByteArray)) then
  (bif (a0.2.2.2.2.1 == 0) then
  (some ((a0.2.2.2.2.2.1 == 0), ()))
  else
  (some (false, ())))
  else
  (some (false, ())))
  else
  (some (false, ()))))
  else
  (bif (a0.1 == 3) then
  (bif (seq a0.2.2.1 (⟨#[]⟩ : ByteArray)) then
  (bif (seq a0.2.2.2.1 (⟨#[]⟩ : ByteArray)) then
  (Option.bind (spec_l1In.f k a0.2.2.2.2.1 0 8) fun r4 =>
  (bif r4.1 then
  (Option.bind (spec_l1In.f k a0.2.2.2.2.2.1 0 4294967295) fun r5 =>
  (some r5))
  else
  (some (false, ()))))
  else
  (some (false, ())))
  else
  (some (false, ())))
  else
  (bif (a0.1 == 5) then
  (bif (seq a0.2.2.1 (⟨#[]⟩ : ByteArray)) then
  (bif (seq a0.2.2.2.1 (⟨#[]⟩ : ByteArray)) then
  (Option.bind (spec_l1In.f k a0.2.2.2.2.1 0 20) fun r6 =>
  (bif r6.1 then
  (Option.bind (spec_l1In.f k a0.2.2.2.2.2.1 0 4294967295) fun r7 =>
  (some r7))
  else
  (some (false, ()))))
  else
  (some (false, ())))
  else
  (some (false, ())))
  else
  (some (false, ()))))))
  else
  (bif (a0.1 == 4) then
  (Option.bind (spec_KeyOk.f k a0.2.2.1) fun r8 =>
  (bif r8.1 then
  (bif (decide ((ByteArray.size a0.2.2.2.1 : Int) ≤ 24)) then
  (bif (a0.2.2.2.2.1 == 0) then
  (some ((a0.2.2.2.2.2.1 == 0), ()))
  else
  (some (false, ())))
  else
  (some (false, ())))
  else
  (some (false, ()))))
  else
  (bif (a0.1 == 2) then
  (Option.bind (spec_KeyOk.f k a0.2.2.1) fun r9 =>
  (bif r9.1 then
  (bif (seq a0.2.2.2.1 (⟨#[]⟩ : ByteArray)) then
  (bif (a0.2.2.2.2.1 == 0) then
  (some ((a0.2.2.2.2.2.1 == 0), ()))
  else
  (some (false, ())))
  else
  (some (false, ())))
  else
  (some (false, ()))))
  else
  (bif (a0.1 == 3) then
  (bif (seq a0.2.2.1 (⟨#[]⟩ : ByteArray)) then
  (bif (seq a0.2.2.2.1 (⟨#[]⟩ : ByteArray)) then
  (Option.bind (spec_l1In.f k a0.2.2.2.2.1 0 8) fun r10 =>
  (bif r10.1 then
  (Option.bind (spec_l1In.f k a0.2.2.2.2.2.1 0 4294967295) fun r11 =>
  (some r11))
  else
  (some (false, ()))))
  else
  (some (false, ())))
  else
  (some (false, ())))
  else
  (bif (a0.1 == 5) then
  (bif (seq a0.2.2.1 (⟨#[]⟩ : ByteArray)) then
  (bif (seq a0.2.2.2.1 (⟨#[]⟩ : ByteArray)) then
  (Option.bind (spec_l1In.f k a0.2.2.2.2.1 0 20) fun r12 =>
  (bif r12.1 then
  (Option.bind (spec_l1In.f k a0.2.2.2.2.2.1 0 4294967295) fun r13 =>
  (some r13))
  else
  (some (false, ()))))
  else
  (some (false, ())))
  else
  (some (false, ())))
  else
  (some (false, ()))))))))
  else
  (bif (a0.1 == 1) then
  (bif (a0.1 == 1) then
  (Option.bind (spec_KeyOk.f k a0.2.2.1) fun r14 =>
  (bif r14.1 then
  (bif (decide ((ByteArray.size a0.2.2.2.1 : Int) ≤ 24)) then
  (bif (a0.2.2.2.2.1 == 0) then
  (some ((a0.2.2.2.2.2.1 == 0), ()))
  else
  (some (false, ())))
  else
  (some (false, ())))
  else
  (some (false, ()))))
  else
  (bif (a0.1 == 2) then
  (Option.bind (spec_KeyOk.f k a0.2.2.1) fun r15 =>
  (bif r15.1 then
  (bif (seq a0.2.2.2.1 (⟨#[]⟩ : ByteArray)) then
  (bif (a0.2.2.2.2.1 == 0) then
  (some ((a0.2.2.2.2.2.1 == 0), ()))
  else
  (some (false, ())))
  else
  (some (false, ())))
  else
  (some (false, ()))))
  else
  (bif (a0.1 == 3) then
  (bif (seq a0.2.2.1 (⟨#[]⟩ : ByteArray)) then
  (bif (seq a0.2.2.2.1 (⟨#[]⟩ : ByteArray)) then
  (Option.bind (spec_l1In.f k a0.2.2.2.2.1 0 8) fun r16 =>
  (bif r16.1 then
  (Option.bind (spec_l1In.f k a0.2.2.2.2.2.1 0 4294967295) fun r17 =>
  (some r17))
  else
  (some (false, ()))))
  else
  (some (false, ())))
  else
  (some (false, ())))
  else
  (bif (a0.1 == 5) then
  (bif (seq a0.2.2.1 (⟨#[]⟩ : ByteArray)) then
  (bif (seq a0.2.2.2.1 (⟨#[]⟩ : ByteArray)) then
  (Option.bind (spec_l1In.f k a0.2.2.2.2.1 0 20) fun r18 =>
  (bif r18.1 then
  (Option.bind (spec_l1In.f k a0.2.2.2.2.2.1 0 4294967295) fun r19 =>
  (some r19))
  else
  (some (false, ()))))
  else
  (some (false, ())))
  else
  (some (false, ())))
  else
  (some (false, ()))))))
  else
  (bif (a0.1 == 4) then
  (Option.bind (spec_KeyOk.f k a0.2.2.1) fun r20 =>
  (bif r20.1 then
  (bif (decide ((ByteArray.size a0.2.2.2.1 : Int) ≤ 24)) then
  (bif (a0.2.2.2.2.1 == 0) then
  (some ((a0.2.2.2.2.2.1 == 0), ()))
  else
  (some (false, ())))
  else
  (some (false, ())))
  else
  (some (false, ()))))
  else
  (bif (a0.1 == 2) then
  (Option.bind (spec_KeyOk.f k a0.2.2.1) fun r21 =>
  (bif r21.1 then
  (bif (seq a0.2.2.2.1 (⟨#[]⟩ : ByteArray)) then
  (bif (a0.2.2.2.2.1 == 0) then
  (some ((a0.2.2.2.2.2.1 == 0), ()))
  else
  (some (false, ())))
  else
  (some (false, ())))
  else
  (some (false, ()))))
  else
  (bif (a0.1 == 3) then
  (bif (seq a0.2.2.1 (⟨#[]⟩ : ByteArray)) then
  (bif (seq a0.2.2.2.1 (⟨#[]⟩ : ByteArray)) then
  (Option.bind (spec_l1In.f k a0.2.2.2.2.1 0 8) fun r22 =>
  (bif r22.1 then
  (Option.bind (spec_l1In.f k a0.2.2.2.2.2.1 0 4294967295) fun r23 =>
  (some r23))
  else
  (some (false, ()))))
  else
  (some (false, ())))
  else
  (some (false, ())))
  else
  (bif (a0.1 == 5) then
  (bif (seq a0.2.2.1 (⟨#[]⟩ : ByteArray)) then
  (bif (seq a0.2.2.2.1 (⟨#[]⟩ : ByteArray)) then
  (Option.bind (spec_l1In.f k a0.2.2.2.2.1 0 20) fun r24 =>
  (bif r24.1 then
  (Option.bind (spec_l1In.f k a0.2.2.2.2.2.1 0 4294967295) fun r25 =>
  (some r25))
  else
  (some (false, ()))))
  else
  (some (false, ())))
  else
  (some (false, ())))
  else
  (some (false, ()))))))))))
def spec_RecOk.f (k : Nat) (a0 : Ty.den TRec) : Option (Bool × Unit) := spec_RecOk.t k a0
def spec_Var.b0 (k : Nat) (L0 : Int → List Int → Option (ByteArray × Unit)) (x0_0 : Int) (x0_1 : List Int) : Option (ByteArray × Unit) :=
  (bif (decide (x0_0 ≥ 128)) then
  (rm (Ty.bytes (.int .u8)) (List.length x0_1 + 1)
  (L0 (w64 (Int.tdiv x0_0 128)) (x0_1 ++ [(IntKind.wrap .u8 (w64 (128 + (Int.tmod x0_0 128))))])))
  else
  (rm (Ty.bytes (.int .u8)) (List.length x0_1 + 1)
  (some ((bytesOf (x0_1 ++ [(IntKind.wrap .u8 x0_0)])), ()))))
def spec_Var.l0 (k : Nat) : Nat → Int → List Int → Option (ByteArray × Unit)
  | 0 => fun _ _ => none
  | n + 1 => spec_Var.b0 k (spec_Var.l0 k n)
def spec_Var.t (k : Nat) (L0 : Int → List Int → Option (ByteArray × Unit)) (a0 : Int) : Option (ByteArray × Unit) :=
  (Option.bind (spec_l1In.f k a0 0 562949953421311) fun r1 =>
  (bif (!r1.1) then
  (some ((⟨#[]⟩ : ByteArray), ()))
  else
  (L0 a0 [])))
def spec_Var.f (k : Nat) (a0 : Int) : Option (ByteArray × Unit) := spec_Var.t k (spec_Var.l0 k k) a0
def spec_Fixed.b0 (k : Nat) (L0 : Int → Int → ByteArray → Int → Option (ByteArray × Unit)) (x0_0 : Int) (x0_1 : Int) (x0_2 : ByteArray) (x0_3 : Int) : Option (ByteArray × Unit) :=
  (bif (decide (x0_3 < x0_1)) then
  (cat (bytesOf [(IntKind.wrap .u8 (Int.tmod x0_0 256))]) x0_2
  (L0 (w64 (Int.tdiv x0_0 256)) x0_1 ((bytesOf [(IntKind.wrap .u8 (Int.tmod x0_0 256))]) ++ x0_2) (w64 (x0_3 + 1))))
  else
  (bif (decide (x0_0 > 0)) then
  (some ((⟨#[]⟩ : ByteArray), ()))
  else
  (some (x0_2, ()))))
def spec_Fixed.l0 (k : Nat) : Nat → Int → Int → ByteArray → Int → Option (ByteArray × Unit)
  | 0 => fun _ _ _ _ => none
  | n + 1 => spec_Fixed.b0 k (spec_Fixed.l0 k n)
def spec_Fixed.t (k : Nat) (L0 : Int → Int → ByteArray → Int → Option (ByteArray × Unit)) (a0 : Int) (a1 : Int) : Option (ByteArray × Unit) :=
  (Option.bind (spec_l1In.f k a1 1 7) fun r1 =>
  (bif (!r1.1) then
  (some ((⟨#[]⟩ : ByteArray), ()))
  else
  (bif (decide (a0 < 0)) then
  (some ((⟨#[]⟩ : ByteArray), ()))
  else
  (L0 a0 a1 (⟨#[]⟩ : ByteArray) 0))))
def spec_Fixed.f (k : Nat) (a0 : Int) (a1 : Int) : Option (ByteArray × Unit) := spec_Fixed.t k (spec_Fixed.l0 k k) a0 a1
def spec_ShowRec.t (k : Nat) (a0 : Ty.den TRec) : Option (ByteArray × Unit) :=
  (Option.bind (spec_RecOk.f k a0) fun r1 =>
  (bif (!r1.1) then
  (some ((⟨#[]⟩ : ByteArray), ()))
  else
  (Option.bind (spec_Var.f k a0.1) fun r2 =>
  (Option.bind (spec_Var.f k a0.2.1) fun r3 =>
  (cat r2.1 r3.1
  (bif (a0.1 == 1) then
  (bif (a0.1 == 1) then
  (Option.bind (spec_Var.f k (ByteArray.size a0.2.2.1 : Int)) fun r4 =>
  (cat (r2.1 ++ r3.1) r4.1
  (cat ((r2.1 ++ r3.1) ++ r4.1) a0.2.2.1
  (Option.bind (spec_Var.f k (ByteArray.size a0.2.2.2.1 : Int)) fun r5 =>
  (cat (((r2.1 ++ r3.1) ++ r4.1) ++ a0.2.2.1) r5.1
  (cat ((((r2.1 ++ r3.1) ++ r4.1) ++ a0.2.2.1) ++ r5.1) a0.2.2.2.1
  (some ((((((r2.1 ++ r3.1) ++ r4.1) ++ a0.2.2.1) ++ r5.1) ++ a0.2.2.2.1), ()))))))))
  else
  (bif (a0.1 == 2) then
  (Option.bind (spec_Var.f k (ByteArray.size a0.2.2.1 : Int)) fun r6 =>
  (cat (r2.1 ++ r3.1) r6.1
  (cat ((r2.1 ++ r3.1) ++ r6.1) a0.2.2.1
  (some ((((r2.1 ++ r3.1) ++ r6.1) ++ a0.2.2.1), ())))))
  else
  (Option.bind (spec_Var.f k a0.2.2.2.2.1) fun r7 =>
  (cat (r2.1 ++ r3.1) r7.1
  (Option.bind (spec_Fixed.f k a0.2.2.2.2.2.1 4) fun r8 =>
  (cat ((r2.1 ++ r3.1) ++ r7.1) r8.1
  (some ((((r2.1 ++ r3.1) ++ r7.1) ++ r8.1), ()))))))))
  else
  (bif (a0.1 == 4) then
  (Option.bind (spec_Var.f k (ByteArray.size a0.2.2.1 : Int)) fun r9 =>
  (cat (r2.1 ++ r3.1) r9.1
  (cat ((r2.1 ++ r3.1) ++ r9.1) a0.2.2.1
  (Option.bind (spec_Var.f k (ByteArray.size a0.2.2.2.1 : Int)) fun r10 =>
  (cat (((r2.1 ++ r3.1) ++ r9.1) ++ a0.2.2.1) r10.1
  (cat ((((r2.1 ++ r3.1) ++ r9.1) ++ a0.2.2.1) ++ r10.1) a0.2.2.2.1
  (some ((((((r2.1 ++ r3.1) ++ r9.1) ++ a0.2.2.1) ++ r10.1) ++ a0.2.2.2.1), ()))))))))
  else
  (bif (a0.1 == 2) then
  (Option.bind (spec_Var.f k (ByteArray.size a0.2.2.1 : Int)) fun r11 =>
  (cat (r2.1 ++ r3.1) r11.1
  (cat ((r2.1 ++ r3.1) ++ r11.1) a0.2.2.1
  (some ((((r2.1 ++ r3.1) ++ r11.1) ++ a0.2.2.1), ())))))
  else
  (Option.bind (spec_Var.f k a0.2.2.2.2.1) fun r12 =>
  (cat (r2.1 ++ r3.1) r12.1
  (Option.bind (spec_Fixed.f k a0.2.2.2.2.2.1 4) fun r13 =>
  (cat ((r2.1 ++ r3.1) ++ r12.1) r13.1
  (some ((((r2.1 ++ r3.1) ++ r12.1) ++ r13.1), ()))))))))))))))
def spec_ShowRec.f (k : Nat) (a0 : Ty.den TRec) : Option (ByteArray × Unit) := spec_ShowRec.t k a0
def spec_Crc.b1 (k : Nat) (L0 : ByteArray → Int → Int → Option (Int × Unit)) (L1 : ByteArray → Int → Int → Int → Option (Int × Unit)) (x1_0 : ByteArray) (x1_1 : Int) (x1_2 : Int) (x1_3 : Int) : Option (Int × Unit) :=
  (bif (decide (x1_3 < 8)) then
  (bif ((Int.tmod x1_1 2) == 1) then
  (L1 x1_0 (w64 (((BitVec.ofInt (IntKind.bits .i64) (w64 (Int.tdiv x1_1 2)) ^^^ BitVec.ofInt (IntKind.bits .i64) 2197175160).toNat : Int))) x1_2 (w64 (x1_3 + 1)))
  else
  (L1 x1_0 (w64 (Int.tdiv x1_1 2)) x1_2 (w64 (x1_3 + 1))))
  else
  (L0 x1_0 x1_1 (w64 (x1_2 + 1))))
def spec_Crc.l1 (k : Nat) (L0 : ByteArray → Int → Int → Option (Int × Unit)) : Nat → ByteArray → Int → Int → Int → Option (Int × Unit)
  | 0 => fun _ _ _ _ => none
  | n + 1 => spec_Crc.b1 k L0 (spec_Crc.l1 k L0 n)
def spec_Crc.b0 (k : Nat) (L1 : ByteArray → Int → Int → Int → Option (Int × Unit)) (L0 : ByteArray → Int → Int → Option (Int × Unit)) (x0_0 : ByteArray) (x0_1 : Int) (x0_2 : Int) : Option (Int × Unit) :=
  (bif (decide (x0_2 < (ByteArray.size x0_0 : Int))) then
  (inb x0_2 (ByteArray.size x0_0 : Int)
  (L1 x0_0 (w64 (((BitVec.ofInt (IntKind.bits .i64) x0_1 ^^^ BitVec.ofInt (IntKind.bits .i64) (w64 (byteAt x0_0 x0_2))).toNat : Int))) x0_2 0))
  else
  (some ((w64 (4294967295 - x0_1)), ())))
def spec_Crc.l0 (k : Nat) : Nat → ByteArray → Int → Int → Option (Int × Unit)
  | 0 => fun _ _ _ => none
  | n + 1 => spec_Crc.b0 k (spec_Crc.l1 k (spec_Crc.l0 k n) k) (spec_Crc.l0 k n)
def spec_Crc.t (k : Nat) (L0 : ByteArray → Int → Int → Option (Int × Unit)) (a0 : ByteArray) : Option (Int × Unit) :=
  (L0 a0 4294967295 0)
def spec_Crc.f (k : Nat) (a0 : ByteArray) : Option (Int × Unit) := spec_Crc.t k (spec_Crc.l0 k k) a0
def spec_SumOf.b0 (k : Nat) (L0 : List (Ty.den TRec) → ByteArray → Int → Option (Int × Unit)) (x0_0 : List (Ty.den TRec)) (x0_1 : ByteArray) (x0_2 : Int) : Option (Int × Unit) :=
  (bif (decide (x0_2 < (List.length x0_0 : Int))) then
  (inb x0_2 (List.length x0_0 : Int)
  (Option.bind (spec_ShowRec.f k (List.getD x0_0 (Int.toNat x0_2) (Ty.dflt TRec))) fun r1 =>
  (cat x0_1 r1.1
  (L0 x0_0 (x0_1 ++ r1.1) (w64 (x0_2 + 1))))))
  else
  (Option.bind (spec_Crc.f k x0_1) fun r2 =>
  (some r2)))
def spec_SumOf.l0 (k : Nat) : Nat → List (Ty.den TRec) → ByteArray → Int → Option (Int × Unit)
  | 0 => fun _ _ _ => none
  | n + 1 => spec_SumOf.b0 k (spec_SumOf.l0 k n)
def spec_SumOf.t (k : Nat) (L0 : List (Ty.den TRec) → ByteArray → Int → Option (Int × Unit)) (a0 : List (Ty.den TRec)) : Option (Int × Unit) :=
  (L0 a0 (⟨#[]⟩ : ByteArray) 0)
def spec_SumOf.f (k : Nat) (a0 : List (Ty.den TRec)) : Option (Int × Unit) := spec_SumOf.t k (spec_SumOf.l0 k k) a0
def spec_l9Seal.t (k : Nat) (a0 : List (Ty.den TRec)) (a1 : Int) (a2 : Int) : Option ((Ty.den TRec) × Unit) :=
  (Option.bind (spec_SumOf.f k a0) fun r1 =>
  (some ((a2, (a1, (ByteArray.empty, (ByteArray.empty, ((List.length a0 : Int), r1))))), ())))
def spec_l9Seal.f (k : Nat) (a0 : List (Ty.den TRec)) (a1 : Int) (a2 : Int) : Option ((Ty.den TRec) × Unit) := spec_l9Seal.t k a0 a1 a2
def spec_Frame.t (k : Nat) (a0 : ByteArray) : Option (ByteArray × Unit) :=
  (bif (decide ((ByteArray.size a0 : Int) > 200)) then
  (some ((⟨#[]⟩ : ByteArray), ()))
  else
  (Option.bind (spec_Var.f k (ByteArray.size a0 : Int)) fun r1 =>
  (cat r1.1 a0
  (Option.bind (spec_Crc.f k (r1.1 ++ a0)) fun r2 =>
  (Option.bind (spec_Fixed.f k r2.1 4) fun r3 =>
  (cat r3.1 (r1.1 ++ a0)
  (some ((r3.1 ++ (r1.1 ++ a0)), ()))))))))
def spec_Frame.f (k : Nat) (a0 : ByteArray) : Option (ByteArray × Unit) := spec_Frame.t k a0
def spec_CommitCost.b0 (k : Nat) (L0 : List (Ty.den TPut) → Int → Int → Int → List Int → List (Ty.den TEntry) → Int → Int → Int → Int → Int → Int → Int → List (Ty.den TRec) → Option ((Ty.den TCost) × Unit)) (x0_0 : List (Ty.den TPut)) (x0_1 : Int) (x0_2 : Int) (x0_3 : Int) (x0_4 : List Int) (x0_5 : List (Ty.den TEntry)) (x0_6 : Int) (x0_7 : Int) (x0_8 : Int) (x0_9 : Int) (x0_10 : Int) (x0_11 : Int) (x0_12 : Int) (x0_13 : List (Ty.den TRec)) : Option ((Ty.den TCost) × Unit) :=
  (bif (decide (x0_2 ≤ (List.length x0_0 : Int))) then
  (Option.bind (spec_l9Seal.f k x0_13 x0_6 3) fun r3 =>
  (bif (decide (x0_2 < (List.length x0_0 : Int))) then
  (inb x0_2 (List.length x0_0 : Int)
  (inb x0_2 (List.length x0_0 : Int)
  (inb x0_2 (List.length x0_0 : Int)
  (bif (List.getD x0_0 (Int.toNat x0_2) (Ty.dflt TPut)).2.1 then
  (rm (Ty.bytes TRec) (List.length x0_13 + 1)
  (Option.bind (spec_ShowRec.f k (2, (x0_6, ((List.getD x0_0 (Int.toNat x0_2) (Ty.dflt TPut)).1, ((List.getD x0_0 (Int.toNat x0_2) (Ty.dflt TPut)).2.2.1, (0, (0, ()))))))) fun r4 =>
  (Option.bind (spec_Frame.f k r4.1) fun r5 =>
  (bif (decide (x0_1 > 0)) then
  (bif (decide ((ByteArray.size r5.1 : Int) > (w64 (200 - x0_1)))) then
  (L0 x0_0 (w64 (0 + (ByteArray.size r5.1 : Int))) (w64 (x0_2 + 1)) x0_3 x0_4 x0_5 x0_6 x0_7 x0_8 x0_9 x0_10 (w64 ((w64 (x0_11 + 6)) + 1)) (w64 (x0_12 + (ByteArray.size r5.1 : Int))) (x0_13 ++ [(2, (x0_6, ((List.getD x0_0 (Int.toNat x0_2) (Ty.dflt TPut)).1, ((List.getD x0_0 (Int.toNat x0_2) (Ty.dflt TPut)).2.2.1, (0, (0, ()))))))]))
  else
  (L0 x0_0 (w64 (x0_1 + (ByteArray.size r5.1 : Int))) (w64 (x0_2 + 1)) x0_3 x0_4 x0_5 x0_6 x0_7 x0_8 x0_9 x0_10 (w64 (x0_11 + 1)) (w64 (x0_12 + (ByteArray.size r5.1 : Int))) (x0_13 ++ [(2, (x0_6, ((List.getD x0_0 (Int.toNat x0_2) (Ty.dflt TPut)).1, ((List.getD x0_0 (Int.toNat x0_2) (Ty.dflt TPut)).2.2.1, (0, (0, ()))))))])))
  else
  (L0 x0_0 (w64 (x0_1 + (ByteArray.size r5.1 : Int))) (w64 (x0_2 + 1)) x0_3 x0_4 x0_5 x0_6 x0_7 x0_8 x0_9 x0_10 (w64 (x0_11 + 1)) (w64 (x0_12 + (ByteArray.size r5.1 : Int))) (x0_13 ++ [(2, (x0_6, ((List.getD x0_0 (Int.toNat x0_2) (Ty.dflt TPut)).1, ((List.getD x0_0 (Int.toNat x0_2) (Ty.dflt TPut)).2.2.1, (0, (0, ()))))))]))))))
  else
  (rm (Ty.bytes TRec) (List.length x0_13 + 1)
  (Option.bind (spec_ShowRec.f k (1, (x0_6, ((List.getD x0_0 (Int.toNat x0_2) (Ty.dflt TPut)).1, ((List.getD x0_0 (Int.toNat x0_2) (Ty.dflt TPut)).2.2.1, (0, (0, ()))))))) fun r6 =>
  (Option.bind (spec_Frame.f k r6.1) fun r7 =>
  (bif (decide (x0_1 > 0)) then
  (bif (decide ((ByteArray.size r7.1 : Int) > (w64 (200 - x0_1)))) then
  (L0 x0_0 (w64 (0 + (ByteArray.size r7.1 : Int))) (w64 (x0_2 + 1)) x0_3 x0_4 x0_5 x0_6 x0_7 x0_8 x0_9 x0_10 (w64 ((w64 (x0_11 + 6)) + 1)) (w64 (x0_12 + (ByteArray.size r7.1 : Int))) (x0_13 ++ [(1, (x0_6, ((List.getD x0_0 (Int.toNat x0_2) (Ty.dflt TPut)).1, ((List.getD x0_0 (Int.toNat x0_2) (Ty.dflt TPut)).2.2.1, (0, (0, ()))))))]))
  else
  (L0 x0_0 (w64 (x0_1 + (ByteArray.size r7.1 : Int))) (w64 (x0_2 + 1)) x0_3 x0_4 x0_5 x0_6 x0_7 x0_8 x0_9 x0_10 (w64 (x0_11 + 1)) (w64 (x0_12 + (ByteArray.size r7.1 : Int))) (x0_13 ++ [(1, (x0_6, ((List.getD x0_0 (Int.toNat x0_2) (Ty.dflt TPut)).1, ((List.getD x0_0 (Int.toNat x0_2) (Ty.dflt TPut)).2.2.1, (0, (0, ()))))))])))
  else
  (L0 x0_0 (w64 (x0_1 + (ByteArray.size r7.1 : Int))) (w64 (x0_2 + 1)) x0_3 x0_4 x0_5 x0_6 x0_7 x0_8 x0_9 x0_10 (w64 (x0_11 + 1)) (w64 (x0_12 + (ByteArray.size r7.1 : Int))) (x0_13 ++ [(1, (x0_6, ((List.getD x0_0 (Int.toNat x0_2) (Ty.dflt TPut)).1, ((List.getD x0_0 (Int.toNat x0_2) (Ty.dflt TPut)).2.2.1, (0, (0, ()))))))]))))))))))
  else
  (Option.bind (spec_ShowRec.f k r3.1) fun r8 =>
  (Option.bind (spec_Frame.f k r8.1) fun r9 =>
  (bif (decide (x0_1 > 0)) then
  (bif (decide ((ByteArray.size r9.1 : Int) > (w64 (200 - x0_1)))) then
  (L0 x0_0 (w64 (0 + (ByteArray.size r9.1 : Int))) (w64 (x0_2 + 1)) x0_3 x0_4 x0_5 x0_6 x0_7 x0_8 x0_9 x0_10 (w64 ((w64 (x0_11 + 6)) + 1)) (w64 (x0_12 + (ByteArray.size r9.1 : Int))) x0_13)
  else
  (L0 x0_0 (w64 (x0_1 + (ByteArray.size r9.1 : Int))) (w64 (x0_2 + 1)) x0_3 x0_4 x0_5 x0_6 x0_7 x0_8 x0_9 x0_10 (w64 (x0_11 + 1)) (w64 (x0_12 + (ByteArray.size r9.1 : Int))) x0_13))
  else
  (L0 x0_0 (w64 (x0_1 + (ByteArray.size r9.1 : Int))) (w64 (x0_2 + 1)) x0_3 x0_4 x0_5 x0_6 x0_7 x0_8 x0_9 x0_10 (w64 (x0_11 + 1)) (w64 (x0_12 + (ByteArray.size r9.1 : Int))) x0_13))))))
  else
  (some (((w64 (x0_11 + 1)), (x0_12, ())), ())))
def spec_CommitCost.l0 (k : Nat) : Nat → List (Ty.den TPut) → Int → Int → Int → List Int → List (Ty.den TEntry) → Int → Int → Int → Int → Int → Int → Int → List (Ty.den TRec) → Option ((Ty.den TCost) × Unit)
  | 0 => fun _ _ _ _ _ _ _ _ _ _ _ _ _ _ => none
  | n + 1 => spec_CommitCost.b0 k (spec_CommitCost.l0 k n)
def spec_CommitCost.t (k : Nat) (L0 : List (Ty.den TPut) → Int → Int → Int → List Int → List (Ty.den TEntry) → Int → Int → Int → Int → Int → Int → Int → List (Ty.den TRec) → Option ((Ty.den TCost) × Unit)) (a0 : Ty.den TStore) (a1 : List (Ty.den TPut)) : Option ((Ty.den TCost) × Unit) :=
  (bif ((List.length a1 : Int) == 0) then
  (some ((0, (0, ())), ()))
  else
  (Option.bind (spec_PutsOk.f k a1) fun r1 =>
  (bif (!r1.1) then
  (some ((0, (0, ())), ()))
  else
  (Option.bind (spec_l1In.f k a0.2.2.1 1 1000000) fun r2 =>
  (bif (!r2.1) then
  (some ((0, (0, ())), ()))
  else
  (bif (decide (a0.2.2.2.1 < 0)) then
  (some ((0, (0, ())), ()))
  else
  (L0 a1 a0.2.2.2.1 0 a0.1.1 a0.1.2.1 a0.2.1 a0.2.2.1 a0.2.2.2.1 a0.2.2.2.2.1 0 0 0 0 [])))))))
def spec_CommitCost.f (k : Nat) (a0 : Ty.den TStore) (a1 : List (Ty.den TPut)) : Option ((Ty.den TCost) × Unit) := spec_CommitCost.t k (spec_CommitCost.l0 k k) a0 a1
def impl_in.t (k : Nat) (a0 : Int) (a1 : Int) (a2 : Int) : Option (Bool × Unit) :=
  (bif (decide (a0 ≥ a1)) then
  (some ((decide (a0 ≤ a2)), ()))
  else
  (some (false, ())))
def impl_in.f (k : Nat) (a0 : Int) (a1 : Int) (a2 : Int) : Option (Bool × Unit) := impl_in.t k a0 a1 a2
def impl_KeyOk.t (k : Nat) (a0 : ByteArray) : Option (Bool × Unit) :=
  (Option.bind (impl_in.f k (ByteArray.size a0 : Int) 1 8) fun r1 =>
  (some r1))
def impl_KeyOk.f (k : Nat) (a0 : ByteArray) : Option (Bool × Unit) := impl_KeyOk.t k a0
def impl_putOk.t (k : Nat) (a0 : Ty.den TPut) : Option (Bool × Unit) :=
  (Option.bind (impl_KeyOk.f k a0.1) fun r1 =>
  (bif r1.1 then
  (bif (decide ((ByteArray.size a0.2.2.1 : Int) ≤ 24)) then
  (bif (!a0.2.1) then
  (some (true, ()))
  else
  (some ((seq a0.2.2.1 (⟨#[]⟩ : ByteArray)), ())))
  else
  (some (false, ())))
  else
  (some (false, ()))))
def impl_putOk.f (k : Nat) (a0 : Ty.den TPut) : Option (Bool × Unit) := impl_putOk.t k a0
def impl_PutsOk.b0 (k : Nat) (L0 : List (Ty.den TPut) → List (Ty.den TPut) → Int → Int → Option (Bool × Unit)) (x0_0 : List (Ty.den TPut)) (x0_1 : List (Ty.den TPut)) (x0_2 : Int) (x0_3 : Int) : Option (Bool × Unit) :=
  (bif (decide (x0_3 < x0_2)) then
  (inb x0_3 (List.length x0_1 : Int)
  (Option.bind (impl_putOk.f k (List.getD x0_1 (Int.toNat x0_3) (Ty.dflt TPut))) fun r1 =>
  (bif (!r1.1) then
  (some (false, ()))
  else
  (L0 x0_0 x0_1 x0_2 (w64 (x0_3 + 1))))))
  else
  (some ((decide ((List.length x0_0 : Int) ≤ 8)), ())))
def impl_PutsOk.l0 (k : Nat) : Nat → List (Ty.den TPut) → List (Ty.den TPut) → Int → Int → Option (Bool × Unit)
  | 0 => fun _ _ _ _ => none
  | n + 1 => impl_PutsOk.b0 k (impl_PutsOk.l0 k n)
def impl_PutsOk.t (k : Nat) (L0 : List (Ty.den TPut) → List (Ty.den TPut) → Int → Int → Option (Bool × Unit)) (a0 : List (Ty.den TPut)) : Option (Bool × Unit) :=
  (L0 a0 a0 (List.length a0 : Int) 0)
def impl_PutsOk.f (k : Nat) (a0 : List (Ty.den TPut)) : Option (Bool × Unit) := impl_PutsOk.t k (impl_PutsOk.l0 k k) a0
def impl_RecOk.t (k : Nat) (a0 : Ty.den TRec) : Option (Bool × Unit) :=
  (bif (a0.1 == 1) then
  (bif (a0.1 == 1) then
  (Option.bind (impl_KeyOk.f k a0.2.2.1) fun r1 =>
  (bif r1.1 then
  (bif (decide ((ByteArray.size a0.2.2.2.1 : Int) ≤ 24)) then
  (Option.bind (impl_in.f k a0.2.1 1 1000000) fun r2 =>
  (bif r2.1 then
  (some (((a0.1 == a0.1) && ((a0.2.1 == a0.2.1) && ((seq a0.2.2.1 a0.2.2.1) && ((seq a0.2.2.2.1 a0.2.2.2.1) && ((a0.2.2.2.2.1 == 0) && (a0.2.2.2.2.2.1 == 0)))))), ()))
  else
  (some (false, ()))))
  else
  (some (false, ())))
  else
  (some (false, ()))))
  else
  (bif (a0.1 == 2) then
  (Option.bind (impl_KeyOk.f k a0.2.2.1) fun r3 =>
  (bif r3.1 then
  (Option.bind (impl_in.f k a0.2.1 1 1000000) fun r4 =>
  (bif r4.1 then
  (some (((a0.1 == a0.1) && ((a0.2.1 == a0.2.1) && ((seq a0.2.2.1 a0.2.2.1) && ((seq a0.2.2.2.1 ByteArray.empty) && ((a0.2.2.2.2.1 == 0) && (a0.2.2.2.2.2.1 == 0)))))), ()))
  else
  (some (false, ()))))
  else
  (some (false, ()))))
  else
  (bif (a0.1 == 3) then
  (Option.bind (impl_in.f k a0.2.2.2.2.1 0 8) fun r5 =>
  (bif r5.1 then
  (Option.bind (impl_in.f k a0.2.2.2.2.2.1 0 4294967295) fun r6 =>
  (bif r6.1 then
  (Option.bind (impl_in.f k a0.2.1 1 1000000) fun r7 =>
  (bif r7.1 then
  (some (((a0.1 == a0.1) && ((a0.2.1 == a0.2.1) && ((seq a0.2.2.1 ByteArray.empty) && ((seq a0.2.2.2.1 ByteArray.empty) && ((a0.2.2.2.2.1 == a0.2.2.2.2.1) && (a0.2.2.2.2.2.1 == a0.2.2.2.2.2.1)))))), ()))
  else
  (some (false, ()))))
  else
  (some (false, ()))))
  else
  (some (false, ()))))
  else
  (bif (a0.1 == 5) then
  (Option.bind (impl_in.f k a0.2.2.2.2.1 0 20) fun r8 =>
  (bif r8.1 then
  (Option.bind (impl_in.f k a0.2.2.2.2.2.1 0 4294967295) fun r9 =>
  (bif r9.1 then
  (Option.bind (impl_in.f k a0.2.1 0 1000000) fun r10 =>
  (bif r10.1 then
  (some (((a0.1 == a0.1) && ((a0.2.1 == a0.2.1) && ((seq a0.2.2.1 ByteArray.empty) && ((seq a0.2.2.2.1 ByteArray.empty) && ((a0.2.2.2.2.1 == a0.2.2.2.2.1) && (a0.2.2.2.2.2.1 == a0.2.2.2.2.2.1)))))), ()))
  else
  (some (false, ()))))
  else
  (some (false, ()))))
  else
  (some (false, ()))))
  else
  (some (false, ()))))))
  else
  (bif (a0.1 == 4) then
  (Option.bind (impl_KeyOk.f k a0.2.2.1) fun r11 =>
  (bif r11.1 then
  (bif (decide ((ByteArray.size a0.2.2.2.1 : Int) ≤ 24)) then
  (Option.bind (impl_in.f k a0.2.1 1 1000000) fun r12 =>
  (bif r12.1 then
  (some (((a0.1 == a0.1) && ((a0.2.1 == a0.2.1) && ((seq a0.2.2.1 a0.2.2.1) && ((seq a0.2.2.2.1 a0.2.2.2.1) && ((a0.2.2.2.2.1 == 0) && (a0.2.2.2.2.2.1 == 0)))))), ()))
  else
  (some (false, ()))))
  else
  (some (false, ())))
  else
  (some (false, ()))))
  else
  (bif (a0.1 == 2) then
  (Option.bind (impl_KeyOk.f k a0.2.2.1) fun r13 =>
  (bif r13.1 then
  (Option.bind (impl_in.f k a0.2.1 1 1000000) fun r14 =>
  (bif r14.1 then
  (some (((a0.1 == a0.1) && ((a0.2.1 == a0.2.1) && ((seq a0.2.2.1 a0.2.2.1) && ((seq a0.2.2.2.1 ByteArray.empty) && ((a0.2.2.2.2.1 == 0) && (a0.2.2.2.2.2.1 == 0)))))), ()))
  else
  (some (false, ()))))
  else
  (some (false, ()))))
  else
  (bif (a0.1 == 3) then
  (Option.bind (impl_in.f k a0.2.2.2.2.1 0 8) fun r15 =>
  (bif r15.1 then
  (Option.bind (impl_in.f k a0.2.2.2.2.2.1 0 4294967295) fun r16 =>
  (bif r16.1 then
  (Option.bind (impl_in.f k a0.2.1 1 1000000) fun r17 =>
  (bif r17.1 then
  (some (((a0.1 == a0.1) && ((a0.2.1 == a0.2.1) && ((seq a0.2.2.1 ByteArray.empty) && ((seq a0.2.2.2.1 ByteArray.empty) && ((a0.2.2.2.2.1 == a0.2.2.2.2.1) && (a0.2.2.2.2.2.1 == a0.2.2.2.2.2.1)))))), ()))
  else
  (some (false, ()))))
  else
  (some (false, ()))))
  else
  (some (false, ()))))
  else
  (bif (a0.1 == 5) then
  (Option.bind (impl_in.f k a0.2.2.2.2.1 0 20) fun r18 =>
  (bif r18.1 then
  (Option.bind (impl_in.f k a0.2.2.2.2.2.1 0 4294967295) fun r19 =>
  (bif r19.1 then
  (Option.bind (impl_in.f k a0.2.1 0 1000000) fun r20 =>
  (bif r20.1 then
  (some (((a0.1 == a0.1) && ((a0.2.1 == a0.2.1) && ((seq a0.2.2.1 ByteArray.empty) && ((seq a0.2.2.2.1 ByteArray.empty) && ((a0.2.2.2.2.1 == a0.2.2.2.2.1) && (a0.2.2.2.2.2.1 == a0.2.2.2.2.2.1)))))), ()))
  else
  (some (false, ()))))
  else
  (some (false, ()))))
  else
  (some (false, ()))))
  else
  (some (false, ())))))))
def impl_RecOk.f (k : Nat) (a0 : Ty.den TRec) : Option (Bool × Unit) := impl_RecOk.t k a0
def impl_Var.b0 (k : Nat) (L0 : Int → List Int → Option (ByteArray × Unit)) (x0_0 : Int) (x0_1 : List Int) : Option (ByteArray × Unit) :=
  (bif (decide (x0_0 > 127)) then
  (rm (Ty.bytes (.int .u8)) (List.length x0_1 + 1)
  (L0 (w64 (Int.tdiv x0_0 128)) (x0_1 ++ [(IntKind.wrap .u8 (w64 ((Int.tmod x0_0 128) + 128)))])))
  else
  (rm (Ty.bytes (.int .u8)) (List.length x0_1 + 1)
  (some ((bytesOf (x0_1 ++ [(IntKind.wrap .u8 x0_0)])), ()))))
def impl_Var.l0 (k : Nat) : Nat → Int → List Int → Option (ByteArray × Unit)
  | 0 => fun _ _ => none
  | n + 1 => impl_Var.b0 k (impl_Var.l0 k n)
def impl_Var.t (k : Nat) (L0 : Int → List Int → Option (ByteArray × Unit)) (a0 : Int) : Option (ByteArray × Unit) :=
  (Option.bind (impl_in.f k a0 0 562949953421311) fun r1 =>
  (bif (!r1.1) then
  (some ((⟨#[]⟩ : ByteArray), ()))
  else
  (L0 a0 [])))
def impl_Var.f (k : Nat) (a0 : Int) : Option (ByteArray × Unit) := impl_Var.t k (impl_Var.l0 k k) a0
def impl_vars.b0 (k : Nat) (L0 : ByteArray → List Int → Int → Int → Option (ByteArray × Unit)) (x0_0 : ByteArray) (x0_1 : List Int) (x0_2 : Int) (x0_3 : Int) : Option (ByteArray × Unit) :=
  (bif (decide (x0_3 < x0_2)) then
  (inb x0_3 (List.length x0_1 : Int)
  (Option.bind (impl_Var.f k (List.getD x0_1 (Int.toNat x0_3) (Ty.dflt (.int .i64)))) fun r1 =>
  (cat x0_0 r1.1
  (L0 (x0_0 ++ r1.1) x0_1 x0_2 (w64 (x0_3 + 1))))))
  else
  (some (x0_0, ())))
def impl_vars.l0 (k : Nat) : Nat → ByteArray → List Int → Int → Int → Option (ByteArray × Unit)
  | 0 => fun _ _ _ _ => none
  | n + 1 => impl_vars.b0 k (impl_vars.l0 k n)
def impl_vars.t (k : Nat) (L0 : ByteArray → List Int → Int → Int → Option (ByteArray × Unit)) (a0 : List Int) : Option (ByteArray × Unit) :=
  (L0 (⟨#[]⟩ : ByteArray) a0 (List.length a0 : Int) 0)
def impl_vars.f (k : Nat) (a0 : List Int) : Option (ByteArray × Unit) := impl_vars.t k (impl_vars.l0 k k) a0
def impl_textOf.t (k : Nat) (a0 : ByteArray) : Option (ByteArray × Unit) :=
  (Option.bind (impl_Var.f k (ByteArray.size a0 : Int)) fun r1 =>
  (cat r1.1 a0
  (some ((r1.1 ++ a0), ()))))
def impl_textOf.f (k : Nat) (a0 : ByteArray) : Option (ByteArray × Unit) := impl_textOf.t k a0
def impl_Fixed.b0 (k : Nat) (L0 : Int → Int → List Int → Option (ByteArray × Unit)) (x0_0 : Int) (x0_1 : Int) (x0_2 : List Int) : Option (ByteArray × Unit) :=
  (bif (decide (x0_1 ≥ 0)) then
  (bif (decide ((w64 (8 * x0_1)) < 0)) then none else
  (rm (Ty.bytes (.int .u8)) (List.length x0_2 + 1)
  (L0 x0_0 (w64 (x0_1 - 1)) (x0_2 ++ [(IntKind.wrap .u8 (Int.fdiv x0_0 (2 ^ (min (Int.toNat (w64 (8 * x0_1))) (IntKind.bits .i64)))))]))))
  else
  (some ((bytesOf x0_2), ())))
def impl_Fixed.l0 (k : Nat) : Nat → Int → Int → List Int → Option (ByteArray × Unit)
  | 0 => fun _ _ _ => none
  | n + 1 => impl_Fixed.b0 k (impl_Fixed.l0 k n)
def impl_Fixed.t (k : Nat) (L0 : Int → Int → List Int → Option (ByteArray × Unit)) (a0 : Int) (a1 : Int) : Option (ByteArray × Unit) :=
  (Option.bind (impl_in.f k a1 1 7) fun r1 =>
  (bif (!r1.1) then
  (some ((⟨#[]⟩ : ByteArray), ()))
  else
  (bif (decide ((w64 (8 * a1)) < 0)) then none else
  (Option.bind (impl_in.f k a0 0 (w64 ((w64 (1 * 2 ^ (min (Int.toNat (w64 (8 * a1))) (IntKind.bits .i64)))) - 1))) fun r2 =>
  (bif (!r2.1) then
  (some ((⟨#[]⟩ : ByteArray), ()))
  else
  (L0 a0 (w64 (a1 - 1)) []))))))
def impl_Fixed.f (k : Nat) (a0 : Int) (a1 : Int) : Option (ByteArray × Unit) := impl_Fixed.t k (impl_Fixed.l0 k k) a0 a1
def impl_ShowRec.t (k : Nat) (a0 : Ty.den TRec) : Option (ByteArray × Unit) :=
  (Option.bind (impl_RecOk.f k a0) fun r1 =>
  (bif (!r1.1) then
  (some ((⟨#[]⟩ : ByteArray), ()))
  else
  (Option.bind (impl_vars.f k [a0.1, a0.2.1]) fun r2 =>
  (bif (a0.1 == 1) then
  (bif (a0.1 == 1) then
  (Option.bind (impl_textOf.f k a0.2.2.1) fun r3 =>
  (cat r2.1 r3.1
  (Option.bind (impl_textOf.f k a0.2.2.2.1) fun r4 =>
  (cat (r2.1 ++ r3.1) r4.1
  (some (((r2.1 ++ r3.1) ++ r4.1), ()))))))
  else
  (bif (a0.1 == 2) then
  (Option.bind (impl_textOf.f k a0.2.2.1) fun r5 =>
  (cat r2.1 r5.1
  (some ((r2.1 ++ r5.1), ()))))
  else
  (Option.bind (impl_Var.f k a0.2.2.2.2.1) fun r6 =>
  (cat r2.1 r6.1
  (Option.bind (impl_Fixed.f k a0.2.2.2.2.2.1 4) fun r7 =>
  (cat (r2.1 ++ r6.1) r7.1
  (some (((r2.1 ++ r6.1) ++ r7.1), ()))))))))
  else
  (bif (a0.1 == 4) then
  (Option.bind (impl_textOf.f k a0.2.2.1) fun r8 =>
  (cat r2.1 r8.1
  (Option.bind (impl_textOf.f k a0.2.2.2.1) fun r9 =>
  (cat (r2.1 ++ r8.1) r9.1
  (some (((r2.1 ++ r8.1) ++ r9.1), ()))))))
  else
  (bif (a0.1 == 2) then
  (Option.bind (impl_textOf.f k a0.2.2.1) fun r10 =>
  (cat r2.1 r10.1
  (some ((r2.1 ++ r10.1), ()))))
  else
  (Option.bind (impl_Var.f k a0.2.2.2.2.1) fun r11 =>
  (cat r2.1 r11.1
  (Option.bind (impl_Fixed.f k a0.2.2.2.2.2.1 4) fun r12 =>
  (cat (r2.1 ++ r11.1) r12.1
  (some (((r2.1 ++ r11.1) ++ r12.1), ()))))))))))))
def impl_ShowRec.f (k : Nat) (a0 : Ty.den TRec) : Option (ByteArray × Unit) := impl_ShowRec.t k a0
def impl_Crc.b1 (k : Nat) (L0 : ByteArray → Int → Int → Option (Int × Unit)) (L1 : ByteArray → Int → Int → Int → Option (Int × Unit)) (x1_0 : ByteArray) (x1_1 : Int) (x1_2 : Int) (x1_3 : Int) : Option (Int × Unit) :=
  (bif (decide (x1_3 < 8)) then
  (bif ((IntKind.wrap .u32 (((BitVec.ofInt (IntKind.bits .u32) x1_1 &&& BitVec.ofInt (IntKind.bits .u32) 1).toNat : Int))) == 1) then
  (L1 x1_0 (IntKind.wrap .u32 (((BitVec.ofInt (IntKind.bits .u32) (Int.fdiv x1_1 (2 ^ (Int.toNat 1))) ^^^ BitVec.ofInt (IntKind.bits .u32) 2197175160).toNat : Int))) x1_2 (w64 (x1_3 + 1)))
  else
  (L1 x1_0 (Int.fdiv x1_1 (2 ^ (Int.toNat 1))) x1_2 (w64 (x1_3 + 1))))
  else
  (L0 x1_0 x1_1 (w64 (x1_2 + 1))))
def impl_Crc.l1 (k : Nat) (L0 : ByteArray → Int → Int → Option (Int × Unit)) : Nat → ByteArray → Int → Int → Int → Option (Int × Unit)
  | 0 => fun _ _ _ _ => none
  | n + 1 => impl_Crc.b1 k L0 (impl_Crc.l1 k L0 n)
def impl_Crc.b0 (k : Nat) (L1 : ByteArray → Int → Int → Int → Option (Int × Unit)) (L0 : ByteArray → Int → Int → Option (Int × Unit)) (x0_0 : ByteArray) (x0_1 : Int) (x0_2 : Int) : Option (Int × Unit) :=
  (bif (decide (x0_2 < (ByteArray.size x0_0 : Int))) then
  (inb x0_2 (ByteArray.size x0_0 : Int)
  (L1 x0_0 (IntKind.wrap .u32 (((BitVec.ofInt (IntKind.bits .u32) x0_1 ^^^ BitVec.ofInt (IntKind.bits .u32) (IntKind.wrap .u32 (byteAt x0_0 x0_2))).toNat : Int))) x0_2 0))
  else
  (some ((w64 (bitNot .u32 x0_1)), ())))
def impl_Crc.l0 (k : Nat) : Nat → ByteArray → Int → Int → Option (Int × Unit)
  | 0 => fun _ _ _ => none
  | n + 1 => impl_Crc.b0 k (impl_Crc.l1 k (impl_Crc.l0 k n) k) (impl_Crc.l0 k n)
def impl_Crc.t (k : Nat) (L0 : ByteArray → Int → Int → Option (Int × Unit)) (a0 : ByteArray) : Option (Int × Unit) :=
  (L0 a0 4294967295 0)
def impl_Crc.f (k : Nat) (a0 : ByteArray) : Option (Int × Unit) := impl_Crc.t k (impl_Crc.l0 k k) a0
def impl_SumOf.b0 (k : Nat) (L0 : ByteArray → List (Ty.den TRec) → Int → Int → Option (Int × Unit)) (x0_0 : ByteArray) (x0_1 : List (Ty.den TRec)) (x0_2 : Int) (x0_3 : Int) : Option (Int × Unit) :=
  (bif (decide (x0_3 < x0_2)) then
  (inb x0_3 (List.length x0_1 : Int)
  (Option.bind (impl_ShowRec.f k (List.getD x0_1 (Int.toNat x0_3) (Ty.dflt TRec))) fun r1 =>
  (cat x0_0 r1.1
  (L0 (x0_0 ++ r1.1) x0_1 x0_2 (w64 (x0_3 + 1))))))
  else
  (Option.bind (impl_Crc.f k x0_0) fun r2 =>
  (some r2)))
def impl_SumOf.l0 (k : Nat) : Nat → ByteArray → List (Ty.den TRec) → Int → Int → Option (Int × Unit)
  | 0 => fun _ _ _ _ => none
  | n + 1 => impl_SumOf.b0 k (impl_SumOf.l0 k n)
def impl_SumOf.t (k : Nat) (L0 : ByteArray → List (Ty.den TRec) → Int → Int → Option (Int × Unit)) (a0 : List (Ty.den TRec)) : Option (Int × Unit) :=
  (L0 (⟨#[]⟩ : ByteArray) a0 (List.length a0 : Int) 0)
def impl_SumOf.f (k : Nat) (a0 : List (Ty.den TRec)) : Option (Int × Unit) := impl_SumOf.t k (impl_SumOf.l0 k k) a0
def impl_recordsOf.b0 (k : Nat) (L0 : List (Ty.den TPut) → Int → List (Ty.den TPut) → Int → Int → List (Ty.den TRec) → Option ((List (Ty.den TRec)) × Unit)) (x0_0 : List (Ty.den TPut)) (x0_1 : Int) (x0_2 : List (Ty.den TPut)) (x0_3 : Int) (x0_4 : Int) (x0_5 : List (Ty.den TRec)) : Option ((List (Ty.den TRec)) × Unit) :=
  (bif (decide (x0_4 < x0_3)) then
  (inb x0_4 (List.length x0_2 : Int)
  (bif (List.getD x0_2 (Int.toNat x0_4) (Ty.dflt TPut)).2.1 then
  (rm (Ty.bytes TRec) (List.length x0_5 + 1)
  (L0 x0_0 x0_1 x0_2 x0_3 (w64 (x0_4 + 1)) (x0_5 ++ [(2, (x0_1, ((List.getD x0_2 (Int.toNat x0_4) (Ty.dflt TPut)).1, (ByteArray.empty, (0, (0, ()))))))])))
  else
  (rm (Ty.bytes TRec) (List.length x0_5 + 1)
  (L0 x0_0 x0_1 x0_2 x0_3 (w64 (x0_4 + 1)) (x0_5 ++ [(1, (x0_1, ((List.getD x0_2 (Int.toNat x0_4) (Ty.dflt TPut)).1, ((List.getD x0_2 (Int.toNat x0_4) (Ty.dflt TPut)).2.2.1, (0, (0, ()))))))])))))
  else
  (Option.bind (impl_SumOf.f k x0_5) fun r1 =>
  (rm (Ty.bytes TRec) (List.length x0_5 + 1)
  (some ((x0_5 ++ [(3, (x0_1, (ByteArray.empty, (ByteArray.empty, ((List.length x0_0 : Int), r1)))))]), ())))))
def impl_recordsOf.l0 (k : Nat) : Nat → List (Ty.den TPut) → Int → List (Ty.den TPut) → Int → Int → List (Ty.den TRec) → Option ((List (Ty.den TRec)) × Unit)
  | 0 => fun _ _ _ _ _ _ => none
  | n + 1 => impl_recordsOf.b0 k (impl_recordsOf.l0 k n)
def impl_recordsOf.t (k : Nat) (L0 : List (Ty.den TPut) → Int → List (Ty.den TPut) → Int → Int → List (Ty.den TRec) → Option ((List (Ty.den TRec)) × Unit)) (a0 : List (Ty.den TPut)) (a1 : Int) : Option ((List (Ty.den TRec)) × Unit) :=
  (L0 a0 a1 a0 (List.length a0 : Int) 0 [])
def impl_recordsOf.f (k : Nat) (a0 : List (Ty.den TPut)) (a1 : Int) : Option ((List (Ty.den TRec)) × Unit) := impl_recordsOf.t k (impl_recordsOf.l0 k k) a0 a1
def impl_Frame.t (k : Nat) (a0 : ByteArray) : Option (ByteArray × Unit) :=
  (bif (decide ((ByteArray.size a0 : Int) > 200)) then
  (some ((⟨#[]⟩ : ByteArray), ()))
  else
  (Option.bind (impl_textOf.f k a0) fun r1 =>
  (Option.bind (impl_Crc.f k r1.1) fun r2 =>
  (Option.bind (impl_Fixed.f k r2.1 4) fun r3 =>
  (cat r3.1 r1.1
  (some ((r3.1 ++ r1.1), ())))))))
def impl_Frame.f (k : Nat) (a0 : ByteArray) : Option (ByteArray × Unit) := impl_Frame.t k a0
def impl_CommitCost.b0 (k : Nat) (L0 : Int → Int → Int → Int → Int → Int → Int → List (Ty.den TRec) → Option ((Ty.den TCost) × Unit)) (x0_0 : Int) (x0_1 : Int) (x0_2 : Int) (x0_3 : Int) (x0_4 : Int) (x0_5 : Int) (x0_6 : Int) (x0_7 : List (Ty.den TRec)) : Option ((Ty.den TCost) × Unit) :=
  (bif (decide (x0_2 < x0_1)) then
  (inb x0_2 (List.length x0_7 : Int)
  (Option.bind (impl_ShowRec.f k (List.getD x0_7 (Int.toNat x0_2) (Ty.dflt TRec))) fun r4 =>
  (Option.bind (impl_Frame.f k r4.1) fun r5 =>
  (bif (decide (x0_0 > 0)) then
  (bif (decide (x0_0 > (w64 (200 - (ByteArray.size r5.1 : Int))))) then
  (L0 (w64 (0 + (ByteArray.size r5.1 : Int))) x0_1 (w64 (x0_2 + 1)) x0_3 x0_4 (w64 ((w64 (x0_5 + 6)) + 1)) (w64 (x0_6 + (ByteArray.size r5.1 : Int))) x0_7)
  else
  (L0 (w64 (x0_0 + (ByteArray.size r5.1 : Int))) x0_1 (w64 (x0_2 + 1)) x0_3 x0_4 (w64 (x0_5 + 1)) (w64 (x0_6 + (ByteArray.size r5.1 : Int))) x0_7))
  else
  (L0 (w64 (x0_0 + (ByteArray.size r5.1 : Int))) x0_1 (w64 (x0_2 + 1)) x0_3 x0_4 (w64 (x0_5 + 1)) (w64 (x0_6 + (ByteArray.size r5.1 : Int))) x0_7)))))
  else
  (some ((x0_5, (x0_6, ())), ())))
def impl_CommitCost.l0 (k : Nat) : Nat → Int → Int → Int → Int → Int → Int → Int → List (Ty.den TRec) → Option ((Ty.den TCost) × Unit)
  | 0 => fun _ _ _ _ _ _ _ _ => none
  | n + 1 => impl_CommitCost.b0 k (impl_CommitCost.l0 k n)
def impl_CommitCost.t (k : Nat) (L0 : Int → Int → Int → Int → Int → Int → Int → List (Ty.den TRec) → Option ((Ty.den TCost) × Unit)) (a0 : Ty.den TStore) (a1 : List (Ty.den TPut)) : Option ((Ty.den TCost) × Unit) :=
  (bif ((List.length a1 : Int) == 0) then
  (some ((0, (0, ())), ()))
  else
  (Option.bind (impl_PutsOk.f k a1) fun r1 =>
  (bif (!r1.1) then
  (some ((0, (0, ())), ()))
  else
  (Option.bind (impl_in.f k a0.2.2.1 1 1000000) fun r2 =>
  (bif (!r2.1) then
  (some ((0, (0, ())), ()))
  else
  (bif (decide (a0.2.2.2.1 < 0)) then
  (some ((0, (0, ())), ()))
  else
  (Option.bind (impl_recordsOf.f k a1 a0.2.2.1) fun r3 =>
  (L0 a0.2.2.2.1 (List.length r3.1 : Int) 0 0 0 1 0 r3.1))))))))
def impl_CommitCost.f (k : Nat) (a0 : Ty.den TStore) (a1 : List (Ty.den TPut)) : Option ((Ty.den TCost) × Unit) := impl_CommitCost.t k (impl_CommitCost.l0 k k) a0 a1
def laws_eqCost.t (k : Nat) (a0 : Ty.den TCost) (a1 : Ty.den TCost) : Option (Bool × Unit) :=
  (bif (a0.1 != a1.1) then
  (some (false, ()))
  else
  (bif (a0.2.1 != a1.2.1) then
  (some (false, ()))
  else
  (some (true, ()))))
def laws_eqCost.f (k : Nat) (a0 : Ty.den TCost) (a1 : Ty.den TCost) : Option (Bool × Unit) := laws_eqCost.t k a0 a1
def laws_eqIntS.b0 (k : Nat) (L0 : List Int → List Int → Int → Option (Bool × Unit)) (x0_0 : List Int) (x0_1 : List Int) (x0_2 : Int) : Option (Bool × Unit) :=
  (bif (decide (x0_2 < (List.length x0_0 : Int))) then
  (inb x0_2 (List.length x0_0 : Int)
  (inb x0_2 (List.length x0_1 : Int)
  (bif ((List.getD x0_0 (Int.toNat x0_2) (Ty.dflt (.int .i64))) != (List.getD x0_1 (Int.toNat x0_2) (Ty.dflt (.int .i64)))) then
  (some (false, ()))
  else
  (L0 x0_0 x0_1 (w64 (x0_2 + 1))))))
  else
  (some (true, ())))
def laws_eqIntS.l0 (k : Nat) : Nat → List Int → List Int → Int → Option (Bool × Unit)
  | 0 => fun _ _ _ => none
  | n + 1 => laws_eqIntS.b0 k (laws_eqIntS.l0 k n)
def laws_eqIntS.t (k : Nat) (L0 : List Int → List Int → Int → Option (Bool × Unit)) (a0 : List Int) (a1 : List Int) : Option (Bool × Unit) :=
  (bif ((List.length a0 : Int) != (List.length a1 : Int)) then
  (some (false, ()))
  else
  (L0 a0 a1 0))
def laws_eqIntS.f (k : Nat) (a0 : List Int) (a1 : List Int) : Option (Bool × Unit) := laws_eqIntS.t k (laws_eqIntS.l0 k k) a0 a1
def laws_eqLive.t (k : Nat) (a0 : Ty.den TLive) (a1 : Ty.den TLive) : Option (Bool × Unit) :=
  (bif (a0.1 != a1.1) then
  (some (false, ()))
  else
  (Option.bind (laws_eqIntS.f k a0.2.1 a1.2.1) fun r1 =>
  (bif (!r1.1) then
  (some (false, ()))
  else
  (some (true, ())))))
def laws_eqLive.f (k : Nat) (a0 : Ty.den TLive) (a1 : Ty.den TLive) : Option (Bool × Unit) := laws_eqLive.t k a0 a1
def laws_eqEntry.t (k : Nat) (a0 : Ty.den TEntry) (a1 : Ty.den TEntry) : Option (Bool × Unit) :=
  (bif (!(seq a0.1 a1.1)) then
  (some (false, ()))
  else
  (bif (a0.2.1 != a1.2.1) then
  (some (false, ()))
  else
  (bif (a0.2.2.1 != a1.2.2.1) then
  (some (false, ()))
  else
  (bif (a0.2.2.2.1 != a1.2.2.2.1) then
  (some (false, ()))
  else
  (bif (a0.2.2.2.2.1 != a1.2.2.2.2.1) then
  (some (false, ()))
  else
  (some (true, ())))))))
def laws_eqEntry.f (k : Nat) (a0 : Ty.den TEntry) (a1 : Ty.den TEntry) : Option (Bool × Unit) := laws_eqEntry.t k a0 a1
def laws_eqEntryS.b0 (k : Nat) (L0 : List (Ty.den TEntry) → List (Ty.den TEntry) → Int → Option (Bool × Unit)) (x0_0 : List (Ty.den TEntry)) (x0_1 : List (Ty.den TEntry)) (x0_2 : Int) : Option (Bool × Unit) :=
  (bif (decide (x0_2 < (List.length x0_0 : Int))) then
  (inb x0_2 (List.length x0_0 : Int)
  (inb x0_2 (List.length x0_1 : Int)
  (Option.bind (laws_eqEntry.f k (List.getD x0_0 (Int.toNat x0_2) (Ty.dflt TEntry)) (List.getD x0_1 (Int.toNat x0_2) (Ty.dflt TEntry))) fun r1 =>
  (bif (!r1.1) then
  (some (false, ()))
  else
  (L0 x0_0 x0_1 (w64 (x0_2 + 1)))))))
  else
  (some (true, ())))
def laws_eqEntryS.l0 (k : Nat) : Nat → List (Ty.den TEntry) → List (Ty.den TEntry) → Int → Option (Bool × Unit)
  | 0 => fun _ _ _ => none
  | n + 1 => laws_eqEntryS.b0 k (laws_eqEntryS.l0 k n)
def laws_eqEntryS.t (k : Nat) (L0 : List (Ty.den TEntry) → List (Ty.den TEntry) → Int → Option (Bool × Unit)) (a0 : List (Ty.den TEntry)) (a1 : List (Ty.den TEntry)) : Option (Bool × Unit) :=
  (bif ((List.length a0 : Int) != (List.length a1 : Int)) then
  (some (false, ()))
  else
  (L0 a0 a1 0))
def laws_eqEntryS.f (k : Nat) (a0 : List (Ty.den TEntry)) (a1 : List (Ty.den TEntry)) : Option (Bool × Unit) := laws_eqEntryS.t k (laws_eqEntryS.l0 k k) a0 a1
def laws_eqStore.t (k : Nat) (a0 : Ty.den TStore) (a1 : Ty.den TStore) : Option (Bool × Unit) :=
  (Option.bind (laws_eqLive.f k a0.1 a1.1) fun r1 =>
  (bif (!r1.1) then
  (some (false, ()))
  else
  (Option.bind (laws_eqEntryS.f k a0.2.1 a1.2.1) fun r2 =>
  (bif (!r2.1) then
  (some (false, ()))
  else
  (bif (a0.2.2.1 != a1.2.2.1) then
  (some (false, ()))
  else
  (bif (a0.2.2.2.1 != a1.2.2.2.1) then
  (some (false, ()))
  else
  (bif (a0.2.2.2.2.1 != a1.2.2.2.2.1) then
  (some (false, ()))
  else
  (some (true, ())))))))))
def laws_eqStore.f (k : Nat) (a0 : Ty.den TStore) (a1 : Ty.den TStore) : Option (Bool × Unit) := laws_eqStore.t k a0 a1
def laws_eqPut.t (k : Nat) (a0 : Ty.den TPut) (a1 : Ty.den TPut) : Option (Bool × Unit) :=
  (bif (!(seq a0.1 a1.1)) then
  (some (false, ()))
  else
  (bif (!(a0.2.1 == a1.2.1)) then
  (some (false, ()))
  else
  (bif (!(seq a0.2.2.1 a1.2.2.1)) then
  (some (false, ()))
  else
  (some (true, ())))))
def laws_eqPut.f (k : Nat) (a0 : Ty.den TPut) (a1 : Ty.den TPut) : Option (Bool × Unit) := laws_eqPut.t k a0 a1
def laws_eqPutS.b0 (k : Nat) (L0 : List (Ty.den TPut) → List (Ty.den TPut) → Int → Option (Bool × Unit)) (x0_0 : List (Ty.den TPut)) (x0_1 : List (Ty.den TPut)) (x0_2 : Int) : Option (Bool × Unit) :=
  (bif (decide (x0_2 < (List.length x0_0 : Int))) then
  (inb x0_2 (List.length x0_0 : Int)
  (inb x0_2 (List.length x0_1 : Int)
  (Option.bind (laws_eqPut.f k (List.getD x0_0 (Int.toNat x0_2) (Ty.dflt TPut)) (List.getD x0_1 (Int.toNat x0_2) (Ty.dflt TPut))) fun r1 =>
  (bif (!r1.1) then
  (some (false, ()))
  else
  (L0 x0_0 x0_1 (w64 (x0_2 + 1)))))))
  else
  (some (true, ())))
def laws_eqPutS.l0 (k : Nat) : Nat → List (Ty.den TPut) → List (Ty.den TPut) → Int → Option (Bool × Unit)
  | 0 => fun _ _ _ => none
  | n + 1 => laws_eqPutS.b0 k (laws_eqPutS.l0 k n)
def laws_eqPutS.t (k : Nat) (L0 : List (Ty.den TPut) → List (Ty.den TPut) → Int → Option (Bool × Unit)) (a0 : List (Ty.den TPut)) (a1 : List (Ty.den TPut)) : Option (Bool × Unit) :=
  (bif ((List.length a0 : Int) != (List.length a1 : Int)) then
  (some (false, ()))
  else
  (L0 a0 a1 0))
def laws_eqPutS.f (k : Nat) (a0 : List (Ty.den TPut)) (a1 : List (Ty.den TPut)) : Option (Bool × Unit) := laws_eqPutS.t k (laws_eqPutS.l0 k k) a0 a1
def laws_FnExactCommitCost.t (k : Nat) (a0 : Ty.den TStore) (a1 : List (Ty.den TPut)) : Option (Bool × Unit) :=
  (Option.bind (laws_szStore.f k a0 1048576) fun r1 =>
  (bif (decide (r1.1 < 0)) then
  (some (true, ()))
  else
  (Option.bind (laws_szPutS.f k a1 r1.1) fun r2 =>
  (bif (decide (r2.1 < 0)) then
  (some (true, ()))
  else
  (Option.bind (laws_toStore.f k a0) fun r3 =>
  (Option.bind (laws_toPutS.f k a1) fun r4 =>
  (Option.bind (spec_CommitCost.f k r3.1 r4.1) fun r5 =>
  (Option.bind (laws_toStore.f k a0) fun r6 =>
  (Option.bind (laws_toPutS.f k a1) fun r7 =>
  (Option.bind (impl_CommitCost.f k r6.1 r7.1) fun r8 =>
  (Option.bind (laws_eqCost.f k r8.1 r5.1) fun r9 =>
  (bif (!r9.1) then
  (some (false, ()))
  else
  (Option.bind (laws_toStore.f k a0) fun r10 =>
  (Option.bind (laws_eqStore.f k r6.1 r10.1) fun r11 =>
  (bif (!r11.1) then
  (some (false, ()))
  else
  (Option.bind (laws_toPutS.f k a1) fun r12 =>
  (Option.bind (laws_eqPutS.f k r7.1 r12.1) fun r13 =>
  (bif (!r13.1) then
  (some (false, ()))
  else
  (some (true, ()))))))))))))))))))))
def laws_FnExactCommitCost.f (k : Nat) (a0 : Ty.den TStore) (a1 : List (Ty.den TPut)) : Option (Bool × Unit) := laws_FnExactCommitCost.t k a0 a1
def spec_ReadVar.b1 (k : Nat) (L0 : ByteArray → Int → Option (Int × Int × Unit)) (L1 : ByteArray → Int → Int → Int → Option (Int × Int × Unit)) (x1_0 : ByteArray) (x1_1 : Int) (x1_2 : Int) (x1_3 : Int) : Option (Int × Int × Unit) :=
  (bif (decide (x1_3 ≥ 0)) then
  (inb x1_3 (ByteArray.size x1_0 : Int)
  (L1 x1_0 x1_1 (w64 ((w64 (x1_2 * 128)) + (Int.tmod (w64 (byteAt x1_0 x1_3)) 128))) (w64 (x1_3 - 1))))
  else
  (Option.bind (spec_Var.f k x1_2) fun r1 =>
  (inc x1_1 (ByteArray.size x1_0 : Int)
  (bif (seq r1.1 (ByteArray.extract x1_0 0 (Int.toNat x1_1))) then
  (some (x1_2, (x1_1, ())))
  else
  (L0 x1_0 (w64 (x1_1 + 1)))))))
def spec_ReadVar.l1 (k : Nat) (L0 : ByteArray → Int → Option (Int × Int × Unit)) : Nat → ByteArray → Int → Int → Int → Option (Int × Int × Unit)
  | 0 => fun _ _ _ _ => none
  | n + 1 => spec_ReadVar.b1 k L0 (spec_ReadVar.l1 k L0 n)
def spec_ReadVar.b0 (k : Nat) (L1 : ByteArray → Int → Int → Int → Option (Int × Int × Unit)) (L0 : ByteArray → Int → Option (Int × Int × Unit)) (x0_0 : ByteArray) (x0_1 : Int) : Option (Int × Int × Unit) :=
  (bif (decide (x0_1 ≤ 7)) then
  (bif (decide (x0_1 ≤ (ByteArray.size x0_0 : Int))) then
  (L1 x0_0 x0_1 0 (w64 (x0_1 - 1)))
  else
  (some (0, (0, ()))))
  else
  (some (0, (0, ()))))
def spec_ReadVar.l0 (k : Nat) : Nat → ByteArray → Int → Option (Int × Int × Unit)
  | 0 => fun _ _ => none
  | n + 1 => spec_ReadVar.b0 k (spec_ReadVar.l1 k (spec_ReadVar.l0 k n) k) (spec_ReadVar.l0 k n)
def spec_ReadVar.t (k : Nat) (L0 : ByteArray → Int → Option (Int × Int × Unit)) (a0 : ByteArray) : Option (Int × Int × Unit) :=
  (L0 a0 1)
def spec_ReadVar.f (k : Nat) (a0 : ByteArray) : Option (Int × Int × Unit) := spec_ReadVar.t k (spec_ReadVar.l0 k k) a0
def spec_Unframe.t (k : Nat) (a0 : ByteArray) : Option (ByteArray × Int × Unit) :=
  (bif (decide ((ByteArray.size a0 : Int) < 5)) then
  (some ((⟨#[]⟩ : ByteArray), (0, ())))
  else
  (inc 4 (ByteArray.size a0 : Int)
  (Option.bind (spec_ReadVar.f k (ByteArray.extract a0 4 (ByteArray.size a0))) fun r1 =>
  (bif (r1.2.1 == 0) then
  (some ((⟨#[]⟩ : ByteArray), (0, ())))
  else
  (bif (decide (r1.1 > 200)) then
  (some ((⟨#[]⟩ : ByteArray), (0, ())))
  else
  (bif (decide (r1.1 > (w64 ((w64 ((ByteArray.size a0 : Int) - 4)) - r1.2.1)))) then
  (some ((⟨#[]⟩ : ByteArray), (0, ())))
  else
  (inc2 (w64 (4 + r1.2.1)) (w64 ((w64 (4 + r1.2.1)) + r1.1)) (ByteArray.size a0 : Int)
  (inc (w64 ((w64 (4 + r1.2.1)) + r1.1)) (ByteArray.size a0 : Int)
  (Option.bind (spec_Frame.f k (ByteArray.extract a0 (Int.toNat (w64 (4 + r1.2.1))) (Int.toNat (w64 ((w64 (4 + r1.2.1)) + r1.1))))) fun r2 =>
  (bif (!(seq (ByteArray.extract a0 0 (Int.toNat (w64 ((w64 (4 + r1.2.1)) + r1.1)))) r2.1)) then
  (some ((⟨#[]⟩ : ByteArray), (0, ())))
  else
  (some ((ByteArray.extract a0 (Int.toNat (w64 (4 + r1.2.1))) (Int.toNat (w64 ((w64 (4 + r1.2.1)) + r1.1)))), ((w64 ((w64 (4 + r1.2.1)) + r1.1)), ())))))))))))))
def spec_Unframe.f (k : Nat) (a0 : ByteArray) : Option (ByteArray × Int × Unit) := spec_Unframe.t k a0
def spec_l5Text.t (k : Nat) (a0 : ByteArray) : Option (ByteArray × ByteArray × Bool × Unit) :=
  (Option.bind (spec_ReadVar.f k a0) fun r1 =>
  (bif (r1.2.1 == 0) then
  (some ((⟨#[]⟩ : ByteArray), ((⟨#[]⟩ : ByteArray), (false, ()))))
  else
  (bif (decide (r1.1 > (w64 ((ByteArray.size a0 : Int) - r1.2.1)))) then
  (some ((⟨#[]⟩ : ByteArray), ((⟨#[]⟩ : ByteArray), (false, ()))))
  else
  (inc2 r1.2.1 (w64 (r1.2.1 + r1.1)) (ByteArray.size a0 : Int)
  (inc (w64 (r1.2.1 + r1.1)) (ByteArray.size a0 : Int)
  (some ((ByteArray.extract a0 (Int.toNat r1.2.1) (Int.toNat (w64 (r1.2.1 + r1.1)))), ((ByteArray.extract a0 (Int.toNat (w64 (r1.2.1 + r1.1))) (ByteArray.size a0)), (true, ())))))))))
def spec_l5Text.f (k : Nat) (a0 : ByteArray) : Option (ByteArray × ByteArray × Bool × Unit) := spec_l5Text.t k a0
def spec_ReadFixed.b0 (k : Nat) (L0 : ByteArray → Int → Int → Int → Option (Int × Bool × Unit)) (x0_0 : ByteArray) (x0_1 : Int) (x0_2 : Int) (x0_3 : Int) : Option (Int × Bool × Unit) :=
  (bif (decide (x0_3 < x0_1)) then
  (inb x0_3 (ByteArray.size x0_0 : Int)
  (L0 x0_0 x0_1 (w64 ((w64 (x0_2 * 256)) + (w64 (byteAt x0_0 x0_3)))) (w64 (x0_3 + 1))))
  else
  (some (x0_2, (true, ()))))
def spec_ReadFixed.l0 (k : Nat) : Nat → ByteArray → Int → Int → Int → Option (Int × Bool × Unit)
  | 0 => fun _ _ _ _ => none
  | n + 1 => spec_ReadFixed.b0 k (spec_ReadFixed.l0 k n)
def spec_ReadFixed.t (k : Nat) (L0 : ByteArray → Int → Int → Int → Option (Int × Bool × Unit)) (a0 : ByteArray) (a1 : Int) : Option (Int × Bool × Unit) :=
  (Option.bind (spec_l1In.f k a1 1 7) fun r1 =>
  (bif (!r1.1) then
  (some (0, (false, ())))
  else
  (bif (decide ((ByteArray.size a0 : Int) < a1)) then
  (some (0, (false, ())))
  else
  (L0 a0 a1 0 0))))
def spec_ReadFixed.f (k : Nat) (a0 : ByteArray) (a1 : Int) : Option (Int × Bool × Unit) := spec_ReadFixed.t k (spec_ReadFixed.l0 k k) a0 a1
def spec_ReadRec.t (k : Nat) (a0 : ByteArray) : Option ((Ty.den TRec) × Bool × Unit) :=
  (Option.bind (spec_ReadVar.f k a0) fun r1 =>
  (inc r1.2.1 (ByteArray.size a0 : Int)
  (Option.bind (spec_ReadVar.f k (ByteArray.extract a0 (Int.toNat r1.2.1) (ByteArray.size a0))) fun r2 =>
  (bif (r1.2.1 == 0) then
  (some ((0, (0, (ByteArray.empty, (ByteArray.empty, (0, (0, ())))))), (false, ())))
  else
  (bif (r2.2.1 == 0) then
  (some ((0, (0, (ByteArray.empty, (ByteArray.empty, (0, (0, ())))))), (false, ())))
  else
  (inc (w64 (r1.2.1 + r2.2.1)) (ByteArray.size a0 : Int)
  (bif (r1.1 == 1) then
  (bif (r1.1 == 1) then
  (Option.bind (spec_l5Text.f k (ByteArray.extract a0 (Int.toNat (w64 (r1.2.1 + r2.2.1))) (ByteArray.size a0))) fun r3 =>
  (Option.bind (spec_l5Text.f k r3.2.1) fun r4 =>
  (Option.bind (spec_ShowRec.f k (r1.1, (r2.1, (r3.1, (r4.1, (0, (0, ()))))))) fun r5 =>
  (bif (!(seq r5.1 a0)) then
  (some ((0, (0, (ByteArray.empty, (ByteArray.empty, (0, (0, ())))))), (false, ())))
  else
  (bif (seq a0 (⟨#[]⟩ : ByteArray)) then
  (some ((0, (0, (ByteArray.empty, (ByteArray.empty, (0, (0, ())))))), (false, ())))
  else
  (some ((r1.1, (r2.1, (r3.1, (r4.1, (0, (0, ())))))), (true, ()))))))))
  else
  (bif (r1.1 == 2) then
  (Option.bind (spec_l5Text.f k (ByteArray.extract a0 (Int.toNat (w64 (r1.2.1 + r2.2.1))) (ByteArray.size a0))) fun r6 =>
  (Option.bind (spec_ShowRec.f k (r1.1, (r2.1, (r6.1, (ByteArray.empty, (0, (0, ()))))))) fun r7 =>
  (bif (!(seq r7.1 a0)) then
  (some ((0, (0, (ByteArray.empty, (ByteArray.empty, (0, (0, ())))))), (false, ())))
  else
  (bif (seq a0 (⟨#[]⟩ : ByteArray)) then
  (some ((0, (0, (ByteArray.empty, (ByteArray.empty, (0, (0, ())))))), (false, ())))
  else
  (some ((r1.1, (r2.1, (r6.1, (ByteArray.empty, (0, (0, ())))))), (true, ())))))))
  else
  (Option.bind (spec_ReadVar.f k (ByteArray.extract a0 (Int.toNat (w64 (r1.2.1 + r2.2.1))) (ByteArray.size a0))) fun r8 =>
  (inc r8.2.1 (ByteArray.size (ByteArray.extract a0 (Int.toNat (w64 (r1.2.1 + r2.2.1))) (ByteArray.size a0)) : Int)
  (Option.bind (spec_ReadFixed.f k (ByteArray.extract (ByteArray.extract a0 (Int.toNat (w64 (r1.2.1 + r2.2.1))) (ByteArray.size a0)) (Int.toNat r8.2.1) (ByteArray.size (ByteArray.extract a0 (Int.toNat (w64 (r1.2.1 + r2.2.1))) (ByteArray.size a0)))) 4) fun r9 =>
  (Option.bind (spec_ShowRec.f k (r1.1, (r2.1, (ByteArray.empty, (ByteArray.empty, (r8.1, (r9.1, ()))))))) fun r10 =>
  (bif (!(seq r10.1 a0)) then
  (some ((0, (0, (ByteArray.empty, (ByteArray.empty, (0, (0, ())))))), (false, ())))
  else
  (bif (seq a0 (⟨#[]⟩ : ByteArray)) then
  (some ((0, (0, (ByteArray.empty, (ByteArray.empty, (0, (0, ())))))), (false, ())))
  else
  (some ((r1.1, (r2.1, (ByteArray.empty, (ByteArray.empty, (r8.1, (r9.1, ())))))), (true, ())))))))))))
  else
  (bif (r1.1 == 4) then
  (Option.bind (spec_l5Text.f k (ByteArray.extract a0 (Int.toNat (w64 (r1.2.1 + r2.2.1))) (ByteArray.size a0))) fun r11 =>
  (Option.bind (spec_l5Text.f k r11.2.1) fun r12 =>
  (Option.bind (spec_ShowRec.f k (r1.1, (r2.1, (r11.1, (r12.1, (0, (0, ()))))))) fun r13 =>
  (bif (!(seq r13.1 a0)) then
  (some ((0, (0, (ByteArray.empty, (ByteArray.empty, (0, (0, ())))))), (false, ())))
  else
  (bif (seq a0 (⟨#[]⟩ : ByteArray)) then
  (some ((0, (0, (ByteArray.empty, (ByteArray.empty, (0, (0, ())))))), (false, ())))
  else
  (some ((r1.1, (r2.1, (r11.1, (r12.1, (0, (0, ())))))), (true, ()))))))))
  else
  (bif (r1.1 == 2) then
  (Option.bind (spec_l5Text.f k (ByteArray.extract a0 (Int.toNat (w64 (r1.2.1 + r2.2.1))) (ByteArray.size a0))) fun r14 =>
  (Option.bind (spec_ShowRec.f k (r1.1, (r2.1, (r14.1, (ByteArray.empty, (0, (0, ()))))))) fun r15 =>
  (bif (!(seq r15.1 a0)) then
  (some ((0, (0, (ByteArray.empty, (ByteArray.empty, (0, (0, ())))))), (false, ())))
  else
  (bif (seq a0 (⟨#[]⟩ : ByteArray)) then
  (some ((0, (0, (ByteArray.empty, (ByteArray.empty, (0, (0, ())))))), (false, ())))
  else
  (some ((r1.1, (r2.1, (r14.1, (ByteArray.empty, (0, (0, ())))))), (true, ())))))))
  else
  (Option.bind (spec_ReadVar.f k (ByteArray.extract a0 (Int.toNat (w64 (r1.2.1 + r2.2.1))) (ByteArray.size a0))) fun r16 =>
  (inc r16.2.1 (ByteArray.size (ByteArray.extract a0 (Int.toNat (w64 (r1.2.1 + r2.2.1))) (ByteArray.size a0)) : Int)
  (Option.bind (spec_ReadFixed.f k (ByteArray.extract (ByteArray.extract a0 (Int.toNat (w64 (r1.2.1 + r2.2.1))) (ByteArray.size a0)) (Int.toNat r16.2.1) (ByteArray.size (ByteArray.extract a0 (Int.toNat (w64 (r1.2.1 + r2.2.1))) (ByteArray.size a0)))) 4) fun r17 =>
  (Option.bind (spec_ShowRec.f k (r1.1, (r2.1, (ByteArray.empty, (ByteArray.empty, (r16.1, (r17.1, ()))))))) fun r18 =>
  (bif (!(seq r18.1 a0)) then
  (some ((0, (0, (ByteArray.empty, (ByteArray.empty, (0, (0, ())))))), (false, ())))
  else
  (bif (seq a0 (⟨#[]⟩ : ByteArray)) then
  (some ((0, (0, (ByteArray.empty, (ByteArray.empty, (0, (0, ())))))), (false, ())))
  else
  (some ((r1.1, (r2.1, (ByteArray.empty, (ByteArray.empty, (r16.1, (r17.1, ())))))), (true, ()))))))))))))))))))
def spec_ReadRec.f (k : Nat) (a0 : ByteArray) : Option ((Ty.den TRec) × Bool × Unit) := spec_ReadRec.t k a0
def spec_ScanRecs.b0 (k : Nat) (L0 : ByteArray → Int → List (Ty.den TSpot) → Option ((List (Ty.den TSpot)) × Int × Unit)) (x0_0 : ByteArray) (x0_1 : Int) (x0_2 : List (Ty.den TSpot)) : Option ((List (Ty.den TSpot)) × Int × Unit) :=
  (bif (decide (x0_1 < (ByteArray.size x0_0 : Int))) then
  (inc x0_1 (ByteArray.size x0_0 : Int)
  (Option.bind (spec_Unframe.f k (ByteArray.extract x0_0 (Int.toNat x0_1) (ByteArray.size x0_0))) fun r1 =>
  (Option.bind (spec_ReadRec.f k r1.1) fun r2 =>
  (bif (r1.2.1 == 0) then
  (some (x0_2, (x0_1, ())))
  else
  (bif (!r2.2.1) then
  (some (x0_2, (x0_1, ())))
  else
  (rm (Ty.bytes TSpot) (List.length x0_2 + 1)
  (L0 x0_0 (w64 (x0_1 + r1.2.1)) (x0_2 ++ [(x0_1, (r1.2.1, (r2.1, ())))]))))))))
  else
  (some (x0_2, (x0_1, ()))))
def spec_ScanRecs.l0 (k : Nat) : Nat → ByteArray → Int → List (Ty.den TSpot) → Option ((List (Ty.den TSpot)) × Int × Unit)
  | 0 => fun _ _ _ => none
  | n + 1 => spec_ScanRecs.b0 k (spec_ScanRecs.l0 k n)
def spec_ScanRecs.t (k : Nat) (L0 : ByteArray → Int → List (Ty.den TSpot) → Option ((List (Ty.den TSpot)) × Int × Unit)) (a0 : ByteArray) : Option ((List (Ty.den TSpot)) × Int × Unit) :=
  (L0 a0 0 [])
def spec_ScanRecs.f (k : Nat) (a0 : ByteArray) : Option ((List (Ty.den TSpot)) × Int × Unit) := spec_ScanRecs.t k (spec_ScanRecs.l0 k k) a0
def spec_PairsOk.b0 (k : Nat) (L0 : List (Ty.den TPair) → Int → Option (Bool × Unit)) (x0_0 : List (Ty.den TPair)) (x0_1 : Int) : Option (Bool × Unit) :=
  (bif (decide (x0_1 < (List.length x0_0 : Int))) then
  (inb x0_1 (List.length x0_0 : Int)
  (Option.bind (spec_KeyOk.f k (List.getD x0_0 (Int.toNat x0_1) (Ty.dflt TPair)).1) fun r1 =>
  (bif (!r1.1) then
  (some (false, ()))
  else
  (inb x0_1 (List.length x0_0 : Int)
  (bif (decide ((ByteArray.size (List.getD x0_0 (Int.toNat x0_1) (Ty.dflt TPair)).2.1 : Int) > 24)) then
  (some (false, ()))
  else
  (inb x0_1 (List.length x0_0 : Int)
  (Option.bind (spec_l1In.f k (List.getD x0_0 (Int.toNat x0_1) (Ty.dflt TPair)).2.2.1 1 1000000) fun r2 =>
  (bif (!r2.1) then
  (some (false, ()))
  else
  (bif (decide (x0_1 > 0)) then
  (inb x0_1 (List.length x0_0 : Int)
  (inb (w64 (x0_1 - 1)) (List.length x0_0 : Int)
  (bif ((sls (List.getD x0_0 (Int.toNat x0_1) (Ty.dflt TPair)).1 (List.getD x0_0 (Int.toNat (w64 (x0_1 - 1))) (Ty.dflt TPair)).1) || (seq (List.getD x0_0 (Int.toNat x0_1) (Ty.dflt TPair)).1 (List.getD x0_0 (Int.toNat (w64 (x0_1 - 1))) (Ty.dflt TPair)).1)) then
  (some (false, ()))
  else
  (L0 x0_0 (w64 (x0_1 + 1))))))
  else
  (L0 x0_0 (w64 (x0_1 + 1))))))))))))
  else
  (some (true, ())))
def spec_PairsOk.l0 (k : Nat) : Nat → List (Ty.den TPair) → Int → Option (Bool × Unit)
  | 0 => fun _ _ => none
  | n + 1 => spec_PairsOk.b0 k (spec_PairsOk.l0 k n)
def spec_PairsOk.t (k : Nat) (L0 : List (Ty.den TPair) → Int → Option (Bool × Unit)) (a0 : List (Ty.den TPair)) : Option (Bool × Unit) :=
  (bif (decide ((List.length a0 : Int) > 20)) then
  (some (false, ()))
  else
  (L0 a0 0))
def spec_PairsOk.f (k : Nat) (a0 : List (Ty.den TPair)) : Option (Bool × Unit) := spec_PairsOk.t k (spec_PairsOk.l0 k k) a0
def spec_l14Keep.t (k : Nat) (a0 : Ty.den TPair) : Option ((Ty.den TRec) × Unit) :=
  (some ((4, (a0.2.2.1, (a0.1, (a0.2.1, (0, (0, ())))))), ()))
def spec_l14Keep.f (k : Nat) (a0 : Ty.den TPair) : Option ((Ty.den TRec) × Unit) := spec_l14Keep.t k a0
def spec_ShowPairs.b0 (k : Nat) (L0 : List (Ty.den TPair) → ByteArray → Int → List (Ty.den TRec) → Option (ByteArray × Unit)) (x0_0 : List (Ty.den TPair)) (x0_1 : ByteArray) (x0_2 : Int) (x0_3 : List (Ty.den TRec)) : Option (ByteArray × Unit) :=
  (bif (decide (x0_2 < (List.length x0_0 : Int))) then
  (inb x0_2 (List.length x0_0 : Int)
  (Option.bind (spec_l14Keep.f k (List.getD x0_0 (Int.toNat x0_2) (Ty.dflt TPair))) fun r2 =>
  (rm (Ty.bytes TRec) (List.length x0_3 + 1)
  (inb x0_2 (List.length x0_0 : Int)
  (Option.bind (spec_l14Keep.f k (List.getD x0_0 (Int.toNat x0_2) (Ty.dflt TPair))) fun r3 =>
  (Option.bind (spec_ShowRec.f k r3.1) fun r4 =>
  (Option.bind (spec_Frame.f k r4.1) fun r5 =>
  (cat x0_1 r5.1
  (L0 x0_0 (x0_1 ++ r5.1) (w64 (x0_2 + 1)) (x0_3 ++ [r2.1]))))))))))
  else
  (Option.bind (spec_l9Seal.f k x0_3 0 5) fun r6 =>
  (Option.bind (spec_ShowRec.f k r6.1) fun r7 =>
  (Option.bind (spec_Frame.f k r7.1) fun r8 =>
  (cat x0_1 r8.1
  (some ((x0_1 ++ r8.1), ())))))))
def spec_ShowPairs.l0 (k : Nat) : Nat → List (Ty.den TPair) → ByteArray → Int → List (Ty.den TRec) → Option (ByteArray × Unit)
  | 0 => fun _ _ _ _ => none
  | n + 1 => spec_ShowPairs.b0 k (spec_ShowPairs.l0 k n)
def spec_ShowPairs.t (k : Nat) (L0 : List (Ty.den TPair) → ByteArray → Int → List (Ty.den TRec) → Option (ByteArray × Unit)) (a0 : List (Ty.den TPair)) : Option (ByteArray × Unit) :=
  (Option.bind (spec_PairsOk.f k a0) fun r1 =>
  (bif (!r1.1) then
  (some ((⟨#[]⟩ : ByteArray), ()))
  else
  (L0 a0 (⟨#[]⟩ : ByteArray) 0 [])))
def spec_ShowPairs.f (k : Nat) (a0 : List (Ty.den TPair)) : Option (ByteArray × Unit) := spec_ShowPairs.t k (spec_ShowPairs.l0 k k) a0
def spec_ReadPairs.b0 (k : Nat) (L0 : ByteArray → Int → List (Ty.den TPair) → List (Ty.den TSpot) → Option ((List (Ty.den TPair)) × Bool × Unit)) (x0_0 : ByteArray) (x0_1 : Int) (x0_2 : List (Ty.den TPair)) (x0_3 : List (Ty.den TSpot)) : Option ((List (Ty.den TPair)) × Bool × Unit) :=
  (bif (decide ((w64 (x0_1 + 1)) < (List.length x0_3 : Int))) then
  (inb x0_1 (List.length x0_3 : Int)
  (inb x0_1 (List.length x0_3 : Int)
  (inb x0_1 (List.length x0_3 : Int)
  (rm (Ty.bytes TPair) (List.length x0_2 + 1)
  (L0 x0_0 (w64 (x0_1 + 1)) (x0_2 ++ [((List.getD x0_3 (Int.toNat x0_1) (Ty.dflt TSpot)).2.2.1.2.2.1, ((List.getD x0_3 (Int.toNat x0_1) (Ty.dflt TSpot)).2.2.1.2.2.2.1, ((List.getD x0_3 (Int.toNat x0_1) (Ty.dflt TSpot)).2.2.1.2.1, ())))]) x0_3)))))
  else
  (Option.bind (spec_ShowPairs.f k x0_2) fun r2 =>
  (bif (!(seq r2.1 x0_0)) then
  (some ([], (false, ())))
  else
  (bif (seq x0_0 (⟨#[]⟩ : ByteArray)) then
  (some ([], (false, ())))
  else
  (some (x0_2, (true, ())))))))
def spec_ReadPairs.l0 (k : Nat) : Nat → ByteArray → Int → List (Ty.den TPair) → List (Ty.den TSpot) → Option ((List (Ty.den TPair)) × Bool × Unit)
  | 0 => fun _ _ _ _ => none
  | n + 1 => spec_ReadPairs.b0 k (spec_ReadPairs.l0 k n)
def spec_ReadPairs.t (k : Nat) (L0 : ByteArray → Int → List (Ty.den TPair) → List (Ty.den TSpot) → Option ((List (Ty.den TPair)) × Bool × Unit)) (a0 : ByteArray) : Option ((List (Ty.den TPair)) × Bool × Unit) :=
  (Option.bind (spec_ScanRecs.f k a0) fun r1 =>
  (L0 a0 0 [] r1.1))
def spec_ReadPairs.f (k : Nat) (a0 : ByteArray) : Option ((List (Ty.den TPair)) × Bool × Unit) := spec_ReadPairs.t k (spec_ReadPairs.l0 k k) a0
def impl_ReadVar.b0 (k : Nat) (L0 : ByteArray → Int → Int → Option (Int × Int × Unit)) (x0_0 : ByteArray) (x0_1 : Int) (x0_2 : Int) : Option (Int × Int × Unit) :=
  (bif (decide (x0_2 < 7)) then
  (bif (decide (x0_2 < (ByteArray.size x0_0 : Int))) then
  (inb x0_2 (ByteArray.size x0_0 : Int)
  (bif (decide ((w64 (7 * x0_2)) < 0)) then none else
  (bif (decide ((w64 (byteAt x0_0 x0_2)) ≥ 128)) then
  (L0 x0_0 (w64 (x0_1 + (w64 ((Int.tmod (w64 (byteAt x0_0 x0_2)) 128) * 2 ^ (min (Int.toNat (w64 (7 * x0_2))) (IntKind.bits .i64)))))) (w64 (x0_2 + 1)))
  else
  (bif ((w64 (byteAt x0_0 x0_2)) == 0) then
  (bif (decide (x0_2 > 0)) then
  (some (0, (0, ())))
  else
  (some ((w64 (x0_1 + (w64 ((Int.tmod (w64 (byteAt x0_0 x0_2)) 128) * 2 ^ (min (Int.toNat (w64 (7 * x0_2))) (IntKind.bits .i64)))))), ((w64 (x0_2 + 1)), ()))))
  else
  (some ((w64 (x0_1 + (w64 ((Int.tmod (w64 (byteAt x0_0 x0_2)) 128) * 2 ^ (min (Int.toNat (w64 (7 * x0_2))) (IntKind.bits .i64)))))), ((w64 (x0_2 + 1)), ())))))))
  else
  (some (0, (0, ()))))
  else
  (some (0, (0, ()))))
def impl_ReadVar.l0 (k : Nat) : Nat → ByteArray → Int → Int → Option (Int × Int × Unit)
  | 0 => fun _ _ _ => none
  | n + 1 => impl_ReadVar.b0 k (impl_ReadVar.l0 k n)
def impl_ReadVar.t (k : Nat) (L0 : ByteArray → Int → Int → Option (Int × Int × Unit)) (a0 : ByteArray) : Option (Int × Int × Unit) :=
  (L0 a0 0 0)
def impl_ReadVar.f (k : Nat) (a0 : ByteArray) : Option (Int × Int × Unit) := impl_ReadVar.t k (impl_ReadVar.l0 k k) a0
def impl_Unframe.t (k : Nat) (a0 : ByteArray) : Option (ByteArray × Int × Unit) :=
  (bif (decide ((ByteArray.size a0 : Int) < 4)) then
  (some ((⟨#[]⟩ : ByteArray), (0, ())))
  else
  (inc 4 (ByteArray.size a0 : Int)
  (Option.bind (impl_ReadVar.f k (ByteArray.extract a0 4 (ByteArray.size a0))) fun r1 =>
  (bif (r1.2.1 == 0) then
  (some ((⟨#[]⟩ : ByteArray), (0, ())))
  else
  (bif (decide (r1.1 > 200)) then
  (some ((⟨#[]⟩ : ByteArray), (0, ())))
  else
  (bif (decide (r1.1 > (w64 ((w64 ((ByteArray.size a0 : Int) - 4)) - r1.2.1)))) then
  (some ((⟨#[]⟩ : ByteArray), (0, ())))
  else
  (inc2 (w64 (4 + r1.2.1)) (w64 ((w64 (4 + r1.2.1)) + r1.1)) (ByteArray.size a0 : Int)
  (Option.bind (impl_Frame.f k (ByteArray.extract a0 (Int.toNat (w64 (4 + r1.2.1))) (Int.toNat (w64 ((w64 (4 + r1.2.1)) + r1.1))))) fun r2 =>
  (inc (w64 ((w64 (4 + r1.2.1)) + r1.1)) (ByteArray.size a0 : Int)
  (bif (!(seq r2.1 (ByteArray.extract a0 0 (Int.toNat (w64 ((w64 (4 + r1.2.1)) + r1.1)))))) then
  (some ((⟨#[]⟩ : ByteArray), (0, ())))
  else
  (some ((ByteArray.extract a0 (Int.toNat (w64 (4 + r1.2.1))) (Int.toNat (w64 ((w64 (4 + r1.2.1)) + r1.1)))), ((w64 ((w64 (4 + r1.2.1)) + r1.1)), ())))))))))))))
def impl_Unframe.f (k : Nat) (a0 : ByteArray) : Option (ByteArray × Int × Unit) := impl_Unframe.t k a0
def impl_scanner__num.t (k : Nat) (a0 : Ty.den Tscanner) : Option ((Ty.den Tscanner) × Int × Unit) :=
  (Option.bind (impl_ReadVar.f k a0.1) fun r1 =>
  (bif a0.2.1 then
  (some ((a0.1, (true, ())), (0, ())))
  else
  (bif (r1.2.1 == 0) then
  (some ((a0.1, (true, ())), (0, ())))
  else
  (inc r1.2.1 (ByteArray.size a0.1 : Int)
  (some (((ByteArray.extract a0.1 (Int.toNat r1.2.1) (ByteArray.size a0.1)), a0.2), (r1.1, ())))))))
def impl_scanner__num.f (k : Nat) (a0 : Ty.den Tscanner) : Option ((Ty.den Tscanner) × Int × Unit) := impl_scanner__num.t k a0
def impl_scanner__bytes.t (k : Nat) (a0 : Ty.den Tscanner) (a1 : Int) : Option ((Ty.den Tscanner) × ByteArray × Unit) :=
  (bif a0.2.1 then
  (some ((a0.1, (true, ())), ((⟨#[]⟩ : ByteArray), ())))
  else
  (bif (decide (a1 > (ByteArray.size a0.1 : Int))) then
  (some ((a0.1, (true, ())), ((⟨#[]⟩ : ByteArray), ())))
  else
  (inc a1 (ByteArray.size a0.1 : Int)
  (inc a1 (ByteArray.size a0.1 : Int)
  (some (((ByteArray.extract a0.1 (Int.toNat a1) (ByteArray.size a0.1)), a0.2), ((ByteArray.extract a0.1 0 (Int.toNat a1)), ())))))))
def impl_scanner__bytes.f (k : Nat) (a0 : Ty.den Tscanner) (a1 : Int) : Option ((Ty.den Tscanner) × ByteArray × Unit) := impl_scanner__bytes.t k a0 a1
def impl_scanner__text.t (k : Nat) (a0 : Ty.den Tscanner) : Option ((Ty.den Tscanner) × ByteArray × Unit) :=
  (Option.bind (impl_scanner__num.f k a0) fun r1 =>
  (Option.bind (impl_scanner__bytes.f k r1.1 r1.2.1) fun r2 =>
  (some r2)))
def impl_scanner__text.f (k : Nat) (a0 : Ty.den Tscanner) : Option ((Ty.den Tscanner) × ByteArray × Unit) := impl_scanner__text.t k a0
def impl_ReadFixed.b0 (k : Nat) (L0 : ByteArray → Int → Int → Int → Option (Int × Bool × Unit)) (x0_0 : ByteArray) (x0_1 : Int) (x0_2 : Int) (x0_3 : Int) : Option (Int × Bool × Unit) :=
  (bif (decide (x0_3 < x0_2)) then
  (inb x0_3 (ByteArray.size x0_0 : Int)
  (L0 x0_0 (w64 (((BitVec.ofInt (IntKind.bits .i64) (w64 (x0_1 * 2 ^ (min (Int.toNat 8) (IntKind.bits .i64)))) ||| BitVec.ofInt (IntKind.bits .i64) (w64 (byteAt x0_0 x0_3))).toNat : Int))) x0_2 (w64 (x0_3 + 1))))
  else
  (some (x0_1, (true, ()))))
def impl_ReadFixed.l0 (k : Nat) : Nat → ByteArray → Int → Int → Int → Option (Int × Bool × Unit)
  | 0 => fun _ _ _ _ => none
  | n + 1 => impl_ReadFixed.b0 k (impl_ReadFixed.l0 k n)
def impl_ReadFixed.t (k : Nat) (L0 : ByteArray → Int → Int → Int → Option (Int × Bool × Unit)) (a0 : ByteArray) (a1 : Int) : Option (Int × Bool × Unit) :=
  (Option.bind (impl_in.f k a1 1 7) fun r1 =>
  (bif (!r1.1) then
  (some (0, (false, ())))
  else
  (bif (decide ((ByteArray.size a0 : Int) < a1)) then
  (some (0, (false, ())))
  else
  (L0 a0 0 a1 0))))
def impl_ReadFixed.f (k : Nat) (a0 : ByteArray) (a1 : Int) : Option (Int × Bool × Unit) := impl_ReadFixed.t k (impl_ReadFixed.l0 k k) a0 a1
def impl_ReadRec.t (k : Nat) (a0 : ByteArray) : Option ((Ty.den TRec) × Bool × Unit) :=
  (Option.bind (impl_scanner__num.f k (a0, (false, ()))) fun r1 =>
  (Option.bind (impl_scanner__num.f k r1.1) fun r2 =>
  (bif (r1.2.1 == 1) then
  (bif (r1.2.1 == 1) then
  (Option.bind (impl_scanner__text.f k r2.1) fun r3 =>
  (Option.bind (impl_scanner__text.f k r3.1) fun r4 =>
  (bif r4.1.2.1 then
  (some ((0, (0, (ByteArray.empty, (ByteArray.empty, (0, (0, ())))))), (false, ())))
  else
  (bif (!(seq r4.1.1 (⟨#[]⟩ : ByteArray))) then
  (some ((0, (0, (ByteArray.empty, (ByteArray.empty, (0, (0, ())))))), (false, ())))
  else
  (Option.bind (impl_RecOk.f k (r1.2.1, (r2.2.1, (r3.2.1, (r4.2.1, (0, (0, ()))))))) fun r5 =>
  (bif (!r5.1) then
  (some ((0, (0, (ByteArray.empty, (ByteArray.empty, (0, (0, ())))))), (false, ())))
  else
  (some ((r1.2.1, (r2.2.1, (r3.2.1, (r4.2.1, (0, (0, ())))))), (true, ())))))))))
  else
  (bif (r1.2.1 == 2) then
  (Option.bind (impl_scanner__text.f k r2.1) fun r6 =>
  (bif r6.1.2.1 then
  (some ((0, (0, (ByteArray.empty, (ByteArray.empty, (0, (0, ())))))), (false, ())))
  else
  (bif (!(seq r6.1.1 (⟨#[]⟩ : ByteArray))) then
  (some ((0, (0, (ByteArray.empty, (ByteArray.empty, (0, (0, ())))))), (false, ())))
  else
  (Option.bind (impl_RecOk.f k (r1.2.1, (r2.2.1, (r6.2.1, (ByteArray.empty, (0, (0, ()))))))) fun r7 =>
  (bif (!r7.1) then
  (some ((0, (0, (ByteArray.empty, (ByteArray.empty, (0, (0, ())))))), (false, ())))
  else
  (some ((r1.2.1, (r2.2.1, (r6.2.1, (ByteArray.empty, (0, (0, ())))))), (true, ()))))))))
  else
  (Option.bind (impl_scanner__num.f k r2.1) fun r8 =>
  (Option.bind (impl_scanner__bytes.f k r8.1 4) fun r9 =>
  (Option.bind (impl_ReadFixed.f k r9.2.1 4) fun r10 =>
  (bif r9.1.2.1 then
  (some ((0, (0, (ByteArray.empty, (ByteArray.empty, (0, (0, ())))))), (false, ())))
  else
  (bif (!(seq r9.1.1 (⟨#[]⟩ : ByteArray))) then
  (some ((0, (0, (ByteArray.empty, (ByteArray.empty, (0, (0, ())))))), (false, ())))
  else
  (Option.bind (impl_RecOk.f k (r1.2.1, (r2.2.1, (ByteArray.empty, (ByteArray.empty, (r8.2.1, (r10.1, ()))))))) fun r11 =>
  (bif (!r11.1) then
  (some ((0, (0, (ByteArray.empty, (ByteArray.empty, (0, (0, ())))))), (false, ())))
  else
  (some ((r1.2.1, (r2.2.1, (ByteArray.empty, (ByteArray.empty, (r8.2.1, (r10.1, ())))))), (true, ()))))))))))))
  else
  (bif (r1.2.1 == 4) then
  (Option.bind (impl_scanner__text.f k r2.1) fun r12 =>
  (Option.bind (impl_scanner__text.f k r12.1) fun r13 =>
  (bif r13.1.2.1 then
  (some ((0, (0, (ByteArray.empty, (ByteArray.empty, (0, (0, ())))))), (false, ())))
  else
  (bif (!(seq r13.1.1 (⟨#[]⟩ : ByteArray))) then
  (some ((0, (0, (ByteArray.empty, (ByteArray.empty, (0, (0, ())))))), (false, ())))
  else
  (Option.bind (impl_RecOk.f k (r1.2.1, (r2.2.1, (r12.2.1, (r13.2.1, (0, (0, ()))))))) fun r14 =>
  (bif (!r14.1) then
  (some ((0, (0, (ByteArray.empty, (ByteArray.empty, (0, (0, ())))))), (false, ())))
  else
  (some ((r1.2.1, (r2.2.1, (r12.2.1, (r13.2.1, (0, (0, ())))))), (true, ())))))))))
  else
  (bif (r1.2.1 == 2) then
  (Option.bind (impl_scanner__text.f k r2.1) fun r15 =>
  (bif r15.1.2.1 then
  (some ((0, (0, (ByteArray.empty, (ByteArray.empty, (0, (0, ())))))), (false, ())))
  else
  (bif (!(seq r15.1.1 (⟨#[]⟩ : ByteArray))) then
  (some ((0, (0, (ByteArray.empty, (ByteArray.empty, (0, (0, ())))))), (false, ())))
  else
  (Option.bind (impl_RecOk.f k (r1.2.1, (r2.2.1, (r15.2.1, (ByteArray.empty, (0, (0, ()))))))) fun r16 =>
  (bif (!r16.1) then
  (some ((0, (0, (ByteArray.empty, (ByteArray.empty, (0, (0, ())))))), (false, ())))
  else
  (some ((r1.2.1, (r2.2.1, (r15.2.1, (ByteArray.empty, (0, (0, ())))))), (true, ()))))))))
  else
  (Option.bind (impl_scanner__num.f k r2.1) fun r17 =>
  (Option.bind (impl_scanner__bytes.f k r17.1 4) fun r18 =>
  (Option.bind (impl_ReadFixed.f k r18.2.1 4) fun r19 =>
  (bif r18.1.2.1 then
  (some ((0, (0, (ByteArray.empty, (ByteArray.empty, (0, (0, ())))))), (false, ())))
  else
  (bif (!(seq r18.1.1 (⟨#[]⟩ : ByteArray))) then
  (some ((0, (0, (ByteArray.empty, (ByteArray.empty, (0, (0, ())))))), (false, ())))
  else
  (Option.bind (impl_RecOk.f k (r1.2.1, (r2.2.1, (ByteArray.empty, (ByteArray.empty, (r17.2.1, (r19.1, ()))))))) fun r20 =>
  (bif (!r20.1) then
  (some ((0, (0, (ByteArray.empty, (ByteArray.empty, (0, (0, ())))))), (false, ())))
  else
  (some ((r1.2.1, (r2.2.1, (ByteArray.empty, (ByteArray.empty, (r17.2.1, (r19.1, ())))))), (true, ())))))))))))))))
def impl_ReadRec.f (k : Nat) (a0 : ByteArray) : Option ((Ty.den TRec) × Bool × Unit) := impl_ReadRec.t k a0
def impl_ScanRecs.b0 (k : Nat) (L0 : ByteArray → Int → List (Ty.den TSpot) → Option ((List (Ty.den TSpot)) × Int × Unit)) (x0_0 : ByteArray) (x0_1 : Int) (x0_2 : List (Ty.den TSpot)) : Option ((List (Ty.den TSpot)) × Int × Unit) :=
  (inc x0_1 (ByteArray.size x0_0 : Int)
  (Option.bind (impl_Unframe.f k (ByteArray.extract x0_0 (Int.toNat x0_1) (ByteArray.size x0_0))) fun r1 =>
  (Option.bind (impl_ReadRec.f k r1.1) fun r2 =>
  (bif (r1.2.1 == 0) then
  (some (x0_2, (x0_1, ())))
  else
  (bif (!r2.2.1) then
  (some (x0_2, (x0_1, ())))
  else
  (rm (Ty.bytes TSpot) (List.length x0_2 + 1)
  (L0 x0_0 (w64 (x0_1 + r1.2.1)) (x0_2 ++ [(x0_1, (r1.2.1, (r2.1, ())))]))))))))
def impl_ScanRecs.l0 (k : Nat) : Nat → ByteArray → Int → List (Ty.den TSpot) → Option ((List (Ty.den TSpot)) × Int × Unit)
  | 0 => fun _ _ _ => none
  | n + 1 => impl_ScanRecs.b0 k (impl_ScanRecs.l0 k n)
def impl_ScanRecs.t (k : Nat) (L0 : ByteArray → Int → List (Ty.den TSpot) → Option ((List (Ty.den TSpot)) × Int × Unit)) (a0 : ByteArray) : Option ((List (Ty.den TSpot)) × Int × Unit) :=
  (L0 a0 0 [])
def impl_ScanRecs.f (k : Nat) (a0 : ByteArray) : Option ((List (Ty.den TSpot)) × Int × Unit) := impl_ScanRecs.t k (impl_ScanRecs.l0 k k) a0
def impl_PairsOk.b0 (k : Nat) (L0 : List (Ty.den TPair) → List (Ty.den TPair) → Int → Int → Option (Bool × Unit)) (x0_0 : List (Ty.den TPair)) (x0_1 : List (Ty.den TPair)) (x0_2 : Int) (x0_3 : Int) : Option (Bool × Unit) :=
  (bif (decide (x0_3 < x0_2)) then
  (inb x0_3 (List.length x0_1 : Int)
  (Option.bind (impl_KeyOk.f k (List.getD x0_1 (Int.toNat x0_3) (Ty.dflt TPair)).1) fun r1 =>
  (bif (!r1.1) then
  (some (false, ()))
  else
  (bif (decide ((ByteArray.size (List.getD x0_1 (Int.toNat x0_3) (Ty.dflt TPair)).2.1 : Int) > 24)) then
  (some (false, ()))
  else
  (Option.bind (impl_in.f k (List.getD x0_1 (Int.toNat x0_3) (Ty.dflt TPair)).2.2.1 1 1000000) fun r2 =>
  (bif (!r2.1) then
  (some (false, ()))
  else
  (bif (decide (x0_3 > 0)) then
  (inb (w64 (x0_3 - 1)) (List.length x0_0 : Int)
  (bif (!(sls (List.getD x0_0 (Int.toNat (w64 (x0_3 - 1))) (Ty.dflt TPair)).1 (List.getD x0_1 (Int.toNat x0_3) (Ty.dflt TPair)).1)) then
  (some (false, ()))
  else
  (L0 x0_0 x0_1 x0_2 (w64 (x0_3 + 1)))))
  else
  (L0 x0_0 x0_1 x0_2 (w64 (x0_3 + 1))))))))))
  else
  (some ((decide ((List.length x0_0 : Int) ≤ 20)), ())))
def impl_PairsOk.l0 (k : Nat) : Nat → List (Ty.den TPair) → List (Ty.den TPair) → Int → Int → Option (Bool × Unit)
  | 0 => fun _ _ _ _ => none
  | n + 1 => impl_PairsOk.b0 k (impl_PairsOk.l0 k n)
def impl_PairsOk.t (k : Nat) (L0 : List (Ty.den TPair) → List (Ty.den TPair) → Int → Int → Option (Bool × Unit)) (a0 : List (Ty.den TPair)) : Option (Bool × Unit) :=
  (L0 a0 a0 (List.length a0 : Int) 0)
def impl_PairsOk.f (k : Nat) (a0 : List (Ty.den TPair)) : Option (Bool × Unit) := impl_PairsOk.t k (impl_PairsOk.l0 k k) a0
def impl_keeps.b0 (k : Nat) (L0 : List (Ty.den TPair) → Int → List (Ty.den TPair) → Int → Int → List (Ty.den TRec) → Option ((List (Ty.den TRec)) × Unit)) (x0_0 : List (Ty.den TPair)) (x0_1 : Int) (x0_2 : List (Ty.den TPair)) (x0_3 : Int) (x0_4 : Int) (x0_5 : List (Ty.den TRec)) : Option ((List (Ty.den TRec)) × Unit) :=
  (bif (decide (x0_4 < x0_3)) then
  (inb x0_4 (List.length x0_2 : Int)
  (rm (Ty.bytes TRec) (List.length x0_5 + 1)
  (L0 x0_0 x0_1 x0_2 x0_3 (w64 (x0_4 + 1)) (x0_5 ++ [(4, ((List.getD x0_2 (Int.toNat x0_4) (Ty.dflt TPair)).2.2.1, ((List.getD x0_2 (Int.toNat x0_4) (Ty.dflt TPair)).1, ((List.getD x0_2 (Int.toNat x0_4) (Ty.dflt TPair)).2.1, (0, (0, ()))))))]))))
  else
  (Option.bind (impl_SumOf.f k x0_5) fun r1 =>
  (rm (Ty.bytes TRec) (List.length x0_5 + 1)
  (some ((x0_5 ++ [(5, (x0_1, (ByteArray.empty, (ByteArray.empty, ((List.length x0_0 : Int), r1)))))]), ())))))
def impl_keeps.l0 (k : Nat) : Nat → List (Ty.den TPair) → Int → List (Ty.den TPair) → Int → Int → List (Ty.den TRec) → Option ((List (Ty.den TRec)) × Unit)
  | 0 => fun _ _ _ _ _ _ => none
  | n + 1 => impl_keeps.b0 k (impl_keeps.l0 k n)
def impl_keeps.t (k : Nat) (L0 : List (Ty.den TPair) → Int → List (Ty.den TPair) → Int → Int → List (Ty.den TRec) → Option ((List (Ty.den TRec)) × Unit)) (a0 : List (Ty.den TPair)) (a1 : Int) : Option ((List (Ty.den TRec)) × Unit) :=
  (L0 a0 a1 a0 (List.length a0 : Int) 0 [])
def impl_keeps.f (k : Nat) (a0 : List (Ty.den TPair)) (a1 : Int) : Option ((List (Ty.den TRec)) × Unit) := impl_keeps.t k (impl_keeps.l0 k k) a0 a1
def impl_ShowPairs.b0 (k : Nat) (L0 : ByteArray → Int → Int → List (Ty.den TRec) → Option (ByteArray × Unit)) (x0_0 : ByteArray) (x0_1 : Int) (x0_2 : Int) (x0_3 : List (Ty.den TRec)) : Option (ByteArray × Unit) :=
  (bif (decide (x0_2 < x0_1)) then
  (inb x0_2 (List.length x0_3 : Int)
  (Option.bind (impl_ShowRec.f k (List.getD x0_3 (Int.toNat x0_2) (Ty.dflt TRec))) fun r3 =>
  (Option.bind (impl_Frame.f k r3.1) fun r4 =>
  (cat x0_0 r4.1
  (L0 (x0_0 ++ r4.1) x0_1 (w64 (x0_2 + 1)) x0_3)))))
  else
  (some (x0_0, ())))
def impl_ShowPairs.l0 (k : Nat) : Nat → ByteArray → Int → Int → List (Ty.den TRec) → Option (ByteArray × Unit)
  | 0 => fun _ _ _ _ => none
  | n + 1 => impl_ShowPairs.b0 k (impl_ShowPairs.l0 k n)
def impl_ShowPairs.t (k : Nat) (L0 : ByteArray → Int → Int → List (Ty.den TRec) → Option (ByteArray × Unit)) (a0 : List (Ty.den TPair)) : Option (ByteArray × Unit) :=
  (Option.bind (impl_PairsOk.f k a0) fun r1 =>
  (bif (!r1.1) then
  (some ((⟨#[]⟩ : ByteArray), ()))
  else
  (Option.bind (impl_keeps.f k a0 0) fun r2 =>
  (L0 (⟨#[]⟩ : ByteArray) (List.length r2.1 : Int) 0 r2.1))))
def impl_ShowPairs.f (k : Nat) (a0 : List (Ty.den TPair)) : Option (ByteArray × Unit) := impl_ShowPairs.t k (impl_ShowPairs.l0 k k) a0
def impl_ReadPairs.b0 (k : Nat) (L0 : ByteArray → Int → Int → List (Ty.den TPair) → List (Ty.den TSpot) → Option ((List (Ty.den TPair)) × Bool × Unit)) (x0_0 : ByteArray) (x0_1 : Int) (x0_2 : Int) (x0_3 : List (Ty.den TPair)) (x0_4 : List (Ty.den TSpot)) : Option ((List (Ty.den TPair)) × Bool × Unit) :=
  (bif (decide (x0_2 < x0_1)) then
  (inb x0_2 (List.length x0_4 : Int)
  (bif ((List.getD x0_4 (Int.toNat x0_2) (Ty.dflt TSpot)).2.2.1.1 == 4) then
  (rm (Ty.bytes TPair) (List.length x0_3 + 1)
  (L0 x0_0 x0_1 (w64 (x0_2 + 1)) (x0_3 ++ [((List.getD x0_4 (Int.toNat x0_2) (Ty.dflt TSpot)).2.2.1.2.2.1, ((List.getD x0_4 (Int.toNat x0_2) (Ty.dflt TSpot)).2.2.1.2.2.2.1, ((List.getD x0_4 (Int.toNat x0_2) (Ty.dflt TSpot)).2.2.1.2.1, ())))]) x0_4))
  else
  (L0 x0_0 x0_1 (w64 (x0_2 + 1)) x0_3 x0_4)))
  else
  (Option.bind (impl_ShowPairs.f k x0_3) fun r2 =>
  (bif (seq r2.1 (⟨#[]⟩ : ByteArray)) then
  (some ([], (false, ())))
  else
  (bif (!(seq r2.1 x0_0)) then
  (some ([], (false, ())))
  else
  (some (x0_3, (true, ())))))))
def impl_ReadPairs.l0 (k : Nat) : Nat → ByteArray → Int → Int → List (Ty.den TPair) → List (Ty.den TSpot) → Option ((List (Ty.den TPair)) × Bool × Unit)
  | 0 => fun _ _ _ _ _ => none
  | n + 1 => impl_ReadPairs.b0 k (impl_ReadPairs.l0 k n)
def impl_ReadPairs.t (k : Nat) (L0 : ByteArray → Int → Int → List (Ty.den TPair) → List (Ty.den TSpot) → Option ((List (Ty.den TPair)) × Bool × Unit)) (a0 : ByteArray) : Option ((List (Ty.den TPair)) × Bool × Unit) :=
  (Option.bind (impl_ScanRecs.f k a0) fun r1 =>
  (L0 a0 (List.length r1.1 : Int) 0 [] r1.1))
def impl_ReadPairs.f (k : Nat) (a0 : ByteArray) : Option ((List (Ty.den TPair)) × Bool × Unit) := impl_ReadPairs.t k (impl_ReadPairs.l0 k k) a0
def laws_eqPair.t (k : Nat) (a0 : Ty.den TPair) (a1 : Ty.den TPair) : Option (Bool × Unit) :=
  (bif (!(seq a0.1 a1.1)) then
  (some (false, ()))
  else
  (bif (!(seq a0.2.1 a1.2.1)) then
  (some (false, ()))
  else
  (bif (a0.2.2.1 != a1.2.2.1) then
  (some (false, ()))
  else
  (some (true, ())))))
def laws_eqPair.f (k : Nat) (a0 : Ty.den TPair) (a1 : Ty.den TPair) : Option (Bool × Unit) := laws_eqPair.t k a0 a1
def laws_eqPairS.b0 (k : Nat) (L0 : List (Ty.den TPair) → List (Ty.den TPair) → Int → Option (Bool × Unit)) (x0_0 : List (Ty.den TPair)) (x0_1 : List (Ty.den TPair)) (x0_2 : Int) : Option (Bool × Unit) :=
  (bif (decide (x0_2 < (List.length x0_0 : Int))) then
  (inb x0_2 (List.length x0_0 : Int)
  (inb x0_2 (List.length x0_1 : Int)
  (Option.bind (laws_eqPair.f k (List.getD x0_0 (Int.toNat x0_2) (Ty.dflt TPair)) (List.getD x0_1 (Int.toNat x0_2) (Ty.dflt TPair))) fun r1 =>
  (bif (!r1.1) then
  (some (false, ()))
  else
  (L0 x0_0 x0_1 (w64 (x0_2 + 1)))))))
  else
  (some (true, ())))
def laws_eqPairS.l0 (k : Nat) : Nat → List (Ty.den TPair) → List (Ty.den TPair) → Int → Option (Bool × Unit)
  | 0 => fun _ _ _ => none
  | n + 1 => laws_eqPairS.b0 k (laws_eqPairS.l0 k n)
def laws_eqPairS.t (k : Nat) (L0 : List (Ty.den TPair) → List (Ty.den TPair) → Int → Option (Bool × Unit)) (a0 : List (Ty.den TPair)) (a1 : List (Ty.den TPair)) : Option (Bool × Unit) :=
  (bif ((List.length a0 : Int) != (List.length a1 : Int)) then
  (some (false, ()))
  else
  (L0 a0 a1 0))
def laws_eqPairS.f (k : Nat) (a0 : List (Ty.den TPair)) (a1 : List (Ty.den TPair)) : Option (Bool × Unit) := laws_eqPairS.t k (laws_eqPairS.l0 k k) a0 a1
def laws_markText.b0 (k : Nat) (L0 : Int → ByteArray → Option (ByteArray × Unit)) (x0_0 : Int) (x0_1 : ByteArray) : Option (ByteArray × Unit) :=
  (bif (decide (x0_0 > 0)) then
  (cat (bytesOf [(IntKind.wrap .u8 (w64 (48 + (Int.tmod x0_0 10))))]) x0_1
  (L0 (w64 (Int.tdiv x0_0 10)) ((bytesOf [(IntKind.wrap .u8 (w64 (48 + (Int.tmod x0_0 10))))]) ++ x0_1)))
  else
  (cat (⟨#[109]⟩ : ByteArray) x0_1
  (some (((⟨#[109]⟩ : ByteArray) ++ x0_1), ()))))
def laws_markText.l0 (k : Nat) : Nat → Int → ByteArray → Option (ByteArray × Unit)
  | 0 => fun _ _ => none
  | n + 1 => laws_markText.b0 k (laws_markText.l0 k n)
def laws_markText.t (k : Nat) (L0 : Int → ByteArray → Option (ByteArray × Unit)) (a0 : Int) : Option (ByteArray × Unit) :=
  (bif (decide (a0 ≤ 0)) then
  (some ((⟨#[109, 48]⟩ : ByteArray), ()))
  else
  (L0 a0 (⟨#[]⟩ : ByteArray)))
def laws_markText.f (k : Nat) (a0 : Int) : Option (ByteArray × Unit) := laws_markText.t k (laws_markText.l0 k k) a0
def laws_markPairS.b0 (k : Nat) (a0 : List (Ty.den TPair)) (a1 : Int) (L0 : Int → Int → List (Ty.den TPair) → Option ((List (Ty.den TPair)) × Int × Unit)) (x0_0 : Int) (x0_1 : Int) (x0_2 : List (Ty.den TPair)) : Option ((List (Ty.den TPair)) × Int × Unit) :=
  (bif (decide (x0_1 < (List.length x0_2 : Int))) then
  (Option.bind (laws_markText.f k x0_0) fun r1 =>
  (inb x0_1 (List.length x0_2 : Int)
  (let l2 := (List.set x0_2 (Int.toNat x0_1) (r1.1, (List.getD x0_2 (Int.toNat x0_1) (Ty.dflt TPair)).2));
  (Option.bind (laws_markText.f k (w64 (x0_0 + 1))) fun r3 =>
  (inb x0_1 (List.length l2 : Int)
  (let l4 := (List.set l2 (Int.toNat x0_1) ((List.getD l2 (Int.toNat x0_1) (Ty.dflt TPair)).1, (r3.1, (List.getD l2 (Int.toNat x0_1) (Ty.dflt TPair)).2.2)));
  (inb x0_1 (List.length l4 : Int)
  (let l5 := (List.set l4 (Int.toNat x0_1) ((List.getD l4 (Int.toNat x0_1) (Ty.dflt TPair)).1, ((List.getD l4 (Int.toNat x0_1) (Ty.dflt TPair)).2.1, ((w64 ((w64 (x0_0 + 1)) + 1)), (List.getD l4 (Int.toNat x0_1) (Ty.dflt TPair)).2.2.2))));
  (L0 (w64 ((w64 ((w64 (x0_0 + 1)) + 1)) + 1)) (w64 (x0_1 + 1)) l5)))))))))
  else
  (some (x0_2, (x0_0, ()))))
def laws_markPairS.l0 (k : Nat) (a0 : List (Ty.den TPair)) (a1 : Int) : Nat → Int → Int → List (Ty.den TPair) → Option ((List (Ty.den TPair)) × Int × Unit)
  | 0 => fun _ _ _ => none
  | n + 1 => laws_markPairS.b0 k a0 a1 (laws_markPairS.l0 k a0 a1 n)
def laws_markPairS.t (k : Nat) (L0 : Int → Int → List (Ty.den TPair) → Option ((List (Ty.den TPair)) × Int × Unit)) (a0 : List (Ty.den TPair)) (a1 : Int) : Option ((List (Ty.den TPair)) × Int × Unit) :=
  (L0 a1 0 a0)
def laws_markPairS.f (k : Nat) (a0 : List (Ty.den TPair)) (a1 : Int) : Option ((List (Ty.den TPair)) × Int × Unit) := laws_markPairS.t k (laws_markPairS.l0 k a0 a1 k) a0 a1
def laws_heldPairS.b0 (k : Nat) (L0 : List (Ty.den TPair) → Int → Int → Option (Int × Unit)) (x0_0 : List (Ty.den TPair)) (x0_1 : Int) (x0_2 : Int) : Option (Int × Unit) :=
  (bif (decide (x0_2 < (List.length x0_0 : Int))) then
  (inb x0_2 (List.length x0_0 : Int)
  (Option.bind (laws_markText.f k x0_1) fun r1 =>
  (bif (!(seq (List.getD x0_0 (Int.toNat x0_2) (Ty.dflt TPair)).1 r1.1)) then
  (some ((-1), ()))
  else
  (inb x0_2 (List.length x0_0 : Int)
  (Option.bind (laws_markText.f k (w64 (x0_1 + 1))) fun r2 =>
  (bif (!(seq (List.getD x0_0 (Int.toNat x0_2) (Ty.dflt TPair)).2.1 r2.1)) then
  (some ((-1), ()))
  else
  (inb x0_2 (List.length x0_0 : Int)
  (bif ((List.getD x0_0 (Int.toNat x0_2) (Ty.dflt TPair)).2.2.1 != (w64 ((w64 (x0_1 + 1)) + 1))) then
  (some ((-1), ()))
  else
  (L0 x0_0 (w64 ((w64 ((w64 (x0_1 + 1)) + 1)) + 1)) (w64 (x0_2 + 1)))))))))))
  else
  (some (x0_1, ())))
def laws_heldPairS.l0 (k : Nat) : Nat → List (Ty.den TPair) → Int → Int → Option (Int × Unit)
  | 0 => fun _ _ _ => none
  | n + 1 => laws_heldPairS.b0 k (laws_heldPairS.l0 k n)
def laws_heldPairS.t (k : Nat) (L0 : List (Ty.den TPair) → Int → Int → Option (Int × Unit)) (a0 : List (Ty.den TPair)) (a1 : Int) : Option (Int × Unit) :=
  (L0 a0 a1 0)
def laws_heldPairS.f (k : Nat) (a0 : List (Ty.den TPair)) (a1 : Int) : Option (Int × Unit) := laws_heldPairS.t k (laws_heldPairS.l0 k k) a0 a1
def laws_FnExactReadPairs.t (k : Nat) (a0 : ByteArray) : Option (Bool × Unit) :=
  (bif (decide ((ByteArray.size a0 : Int) > 1048576)) then
  (some (true, ()))
  else
  (Option.bind (spec_ReadPairs.f k a0) fun r1 =>
  (Option.bind (impl_ReadPairs.f k a0) fun r2 =>
  (Option.bind (laws_eqPairS.f k r2.1 r1.1) fun r3 =>
  (bif (!r3.1) then
  (some (false, ()))
  else
  (bif (!(r2.2.1 == r1.2.1)) then
  (some (false, ()))
  else
  (Option.bind (laws_markPairS.f k r2.1 1) fun r4 =>
  (Option.bind (laws_heldPairS.f k r4.1 1) fun r5 =>
  (bif (decide (r5.1 < 0)) then
  (some (false, ()))
  else
  (bif (r5.1 != r4.2.1) then
  (some (false, ()))
  else
  (Option.bind (impl_ReadPairs.f k a0) fun r6 =>
  (Option.bind (laws_eqPairS.f k r6.1 r1.1) fun r7 =>
  (bif (!r7.1) then
  (some (false, ()))
  else
  (bif (!(r6.2.1 == r1.2.1)) then
  (some (false, ()))
  else
  (Option.bind (laws_heldPairS.f k r4.1 1) fun r8 =>
  (bif (decide (r8.1 < 0)) then
  (some (false, ()))
  else
  (bif (r8.1 != r4.2.1) then
  (some (false, ()))
  else
  (some (true, ())))))))))))))))))))
def laws_FnExactReadPairs.f (k : Nat) (a0 : ByteArray) : Option (Bool × Unit) := laws_FnExactReadPairs.t k a0
def laws_szPiece.t (k : Nat) (a0 : Ty.den TPiece) (a1 : Int) : Option (Int × Unit) :=
  (bif (decide ((w64 (a1 - (ByteArray.size a0.2.1 : Int))) < 0)) then
  (some ((-1), ()))
  else
  (some ((w64 (a1 - (ByteArray.size a0.2.1 : Int))), ())))
def laws_szPiece.f (k : Nat) (a0 : Ty.den TPiece) (a1 : Int) : Option (Int × Unit) := laws_szPiece.t k a0 a1
def laws_szPieceS.b0 (k : Nat) (L0 : List (Ty.den TPiece) → Int → Int → Option (Int × Unit)) (x0_0 : List (Ty.den TPiece)) (x0_1 : Int) (x0_2 : Int) : Option (Int × Unit) :=
  (bif (decide (x0_2 < (List.length x0_0 : Int))) then
  (inb x0_2 (List.length x0_0 : Int)
  (Option.bind (laws_szPiece.f k (List.getD x0_0 (Int.toNat x0_2) (Ty.dflt TPiece)) x0_1) fun r1 =>
  (bif (decide (r1.1 < 0)) then
  (some ((-1), ()))
  else
  (L0 x0_0 r1.1 (w64 (x0_2 + 1))))))
  else
  (some (x0_1, ())))
def laws_szPieceS.l0 (k : Nat) : Nat → List (Ty.den TPiece) → Int → Int → Option (Int × Unit)
  | 0 => fun _ _ _ => none
  | n + 1 => laws_szPieceS.b0 k (laws_szPieceS.l0 k n)
def laws_szPieceS.t (k : Nat) (L0 : List (Ty.den TPiece) → Int → Int → Option (Int × Unit)) (a0 : List (Ty.den TPiece)) (a1 : Int) : Option (Int × Unit) :=
  (bif (decide ((w64 (a1 - (List.length a0 : Int))) < 0)) then
  (some ((-1), ()))
  else
  (L0 a0 (w64 (a1 - (List.length a0 : Int))) 0))
def laws_szPieceS.f (k : Nat) (a0 : List (Ty.den TPiece)) (a1 : Int) : Option (Int × Unit) := laws_szPieceS.t k (laws_szPieceS.l0 k k) a0 a1
def laws_szFollower.t (k : Nat) (a0 : Ty.den TFollower) (a1 : Int) : Option (Int × Unit) :=
  (Option.bind (laws_szPieceS.f k a0.2.1 a1) fun r1 =>
  (bif (decide (r1.1 < 0)) then
  (some ((-1), ()))
  else
  (some r1)))
def laws_szFollower.f (k : Nat) (a0 : Ty.den TFollower) (a1 : Int) : Option (Int × Unit) := laws_szFollower.t k a0 a1
def laws_toPiece.t (k : Nat) (a0 : Ty.den TPiece) : Option ((Ty.den TPiece) × Unit) :=
  (some (a0, ()))
def laws_toPiece.f (k : Nat) (a0 : Ty.den TPiece) : Option ((Ty.den TPiece) × Unit) := laws_toPiece.t k a0
def laws_toPieceS.b0 (k : Nat) (L0 : List (Ty.den TPiece) → Int → List (Ty.den TPiece) → Option ((List (Ty.den TPiece)) × Unit)) (x0_0 : List (Ty.den TPiece)) (x0_1 : Int) (x0_2 : List (Ty.den TPiece)) : Option ((List (Ty.den TPiece)) × Unit) :=
  (bif (decide (x0_1 < (List.length x0_0 : Int))) then
  (inb x0_1 (List.length x0_0 : Int)
  (Option.bind (laws_toPiece.f k (List.getD x0_0 (Int.toNat x0_1) (Ty.dflt TPiece))) fun r1 =>
  (inb x0_1 (List.length x0_2 : Int)
  (let l2 := (List.set x0_2 (Int.toNat x0_1) r1.1);
  (L0 x0_0 (w64 (x0_1 + 1)) l2)))))
  else
  (some (x0_2, ())))
def laws_toPieceS.l0 (k : Nat) : Nat → List (Ty.den TPiece) → Int → List (Ty.den TPiece) → Option ((List (Ty.den TPiece)) × Unit)
  | 0 => fun _ _ _ => none
  | n + 1 => laws_toPieceS.b0 k (laws_toPieceS.l0 k n)
def laws_toPieceS.t (k : Nat) (L0 : List (Ty.den TPiece) → Int → List (Ty.den TPiece) → Option ((List (Ty.den TPiece)) × Unit)) (a0 : List (Ty.den TPiece)) : Option ((List (Ty.den TPiece)) × Unit) :=
  (mks (Ty.bytes TPiece) (List.length a0 : Int)
  (L0 a0 0 (List.replicate (Int.toNat (List.length a0 : Int)) (Ty.dflt TPiece))))
def laws_toPieceS.f (k : Nat) (a0 : List (Ty.den TPiece)) : Option ((List (Ty.den TPiece)) × Unit) := laws_toPieceS.t k (laws_toPieceS.l0 k k) a0
def laws_toFollower.t (k : Nat) (a0 : Ty.den TFollower) : Option ((Ty.den TFollower) × Unit) :=
  (Option.bind (laws_toPieceS.f k a0.2.1) fun r1 =>
  (some ((a0.1, r1), ())))
def laws_toFollower.f (k : Nat) (a0 : Ty.den TFollower) : Option ((Ty.den TFollower) × Unit) := laws_toFollower.t k a0
def spec_l11Places.b0 (k : Nat) (L0 : Int → Int → List (Ty.den TPlace) → List (Ty.den TSpot) → Option ((List (Ty.den TPlace)) × Unit)) (x0_0 : Int) (x0_1 : Int) (x0_2 : List (Ty.den TPlace)) (x0_3 : List (Ty.den TSpot)) : Option ((List (Ty.den TPlace)) × Unit) :=
  (bif (decide (x0_1 < (List.length x0_3 : Int))) then
  (inb x0_1 (List.length x0_3 : Int)
  (inb x0_1 (List.length x0_3 : Int)
  (inb x0_1 (List.length x0_3 : Int)
  (rm (Ty.bytes TPlace) (List.length x0_2 + 1)
  (L0 x0_0 (w64 (x0_1 + 1)) (x0_2 ++ [(x0_0, ((List.getD x0_3 (Int.toNat x0_1) (Ty.dflt TSpot)).1, ((List.getD x0_3 (Int.toNat x0_1) (Ty.dflt TSpot)).2.1, (List.getD x0_3 (Int.toNat x0_1) (Ty.dflt TSpot)).2.2)))]) x0_3)))))
  else
  (some (x0_2, ())))
def spec_l11Places.l0 (k : Nat) : Nat → Int → Int → List (Ty.den TPlace) → List (Ty.den TSpot) → Option ((List (Ty.den TPlace)) × Unit)
  | 0 => fun _ _ _ _ => none
  | n + 1 => spec_l11Places.b0 k (spec_l11Places.l0 k n)
def spec_l11Places.t (k : Nat) (L0 : Int → Int → List (Ty.den TPlace) → List (Ty.den TSpot) → Option ((List (Ty.den TPlace)) × Unit)) (a0 : Int) (a1 : ByteArray) : Option ((List (Ty.den TPlace)) × Unit) :=
  (Option.bind (spec_ScanRecs.f k a1) fun r1 =>
  (L0 a0 0 [] r1.1))
def spec_l11Places.f (k : Nat) (a0 : Int) (a1 : ByteArray) : Option ((List (Ty.den TPlace)) × Unit) := spec_l11Places.t k (spec_l11Places.l0 k k) a0 a1
def spec_l9Of.b0 (k : Nat) (L0 : List (Ty.den TPlace) → Int → Int → Int → List (Ty.den TPlace) → Option ((List (Ty.den TPlace)) × Unit)) (x0_0 : List (Ty.den TPlace)) (x0_1 : Int) (x0_2 : Int) (x0_3 : Int) (x0_4 : List (Ty.den TPlace)) : Option ((List (Ty.den TPlace)) × Unit) :=
  (bif (decide (x0_3 < x0_1)) then
  (inb x0_3 (List.length x0_0 : Int)
  (bif ((List.getD x0_0 (Int.toNat x0_3) (Ty.dflt TPlace)).2.2.2.1.2.1 == x0_2) then
  (bif ((List.getD x0_0 (Int.toNat x0_3) (Ty.dflt TPlace)).2.2.2.1.1 == 3) then
  (bif ((List.getD x0_0 (Int.toNat x0_3) (Ty.dflt TPlace)).2.2.2.1.2.1 == x0_2) then
  (bif ((List.getD x0_0 (Int.toNat x0_3) (Ty.dflt TPlace)).2.2.2.1.1 == 1) then
  (inb x0_3 (List.length x0_0 : Int)
  (rm (Ty.bytes TPlace) (0 + 1)
  (L0 x0_0 x0_1 x0_2 (w64 (x0_3 + 1)) ([] ++ [(List.getD x0_0 (Int.toNat x0_3) (Ty.dflt TPlace))]))))
  else
  (bif ((List.getD x0_0 (Int.toNat x0_3) (Ty.dflt TPlace)).2.2.2.1.1 == 2) then
  (inb x0_3 (List.length x0_0 : Int)
  (rm (Ty.bytes TPlace) (0 + 1)
  (L0 x0_0 x0_1 x0_2 (w64 (x0_3 + 1)) ([] ++ [(List.getD x0_0 (Int.toNat x0_3) (Ty.dflt TPlace))]))))
  else
  (L0 x0_0 x0_1 x0_2 (w64 (x0_3 + 1)) [])))
  else
  (L0 x0_0 x0_1 x0_2 (w64 (x0_3 + 1)) []))
  else
  (bif ((List.getD x0_0 (Int.toNat x0_3) (Ty.dflt TPlace)).2.2.2.1.2.1 == x0_2) then
  (bif ((List.getD x0_0 (Int.toNat x0_3) (Ty.dflt TPlace)).2.2.2.1.1 == 1) then
  (inb x0_3 (List.length x0_0 : Int)
  (rm (Ty.bytes TPlace) (List.length x0_4 + 1)
  (L0 x0_0 x0_1 x0_2 (w64 (x0_3 + 1)) (x0_4 ++ [(List.getD x0_0 (Int.toNat x0_3) (Ty.dflt TPlace))]))))
  else
  (bif ((List.getD x0_0 (Int.toNat x0_3) (Ty.dflt TPlace)).2.2.2.1.1 == 2) then
  (inb x0_3 (List.length x0_0 : Int)
  (rm (Ty.bytes TPlace) (List.length x0_4 + 1)
  (L0 x0_0 x0_1 x0_2 (w64 (x0_3 + 1)) (x0_4 ++ [(List.getD x0_0 (Int.toNat x0_3) (Ty.dflt TPlace))]))))
  else
  (L0 x0_0 x0_1 x0_2 (w64 (x0_3 + 1)) x0_4)))
  else
  (L0 x0_0 x0_1 x0_2 (w64 (x0_3 + 1)) x0_4)))
  else
  (bif ((List.getD x0_0 (Int.toNat x0_3) (Ty.dflt TPlace)).2.2.2.1.2.1 == x0_2) then
  (bif ((List.getD x0_0 (Int.toNat x0_3) (Ty.dflt TPlace)).2.2.2.1.1 == 1) then
  (inb x0_3 (List.length x0_0 : Int)
  (rm (Ty.bytes TPlace) (List.length x0_4 + 1)
  (L0 x0_0 x0_1 x0_2 (w64 (x0_3 + 1)) (x0_4 ++ [(List.getD x0_0 (Int.toNat x0_3) (Ty.dflt TPlace))]))))
  else
  (bif ((List.getD x0_0 (Int.toNat x0_3) (Ty.dflt TPlace)).2.2.2.1.1 == 2) then
  (inb x0_3 (List.length x0_0 : Int)
  (rm (Ty.bytes TPlace) (List.length x0_4 + 1)
  (L0 x0_0 x0_1 x0_2 (w64 (x0_3 + 1)) (x0_4 ++ [(List.getD x0_0 (Int.toNat x0_3) (Ty.dflt TPlace))]))))
  else
  (L0 x0_0 x0_1 x0_2 (w64 (x0_3 + 1)) x0_4)))
  else
  (L0 x0_0 x0_1 x0_2 (w64 (x0_3 + 1)) x0_4))))
  else
  (some (x0_4, ())))
def spec_l9Of.l0 (k : Nat) : Nat → List (Ty.den TPlace) → Int → Int → Int → List (Ty.den TPlace) → Option ((List (Ty.den TPlace)) × Unit)
  | 0 => fun _ _ _ _ _ => none
  | n + 1 => spec_l9Of.b0 k (spec_l9Of.l0 k n)
def spec_l9Of.t (k : Nat) (L0 : List (Ty.den TPlace) → Int → Int → Int → List (Ty.den TPlace) → Option ((List (Ty.den TPlace)) × Unit)) (a0 : List (Ty.den TPlace)) (a1 : Int) (a2 : Int) : Option ((List (Ty.den TPlace)) × Unit) :=
  (L0 a0 a1 a2 0 [])
def spec_l9Of.f (k : Nat) (a0 : List (Ty.den TPlace)) (a1 : Int) (a2 : Int) : Option ((List (Ty.den TPlace)) × Unit) := spec_l9Of.t k (spec_l9Of.l0 k k) a0 a1 a2
def spec_l9Recs.b0 (k : Nat) (L0 : List (Ty.den TPlace) → Int → List (Ty.den TRec) → Option ((List (Ty.den TRec)) × Unit)) (x0_0 : List (Ty.den TPlace)) (x0_1 : Int) (x0_2 : List (Ty.den TRec)) : Option ((List (Ty.den TRec)) × Unit) :=
  (bif (decide (x0_1 < (List.length x0_0 : Int))) then
  (inb x0_1 (List.length x0_0 : Int)
  (rm (Ty.bytes TRec) (List.length x0_2 + 1)
  (L0 x0_0 (w64 (x0_1 + 1)) (x0_2 ++ [(List.getD x0_0 (Int.toNat x0_1) (Ty.dflt TPlace)).2.2.2.1]))))
  else
  (some (x0_2, ())))
def spec_l9Recs.l0 (k : Nat) : Nat → List (Ty.den TPlace) → Int → List (Ty.den TRec) → Option ((List (Ty.den TRec)) × Unit)
  | 0 => fun _ _ _ => none
  | n + 1 => spec_l9Recs.b0 k (spec_l9Recs.l0 k n)
def spec_l9Recs.t (k : Nat) (L0 : List (Ty.den TPlace) → Int → List (Ty.den TRec) → Option ((List (Ty.den TRec)) × Unit)) (a0 : List (Ty.den TPlace)) : Option ((List (Ty.den TRec)) × Unit) :=
  (L0 a0 0 [])
def spec_l9Recs.f (k : Nat) (a0 : List (Ty.den TPlace)) : Option ((List (Ty.den TRec)) × Unit) := spec_l9Recs.t k (spec_l9Recs.l0 k k) a0
def spec_l9Fits.t (k : Nat) (a0 : Ty.den TRec) (a1 : List (Ty.den TPlace)) : Option (Bool × Unit) :=
  (bif (a0.2.2.2.2.1 == (List.length a1 : Int)) then
  (Option.bind (spec_l9Recs.f k a1) fun r1 =>
  (Option.bind (spec_SumOf.f k r1.1) fun r2 =>
  (some ((a0.2.2.2.2.2.1 == r2.1), ()))))
  else
  (some (false, ())))
def spec_l9Fits.f (k : Nat) (a0 : Ty.den TRec) (a1 : List (Ty.den TPlace)) : Option (Bool × Unit) := spec_l9Fits.t k a0 a1
def spec_DirDrop.b0 (k : Nat) (L0 : List (Ty.den TEntry) → ByteArray → Int → List (Ty.den TEntry) → Option ((List (Ty.den TEntry)) × Unit)) (x0_0 : List (Ty.den TEntry)) (x0_1 : ByteArray) (x0_2 : Int) (x0_3 : List (Ty.den TEntry)) : Option ((List (Ty.den TEntry)) × Unit) :=
  (bif (decide (x0_2 < (List.length x0_0 : Int))) then
  (inb x0_2 (List.length x0_0 : Int)
  (bif (!(seq (List.getD x0_0 (Int.toNat x0_2) (Ty.dflt TEntry)).1 x0_1)) then
  (inb x0_2 (List.length x0_0 : Int)
  (rm (Ty.bytes TEntry) (List.length x0_3 + 1)
  (L0 x0_0 x0_1 (w64 (x0_2 + 1)) (x0_3 ++ [(List.getD x0_0 (Int.toNat x0_2) (Ty.dflt TEntry))]))))
  else
  (L0 x0_0 x0_1 (w64 (x0_2 + 1)) x0_3)))
  else
  (some (x0_3, ())))
def spec_DirDrop.l0 (k : Nat) : Nat → List (Ty.den TEntry) → ByteArray → Int → List (Ty.den TEntry) → Option ((List (Ty.den TEntry)) × Unit)
  | 0 => fun _ _ _ _ => none
  | n + 1 => spec_DirDrop.b0 k (spec_DirDrop.l0 k n)
def spec_DirDrop.t (k : Nat) (L0 : List (Ty.den TEntry) → ByteArray → Int → List (Ty.den TEntry) → Option ((List (Ty.den TEntry)) × Unit)) (a0 : List (Ty.den TEntry)) (a1 : ByteArray) : Option ((List (Ty.den TEntry)) × Unit) :=
  (L0 a0 a1 0 [])
def spec_DirDrop.f (k : Nat) (a0 : List (Ty.den TEntry)) (a1 : ByteArray) : Option ((List (Ty.den TEntry)) × Unit) := spec_DirDrop.t k (spec_DirDrop.l0 k k) a0 a1
def spec_DirPut.b0 (k : Nat) (L0 : List (Ty.den TEntry) → Bool → Int → ByteArray → Int → Int → Int → Int → List (Ty.den TEntry) → Option ((List (Ty.den TEntry)) × Unit)) (x0_0 : List (Ty.den TEntry)) (x0_1 : Bool) (x0_2 : Int) (x0_3 : ByteArray) (x0_4 : Int) (x0_5 : Int) (x0_6 : Int) (x0_7 : Int) (x0_8 : List (Ty.den TEntry)) : Option ((List (Ty.den TEntry)) × Unit) :=
  (bif (decide (x0_2 < (List.length x0_0 : Int))) then
  (inb x0_2 (List.length x0_0 : Int)
  (bif (seq (List.getD x0_0 (Int.toNat x0_2) (Ty.dflt TEntry)).1 x0_3) then
  (L0 x0_0 x0_1 (w64 (x0_2 + 1)) x0_3 x0_4 x0_5 x0_6 x0_7 x0_8)
  else
  (bif (!x0_1) then
  (inb x0_2 (List.length x0_0 : Int)
  (bif (!((sls (List.getD x0_0 (Int.toNat x0_2) (Ty.dflt TEntry)).1 x0_3) || (seq (List.getD x0_0 (Int.toNat x0_2) (Ty.dflt TEntry)).1 x0_3))) then
  (rm (Ty.bytes TEntry) (List.length x0_8 + 1)
  (inb x0_2 (List.length x0_0 : Int)
  (rm (Ty.bytes TEntry) (List.length (x0_8 ++ [(x0_3, (x0_4, (x0_5, (x0_6, (x0_7, ())))))]) + 1)
  (L0 x0_0 true (w64 (x0_2 + 1)) x0_3 x0_4 x0_5 x0_6 x0_7 ((x0_8 ++ [(x0_3, (x0_4, (x0_5, (x0_6, (x0_7, ())))))]) ++ [(List.getD x0_0 (Int.toNat x0_2) (Ty.dflt TEntry))])))))
  else
  (inb x0_2 (List.length x0_0 : Int)
  (rm (Ty.bytes TEntry) (List.length x0_8 + 1)
  (L0 x0_0 x0_1 (w64 (x0_2 + 1)) x0_3 x0_4 x0_5 x0_6 x0_7 (x0_8 ++ [(List.getD x0_0 (Int.toNat x0_2) (Ty.dflt TEntry))]))))))
  else
  (inb x0_2 (List.length x0_0 : Int)
  (rm (Ty.bytes TEntry) (List.length x0_8 + 1)
  (L0 x0_0 x0_1 (w64 (x0_2 + 1)) x0_3 x0_4 x0_5 x0_6 x0_7 (x0_8 ++ [(List.getD x0_0 (Int.toNat x0_2) (Ty.dflt TEntry))])))))))
  else
  (bif (!x0_1) then
  (rm (Ty.bytes TEntry) (List.length x0_8 + 1)
  (some ((x0_8 ++ [(x0_3, (x0_4, (x0_5, (x0_6, (x0_7, ())))))]), ())))
  else
  (some (x0_8, ()))))
def spec_DirPut.l0 (k : Nat) : Nat → List (Ty.den TEntry) → Bool → Int → ByteArray → Int → Int → Int → Int → List (Ty.den TEntry) → Option ((List (Ty.den TEntry)) × Unit)
  | 0 => fun _ _ _ _ _ _ _ _ _ => none
  | n + 1 => spec_DirPut.b0 k (spec_DirPut.l0 k n)
def spec_DirPut.t (k : Nat) (L0 : List (Ty.den TEntry) → Bool → Int → ByteArray → Int → Int → Int → Int → List (Ty.den TEntry) → Option ((List (Ty.den TEntry)) × Unit)) (a0 : List (Ty.den TEntry)) (a1 : Ty.den TEntry) : Option ((List (Ty.den TEntry)) × Unit) :=
  (L0 a0 false 0 a1.1 a1.2.1 a1.2.2.1 a1.2.2.2.1 a1.2.2.2.2.1 [])
def spec_DirPut.f (k : Nat) (a0 : List (Ty.den TEntry)) (a1 : Ty.den TEntry) : Option ((List (Ty.den TEntry)) × Unit) := spec_DirPut.t k (spec_DirPut.l0 k k) a0 a1
def spec_l9Put.t (k : Nat) (a0 : List (Ty.den TEntry)) (a1 : Ty.den TPlace) : Option ((List (Ty.den TEntry)) × Unit) :=
  (bif (a1.2.2.2.1.1 == 2) then
  (Option.bind (spec_DirDrop.f k a0 a1.2.2.2.1.2.2.1) fun r1 =>
  (some r1))
  else
  (Option.bind (spec_DirPut.f k a0 (a1.2.2.2.1.2.2.1, (a1.1, (a1.2.1, (a1.2.2.1, (a1.2.2.2.1.2.1, ())))))) fun r2 =>
  (some r2)))
def spec_l9Put.f (k : Nat) (a0 : List (Ty.den TEntry)) (a1 : Ty.den TPlace) : Option ((List (Ty.den TEntry)) × Unit) := spec_l9Put.t k a0 a1
def spec_l9Kept.b0 (k : Nat) (L0 : List (Ty.den TPlace) → Int → Int → List (Ty.den TPlace) → Option ((List (Ty.den TPlace)) × Unit)) (x0_0 : List (Ty.den TPlace)) (x0_1 : Int) (x0_2 : Int) (x0_3 : List (Ty.den TPlace)) : Option ((List (Ty.den TPlace)) × Unit) :=
  (bif (decide (x0_2 < x0_1)) then
  (inb x0_2 (List.length x0_0 : Int)
  (bif ((List.getD x0_0 (Int.toNat x0_2) (Ty.dflt TPlace)).2.2.2.1.1 == 5) then
  (inb x0_2 (List.length x0_0 : Int)
  (bif ((List.getD x0_0 (Int.toNat x0_2) (Ty.dflt TPlace)).2.2.2.1.1 == 4) then
  (inb x0_2 (List.length x0_0 : Int)
  (rm (Ty.bytes TPlace) (0 + 1)
  (L0 x0_0 x0_1 (w64 (x0_2 + 1)) ([] ++ [(List.getD x0_0 (Int.toNat x0_2) (Ty.dflt TPlace))]))))
  else
  (L0 x0_0 x0_1 (w64 (x0_2 + 1)) [])))
  else
  (inb x0_2 (List.length x0_0 : Int)
  (bif ((List.getD x0_0 (Int.toNat x0_2) (Ty.dflt TPlace)).2.2.2.1.1 == 4) then
  (inb x0_2 (List.length x0_0 : Int)
  (rm (Ty.bytes TPlace) (List.length x0_3 + 1)
  (L0 x0_0 x0_1 (w64 (x0_2 + 1)) (x0_3 ++ [(List.getD x0_0 (Int.toNat x0_2) (Ty.dflt TPlace))]))))
  else
  (L0 x0_0 x0_1 (w64 (x0_2 + 1)) x0_3)))))
  else
  (some (x0_3, ())))
def spec_l9Kept.l0 (k : Nat) : Nat → List (Ty.den TPlace) → Int → Int → List (Ty.den TPlace) → Option ((List (Ty.den TPlace)) × Unit)
  | 0 => fun _ _ _ _ => none
  | n + 1 => spec_l9Kept.b0 k (spec_l9Kept.l0 k n)
def spec_l9Kept.t (k : Nat) (L0 : List (Ty.den TPlace) → Int → Int → List (Ty.den TPlace) → Option ((List (Ty.den TPlace)) × Unit)) (a0 : List (Ty.den TPlace)) (a1 : Int) : Option ((List (Ty.den TPlace)) × Unit) :=
  (L0 a0 a1 0 [])
def spec_l9Kept.f (k : Nat) (a0 : List (Ty.den TPlace)) (a1 : Int) : Option ((List (Ty.den TPlace)) × Unit) := spec_l9Kept.t k (spec_l9Kept.l0 k k) a0 a1
def spec_Regroup.b1 (k : Nat) (L0 : List (Ty.den TPlace) → Int → List (Ty.den TEntry) → Int → Int → List (Ty.den TEntry) → Int → Int → Option ((Ty.den TGroup) × Unit)) (L1 : List (Ty.den TPlace) → Int → Int → List (Ty.den TEntry) → Int → Int → List (Ty.den TEntry) → Int → Int → List (Ty.den TPlace) → Option ((Ty.den TGroup) × Unit)) (x1_0 : List (Ty.den TPlace)) (x1_1 : Int) (x1_2 : Int) (x1_3 : List (Ty.den TEntry)) (x1_4 : Int) (x1_5 : Int) (x1_6 : List (Ty.den TEntry)) (x1_7 : Int) (x1_8 : Int) (x1_9 : List (Ty.den TPlace)) : Option ((Ty.den TGroup) × Unit) :=
  (bif (decide (x1_2 < (List.length x1_9 : Int))) then
  (inb x1_2 (List.length x1_9 : Int)
  (Option.bind (spec_l9Put.f k x1_6 (List.getD x1_9 (Int.toNat x1_2) (Ty.dflt TPlace))) fun r3 =>
  (L1 x1_0 x1_1 (w64 (x1_2 + 1)) x1_3 x1_4 x1_5 r3.1 x1_7 x1_8 x1_9)))
  else
  (bif (decide ((List.length x1_6 : Int) > 20)) then
  (L0 x1_0 (w64 (x1_1 + 1)) x1_3 x1_4 x1_5 x1_6 x1_7 2)
  else
  (L0 x1_0 (w64 (x1_1 + 1)) x1_3 x1_4 x1_5 x1_6 x1_7 x1_8)))
def spec_Regroup.l1 (k : Nat) (L0 : List (Ty.den TPlace) → Int → List (Ty.den TEntry) → Int → Int → List (Ty.den TEntry) → Int → Int → Option ((Ty.den TGroup) × Unit)) : Nat → List (Ty.den TPlace) → Int → Int → List (Ty.den TEntry) → Int → Int → List (Ty.den TEntry) → Int → Int → List (Ty.den TPlace) → Option ((Ty.den TGroup) × Unit)
  | 0 => fun _ _ _ _ _ _ _ _ _ _ => none
  | n + 1 => spec_Regroup.b1 k L0 (spec_Regroup.l1 k L0 n)
def spec_Regroup.b0 (k : Nat) (L1 : List (Ty.den TPlace) → Int → Int → List (Ty.den TEntry) → Int → Int → List (Ty.den TEntry) → Int → Int → List (Ty.den TPlace) → Option ((Ty.den TGroup) × Unit)) (L0 : List (Ty.den TPlace) → Int → List (Ty.den TEntry) → Int → Int → List (Ty.den TEntry) → Int → Int → Option ((Ty.den TGroup) × Unit)) (x0_0 : List (Ty.den TPlace)) (x0_1 : Int) (x0_2 : List (Ty.den TEntry)) (x0_3 : Int) (x0_4 : Int) (x0_5 : List (Ty.den TEntry)) (x0_6 : Int) (x0_7 : Int) : Option ((Ty.den TGroup) × Unit) :=
  (bif (decide (x0_1 < (List.length x0_0 : Int))) then
  (bif (x0_7 == 0) then
  (inb x0_1 (List.length x0_0 : Int)
  (bif ((List.getD x0_0 (Int.toNat x0_1) (Ty.dflt TPlace)).2.2.2.1.1 == 3) then
  (Option.bind (spec_l9Of.f k x0_0 x0_1 (List.getD x0_0 (Int.toNat x0_1) (Ty.dflt TPlace)).2.2.2.1.2.1) fun r1 =>
  (Option.bind (spec_l9Fits.f k (List.getD x0_0 (Int.toNat x0_1) (Ty.dflt TPlace)).2.2.2.1 r1.1) fun r2 =>
  (bif (!r2.1) then
  (L0 x0_0 (w64 (x0_1 + 1)) x0_2 x0_3 x0_4 x0_5 (if (List.getD x0_0 (Int.toNat x0_1) (Ty.dflt TPlace)).2.2.2.1.2.1 > x0_6 then (List.getD x0_0 (Int.toNat x0_1) (Ty.dflt TPlace)).2.2.2.1.2.1 else x0_6) x0_7)
  else
  (L1 x0_0 x0_1 0 x0_2 x0_3 x0_4 x0_5 (if (List.getD x0_0 (Int.toNat x0_1) (Ty.dflt TPlace)).2.2.2.1.2.1 > x0_6 then (List.getD x0_0 (Int.toNat x0_1) (Ty.dflt TPlace)).2.2.2.1.2.1 else x0_6) x0_7 r1.1))))
  else
  (bif ((List.getD x0_0 (Int.toNat x0_1) (Ty.dflt TPlace)).2.2.2.1.1 == 5) then
  (Option.bind (spec_l9Kept.f k x0_0 x0_1) fun r4 =>
  (Option.bind (spec_l9Fits.f k (List.getD x0_0 (Int.toNat x0_1) (Ty.dflt TPlace)).2.2.2.1 r4.1) fun r5 =>
  (bif (!r5.1) then
  (L0 x0_0 (w64 (x0_1 + 1)) x0_2 x0_3 x0_4 x0_5 (if (List.getD x0_0 (Int.toNat x0_1) (Ty.dflt TPlace)).2.2.2.1.2.1 > x0_6 then (List.getD x0_0 (Int.toNat x0_1) (Ty.dflt TPlace)).2.2.2.1.2.1 else x0_6) 1)
  else
  (L1 x0_0 x0_1 0 x0_2 x0_3 x0_4 x0_5 (if (List.getD x0_0 (Int.toNat x0_1) (Ty.dflt TPlace)).2.2.2.1.2.1 > x0_6 then (List.getD x0_0 (Int.toNat x0_1) (Ty.dflt TPlace)).2.2.2.1.2.1 else x0_6) x0_7 r4.1))))
  else
  (L0 x0_0 (w64 (x0_1 + 1)) x0_2 x0_3 x0_4 x0_5 (if (List.getD x0_0 (Int.toNat x0_1) (Ty.dflt TPlace)).2.2.2.1.2.1 > x0_6 then (List.getD x0_0 (Int.toNat x0_1) (Ty.dflt TPlace)).2.2.2.1.2.1 else x0_6) x0_7))))
  else
  (bif (x0_7 == 0) then
  (Option.bind (spec_l9Kept.f k x0_0 (List.length x0_0 : Int)) fun r6 =>
  (bif (decide ((List.length r6.1 : Int) > 0)) then
  (some ((x0_5, (x0_6, (1, ()))), ()))
  else
  (some ((x0_5, (x0_6, (x0_7, ()))), ()))))
  else
  (some ((x0_5, (x0_6, (x0_7, ()))), ()))))
  else
  (bif (x0_7 == 0) then
  (Option.bind (spec_l9Kept.f k x0_0 (List.length x0_0 : Int)) fun r7 =>
  (bif (decide ((List.length r7.1 : Int) > 0)) then
  (some ((x0_5, (x0_6, (1, ()))), ()))
  else
  (some ((x0_5, (x0_6, (x0_7, ()))), ()))))
  else
  (some ((x0_5, (x0_6, (x0_7, ()))), ()))))
def spec_Regroup.l0 (k : Nat) : Nat → List (Ty.den TPlace) → Int → List (Ty.den TEntry) → Int → Int → List (Ty.den TEntry) → Int → Int → Option ((Ty.den TGroup) × Unit)
  | 0 => fun _ _ _ _ _ _ _ _ => none
  | n + 1 => spec_Regroup.b0 k (spec_Regroup.l1 k (spec_Regroup.l0 k n) k) (spec_Regroup.l0 k n)
def spec_Regroup.t (k : Nat) (L0 : List (Ty.den TPlace) → Int → List (Ty.den TEntry) → Int → Int → List (Ty.den TEntry) → Int → Int → Option ((Ty.den TGroup) × Unit)) (a0 : Ty.den TGroup) (a1 : List (Ty.den TPlace)) : Option ((Ty.den TGroup) × Unit) :=
  (rm (Ty.bytes TEntry) (0 + List.length a0.1)
  (L0 a1 0 [] 0 0 ([] ++ a0.1) a0.2.1 a0.2.2.1))
def spec_Regroup.f (k : Nat) (a0 : Ty.den TGroup) (a1 : List (Ty.den TPlace)) : Option ((Ty.den TGroup) × Unit) := spec_Regroup.t k (spec_Regroup.l0 k k) a0 a1
def spec_l27Text.b0 (k : Nat) (L0 : Int → Int → Int → List (Ty.den TPiece) → Option (ByteArray × Unit)) (x0_0 : Int) (x0_1 : Int) (x0_2 : Int) (x0_3 : List (Ty.den TPiece)) : Option (ByteArray × Unit) :=
  (bif (decide (x0_1 < (List.length x0_3 : Int))) then
  (inb x0_1 (List.length x0_3 : Int)
  (bif ((List.getD x0_3 (Int.toNat x0_1) (Ty.dflt TPiece)).1 == x0_0) then
  (inb x0_1 (List.length x0_3 : Int)
  (some (List.getD x0_3 (Int.toNat x0_1) (Ty.dflt TPiece)).2))
  else
  (L0 x0_0 (w64 (x0_1 + 1)) x0_2 x0_3)))
  else
  (some ((⟨#[]⟩ : ByteArray), ())))
def spec_l27Text.l0 (k : Nat) : Nat → Int → Int → Int → List (Ty.den TPiece) → Option (ByteArray × Unit)
  | 0 => fun _ _ _ _ => none
  | n + 1 => spec_l27Text.b0 k (spec_l27Text.l0 k n)
def spec_l27Text.t (k : Nat) (L0 : Int → Int → Int → List (Ty.den TPiece) → Option (ByteArray × Unit)) (a0 : Ty.den TFollower) (a1 : Int) : Option (ByteArray × Unit) :=
  (L0 a1 0 a0.1 a0.2.1)
def spec_l27Text.f (k : Nat) (a0 : Ty.den TFollower) (a1 : Int) : Option (ByteArray × Unit) := spec_l27Text.t k (spec_l27Text.l0 k k) a0 a1
def spec_RecAt.t (k : Nat) (a0 : ByteArray) (a1 : Int) (a2 : Int) : Option ((Ty.den TRec) × Bool × Unit) :=
  (Option.bind (spec_l1In.f k a1 0 (ByteArray.size a0 : Int)) fun r1 =>
  (bif (!r1.1) then
  (some ((0, (0, (ByteArray.empty, (ByteArray.empty, (0, (0, ())))))), (false, ())))
  else
  (Option.bind (spec_l1In.f k a2 1 (w64 ((ByteArray.size a0 : Int) - a1))) fun r2 =>
  (bif (!r2.1) then
  (some ((0, (0, (ByteArray.empty, (ByteArray.empty, (0, (0, ())))))), (false, ())))
  else
  (inc2 a1 (w64 (a1 + a2)) (ByteArray.size a0 : Int)
  (Option.bind (spec_Unframe.f k (ByteArray.extract a0 (Int.toNat a1) (Int.toNat (w64 (a1 + a2))))) fun r3 =>
  (Option.bind (spec_ReadRec.f k r3.1) fun r4 =>
  (bif (r3.2.1 != a2) then
  (some ((0, (0, (ByteArray.empty, (ByteArray.empty, (0, (0, ())))))), (false, ())))
  else
  (bif (!r4.2.1) then
  (some ((0, (0, (ByteArray.empty, (ByteArray.empty, (0, (0, ())))))), (false, ())))
  else
  (some (r4.1, (true, ()))))))))))))
def spec_RecAt.f (k : Nat) (a0 : ByteArray) (a1 : Int) (a2 : Int) : Option ((Ty.den TRec) × Bool × Unit) := spec_RecAt.t k a0 a1 a2
def spec_FollowMap.b1 (k : Nat) (L1 : Int → Int → List (Ty.den TPiece) → List (Ty.den TPair) → List (Ty.den TEntry) → Int → Int → List (Ty.den TPair) → Option ((List (Ty.den TPair)) × Bool × Unit)) (x1_0 : Int) (x1_1 : Int) (x1_2 : List (Ty.den TPiece)) (x1_3 : List (Ty.den TPair)) (x1_4 : List (Ty.den TEntry)) (x1_5 : Int) (x1_6 : Int) (x1_7 : List (Ty.den TPair)) : Option ((List (Ty.den TPair)) × Bool × Unit) :=
  (bif (decide (x1_0 < (List.length x1_4 : Int))) then
  (inb x1_0 (List.length x1_4 : Int)
  (Option.bind (spec_l27Text.f k (x1_1, (x1_2, ())) (List.getD x1_4 (Int.toNat x1_0) (Ty.dflt TEntry)).2.1) fun r4 =>
  (inb x1_0 (List.length x1_4 : Int)
  (inb x1_0 (List.length x1_4 : Int)
  (Option.bind (spec_RecAt.f k r4.1 (List.getD x1_4 (Int.toNat x1_0) (Ty.dflt TEntry)).2.2.1 (List.getD x1_4 (Int.toNat x1_0) (Ty.dflt TEntry)).2.2.2.1) fun r5 =>
  (bif (!r5.2.1) then
  (some (x1_3, (false, ())))
  else
  (rm (Ty.bytes TPair) (List.length x1_7 + 1)
  (L1 (w64 (x1_0 + 1)) x1_1 x1_2 x1_3 x1_4 x1_5 x1_6 (x1_7 ++ [(r5.1.2.2.1, (r5.1.2.2.2.1, (r5.1.2.1, ())))])))))))))
  else
  (some (x1_7, (true, ()))))
def spec_FollowMap.l1 (k : Nat) : Nat → Int → Int → List (Ty.den TPiece) → List (Ty.den TPair) → List (Ty.den TEntry) → Int → Int → List (Ty.den TPair) → Option ((List (Ty.den TPair)) × Bool × Unit)
  | 0 => fun _ _ _ _ _ _ _ _ => none
  | n + 1 => spec_FollowMap.b1 k (spec_FollowMap.l1 k n)
def spec_FollowMap.b0 (k : Nat) (L1 : Int → Int → List (Ty.den TPiece) → List (Ty.den TPair) → List (Ty.den TEntry) → Int → Int → List (Ty.den TPair) → Option ((List (Ty.den TPair)) × Bool × Unit)) (L0 : Int → Int → List (Ty.den TPiece) → List (Ty.den TPair) → List (Ty.den TPlace) → Option ((List (Ty.den TPair)) × Bool × Unit)) (x0_0 : Int) (x0_1 : Int) (x0_2 : List (Ty.den TPiece)) (x0_3 : List (Ty.den TPair)) (x0_4 : List (Ty.den TPlace)) : Option ((List (Ty.den TPair)) × Bool × Unit) :=
  (bif (decide (x0_0 < (List.length x0_2 : Int))) then
  (inb x0_0 (List.length x0_2 : Int)
  (Option.bind (spec_ScanRecs.f k (List.getD x0_2 (Int.toNat x0_0) (Ty.dflt TPiece)).2.1) fun r1 =>
  (inb x0_0 (List.length x0_2 : Int)
  (bif (decide (r1.2.1 < (ByteArray.size (List.getD x0_2 (Int.toNat x0_0) (Ty.dflt TPiece)).2.1 : Int))) then
  (some (x0_3, (false, ())))
  else
  (inb x0_0 (List.length x0_2 : Int)
  (inb x0_0 (List.length x0_2 : Int)
  (Option.bind (spec_l11Places.f k (List.getD x0_2 (Int.toNat x0_0) (Ty.dflt TPiece)).1 (List.getD x0_2 (Int.toNat x0_0) (Ty.dflt TPiece)).2.1) fun r2 =>
  (rm (Ty.bytes TPlace) (List.length x0_4 + List.length r2.1)
  (L0 (w64 (x0_0 + 1)) x0_1 x0_2 x0_3 (x0_4 ++ r2.1))))))))))
  else
  (Option.bind (spec_Regroup.f k ([], (0, (0, ()))) x0_4) fun r3 =>
  (bif (r3.1.2.2.1 != 0) then
  (some (x0_3, (false, ())))
  else
  (L1 0 x0_1 x0_2 x0_3 r3.1.1 r3.1.2.1 r3.1.2.2.1 []))))
def spec_FollowMap.l0 (k : Nat) : Nat → Int → Int → List (Ty.den TPiece) → List (Ty.den TPair) → List (Ty.den TPlace) → Option ((List (Ty.den TPair)) × Bool × Unit)
  | 0 => fun _ _ _ _ _ => none
  | n + 1 => spec_FollowMap.b0 k (spec_FollowMap.l1 k k) (spec_FollowMap.l0 k n)
def spec_FollowMap.t (k : Nat) (L0 : Int → Int → List (Ty.den TPiece) → List (Ty.den TPair) → List (Ty.den TPlace) → Option ((List (Ty.den TPair)) × Bool × Unit)) (a0 : Ty.den TFollower) : Option ((List (Ty.den TPair)) × Bool × Unit) :=
  (L0 0 a0.1 a0.2.1 [] [])
def spec_FollowMap.f (k : Nat) (a0 : Ty.den TFollower) : Option ((List (Ty.den TPair)) × Bool × Unit) := spec_FollowMap.t k (spec_FollowMap.l0 k k) a0
def impl_placed.b0 (k : Nat) (L0 : Int → List (Ty.den TSpot) → Int → Int → List (Ty.den TPlace) → Option ((List (Ty.den TPlace)) × Unit)) (x0_0 : Int) (x0_1 : List (Ty.den TSpot)) (x0_2 : Int) (x0_3 : Int) (x0_4 : List (Ty.den TPlace)) : Option ((List (Ty.den TPlace)) × Unit) :=
  (bif (decide (x0_3 < x0_2)) then
  (inb x0_3 (List.length x0_1 : Int)
  (rm (Ty.bytes TPlace) (List.length x0_4 + 1)
  (L0 x0_0 x0_1 x0_2 (w64 (x0_3 + 1)) (x0_4 ++ [(x0_0, (List.getD x0_1 (Int.toNat x0_3) (Ty.dflt TSpot)))]))))
  else
  (some (x0_4, ())))
def impl_placed.l0 (k : Nat) : Nat → Int → List (Ty.den TSpot) → Int → Int → List (Ty.den TPlace) → Option ((List (Ty.den TPlace)) × Unit)
  | 0 => fun _ _ _ _ _ => none
  | n + 1 => impl_placed.b0 k (impl_placed.l0 k n)
def impl_placed.t (k : Nat) (L0 : Int → List (Ty.den TSpot) → Int → Int → List (Ty.den TPlace) → Option ((List (Ty.den TPlace)) × Unit)) (a0 : Int) (a1 : List (Ty.den TSpot)) : Option ((List (Ty.den TPlace)) × Unit) :=
  (L0 a0 a1 (List.length a1 : Int) 0 [])
def impl_placed.f (k : Nat) (a0 : Int) (a1 : List (Ty.den TSpot)) : Option ((List (Ty.den TPlace)) × Unit) := impl_placed.t k (impl_placed.l0 k k) a0 a1
def impl_copyDir.t (k : Nat) (a0 : List (Ty.den TEntry)) : Option ((List (Ty.den TEntry)) × Unit) :=
  (rm (Ty.bytes TEntry) (List.length a0)
  (some (a0, ())))
def impl_copyDir.f (k : Nat) (a0 : List (Ty.den TEntry)) : Option ((List (Ty.den TEntry)) × Unit) := impl_copyDir.t k a0
def impl_ownOf.b0 (k : Nat) (L0 : List (Ty.den TPlace) → Int → Int → Int → Int → ByteArray → ByteArray → Int → Int → List (Ty.den TPlace) → Option ((List (Ty.den TPlace)) × Unit)) (x0_0 : List (Ty.den TPlace)) (x0_1 : Int) (x0_2 : Int) (x0_3 : Int) (x0_4 : Int) (x0_5 : ByteArray) (x0_6 : ByteArray) (x0_7 : Int) (x0_8 : Int) (x0_9 : List (Ty.den TPlace)) : Option ((List (Ty.den TPlace)) × Unit) :=
  (bif (decide (x0_2 < x0_1)) then
  (inb x0_2 (List.length x0_0 : Int)
  (bif (x0_3 == 3) then
  (bif ((List.getD x0_0 (Int.toNat x0_2) (Ty.dflt TPlace)).2.2.2.1.2.1 != x0_4) then
  (L0 x0_0 x0_1 (w64 (x0_2 + 1)) x0_3 x0_4 x0_5 x0_6 x0_7 x0_8 x0_9)
  else
  (bif ((List.getD x0_0 (Int.toNat x0_2) (Ty.dflt TPlace)).2.2.2.1.1 == x0_3) then
  (L0 x0_0 x0_1 (w64 (x0_2 + 1)) x0_3 x0_4 x0_5 x0_6 x0_7 x0_8 [])
  else
  (bif (x0_3 == 3) then
  (bif ((List.getD x0_0 (Int.toNat x0_2) (Ty.dflt TPlace)).2.2.2.1.1 == 1) then
  (rm (Ty.bytes TPlace) (List.length x0_9 + 1)
  (L0 x0_0 x0_1 (w64 (x0_2 + 1)) x0_3 x0_4 x0_5 x0_6 x0_7 x0_8 (x0_9 ++ [(List.getD x0_0 (Int.toNat x0_2) (Ty.dflt TPlace))])))
  else
  (bif ((List.getD x0_0 (Int.toNat x0_2) (Ty.dflt TPlace)).2.2.2.1.1 == 2) then
  (bif ((List.getD x0_0 (Int.toNat x0_2) (Ty.dflt TPlace)).2.2.2.1.1 == 2) then
  (rm (Ty.bytes TPlace) (List.length x0_9 + 1)
  (L0 x0_0 x0_1 (w64 (x0_2 + 1)) x0_3 x0_4 x0_5 x0_6 x0_7 x0_8 (x0_9 ++ [(List.getD x0_0 (Int.toNat x0_2) (Ty.dflt TPlace))])))
  else
  (L0 x0_0 x0_1 (w64 (x0_2 + 1)) x0_3 x0_4 x0_5 x0_6 x0_7 x0_8 x0_9))
  else
  (bif (x0_3 == 5) then
  (bif ((List.getD x0_0 (Int.toNat x0_2) (Ty.dflt TPlace)).2.2.2.1.1 == 4) then
  (rm (Ty.bytes TPlace) (List.length x0_9 + 1)
  (L0 x0_0 x0_1 (w64 (x0_2 + 1)) x0_3 x0_4 x0_5 x0_6 x0_7 x0_8 (x0_9 ++ [(List.getD x0_0 (Int.toNat x0_2) (Ty.dflt TPlace))])))
  else
  (L0 x0_0 x0_1 (w64 (x0_2 + 1)) x0_3 x0_4 x0_5 x0_6 x0_7 x0_8 x0_9))
  else
  (L0 x0_0 x0_1 (w64 (x0_2 + 1)) x0_3 x0_4 x0_5 x0_6 x0_7 x0_8 x0_9))))
  else
  (bif (x0_3 == 5) then
  (bif ((List.getD x0_0 (Int.toNat x0_2) (Ty.dflt TPlace)).2.2.2.1.1 == 4) then
  (rm (Ty.bytes TPlace) (List.length x0_9 + 1)
  (L0 x0_0 x0_1 (w64 (x0_2 + 1)) x0_3 x0_4 x0_5 x0_6 x0_7 x0_8 (x0_9 ++ [(List.getD x0_0 (Int.toNat x0_2) (Ty.dflt TPlace))])))
  else
  (L0 x0_0 x0_1 (w64 (x0_2 + 1)) x0_3 x0_4 x0_5 x0_6 x0_7 x0_8 x0_9))
  else
  (L0 x0_0 x0_1 (w64 (x0_2 + 1)) x0_3 x0_4 x0_5 x0_6 x0_7 x0_8 x0_9)))))
  else
  (bif ((List.getD x0_0 (Int.toNat x0_2) (Ty.dflt TPlace)).2.2.2.1.1 == x0_3) then
  (L0 x0_0 x0_1 (w64 (x0_2 + 1)) x0_3 x0_4 x0_5 x0_6 x0_7 x0_8 [])
  else
  (bif (x0_3 == 3) then
  (bif ((List.getD x0_0 (Int.toNat x0_2) (Ty.dflt TPlace)).2.2.2.1.1 == 1) then
  (rm (Ty.bytes TPlace) (List.length x0_9 + 1)
  (L0 x0_0 x0_1 (w64 (x0_2 + 1)) x0_3 x0_4 x0_5 x0_6 x0_7 x0_8 (x0_9 ++ [(List.getD x0_0 (Int.toNat x0_2) (Ty.dflt TPlace))])))
  else
  (bif ((List.getD x0_0 (Int.toNat x0_2) (Ty.dflt TPlace)).2.2.2.1.1 == 2) then
  (bif ((List.getD x0_0 (Int.toNat x0_2) (Ty.dflt TPlace)).2.2.2.1.1 == 2) then
  (rm (Ty.bytes TPlace) (List.length x0_9 + 1)
  (L0 x0_0 x0_1 (w64 (x0_2 + 1)) x0_3 x0_4 x0_5 x0_6 x0_7 x0_8 (x0_9 ++ [(List.getD x0_0 (Int.toNat x0_2) (Ty.dflt TPlace))])))
  else
  (L0 x0_0 x0_1 (w64 (x0_2 + 1)) x0_3 x0_4 x0_5 x0_6 x0_7 x0_8 x0_9))
  else
  (bif (x0_3 == 5) then
  (bif ((List.getD x0_0 (Int.toNat x0_2) (Ty.dflt TPlace)).2.2.2.1.1 == 4) then
  (rm (Ty.bytes TPlace) (List.length x0_9 + 1)
  (L0 x0_0 x0_1 (w64 (x0_2 + 1)) x0_3 x0_4 x0_5 x0_6 x0_7 x0_8 (x0_9 ++ [(List.getD x0_0 (Int.toNat x0_2) (Ty.dflt TPlace))])))
  else
  (L0 x0_0 x0_1 (w64 (x0_2 + 1)) x0_3 x0_4 x0_5 x0_6 x0_7 x0_8 x0_9))
  else
  (L0 x0_0 x0_1 (w64 (x0_2 + 1)) x0_3 x0_4 x0_5 x0_6 x0_7 x0_8 x0_9))))
  else
  (bif (x0_3 == 5) then
  (bif ((List.getD x0_0 (Int.toNat x0_2) (Ty.dflt TPlace)).2.2.2.1.1 == 4) then
  (rm (Ty.bytes TPlace) (List.length x0_9 + 1)
  (L0 x0_0 x0_1 (w64 (x0_2 + 1)) x0_3 x0_4 x0_5 x0_6 x0_7 x0_8 (x0_9 ++ [(List.getD x0_0 (Int.toNat x0_2) (Ty.dflt TPlace))])))
  else
  (L0 x0_0 x0_1 (w64 (x0_2 + 1)) x0_3 x0_4 x0_5 x0_6 x0_7 x0_8 x0_9))
  else
  (L0 x0_0 x0_1 (w64 (x0_2 + 1)) x0_3 x0_4 x0_5 x0_6 x0_7 x0_8 x0_9))))))
  else
  (some (x0_9, ())))
def impl_ownOf.l0 (k : Nat) : Nat → List (Ty.den TPlace) → Int → Int → Int → Int → ByteArray → ByteArray → Int → Int → List (Ty.den TPlace) → Option ((List (Ty.den TPlace)) × Unit)
  | 0 => fun _ _ _ _ _ _ _ _ _ _ => none
  | n + 1 => impl_ownOf.b0 k (impl_ownOf.l0 k n)
def impl_ownOf.t (k : Nat) (L0 : List (Ty.den TPlace) → Int → Int → Int → Int → ByteArray → ByteArray → Int → Int → List (Ty.den TPlace) → Option ((List (Ty.den TPlace)) × Unit)) (a0 : List (Ty.den TPlace)) (a1 : Ty.den TRec) : Option ((List (Ty.den TPlace)) × Unit) :=
  (L0 a0 (List.length a0 : Int) 0 a1.1 a1.2.1 a1.2.2.1 a1.2.2.2.1 a1.2.2.2.2.1 a1.2.2.2.2.2.1 [])
def impl_ownOf.f (k : Nat) (a0 : List (Ty.den TPlace)) (a1 : Ty.den TRec) : Option ((List (Ty.den TPlace)) × Unit) := impl_ownOf.t k (impl_ownOf.l0 k k) a0 a1
def impl_fits.b0 (k : Nat) (L0 : List (Ty.den TPlace) → Int → Int → Int → Int → ByteArray → ByteArray → Int → Int → List (Ty.den TRec) → Option (Bool × Unit)) (x0_0 : List (Ty.den TPlace)) (x0_1 : Int) (x0_2 : Int) (x0_3 : Int) (x0_4 : Int) (x0_5 : ByteArray) (x0_6 : ByteArray) (x0_7 : Int) (x0_8 : Int) (x0_9 : List (Ty.den TRec)) : Option (Bool × Unit) :=
  (bif (decide (x0_2 < x0_1)) then
  (inb x0_2 (List.length x0_0 : Int)
  (rm (Ty.bytes TRec) (List.length x0_9 + 1)
  (L0 x0_0 x0_1 (w64 (x0_2 + 1)) x0_3 x0_4 x0_5 x0_6 x0_7 x0_8 (x0_9 ++ [(List.getD x0_0 (Int.toNat x0_2) (Ty.dflt TPlace)).2.2.2.1]))))
  else
  (bif (x0_7 == (List.length x0_9 : Int)) then
  (Option.bind (impl_SumOf.f k x0_9) fun r1 =>
  (some ((x0_8 == r1.1), ())))
  else
  (some (false, ()))))
def impl_fits.l0 (k : Nat) : Nat → List (Ty.den TPlace) → Int → Int → Int → Int → ByteArray → ByteArray → Int → Int → List (Ty.den TRec) → Option (Bool × Unit)
  | 0 => fun _ _ _ _ _ _ _ _ _ _ => none
  | n + 1 => impl_fits.b0 k (impl_fits.l0 k n)
def impl_fits.t (k : Nat) (L0 : List (Ty.den TPlace) → Int → Int → Int → Int → ByteArray → ByteArray → Int → Int → List (Ty.den TRec) → Option (Bool × Unit)) (a0 : Ty.den TRec) (a1 : List (Ty.den TPlace)) : Option (Bool × Unit) :=
  (L0 a1 (List.length a1 : Int) 0 a0.1 a0.2.1 a0.2.2.1 a0.2.2.2.1 a0.2.2.2.2.1 a0.2.2.2.2.2.1 [])
def impl_fits.f (k : Nat) (a0 : Ty.den TRec) (a1 : List (Ty.den TPlace)) : Option (Bool × Unit) := impl_fits.t k (impl_fits.l0 k k) a0 a1
def impl_DirDrop.b0 (k : Nat) (L0 : ByteArray → List (Ty.den TEntry) → Int → Int → List (Ty.den TEntry) → Option ((List (Ty.den TEntry)) × Unit)) (x0_0 : ByteArray) (x0_1 : List (Ty.den TEntry)) (x0_2 : Int) (x0_3 : Int) (x0_4 : List (Ty.den TEntry)) : Option ((List (Ty.den TEntry)) × Unit) :=
  (bif (decide (x0_3 < x0_2)) then
  (inb x0_3 (List.length x0_1 : Int)
  (bif (!(seq (List.getD x0_1 (Int.toNat x0_3) (Ty.dflt TEntry)).1 x0_0)) then
  (rm (Ty.bytes TEntry) (List.length x0_4 + 1)
  (L0 x0_0 x0_1 x0_2 (w64 (x0_3 + 1)) (x0_4 ++ [(List.getD x0_1 (Int.toNat x0_3) (Ty.dflt TEntry))])))
  else
  (L0 x0_0 x0_1 x0_2 (w64 (x0_3 + 1)) x0_4)))
  else
  (some (x0_4, ())))
def impl_DirDrop.l0 (k : Nat) : Nat → ByteArray → List (Ty.den TEntry) → Int → Int → List (Ty.den TEntry) → Option ((List (Ty.den TEntry)) × Unit)
  | 0 => fun _ _ _ _ _ => none
  | n + 1 => impl_DirDrop.b0 k (impl_DirDrop.l0 k n)
def impl_DirDrop.t (k : Nat) (L0 : ByteArray → List (Ty.den TEntry) → Int → Int → List (Ty.den TEntry) → Option ((List (Ty.den TEntry)) × Unit)) (a0 : List (Ty.den TEntry)) (a1 : ByteArray) : Option ((List (Ty.den TEntry)) × Unit) :=
  (L0 a1 a0 (List.length a0 : Int) 0 [])
def impl_DirDrop.f (k : Nat) (a0 : List (Ty.den TEntry)) (a1 : ByteArray) : Option ((List (Ty.den TEntry)) × Unit) := impl_DirDrop.t k (impl_DirDrop.l0 k k) a0 a1
def impl_DirPut.b0 (k : Nat) (L0 : Int → ByteArray → Int → Int → Int → Int → List (Ty.den TEntry) → Option ((List (Ty.den TEntry)) × Unit)) (x0_0 : Int) (x0_1 : ByteArray) (x0_2 : Int) (x0_3 : Int) (x0_4 : Int) (x0_5 : Int) (x0_6 : List (Ty.den TEntry)) : Option ((List (Ty.den TEntry)) × Unit) :=
  (bif (decide (x0_0 < (List.length x0_6 : Int))) then
  (inb x0_0 (List.length x0_6 : Int)
  (bif ((sls (List.getD x0_6 (Int.toNat x0_0) (Ty.dflt TEntry)).1 x0_1) || (seq (List.getD x0_6 (Int.toNat x0_0) (Ty.dflt TEntry)).1 x0_1)) then
  (L0 (w64 (x0_0 + 1)) x0_1 x0_2 x0_3 x0_4 x0_5 x0_6)
  else
  (inc x0_0 (List.length x0_6 : Int)
  (Option.bind (impl_copyDir.f k (List.take (Int.toNat x0_0) x0_6)) fun r2 =>
  (rm (Ty.bytes TEntry) (List.length r2.1 + 1)
  (inc x0_0 (List.length x0_6 : Int)
  (rm (Ty.bytes TEntry) (List.length (r2.1 ++ [(x0_1, (x0_2, (x0_3, (x0_4, (x0_5, ())))))]) + List.length (List.drop (Int.toNat x0_0) x0_6))
  (some (((r2.1 ++ [(x0_1, (x0_2, (x0_3, (x0_4, (x0_5, ())))))]) ++ (List.drop (Int.toNat x0_0) x0_6)), ())))))))))
  else
  (inc x0_0 (List.length x0_6 : Int)
  (Option.bind (impl_copyDir.f k (List.take (Int.toNat x0_0) x0_6)) fun r3 =>
  (rm (Ty.bytes TEntry) (List.length r3.1 + 1)
  (inc x0_0 (List.length x0_6 : Int)
  (rm (Ty.bytes TEntry) (List.length (r3.1 ++ [(x0_1, (x0_2, (x0_3, (x0_4, (x0_5, ())))))]) + List.length (List.drop (Int.toNat x0_0) x0_6))
  (some (((r3.1 ++ [(x0_1, (x0_2, (x0_3, (x0_4, (x0_5, ())))))]) ++ (List.drop (Int.toNat x0_0) x0_6)), ()))))))))
def impl_DirPut.l0 (k : Nat) : Nat → Int → ByteArray → Int → Int → Int → Int → List (Ty.den TEntry) → Option ((List (Ty.den TEntry)) × Unit)
  | 0 => fun _ _ _ _ _ _ _ => none
  | n + 1 => impl_DirPut.b0 k (impl_DirPut.l0 k n)
def impl_DirPut.t (k : Nat) (L0 : Int → ByteArray → Int → Int → Int → Int → List (Ty.den TEntry) → Option ((List (Ty.den TEntry)) × Unit)) (a0 : List (Ty.den TEntry)) (a1 : Ty.den TEntry) : Option ((List (Ty.den TEntry)) × Unit) :=
  (Option.bind (impl_DirDrop.f k a0 a1.1) fun r1 =>
  (L0 0 a1.1 a1.2.1 a1.2.2.1 a1.2.2.2.1 a1.2.2.2.2.1 r1.1))
def impl_DirPut.f (k : Nat) (a0 : List (Ty.den TEntry)) (a1 : Ty.den TEntry) : Option ((List (Ty.den TEntry)) × Unit) := impl_DirPut.t k (impl_DirPut.l0 k k) a0 a1
def impl_Group__apply.b0 (k : Nat) (L0 : List (Ty.den TPlace) → Int → Int → List (Ty.den TEntry) → Int → Int → Option ((Ty.den TGroup) × Unit)) (x0_0 : List (Ty.den TPlace)) (x0_1 : Int) (x0_2 : Int) (x0_3 : List (Ty.den TEntry)) (x0_4 : Int) (x0_5 : Int) : Option ((Ty.den TGroup) × Unit) :=
  (bif (decide (x0_2 < x0_1)) then
  (inb x0_2 (List.length x0_0 : Int)
  (bif ((List.getD x0_0 (Int.toNat x0_2) (Ty.dflt TPlace)).2.2.2.1.1 == 2) then
  (Option.bind (impl_DirDrop.f k x0_3 (List.getD x0_0 (Int.toNat x0_2) (Ty.dflt TPlace)).2.2.2.1.2.2.1) fun r1 =>
  (L0 x0_0 x0_1 (w64 (x0_2 + 1)) r1.1 x0_4 x0_5))
  else
  (Option.bind (impl_DirPut.f k x0_3 ((List.getD x0_0 (Int.toNat x0_2) (Ty.dflt TPlace)).2.2.2.1.2.2.1, ((List.getD x0_0 (Int.toNat x0_2) (Ty.dflt TPlace)).1, ((List.getD x0_0 (Int.toNat x0_2) (Ty.dflt TPlace)).2.1, ((List.getD x0_0 (Int.toNat x0_2) (Ty.dflt TPlace)).2.2.1, ((List.getD x0_0 (Int.toNat x0_2) (Ty.dflt TPlace)).2.2.2.1.2.1, ())))))) fun r2 =>
  (L0 x0_0 x0_1 (w64 (x0_2 + 1)) r2.1 x0_4 x0_5))))
  else
  (bif (decide ((List.length x0_3 : Int) > 20)) then
  (some ((x0_3, (x0_4, (2, ()))), ()))
  else
  (some ((x0_3, (x0_4, (x0_5, ()))), ()))))
def impl_Group__apply.l0 (k : Nat) : Nat → List (Ty.den TPlace) → Int → Int → List (Ty.den TEntry) → Int → Int → Option ((Ty.den TGroup) × Unit)
  | 0 => fun _ _ _ _ _ _ => none
  | n + 1 => impl_Group__apply.b0 k (impl_Group__apply.l0 k n)
def impl_Group__apply.t (k : Nat) (L0 : List (Ty.den TPlace) → Int → Int → List (Ty.den TEntry) → Int → Int → Option ((Ty.den TGroup) × Unit)) (a0 : Ty.den TGroup) (a1 : List (Ty.den TPlace)) : Option ((Ty.den TGroup) × Unit) :=
  (L0 a1 (List.length a1 : Int) 0 a0.1 a0.2.1 a0.2.2.1)
def impl_Group__apply.f (k : Nat) (a0 : Ty.den TGroup) (a1 : List (Ty.den TPlace)) : Option ((Ty.den TGroup) × Unit) := impl_Group__apply.t k (impl_Group__apply.l0 k k) a0 a1
def impl_Regroup.b0 (k : Nat) (L0 : List (Ty.den TPlace) → List (Ty.den TPlace) → Int → Int → List (Ty.den TEntry) → Int → Int → List (Ty.den TEntry) → Int → Int → Option ((Ty.den TGroup) × Unit)) (x0_0 : List (Ty.den TPlace)) (x0_1 : List (Ty.den TPlace)) (x0_2 : Int) (x0_3 : Int) (x0_4 : List (Ty.den TEntry)) (x0_5 : Int) (x0_6 : Int) (x0_7 : List (Ty.den TEntry)) (x0_8 : Int) (x0_9 : Int) : Option ((Ty.den TGroup) × Unit) :=
  (bif (decide (x0_3 < x0_2)) then
  (inb x0_3 (List.length x0_1 : Int)
  (bif (x0_9 != 0) then
  (some ((x0_7, (x0_8, (x0_9, ()))), ()))
  else
  (bif ((List.getD x0_1 (Int.toNat x0_3) (Ty.dflt TPlace)).2.2.2.1.1 != 3) then
  (bif ((List.getD x0_1 (Int.toNat x0_3) (Ty.dflt TPlace)).2.2.2.1.1 != 5) then
  (L0 x0_0 x0_1 x0_2 (w64 (x0_3 + 1)) x0_4 x0_5 x0_6 x0_7 (if (List.getD x0_1 (Int.toNat x0_3) (Ty.dflt TPlace)).2.2.2.1.2.1 > x0_8 then (List.getD x0_1 (Int.toNat x0_3) (Ty.dflt TPlace)).2.2.2.1.2.1 else x0_8) x0_9)
  else
  (inc x0_3 (List.length x0_0 : Int)
  (Option.bind (impl_ownOf.f k (List.take (Int.toNat x0_3) x0_0) (List.getD x0_1 (Int.toNat x0_3) (Ty.dflt TPlace)).2.2.2.1) fun r2 =>
  (Option.bind (impl_fits.f k (List.getD x0_1 (Int.toNat x0_3) (Ty.dflt TPlace)).2.2.2.1 r2.1) fun r3 =>
  (bif r3.1 then
  (Option.bind (impl_Group__apply.f k (x0_7, ((if (List.getD x0_1 (Int.toNat x0_3) (Ty.dflt TPlace)).2.2.2.1.2.1 > x0_8 then (List.getD x0_1 (Int.toNat x0_3) (Ty.dflt TPlace)).2.2.2.1.2.1 else x0_8), (x0_9, ()))) r2.1) fun r4 =>
  (L0 x0_0 x0_1 x0_2 (w64 (x0_3 + 1)) x0_4 x0_5 x0_6 r4.1.1 r4.1.2.1 r4.1.2.2.1))
  else
  (bif ((List.getD x0_1 (Int.toNat x0_3) (Ty.dflt TPlace)).2.2.2.1.1 == 5) then
  (L0 x0_0 x0_1 x0_2 (w64 (x0_3 + 1)) x0_4 x0_5 x0_6 x0_7 (if (List.getD x0_1 (Int.toNat x0_3) (Ty.dflt TPlace)).2.2.2.1.2.1 > x0_8 then (List.getD x0_1 (Int.toNat x0_3) (Ty.dflt TPlace)).2.2.2.1.2.1 else x0_8) 1)
  else
  (L0 x0_0 x0_1 x0_2 (w64 (x0_3 + 1)) x0_4 x0_5 x0_6 x0_7 (if (List.getD x0_1 (Int.toNat x0_3) (Ty.dflt TPlace)).2.2.2.1.2.1 > x0_8 then (List.getD x0_1 (Int.toNat x0_3) (Ty.dflt TPlace)).2.2.2.1.2.1 else x0_8) x0_9)))))))
  else
  (inc x0_3 (List.length x0_0 : Int)
  (Option.bind (impl_ownOf.f k (List.take (Int.toNat x0_3) x0_0) (List.getD x0_1 (Int.toNat x0_3) (Ty.dflt TPlace)).2.2.2.1) fun r5 =>
  (Option.bind (impl_fits.f k (List.getD x0_1 (Int.toNat x0_3) (Ty.dflt TPlace)).2.2.2.1 r5.1) fun r6 =>
  (bif r6.1 then
  (Option.bind (impl_Group__apply.f k (x0_7, ((if (List.getD x0_1 (Int.toNat x0_3) (Ty.dflt TPlace)).2.2.2.1.2.1 > x0_8 then (List.getD x0_1 (Int.toNat x0_3) (Ty.dflt TPlace)).2.2.2.1.2.1 else x0_8), (x0_9, ()))) r5.1) fun r7 =>
  (L0 x0_0 x0_1 x0_2 (w64 (x0_3 + 1)) x0_4 x0_5 x0_6 r7.1.1 r7.1.2.1 r7.1.2.2.1))
  else
  (bif ((List.getD x0_1 (Int.toNat x0_3) (Ty.dflt TPlace)).2.2.2.1.1 == 5) then
  (L0 x0_0 x0_1 x0_2 (w64 (x0_3 + 1)) x0_4 x0_5 x0_6 x0_7 (if (List.getD x0_1 (Int.toNat x0_3) (Ty.dflt TPlace)).2.2.2.1.2.1 > x0_8 then (List.getD x0_1 (Int.toNat x0_3) (Ty.dflt TPlace)).2.2.2.1.2.1 else x0_8) 1)
  else
  (L0 x0_0 x0_1 x0_2 (w64 (x0_3 + 1)) x0_4 x0_5 x0_6 x0_7 (if (List.getD x0_1 (Int.toNat x0_3) (Ty.dflt TPlace)).2.2.2.1.2.1 > x0_8 then (List.getD x0_1 (Int.toNat x0_3) (Ty.dflt TPlace)).2.2.2.1.2.1 else x0_8) x0_9)))))))))
  else
  (bif (x0_9 == 0) then
  (Option.bind (impl_ownOf.f k x0_0 (5, (0, (ByteArray.empty, (ByteArray.empty, (0, (0, ()))))))) fun r8 =>
  (bif (decide ((List.length r8.1 : Int) > 0)) then
  (some ((x0_7, (x0_8, (1, ()))), ()))
  else
  (some ((x0_7, (x0_8, (x0_9, ()))), ()))))
  else
  (some ((x0_7, (x0_8, (x0_9, ()))), ()))))
def impl_Regroup.l0 (k : Nat) : Nat → List (Ty.den TPlace) → List (Ty.den TPlace) → Int → Int → List (Ty.den TEntry) → Int → Int → List (Ty.den TEntry) → Int → Int → Option ((Ty.den TGroup) × Unit)
  | 0 => fun _ _ _ _ _ _ _ _ _ _ => none
  | n + 1 => impl_Regroup.b0 k (impl_Regroup.l0 k n)
def impl_Regroup.t (k : Nat) (L0 : List (Ty.den TPlace) → List (Ty.den TPlace) → Int → Int → List (Ty.den TEntry) → Int → Int → List (Ty.den TEntry) → Int → Int → Option ((Ty.den TGroup) × Unit)) (a0 : Ty.den TGroup) (a1 : List (Ty.den TPlace)) : Option ((Ty.den TGroup) × Unit) :=
  (Option.bind (impl_copyDir.f k a0.1) fun r1 =>
  (L0 a1 a1 (List.length a1 : Int) 0 [] 0 0 r1.1 a0.2.1 a0.2.2.1))
def impl_Regroup.f (k : Nat) (a0 : Ty.den TGroup) (a1 : List (Ty.den TPlace)) : Option ((Ty.den TGroup) × Unit) := impl_Regroup.t k (impl_Regroup.l0 k k) a0 a1
def impl_has.b0 (k : Nat) (L0 : Int → List (Ty.den TPiece) → Int → Int → Option (ByteArray × Unit)) (x0_0 : Int) (x0_1 : List (Ty.den TPiece)) (x0_2 : Int) (x0_3 : Int) : Option (ByteArray × Unit) :=
  (bif (decide (x0_3 < x0_2)) then
  (inb x0_3 (List.length x0_1 : Int)
  (bif ((List.getD x0_1 (Int.toNat x0_3) (Ty.dflt TPiece)).1 == x0_0) then
  (some (List.getD x0_1 (Int.toNat x0_3) (Ty.dflt TPiece)).2)
  else
  (L0 x0_0 x0_1 x0_2 (w64 (x0_3 + 1)))))
  else
  (some ((⟨#[]⟩ : ByteArray), ())))
def impl_has.l0 (k : Nat) : Nat → Int → List (Ty.den TPiece) → Int → Int → Option (ByteArray × Unit)
  | 0 => fun _ _ _ _ => none
  | n + 1 => impl_has.b0 k (impl_has.l0 k n)
def impl_has.t (k : Nat) (L0 : Int → List (Ty.den TPiece) → Int → Int → Option (ByteArray × Unit)) (a0 : Ty.den TFollower) (a1 : Int) : Option (ByteArray × Unit) :=
  (L0 a1 a0.2.1 (List.length a0.2.1 : Int) 0)
def impl_has.f (k : Nat) (a0 : Ty.den TFollower) (a1 : Int) : Option (ByteArray × Unit) := impl_has.t k (impl_has.l0 k k) a0 a1
def impl_RecAt.t (k : Nat) (a0 : ByteArray) (a1 : Int) (a2 : Int) : Option ((Ty.den TRec) × Bool × Unit) :=
  (Option.bind (impl_in.f k a1 0 (ByteArray.size a0 : Int)) fun r1 =>
  (bif (!r1.1) then
  (some ((0, (0, (ByteArray.empty, (ByteArray.empty, (0, (0, ())))))), (false, ())))
  else
  (Option.bind (impl_in.f k a2 0 (w64 ((ByteArray.size a0 : Int) - a1))) fun r2 =>
  (bif (!r2.1) then
  (some ((0, (0, (ByteArray.empty, (ByteArray.empty, (0, (0, ())))))), (false, ())))
  else
  (inc2 a1 (w64 (a1 + a2)) (ByteArray.size a0 : Int)
  (Option.bind (impl_Unframe.f k (ByteArray.extract a0 (Int.toNat a1) (Int.toNat (w64 (a1 + a2))))) fun r3 =>
  (bif (r3.2.1 == 0) then
  (some ((0, (0, (ByteArray.empty, (ByteArray.empty, (0, (0, ())))))), (false, ())))
  else
  (bif (r3.2.1 != a2) then
  (some ((0, (0, (ByteArray.empty, (ByteArray.empty, (0, (0, ())))))), (false, ())))
  else
  (Option.bind (impl_ReadRec.f k r3.1) fun r4 =>
  (some r4))))))))))
def impl_RecAt.f (k : Nat) (a0 : ByteArray) (a1 : Int) (a2 : Int) : Option ((Ty.den TRec) × Bool × Unit) := impl_RecAt.t k a0 a1 a2
def impl_FollowMap.b1 (k : Nat) (L1 : Int → Int → Int → List (Ty.den TPiece) → List (Ty.den TPair) → List (Ty.den TEntry) → Option ((List (Ty.den TPair)) × Bool × Unit)) (x1_0 : Int) (x1_1 : Int) (x1_2 : Int) (x1_3 : List (Ty.den TPiece)) (x1_4 : List (Ty.den TPair)) (x1_5 : List (Ty.den TEntry)) : Option ((List (Ty.den TPair)) × Bool × Unit) :=
  (bif (decide (x1_1 < x1_0)) then
  (inb x1_1 (List.length x1_5 : Int)
  (Option.bind (impl_has.f k (x1_2, (x1_3, ())) (List.getD x1_5 (Int.toNat x1_1) (Ty.dflt TEntry)).2.1) fun r4 =>
  (Option.bind (impl_RecAt.f k r4.1 (List.getD x1_5 (Int.toNat x1_1) (Ty.dflt TEntry)).2.2.1 (List.getD x1_5 (Int.toNat x1_1) (Ty.dflt TEntry)).2.2.2.1) fun r5 =>
  (bif (!r5.2.1) then
  (some ([], (false, ())))
  else
  (rm (Ty.bytes TPair) (List.length x1_4 + 1)
  (L1 x1_0 (w64 (x1_1 + 1)) x1_2 x1_3 (x1_4 ++ [(r5.1.2.2.1, (r5.1.2.2.2.1, (r5.1.2.1, ())))]) x1_5))))))
  else
  (some (x1_4, (true, ()))))
def impl_FollowMap.l1 (k : Nat) : Nat → Int → Int → Int → List (Ty.den TPiece) → List (Ty.den TPair) → List (Ty.den TEntry) → Option ((List (Ty.den TPair)) × Bool × Unit)
  | 0 => fun _ _ _ _ _ _ => none
  | n + 1 => impl_FollowMap.b1 k (impl_FollowMap.l1 k n)
def impl_FollowMap.b0 (k : Nat) (L1 : Int → Int → Int → List (Ty.den TPiece) → List (Ty.den TPair) → List (Ty.den TEntry) → Option ((List (Ty.den TPair)) × Bool × Unit)) (L0 : List (Ty.den TPiece) → Int → Int → Int → List (Ty.den TPiece) → List (Ty.den TPlace) → Option ((List (Ty.den TPair)) × Bool × Unit)) (x0_0 : List (Ty.den TPiece)) (x0_1 : Int) (x0_2 : Int) (x0_3 : Int) (x0_4 : List (Ty.den TPiece)) (x0_5 : List (Ty.den TPlace)) : Option ((List (Ty.den TPair)) × Bool × Unit) :=
  (bif (decide (x0_2 < x0_1)) then
  (inb x0_2 (List.length x0_0 : Int)
  (Option.bind (impl_ScanRecs.f k (List.getD x0_0 (Int.toNat x0_2) (Ty.dflt TPiece)).2.1) fun r1 =>
  (bif (r1.2.1 != (ByteArray.size (List.getD x0_0 (Int.toNat x0_2) (Ty.dflt TPiece)).2.1 : Int)) then
  (some ([], (false, ())))
  else
  (Option.bind (impl_placed.f k (List.getD x0_0 (Int.toNat x0_2) (Ty.dflt TPiece)).1 r1.1) fun r2 =>
  (rm (Ty.bytes TPlace) (List.length x0_5 + List.length r2.1)
  (L0 x0_0 x0_1 (w64 (x0_2 + 1)) x0_3 x0_4 (x0_5 ++ r2.1)))))))
  else
  (Option.bind (impl_Regroup.f k ([], (0, (0, ()))) x0_5) fun r3 =>
  (bif (r3.1.2.2.1 != 0) then
  (some ([], (false, ())))
  else
  (L1 (List.length r3.1.1 : Int) 0 x0_3 x0_4 [] r3.1.1))))
def impl_FollowMap.l0 (k : Nat) : Nat → List (Ty.den TPiece) → Int → Int → Int → List (Ty.den TPiece) → List (Ty.den TPlace) → Option ((List (Ty.den TPair)) × Bool × Unit)
  | 0 => fun _ _ _ _ _ _ => none
  | n + 1 => impl_FollowMap.b0 k (impl_FollowMap.l1 k k) (impl_FollowMap.l0 k n)
def impl_FollowMap.t (k : Nat) (L0 : List (Ty.den TPiece) → Int → Int → Int → List (Ty.den TPiece) → List (Ty.den TPlace) → Option ((List (Ty.den TPair)) × Bool × Unit)) (a0 : Ty.den TFollower) : Option ((List (Ty.den TPair)) × Bool × Unit) :=
  (L0 a0.2.1 (List.length a0.2.1 : Int) 0 a0.1 a0.2.1 [])
def impl_FollowMap.f (k : Nat) (a0 : Ty.den TFollower) : Option ((List (Ty.den TPair)) × Bool × Unit) := impl_FollowMap.t k (impl_FollowMap.l0 k k) a0
def laws_eqPiece.t (k : Nat) (a0 : Ty.den TPiece) (a1 : Ty.den TPiece) : Option (Bool × Unit) :=
  (bif (a0.1 != a1.1) then
  (some (false, ()))
  else
  (bif (!(seq a0.2.1 a1.2.1)) then
  (some (false, ()))
  else
  (some (true, ()))))
def laws_eqPiece.f (k : Nat) (a0 : Ty.den TPiece) (a1 : Ty.den TPiece) : Option (Bool × Unit) := laws_eqPiece.t k a0 a1
def laws_eqPieceS.b0 (k : Nat) (L0 : List (Ty.den TPiece) → List (Ty.den TPiece) → Int → Option (Bool × Unit)) (x0_0 : List (Ty.den TPiece)) (x0_1 : List (Ty.den TPiece)) (x0_2 : Int) : Option (Bool × Unit) :=
  (bif (decide (x0_2 < (List.length x0_0 : Int))) then
  (inb x0_2 (List.length x0_0 : Int)
  (inb x0_2 (List.length x0_1 : Int)
  (Option.bind (laws_eqPiece.f k (List.getD x0_0 (Int.toNat x0_2) (Ty.dflt TPiece)) (List.getD x0_1 (Int.toNat x0_2) (Ty.dflt TPiece))) fun r1 =>
  (bif (!r1.1) then
  (some (false, ()))
  else
  (L0 x0_0 x0_1 (w64 (x0_2 + 1)))))))
  else
  (some (true, ())))
def laws_eqPieceS.l0 (k : Nat) : Nat → List (Ty.den TPiece) → List (Ty.den TPiece) → Int → Option (Bool × Unit)
  | 0 => fun _ _ _ => none
  | n + 1 => laws_eqPieceS.b0 k (laws_eqPieceS.l0 k n)
def laws_eqPieceS.t (k : Nat) (L0 : List (Ty.den TPiece) → List (Ty.den TPiece) → Int → Option (Bool × Unit)) (a0 : List (Ty.den TPiece)) (a1 : List (Ty.den TPiece)) : Option (Bool × Unit) :=
  (bif ((List.length a0 : Int) != (List.length a1 : Int)) then
  (some (false, ()))
  else
  (L0 a0 a1 0))
def laws_eqPieceS.f (k : Nat) (a0 : List (Ty.den TPiece)) (a1 : List (Ty.den TPiece)) : Option (Bool × Unit) := laws_eqPieceS.t k (laws_eqPieceS.l0 k k) a0 a1
def laws_eqFollower.t (k : Nat) (a0 : Ty.den TFollower) (a1 : Ty.den TFollower) : Option (Bool × Unit) :=
  (bif (a0.1 != a1.1) then
  (some (false, ()))
  else
  (Option.bind (laws_eqPieceS.f k a0.2.1 a1.2.1) fun r1 =>
  (bif (!r1.1) then
  (some (false, ()))
  else
  (some (true, ())))))
def laws_eqFollower.f (k : Nat) (a0 : Ty.den TFollower) (a1 : Ty.den TFollower) : Option (Bool × Unit) := laws_eqFollower.t k a0 a1
def laws_markPieceS.b0 (k : Nat) (a0 : List (Ty.den TPiece)) (a1 : Int) (L0 : Int → Int → List (Ty.den TPiece) → Option ((List (Ty.den TPiece)) × Int × Unit)) (x0_0 : Int) (x0_1 : Int) (x0_2 : List (Ty.den TPiece)) : Option ((List (Ty.den TPiece)) × Int × Unit) :=
  (bif (decide (x0_1 < (List.length x0_2 : Int))) then
  (inb x0_1 (List.length x0_2 : Int)
  (let l1 := (List.set x0_2 (Int.toNat x0_1) (x0_0, (List.getD x0_2 (Int.toNat x0_1) (Ty.dflt TPiece)).2));
  (Option.bind (laws_markText.f k (w64 (x0_0 + 1))) fun r2 =>
  (inb x0_1 (List.length l1 : Int)
  (let l3 := (List.set l1 (Int.toNat x0_1) ((List.getD l1 (Int.toNat x0_1) (Ty.dflt TPiece)).1, r2));
  (L0 (w64 ((w64 (x0_0 + 1)) + 1)) (w64 (x0_1 + 1)) l3))))))
  else
  (some (x0_2, (x0_0, ()))))
def laws_markPieceS.l0 (k : Nat) (a0 : List (Ty.den TPiece)) (a1 : Int) : Nat → Int → Int → List (Ty.den TPiece) → Option ((List (Ty.den TPiece)) × Int × Unit)
  | 0 => fun _ _ _ => none
  | n + 1 => laws_markPieceS.b0 k a0 a1 (laws_markPieceS.l0 k a0 a1 n)
def laws_markPieceS.t (k : Nat) (L0 : Int → Int → List (Ty.den TPiece) → Option ((List (Ty.den TPiece)) × Int × Unit)) (a0 : List (Ty.den TPiece)) (a1 : Int) : Option ((List (Ty.den TPiece)) × Int × Unit) :=
  (L0 a1 0 a0)
def laws_markPieceS.f (k : Nat) (a0 : List (Ty.den TPiece)) (a1 : Int) : Option ((List (Ty.den TPiece)) × Int × Unit) := laws_markPieceS.t k (laws_markPieceS.l0 k a0 a1 k) a0 a1
def laws_markFollower.t (k : Nat) (a0 : Ty.den TFollower) (a1 : Int) : Option ((Ty.den TFollower) × Int × Unit) :=
  (Option.bind (laws_markPieceS.f k a0.2.1 a1) fun r1 =>
  (some ((a0.1, (r1.1, ())), r1.2)))
def laws_markFollower.f (k : Nat) (a0 : Ty.den TFollower) (a1 : Int) : Option ((Ty.den TFollower) × Int × Unit) := laws_markFollower.t k a0 a1
def laws_FnExactFollowMap.t (k : Nat) (a0 : Ty.den TFollower) : Option (Bool × Unit) :=
  (Option.bind (laws_szFollower.f k a0 1048576) fun r1 =>
  (bif (decide (r1.1 < 0)) then
  (some (true, ()))
  else
  (Option.bind (laws_toFollower.f k a0) fun r2 =>
  (Option.bind (spec_FollowMap.f k r2.1) fun r3 =>
  (Option.bind (laws_toFollower.f k a0) fun r4 =>
  (Option.bind (impl_FollowMap.f k r4.1) fun r5 =>
  (Option.bind (laws_eqPairS.f k r5.1 r3.1) fun r6 =>
  (bif (!r6.1) then
  (some (false, ()))
  else
  (bif (!(r5.2.1 == r3.2.1)) then
  (some (false, ()))
  else
  (Option.bind (laws_toFollower.f k a0) fun r7 =>
  (Option.bind (laws_eqFollower.f k r4.1 r7.1) fun r8 =>
  (bif (!r8.1) then
  (some (false, ()))
  else
  (Option.bind (laws_markFollower.f k r4.1 1) fun r9 =>
  (bif (decide (r9.2.1 < 0)) then
  (some (false, ()))
  else
  (Option.bind (laws_eqPairS.f k r5.1 r3.1) fun r10 =>
  (bif (!r10.1) then
  (some (false, ()))
  else
  (bif (!(r5.2.1 == r3.2.1)) then
  (some (false, ()))
  else
  (Option.bind (laws_markPairS.f k r5.1 1) fun r11 =>
  (Option.bind (laws_heldPairS.f k r11.1 1) fun r12 =>
  (bif (decide (r12.1 < 0)) then
  (some (false, ()))
  else
  (bif (r12.1 != r11.2.1) then
  (some (false, ()))
  else
  (Option.bind (laws_toFollower.f k a0) fun r13 =>
  (Option.bind (impl_FollowMap.f k r13.1) fun r14 =>
  (Option.bind (laws_eqPairS.f k r14.1 r3.1) fun r15 =>
  (bif (!r15.1) then
  (some (false, ()))
  else
  (bif (!(r14.2.1 == r3.2.1)) then
  (some (false, ()))
  else
  (Option.bind (laws_heldPairS.f k r11.1 1) fun r16 =>
  (bif (decide (r16.1 < 0)) then
  (some (false, ()))
  else
  (bif (r16.1 != r11.2.1) then
  (some (false, ()))
  else
  (some (true, ())))))))))))))))))))))))))))))))
def laws_FnExactFollowMap.f (k : Nat) (a0 : Ty.den TFollower) : Option (Bool × Unit) := laws_FnExactFollowMap.t k a0
end Go.Proofs.Ytiigjojchlplpaa.G

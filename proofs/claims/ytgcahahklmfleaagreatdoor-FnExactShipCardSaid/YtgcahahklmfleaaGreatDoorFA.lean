/- Functions, as V runs them. -/
import Derived.Test.YtgcahahklmfleaaGreatDoorVWords
import Derived.Test.YtgcahahklmfleaaGreatDoorXLib
set_option linter.unusedVariables false
namespace Go.Proofs.YtgcahahklmfleaaGreatDoor.G
open Go.V
abbrev TBit : Ty := .pair (.int .i64) (.pair (.int .i64) (.pair .str .unit))
abbrev TPair : Ty := .pair .str (.pair .str (.pair (.int .i64) .unit))
abbrev TDisk : Ty := .pair (.slice TPair) (.pair (.int .i64) (.pair (.int .i64) (.pair .bool .unit)))
abbrev TEntry : Ty := .pair .str (.pair (.int .i64) (.pair (.int .i64) (.pair (.int .i64) (.pair (.int .i64) .unit))))
abbrev TPiece : Ty := .pair (.int .i64) (.pair .str .unit)
abbrev TFollower : Ty := .pair (.int .i64) (.pair (.slice TPiece) .unit)
abbrev TLive : Ty := .pair (.int .i64) (.pair (.slice (.int .i64)) .unit)
abbrev TParcel : Ty := .pair (.int .i64) (.pair (.slice TBit) .unit)
abbrev TRec : Ty := .pair (.int .i64) (.pair (.int .i64) (.pair .str (.pair .str (.pair (.int .i64) (.pair (.int .i64) .unit)))))
abbrev TSpot : Ty := .pair (.int .i64) (.pair (.int .i64) (.pair TRec .unit))
abbrev TStore : Ty := .pair TLive (.pair (.slice TEntry) (.pair (.int .i64) (.pair (.int .i64) (.pair (.int .i64) .unit))))
abbrev Tscanner : Ty := .pair .str (.pair .bool .unit)
abbrev TFile : Ty := TPair
namespace laws_szIntS
def t (k : Nat) (a0 : List Int) (a1 : Int) : Option (Int × Unit) :=
  (bif (decide ((w64 (a1 - (List.length a0 : Int))) < 0)) then
  (some ((-1), ()))
  else
  (some ((w64 (a1 - (List.length a0 : Int))), ())))
def f (k : Nat) (a0 : List Int) (a1 : Int) : Option (Int × Unit) := t k a0 a1
end laws_szIntS
namespace laws_szLive
def t (k : Nat) (a0 : Ty.den TLive) (a1 : Int) : Option (Int × Unit) :=
  (Option.bind (laws_szIntS.f k a0.2.1 a1) fun r1 =>
  (bif (decide (r1.1 < 0)) then
  (some ((-1), ()))
  else
  (some r1)))
def f (k : Nat) (a0 : Ty.den TLive) (a1 : Int) : Option (Int × Unit) := t k a0 a1
end laws_szLive
namespace laws_szEntry
def t (k : Nat) (a0 : Ty.den TEntry) (a1 : Int) : Option (Int × Unit) :=
  (bif (decide ((w64 (a1 - (ByteArray.size a0.1 : Int))) < 0)) then
  (some ((-1), ()))
  else
  (some ((w64 (a1 - (ByteArray.size a0.1 : Int))), ())))
def f (k : Nat) (a0 : Ty.den TEntry) (a1 : Int) : Option (Int × Unit) := t k a0 a1
end laws_szEntry
namespace laws_szEntryS
abbrev T0 : Type := List (Ty.den TEntry) → Int → Int → Option (Int × Unit)
def b0 (k : Nat) (L0 : T0) (x0_0 : List (Ty.den TEntry)) (x0_1 : Int) (x0_2 : Int) : Option (Int × Unit) :=
  (bif (decide (x0_2 < (List.length x0_0 : Int))) then
  (inb x0_2 (List.length x0_0 : Int)
  (Option.bind (laws_szEntry.f k (List.getD x0_0 (Int.toNat x0_2) (Ty.dflt TEntry)) x0_1) fun r1 =>
  (bif (decide (r1.1 < 0)) then
  (some ((-1), ()))
  else
  (L0 x0_0 r1.1 (w64 (x0_2 + 1))))))
  else
  (some (x0_1, ())))
def l0 (k : Nat) : Nat → T0
  | 0 => fun _ _ _ => none
  | n + 1 => b0 k (l0 k n)
def t (k : Nat) (L0 : T0) (a0 : List (Ty.den TEntry)) (a1 : Int) : Option (Int × Unit) :=
  (bif (decide ((w64 (a1 - (List.length a0 : Int))) < 0)) then
  (some ((-1), ()))
  else
  (L0 a0 (w64 (a1 - (List.length a0 : Int))) 0))
def f (k : Nat) (a0 : List (Ty.den TEntry)) (a1 : Int) : Option (Int × Unit) := t k (l0 k k) a0 a1
end laws_szEntryS
namespace laws_szStore
def t (k : Nat) (a0 : Ty.den TStore) (a1 : Int) : Option (Int × Unit) :=
  (Option.bind (laws_szLive.f k a0.1 a1) fun r1 =>
  (bif (decide (r1.1 < 0)) then
  (some ((-1), ()))
  else
  (Option.bind (laws_szEntryS.f k a0.2.1 r1.1) fun r2 =>
  (bif (decide (r2.1 < 0)) then
  (some ((-1), ()))
  else
  (some r2)))))
def f (k : Nat) (a0 : Ty.den TStore) (a1 : Int) : Option (Int × Unit) := t k a0 a1
end laws_szStore
namespace laws_szFile
def t (k : Nat) (a0 : Ty.den TPair) (a1 : Int) : Option (Int × Unit) :=
  (bif (decide ((w64 (a1 - (ByteArray.size a0.1 : Int))) < 0)) then
  (some ((-1), ()))
  else
  (bif (decide ((w64 ((w64 (a1 - (ByteArray.size a0.1 : Int))) - (ByteArray.size a0.2.1 : Int))) < 0)) then
  (some ((-1), ()))
  else
  (some ((w64 ((w64 (a1 - (ByteArray.size a0.1 : Int))) - (ByteArray.size a0.2.1 : Int))), ()))))
def f (k : Nat) (a0 : Ty.den TPair) (a1 : Int) : Option (Int × Unit) := t k a0 a1
end laws_szFile
namespace laws_szFileS
abbrev T0 : Type := List (Ty.den TPair) → Int → Int → Option (Int × Unit)
def b0 (k : Nat) (L0 : T0) (x0_0 : List (Ty.den TPair)) (x0_1 : Int) (x0_2 : Int) : Option (Int × Unit) :=
  (bif (decide (x0_2 < (List.length x0_0 : Int))) then
  (inb x0_2 (List.length x0_0 : Int)
  (Option.bind (laws_szFile.f k (List.getD x0_0 (Int.toNat x0_2) (Ty.dflt TPair)) x0_1) fun r1 =>
  (bif (decide (r1.1 < 0)) then
  (some ((-1), ()))
  else
  (L0 x0_0 r1.1 (w64 (x0_2 + 1))))))
  else
  (some (x0_1, ())))
def l0 (k : Nat) : Nat → T0
  | 0 => fun _ _ _ => none
  | n + 1 => b0 k (l0 k n)
def t (k : Nat) (L0 : T0) (a0 : List (Ty.den TPair)) (a1 : Int) : Option (Int × Unit) :=
  (bif (decide ((w64 (a1 - (List.length a0 : Int))) < 0)) then
  (some ((-1), ()))
  else
  (L0 a0 (w64 (a1 - (List.length a0 : Int))) 0))
def f (k : Nat) (a0 : List (Ty.den TPair)) (a1 : Int) : Option (Int × Unit) := t k (l0 k k) a0 a1
end laws_szFileS
namespace laws_szDisk
def t (k : Nat) (a0 : Ty.den TDisk) (a1 : Int) : Option (Int × Unit) :=
  (Option.bind (laws_szFileS.f k a0.1 a1) fun r1 =>
  (bif (decide (r1.1 < 0)) then
  (some ((-1), ()))
  else
  (some r1)))
def f (k : Nat) (a0 : Ty.den TDisk) (a1 : Int) : Option (Int × Unit) := t k a0 a1
end laws_szDisk
namespace laws_toIntS
abbrev T0 : Type := List Int → Int → List Int → Option ((List Int) × Unit)
def b0 (k : Nat) (L0 : T0) (x0_0 : List Int) (x0_1 : Int) (x0_2 : List Int) : Option ((List Int) × Unit) :=
  (bif (decide (x0_1 < (List.length x0_0 : Int))) then
  (inb x0_1 (List.length x0_0 : Int)
  (inb x0_1 (List.length x0_2 : Int)
  (let l1 := (List.set x0_2 (Int.toNat x0_1) (List.getD x0_0 (Int.toNat x0_1) (Ty.dflt (.int .i64))));
  (L0 x0_0 (w64 (x0_1 + 1)) l1))))
  else
  (some (x0_2, ())))
def l0 (k : Nat) : Nat → T0
  | 0 => fun _ _ _ => none
  | n + 1 => b0 k (l0 k n)
def t (k : Nat) (L0 : T0) (a0 : List Int) : Option ((List Int) × Unit) :=
  (mks (Ty.bytes (.int .i64)) (List.length a0 : Int)
  (L0 a0 0 (List.replicate (Int.toNat (List.length a0 : Int)) (Ty.dflt (.int .i64)))))
def f (k : Nat) (a0 : List Int) : Option ((List Int) × Unit) := t k (l0 k k) a0
end laws_toIntS
namespace laws_toLive
def t (k : Nat) (a0 : Ty.den TLive) : Option ((Ty.den TLive) × Unit) :=
  (Option.bind (laws_toIntS.f k a0.2.1) fun r1 =>
  (some ((a0.1, r1), ())))
def f (k : Nat) (a0 : Ty.den TLive) : Option ((Ty.den TLive) × Unit) := t k a0
end laws_toLive
namespace laws_toEntry
def t (k : Nat) (a0 : Ty.den TEntry) : Option ((Ty.den TEntry) × Unit) :=
  (some (a0, ()))
def f (k : Nat) (a0 : Ty.den TEntry) : Option ((Ty.den TEntry) × Unit) := t k a0
end laws_toEntry
namespace laws_toEntryS
abbrev T0 : Type := List (Ty.den TEntry) → Int → List (Ty.den TEntry) → Option ((List (Ty.den TEntry)) × Unit)
def b0 (k : Nat) (L0 : T0) (x0_0 : List (Ty.den TEntry)) (x0_1 : Int) (x0_2 : List (Ty.den TEntry)) : Option ((List (Ty.den TEntry)) × Unit) :=
  (bif (decide (x0_1 < (List.length x0_0 : Int))) then
  (inb x0_1 (List.length x0_0 : Int)
  (Option.bind (laws_toEntry.f k (List.getD x0_0 (Int.toNat x0_1) (Ty.dflt TEntry))) fun r1 =>
  (inb x0_1 (List.length x0_2 : Int)
  (let l2 := (List.set x0_2 (Int.toNat x0_1) r1.1);
  (L0 x0_0 (w64 (x0_1 + 1)) l2)))))
  else
  (some (x0_2, ())))
def l0 (k : Nat) : Nat → T0
  | 0 => fun _ _ _ => none
  | n + 1 => b0 k (l0 k n)
def t (k : Nat) (L0 : T0) (a0 : List (Ty.den TEntry)) : Option ((List (Ty.den TEntry)) × Unit) :=
  (mks (Ty.bytes TEntry) (List.length a0 : Int)
  (L0 a0 0 (List.replicate (Int.toNat (List.length a0 : Int)) (Ty.dflt TEntry))))
def f (k : Nat) (a0 : List (Ty.den TEntry)) : Option ((List (Ty.den TEntry)) × Unit) := t k (l0 k k) a0
end laws_toEntryS
namespace laws_toStore
def t (k : Nat) (a0 : Ty.den TStore) : Option ((Ty.den TStore) × Unit) :=
  (Option.bind (laws_toLive.f k a0.1) fun r1 =>
  (Option.bind (laws_toEntryS.f k a0.2.1) fun r2 =>
  (some ((r1.1, (r2.1, a0.2.2)), ()))))
def f (k : Nat) (a0 : Ty.den TStore) : Option ((Ty.den TStore) × Unit) := t k a0
end laws_toStore
namespace laws_toFile
def t (k : Nat) (a0 : Ty.den TPair) : Option ((Ty.den TPair) × Unit) :=
  (some (a0, ()))
def f (k : Nat) (a0 : Ty.den TPair) : Option ((Ty.den TPair) × Unit) := t k a0
end laws_toFile
namespace laws_toFileS
abbrev T0 : Type := List (Ty.den TPair) → Int → List (Ty.den TPair) → Option ((List (Ty.den TPair)) × Unit)
def b0 (k : Nat) (L0 : T0) (x0_0 : List (Ty.den TPair)) (x0_1 : Int) (x0_2 : List (Ty.den TPair)) : Option ((List (Ty.den TPair)) × Unit) :=
  (bif (decide (x0_1 < (List.length x0_0 : Int))) then
  (inb x0_1 (List.length x0_0 : Int)
  (Option.bind (laws_toFile.f k (List.getD x0_0 (Int.toNat x0_1) (Ty.dflt TPair))) fun r1 =>
  (inb x0_1 (List.length x0_2 : Int)
  (let l2 := (List.set x0_2 (Int.toNat x0_1) r1.1);
  (L0 x0_0 (w64 (x0_1 + 1)) l2)))))
  else
  (some (x0_2, ())))
def l0 (k : Nat) : Nat → T0
  | 0 => fun _ _ _ => none
  | n + 1 => b0 k (l0 k n)
def t (k : Nat) (L0 : T0) (a0 : List (Ty.den TPair)) : Option ((List (Ty.den TPair)) × Unit) :=
  (mks (Ty.bytes TPair) (List.length a0 : Int)
  (L0 a0 0 (List.replicate (Int.toNat (List.length a0 : Int)) (Ty.dflt TPair))))
def f (k : Nat) (a0 : List (Ty.den TPair)) : Option ((List (Ty.den TPair)) × Unit) := t k (l0 k k) a0
end laws_toFileS
namespace laws_toDisk
def t (k : Nat) (a0 : Ty.den TDisk) : Option ((Ty.den TDisk) × Unit) :=
  (Option.bind (laws_toFileS.f k a0.1) fun r1 =>
  (some ((r1.1, a0.2), ())))
def f (k : Nat) (a0 : Ty.den TDisk) : Option ((Ty.den TDisk) × Unit) := t k a0
end laws_toDisk
namespace spec_DirGet
abbrev T0 : Type := List (Ty.den TEntry) → ByteArray → Int → ByteArray → Int → Int → Int → Int → Option ((Ty.den TEntry) × Bool × Unit)
def b0 (k : Nat) (L0 : T0) (x0_0 : List (Ty.den TEntry)) (x0_1 : ByteArray) (x0_2 : Int) (x0_3 : ByteArray) (x0_4 : Int) (x0_5 : Int) (x0_6 : Int) (x0_7 : Int) : Option ((Ty.den TEntry) × Bool × Unit) :=
  (bif (decide (x0_2 < (List.length x0_0 : Int))) then
  (inb x0_2 (List.length x0_0 : Int)
  (bif (seq (List.getD x0_0 (Int.toNat x0_2) (Ty.dflt TEntry)).1 x0_1) then
  (inb x0_2 (List.length x0_0 : Int)
  (some ((List.getD x0_0 (Int.toNat x0_2) (Ty.dflt TEntry)), (true, ()))))
  else
  (L0 x0_0 x0_1 (w64 (x0_2 + 1)) x0_3 x0_4 x0_5 x0_6 x0_7)))
  else
  (some ((ByteArray.empty, (0, (0, (0, (0, ()))))), (false, ()))))
def l0 (k : Nat) : Nat → T0
  | 0 => fun _ _ _ _ _ _ _ _ => none
  | n + 1 => b0 k (l0 k n)
def t (k : Nat) (L0 : T0) (a0 : List (Ty.den TEntry)) (a1 : ByteArray) : Option ((Ty.den TEntry) × Bool × Unit) :=
  (L0 a0 a1 0 ByteArray.empty 0 0 0 0)
def f (k : Nat) (a0 : List (Ty.den TEntry)) (a1 : ByteArray) : Option ((Ty.den TEntry) × Bool × Unit) := t k (l0 k k) a0 a1
end spec_DirGet
namespace spec_l1In
def t (k : Nat) (a0 : Int) (a1 : Int) (a2 : Int) : Option (Bool × Unit) :=
  (bif (decide (a0 ≥ a1)) then
  (some ((decide (a0 ≤ a2)), ()))
  else
  (some (false, ())))
def f (k : Nat) (a0 : Int) (a1 : Int) (a2 : Int) : Option (Bool × Unit) := t k a0 a1 a2
end spec_l1In
namespace spec_Dec
abbrev T0 : Type := Int → ByteArray → Bool → Option (ByteArray × Unit)
def b0 (k : Nat) (L0 : T0) (x0_0 : Int) (x0_1 : ByteArray) (x0_2 : Bool) : Option (ByteArray × Unit) :=
  (bif (x0_0 != 0) then
  (bif (decide ((Int.tmod x0_0 10) < 0)) then
  (cat (bytesOf [(IntKind.wrap .u8 (w64 (48 + (w64 (0 - (Int.tmod x0_0 10))))))]) x0_1
  (L0 (w64 (Int.tdiv x0_0 10)) ((bytesOf [(IntKind.wrap .u8 (w64 (48 + (w64 (0 - (Int.tmod x0_0 10))))))]) ++ x0_1) x0_2))
  else
  (cat (bytesOf [(IntKind.wrap .u8 (w64 (48 + (Int.tmod x0_0 10))))]) x0_1
  (L0 (w64 (Int.tdiv x0_0 10)) ((bytesOf [(IntKind.wrap .u8 (w64 (48 + (Int.tmod x0_0 10))))]) ++ x0_1) x0_2)))
  else
  (bif x0_2 then
  (cat (⟨#[45]⟩ : ByteArray) x0_1
  (some (((⟨#[45]⟩ : ByteArray) ++ x0_1), ())))
  else
  (some (x0_1, ()))))
def l0 (k : Nat) : Nat → T0
  | 0 => fun _ _ _ => none
  | n + 1 => b0 k (l0 k n)
def t (k : Nat) (L0 : T0) (a0 : Int) : Option (ByteArray × Unit) :=
  (bif (a0 == 0) then
  (some ((⟨#[48]⟩ : ByteArray), ()))
  else
  (L0 a0 (⟨#[]⟩ : ByteArray) (decide (a0 < 0))))
def f (k : Nat) (a0 : Int) : Option (ByteArray × Unit) := t k (l0 k k) a0
end spec_Dec
namespace spec_SegName
def t (k : Nat) (a0 : Int) : Option (ByteArray × Unit) :=
  (Option.bind (spec_l1In.f k a0 1 100000) fun r1 =>
  (bif (!r1.1) then
  (some ((⟨#[]⟩ : ByteArray), ()))
  else
  (Option.bind (spec_Dec.f k a0) fun r2 =>
  (cat (⟨#[115, 101, 103]⟩ : ByteArray) r2.1
  (some (((⟨#[115, 101, 103]⟩ : ByteArray) ++ r2.1), ()))))))
def f (k : Nat) (a0 : Int) : Option (ByteArray × Unit) := t k a0
end spec_SegName
namespace spec_l3Used
abbrev T0 : Type := Int → Int → List (Ty.den TPair) → Int → Int → Bool → Option (Int × Unit)
def b0 (k : Nat) (L0 : T0) (x0_0 : Int) (x0_1 : Int) (x0_2 : List (Ty.den TPair)) (x0_3 : Int) (x0_4 : Int) (x0_5 : Bool) : Option (Int × Unit) :=
  (bif (decide (x0_1 < (List.length x0_2 : Int))) then
  (inb x0_1 (List.length x0_2 : Int)
  (L0 (w64 (x0_0 + (ByteArray.size (List.getD x0_2 (Int.toNat x0_1) (Ty.dflt TPair)).2.1 : Int))) (w64 (x0_1 + 1)) x0_2 x0_3 x0_4 x0_5))
  else
  (some (x0_0, ())))
def l0 (k : Nat) : Nat → T0
  | 0 => fun _ _ _ _ _ _ => none
  | n + 1 => b0 k (l0 k n)
def t (k : Nat) (L0 : T0) (a0 : Ty.den TDisk) : Option (Int × Unit) :=
  (L0 0 0 a0.1 a0.2.1 a0.2.2.1 a0.2.2.2.1)
def f (k : Nat) (a0 : Ty.den TDisk) : Option (Int × Unit) := t k (l0 k k) a0
end spec_l3Used
namespace spec_NameOk
abbrev T0 : Type := ByteArray → Int → Option (Bool × Unit)
def b0 (k : Nat) (L0 : T0) (x0_0 : ByteArray) (x0_1 : Int) : Option (Bool × Unit) :=
  (bif (decide (x0_1 < (ByteArray.size x0_0 : Int))) then
  (inb x0_1 (ByteArray.size x0_0 : Int)
  (bif (decide ((byteAt x0_0 x0_1) ≥ 97)) then
  (inb x0_1 (ByteArray.size x0_0 : Int)
  (bif (decide ((byteAt x0_0 x0_1) ≤ 122)) then
  (L0 x0_0 (w64 (x0_1 + 1)))
  else
  (inb x0_1 (ByteArray.size x0_0 : Int)
  (bif (decide ((byteAt x0_0 x0_1) ≥ 48)) then
  (inb x0_1 (ByteArray.size x0_0 : Int)
  (bif (!(decide ((byteAt x0_0 x0_1) ≤ 57))) then
  (some (false, ()))
  else
  (L0 x0_0 (w64 (x0_1 + 1)))))
  else
  (some (false, ()))))))
  else
  (inb x0_1 (ByteArray.size x0_0 : Int)
  (bif (decide ((byteAt x0_0 x0_1) ≥ 48)) then
  (inb x0_1 (ByteArray.size x0_0 : Int)
  (bif (!(decide ((byteAt x0_0 x0_1) ≤ 57))) then
  (some (false, ()))
  else
  (L0 x0_0 (w64 (x0_1 + 1)))))
  else
  (some (false, ()))))))
  else
  (Option.bind (spec_l1In.f k (ByteArray.size x0_0 : Int) 1 12) fun r1 =>
  (some r1)))
def l0 (k : Nat) : Nat → T0
  | 0 => fun _ _ => none
  | n + 1 => b0 k (l0 k n)
def t (k : Nat) (L0 : T0) (a0 : ByteArray) : Option (Bool × Unit) :=
  (L0 a0 0)
def f (k : Nat) (a0 : ByteArray) : Option (Bool × Unit) := t k (l0 k k) a0
end spec_NameOk
namespace spec_DiskOk
abbrev T0 : Type := Int → List (Ty.den TPair) → Int → Int → Bool → Option (Bool × Unit)
def b0 (k : Nat) (L0 : T0) (x0_0 : Int) (x0_1 : List (Ty.den TPair)) (x0_2 : Int) (x0_3 : Int) (x0_4 : Bool) : Option (Bool × Unit) :=
  (bif (decide (x0_0 < (List.length x0_1 : Int))) then
  (inb x0_0 (List.length x0_1 : Int)
  (Option.bind (spec_NameOk.f k (List.getD x0_1 (Int.toNat x0_0) (Ty.dflt TPair)).1) fun r4 =>
  (bif (!r4.1) then
  (some (false, ()))
  else
  (inb x0_0 (List.length x0_1 : Int)
  (inb x0_0 (List.length x0_1 : Int)
  (Option.bind (spec_l1In.f k (List.getD x0_1 (Int.toNat x0_0) (Ty.dflt TPair)).2.2.1 0 (ByteArray.size (List.getD x0_1 (Int.toNat x0_0) (Ty.dflt TPair)).2.1 : Int)) fun r5 =>
  (bif (!r5.1) then
  (some (false, ()))
  else
  (bif (decide (x0_0 > 0)) then
  (inb x0_0 (List.length x0_1 : Int)
  (inb (w64 (x0_0 - 1)) (List.length x0_1 : Int)
  (bif ((sls (List.getD x0_1 (Int.toNat x0_0) (Ty.dflt TPair)).1 (List.getD x0_1 (Int.toNat (w64 (x0_0 - 1))) (Ty.dflt TPair)).1) || (seq (List.getD x0_1 (Int.toNat x0_0) (Ty.dflt TPair)).1 (List.getD x0_1 (Int.toNat (w64 (x0_0 - 1))) (Ty.dflt TPair)).1)) then
  (some (false, ()))
  else
  (L0 (w64 (x0_0 + 1)) x0_1 x0_2 x0_3 x0_4))))
  else
  (L0 (w64 (x0_0 + 1)) x0_1 x0_2 x0_3 x0_4)))))))))
  else
  (some (true, ())))
def l0 (k : Nat) : Nat → T0
  | 0 => fun _ _ _ _ _ => none
  | n + 1 => b0 k (l0 k n)
def t (k : Nat) (L0 : T0) (a0 : Ty.den TDisk) : Option (Bool × Unit) :=
  (bif (decide ((List.length a0.1 : Int) > 130)) then
  (some (false, ()))
  else
  (Option.bind (spec_l1In.f k a0.2.1 0 100000) fun r1 =>
  (bif (!r1.1) then
  (some (false, ()))
  else
  (Option.bind (spec_l1In.f k a0.2.2.1 (-1) 100000) fun r2 =>
  (bif (!r2.1) then
  (some (false, ()))
  else
  (Option.bind (spec_l3Used.f k a0) fun r3 =>
  (bif (decide (r3.1 > a0.2.1)) then
  (some (false, ()))
  else
  (L0 0 a0.1 a0.2.1 a0.2.2.1 a0.2.2.2.1))))))))
def f (k : Nat) (a0 : Ty.den TDisk) : Option (Bool × Unit) := t k (l0 k k) a0
end spec_DiskOk
namespace spec_l3Find
abbrev T0 : Type := ByteArray → Int → List (Ty.den TPair) → Int → Int → Bool → Option (Int × Unit)
def b0 (k : Nat) (L0 : T0) (x0_0 : ByteArray) (x0_1 : Int) (x0_2 : List (Ty.den TPair)) (x0_3 : Int) (x0_4 : Int) (x0_5 : Bool) : Option (Int × Unit) :=
  (bif (decide (x0_1 < (List.length x0_2 : Int))) then
  (inb x0_1 (List.length x0_2 : Int)
  (bif (seq (List.getD x0_2 (Int.toNat x0_1) (Ty.dflt TPair)).1 x0_0) then
  (some (x0_1, ()))
  else
  (L0 x0_0 (w64 (x0_1 + 1)) x0_2 x0_3 x0_4 x0_5)))
  else
  (some ((-1), ())))
def l0 (k : Nat) : Nat → T0
  | 0 => fun _ _ _ _ _ _ => none
  | n + 1 => b0 k (l0 k n)
def t (k : Nat) (L0 : T0) (a0 : Ty.den TDisk) (a1 : ByteArray) : Option (Int × Unit) :=
  (L0 a1 0 a0.1 a0.2.1 a0.2.2.1 a0.2.2.2.1)
def f (k : Nat) (a0 : Ty.den TDisk) (a1 : ByteArray) : Option (Int × Unit) := t k (l0 k k) a0 a1
end spec_l3Find
namespace spec_FileText
def t (k : Nat) (a0 : Ty.den TDisk) (a1 : ByteArray) : Option (ByteArray × Bool × Unit) :=
  (Option.bind (spec_DiskOk.f k a0) fun r1 =>
  (bif (!r1.1) then
  (some ((⟨#[]⟩ : ByteArray), (false, ())))
  else
  (Option.bind (spec_l3Find.f k a0 a1) fun r2 =>
  (bif (decide (r2.1 < 0)) then
  (some ((⟨#[]⟩ : ByteArray), (false, ())))
  else
  (inb r2.1 (List.length a0.1 : Int)
  (some ((List.getD a0.1 (Int.toNat r2.1) (Ty.dflt TPair)).2.1, (true, ()))))))))
def f (k : Nat) (a0 : Ty.den TDisk) (a1 : ByteArray) : Option (ByteArray × Bool × Unit) := t k a0 a1
end spec_FileText
namespace spec_Var
abbrev T0 : Type := Int → List Int → Option (ByteArray × Unit)
def b0 (k : Nat) (L0 : T0) (x0_0 : Int) (x0_1 : List Int) : Option (ByteArray × Unit) :=
  (bif (decide (x0_0 ≥ 128)) then
  (rm (Ty.bytes (.int .u8)) (List.length x0_1 + 1)
  (L0 (w64 (Int.tdiv x0_0 128)) (x0_1 ++ [(IntKind.wrap .u8 (w64 (128 + (Int.tmod x0_0 128))))])))
  else
  (rm (Ty.bytes (.int .u8)) (List.length x0_1 + 1)
  (some ((bytesOf (x0_1 ++ [(IntKind.wrap .u8 x0_0)])), ()))))
def l0 (k : Nat) : Nat → T0
  | 0 => fun _ _ => none
  | n + 1 => b0 k (l0 k n)
def t (k : Nat) (L0 : T0) (a0 : Int) : Option (ByteArray × Unit) :=
  (Option.bind (spec_l1In.f k a0 0 562949953421311) fun r1 =>
  (bif (!r1.1) then
  (some ((⟨#[]⟩ : ByteArray), ()))
  else
  (L0 a0 [])))
def f (k : Nat) (a0 : Int) : Option (ByteArray × Unit) := t k (l0 k k) a0
end spec_Var
namespace spec_ReadVar
abbrev T1 : Type := ByteArray → Int → Int → Int → Option (Int × Int × Unit)
abbrev T0 : Type := ByteArray → Int → Option (Int × Int × Unit)
def b1 (k : Nat) (L0 : T0) (L1 : T1) (x1_0 : ByteArray) (x1_1 : Int) (x1_2 : Int) (x1_3 : Int) : Option (Int × Int × Unit) :=
  (bif (decide (x1_3 ≥ 0)) then
  (inb x1_3 (ByteArray.size x1_0 : Int)
  (L1 x1_0 x1_1 (w64 ((w64 (x1_2 * 128)) + (Int.tmod (w64 (byteAt x1_0 x1_3)) 128))) (w64 (x1_3 - 1))))
  else
  (Option.bind (spec_Var.f k x1_2) fun r1 =>
  (inc x1_1 (ByteArray.size x1_0 : Int)
  (bif (seq r1.1 (ByteArray.extract x1_0 0 (Int.toNat x1_1))) then
  (some (x1_2, (x1_1, ())))
  else
  (L0 x1_0 (w64 (x1_1 + 1)))))))
def l1 (k : Nat) (L0 : T0) : Nat → T1
  | 0 => fun _ _ _ _ => none
  | n + 1 => b1 k L0 (l1 k L0 n)
def b0 (k : Nat) (L1 : T1) (L0 : T0) (x0_0 : ByteArray) (x0_1 : Int) : Option (Int × Int × Unit) :=
  (bif (decide (x0_1 ≤ 7)) then
  (bif (decide (x0_1 ≤ (ByteArray.size x0_0 : Int))) then
  (L1 x0_0 x0_1 0 (w64 (x0_1 - 1)))
  else
  (some (0, (0, ()))))
  else
  (some (0, (0, ()))))
def l0 (k : Nat) : Nat → T0
  | 0 => fun _ _ => none
  | n + 1 => b0 k (l1 k (l0 k n) k) (l0 k n)
def t (k : Nat) (L0 : T0) (a0 : ByteArray) : Option (Int × Int × Unit) :=
  (L0 a0 1)
def f (k : Nat) (a0 : ByteArray) : Option (Int × Int × Unit) := t k (l0 k k) a0
end spec_ReadVar
namespace spec_Crc
abbrev T1 : Type := ByteArray → Int → Int → Int → Option (Int × Unit)
abbrev T0 : Type := ByteArray → Int → Int → Option (Int × Unit)
def b1 (k : Nat) (L0 : T0) (L1 : T1) (x1_0 : ByteArray) (x1_1 : Int) (x1_2 : Int) (x1_3 : Int) : Option (Int × Unit) :=
  (bif (decide (x1_3 < 8)) then
  (bif ((Int.tmod x1_1 2) == 1) then
  (L1 x1_0 (w64 (((BitVec.ofInt (IntKind.bits .i64) (w64 (Int.tdiv x1_1 2)) ^^^ BitVec.ofInt (IntKind.bits .i64) 2197175160).toNat : Int))) x1_2 (w64 (x1_3 + 1)))
  else
  (L1 x1_0 (w64 (Int.tdiv x1_1 2)) x1_2 (w64 (x1_3 + 1))))
  else
  (L0 x1_0 x1_1 (w64 (x1_2 + 1))))
def l1 (k : Nat) (L0 : T0) : Nat → T1
  | 0 => fun _ _ _ _ => none
  | n + 1 => b1 k L0 (l1 k L0 n)
def b0 (k : Nat) (L1 : T1) (L0 : T0) (x0_0 : ByteArray) (x0_1 : Int) (x0_2 : Int) : Option (Int × Unit) :=
  (bif (decide (x0_2 < (ByteArray.size x0_0 : Int))) then
  (inb x0_2 (ByteArray.size x0_0 : Int)
  (L1 x0_0 (w64 (((BitVec.ofInt (IntKind.bits .i64) x0_1 ^^^ BitVec.ofInt (IntKind.bits .i64) (w64 (byteAt x0_0 x0_2))).toNat : Int))) x0_2 0))
  else
  (some ((w64 (4294967295 - x0_1)), ())))
def l0 (k : Nat) : Nat → T0
  | 0 => fun _ _ _ => none
  | n + 1 => b0 k (l1 k (l0 k n) k) (l0 k n)
def t (k : Nat) (L0 : T0) (a0 : ByteArray) : Option (Int × Unit) :=
  (L0 a0 4294967295 0)
def f (k : Nat) (a0 : ByteArray) : Option (Int × Unit) := t k (l0 k k) a0
end spec_Crc
namespace spec_Fixed
abbrev T0 : Type := Int → Int → ByteArray → Int → Option (ByteArray × Unit)
def b0 (k : Nat) (L0 : T0) (x0_0 : Int) (x0_1 : Int) (x0_2 : ByteArray) (x0_3 : Int) : Option (ByteArray × Unit) :=
  (bif (decide (x0_3 < x0_1)) then
  (cat (bytesOf [(IntKind.wrap .u8 (Int.tmod x0_0 256))]) x0_2
  (L0 (w64 (Int.tdiv x0_0 256)) x0_1 ((bytesOf [(IntKind.wrap .u8 (Int.tmod x0_0 256))]) ++ x0_2) (w64 (x0_3 + 1))))
  else
  (bif (decide (x0_0 > 0)) then
  (some ((⟨#[]⟩ : ByteArray), ()))
  else
  (some (x0_2, ()))))
def l0 (k : Nat) : Nat → T0
  | 0 => fun _ _ _ _ => none
  | n + 1 => b0 k (l0 k n)
def t (k : Nat) (L0 : T0) (a0 : Int) (a1 : Int) : Option (ByteArray × Unit) :=
  (Option.bind (spec_l1In.f k a1 1 7) fun r1 =>
  (bif (!r1.1) then
  (some ((⟨#[]⟩ : ByteArray), ()))
  else
  (bif (decide (a0 < 0)) then
  (some ((⟨#[]⟩ : ByteArray), ()))
  else
  (L0 a0 a1 (⟨#[]⟩ : ByteArray) 0))))
def f (k : Nat) (a0 : Int) (a1 : Int) : Option (ByteArray × Unit) := t k (l0 k k) a0 a1
end spec_Fixed
namespace spec_Frame
def t (k : Nat) (a0 : ByteArray) : Option (ByteArray × Unit) :=
  (bif (decide ((ByteArray.size a0 : Int) > 200)) then
  (some ((⟨#[]⟩ : ByteArray), ()))
  else
  (Option.bind (spec_Var.f k (ByteArray.size a0 : Int)) fun r1 =>
  (cat r1.1 a0
  (Option.bind (spec_Crc.f k (r1.1 ++ a0)) fun r2 =>
  (Option.bind (spec_Fixed.f k r2.1 4) fun r3 =>
  (cat r3.1 (r1.1 ++ a0)
  (some ((r3.1 ++ (r1.1 ++ a0)), ()))))))))
def f (k : Nat) (a0 : ByteArray) : Option (ByteArray × Unit) := t k a0
end spec_Frame
namespace spec_Unframe
def t (k : Nat) (a0 : ByteArray) : Option (ByteArray × Int × Unit) :=
  (bif (decide ((ByteArray.size a0 : Int) < 5)) then
  (some ((⟨#[]⟩ : ByteArray), (0, ())))
  else
  (inc 4 (ByteArray.size a0 : Int)
  (Option.bind (spec_ReadVar.f k (ByteArray.extract a0 4 (ByteArray.size a0))) fun r1 =>
  (bif (r1.2.1 == 0) then
  (some ((⟨#[]⟩ : ByteArray), (0, ())))
  else
  (bif (decide (r1.1 > 200)) then
  (some ((⟨#[]⟩ : ByteArray), (0, ())))
  else
  (bif (decide (r1.1 > (w64 ((w64 ((ByteArray.size a0 : Int) - 4)) - r1.2.1)))) then
  (some ((⟨#[]⟩ : ByteArray), (0, ())))
  else
  (inc2 (w64 (4 + r1.2.1)) (w64 ((w64 (4 + r1.2.1)) + r1.1)) (ByteArray.size a0 : Int)
  (inc (w64 ((w64 (4 + r1.2.1)) + r1.1)) (ByteArray.size a0 : Int)
  (Option.bind (spec_Frame.f k (ByteArray.extract a0 (Int.toNat (w64 (4 + r1.2.1))) (Int.toNat (w64 ((w64 (4 + r1.2.1)) + r1.1))))) fun r2 =>
  (bif (!(seq (ByteArray.extract a0 0 (Int.toNat (w64 ((w64 (4 + r1.2.1)) + r1.1)))) r2.1)) then
  (some ((⟨#[]⟩ : ByteArray), (0, ())))
  else
  (some ((ByteArray.extract a0 (Int.toNat (w64 (4 + r1.2.1))) (Int.toNat (w64 ((w64 (4 + r1.2.1)) + r1.1)))), ((w64 ((w64 (4 + r1.2.1)) + r1.1)), ())))))))))))))
def f (k : Nat) (a0 : ByteArray) : Option (ByteArray × Int × Unit) := t k a0
end spec_Unframe
namespace spec_l5Text
def t (k : Nat) (a0 : ByteArray) : Option (ByteArray × ByteArray × Bool × Unit) :=
  (Option.bind (spec_ReadVar.f k a0) fun r1 =>
  (bif (r1.2.1 == 0) then
  (some ((⟨#[]⟩ : ByteArray), ((⟨#[]⟩ : ByteArray), (false, ()))))
  else
  (bif (decide (r1.1 > (w64 ((ByteArray.size a0 : Int) - r1.2.1)))) then
  (some ((⟨#[]⟩ : ByteArray), ((⟨#[]⟩ : ByteArray), (false, ()))))
  else
  (inc2 r1.2.1 (w64 (r1.2.1 + r1.1)) (ByteArray.size a0 : Int)
  (inc (w64 (r1.2.1 + r1.1)) (ByteArray.size a0 : Int)
  (some ((ByteArray.extract a0 (Int.toNat r1.2.1) (Int.toNat (w64 (r1.2.1 + r1.1)))), ((ByteArray.extract a0 (Int.toNat (w64 (r1.2.1 + r1.1))) (ByteArray.size a0)), (true, ())))))))))
def f (k : Nat) (a0 : ByteArray) : Option (ByteArray × ByteArray × Bool × Unit) := t k a0
end spec_l5Text
namespace spec_KeyOk
def t (k : Nat) (a0 : ByteArray) : Option (Bool × Unit) :=
  (Option.bind (spec_l1In.f k (ByteArray.size a0 : Int) 1 8) fun r1 =>
  (some r1))
def f (k : Nat) (a0 : ByteArray) : Option (Bool × Unit) := t k a0
end spec_KeyOk
namespace spec_RecOk
def t (k : Nat) (a0 : Ty.den TRec) : Option (Bool × Unit) :=
  (Option.bind (spec_l1In.f k a0.2.1 0 1000000) fun r1 =>
  (bif (!r1.1) then
  (some (false, ()))
  else
  (bif (a0.2.1 == 0) then
  (bif (a0.1 != 5) then
  (some (false, ()))
  else
  (bif (a0.1 == 1) then
  (bif (a0.1 == 1) then
  (Option.bind (spec_KeyOk.f k a0.2.2.1) fun r2 =>
  (bif r2.1 then
  (bif (decide ((ByteArray.size a0.2.2.2.1 : Int) ≤ 24)) then
  (bif (a0.2.2.2.2.1 == 0) then
  (some ((a0.2.2.2.2.2.1 == 0), ()))
  else
  (some (false, ())))
  else
  (some (false, ())))
  else
  (some (false, ()))))
  else
  (bif (a0.1 == 2) then
  (Option.bind (spec_KeyOk.f k a0.2.2.1) fun r3 =>
  (bif r3.1 then
  (bif (seq a0.2.2.2.1 (⟨#[]⟩ : ByteArray)) then
  (bif (a0.2.2.2.2.1 == 0) then
  (some ((a0.2.2.2.2.2.1 == 0), ()))
  else
  (some (false, ())))
  else
  (some (false, ())))
  else
  (some (false, ()))))
  else
  (bif (a0.1 == 3) then
  (bif (seq a0.2.2.1 (⟨#[]⟩ : ByteArray)) then
  (bif (seq a0.2.2.2.1 (⟨#[]⟩ : ByteArray)) then
  (Option.bind (spec_l1In.f k a0.2.2.2.2.1 0 8) fun r4 =>
  (bif r4.1 then
  (Option.bind (spec_l1In.f k a0.2.2.2.2.2.1 0 4294967295) fun r5 =>
  (some r5))
  else
  (some (false, ()))))
  else
  (some (false, ())))
  else
  (some (false, ())))
  else
  (bif (a0.1 == 5) then
  (bif (seq a0.2.2.1 (⟨#[]⟩ : ByteArray)) then
  (bif (seq a0.2.2.2.1 (⟨#[]⟩ : ByteArray)) then
  (Option.bind (spec_l1In.f k a0.2.2.2.2.1 0 20) fun r6 =>
  (bif r6.1 then
  (Option.bind (spec_l1In.f k a0.2.2.2.2.2.1 0 4294967295) fun r7 =>
  (some r7))
  else
  (some (false, ()))))
  else
  (some (false, ())))
  else
  (some (false, ())))
  else
  (some (false, ()))))))
  else
  (bif (a0.1 == 4) then
  (Option.bind (spec_KeyOk.f k a0.2.2.1) fun r8 =>
  (bif r8.1 then
  (bif (decide ((ByteArray.size a0.2.2.2.1 : Int) ≤ 24)) then
  (bif (a0.2.2.2.2.1 == 0) then
  (some ((a0.2.2.2.2.2.1 == 0), ()))
  else
  (some (false, ())))
  else
  (some (false, ())))
  else
  (some (false, ()))))
  else
  (bif (a0.1 == 2) then
  (Option.bind (spec_KeyOk.f k a0.2.2.1) fun r9 =>
  (bif r9.1 then
  (bif (seq a0.2.2.2.1 (⟨#[]⟩ : ByteArray)) then
  (bif (a0.2.2.2.2.1 == 0) then
  (some ((a0.2.2.2.2.2.1 == 0), ()))
  else
  (some (false, ())))
  else
  (some (false, ())))
  else
  (some (false, ()))))
  else
  (bif (a0.1 == 3) then
  (bif (seq a0.2.2.1 (⟨#[]⟩ : ByteArray)) then
  (bif (seq a0.2.2.2.1 (⟨#[]⟩ : ByteArray)) then
  (Option.bind (spec_l1In.f k a0.2.2.2.2.1 0 8) fun r10 =>
  (bif r10.1 then
  (Option.bind (spec_l1In.f k a0.2.2.2.2.2.1 0 4294967295) fun r11 =>
  (some r11))
  else
  (some (false, ()))))
  else
  (some (false, ())))
  else
  (some (false, ())))
  else
  (bif (a0.1 == 5) then
  (bif (seq a0.2.2.1 (⟨#[]⟩ : ByteArray)) then
  (bif (seq a0.2.2.2.1 (⟨#[]⟩ : ByteArray)) then
  (Option.bind (spec_l1In.f k a0.2.2.2.2.1 0 20) fun r12 =>
  (bif r12.1 then
  (Option.bind (spec_l1In.f k a0.2.2.2.2.2.1 0 4294967295) fun r13 =>
  (some r13))
  else
  (some (false, ()))))
  else
  (some (false, ())))
  else
  (some (false, ())))
  else
  (some (false, ()))))))))
  else
  (bif (a0.1 == 1) then
  (bif (a0.1 == 1) then
  (Option.bind (spec_KeyOk.f k a0.2.2.1) fun r14 =>
  (bif r14.1 then
  (bif (decide ((ByteArray.size a0.2.2.2.1 : Int) ≤ 24)) then
  (bif (a0.2.2.2.2.1 == 0) then
  (some ((a0.2.2.2.2.2.1 == 0), ()))
  else
  (some (false, ())))
  else
  (some (false, ())))
  else
  (some (false, ()))))
  else
  (bif (a0.1 == 2) then
  (Option.bind (spec_KeyOk.f k a0.2.2.1) fun r15 =>
  (bif r15.1 then
  (bif (seq a0.2.2.2.1 (⟨#[]⟩ : ByteArray)) then
  (bif (a0.2.2.2.2.1 == 0) then
  (some ((a0.2.2.2.2.2.1 == 0), ()))
  else
  (some (false, ())))
  else
  (some (false, ())))
  else
  (some (false, ()))))
  else
  (bif (a0.1 == 3) then
  (bif (seq a0.2.2.1 (⟨#[]⟩ : ByteArray)) then
  (bif (seq a0.2.2.2.1 (⟨#[]⟩ : ByteArray)) then
  (Option.bind (spec_l1In.f k a0.2.2.2.2.1 0 8) fun r16 =>
  (bif r16.1 then
  (Option.bind (spec_l1In.f k a0.2.2.2.2.2.1 0 4294967295) fun r17 =>
  (some r17))
  else
  (some (false, ()))))
  else
  (some (false, ())))
  else
  (some (false, ())))
  else
  (bif (a0.1 == 5) then
  (bif (seq a0.2.2.1 (⟨#[]⟩ : ByteArray)) then
  (bif (seq a0.2.2.2.1 (⟨#[]⟩ : ByteArray)) then
  (Option.bind (spec_l1In.f k a0.2.2.2.2.1 0 20) fun r18 =>
  (bif r18.1 then
  (Option.bind (spec_l1In.f k a0.2.2.2.2.2.1 0 4294967295) fun r19 =>
  (some r19))
  else
  (some (false, ()))))
  else
  (some (false, ())))
  else
  (some (false, ())))
  else
  (some (false, ()))))))
  else
  (bif (a0.1 == 4) then
  (Option.bind (spec_KeyOk.f k a0.2.2.1) fun r20 =>
  (bif r20.1 then
  (bif (decide ((ByteArray.size a0.2.2.2.1 : Int) ≤ 24)) then
  (bif (a0.2.2.2.2.1 == 0) then
  (some ((a0.2.2.2.2.2.1 == 0), ()))
  else
  (some (false, ())))
  else
  (some (false, ())))
  else
  (some (false, ()))))
  else
  (bif (a0.1 == 2) then
  (Option.bind (spec_KeyOk.f k a0.2.2.1) fun r21 =>
  (bif r21.1 then
  (bif (seq a0.2.2.2.1 (⟨#[]⟩ : ByteArray)) then
  (bif (a0.2.2.2.2.1 == 0) then
  (some ((a0.2.2.2.2.2.1 == 0), ()))
  else
  (some (false, ())))
  else
  (some (false, ())))
  else
  (some (false, ()))))
  else
  (bif (a0.1 == 3) then
  (bif (seq a0.2.2.1 (⟨#[]⟩ : ByteArray)) then
  (bif (seq a0.2.2.2.1 (⟨#[]⟩ : ByteArray)) then
  (Option.bind (spec_l1In.f k a0.2.2.2.2.1 0 8) fun r22 =>
  (bif r22.1 then
  (Option.bind (spec_l1In.f k a0.2.2.2.2.2.1 0 4294967295) fun r23 =>
  (some r23))
  else
  (some (false, ()))))
  else
  (some (false, ())))
  else
  (some (false, ())))
  else
  (bif (a0.1 == 5) then
  (bif (seq a0.2.2.1 (⟨#[]⟩ : ByteArray)) then
  (bif (seq a0.2.2.2.1 (⟨#[]⟩ : ByteArray)) then
  (Option.bind (spec_l1In.f k a0.2.2.2.2.1 0 20) fun r24 =>
  (bif r24.1 then
  (Option.bind (spec_l1In.f k a0.2.2.2.2.2.1 0 4294967295) fun r25 =>
  (some r25))
  else
  (some (false, ()))))
  else
  (some (false, ())))
  else
  (some (false, ())))
  else
  (some (false, ()))))))))))
def f (k : Nat) (a0 : Ty.den TRec) : Option (Bool × Unit) := t k a0
end spec_RecOk
namespace spec_ShowRec
def t (k : Nat) (a0 : Ty.den TRec) : Option (ByteArray × Unit) :=
  (Option.bind (spec_RecOk.f k a0) fun r1 =>
  (bif (!r1.1) then
  (some ((⟨#[]⟩ : ByteArray), ()))
  else
  (Option.bind (spec_Var.f k a0.1) fun r2 =>
  (Option.bind (spec_Var.f k a0.2.1) fun r3 =>
  (cat r2.1 r3.1
  (bif (a0.1 == 1) then
  (bif (a0.1 == 1) then
  (Option.bind (spec_Var.f k (ByteArray.size a0.2.2.1 : Int)) fun r4 =>
  (cat (r2.1 ++ r3.1) r4.1
  (cat ((r2.1 ++ r3.1) ++ r4.1) a0.2.2.1
  (Option.bind (spec_Var.f k (ByteArray.size a0.2.2.2.1 : Int)) fun r5 =>
  (cat (((r2.1 ++ r3.1) ++ r4.1) ++ a0.2.2.1) r5.1
  (cat ((((r2.1 ++ r3.1) ++ r4.1) ++ a0.2.2.1) ++ r5.1) a0.2.2.2.1
  (some ((((((r2.1 ++ r3.1) ++ r4.1) ++ a0.2.2.1) ++ r5.1) ++ a0.2.2.2.1), ()))))))))
  else
  (bif (a0.1 == 2) then
  (Option.bind (spec_Var.f k (ByteArray.size a0.2.2.1 : Int)) fun r6 =>
  (cat (r2.1 ++ r3.1) r6.1
  (cat ((r2.1 ++ r3.1) ++ r6.1) a0.2.2.1
  (some ((((r2.1 ++ r3.1) ++ r6.1) ++ a0.2.2.1), ())))))
  else
  (Option.bind (spec_Var.f k a0.2.2.2.2.1) fun r7 =>
  (cat (r2.1 ++ r3.1) r7.1
  (Option.bind (spec_Fixed.f k a0.2.2.2.2.2.1 4) fun r8 =>
  (cat ((r2.1 ++ r3.1) ++ r7.1) r8.1
  (some ((((r2.1 ++ r3.1) ++ r7.1) ++ r8.1), ()))))))))
  else
  (bif (a0.1 == 4) then
  (Option.bind (spec_Var.f k (ByteArray.size a0.2.2.1 : Int)) fun r9 =>
  (cat (r2.1 ++ r3.1) r9.1
  (cat ((r2.1 ++ r3.1) ++ r9.1) a0.2.2.1
  (Option.bind (spec_Var.f k (ByteArray.size a0.2.2.2.1 : Int)) fun r10 =>
  (cat (((r2.1 ++ r3.1) ++ r9.1) ++ a0.2.2.1) r10.1
  (cat ((((r2.1 ++ r3.1) ++ r9.1) ++ a0.2.2.1) ++ r10.1) a0.2.2.2.1
  (some ((((((r2.1 ++ r3.1) ++ r9.1) ++ a0.2.2.1) ++ r10.1) ++ a0.2.2.2.1), ()))))))))
  else
  (bif (a0.1 == 2) then
  (Option.bind (spec_Var.f k (ByteArray.size a0.2.2.1 : Int)) fun r11 =>
  (cat (r2.1 ++ r3.1) r11.1
  (cat ((r2.1 ++ r3.1) ++ r11.1) a0.2.2.1
  (some ((((r2.1 ++ r3.1) ++ r11.1) ++ a0.2.2.1), ())))))
  else
  (Option.bind (spec_Var.f k a0.2.2.2.2.1) fun r12 =>
  (cat (r2.1 ++ r3.1) r12.1
  (Option.bind (spec_Fixed.f k a0.2.2.2.2.2.1 4) fun r13 =>
  (cat ((r2.1 ++ r3.1) ++ r12.1) r13.1
  (some ((((r2.1 ++ r3.1) ++ r12.1) ++ r13.1), ()))))))))))))))
def f (k : Nat) (a0 : Ty.den TRec) : Option (ByteArray × Unit) := t k a0
end spec_ShowRec
namespace spec_ReadFixed
abbrev T0 : Type := ByteArray → Int → Int → Int → Option (Int × Bool × Unit)
def b0 (k : Nat) (L0 : T0) (x0_0 : ByteArray) (x0_1 : Int) (x0_2 : Int) (x0_3 : Int) : Option (Int × Bool × Unit) :=
  (bif (decide (x0_3 < x0_1)) then
  (inb x0_3 (ByteArray.size x0_0 : Int)
  (L0 x0_0 x0_1 (w64 ((w64 (x0_2 * 256)) + (w64 (byteAt x0_0 x0_3)))) (w64 (x0_3 + 1))))
  else
  (some (x0_2, (true, ()))))
def l0 (k : Nat) : Nat → T0
  | 0 => fun _ _ _ _ => none
  | n + 1 => b0 k (l0 k n)
def t (k : Nat) (L0 : T0) (a0 : ByteArray) (a1 : Int) : Option (Int × Bool × Unit) :=
  (Option.bind (spec_l1In.f k a1 1 7) fun r1 =>
  (bif (!r1.1) then
  (some (0, (false, ())))
  else
  (bif (decide ((ByteArray.size a0 : Int) < a1)) then
  (some (0, (false, ())))
  else
  (L0 a0 a1 0 0))))
def f (k : Nat) (a0 : ByteArray) (a1 : Int) : Option (Int × Bool × Unit) := t k (l0 k k) a0 a1
end spec_ReadFixed
namespace spec_ReadRec
def t (k : Nat) (a0 : ByteArray) : Option ((Ty.den TRec) × Bool × Unit) :=
  (Option.bind (spec_ReadVar.f k a0) fun r1 =>
  (inc r1.2.1 (ByteArray.size a0 : Int)
  (Option.bind (spec_ReadVar.f k (ByteArray.extract a0 (Int.toNat r1.2.1) (ByteArray.size a0))) fun r2 =>
  (bif (r1.2.1 == 0) then
  (some ((0, (0, (ByteArray.empty, (ByteArray.empty, (0, (0, ())))))), (false, ())))
  else
  (bif (r2.2.1 == 0) then
  (some ((0, (0, (ByteArray.empty, (ByteArray.empty, (0, (0, ())))))), (false, ())))
  else
  (inc (w64 (r1.2.1 + r2.2.1)) (ByteArray.size a0 : Int)
  (bif (r1.1 == 1) then
  (bif (r1.1 == 1) then
  (Option.bind (spec_l5Text.f k (ByteArray.extract a0 (Int.toNat (w64 (r1.2.1 + r2.2.1))) (ByteArray.size a0))) fun r3 =>
  (Option.bind (spec_l5Text.f k r3.2.1) fun r4 =>
  (Option.bind (spec_ShowRec.f k (r1.1, (r2.1, (r3.1, (r4.1, (0, (0, ()))))))) fun r5 =>
  (bif (!(seq r5.1 a0)) then
  (some ((0, (0, (ByteArray.empty, (ByteArray.empty, (0, (0, ())))))), (false, ())))
  else
  (bif (seq a0 (⟨#[]⟩ : ByteArray)) then
  (some ((0, (0, (ByteArray.empty, (ByteArray.empty, (0, (0, ())))))), (false, ())))
  else
  (some ((r1.1, (r2.1, (r3.1, (r4.1, (0, (0, ())))))), (true, ()))))))))
  else
  (bif (r1.1 == 2) then
  (Option.bind (spec_l5Text.f k (ByteArray.extract a0 (Int.toNat (w64 (r1.2.1 + r2.2.1))) (ByteArray.size a0))) fun r6 =>
  (Option.bind (spec_ShowRec.f k (r1.1, (r2.1, (r6.1, (ByteArray.empty, (0, (0, ()))))))) fun r7 =>
  (bif (!(seq r7.1 a0)) then
  (some ((0, (0, (ByteArray.empty, (ByteArray.empty, (0, (0, ())))))), (false, ())))
  else
  (bif (seq a0 (⟨#[]⟩ : ByteArray)) then
  (some ((0, (0, (ByteArray.empty, (ByteArray.empty, (0, (0, ())))))), (false, ())))
  else
  (some ((r1.1, (r2.1, (r6.1, (ByteArray.empty, (0, (0, ())))))), (true, ())))))))
  else
  (Option.bind (spec_ReadVar.f k (ByteArray.extract a0 (Int.toNat (w64 (r1.2.1 + r2.2.1))) (ByteArray.size a0))) fun r8 =>
  (inc r8.2.1 (ByteArray.size (ByteArray.extract a0 (Int.toNat (w64 (r1.2.1 + r2.2.1))) (ByteArray.size a0)) : Int)
  (Option.bind (spec_ReadFixed.f k (ByteArray.extract (ByteArray.extract a0 (Int.toNat (w64 (r1.2.1 + r2.2.1))) (ByteArray.size a0)) (Int.toNat r8.2.1) (ByteArray.size (ByteArray.extract a0 (Int.toNat (w64 (r1.2.1 + r2.2.1))) (ByteArray.size a0)))) 4) fun r9 =>
  (Option.bind (spec_ShowRec.f k (r1.1, (r2.1, (ByteArray.empty, (ByteArray.empty, (r8.1, (r9.1, ()))))))) fun r10 =>
  (bif (!(seq r10.1 a0)) then
  (some ((0, (0, (ByteArray.empty, (ByteArray.empty, (0, (0, ())))))), (false, ())))
  else
  (bif (seq a0 (⟨#[]⟩ : ByteArray)) then
  (some ((0, (0, (ByteArray.empty, (ByteArray.empty, (0, (0, ())))))), (false, ())))
  else
  (some ((r1.1, (r2.1, (ByteArray.empty, (ByteArray.empty, (r8.1, (r9.1, ())))))), (true, ())))))))))))
  else
  (bif (r1.1 == 4) then
  (Option.bind (spec_l5Text.f k (ByteArray.extract a0 (Int.toNat (w64 (r1.2.1 + r2.2.1))) (ByteArray.size a0))) fun r11 =>
  (Option.bind (spec_l5Text.f k r11.2.1) fun r12 =>
  (Option.bind (spec_ShowRec.f k (r1.1, (r2.1, (r11.1, (r12.1, (0, (0, ()))))))) fun r13 =>
  (bif (!(seq r13.1 a0)) then
  (some ((0, (0, (ByteArray.empty, (ByteArray.empty, (0, (0, ())))))), (false, ())))
  else
  (bif (seq a0 (⟨#[]⟩ : ByteArray)) then
  (some ((0, (0, (ByteArray.empty, (ByteArray.empty, (0, (0, ())))))), (false, ())))
  else
  (some ((r1.1, (r2.1, (r11.1, (r12.1, (0, (0, ())))))), (true, ()))))))))
  else
  (bif (r1.1 == 2) then
  (Option.bind (spec_l5Text.f k (ByteArray.extract a0 (Int.toNat (w64 (r1.2.1 + r2.2.1))) (ByteArray.size a0))) fun r14 =>
  (Option.bind (spec_ShowRec.f k (r1.1, (r2.1, (r14.1, (ByteArray.empty, (0, (0, ()))))))) fun r15 =>
  (bif (!(seq r15.1 a0)) then
  (some ((0, (0, (ByteArray.empty, (ByteArray.empty, (0, (0, ())))))), (false, ())))
  else
  (bif (seq a0 (⟨#[]⟩ : ByteArray)) then
  (some ((0, (0, (ByteArray.empty, (ByteArray.empty, (0, (0, ())))))), (false, ())))
  else
  (some ((r1.1, (r2.1, (r14.1, (ByteArray.empty, (0, (0, ())))))), (true, ())))))))
  else
  (Option.bind (spec_ReadVar.f k (ByteArray.extract a0 (Int.toNat (w64 (r1.2.1 + r2.2.1))) (ByteArray.size a0))) fun r16 =>
  (inc r16.2.1 (ByteArray.size (ByteArray.extract a0 (Int.toNat (w64 (r1.2.1 + r2.2.1))) (ByteArray.size a0)) : Int)
  (Option.bind (spec_ReadFixed.f k (ByteArray.extract (ByteArray.extract a0 (Int.toNat (w64 (r1.2.1 + r2.2.1))) (ByteArray.size a0)) (Int.toNat r16.2.1) (ByteArray.size (ByteArray.extract a0 (Int.toNat (w64 (r1.2.1 + r2.2.1))) (ByteArray.size a0)))) 4) fun r17 =>
  (Option.bind (spec_ShowRec.f k (r1.1, (r2.1, (ByteArray.empty, (ByteArray.empty, (r16.1, (r17.1, ()))))))) fun r18 =>
  (bif (!(seq r18.1 a0)) then
  (some ((0, (0, (ByteArray.empty, (ByteArray.empty, (0, (0, ())))))), (false, ())))
  else
  (bif (seq a0 (⟨#[]⟩ : ByteArray)) then
  (some ((0, (0, (ByteArray.empty, (ByteArray.empty, (0, (0, ())))))), (false, ())))
  else
  (some ((r1.1, (r2.1, (ByteArray.empty, (ByteArray.empty, (r16.1, (r17.1, ())))))), (true, ()))))))))))))))))))
def f (k : Nat) (a0 : ByteArray) : Option ((Ty.den TRec) × Bool × Unit) := t k a0
end spec_ReadRec
namespace spec_RecAt
def t (k : Nat) (a0 : ByteArray) (a1 : Int) (a2 : Int) : Option ((Ty.den TRec) × Bool × Unit) :=
  (Option.bind (spec_l1In.f k a1 0 (ByteArray.size a0 : Int)) fun r1 =>
  (bif (!r1.1) then
  (some ((0, (0, (ByteArray.empty, (ByteArray.empty, (0, (0, ())))))), (false, ())))
  else
  (Option.bind (spec_l1In.f k a2 1 (w64 ((ByteArray.size a0 : Int) - a1))) fun r2 =>
  (bif (!r2.1) then
  (some ((0, (0, (ByteArray.empty, (ByteArray.empty, (0, (0, ())))))), (false, ())))
  else
  (inc2 a1 (w64 (a1 + a2)) (ByteArray.size a0 : Int)
  (Option.bind (spec_Unframe.f k (ByteArray.extract a0 (Int.toNat a1) (Int.toNat (w64 (a1 + a2))))) fun r3 =>
  (Option.bind (spec_ReadRec.f k r3.1) fun r4 =>
  (bif (r3.2.1 != a2) then
  (some ((0, (0, (ByteArray.empty, (ByteArray.empty, (0, (0, ())))))), (false, ())))
  else
  (bif (!r4.2.1) then
  (some ((0, (0, (ByteArray.empty, (ByteArray.empty, (0, (0, ())))))), (false, ())))
  else
  (some (r4.1, (true, ()))))))))))))
def f (k : Nat) (a0 : ByteArray) (a1 : Int) (a2 : Int) : Option ((Ty.den TRec) × Bool × Unit) := t k a0 a1 a2
end spec_RecAt
namespace spec_Get
def t (k : Nat) (a0 : Ty.den TStore) (a1 : Ty.den TDisk) (a2 : ByteArray) : Option ((Ty.den TPair) × Int × Unit) :=
  (Option.bind (spec_DirGet.f k a0.2.1 a2) fun r1 =>
  (bif (!r1.2.1) then
  (some ((ByteArray.empty, (ByteArray.empty, (0, ()))), (8, ())))
  else
  (Option.bind (spec_SegName.f k r1.1.2.1) fun r2 =>
  (Option.bind (spec_FileText.f k a1 r2.1) fun r3 =>
  (Option.bind (spec_RecAt.f k r3.1 r1.1.2.2.1 r1.1.2.2.2.1) fun r4 =>
  (bif (!r3.2.1) then
  (some ((ByteArray.empty, (ByteArray.empty, (0, ()))), (3, ())))
  else
  (bif (!r4.2.1) then
  (some ((ByteArray.empty, (ByteArray.empty, (0, ()))), (3, ())))
  else
  (bif (!(seq r4.1.2.2.1 a2)) then
  (some ((ByteArray.empty, (ByteArray.empty, (0, ()))), (3, ())))
  else
  (bif (r4.1.1 != 1) then
  (bif (r4.1.1 != 4) then
  (some ((ByteArray.empty, (ByteArray.empty, (0, ()))), (3, ())))
  else
  (some ((a2, (r4.1.2.2.2.1, (r4.1.2.1, ()))), (0, ()))))
  else
  (some ((a2, (r4.1.2.2.2.1, (r4.1.2.1, ()))), (0, ()))))))))))))
def f (k : Nat) (a0 : Ty.den TStore) (a1 : Ty.den TDisk) (a2 : ByteArray) : Option ((Ty.den TPair) × Int × Unit) := t k a0 a1 a2
end spec_Get
namespace spec_Dump
abbrev T0 : Type := Int → Int → List Int → List (Ty.den TEntry) → Int → Int → Int → List (Ty.den TPair) → Int → Int → Bool → List (Ty.den TPair) → Option ((List (Ty.den TPair)) × Int × Unit)
def b0 (k : Nat) (L0 : T0) (x0_0 : Int) (x0_1 : Int) (x0_2 : List Int) (x0_3 : List (Ty.den TEntry)) (x0_4 : Int) (x0_5 : Int) (x0_6 : Int) (x0_7 : List (Ty.den TPair)) (x0_8 : Int) (x0_9 : Int) (x0_10 : Bool) (x0_11 : List (Ty.den TPair)) : Option ((List (Ty.den TPair)) × Int × Unit) :=
  (bif (decide (x0_0 < (List.length x0_3 : Int))) then
  (inb x0_0 (List.length x0_3 : Int)
  (Option.bind (spec_Get.f k ((x0_1, (x0_2, ())), (x0_3, (x0_4, (x0_5, (x0_6, ()))))) (x0_7, (x0_8, (x0_9, (x0_10, ())))) (List.getD x0_3 (Int.toNat x0_0) (Ty.dflt TEntry)).1) fun r1 =>
  (bif (r1.2.1 != 0) then
  (some ([], r1.2))
  else
  (rm (Ty.bytes TPair) (List.length x0_11 + 1)
  (L0 (w64 (x0_0 + 1)) x0_1 x0_2 x0_3 x0_4 x0_5 x0_6 x0_7 x0_8 x0_9 x0_10 (x0_11 ++ [r1.1]))))))
  else
  (some (x0_11, (0, ()))))
def l0 (k : Nat) : Nat → T0
  | 0 => fun _ _ _ _ _ _ _ _ _ _ _ _ => none
  | n + 1 => b0 k (l0 k n)
def t (k : Nat) (L0 : T0) (a0 : Ty.den TStore) (a1 : Ty.den TDisk) : Option ((List (Ty.den TPair)) × Int × Unit) :=
  (L0 0 a0.1.1 a0.1.2.1 a0.2.1 a0.2.2.1 a0.2.2.2.1 a0.2.2.2.2.1 a1.1 a1.2.1 a1.2.2.1 a1.2.2.2.1 [])
def f (k : Nat) (a0 : Ty.den TStore) (a1 : Ty.den TDisk) : Option ((List (Ty.den TPair)) × Int × Unit) := t k (l0 k k) a0 a1
end spec_Dump
namespace spec_LiveOk
abbrev T0 : Type := Int → Int → List Int → Option (Bool × Unit)
def b0 (k : Nat) (L0 : T0) (x0_0 : Int) (x0_1 : Int) (x0_2 : List Int) : Option (Bool × Unit) :=
  (bif (decide (x0_0 < (List.length x0_2 : Int))) then
  (inb x0_0 (List.length x0_2 : Int)
  (Option.bind (spec_l1In.f k (List.getD x0_2 (Int.toNat x0_0) (Ty.dflt (.int .i64))) 1 (w64 (x0_1 - 1))) fun r3 =>
  (bif (!r3.1) then
  (some (false, ()))
  else
  (bif (decide (x0_0 > 0)) then
  (inb x0_0 (List.length x0_2 : Int)
  (inb (w64 (x0_0 - 1)) (List.length x0_2 : Int)
  (bif (decide ((List.getD x0_2 (Int.toNat x0_0) (Ty.dflt (.int .i64))) ≤ (List.getD x0_2 (Int.toNat (w64 (x0_0 - 1))) (Ty.dflt (.int .i64))))) then
  (some (false, ()))
  else
  (L0 (w64 (x0_0 + 1)) x0_1 x0_2))))
  else
  (L0 (w64 (x0_0 + 1)) x0_1 x0_2)))))
  else
  (some (true, ())))
def l0 (k : Nat) : Nat → T0
  | 0 => fun _ _ _ => none
  | n + 1 => b0 k (l0 k n)
def t (k : Nat) (L0 : T0) (a0 : Ty.den TLive) : Option (Bool × Unit) :=
  (Option.bind (spec_l1In.f k a0.1 1 100000) fun r1 =>
  (bif (!r1.1) then
  (some (false, ()))
  else
  (Option.bind (spec_l1In.f k (List.length a0.2.1 : Int) 1 60) fun r2 =>
  (bif (!r2.1) then
  (some (false, ()))
  else
  (L0 0 a0.1 a0.2.1)))))
def f (k : Nat) (a0 : Ty.den TLive) : Option (Bool × Unit) := t k (l0 k k) a0
end spec_LiveOk
namespace spec_DirOk
abbrev T0 : Type := List (Ty.den TEntry) → Int → Option (Bool × Unit)
def b0 (k : Nat) (L0 : T0) (x0_0 : List (Ty.den TEntry)) (x0_1 : Int) : Option (Bool × Unit) :=
  (bif (decide (x0_1 < (List.length x0_0 : Int))) then
  (inb x0_1 (List.length x0_0 : Int)
  (Option.bind (spec_KeyOk.f k (List.getD x0_0 (Int.toNat x0_1) (Ty.dflt TEntry)).1) fun r1 =>
  (bif (!r1.1) then
  (some (false, ()))
  else
  (Option.bind (spec_l1In.f k (List.getD x0_0 (Int.toNat x0_1) (Ty.dflt TEntry)).2.1 1 100000) fun r2 =>
  (bif (!r2.1) then
  (some (false, ()))
  else
  (bif (decide ((List.getD x0_0 (Int.toNat x0_1) (Ty.dflt TEntry)).2.2.1 < 0)) then
  (some (false, ()))
  else
  (Option.bind (spec_l1In.f k (List.getD x0_0 (Int.toNat x0_1) (Ty.dflt TEntry)).2.2.2.1 1 210) fun r3 =>
  (bif (!r3.1) then
  (some (false, ()))
  else
  (Option.bind (spec_l1In.f k (List.getD x0_0 (Int.toNat x0_1) (Ty.dflt TEntry)).2.2.2.2.1 1 1000000) fun r4 =>
  (bif (!r4.1) then
  (some (false, ()))
  else
  (bif (decide (x0_1 > 0)) then
  (inb (w64 (x0_1 - 1)) (List.length x0_0 : Int)
  (bif ((sls (List.getD x0_0 (Int.toNat x0_1) (Ty.dflt TEntry)).1 (List.getD x0_0 (Int.toNat (w64 (x0_1 - 1))) (Ty.dflt TEntry)).1) || (seq (List.getD x0_0 (Int.toNat x0_1) (Ty.dflt TEntry)).1 (List.getD x0_0 (Int.toNat (w64 (x0_1 - 1))) (Ty.dflt TEntry)).1)) then
  (some (false, ()))
  else
  (L0 x0_0 (w64 (x0_1 + 1)))))
  else
  (L0 x0_0 (w64 (x0_1 + 1))))))))))))))
  else
  (some (true, ())))
def l0 (k : Nat) : Nat → T0
  | 0 => fun _ _ => none
  | n + 1 => b0 k (l0 k n)
def t (k : Nat) (L0 : T0) (a0 : List (Ty.den TEntry)) : Option (Bool × Unit) :=
  (bif (decide ((List.length a0 : Int) > 20)) then
  (some (false, ()))
  else
  (L0 a0 0))
def f (k : Nat) (a0 : List (Ty.den TEntry)) : Option (Bool × Unit) := t k (l0 k k) a0
end spec_DirOk
namespace spec_ScanRecs
abbrev T0 : Type := ByteArray → Int → List (Ty.den TSpot) → Option ((List (Ty.den TSpot)) × Int × Unit)
def b0 (k : Nat) (L0 : T0) (x0_0 : ByteArray) (x0_1 : Int) (x0_2 : List (Ty.den TSpot)) : Option ((List (Ty.den TSpot)) × Int × Unit) :=
  (bif (decide (x0_1 < (ByteArray.size x0_0 : Int))) then
  (inc x0_1 (ByteArray.size x0_0 : Int)
  (Option.bind (spec_Unframe.f k (ByteArray.extract x0_0 (Int.toNat x0_1) (ByteArray.size x0_0))) fun r1 =>
  (Option.bind (spec_ReadRec.f k r1.1) fun r2 =>
  (bif (r1.2.1 == 0) then
  (some (x0_2, (x0_1, ())))
  else
  (bif (!r2.2.1) then
  (some (x0_2, (x0_1, ())))
  else
  (rm (Ty.bytes TSpot) (List.length x0_2 + 1)
  (L0 x0_0 (w64 (x0_1 + r1.2.1)) (x0_2 ++ [(x0_1, (r1.2.1, (r2.1, ())))]))))))))
  else
  (some (x0_2, (x0_1, ()))))
def l0 (k : Nat) : Nat → T0
  | 0 => fun _ _ _ => none
  | n + 1 => b0 k (l0 k n)
def t (k : Nat) (L0 : T0) (a0 : ByteArray) : Option ((List (Ty.den TSpot)) × Int × Unit) :=
  (L0 a0 0 [])
def f (k : Nat) (a0 : ByteArray) : Option ((List (Ty.den TSpot)) × Int × Unit) := t k (l0 k k) a0
end spec_ScanRecs
namespace spec_StoreOk
abbrev T1 : Type := Int → Int → List Int → List (Ty.den TEntry) → Int → Int → Int → List (Ty.den TPair) → Int → Int → Bool → Option (Bool × Unit)
abbrev T0 : Type := Int → Int → List Int → List (Ty.den TEntry) → Int → Int → Int → List (Ty.den TPair) → Int → Int → Bool → Option (Bool × Unit)
def b1 (k : Nat) (L1 : T1) (x1_0 : Int) (x1_1 : Int) (x1_2 : List Int) (x1_3 : List (Ty.den TEntry)) (x1_4 : Int) (x1_5 : Int) (x1_6 : Int) (x1_7 : List (Ty.den TPair)) (x1_8 : Int) (x1_9 : Int) (x1_10 : Bool) : Option (Bool × Unit) :=
  (bif (decide (x1_0 < (List.length x1_3 : Int))) then
  (inb x1_0 (List.length x1_3 : Int)
  (Option.bind (spec_SegName.f k (List.getD x1_3 (Int.toNat x1_0) (Ty.dflt TEntry)).2.1) fun r8 =>
  (Option.bind (spec_FileText.f k (x1_7, (x1_8, (x1_9, (x1_10, ())))) r8.1) fun r9 =>
  (Option.bind (spec_RecAt.f k r9.1 (List.getD x1_3 (Int.toNat x1_0) (Ty.dflt TEntry)).2.2.1 (List.getD x1_3 (Int.toNat x1_0) (Ty.dflt TEntry)).2.2.2.1) fun r10 =>
  (bif (!r10.2.1) then
  (some (false, ()))
  else
  (bif (!(seq r10.1.2.2.1 (List.getD x1_3 (Int.toNat x1_0) (Ty.dflt TEntry)).1)) then
  (some (false, ()))
  else
  (bif (r10.1.2.1 != (List.getD x1_3 (Int.toNat x1_0) (Ty.dflt TEntry)).2.2.2.2.1) then
  (some (false, ()))
  else
  (bif (r10.1.1 != 1) then
  (bif (r10.1.1 != 4) then
  (some (false, ()))
  else
  (bif (decide ((List.getD x1_3 (Int.toNat x1_0) (Ty.dflt TEntry)).2.2.2.2.1 ≥ x1_4)) then
  (some (false, ()))
  else
  (L1 (w64 (x1_0 + 1)) x1_1 x1_2 x1_3 x1_4 x1_5 x1_6 x1_7 x1_8 x1_9 x1_10)))
  else
  (bif (decide ((List.getD x1_3 (Int.toNat x1_0) (Ty.dflt TEntry)).2.2.2.2.1 ≥ x1_4)) then
  (some (false, ()))
  else
  (L1 (w64 (x1_0 + 1)) x1_1 x1_2 x1_3 x1_4 x1_5 x1_6 x1_7 x1_8 x1_9 x1_10))))))))))
  else
  (some (true, ())))
def l1 (k : Nat) : Nat → T1
  | 0 => fun _ _ _ _ _ _ _ _ _ _ _ => none
  | n + 1 => b1 k (l1 k n)
def b0 (k : Nat) (L1 : T1) (L0 : T0) (x0_0 : Int) (x0_1 : Int) (x0_2 : List Int) (x0_3 : List (Ty.den TEntry)) (x0_4 : Int) (x0_5 : Int) (x0_6 : Int) (x0_7 : List (Ty.den TPair)) (x0_8 : Int) (x0_9 : Int) (x0_10 : Bool) : Option (Bool × Unit) :=
  (bif (decide (x0_0 < (List.length x0_2 : Int))) then
  (inb x0_0 (List.length x0_2 : Int)
  (Option.bind (spec_SegName.f k (List.getD x0_2 (Int.toNat x0_0) (Ty.dflt (.int .i64)))) fun r5 =>
  (Option.bind (spec_FileText.f k (x0_7, (x0_8, (x0_9, (x0_10, ())))) r5.1) fun r6 =>
  (Option.bind (spec_ScanRecs.f k r6.1) fun r7 =>
  (bif (!r6.2.1) then
  (some (false, ()))
  else
  (bif (decide (r7.2.1 < (ByteArray.size r6.1 : Int))) then
  (some (false, ()))
  else
  (bif ((w64 (x0_0 + 1)) == (List.length x0_2 : Int)) then
  (bif (x0_5 != (ByteArray.size r6.1 : Int)) then
  (some (false, ()))
  else
  (L0 (w64 (x0_0 + 1)) x0_1 x0_2 x0_3 x0_4 x0_5 x0_6 x0_7 x0_8 x0_9 x0_10))
  else
  (L0 (w64 (x0_0 + 1)) x0_1 x0_2 x0_3 x0_4 x0_5 x0_6 x0_7 x0_8 x0_9 x0_10))))))))
  else
  (L1 0 x0_1 x0_2 x0_3 x0_4 x0_5 x0_6 x0_7 x0_8 x0_9 x0_10))
def l0 (k : Nat) : Nat → T0
  | 0 => fun _ _ _ _ _ _ _ _ _ _ _ => none
  | n + 1 => b0 k (l1 k k) (l0 k n)
def t (k : Nat) (L0 : T0) (a0 : Ty.den TStore) (a1 : Ty.den TDisk) : Option (Bool × Unit) :=
  (Option.bind (spec_DiskOk.f k a1) fun r1 =>
  (bif (!r1.1) then
  (some (false, ()))
  else
  (Option.bind (spec_LiveOk.f k a0.1) fun r2 =>
  (bif (!r2.1) then
  (some (false, ()))
  else
  (Option.bind (spec_DirOk.f k a0.2.1) fun r3 =>
  (bif (!r3.1) then
  (some (false, ()))
  else
  (Option.bind (spec_l1In.f k a0.2.2.1 1 1000001) fun r4 =>
  (bif (!r4.1) then
  (some (false, ()))
  else
  (L0 0 a0.1.1 a0.1.2.1 a0.2.1 a0.2.2.1 a0.2.2.2.1 a0.2.2.2.2.1 a1.1 a1.2.1 a1.2.2.1 a1.2.2.2.1)))))))))
def f (k : Nat) (a0 : Ty.den TStore) (a1 : Ty.den TDisk) : Option (Bool × Unit) := t k (l0 k k) a0 a1
end spec_StoreOk
namespace spec_SegBytes
abbrev T0 : Type := Int → Int → Int → List Int → List (Ty.den TEntry) → Int → Int → Int → List (Ty.den TPair) → Int → Int → Bool → Option (Int × Unit)
def b0 (k : Nat) (L0 : T0) (x0_0 : Int) (x0_1 : Int) (x0_2 : Int) (x0_3 : List Int) (x0_4 : List (Ty.den TEntry)) (x0_5 : Int) (x0_6 : Int) (x0_7 : Int) (x0_8 : List (Ty.den TPair)) (x0_9 : Int) (x0_10 : Int) (x0_11 : Bool) : Option (Int × Unit) :=
  (bif (decide (x0_1 < (List.length x0_3 : Int))) then
  (bif (decide (x0_1 < 60)) then
  (inb x0_1 (List.length x0_3 : Int)
  (Option.bind (spec_SegName.f k (List.getD x0_3 (Int.toNat x0_1) (Ty.dflt (.int .i64)))) fun r1 =>
  (Option.bind (spec_FileText.f k (x0_8, (x0_9, (x0_10, (x0_11, ())))) r1.1) fun r2 =>
  (L0 (w64 (x0_0 + (ByteArray.size r2.1 : Int))) (w64 (x0_1 + 1)) x0_2 x0_3 x0_4 x0_5 x0_6 x0_7 x0_8 x0_9 x0_10 x0_11))))
  else
  (some (x0_0, ())))
  else
  (some (x0_0, ())))
def l0 (k : Nat) : Nat → T0
  | 0 => fun _ _ _ _ _ _ _ _ _ _ _ _ => none
  | n + 1 => b0 k (l0 k n)
def t (k : Nat) (L0 : T0) (a0 : Ty.den TStore) (a1 : Ty.den TDisk) : Option (Int × Unit) :=
  (L0 0 0 a0.1.1 a0.1.2.1 a0.2.1 a0.2.2.1 a0.2.2.2.1 a0.2.2.2.2.1 a1.1 a1.2.1 a1.2.2.1 a1.2.2.2.1)
def f (k : Nat) (a0 : Ty.den TStore) (a1 : Ty.den TDisk) : Option (Int × Unit) := t k (l0 k k) a0 a1
end spec_SegBytes
namespace spec_l14Keep
def t (k : Nat) (a0 : Ty.den TPair) : Option ((Ty.den TRec) × Unit) :=
  (some ((4, (a0.2.2.1, (a0.1, (a0.2.1, (0, (0, ())))))), ()))
def f (k : Nat) (a0 : Ty.den TPair) : Option ((Ty.den TRec) × Unit) := t k a0
end spec_l14Keep
namespace spec_SumOf
abbrev T0 : Type := List (Ty.den TRec) → ByteArray → Int → Option (Int × Unit)
def b0 (k : Nat) (L0 : T0) (x0_0 : List (Ty.den TRec)) (x0_1 : ByteArray) (x0_2 : Int) : Option (Int × Unit) :=
  (bif (decide (x0_2 < (List.length x0_0 : Int))) then
  (inb x0_2 (List.length x0_0 : Int)
  (Option.bind (spec_ShowRec.f k (List.getD x0_0 (Int.toNat x0_2) (Ty.dflt TRec))) fun r1 =>
  (cat x0_1 r1.1
  (L0 x0_0 (x0_1 ++ r1.1) (w64 (x0_2 + 1))))))
  else
  (Option.bind (spec_Crc.f k x0_1) fun r2 =>
  (some r2)))
def l0 (k : Nat) : Nat → T0
  | 0 => fun _ _ _ => none
  | n + 1 => b0 k (l0 k n)
def t (k : Nat) (L0 : T0) (a0 : List (Ty.den TRec)) : Option (Int × Unit) :=
  (L0 a0 (⟨#[]⟩ : ByteArray) 0)
def f (k : Nat) (a0 : List (Ty.den TRec)) : Option (Int × Unit) := t k (l0 k k) a0
end spec_SumOf
namespace spec_l9Seal
def t (k : Nat) (a0 : List (Ty.den TRec)) (a1 : Int) (a2 : Int) : Option ((Ty.den TRec) × Unit) :=
  (Option.bind (spec_SumOf.f k a0) fun r1 =>
  (some ((a2, (a1, (ByteArray.empty, (ByteArray.empty, ((List.length a0 : Int), r1))))), ())))
def f (k : Nat) (a0 : List (Ty.den TRec)) (a1 : Int) (a2 : Int) : Option ((Ty.den TRec) × Unit) := t k a0 a1 a2
end spec_l9Seal
namespace spec_MergedSize
abbrev T0 : Type := List (Ty.den TPair) → Int → Int → Int → List (Ty.den TRec) → Option (Int × Unit)
def b0 (k : Nat) (L0 : T0) (x0_0 : List (Ty.den TPair)) (x0_1 : Int) (x0_2 : Int) (x0_3 : Int) (x0_4 : List (Ty.den TRec)) : Option (Int × Unit) :=
  (bif (decide (x0_3 < (List.length x0_0 : Int))) then
  (inb x0_3 (List.length x0_0 : Int)
  (Option.bind (spec_l14Keep.f k (List.getD x0_0 (Int.toNat x0_3) (Ty.dflt TPair))) fun r1 =>
  (rm (Ty.bytes TRec) (List.length x0_4 + 1)
  (Option.bind (spec_ShowRec.f k r1.1) fun r2 =>
  (Option.bind (spec_Frame.f k r2.1) fun r3 =>
  (L0 x0_0 x0_1 (w64 (x0_2 + (ByteArray.size r3.1 : Int))) (w64 (x0_3 + 1)) (x0_4 ++ [r1.1])))))))
  else
  (Option.bind (spec_l9Seal.f k x0_4 x0_1 5) fun r4 =>
  (Option.bind (spec_ShowRec.f k r4.1) fun r5 =>
  (Option.bind (spec_Frame.f k r5.1) fun r6 =>
  (some ((w64 (x0_2 + (ByteArray.size r6.1 : Int))), ()))))))
def l0 (k : Nat) : Nat → T0
  | 0 => fun _ _ _ _ _ => none
  | n + 1 => b0 k (l0 k n)
def t (k : Nat) (L0 : T0) (a0 : List (Ty.den TPair)) (a1 : Int) : Option (Int × Unit) :=
  (L0 a0 a1 0 0 [])
def f (k : Nat) (a0 : List (Ty.den TPair)) (a1 : Int) : Option (Int × Unit) := t k (l0 k k) a0 a1
end spec_MergedSize
namespace spec_MergeGain
def t (k : Nat) (a0 : Ty.den TStore) (a1 : Ty.den TDisk) : Option (Int × Unit) :=
  (Option.bind (spec_Dump.f k a0 a1) fun r1 =>
  (bif (r1.2.1 != 0) then
  (some (0, ()))
  else
  (Option.bind (spec_StoreOk.f k a0 a1) fun r2 =>
  (bif (!r2.1) then
  (some (0, ()))
  else
  (Option.bind (spec_SegBytes.f k a0 a1) fun r3 =>
  (Option.bind (spec_MergedSize.f k r1.1 (w64 (a0.2.2.1 - 1))) fun r4 =>
  (some ((w64 (r3.1 - r4.1)), ()))))))))
def f (k : Nat) (a0 : Ty.den TStore) (a1 : Ty.den TDisk) : Option (Int × Unit) := t k a0 a1
end spec_MergeGain
namespace impl_DirKeys
abbrev T0 : Type := List (Ty.den TEntry) → Int → Int → List ByteArray → Option ((List ByteArray) × Unit)
def b0 (k : Nat) (L0 : T0) (x0_0 : List (Ty.den TEntry)) (x0_1 : Int) (x0_2 : Int) (x0_3 : List ByteArray) : Option ((List ByteArray) × Unit) :=
  (bif (decide (x0_2 < x0_1)) then
  (inb x0_2 (List.length x0_0 : Int)
  (rm (Ty.bytes .str) (List.length x0_3 + 1)
  (L0 x0_0 x0_1 (w64 (x0_2 + 1)) (x0_3 ++ [(List.getD x0_0 (Int.toNat x0_2) (Ty.dflt TEntry)).1]))))
  else
  (some (x0_3, ())))
def l0 (k : Nat) : Nat → T0
  | 0 => fun _ _ _ _ => none
  | n + 1 => b0 k (l0 k n)
def t (k : Nat) (L0 : T0) (a0 : List (Ty.den TEntry)) : Option ((List ByteArray) × Unit) :=
  (L0 a0 (List.length a0 : Int) 0 [])
def f (k : Nat) (a0 : List (Ty.den TEntry)) : Option ((List ByteArray) × Unit) := t k (l0 k k) a0
end impl_DirKeys
namespace impl_DirGet
abbrev T0 : Type := ByteArray → List (Ty.den TEntry) → Int → Int → ByteArray → Int → Int → Int → Int → Option ((Ty.den TEntry) × Bool × Unit)
def b0 (k : Nat) (L0 : T0) (x0_0 : ByteArray) (x0_1 : List (Ty.den TEntry)) (x0_2 : Int) (x0_3 : Int) (x0_4 : ByteArray) (x0_5 : Int) (x0_6 : Int) (x0_7 : Int) (x0_8 : Int) : Option ((Ty.den TEntry) × Bool × Unit) :=
  (bif (decide (x0_3 < x0_2)) then
  (inb x0_3 (List.length x0_1 : Int)
  (bif (seq (List.getD x0_1 (Int.toNat x0_3) (Ty.dflt TEntry)).1 x0_0) then
  (some ((List.getD x0_1 (Int.toNat x0_3) (Ty.dflt TEntry)), (true, ())))
  else
  (L0 x0_0 x0_1 x0_2 (w64 (x0_3 + 1)) x0_4 x0_5 x0_6 x0_7 x0_8)))
  else
  (some ((ByteArray.empty, (0, (0, (0, (0, ()))))), (false, ()))))
def l0 (k : Nat) : Nat → T0
  | 0 => fun _ _ _ _ _ _ _ _ _ => none
  | n + 1 => b0 k (l0 k n)
def t (k : Nat) (L0 : T0) (a0 : List (Ty.den TEntry)) (a1 : ByteArray) : Option ((Ty.den TEntry) × Bool × Unit) :=
  (L0 a1 a0 (List.length a0 : Int) 0 ByteArray.empty 0 0 0 0)
def f (k : Nat) (a0 : List (Ty.den TEntry)) (a1 : ByteArray) : Option ((Ty.den TEntry) × Bool × Unit) := t k (l0 k k) a0 a1
end impl_DirGet
namespace impl_in
def t (k : Nat) (a0 : Int) (a1 : Int) (a2 : Int) : Option (Bool × Unit) :=
  (bif (decide (a0 ≥ a1)) then
  (some ((decide (a0 ≤ a2)), ()))
  else
  (some (false, ())))
def f (k : Nat) (a0 : Int) (a1 : Int) (a2 : Int) : Option (Bool × Unit) := t k a0 a1 a2
end impl_in
namespace impl_Dec
def t (k : Nat) (a0 : Int) : Option (ByteArray × Unit) :=
  (Option.bind (lib_Itoa.f k a0) fun r1 =>
  (some r1))
def f (k : Nat) (a0 : Int) : Option (ByteArray × Unit) := t k a0
end impl_Dec
namespace impl_named
def t (k : Nat) (a0 : ByteArray) (a1 : Int) : Option (ByteArray × Unit) :=
  (Option.bind (impl_in.f k a1 1 100000) fun r1 =>
  (bif (!r1.1) then
  (some ((⟨#[]⟩ : ByteArray), ()))
  else
  (Option.bind (impl_Dec.f k a1) fun r2 =>
  (cat a0 r2.1
  (some ((a0 ++ r2.1), ()))))))
def f (k : Nat) (a0 : ByteArray) (a1 : Int) : Option (ByteArray × Unit) := t k a0 a1
end impl_named
namespace impl_SegName
def t (k : Nat) (a0 : Int) : Option (ByteArray × Unit) :=
  (Option.bind (impl_named.f k (⟨#[115, 101, 103]⟩ : ByteArray) a0) fun r1 =>
  (some r1))
def f (k : Nat) (a0 : Int) : Option (ByteArray × Unit) := t k a0
end impl_SegName
namespace impl_fileAt
abbrev T0 : Type := ByteArray → List (Ty.den TPair) → Int → Int → Option (Int × Unit)
def b0 (k : Nat) (L0 : T0) (x0_0 : ByteArray) (x0_1 : List (Ty.den TPair)) (x0_2 : Int) (x0_3 : Int) : Option (Int × Unit) :=
  (bif (decide (x0_3 < x0_2)) then
  (inb x0_3 (List.length x0_1 : Int)
  (bif (seq (List.getD x0_1 (Int.toNat x0_3) (Ty.dflt TPair)).1 x0_0) then
  (some (x0_3, ()))
  else
  (L0 x0_0 x0_1 x0_2 (w64 (x0_3 + 1)))))
  else
  (some ((-1), ())))
def l0 (k : Nat) : Nat → T0
  | 0 => fun _ _ _ _ => none
  | n + 1 => b0 k (l0 k n)
def t (k : Nat) (L0 : T0) (a0 : Ty.den TDisk) (a1 : ByteArray) : Option (Int × Unit) :=
  (L0 a1 a0.1 (List.length a0.1 : Int) 0)
def f (k : Nat) (a0 : Ty.den TDisk) (a1 : ByteArray) : Option (Int × Unit) := t k (l0 k k) a0 a1
end impl_fileAt
namespace impl_NameOk
abbrev T0 : Type := ByteArray → Int → Option (Bool × Unit)
def b0 (k : Nat) (L0 : T0) (x0_0 : ByteArray) (x0_1 : Int) : Option (Bool × Unit) :=
  (bif (decide (x0_1 < (ByteArray.size x0_0 : Int))) then
  (inb x0_1 (ByteArray.size x0_0 : Int)
  (bif (decide ((byteAt x0_0 x0_1) ≥ 97)) then
  (inb x0_1 (ByteArray.size x0_0 : Int)
  (bif (!(decide ((byteAt x0_0 x0_1) ≤ 122))) then
  (inb x0_1 (ByteArray.size x0_0 : Int)
  (bif (decide ((byteAt x0_0 x0_1) ≥ 48)) then
  (inb x0_1 (ByteArray.size x0_0 : Int)
  (bif (!(decide ((byteAt x0_0 x0_1) ≤ 57))) then
  (some (false, ()))
  else
  (L0 x0_0 (w64 (x0_1 + 1)))))
  else
  (some (false, ()))))
  else
  (L0 x0_0 (w64 (x0_1 + 1)))))
  else
  (inb x0_1 (ByteArray.size x0_0 : Int)
  (bif (decide ((byteAt x0_0 x0_1) ≥ 48)) then
  (inb x0_1 (ByteArray.size x0_0 : Int)
  (bif (!(decide ((byteAt x0_0 x0_1) ≤ 57))) then
  (some (false, ()))
  else
  (L0 x0_0 (w64 (x0_1 + 1)))))
  else
  (some (false, ()))))))
  else
  (Option.bind (impl_in.f k (ByteArray.size x0_0 : Int) 1 12) fun r1 =>
  (some r1)))
def l0 (k : Nat) : Nat → T0
  | 0 => fun _ _ => none
  | n + 1 => b0 k (l0 k n)
def t (k : Nat) (L0 : T0) (a0 : ByteArray) : Option (Bool × Unit) :=
  (L0 a0 0)
def f (k : Nat) (a0 : ByteArray) : Option (Bool × Unit) := t k (l0 k k) a0
end impl_NameOk
namespace impl_DiskOk
abbrev T0 : Type := Int → List (Ty.den TPair) → Int → Int → List (Ty.den TPair) → Int → Int → Bool → Option (Bool × Unit)
def b0 (k : Nat) (L0 : T0) (x0_0 : Int) (x0_1 : List (Ty.den TPair)) (x0_2 : Int) (x0_3 : Int) (x0_4 : List (Ty.den TPair)) (x0_5 : Int) (x0_6 : Int) (x0_7 : Bool) : Option (Bool × Unit) :=
  (bif (decide (x0_3 < x0_2)) then
  (inb x0_3 (List.length x0_1 : Int)
  (Option.bind (impl_NameOk.f k (List.getD x0_1 (Int.toNat x0_3) (Ty.dflt TPair)).1) fun r3 =>
  (bif (!r3.1) then
  (some (false, ()))
  else
  (Option.bind (impl_in.f k (List.getD x0_1 (Int.toNat x0_3) (Ty.dflt TPair)).2.2.1 0 (ByteArray.size (List.getD x0_1 (Int.toNat x0_3) (Ty.dflt TPair)).2.1 : Int)) fun r4 =>
  (bif (!r4.1) then
  (some (false, ()))
  else
  (bif (decide (x0_3 > 0)) then
  (inb (w64 (x0_3 - 1)) (List.length x0_4 : Int)
  (bif (!(sls (List.getD x0_4 (Int.toNat (w64 (x0_3 - 1))) (Ty.dflt TPair)).1 (List.getD x0_1 (Int.toNat x0_3) (Ty.dflt TPair)).1)) then
  (some (false, ()))
  else
  (L0 (w64 (x0_0 + (ByteArray.size (List.getD x0_1 (Int.toNat x0_3) (Ty.dflt TPair)).2.1 : Int))) x0_1 x0_2 (w64 (x0_3 + 1)) x0_4 x0_5 x0_6 x0_7)))
  else
  (L0 (w64 (x0_0 + (ByteArray.size (List.getD x0_1 (Int.toNat x0_3) (Ty.dflt TPair)).2.1 : Int))) x0_1 x0_2 (w64 (x0_3 + 1)) x0_4 x0_5 x0_6 x0_7)))))))
  else
  (some ((decide (x0_0 ≤ x0_5)), ())))
def l0 (k : Nat) : Nat → T0
  | 0 => fun _ _ _ _ _ _ _ _ => none
  | n + 1 => b0 k (l0 k n)
def t (k : Nat) (L0 : T0) (a0 : Ty.den TDisk) : Option (Bool × Unit) :=
  (bif (decide ((List.length a0.1 : Int) > 130)) then
  (some (false, ()))
  else
  (Option.bind (impl_in.f k a0.2.1 0 100000) fun r1 =>
  (bif (!r1.1) then
  (some (false, ()))
  else
  (Option.bind (impl_in.f k a0.2.2.1 (-1) 100000) fun r2 =>
  (bif (!r2.1) then
  (some (false, ()))
  else
  (L0 0 a0.1 (List.length a0.1 : Int) 0 a0.1 a0.2.1 a0.2.2.1 a0.2.2.2.1))))))
def f (k : Nat) (a0 : Ty.den TDisk) : Option (Bool × Unit) := t k (l0 k k) a0
end impl_DiskOk
namespace impl_FileText
def t (k : Nat) (a0 : Ty.den TDisk) (a1 : ByteArray) : Option (ByteArray × Bool × Unit) :=
  (Option.bind (impl_fileAt.f k a0 a1) fun r1 =>
  (bif (decide (r1.1 < 0)) then
  (some ((⟨#[]⟩ : ByteArray), (false, ())))
  else
  (Option.bind (impl_DiskOk.f k a0) fun r2 =>
  (bif (!r2.1) then
  (some ((⟨#[]⟩ : ByteArray), (false, ())))
  else
  (inb r1.1 (List.length a0.1 : Int)
  (some ((List.getD a0.1 (Int.toNat r1.1) (Ty.dflt TPair)).2.1, (true, ()))))))))
def f (k : Nat) (a0 : Ty.den TDisk) (a1 : ByteArray) : Option (ByteArray × Bool × Unit) := t k a0 a1
end impl_FileText
namespace impl_ReadVar
abbrev T0 : Type := ByteArray → Int → Int → Option (Int × Int × Unit)
def b0 (k : Nat) (L0 : T0) (x0_0 : ByteArray) (x0_1 : Int) (x0_2 : Int) : Option (Int × Int × Unit) :=
  (bif (decide (x0_2 < 7)) then
  (bif (decide (x0_2 < (ByteArray.size x0_0 : Int))) then
  (inb x0_2 (ByteArray.size x0_0 : Int)
  (bif (decide ((w64 (7 * x0_2)) < 0)) then none else
  (bif (decide ((w64 (byteAt x0_0 x0_2)) ≥ 128)) then
  (L0 x0_0 (w64 (x0_1 + (w64 ((Int.tmod (w64 (byteAt x0_0 x0_2)) 128) * 2 ^ (min (Int.toNat (w64 (7 * x0_2))) (IntKind.bits .i64)))))) (w64 (x0_2 + 1)))
  else
  (bif ((w64 (byteAt x0_0 x0_2)) == 0) then
  (bif (decide (x0_2 > 0)) then
  (some (0, (0, ())))
  else
  (some ((w64 (x0_1 + (w64 ((Int.tmod (w64 (byteAt x0_0 x0_2)) 128) * 2 ^ (min (Int.toNat (w64 (7 * x0_2))) (IntKind.bits .i64)))))), ((w64 (x0_2 + 1)), ()))))
  else
  (some ((w64 (x0_1 + (w64 ((Int.tmod (w64 (byteAt x0_0 x0_2)) 128) * 2 ^ (min (Int.toNat (w64 (7 * x0_2))) (IntKind.bits .i64)))))), ((w64 (x0_2 + 1)), ())))))))
  else
  (some (0, (0, ()))))
  else
  (some (0, (0, ()))))
def l0 (k : Nat) : Nat → T0
  | 0 => fun _ _ _ => none
  | n + 1 => b0 k (l0 k n)
def t (k : Nat) (L0 : T0) (a0 : ByteArray) : Option (Int × Int × Unit) :=
  (L0 a0 0 0)
def f (k : Nat) (a0 : ByteArray) : Option (Int × Int × Unit) := t k (l0 k k) a0
end impl_ReadVar
namespace impl_Var
abbrev T0 : Type := Int → List Int → Option (ByteArray × Unit)
def b0 (k : Nat) (L0 : T0) (x0_0 : Int) (x0_1 : List Int) : Option (ByteArray × Unit) :=
  (bif (decide (x0_0 > 127)) then
  (rm (Ty.bytes (.int .u8)) (List.length x0_1 + 1)
  (L0 (w64 (Int.tdiv x0_0 128)) (x0_1 ++ [(IntKind.wrap .u8 (w64 ((Int.tmod x0_0 128) + 128)))])))
  else
  (rm (Ty.bytes (.int .u8)) (List.length x0_1 + 1)
  (some ((bytesOf (x0_1 ++ [(IntKind.wrap .u8 x0_0)])), ()))))
def l0 (k : Nat) : Nat → T0
  | 0 => fun _ _ => none
  | n + 1 => b0 k (l0 k n)
def t (k : Nat) (L0 : T0) (a0 : Int) : Option (ByteArray × Unit) :=
  (Option.bind (impl_in.f k a0 0 562949953421311) fun r1 =>
  (bif (!r1.1) then
  (some ((⟨#[]⟩ : ByteArray), ()))
  else
  (L0 a0 [])))
def f (k : Nat) (a0 : Int) : Option (ByteArray × Unit) := t k (l0 k k) a0
end impl_Var
namespace impl_textOf
def t (k : Nat) (a0 : ByteArray) : Option (ByteArray × Unit) :=
  (Option.bind (impl_Var.f k (ByteArray.size a0 : Int)) fun r1 =>
  (cat r1.1 a0
  (some ((r1.1 ++ a0), ()))))
def f (k : Nat) (a0 : ByteArray) : Option (ByteArray × Unit) := t k a0
end impl_textOf
namespace impl_Crc
abbrev T1 : Type := ByteArray → Int → Int → Int → Option (Int × Unit)
abbrev T0 : Type := ByteArray → Int → Int → Option (Int × Unit)
def b1 (k : Nat) (L0 : T0) (L1 : T1) (x1_0 : ByteArray) (x1_1 : Int) (x1_2 : Int) (x1_3 : Int) : Option (Int × Unit) :=
  (bif (decide (x1_3 < 8)) then
  (bif ((IntKind.wrap .u32 (((BitVec.ofInt (IntKind.bits .u32) x1_1 &&& BitVec.ofInt (IntKind.bits .u32) 1).toNat : Int))) == 1) then
  (L1 x1_0 (IntKind.wrap .u32 (((BitVec.ofInt (IntKind.bits .u32) (Int.fdiv x1_1 (2 ^ (Int.toNat 1))) ^^^ BitVec.ofInt (IntKind.bits .u32) 2197175160).toNat : Int))) x1_2 (w64 (x1_3 + 1)))
  else
  (L1 x1_0 (Int.fdiv x1_1 (2 ^ (Int.toNat 1))) x1_2 (w64 (x1_3 + 1))))
  else
  (L0 x1_0 x1_1 (w64 (x1_2 + 1))))
def l1 (k : Nat) (L0 : T0) : Nat → T1
  | 0 => fun _ _ _ _ => none
  | n + 1 => b1 k L0 (l1 k L0 n)
def b0 (k : Nat) (L1 : T1) (L0 : T0) (x0_0 : ByteArray) (x0_1 : Int) (x0_2 : Int) : Option (Int × Unit) :=
  (bif (decide (x0_2 < (ByteArray.size x0_0 : Int))) then
  (inb x0_2 (ByteArray.size x0_0 : Int)
  (L1 x0_0 (IntKind.wrap .u32 (((BitVec.ofInt (IntKind.bits .u32) x0_1 ^^^ BitVec.ofInt (IntKind.bits .u32) (IntKind.wrap .u32 (byteAt x0_0 x0_2))).toNat : Int))) x0_2 0))
  else
  (some ((w64 (bitNot .u32 x0_1)), ())))
def l0 (k : Nat) : Nat → T0
  | 0 => fun _ _ _ => none
  | n + 1 => b0 k (l1 k (l0 k n) k) (l0 k n)
def t (k : Nat) (L0 : T0) (a0 : ByteArray) : Option (Int × Unit) :=
  (L0 a0 4294967295 0)
def f (k : Nat) (a0 : ByteArray) : Option (Int × Unit) := t k (l0 k k) a0
end impl_Crc
namespace impl_Fixed
abbrev T0 : Type := Int → Int → List Int → Option (ByteArray × Unit)
def b0 (k : Nat) (L0 : T0) (x0_0 : Int) (x0_1 : Int) (x0_2 : List Int) : Option (ByteArray × Unit) :=
  (bif (decide (x0_1 ≥ 0)) then
  (bif (decide ((w64 (8 * x0_1)) < 0)) then none else
  (rm (Ty.bytes (.int .u8)) (List.length x0_2 + 1)
  (L0 x0_0 (w64 (x0_1 - 1)) (x0_2 ++ [(IntKind.wrap .u8 (Int.fdiv x0_0 (2 ^ (min (Int.toNat (w64 (8 * x0_1))) (IntKind.bits .i64)))))]))))
  else
  (some ((bytesOf x0_2), ())))
def l0 (k : Nat) : Nat → T0
  | 0 => fun _ _ _ => none
  | n + 1 => b0 k (l0 k n)
def t (k : Nat) (L0 : T0) (a0 : Int) (a1 : Int) : Option (ByteArray × Unit) :=
  (Option.bind (impl_in.f k a1 1 7) fun r1 =>
  (bif (!r1.1) then
  (some ((⟨#[]⟩ : ByteArray), ()))
  else
  (bif (decide ((w64 (8 * a1)) < 0)) then none else
  (Option.bind (impl_in.f k a0 0 (w64 ((w64 (1 * 2 ^ (min (Int.toNat (w64 (8 * a1))) (IntKind.bits .i64)))) - 1))) fun r2 =>
  (bif (!r2.1) then
  (some ((⟨#[]⟩ : ByteArray), ()))
  else
  (L0 a0 (w64 (a1 - 1)) []))))))
def f (k : Nat) (a0 : Int) (a1 : Int) : Option (ByteArray × Unit) := t k (l0 k k) a0 a1
end impl_Fixed
namespace impl_Frame
def t (k : Nat) (a0 : ByteArray) : Option (ByteArray × Unit) :=
  (bif (decide ((ByteArray.size a0 : Int) > 200)) then
  (some ((⟨#[]⟩ : ByteArray), ()))
  else
  (Option.bind (impl_textOf.f k a0) fun r1 =>
  (Option.bind (impl_Crc.f k r1.1) fun r2 =>
  (Option.bind (impl_Fixed.f k r2.1 4) fun r3 =>
  (cat r3.1 r1.1
  (some ((r3.1 ++ r1.1), ())))))))
def f (k : Nat) (a0 : ByteArray) : Option (ByteArray × Unit) := t k a0
end impl_Frame
namespace impl_Unframe
def t (k : Nat) (a0 : ByteArray) : Option (ByteArray × Int × Unit) :=
  (bif (decide ((ByteArray.size a0 : Int) < 4)) then
  (some ((⟨#[]⟩ : ByteArray), (0, ())))
  else
  (inc 4 (ByteArray.size a0 : Int)
  (Option.bind (impl_ReadVar.f k (ByteArray.extract a0 4 (ByteArray.size a0))) fun r1 =>
  (bif (r1.2.1 == 0) then
  (some ((⟨#[]⟩ : ByteArray), (0, ())))
  else
  (bif (decide (r1.1 > 200)) then
  (some ((⟨#[]⟩ : ByteArray), (0, ())))
  else
  (bif (decide (r1.1 > (w64 ((w64 ((ByteArray.size a0 : Int) - 4)) - r1.2.1)))) then
  (some ((⟨#[]⟩ : ByteArray), (0, ())))
  else
  (inc2 (w64 (4 + r1.2.1)) (w64 ((w64 (4 + r1.2.1)) + r1.1)) (ByteArray.size a0 : Int)
  (Option.bind (impl_Frame.f k (ByteArray.extract a0 (Int.toNat (w64 (4 + r1.2.1))) (Int.toNat (w64 ((w64 (4 + r1.2.1)) + r1.1))))) fun r2 =>
  (inc (w64 ((w64 (4 + r1.2.1)) + r1.1)) (ByteArray.size a0 : Int)
  (bif (!(seq r2.1 (ByteArray.extract a0 0 (Int.toNat (w64 ((w64 (4 + r1.2.1)) + r1.1)))))) then
  (some ((⟨#[]⟩ : ByteArray), (0, ())))
  else
  (some ((ByteArray.extract a0 (Int.toNat (w64 (4 + r1.2.1))) (Int.toNat (w64 ((w64 (4 + r1.2.1)) + r1.1)))), ((w64 ((w64 (4 + r1.2.1)) + r1.1)), ())))))))))))))
def f (k : Nat) (a0 : ByteArray) : Option (ByteArray × Int × Unit) := t k a0
end impl_Unframe
namespace impl_scanner__num
def t (k : Nat) (a0 : Ty.den Tscanner) : Option ((Ty.den Tscanner) × Int × Unit) :=
  (Option.bind (impl_ReadVar.f k a0.1) fun r1 =>
  (bif a0.2.1 then
  (some ((a0.1, (true, ())), (0, ())))
  else
  (bif (r1.2.1 == 0) then
  (some ((a0.1, (true, ())), (0, ())))
  else
  (inc r1.2.1 (ByteArray.size a0.1 : Int)
  (some (((ByteArray.extract a0.1 (Int.toNat r1.2.1) (ByteArray.size a0.1)), a0.2), (r1.1, ())))))))
def f (k : Nat) (a0 : Ty.den Tscanner) : Option ((Ty.den Tscanner) × Int × Unit) := t k a0
end impl_scanner__num
namespace impl_scanner__bytes
def t (k : Nat) (a0 : Ty.den Tscanner) (a1 : Int) : Option ((Ty.den Tscanner) × ByteArray × Unit) :=
  (bif a0.2.1 then
  (some ((a0.1, (true, ())), ((⟨#[]⟩ : ByteArray), ())))
  else
  (bif (decide (a1 > (ByteArray.size a0.1 : Int))) then
  (some ((a0.1, (true, ())), ((⟨#[]⟩ : ByteArray), ())))
  else
  (inc a1 (ByteArray.size a0.1 : Int)
  (inc a1 (ByteArray.size a0.1 : Int)
  (some (((ByteArray.extract a0.1 (Int.toNat a1) (ByteArray.size a0.1)), a0.2), ((ByteArray.extract a0.1 0 (Int.toNat a1)), ())))))))
def f (k : Nat) (a0 : Ty.den Tscanner) (a1 : Int) : Option ((Ty.den Tscanner) × ByteArray × Unit) := t k a0 a1
end impl_scanner__bytes
namespace impl_scanner__text
def t (k : Nat) (a0 : Ty.den Tscanner) : Option ((Ty.den Tscanner) × ByteArray × Unit) :=
  (Option.bind (impl_scanner__num.f k a0) fun r1 =>
  (Option.bind (impl_scanner__bytes.f k r1.1 r1.2.1) fun r2 =>
  (some r2)))
def f (k : Nat) (a0 : Ty.den Tscanner) : Option ((Ty.den Tscanner) × ByteArray × Unit) := t k a0
end impl_scanner__text
namespace impl_KeyOk
def t (k : Nat) (a0 : ByteArray) : Option (Bool × Unit) :=
  (Option.bind (impl_in.f k (ByteArray.size a0 : Int) 1 8) fun r1 =>
  (some r1))
def f (k : Nat) (a0 : ByteArray) : Option (Bool × Unit) := t k a0
end impl_KeyOk
namespace impl_RecOk
def t (k : Nat) (a0 : Ty.den TRec) : Option (Bool × Unit) :=
  (bif (a0.1 == 1) then
  (bif (a0.1 == 1) then
  (Option.bind (impl_KeyOk.f k a0.2.2.1) fun r1 =>
  (bif r1.1 then
  (bif (decide ((ByteArray.size a0.2.2.2.1 : Int) ≤ 24)) then
  (Option.bind (impl_in.f k a0.2.1 1 1000000) fun r2 =>
  (bif r2.1 then
  (some (((a0.1 == a0.1) && ((a0.2.1 == a0.2.1) && ((seq a0.2.2.1 a0.2.2.1) && ((seq a0.2.2.2.1 a0.2.2.2.1) && ((a0.2.2.2.2.1 == 0) && (a0.2.2.2.2.2.1 == 0)))))), ()))
  else
  (some (false, ()))))
  else
  (some (false, ())))
  else
  (some (false, ()))))
  else
  (bif (a0.1 == 2) then
  (Option.bind (impl_KeyOk.f k a0.2.2.1) fun r3 =>
  (bif r3.1 then
  (Option.bind (impl_in.f k a0.2.1 1 1000000) fun r4 =>
  (bif r4.1 then
  (some (((a0.1 == a0.1) && ((a0.2.1 == a0.2.1) && ((seq a0.2.2.1 a0.2.2.1) && ((seq a0.2.2.2.1 ByteArray.empty) && ((a0.2.2.2.2.1 == 0) && (a0.2.2.2.2.2.1 == 0)))))), ()))
  else
  (some (false, ()))))
  else
  (some (false, ()))))
  else
  (bif (a0.1 == 3) then
  (Option.bind (impl_in.f k a0.2.2.2.2.1 0 8) fun r5 =>
  (bif r5.1 then
  (Option.bind (impl_in.f k a0.2.2.2.2.2.1 0 4294967295) fun r6 =>
  (bif r6.1 then
  (Option.bind (impl_in.f k a0.2.1 1 1000000) fun r7 =>
  (bif r7.1 then
  (some (((a0.1 == a0.1) && ((a0.2.1 == a0.2.1) && ((seq a0.2.2.1 ByteArray.empty) && ((seq a0.2.2.2.1 ByteArray.empty) && ((a0.2.2.2.2.1 == a0.2.2.2.2.1) && (a0.2.2.2.2.2.1 == a0.2.2.2.2.2.1)))))), ()))
  else
  (some (false, ()))))
  else
  (some (false, ()))))
  else
  (some (false, ()))))
  else
  (bif (a0.1 == 5) then
  (Option.bind (impl_in.f k a0.2.2.2.2.1 0 20) fun r8 =>
  (bif r8.1 then
  (Option.bind (impl_in.f k a0.2.2.2.2.2.1 0 4294967295) fun r9 =>
  (bif r9.1 then
  (Option.bind (impl_in.f k a0.2.1 0 1000000) fun r10 =>
  (bif r10.1 then
  (some (((a0.1 == a0.1) && ((a0.2.1 == a0.2.1) && ((seq a0.2.2.1 ByteArray.empty) && ((seq a0.2.2.2.1 ByteArray.empty) && ((a0.2.2.2.2.1 == a0.2.2.2.2.1) && (a0.2.2.2.2.2.1 == a0.2.2.2.2.2.1)))))), ()))
  else
  (some (false, ()))))
  else
  (some (false, ()))))
  else
  (some (false, ()))))
  else
  (some (false, ()))))))
  else
  (bif (a0.1 == 4) then
  (Option.bind (impl_KeyOk.f k a0.2.2.1) fun r11 =>
  (bif r11.1 then
  (bif (decide ((ByteArray.size a0.2.2.2.1 : Int) ≤ 24)) then
  (Option.bind (impl_in.f k a0.2.1 1 1000000) fun r12 =>
  (bif r12.1 then
  (some (((a0.1 == a0.1) && ((a0.2.1 == a0.2.1) && ((seq a0.2.2.1 a0.2.2.1) && ((seq a0.2.2.2.1 a0.2.2.2.1) && ((a0.2.2.2.2.1 == 0) && (a0.2.2.2.2.2.1 == 0)))))), ()))
  else
  (some (false, ()))))
  else
  (some (false, ())))
  else
  (some (false, ()))))
  else
  (bif (a0.1 == 2) then
  (Option.bind (impl_KeyOk.f k a0.2.2.1) fun r13 =>
  (bif r13.1 then
  (Option.bind (impl_in.f k a0.2.1 1 1000000) fun r14 =>
  (bif r14.1 then
  (some (((a0.1 == a0.1) && ((a0.2.1 == a0.2.1) && ((seq a0.2.2.1 a0.2.2.1) && ((seq a0.2.2.2.1 ByteArray.empty) && ((a0.2.2.2.2.1 == 0) && (a0.2.2.2.2.2.1 == 0)))))), ()))
  else
  (some (false, ()))))
  else
  (some (false, ()))))
  else
  (bif (a0.1 == 3) then
  (Option.bind (impl_in.f k a0.2.2.2.2.1 0 8) fun r15 =>
  (bif r15.1 then
  (Option.bind (impl_in.f k a0.2.2.2.2.2.1 0 4294967295) fun r16 =>
  (bif r16.1 then
  (Option.bind (impl_in.f k a0.2.1 1 1000000) fun r17 =>
  (bif r17.1 then
  (some (((a0.1 == a0.1) && ((a0.2.1 == a0.2.1) && ((seq a0.2.2.1 ByteArray.empty) && ((seq a0.2.2.2.1 ByteArray.empty) && ((a0.2.2.2.2.1 == a0.2.2.2.2.1) && (a0.2.2.2.2.2.1 == a0.2.2.2.2.2.1)))))), ()))
  else
  (some (false, ()))))
  else
  (some (false, ()))))
  else
  (some (false, ()))))
  else
  (bif (a0.1 == 5) then
  (Option.bind (impl_in.f k a0.2.2.2.2.1 0 20) fun r18 =>
  (bif r18.1 then
  (Option.bind (impl_in.f k a0.2.2.2.2.2.1 0 4294967295) fun r19 =>
  (bif r19.1 then
  (Option.bind (impl_in.f k a0.2.1 0 1000000) fun r20 =>
  (bif r20.1 then
  (some (((a0.1 == a0.1) && ((a0.2.1 == a0.2.1) && ((seq a0.2.2.1 ByteArray.empty) && ((seq a0.2.2.2.1 ByteArray.empty) && ((a0.2.2.2.2.1 == a0.2.2.2.2.1) && (a0.2.2.2.2.2.1 == a0.2.2.2.2.2.1)))))), ()))
  else
  (some (false, ()))))
  else
  (some (false, ()))))
  else
  (some (false, ()))))
  else
  (some (false, ())))))))
def f (k : Nat) (a0 : Ty.den TRec) : Option (Bool × Unit) := t k a0
end impl_RecOk
namespace impl_ReadFixed
abbrev T0 : Type := ByteArray → Int → Int → Int → Option (Int × Bool × Unit)
def b0 (k : Nat) (L0 : T0) (x0_0 : ByteArray) (x0_1 : Int) (x0_2 : Int) (x0_3 : Int) : Option (Int × Bool × Unit) :=
  (bif (decide (x0_3 < x0_2)) then
  (inb x0_3 (ByteArray.size x0_0 : Int)
  (L0 x0_0 (w64 (((BitVec.ofInt (IntKind.bits .i64) (w64 (x0_1 * 2 ^ (min (Int.toNat 8) (IntKind.bits .i64)))) ||| BitVec.ofInt (IntKind.bits .i64) (w64 (byteAt x0_0 x0_3))).toNat : Int))) x0_2 (w64 (x0_3 + 1))))
  else
  (some (x0_1, (true, ()))))
def l0 (k : Nat) : Nat → T0
  | 0 => fun _ _ _ _ => none
  | n + 1 => b0 k (l0 k n)
def t (k : Nat) (L0 : T0) (a0 : ByteArray) (a1 : Int) : Option (Int × Bool × Unit) :=
  (Option.bind (impl_in.f k a1 1 7) fun r1 =>
  (bif (!r1.1) then
  (some (0, (false, ())))
  else
  (bif (decide ((ByteArray.size a0 : Int) < a1)) then
  (some (0, (false, ())))
  else
  (L0 a0 0 a1 0))))
def f (k : Nat) (a0 : ByteArray) (a1 : Int) : Option (Int × Bool × Unit) := t k (l0 k k) a0 a1
end impl_ReadFixed
namespace impl_ReadRec
def t (k : Nat) (a0 : ByteArray) : Option ((Ty.den TRec) × Bool × Unit) :=
  (Option.bind (impl_scanner__num.f k (a0, (false, ()))) fun r1 =>
  (Option.bind (impl_scanner__num.f k r1.1) fun r2 =>
  (bif (r1.2.1 == 1) then
  (bif (r1.2.1 == 1) then
  (Option.bind (impl_scanner__text.f k r2.1) fun r3 =>
  (Option.bind (impl_scanner__text.f k r3.1) fun r4 =>
  (bif r4.1.2.1 then
  (some ((0, (0, (ByteArray.empty, (ByteArray.empty, (0, (0, ())))))), (false, ())))
  else
  (bif (!(seq r4.1.1 (⟨#[]⟩ : ByteArray))) then
  (some ((0, (0, (ByteArray.empty, (ByteArray.empty, (0, (0, ())))))), (false, ())))
  else
  (Option.bind (impl_RecOk.f k (r1.2.1, (r2.2.1, (r3.2.1, (r4.2.1, (0, (0, ()))))))) fun r5 =>
  (bif (!r5.1) then
  (some ((0, (0, (ByteArray.empty, (ByteArray.empty, (0, (0, ())))))), (false, ())))
  else
  (some ((r1.2.1, (r2.2.1, (r3.2.1, (r4.2.1, (0, (0, ())))))), (true, ())))))))))
  else
  (bif (r1.2.1 == 2) then
  (Option.bind (impl_scanner__text.f k r2.1) fun r6 =>
  (bif r6.1.2.1 then
  (some ((0, (0, (ByteArray.empty, (ByteArray.empty, (0, (0, ())))))), (false, ())))
  else
  (bif (!(seq r6.1.1 (⟨#[]⟩ : ByteArray))) then
  (some ((0, (0, (ByteArray.empty, (ByteArray.empty, (0, (0, ())))))), (false, ())))
  else
  (Option.bind (impl_RecOk.f k (r1.2.1, (r2.2.1, (r6.2.1, (ByteArray.empty, (0, (0, ()))))))) fun r7 =>
  (bif (!r7.1) then
  (some ((0, (0, (ByteArray.empty, (ByteArray.empty, (0, (0, ())))))), (false, ())))
  else
  (some ((r1.2.1, (r2.2.1, (r6.2.1, (ByteArray.empty, (0, (0, ())))))), (true, ()))))))))
  else
  (Option.bind (impl_scanner__num.f k r2.1) fun r8 =>
  (Option.bind (impl_scanner__bytes.f k r8.1 4) fun r9 =>
  (Option.bind (impl_ReadFixed.f k r9.2.1 4) fun r10 =>
  (bif r9.1.2.1 then
  (some ((0, (0, (ByteArray.empty, (ByteArray.empty, (0, (0, ())))))), (false, ())))
  else
  (bif (!(seq r9.1.1 (⟨#[]⟩ : ByteArray))) then
  (some ((0, (0, (ByteArray.empty, (ByteArray.empty, (0, (0, ())))))), (false, ())))
  else
  (Option.bind (impl_RecOk.f k (r1.2.1, (r2.2.1, (ByteArray.empty, (ByteArray.empty, (r8.2.1, (r10.1, ()))))))) fun r11 =>
  (bif (!r11.1) then
  (some ((0, (0, (ByteArray.empty, (ByteArray.empty, (0, (0, ())))))), (false, ())))
  else
  (some ((r1.2.1, (r2.2.1, (ByteArray.empty, (ByteArray.empty, (r8.2.1, (r10.1, ())))))), (true, ()))))))))))))
  else
  (bif (r1.2.1 == 4) then
  (Option.bind (impl_scanner__text.f k r2.1) fun r12 =>
  (Option.bind (impl_scanner__text.f k r12.1) fun r13 =>
  (bif r13.1.2.1 then
  (some ((0, (0, (ByteArray.empty, (ByteArray.empty, (0, (0, ())))))), (false, ())))
  else
  (bif (!(seq r13.1.1 (⟨#[]⟩ : ByteArray))) then
  (some ((0, (0, (ByteArray.empty, (ByteArray.empty, (0, (0, ())))))), (false, ())))
  else
  (Option.bind (impl_RecOk.f k (r1.2.1, (r2.2.1, (r12.2.1, (r13.2.1, (0, (0, ()))))))) fun r14 =>
  (bif (!r14.1) then
  (some ((0, (0, (ByteArray.empty, (ByteArray.empty, (0, (0, ())))))), (false, ())))
  else
  (some ((r1.2.1, (r2.2.1, (r12.2.1, (r13.2.1, (0, (0, ())))))), (true, ())))))))))
  else
  (bif (r1.2.1 == 2) then
  (Option.bind (impl_scanner__text.f k r2.1) fun r15 =>
  (bif r15.1.2.1 then
  (some ((0, (0, (ByteArray.empty, (ByteArray.empty, (0, (0, ())))))), (false, ())))
  else
  (bif (!(seq r15.1.1 (⟨#[]⟩ : ByteArray))) then
  (some ((0, (0, (ByteArray.empty, (ByteArray.empty, (0, (0, ())))))), (false, ())))
  else
  (Option.bind (impl_RecOk.f k (r1.2.1, (r2.2.1, (r15.2.1, (ByteArray.empty, (0, (0, ()))))))) fun r16 =>
  (bif (!r16.1) then
  (some ((0, (0, (ByteArray.empty, (ByteArray.empty, (0, (0, ())))))), (false, ())))
  else
  (some ((r1.2.1, (r2.2.1, (r15.2.1, (ByteArray.empty, (0, (0, ())))))), (true, ()))))))))
  else
  (Option.bind (impl_scanner__num.f k r2.1) fun r17 =>
  (Option.bind (impl_scanner__bytes.f k r17.1 4) fun r18 =>
  (Option.bind (impl_ReadFixed.f k r18.2.1 4) fun r19 =>
  (bif r18.1.2.1 then
  (some ((0, (0, (ByteArray.empty, (ByteArray.empty, (0, (0, ())))))), (false, ())))
  else
  (bif (!(seq r18.1.1 (⟨#[]⟩ : ByteArray))) then
  (some ((0, (0, (ByteArray.empty, (ByteArray.empty, (0, (0, ())))))), (false, ())))
  else
  (Option.bind (impl_RecOk.f k (r1.2.1, (r2.2.1, (ByteArray.empty, (ByteArray.empty, (r17.2.1, (r19.1, ()))))))) fun r20 =>
  (bif (!r20.1) then
  (some ((0, (0, (ByteArray.empty, (ByteArray.empty, (0, (0, ())))))), (false, ())))
  else
  (some ((r1.2.1, (r2.2.1, (ByteArray.empty, (ByteArray.empty, (r17.2.1, (r19.1, ())))))), (true, ())))))))))))))))
def f (k : Nat) (a0 : ByteArray) : Option ((Ty.den TRec) × Bool × Unit) := t k a0
end impl_ReadRec
namespace impl_RecAt
def t (k : Nat) (a0 : ByteArray) (a1 : Int) (a2 : Int) : Option ((Ty.den TRec) × Bool × Unit) :=
  (Option.bind (impl_in.f k a1 0 (ByteArray.size a0 : Int)) fun r1 =>
  (bif (!r1.1) then
  (some ((0, (0, (ByteArray.empty, (ByteArray.empty, (0, (0, ())))))), (false, ())))
  else
  (Option.bind (impl_in.f k a2 0 (w64 ((ByteArray.size a0 : Int) - a1))) fun r2 =>
  (bif (!r2.1) then
  (some ((0, (0, (ByteArray.empty, (ByteArray.empty, (0, (0, ())))))), (false, ())))
  else
  (inc2 a1 (w64 (a1 + a2)) (ByteArray.size a0 : Int)
  (Option.bind (impl_Unframe.f k (ByteArray.extract a0 (Int.toNat a1) (Int.toNat (w64 (a1 + a2))))) fun r3 =>
  (bif (r3.2.1 == 0) then
  (some ((0, (0, (ByteArray.empty, (ByteArray.empty, (0, (0, ())))))), (false, ())))
  else
  (bif (r3.2.1 != a2) then
  (some ((0, (0, (ByteArray.empty, (ByteArray.empty, (0, (0, ())))))), (false, ())))
  else
  (Option.bind (impl_ReadRec.f k r3.1) fun r4 =>
  (some r4))))))))))
def f (k : Nat) (a0 : ByteArray) (a1 : Int) (a2 : Int) : Option ((Ty.den TRec) × Bool × Unit) := t k a0 a1 a2
end impl_RecAt
namespace impl_Get
def t (k : Nat) (a0 : Ty.den TStore) (a1 : Ty.den TDisk) (a2 : ByteArray) : Option ((Ty.den TPair) × Int × Unit) :=
  (Option.bind (impl_DirGet.f k a0.2.1 a2) fun r1 =>
  (bif (!r1.2.1) then
  (some ((ByteArray.empty, (ByteArray.empty, (0, ()))), (8, ())))
  else
  (Option.bind (impl_SegName.f k r1.1.2.1) fun r2 =>
  (Option.bind (impl_FileText.f k a1 r2.1) fun r3 =>
  (Option.bind (impl_RecAt.f k r3.1 r1.1.2.2.1 r1.1.2.2.2.1) fun r4 =>
  (bif (!r4.2.1) then
  (some ((ByteArray.empty, (ByteArray.empty, (0, ()))), (3, ())))
  else
  (bif (r4.1.1 != 1) then
  (bif (r4.1.1 != 4) then
  (some ((ByteArray.empty, (ByteArray.empty, (0, ()))), (3, ())))
  else
  (bif (!(seq r4.1.2.2.1 a2)) then
  (some ((ByteArray.empty, (ByteArray.empty, (0, ()))), (3, ())))
  else
  (some ((r4.1.2.2.1, (r4.1.2.2.2.1, (r4.1.2.1, ()))), (0, ())))))
  else
  (bif (!(seq r4.1.2.2.1 a2)) then
  (some ((ByteArray.empty, (ByteArray.empty, (0, ()))), (3, ())))
  else
  (some ((r4.1.2.2.1, (r4.1.2.2.2.1, (r4.1.2.1, ()))), (0, ())))))))))))
def f (k : Nat) (a0 : Ty.den TStore) (a1 : Ty.den TDisk) (a2 : ByteArray) : Option ((Ty.den TPair) × Int × Unit) := t k a0 a1 a2
end impl_Get
namespace impl_Dump
abbrev T0 : Type := Int → Int → Int → List Int → List (Ty.den TEntry) → Int → Int → Int → List (Ty.den TPair) → Int → Int → Bool → List (Ty.den TPair) → List ByteArray → Option ((List (Ty.den TPair)) × Int × Unit)
def b0 (k : Nat) (L0 : T0) (x0_0 : Int) (x0_1 : Int) (x0_2 : Int) (x0_3 : List Int) (x0_4 : List (Ty.den TEntry)) (x0_5 : Int) (x0_6 : Int) (x0_7 : Int) (x0_8 : List (Ty.den TPair)) (x0_9 : Int) (x0_10 : Int) (x0_11 : Bool) (x0_12 : List (Ty.den TPair)) (x0_13 : List ByteArray) : Option ((List (Ty.den TPair)) × Int × Unit) :=
  (bif (decide (x0_1 < x0_0)) then
  (inb x0_1 (List.length x0_13 : Int)
  (Option.bind (impl_Get.f k ((x0_2, (x0_3, ())), (x0_4, (x0_5, (x0_6, (x0_7, ()))))) (x0_8, (x0_9, (x0_10, (x0_11, ())))) (List.getD x0_13 (Int.toNat x0_1) (Ty.dflt .str))) fun r2 =>
  (bif (r2.2.1 != 0) then
  (some ([], r2.2))
  else
  (rm (Ty.bytes TPair) (List.length x0_12 + 1)
  (L0 x0_0 (w64 (x0_1 + 1)) x0_2 x0_3 x0_4 x0_5 x0_6 x0_7 x0_8 x0_9 x0_10 x0_11 (x0_12 ++ [r2.1]) x0_13)))))
  else
  (some (x0_12, (0, ()))))
def l0 (k : Nat) : Nat → T0
  | 0 => fun _ _ _ _ _ _ _ _ _ _ _ _ _ _ => none
  | n + 1 => b0 k (l0 k n)
def t (k : Nat) (L0 : T0) (a0 : Ty.den TStore) (a1 : Ty.den TDisk) : Option ((List (Ty.den TPair)) × Int × Unit) :=
  (Option.bind (impl_DirKeys.f k a0.2.1) fun r1 =>
  (L0 (List.length r1.1 : Int) 0 a0.1.1 a0.1.2.1 a0.2.1 a0.2.2.1 a0.2.2.2.1 a0.2.2.2.2.1 a1.1 a1.2.1 a1.2.2.1 a1.2.2.2.1 [] r1.1))
def f (k : Nat) (a0 : Ty.den TStore) (a1 : Ty.den TDisk) : Option ((List (Ty.den TPair)) × Int × Unit) := t k (l0 k k) a0 a1
end impl_Dump
namespace impl_LiveOk
abbrev T0 : Type := List Int → Int → Int → Int → List Int → Option (Bool × Unit)
def b0 (k : Nat) (L0 : T0) (x0_0 : List Int) (x0_1 : Int) (x0_2 : Int) (x0_3 : Int) (x0_4 : List Int) : Option (Bool × Unit) :=
  (bif (decide (x0_2 < x0_1)) then
  (inb x0_2 (List.length x0_0 : Int)
  (Option.bind (impl_in.f k (List.getD x0_0 (Int.toNat x0_2) (Ty.dflt (.int .i64))) 1 (w64 (x0_3 - 1))) fun r1 =>
  (bif (!r1.1) then
  (some (false, ()))
  else
  (bif (decide (x0_2 > 0)) then
  (inb (w64 (x0_2 - 1)) (List.length x0_4 : Int)
  (bif (decide ((List.getD x0_4 (Int.toNat (w64 (x0_2 - 1))) (Ty.dflt (.int .i64))) ≥ (List.getD x0_0 (Int.toNat x0_2) (Ty.dflt (.int .i64))))) then
  (some (false, ()))
  else
  (L0 x0_0 x0_1 (w64 (x0_2 + 1)) x0_3 x0_4)))
  else
  (L0 x0_0 x0_1 (w64 (x0_2 + 1)) x0_3 x0_4)))))
  else
  (Option.bind (impl_in.f k x0_3 1 100000) fun r2 =>
  (bif r2.1 then
  (Option.bind (impl_in.f k (List.length x0_4 : Int) 1 60) fun r3 =>
  (some r3))
  else
  (some (false, ())))))
def l0 (k : Nat) : Nat → T0
  | 0 => fun _ _ _ _ _ => none
  | n + 1 => b0 k (l0 k n)
def t (k : Nat) (L0 : T0) (a0 : Ty.den TLive) : Option (Bool × Unit) :=
  (L0 a0.2.1 (List.length a0.2.1 : Int) 0 a0.1 a0.2.1)
def f (k : Nat) (a0 : Ty.den TLive) : Option (Bool × Unit) := t k (l0 k k) a0
end impl_LiveOk
namespace impl_DirOk
abbrev T0 : Type := List (Ty.den TEntry) → List (Ty.den TEntry) → Int → Int → Option (Bool × Unit)
def b0 (k : Nat) (L0 : T0) (x0_0 : List (Ty.den TEntry)) (x0_1 : List (Ty.den TEntry)) (x0_2 : Int) (x0_3 : Int) : Option (Bool × Unit) :=
  (bif (decide (x0_3 < x0_2)) then
  (inb x0_3 (List.length x0_1 : Int)
  (Option.bind (impl_KeyOk.f k (List.getD x0_1 (Int.toNat x0_3) (Ty.dflt TEntry)).1) fun r1 =>
  (bif (!r1.1) then
  (some (false, ()))
  else
  (Option.bind (impl_in.f k (List.getD x0_1 (Int.toNat x0_3) (Ty.dflt TEntry)).2.1 1 100000) fun r2 =>
  (bif (!r2.1) then
  (some (false, ()))
  else
  (bif (decide ((List.getD x0_1 (Int.toNat x0_3) (Ty.dflt TEntry)).2.2.1 < 0)) then
  (some (false, ()))
  else
  (Option.bind (impl_in.f k (List.getD x0_1 (Int.toNat x0_3) (Ty.dflt TEntry)).2.2.2.1 1 210) fun r3 =>
  (bif (!r3.1) then
  (some (false, ()))
  else
  (Option.bind (impl_in.f k (List.getD x0_1 (Int.toNat x0_3) (Ty.dflt TEntry)).2.2.2.2.1 1 1000000) fun r4 =>
  (bif (!r4.1) then
  (some (false, ()))
  else
  (bif (decide (x0_3 > 0)) then
  (inb (w64 (x0_3 - 1)) (List.length x0_0 : Int)
  (bif (!(sls (List.getD x0_0 (Int.toNat (w64 (x0_3 - 1))) (Ty.dflt TEntry)).1 (List.getD x0_1 (Int.toNat x0_3) (Ty.dflt TEntry)).1)) then
  (some (false, ()))
  else
  (L0 x0_0 x0_1 x0_2 (w64 (x0_3 + 1)))))
  else
  (L0 x0_0 x0_1 x0_2 (w64 (x0_3 + 1))))))))))))))
  else
  (some ((decide ((List.length x0_0 : Int) ≤ 20)), ())))
def l0 (k : Nat) : Nat → T0
  | 0 => fun _ _ _ _ => none
  | n + 1 => b0 k (l0 k n)
def t (k : Nat) (L0 : T0) (a0 : List (Ty.den TEntry)) : Option (Bool × Unit) :=
  (L0 a0 a0 (List.length a0 : Int) 0)
def f (k : Nat) (a0 : List (Ty.den TEntry)) : Option (Bool × Unit) := t k (l0 k k) a0
end impl_DirOk
namespace impl_ScanRecs
abbrev T0 : Type := ByteArray → Int → List (Ty.den TSpot) → Option ((List (Ty.den TSpot)) × Int × Unit)
def b0 (k : Nat) (L0 : T0) (x0_0 : ByteArray) (x0_1 : Int) (x0_2 : List (Ty.den TSpot)) : Option ((List (Ty.den TSpot)) × Int × Unit) :=
  (inc x0_1 (ByteArray.size x0_0 : Int)
  (Option.bind (impl_Unframe.f k (ByteArray.extract x0_0 (Int.toNat x0_1) (ByteArray.size x0_0))) fun r1 =>
  (Option.bind (impl_ReadRec.f k r1.1) fun r2 =>
  (bif (r1.2.1 == 0) then
  (some (x0_2, (x0_1, ())))
  else
  (bif (!r2.2.1) then
  (some (x0_2, (x0_1, ())))
  else
  (rm (Ty.bytes TSpot) (List.length x0_2 + 1)
  (L0 x0_0 (w64 (x0_1 + r1.2.1)) (x0_2 ++ [(x0_1, (r1.2.1, (r2.1, ())))]))))))))
def l0 (k : Nat) : Nat → T0
  | 0 => fun _ _ _ => none
  | n + 1 => b0 k (l0 k n)
def t (k : Nat) (L0 : T0) (a0 : ByteArray) : Option ((List (Ty.den TSpot)) × Int × Unit) :=
  (L0 a0 0 [])
def f (k : Nat) (a0 : ByteArray) : Option ((List (Ty.den TSpot)) × Int × Unit) := t k (l0 k k) a0
end impl_ScanRecs
namespace impl_StoreOk
abbrev T1 : Type := List (Ty.den TEntry) → Int → Int → Int → List Int → List (Ty.den TEntry) → Int → Int → Int → List (Ty.den TPair) → Int → Int → Bool → Option (Bool × Unit)
abbrev T0 : Type := List Int → Int → Int → Int → List Int → List (Ty.den TEntry) → Int → Int → Int → List (Ty.den TPair) → Int → Int → Bool → Option (Bool × Unit)
def b1 (k : Nat) (L1 : T1) (x1_0 : List (Ty.den TEntry)) (x1_1 : Int) (x1_2 : Int) (x1_3 : Int) (x1_4 : List Int) (x1_5 : List (Ty.den TEntry)) (x1_6 : Int) (x1_7 : Int) (x1_8 : Int) (x1_9 : List (Ty.den TPair)) (x1_10 : Int) (x1_11 : Int) (x1_12 : Bool) : Option (Bool × Unit) :=
  (bif (decide (x1_2 < x1_1)) then
  (inb x1_2 (List.length x1_0 : Int)
  (Option.bind (impl_SegName.f k (List.getD x1_0 (Int.toNat x1_2) (Ty.dflt TEntry)).2.1) fun r8 =>
  (Option.bind (impl_FileText.f k (x1_9, (x1_10, (x1_11, (x1_12, ())))) r8.1) fun r9 =>
  (Option.bind (impl_RecAt.f k r9.1 (List.getD x1_0 (Int.toNat x1_2) (Ty.dflt TEntry)).2.2.1 (List.getD x1_0 (Int.toNat x1_2) (Ty.dflt TEntry)).2.2.2.1) fun r10 =>
  (bif (!r10.2.1) then
  (some (false, ()))
  else
  (bif (r10.1.1 != 1) then
  (bif (r10.1.1 != 4) then
  (some (false, ()))
  else
  (bif (!(seq r10.1.2.2.1 (List.getD x1_0 (Int.toNat x1_2) (Ty.dflt TEntry)).1)) then
  (some (false, ()))
  else
  (bif (r10.1.2.1 != (List.getD x1_0 (Int.toNat x1_2) (Ty.dflt TEntry)).2.2.2.2.1) then
  (some (false, ()))
  else
  (bif (decide ((List.getD x1_0 (Int.toNat x1_2) (Ty.dflt TEntry)).2.2.2.2.1 ≥ x1_6)) then
  (some (false, ()))
  else
  (L1 x1_0 x1_1 (w64 (x1_2 + 1)) x1_3 x1_4 x1_5 x1_6 x1_7 x1_8 x1_9 x1_10 x1_11 x1_12)))))
  else
  (bif (!(seq r10.1.2.2.1 (List.getD x1_0 (Int.toNat x1_2) (Ty.dflt TEntry)).1)) then
  (some (false, ()))
  else
  (bif (r10.1.2.1 != (List.getD x1_0 (Int.toNat x1_2) (Ty.dflt TEntry)).2.2.2.2.1) then
  (some (false, ()))
  else
  (bif (decide ((List.getD x1_0 (Int.toNat x1_2) (Ty.dflt TEntry)).2.2.2.2.1 ≥ x1_6)) then
  (some (false, ()))
  else
  (L1 x1_0 x1_1 (w64 (x1_2 + 1)) x1_3 x1_4 x1_5 x1_6 x1_7 x1_8 x1_9 x1_10 x1_11 x1_12))))))))))
  else
  (some (true, ())))
def l1 (k : Nat) : Nat → T1
  | 0 => fun _ _ _ _ _ _ _ _ _ _ _ _ _ => none
  | n + 1 => b1 k (l1 k n)
def b0 (k : Nat) (L1 : T1) (L0 : T0) (x0_0 : List Int) (x0_1 : Int) (x0_2 : Int) (x0_3 : Int) (x0_4 : List Int) (x0_5 : List (Ty.den TEntry)) (x0_6 : Int) (x0_7 : Int) (x0_8 : Int) (x0_9 : List (Ty.den TPair)) (x0_10 : Int) (x0_11 : Int) (x0_12 : Bool) : Option (Bool × Unit) :=
  (bif (decide (x0_2 < x0_1)) then
  (inb x0_2 (List.length x0_0 : Int)
  (Option.bind (impl_SegName.f k (List.getD x0_0 (Int.toNat x0_2) (Ty.dflt (.int .i64)))) fun r5 =>
  (Option.bind (impl_FileText.f k (x0_9, (x0_10, (x0_11, (x0_12, ())))) r5.1) fun r6 =>
  (Option.bind (impl_ScanRecs.f k r6.1) fun r7 =>
  (bif (!r6.2.1) then
  (some (false, ()))
  else
  (bif (r7.2.1 != (ByteArray.size r6.1 : Int)) then
  (some (false, ()))
  else
  (bif (x0_2 == (w64 ((List.length x0_4 : Int) - 1))) then
  (bif (x0_7 != r7.2.1) then
  (some (false, ()))
  else
  (L0 x0_0 x0_1 (w64 (x0_2 + 1)) x0_3 x0_4 x0_5 x0_6 x0_7 x0_8 x0_9 x0_10 x0_11 x0_12))
  else
  (L0 x0_0 x0_1 (w64 (x0_2 + 1)) x0_3 x0_4 x0_5 x0_6 x0_7 x0_8 x0_9 x0_10 x0_11 x0_12))))))))
  else
  (L1 x0_5 (List.length x0_5 : Int) 0 x0_3 x0_4 x0_5 x0_6 x0_7 x0_8 x0_9 x0_10 x0_11 x0_12))
def l0 (k : Nat) : Nat → T0
  | 0 => fun _ _ _ _ _ _ _ _ _ _ _ _ _ => none
  | n + 1 => b0 k (l1 k k) (l0 k n)
def t (k : Nat) (L0 : T0) (a0 : Ty.den TStore) (a1 : Ty.den TDisk) : Option (Bool × Unit) :=
  (Option.bind (impl_DiskOk.f k a1) fun r1 =>
  (bif (!r1.1) then
  (some (false, ()))
  else
  (Option.bind (impl_LiveOk.f k a0.1) fun r2 =>
  (bif (!r2.1) then
  (some (false, ()))
  else
  (Option.bind (impl_DirOk.f k a0.2.1) fun r3 =>
  (bif (!r3.1) then
  (some (false, ()))
  else
  (Option.bind (impl_in.f k a0.2.2.1 1 1000001) fun r4 =>
  (bif (!r4.1) then
  (some (false, ()))
  else
  (L0 a0.1.2.1 (List.length a0.1.2.1 : Int) 0 a0.1.1 a0.1.2.1 a0.2.1 a0.2.2.1 a0.2.2.2.1 a0.2.2.2.2.1 a1.1 a1.2.1 a1.2.2.1 a1.2.2.2.1)))))))))
def f (k : Nat) (a0 : Ty.den TStore) (a1 : Ty.den TDisk) : Option (Bool × Unit) := t k (l0 k k) a0 a1
end impl_StoreOk
namespace impl_SegBytes
abbrev T0 : Type := Int → List Int → Int → Int → List (Ty.den TPair) → Int → Int → Bool → Option (Int × Unit)
def b0 (k : Nat) (L0 : T0) (x0_0 : Int) (x0_1 : List Int) (x0_2 : Int) (x0_3 : Int) (x0_4 : List (Ty.den TPair)) (x0_5 : Int) (x0_6 : Int) (x0_7 : Bool) : Option (Int × Unit) :=
  (bif (decide (x0_3 < x0_2)) then
  (inb x0_3 (List.length x0_1 : Int)
  (bif (decide (x0_3 < 60)) then
  (Option.bind (impl_SegName.f k (List.getD x0_1 (Int.toNat x0_3) (Ty.dflt (.int .i64)))) fun r1 =>
  (Option.bind (impl_FileText.f k (x0_4, (x0_5, (x0_6, (x0_7, ())))) r1.1) fun r2 =>
  (L0 (w64 (x0_0 + (ByteArray.size r2.1 : Int))) x0_1 x0_2 (w64 (x0_3 + 1)) x0_4 x0_5 x0_6 x0_7)))
  else
  (L0 x0_0 x0_1 x0_2 (w64 (x0_3 + 1)) x0_4 x0_5 x0_6 x0_7)))
  else
  (some (x0_0, ())))
def l0 (k : Nat) : Nat → T0
  | 0 => fun _ _ _ _ _ _ _ _ => none
  | n + 1 => b0 k (l0 k n)
def t (k : Nat) (L0 : T0) (a0 : Ty.den TStore) (a1 : Ty.den TDisk) : Option (Int × Unit) :=
  (L0 0 a0.1.2.1 (List.length a0.1.2.1 : Int) 0 a1.1 a1.2.1 a1.2.2.1 a1.2.2.2.1)
def f (k : Nat) (a0 : Ty.den TStore) (a1 : Ty.den TDisk) : Option (Int × Unit) := t k (l0 k k) a0 a1
end impl_SegBytes
namespace impl_vars
abbrev T0 : Type := ByteArray → List Int → Int → Int → Option (ByteArray × Unit)
def b0 (k : Nat) (L0 : T0) (x0_0 : ByteArray) (x0_1 : List Int) (x0_2 : Int) (x0_3 : Int) : Option (ByteArray × Unit) :=
  (bif (decide (x0_3 < x0_2)) then
  (inb x0_3 (List.length x0_1 : Int)
  (Option.bind (impl_Var.f k (List.getD x0_1 (Int.toNat x0_3) (Ty.dflt (.int .i64)))) fun r1 =>
  (cat x0_0 r1.1
  (L0 (x0_0 ++ r1.1) x0_1 x0_2 (w64 (x0_3 + 1))))))
  else
  (some (x0_0, ())))
def l0 (k : Nat) : Nat → T0
  | 0 => fun _ _ _ _ => none
  | n + 1 => b0 k (l0 k n)
def t (k : Nat) (L0 : T0) (a0 : List Int) : Option (ByteArray × Unit) :=
  (L0 (⟨#[]⟩ : ByteArray) a0 (List.length a0 : Int) 0)
def f (k : Nat) (a0 : List Int) : Option (ByteArray × Unit) := t k (l0 k k) a0
end impl_vars
namespace impl_ShowRec
def t (k : Nat) (a0 : Ty.den TRec) : Option (ByteArray × Unit) :=
  (Option.bind (impl_RecOk.f k a0) fun r1 =>
  (bif (!r1.1) then
  (some ((⟨#[]⟩ : ByteArray), ()))
  else
  (Option.bind (impl_vars.f k [a0.1, a0.2.1]) fun r2 =>
  (bif (a0.1 == 1) then
  (bif (a0.1 == 1) then
  (Option.bind (impl_textOf.f k a0.2.2.1) fun r3 =>
  (cat r2.1 r3.1
  (Option.bind (impl_textOf.f k a0.2.2.2.1) fun r4 =>
  (cat (r2.1 ++ r3.1) r4.1
  (some (((r2.1 ++ r3.1) ++ r4.1), ()))))))
  else
  (bif (a0.1 == 2) then
  (Option.bind (impl_textOf.f k a0.2.2.1) fun r5 =>
  (cat r2.1 r5.1
  (some ((r2.1 ++ r5.1), ()))))
  else
  (Option.bind (impl_Var.f k a0.2.2.2.2.1) fun r6 =>
  (cat r2.1 r6.1
  (Option.bind (impl_Fixed.f k a0.2.2.2.2.2.1 4) fun r7 =>
  (cat (r2.1 ++ r6.1) r7.1
  (some (((r2.1 ++ r6.1) ++ r7.1), ()))))))))
  else
  (bif (a0.1 == 4) then
  (Option.bind (impl_textOf.f k a0.2.2.1) fun r8 =>
  (cat r2.1 r8.1
  (Option.bind (impl_textOf.f k a0.2.2.2.1) fun r9 =>
  (cat (r2.1 ++ r8.1) r9.1
  (some (((r2.1 ++ r8.1) ++ r9.1), ()))))))
  else
  (bif (a0.1 == 2) then
  (Option.bind (impl_textOf.f k a0.2.2.1) fun r10 =>
  (cat r2.1 r10.1
  (some ((r2.1 ++ r10.1), ()))))
  else
  (Option.bind (impl_Var.f k a0.2.2.2.2.1) fun r11 =>
  (cat r2.1 r11.1
  (Option.bind (impl_Fixed.f k a0.2.2.2.2.2.1 4) fun r12 =>
  (cat (r2.1 ++ r11.1) r12.1
  (some (((r2.1 ++ r11.1) ++ r12.1), ()))))))))))))
def f (k : Nat) (a0 : Ty.den TRec) : Option (ByteArray × Unit) := t k a0
end impl_ShowRec
namespace impl_SumOf
abbrev T0 : Type := ByteArray → List (Ty.den TRec) → Int → Int → Option (Int × Unit)
def b0 (k : Nat) (L0 : T0) (x0_0 : ByteArray) (x0_1 : List (Ty.den TRec)) (x0_2 : Int) (x0_3 : Int) : Option (Int × Unit) :=
  (bif (decide (x0_3 < x0_2)) then
  (inb x0_3 (List.length x0_1 : Int)
  (Option.bind (impl_ShowRec.f k (List.getD x0_1 (Int.toNat x0_3) (Ty.dflt TRec))) fun r1 =>
  (cat x0_0 r1.1
  (L0 (x0_0 ++ r1.1) x0_1 x0_2 (w64 (x0_3 + 1))))))
  else
  (Option.bind (impl_Crc.f k x0_0) fun r2 =>
  (some r2)))
def l0 (k : Nat) : Nat → T0
  | 0 => fun _ _ _ _ => none
  | n + 1 => b0 k (l0 k n)
def t (k : Nat) (L0 : T0) (a0 : List (Ty.den TRec)) : Option (Int × Unit) :=
  (L0 (⟨#[]⟩ : ByteArray) a0 (List.length a0 : Int) 0)
def f (k : Nat) (a0 : List (Ty.den TRec)) : Option (Int × Unit) := t k (l0 k k) a0
end impl_SumOf
namespace impl_keeps
abbrev T0 : Type := List (Ty.den TPair) → Int → List (Ty.den TPair) → Int → Int → List (Ty.den TRec) → Option ((List (Ty.den TRec)) × Unit)
def b0 (k : Nat) (L0 : T0) (x0_0 : List (Ty.den TPair)) (x0_1 : Int) (x0_2 : List (Ty.den TPair)) (x0_3 : Int) (x0_4 : Int) (x0_5 : List (Ty.den TRec)) : Option ((List (Ty.den TRec)) × Unit) :=
  (bif (decide (x0_4 < x0_3)) then
  (inb x0_4 (List.length x0_2 : Int)
  (rm (Ty.bytes TRec) (List.length x0_5 + 1)
  (L0 x0_0 x0_1 x0_2 x0_3 (w64 (x0_4 + 1)) (x0_5 ++ [(4, ((List.getD x0_2 (Int.toNat x0_4) (Ty.dflt TPair)).2.2.1, ((List.getD x0_2 (Int.toNat x0_4) (Ty.dflt TPair)).1, ((List.getD x0_2 (Int.toNat x0_4) (Ty.dflt TPair)).2.1, (0, (0, ()))))))]))))
  else
  (Option.bind (impl_SumOf.f k x0_5) fun r1 =>
  (rm (Ty.bytes TRec) (List.length x0_5 + 1)
  (some ((x0_5 ++ [(5, (x0_1, (ByteArray.empty, (ByteArray.empty, ((List.length x0_0 : Int), r1)))))]), ())))))
def l0 (k : Nat) : Nat → T0
  | 0 => fun _ _ _ _ _ _ => none
  | n + 1 => b0 k (l0 k n)
def t (k : Nat) (L0 : T0) (a0 : List (Ty.den TPair)) (a1 : Int) : Option ((List (Ty.den TRec)) × Unit) :=
  (L0 a0 a1 a0 (List.length a0 : Int) 0 [])
def f (k : Nat) (a0 : List (Ty.den TPair)) (a1 : Int) : Option ((List (Ty.den TRec)) × Unit) := t k (l0 k k) a0 a1
end impl_keeps
namespace impl_MergedSize
abbrev T0 : Type := Int → Int → Int → List (Ty.den TRec) → Option (Int × Unit)
def b0 (k : Nat) (L0 : T0) (x0_0 : Int) (x0_1 : Int) (x0_2 : Int) (x0_3 : List (Ty.den TRec)) : Option (Int × Unit) :=
  (bif (decide (x0_2 < x0_1)) then
  (inb x0_2 (List.length x0_3 : Int)
  (Option.bind (impl_ShowRec.f k (List.getD x0_3 (Int.toNat x0_2) (Ty.dflt TRec))) fun r2 =>
  (Option.bind (impl_Frame.f k r2.1) fun r3 =>
  (L0 (w64 (x0_0 + (ByteArray.size r3.1 : Int))) x0_1 (w64 (x0_2 + 1)) x0_3))))
  else
  (some (x0_0, ())))
def l0 (k : Nat) : Nat → T0
  | 0 => fun _ _ _ _ => none
  | n + 1 => b0 k (l0 k n)
def t (k : Nat) (L0 : T0) (a0 : List (Ty.den TPair)) (a1 : Int) : Option (Int × Unit) :=
  (Option.bind (impl_keeps.f k a0 a1) fun r1 =>
  (L0 0 (List.length r1.1 : Int) 0 r1.1))
def f (k : Nat) (a0 : List (Ty.den TPair)) (a1 : Int) : Option (Int × Unit) := t k (l0 k k) a0 a1
end impl_MergedSize
namespace impl_MergeGain
def t (k : Nat) (a0 : Ty.den TStore) (a1 : Ty.den TDisk) : Option (Int × Unit) :=
  (Option.bind (impl_Dump.f k a0 a1) fun r1 =>
  (bif (r1.2.1 != 0) then
  (some (0, ()))
  else
  (Option.bind (impl_StoreOk.f k a0 a1) fun r2 =>
  (bif (!r2.1) then
  (some (0, ()))
  else
  (Option.bind (impl_SegBytes.f k a0 a1) fun r3 =>
  (Option.bind (impl_MergedSize.f k r1.1 (w64 (a0.2.2.1 - 1))) fun r4 =>
  (some ((w64 (r3.1 - r4.1)), ()))))))))
def f (k : Nat) (a0 : Ty.den TStore) (a1 : Ty.den TDisk) : Option (Int × Unit) := t k a0 a1
end impl_MergeGain
namespace laws_eqIntS
abbrev T0 : Type := List Int → List Int → Int → Option (Bool × Unit)
def b0 (k : Nat) (L0 : T0) (x0_0 : List Int) (x0_1 : List Int) (x0_2 : Int) : Option (Bool × Unit) :=
  (bif (decide (x0_2 < (List.length x0_0 : Int))) then
  (inb x0_2 (List.length x0_0 : Int)
  (inb x0_2 (List.length x0_1 : Int)
  (bif ((List.getD x0_0 (Int.toNat x0_2) (Ty.dflt (.int .i64))) != (List.getD x0_1 (Int.toNat x0_2) (Ty.dflt (.int .i64)))) then
  (some (false, ()))
  else
  (L0 x0_0 x0_1 (w64 (x0_2 + 1))))))
  else
  (some (true, ())))
def l0 (k : Nat) : Nat → T0
  | 0 => fun _ _ _ => none
  | n + 1 => b0 k (l0 k n)
def t (k : Nat) (L0 : T0) (a0 : List Int) (a1 : List Int) : Option (Bool × Unit) :=
  (bif ((List.length a0 : Int) != (List.length a1 : Int)) then
  (some (false, ()))
  else
  (L0 a0 a1 0))
def f (k : Nat) (a0 : List Int) (a1 : List Int) : Option (Bool × Unit) := t k (l0 k k) a0 a1
end laws_eqIntS
namespace laws_eqLive
def t (k : Nat) (a0 : Ty.den TLive) (a1 : Ty.den TLive) : Option (Bool × Unit) :=
  (bif (a0.1 != a1.1) then
  (some (false, ()))
  else
  (Option.bind (laws_eqIntS.f k a0.2.1 a1.2.1) fun r1 =>
  (bif (!r1.1) then
  (some (false, ()))
  else
  (some (true, ())))))
def f (k : Nat) (a0 : Ty.den TLive) (a1 : Ty.den TLive) : Option (Bool × Unit) := t k a0 a1
end laws_eqLive
namespace laws_eqEntry
def t (k : Nat) (a0 : Ty.den TEntry) (a1 : Ty.den TEntry) : Option (Bool × Unit) :=
  (bif (!(seq a0.1 a1.1)) then
  (some (false, ()))
  else
  (bif (a0.2.1 != a1.2.1) then
  (some (false, ()))
  else
  (bif (a0.2.2.1 != a1.2.2.1) then
  (some (false, ()))
  else
  (bif (a0.2.2.2.1 != a1.2.2.2.1) then
  (some (false, ()))
  else
  (bif (a0.2.2.2.2.1 != a1.2.2.2.2.1) then
  (some (false, ()))
  else
  (some (true, ())))))))
def f (k : Nat) (a0 : Ty.den TEntry) (a1 : Ty.den TEntry) : Option (Bool × Unit) := t k a0 a1
end laws_eqEntry
namespace laws_eqEntryS
abbrev T0 : Type := List (Ty.den TEntry) → List (Ty.den TEntry) → Int → Option (Bool × Unit)
def b0 (k : Nat) (L0 : T0) (x0_0 : List (Ty.den TEntry)) (x0_1 : List (Ty.den TEntry)) (x0_2 : Int) : Option (Bool × Unit) :=
  (bif (decide (x0_2 < (List.length x0_0 : Int))) then
  (inb x0_2 (List.length x0_0 : Int)
  (inb x0_2 (List.length x0_1 : Int)
  (Option.bind (laws_eqEntry.f k (List.getD x0_0 (Int.toNat x0_2) (Ty.dflt TEntry)) (List.getD x0_1 (Int.toNat x0_2) (Ty.dflt TEntry))) fun r1 =>
  (bif (!r1.1) then
  (some (false, ()))
  else
  (L0 x0_0 x0_1 (w64 (x0_2 + 1)))))))
  else
  (some (true, ())))
def l0 (k : Nat) : Nat → T0
  | 0 => fun _ _ _ => none
  | n + 1 => b0 k (l0 k n)
def t (k : Nat) (L0 : T0) (a0 : List (Ty.den TEntry)) (a1 : List (Ty.den TEntry)) : Option (Bool × Unit) :=
  (bif ((List.length a0 : Int) != (List.length a1 : Int)) then
  (some (false, ()))
  else
  (L0 a0 a1 0))
def f (k : Nat) (a0 : List (Ty.den TEntry)) (a1 : List (Ty.den TEntry)) : Option (Bool × Unit) := t k (l0 k k) a0 a1
end laws_eqEntryS
namespace laws_eqStore
def t (k : Nat) (a0 : Ty.den TStore) (a1 : Ty.den TStore) : Option (Bool × Unit) :=
  (Option.bind (laws_eqLive.f k a0.1 a1.1) fun r1 =>
  (bif (!r1.1) then
  (some (false, ()))
  else
  (Option.bind (laws_eqEntryS.f k a0.2.1 a1.2.1) fun r2 =>
  (bif (!r2.1) then
  (some (false, ()))
  else
  (bif (a0.2.2.1 != a1.2.2.1) then
  (some (false, ()))
  else
  (bif (a0.2.2.2.1 != a1.2.2.2.1) then
  (some (false, ()))
  else
  (bif (a0.2.2.2.2.1 != a1.2.2.2.2.1) then
  (some (false, ()))
  else
  (some (true, ())))))))))
def f (k : Nat) (a0 : Ty.den TStore) (a1 : Ty.den TStore) : Option (Bool × Unit) := t k a0 a1
end laws_eqStore
namespace laws_eqFile
def t (k : Nat) (a0 : Ty.den TPair) (a1 : Ty.den TPair) : Option (Bool × Unit) :=
  (bif (!(seq a0.1 a1.1)) then
  (some (false, ()))
  else
  (bif (!(seq a0.2.1 a1.2.1)) then
  (some (false, ()))
  else
  (bif (a0.2.2.1 != a1.2.2.1) then
  (some (false, ()))
  else
  (some (true, ())))))
def f (k : Nat) (a0 : Ty.den TPair) (a1 : Ty.den TPair) : Option (Bool × Unit) := t k a0 a1
end laws_eqFile
namespace laws_eqFileS
abbrev T0 : Type := List (Ty.den TPair) → List (Ty.den TPair) → Int → Option (Bool × Unit)
def b0 (k : Nat) (L0 : T0) (x0_0 : List (Ty.den TPair)) (x0_1 : List (Ty.den TPair)) (x0_2 : Int) : Option (Bool × Unit) :=
  (bif (decide (x0_2 < (List.length x0_0 : Int))) then
  (inb x0_2 (List.length x0_0 : Int)
  (inb x0_2 (List.length x0_1 : Int)
  (Option.bind (laws_eqFile.f k (List.getD x0_0 (Int.toNat x0_2) (Ty.dflt TPair)) (List.getD x0_1 (Int.toNat x0_2) (Ty.dflt TPair))) fun r1 =>
  (bif (!r1.1) then
  (some (false, ()))
  else
  (L0 x0_0 x0_1 (w64 (x0_2 + 1)))))))
  else
  (some (true, ())))
def l0 (k : Nat) : Nat → T0
  | 0 => fun _ _ _ => none
  | n + 1 => b0 k (l0 k n)
def t (k : Nat) (L0 : T0) (a0 : List (Ty.den TPair)) (a1 : List (Ty.den TPair)) : Option (Bool × Unit) :=
  (bif ((List.length a0 : Int) != (List.length a1 : Int)) then
  (some (false, ()))
  else
  (L0 a0 a1 0))
def f (k : Nat) (a0 : List (Ty.den TPair)) (a1 : List (Ty.den TPair)) : Option (Bool × Unit) := t k (l0 k k) a0 a1
end laws_eqFileS
namespace laws_eqDisk
def t (k : Nat) (a0 : Ty.den TDisk) (a1 : Ty.den TDisk) : Option (Bool × Unit) :=
  (Option.bind (laws_eqFileS.f k a0.1 a1.1) fun r1 =>
  (bif (!r1.1) then
  (some (false, ()))
  else
  (bif (a0.2.1 != a1.2.1) then
  (some (false, ()))
  else
  (bif (a0.2.2.1 != a1.2.2.1) then
  (some (false, ()))
  else
  (bif (!(a0.2.2.2.1 == a1.2.2.2.1)) then
  (some (false, ()))
  else
  (some (true, ())))))))
def f (k : Nat) (a0 : Ty.den TDisk) (a1 : Ty.den TDisk) : Option (Bool × Unit) := t k a0 a1
end laws_eqDisk
namespace laws_FnExactMergeGain
def t (k : Nat) (a0 : Ty.den TStore) (a1 : Ty.den TDisk) : Option (Bool × Unit) :=
  (Option.bind (laws_szStore.f k a0 1048576) fun r1 =>
  (bif (decide (r1.1 < 0)) then
  (some (true, ()))
  else
  (Option.bind (laws_szDisk.f k a1 r1.1) fun r2 =>
  (bif (decide (r2.1 < 0)) then
  (some (true, ()))
  else
  (Option.bind (laws_toStore.f k a0) fun r3 =>
  (Option.bind (laws_toDisk.f k a1) fun r4 =>
  (Option.bind (spec_MergeGain.f k r3.1 r4.1) fun r5 =>
  (Option.bind (laws_toStore.f k a0) fun r6 =>
  (Option.bind (laws_toDisk.f k a1) fun r7 =>
  (Option.bind (impl_MergeGain.f k r6.1 r7.1) fun r8 =>
  (bif (r8.1 != r5.1) then
  (some (false, ()))
  else
  (Option.bind (laws_toStore.f k a0) fun r9 =>
  (Option.bind (laws_eqStore.f k r6.1 r9.1) fun r10 =>
  (bif (!r10.1) then
  (some (false, ()))
  else
  (Option.bind (laws_toDisk.f k a1) fun r11 =>
  (Option.bind (laws_eqDisk.f k r7.1 r11.1) fun r12 =>
  (bif (!r12.1) then
  (some (false, ()))
  else
  (some (true, ())))))))))))))))))))
def f (k : Nat) (a0 : Ty.den TStore) (a1 : Ty.den TDisk) : Option (Bool × Unit) := t k a0 a1
end laws_FnExactMergeGain
namespace spec_NeedsMerge
def t (k : Nat) (a0 : Ty.den TStore) (a1 : Ty.den TDisk) (a2 : Int) : Option (Bool × Unit) :=
  (Option.bind (spec_SegBytes.f k a0 a1) fun r1 =>
  (Option.bind (spec_l1In.f k a2 0 100) fun r2 =>
  (bif r2.1 then
  (bif (decide (r1.1 > 0)) then
  (Option.bind (spec_MergeGain.f k a0 a1) fun r3 =>
  (some ((decide ((w64 (r3.1 * 100)) ≥ (w64 (r1.1 * a2)))), ())))
  else
  (some (false, ())))
  else
  (some (false, ())))))
def f (k : Nat) (a0 : Ty.den TStore) (a1 : Ty.den TDisk) (a2 : Int) : Option (Bool × Unit) := t k a0 a1 a2
end spec_NeedsMerge
namespace impl_NeedsMerge
def t (k : Nat) (a0 : Ty.den TStore) (a1 : Ty.den TDisk) (a2 : Int) : Option (Bool × Unit) :=
  (Option.bind (impl_SegBytes.f k a0 a1) fun r1 =>
  (Option.bind (impl_in.f k a2 0 100) fun r2 =>
  (bif r2.1 then
  (bif (decide (r1.1 > 0)) then
  (Option.bind (impl_MergeGain.f k a0 a1) fun r3 =>
  (some ((decide ((w64 (100 * r3.1)) ≥ (w64 (a2 * r1.1)))), ())))
  else
  (some (false, ())))
  else
  (some (false, ())))))
def f (k : Nat) (a0 : Ty.den TStore) (a1 : Ty.den TDisk) (a2 : Int) : Option (Bool × Unit) := t k a0 a1 a2
end impl_NeedsMerge
namespace laws_FnExactNeedsMerge
def t (k : Nat) (a0 : Ty.den TStore) (a1 : Ty.den TDisk) (a2 : Int) : Option (Bool × Unit) :=
  (Option.bind (laws_szStore.f k a0 1048576) fun r1 =>
  (bif (decide (r1.1 < 0)) then
  (some (true, ()))
  else
  (Option.bind (laws_szDisk.f k a1 r1.1) fun r2 =>
  (bif (decide (r2.1 < 0)) then
  (some (true, ()))
  else
  (Option.bind (laws_toStore.f k a0) fun r3 =>
  (Option.bind (laws_toDisk.f k a1) fun r4 =>
  (Option.bind (spec_NeedsMerge.f k r3.1 r4.1 a2) fun r5 =>
  (Option.bind (laws_toStore.f k a0) fun r6 =>
  (Option.bind (laws_toDisk.f k a1) fun r7 =>
  (Option.bind (impl_NeedsMerge.f k r6.1 r7.1 a2) fun r8 =>
  (bif (!(r8.1 == r5.1)) then
  (some (false, ()))
  else
  (Option.bind (laws_toStore.f k a0) fun r9 =>
  (Option.bind (laws_eqStore.f k r6.1 r9.1) fun r10 =>
  (bif (!r10.1) then
  (some (false, ()))
  else
  (Option.bind (laws_toDisk.f k a1) fun r11 =>
  (Option.bind (laws_eqDisk.f k r7.1 r11.1) fun r12 =>
  (bif (!r12.1) then
  (some (false, ()))
  else
  (some (true, ())))))))))))))))))))
def f (k : Nat) (a0 : Ty.den TStore) (a1 : Ty.den TDisk) (a2 : Int) : Option (Bool × Unit) := t k a0 a1 a2
end laws_FnExactNeedsMerge
namespace laws_szPiece
def t (k : Nat) (a0 : Ty.den TPiece) (a1 : Int) : Option (Int × Unit) :=
  (bif (decide ((w64 (a1 - (ByteArray.size a0.2.1 : Int))) < 0)) then
  (some ((-1), ()))
  else
  (some ((w64 (a1 - (ByteArray.size a0.2.1 : Int))), ())))
def f (k : Nat) (a0 : Ty.den TPiece) (a1 : Int) : Option (Int × Unit) := t k a0 a1
end laws_szPiece
namespace laws_szPieceS
abbrev T0 : Type := List (Ty.den TPiece) → Int → Int → Option (Int × Unit)
def b0 (k : Nat) (L0 : T0) (x0_0 : List (Ty.den TPiece)) (x0_1 : Int) (x0_2 : Int) : Option (Int × Unit) :=
  (bif (decide (x0_2 < (List.length x0_0 : Int))) then
  (inb x0_2 (List.length x0_0 : Int)
  (Option.bind (laws_szPiece.f k (List.getD x0_0 (Int.toNat x0_2) (Ty.dflt TPiece)) x0_1) fun r1 =>
  (bif (decide (r1.1 < 0)) then
  (some ((-1), ()))
  else
  (L0 x0_0 r1.1 (w64 (x0_2 + 1))))))
  else
  (some (x0_1, ())))
def l0 (k : Nat) : Nat → T0
  | 0 => fun _ _ _ => none
  | n + 1 => b0 k (l0 k n)
def t (k : Nat) (L0 : T0) (a0 : List (Ty.den TPiece)) (a1 : Int) : Option (Int × Unit) :=
  (bif (decide ((w64 (a1 - (List.length a0 : Int))) < 0)) then
  (some ((-1), ()))
  else
  (L0 a0 (w64 (a1 - (List.length a0 : Int))) 0))
def f (k : Nat) (a0 : List (Ty.den TPiece)) (a1 : Int) : Option (Int × Unit) := t k (l0 k k) a0 a1
end laws_szPieceS
namespace laws_szFollower
def t (k : Nat) (a0 : Ty.den TFollower) (a1 : Int) : Option (Int × Unit) :=
  (Option.bind (laws_szPieceS.f k a0.2.1 a1) fun r1 =>
  (bif (decide (r1.1 < 0)) then
  (some ((-1), ()))
  else
  (some r1)))
def f (k : Nat) (a0 : Ty.den TFollower) (a1 : Int) : Option (Int × Unit) := t k a0 a1
end laws_szFollower
namespace laws_toPiece
def t (k : Nat) (a0 : Ty.den TPiece) : Option ((Ty.den TPiece) × Unit) :=
  (some (a0, ()))
def f (k : Nat) (a0 : Ty.den TPiece) : Option ((Ty.den TPiece) × Unit) := t k a0
end laws_toPiece
namespace laws_toPieceS
abbrev T0 : Type := List (Ty.den TPiece) → Int → List (Ty.den TPiece) → Option ((List (Ty.den TPiece)) × Unit)
def b0 (k : Nat) (L0 : T0) (x0_0 : List (Ty.den TPiece)) (x0_1 : Int) (x0_2 : List (Ty.den TPiece)) : Option ((List (Ty.den TPiece)) × Unit) :=
  (bif (decide (x0_1 < (List.length x0_0 : Int))) then
  (inb x0_1 (List.length x0_0 : Int)
  (Option.bind (laws_toPiece.f k (List.getD x0_0 (Int.toNat x0_1) (Ty.dflt TPiece))) fun r1 =>
  (inb x0_1 (List.length x0_2 : Int)
  (let l2 := (List.set x0_2 (Int.toNat x0_1) r1.1);
  (L0 x0_0 (w64 (x0_1 + 1)) l2)))))
  else
  (some (x0_2, ())))
def l0 (k : Nat) : Nat → T0
  | 0 => fun _ _ _ => none
  | n + 1 => b0 k (l0 k n)
def t (k : Nat) (L0 : T0) (a0 : List (Ty.den TPiece)) : Option ((List (Ty.den TPiece)) × Unit) :=
  (mks (Ty.bytes TPiece) (List.length a0 : Int)
  (L0 a0 0 (List.replicate (Int.toNat (List.length a0 : Int)) (Ty.dflt TPiece))))
def f (k : Nat) (a0 : List (Ty.den TPiece)) : Option ((List (Ty.den TPiece)) × Unit) := t k (l0 k k) a0
end laws_toPieceS
namespace laws_toFollower
def t (k : Nat) (a0 : Ty.den TFollower) : Option ((Ty.den TFollower) × Unit) :=
  (Option.bind (laws_toPieceS.f k a0.2.1) fun r1 =>
  (some ((a0.1, r1), ())))
def f (k : Nat) (a0 : Ty.den TFollower) : Option ((Ty.den TFollower) × Unit) := t k a0
end laws_toFollower
namespace spec_l27Text
abbrev T0 : Type := Int → Int → Int → List (Ty.den TPiece) → Option (ByteArray × Unit)
def b0 (k : Nat) (L0 : T0) (x0_0 : Int) (x0_1 : Int) (x0_2 : Int) (x0_3 : List (Ty.den TPiece)) : Option (ByteArray × Unit) :=
  (bif (decide (x0_1 < (List.length x0_3 : Int))) then
  (inb x0_1 (List.length x0_3 : Int)
  (bif ((List.getD x0_3 (Int.toNat x0_1) (Ty.dflt TPiece)).1 == x0_0) then
  (inb x0_1 (List.length x0_3 : Int)
  (some (List.getD x0_3 (Int.toNat x0_1) (Ty.dflt TPiece)).2))
  else
  (L0 x0_0 (w64 (x0_1 + 1)) x0_2 x0_3)))
  else
  (some ((⟨#[]⟩ : ByteArray), ())))
def l0 (k : Nat) : Nat → T0
  | 0 => fun _ _ _ _ => none
  | n + 1 => b0 k (l0 k n)
def t (k : Nat) (L0 : T0) (a0 : Ty.den TFollower) (a1 : Int) : Option (ByteArray × Unit) :=
  (L0 a1 0 a0.1 a0.2.1)
def f (k : Nat) (a0 : Ty.den TFollower) (a1 : Int) : Option (ByteArray × Unit) := t k (l0 k k) a0 a1
end spec_l27Text
namespace spec_Ship
abbrev T0 : Type := Int → Int → List Int → List (Ty.den TEntry) → Int → Int → Int → List (Ty.den TPair) → Int → Int → Bool → Int → List (Ty.den TPiece) → List (Ty.den TBit) → Int → List (Ty.den TBit) → Int → Option ((Ty.den TParcel) × Unit)
def b0 (k : Nat) (L0 : T0) (x0_0 : Int) (x0_1 : Int) (x0_2 : List Int) (x0_3 : List (Ty.den TEntry)) (x0_4 : Int) (x0_5 : Int) (x0_6 : Int) (x0_7 : List (Ty.den TPair)) (x0_8 : Int) (x0_9 : Int) (x0_10 : Bool) (x0_11 : Int) (x0_12 : List (Ty.den TPiece)) (x0_13 : List (Ty.den TBit)) (x0_14 : Int) (x0_15 : List (Ty.den TBit)) (x0_16 : Int) : Option ((Ty.den TParcel) × Unit) :=
  (bif (decide (x0_0 < (List.length x0_2 : Int))) then
  (inb x0_0 (List.length x0_2 : Int)
  (Option.bind (spec_SegName.f k (List.getD x0_2 (Int.toNat x0_0) (Ty.dflt (.int .i64)))) fun r2 =>
  (Option.bind (spec_FileText.f k (x0_7, (x0_8, (x0_9, (x0_10, ())))) r2.1) fun r3 =>
  (Option.bind (spec_l27Text.f k (x0_11, (x0_12, ())) (List.getD x0_2 (Int.toNat x0_0) (Ty.dflt (.int .i64)))) fun r4 =>
  (bif (decide ((ByteArray.size r4.1 : Int) ≤ (ByteArray.size r3.1 : Int))) then
  (inc (ByteArray.size r4.1 : Int) (ByteArray.size r3.1 : Int)
  (bif (seq (ByteArray.extract r3.1 0 (Int.toNat (ByteArray.size r4.1 : Int))) r4.1) then
  (inc (ByteArray.size r4.1 : Int) (ByteArray.size r3.1 : Int)
  (rm (Ty.bytes TBit) (List.length x0_15 + 1)
  (L0 (w64 (x0_0 + 1)) x0_1 x0_2 x0_3 x0_4 x0_5 x0_6 x0_7 x0_8 x0_9 x0_10 x0_11 x0_12 x0_13 x0_14 (x0_15 ++ [((List.getD x0_2 (Int.toNat x0_0) (Ty.dflt (.int .i64))), ((ByteArray.size r4.1 : Int), ((ByteArray.extract r3.1 (Int.toNat (ByteArray.size r4.1 : Int)) (ByteArray.size r3.1)), ())))]) x0_16)))
  else
  (inc 0 (ByteArray.size r3.1 : Int)
  (rm (Ty.bytes TBit) (List.length x0_15 + 1)
  (L0 (w64 (x0_0 + 1)) x0_1 x0_2 x0_3 x0_4 x0_5 x0_6 x0_7 x0_8 x0_9 x0_10 x0_11 x0_12 x0_13 x0_14 (x0_15 ++ [((List.getD x0_2 (Int.toNat x0_0) (Ty.dflt (.int .i64))), (0, ((ByteArray.extract r3.1 0 (ByteArray.size r3.1)), ())))]) x0_16)))))
  else
  (inc 0 (ByteArray.size r3.1 : Int)
  (rm (Ty.bytes TBit) (List.length x0_15 + 1)
  (L0 (w64 (x0_0 + 1)) x0_1 x0_2 x0_3 x0_4 x0_5 x0_6 x0_7 x0_8 x0_9 x0_10 x0_11 x0_12 x0_13 x0_14 (x0_15 ++ [((List.getD x0_2 (Int.toNat x0_0) (Ty.dflt (.int .i64))), (0, ((ByteArray.extract r3.1 0 (ByteArray.size r3.1)), ())))]) x0_16))))))))
  else
  (some ((x0_16, (x0_15, ())), ())))
def l0 (k : Nat) : Nat → T0
  | 0 => fun _ _ _ _ _ _ _ _ _ _ _ _ _ _ _ _ _ => none
  | n + 1 => b0 k (l0 k n)
def t (k : Nat) (L0 : T0) (a0 : Ty.den TStore) (a1 : Ty.den TDisk) (a2 : Ty.den TFollower) : Option ((Ty.den TParcel) × Unit) :=
  (Option.bind (spec_StoreOk.f k a0 a1) fun r1 =>
  (bif (!r1.1) then
  (some ((0, ([], ())), ()))
  else
  (L0 0 a0.1.1 a0.1.2.1 a0.2.1 a0.2.2.1 a0.2.2.2.1 a0.2.2.2.2.1 a1.1 a1.2.1 a1.2.2.1 a1.2.2.2.1 a2.1 a2.2.1 [] 0 [] a0.1.1)))
def f (k : Nat) (a0 : Ty.den TStore) (a1 : Ty.den TDisk) (a2 : Ty.den TFollower) : Option ((Ty.den TParcel) × Unit) := t k (l0 k k) a0 a1 a2
end spec_Ship
namespace impl_has
abbrev T0 : Type := Int → List (Ty.den TPiece) → Int → Int → Option (ByteArray × Unit)
def b0 (k : Nat) (L0 : T0) (x0_0 : Int) (x0_1 : List (Ty.den TPiece)) (x0_2 : Int) (x0_3 : Int) : Option (ByteArray × Unit) :=
  (bif (decide (x0_3 < x0_2)) then
  (inb x0_3 (List.length x0_1 : Int)
  (bif ((List.getD x0_1 (Int.toNat x0_3) (Ty.dflt TPiece)).1 == x0_0) then
  (some (List.getD x0_1 (Int.toNat x0_3) (Ty.dflt TPiece)).2)
  else
  (L0 x0_0 x0_1 x0_2 (w64 (x0_3 + 1)))))
  else
  (some ((⟨#[]⟩ : ByteArray), ())))
def l0 (k : Nat) : Nat → T0
  | 0 => fun _ _ _ _ => none
  | n + 1 => b0 k (l0 k n)
def t (k : Nat) (L0 : T0) (a0 : Ty.den TFollower) (a1 : Int) : Option (ByteArray × Unit) :=
  (L0 a1 a0.2.1 (List.length a0.2.1 : Int) 0)
def f (k : Nat) (a0 : Ty.den TFollower) (a1 : Int) : Option (ByteArray × Unit) := t k (l0 k k) a0 a1
end impl_has
namespace impl_Ship
abbrev T0 : Type := List Int → Int → Int → List (Ty.den TPair) → Int → Int → Bool → Int → List (Ty.den TPiece) → List (Ty.den TBit) → Int → List (Ty.den TBit) → Int → Option ((Ty.den TParcel) × Unit)
def b0 (k : Nat) (L0 : T0) (x0_0 : List Int) (x0_1 : Int) (x0_2 : Int) (x0_3 : List (Ty.den TPair)) (x0_4 : Int) (x0_5 : Int) (x0_6 : Bool) (x0_7 : Int) (x0_8 : List (Ty.den TPiece)) (x0_9 : List (Ty.den TBit)) (x0_10 : Int) (x0_11 : List (Ty.den TBit)) (x0_12 : Int) : Option ((Ty.den TParcel) × Unit) :=
  (bif (decide (x0_2 < x0_1)) then
  (inb x0_2 (List.length x0_0 : Int)
  (Option.bind (impl_SegName.f k (List.getD x0_0 (Int.toNat x0_2) (Ty.dflt (.int .i64)))) fun r2 =>
  (Option.bind (impl_FileText.f k (x0_3, (x0_4, (x0_5, (x0_6, ())))) r2.1) fun r3 =>
  (Option.bind (impl_has.f k (x0_7, (x0_8, ())) (List.getD x0_0 (Int.toNat x0_2) (Ty.dflt (.int .i64)))) fun r4 =>
  (Option.bind (lib_HasPrefix.f k r3.1 r4.1) fun r5 =>
  (bif r5.1 then
  (inc (ByteArray.size r4.1 : Int) (ByteArray.size r3.1 : Int)
  (rm (Ty.bytes TBit) (List.length x0_11 + 1)
  (L0 x0_0 x0_1 (w64 (x0_2 + 1)) x0_3 x0_4 x0_5 x0_6 x0_7 x0_8 x0_9 x0_10 (x0_11 ++ [((List.getD x0_0 (Int.toNat x0_2) (Ty.dflt (.int .i64))), ((ByteArray.size r4.1 : Int), ((ByteArray.extract r3.1 (Int.toNat (ByteArray.size r4.1 : Int)) (ByteArray.size r3.1)), ())))]) x0_12)))
  else
  (rm (Ty.bytes TBit) (List.length x0_11 + 1)
  (L0 x0_0 x0_1 (w64 (x0_2 + 1)) x0_3 x0_4 x0_5 x0_6 x0_7 x0_8 x0_9 x0_10 (x0_11 ++ [((List.getD x0_0 (Int.toNat x0_2) (Ty.dflt (.int .i64))), (0, (r3.1, ())))]) x0_12))))))))
  else
  (some ((x0_12, (x0_11, ())), ())))
def l0 (k : Nat) : Nat → T0
  | 0 => fun _ _ _ _ _ _ _ _ _ _ _ _ _ => none
  | n + 1 => b0 k (l0 k n)
def t (k : Nat) (L0 : T0) (a0 : Ty.den TStore) (a1 : Ty.den TDisk) (a2 : Ty.den TFollower) : Option ((Ty.den TParcel) × Unit) :=
  (Option.bind (impl_StoreOk.f k a0 a1) fun r1 =>
  (bif (!r1.1) then
  (some ((0, ([], ())), ()))
  else
  (L0 a0.1.2.1 (List.length a0.1.2.1 : Int) 0 a1.1 a1.2.1 a1.2.2.1 a1.2.2.2.1 a2.1 a2.2.1 [] 0 [] a0.1.1)))
def f (k : Nat) (a0 : Ty.den TStore) (a1 : Ty.den TDisk) (a2 : Ty.den TFollower) : Option ((Ty.den TParcel) × Unit) := t k (l0 k k) a0 a1 a2
end impl_Ship
namespace laws_eqBit
def t (k : Nat) (a0 : Ty.den TBit) (a1 : Ty.den TBit) : Option (Bool × Unit) :=
  (bif (a0.1 != a1.1) then
  (some (false, ()))
  else
  (bif (a0.2.1 != a1.2.1) then
  (some (false, ()))
  else
  (bif (!(seq a0.2.2.1 a1.2.2.1)) then
  (some (false, ()))
  else
  (some (true, ())))))
def f (k : Nat) (a0 : Ty.den TBit) (a1 : Ty.den TBit) : Option (Bool × Unit) := t k a0 a1
end laws_eqBit
namespace laws_eqBitS
abbrev T0 : Type := List (Ty.den TBit) → List (Ty.den TBit) → Int → Option (Bool × Unit)
def b0 (k : Nat) (L0 : T0) (x0_0 : List (Ty.den TBit)) (x0_1 : List (Ty.den TBit)) (x0_2 : Int) : Option (Bool × Unit) :=
  (bif (decide (x0_2 < (List.length x0_0 : Int))) then
  (inb x0_2 (List.length x0_0 : Int)
  (inb x0_2 (List.length x0_1 : Int)
  (Option.bind (laws_eqBit.f k (List.getD x0_0 (Int.toNat x0_2) (Ty.dflt TBit)) (List.getD x0_1 (Int.toNat x0_2) (Ty.dflt TBit))) fun r1 =>
  (bif (!r1.1) then
  (some (false, ()))
  else
  (L0 x0_0 x0_1 (w64 (x0_2 + 1)))))))
  else
  (some (true, ())))
def l0 (k : Nat) : Nat → T0
  | 0 => fun _ _ _ => none
  | n + 1 => b0 k (l0 k n)
def t (k : Nat) (L0 : T0) (a0 : List (Ty.den TBit)) (a1 : List (Ty.den TBit)) : Option (Bool × Unit) :=
  (bif ((List.length a0 : Int) != (List.length a1 : Int)) then
  (some (false, ()))
  else
  (L0 a0 a1 0))
def f (k : Nat) (a0 : List (Ty.den TBit)) (a1 : List (Ty.den TBit)) : Option (Bool × Unit) := t k (l0 k k) a0 a1
end laws_eqBitS
namespace laws_eqParcel
def t (k : Nat) (a0 : Ty.den TParcel) (a1 : Ty.den TParcel) : Option (Bool × Unit) :=
  (bif (a0.1 != a1.1) then
  (some (false, ()))
  else
  (Option.bind (laws_eqBitS.f k a0.2.1 a1.2.1) fun r1 =>
  (bif (!r1.1) then
  (some (false, ()))
  else
  (some (true, ())))))
def f (k : Nat) (a0 : Ty.den TParcel) (a1 : Ty.den TParcel) : Option (Bool × Unit) := t k a0 a1
end laws_eqParcel
namespace laws_eqPiece
def t (k : Nat) (a0 : Ty.den TPiece) (a1 : Ty.den TPiece) : Option (Bool × Unit) :=
  (bif (a0.1 != a1.1) then
  (some (false, ()))
  else
  (bif (!(seq a0.2.1 a1.2.1)) then
  (some (false, ()))
  else
  (some (true, ()))))
def f (k : Nat) (a0 : Ty.den TPiece) (a1 : Ty.den TPiece) : Option (Bool × Unit) := t k a0 a1
end laws_eqPiece
namespace laws_eqPieceS
abbrev T0 : Type := List (Ty.den TPiece) → List (Ty.den TPiece) → Int → Option (Bool × Unit)
def b0 (k : Nat) (L0 : T0) (x0_0 : List (Ty.den TPiece)) (x0_1 : List (Ty.den TPiece)) (x0_2 : Int) : Option (Bool × Unit) :=
  (bif (decide (x0_2 < (List.length x0_0 : Int))) then
  (inb x0_2 (List.length x0_0 : Int)
  (inb x0_2 (List.length x0_1 : Int)
  (Option.bind (laws_eqPiece.f k (List.getD x0_0 (Int.toNat x0_2) (Ty.dflt TPiece)) (List.getD x0_1 (Int.toNat x0_2) (Ty.dflt TPiece))) fun r1 =>
  (bif (!r1.1) then
  (some (false, ()))
  else
  (L0 x0_0 x0_1 (w64 (x0_2 + 1)))))))
  else
  (some (true, ())))
def l0 (k : Nat) : Nat → T0
  | 0 => fun _ _ _ => none
  | n + 1 => b0 k (l0 k n)
def t (k : Nat) (L0 : T0) (a0 : List (Ty.den TPiece)) (a1 : List (Ty.den TPiece)) : Option (Bool × Unit) :=
  (bif ((List.length a0 : Int) != (List.length a1 : Int)) then
  (some (false, ()))
  else
  (L0 a0 a1 0))
def f (k : Nat) (a0 : List (Ty.den TPiece)) (a1 : List (Ty.den TPiece)) : Option (Bool × Unit) := t k (l0 k k) a0 a1
end laws_eqPieceS
namespace laws_eqFollower
def t (k : Nat) (a0 : Ty.den TFollower) (a1 : Ty.den TFollower) : Option (Bool × Unit) :=
  (bif (a0.1 != a1.1) then
  (some (false, ()))
  else
  (Option.bind (laws_eqPieceS.f k a0.2.1 a1.2.1) fun r1 =>
  (bif (!r1.1) then
  (some (false, ()))
  else
  (some (true, ())))))
def f (k : Nat) (a0 : Ty.den TFollower) (a1 : Ty.den TFollower) : Option (Bool × Unit) := t k a0 a1
end laws_eqFollower
namespace laws_markIntS
abbrev T0 : Type := Int → Int → List Int → Option ((List Int) × Int × Unit)
def b0 (k : Nat) (a0 : List Int) (a1 : Int) (L0 : T0) (x0_0 : Int) (x0_1 : Int) (x0_2 : List Int) : Option ((List Int) × Int × Unit) :=
  (bif (decide (x0_1 < (List.length x0_2 : Int))) then
  (inb x0_1 (List.length x0_2 : Int)
  (let l1 := (List.set x0_2 (Int.toNat x0_1) x0_0);
  (L0 (w64 (x0_0 + 1)) (w64 (x0_1 + 1)) l1)))
  else
  (some (x0_2, (x0_0, ()))))
def l0 (k : Nat) (a0 : List Int) (a1 : Int) : Nat → T0
  | 0 => fun _ _ _ => none
  | n + 1 => b0 k a0 a1 (l0 k a0 a1 n)
def t (k : Nat) (L0 : T0) (a0 : List Int) (a1 : Int) : Option ((List Int) × Int × Unit) :=
  (L0 a1 0 a0)
def f (k : Nat) (a0 : List Int) (a1 : Int) : Option ((List Int) × Int × Unit) := t k (l0 k a0 a1 k) a0 a1
end laws_markIntS
namespace laws_markLive
def t (k : Nat) (a0 : Ty.den TLive) (a1 : Int) : Option ((Ty.den TLive) × Int × Unit) :=
  (Option.bind (laws_markIntS.f k a0.2.1 a1) fun r1 =>
  (some ((a0.1, (r1.1, ())), r1.2)))
def f (k : Nat) (a0 : Ty.den TLive) (a1 : Int) : Option ((Ty.den TLive) × Int × Unit) := t k a0 a1
end laws_markLive
namespace laws_markText
abbrev T0 : Type := Int → ByteArray → Option (ByteArray × Unit)
def b0 (k : Nat) (L0 : T0) (x0_0 : Int) (x0_1 : ByteArray) : Option (ByteArray × Unit) :=
  (bif (decide (x0_0 > 0)) then
  (cat (bytesOf [(IntKind.wrap .u8 (w64 (48 + (Int.tmod x0_0 10))))]) x0_1
  (L0 (w64 (Int.tdiv x0_0 10)) ((bytesOf [(IntKind.wrap .u8 (w64 (48 + (Int.tmod x0_0 10))))]) ++ x0_1)))
  else
  (cat (⟨#[109]⟩ : ByteArray) x0_1
  (some (((⟨#[109]⟩ : ByteArray) ++ x0_1), ()))))
def l0 (k : Nat) : Nat → T0
  | 0 => fun _ _ => none
  | n + 1 => b0 k (l0 k n)
def t (k : Nat) (L0 : T0) (a0 : Int) : Option (ByteArray × Unit) :=
  (bif (decide (a0 ≤ 0)) then
  (some ((⟨#[109, 48]⟩ : ByteArray), ()))
  else
  (L0 a0 (⟨#[]⟩ : ByteArray)))
def f (k : Nat) (a0 : Int) : Option (ByteArray × Unit) := t k (l0 k k) a0
end laws_markText
namespace laws_markEntryS
abbrev T0 : Type := Int → Int → List (Ty.den TEntry) → Option ((List (Ty.den TEntry)) × Int × Unit)
def b0 (k : Nat) (a0 : List (Ty.den TEntry)) (a1 : Int) (L0 : T0) (x0_0 : Int) (x0_1 : Int) (x0_2 : List (Ty.den TEntry)) : Option ((List (Ty.den TEntry)) × Int × Unit) :=
  (bif (decide (x0_1 < (List.length x0_2 : Int))) then
  (Option.bind (laws_markText.f k x0_0) fun r1 =>
  (inb x0_1 (List.length x0_2 : Int)
  (let l2 := (List.set x0_2 (Int.toNat x0_1) (r1.1, (List.getD x0_2 (Int.toNat x0_1) (Ty.dflt TEntry)).2));
  (inb x0_1 (List.length l2 : Int)
  (let l3 := (List.set l2 (Int.toNat x0_1) ((List.getD l2 (Int.toNat x0_1) (Ty.dflt TEntry)).1, ((w64 (x0_0 + 1)), (List.getD l2 (Int.toNat x0_1) (Ty.dflt TEntry)).2.2)));
  (inb x0_1 (List.length l3 : Int)
  (let l4 := (List.set l3 (Int.toNat x0_1) ((List.getD l3 (Int.toNat x0_1) (Ty.dflt TEntry)).1, ((List.getD l3 (Int.toNat x0_1) (Ty.dflt TEntry)).2.1, ((w64 ((w64 (x0_0 + 1)) + 1)), (List.getD l3 (Int.toNat x0_1) (Ty.dflt TEntry)).2.2.2))));
  (inb x0_1 (List.length l4 : Int)
  (let l5 := (List.set l4 (Int.toNat x0_1) ((List.getD l4 (Int.toNat x0_1) (Ty.dflt TEntry)).1, ((List.getD l4 (Int.toNat x0_1) (Ty.dflt TEntry)).2.1, ((List.getD l4 (Int.toNat x0_1) (Ty.dflt TEntry)).2.2.1, ((w64 ((w64 ((w64 (x0_0 + 1)) + 1)) + 1)), (List.getD l4 (Int.toNat x0_1) (Ty.dflt TEntry)).2.2.2.2)))));
  (inb x0_1 (List.length l5 : Int)
  (let l6 := (List.set l5 (Int.toNat x0_1) ((List.getD l5 (Int.toNat x0_1) (Ty.dflt TEntry)).1, ((List.getD l5 (Int.toNat x0_1) (Ty.dflt TEntry)).2.1, ((List.getD l5 (Int.toNat x0_1) (Ty.dflt TEntry)).2.2.1, ((List.getD l5 (Int.toNat x0_1) (Ty.dflt TEntry)).2.2.2.1, ((w64 ((w64 ((w64 ((w64 (x0_0 + 1)) + 1)) + 1)) + 1)), (List.getD l5 (Int.toNat x0_1) (Ty.dflt TEntry)).2.2.2.2.2))))));
  (L0 (w64 ((w64 ((w64 ((w64 ((w64 (x0_0 + 1)) + 1)) + 1)) + 1)) + 1)) (w64 (x0_1 + 1)) l6))))))))))))
  else
  (some (x0_2, (x0_0, ()))))
def l0 (k : Nat) (a0 : List (Ty.den TEntry)) (a1 : Int) : Nat → T0
  | 0 => fun _ _ _ => none
  | n + 1 => b0 k a0 a1 (l0 k a0 a1 n)
def t (k : Nat) (L0 : T0) (a0 : List (Ty.den TEntry)) (a1 : Int) : Option ((List (Ty.den TEntry)) × Int × Unit) :=
  (L0 a1 0 a0)
def f (k : Nat) (a0 : List (Ty.den TEntry)) (a1 : Int) : Option ((List (Ty.den TEntry)) × Int × Unit) := t k (l0 k a0 a1 k) a0 a1
end laws_markEntryS
namespace laws_markStore
def t (k : Nat) (a0 : Ty.den TStore) (a1 : Int) : Option ((Ty.den TStore) × Int × Unit) :=
  (Option.bind (laws_markLive.f k a0.1 a1) fun r1 =>
  (Option.bind (laws_markEntryS.f k a0.2.1 r1.2.1) fun r2 =>
  (some (((a0.1.1, r1.1.2), (r2.1, a0.2.2)), r2.2))))
def f (k : Nat) (a0 : Ty.den TStore) (a1 : Int) : Option ((Ty.den TStore) × Int × Unit) := t k a0 a1
end laws_markStore
namespace laws_markFileS
abbrev T0 : Type := Int → Int → List (Ty.den TPair) → Option ((List (Ty.den TPair)) × Int × Unit)
def b0 (k : Nat) (a0 : List (Ty.den TPair)) (a1 : Int) (L0 : T0) (x0_0 : Int) (x0_1 : Int) (x0_2 : List (Ty.den TPair)) : Option ((List (Ty.den TPair)) × Int × Unit) :=
  (bif (decide (x0_1 < (List.length x0_2 : Int))) then
  (Option.bind (laws_markText.f k x0_0) fun r1 =>
  (inb x0_1 (List.length x0_2 : Int)
  (let l2 := (List.set x0_2 (Int.toNat x0_1) (r1.1, (List.getD x0_2 (Int.toNat x0_1) (Ty.dflt TPair)).2));
  (Option.bind (laws_markText.f k (w64 (x0_0 + 1))) fun r3 =>
  (inb x0_1 (List.length l2 : Int)
  (let l4 := (List.set l2 (Int.toNat x0_1) ((List.getD l2 (Int.toNat x0_1) (Ty.dflt TPair)).1, (r3.1, (List.getD l2 (Int.toNat x0_1) (Ty.dflt TPair)).2.2)));
  (inb x0_1 (List.length l4 : Int)
  (let l5 := (List.set l4 (Int.toNat x0_1) ((List.getD l4 (Int.toNat x0_1) (Ty.dflt TPair)).1, ((List.getD l4 (Int.toNat x0_1) (Ty.dflt TPair)).2.1, ((w64 ((w64 (x0_0 + 1)) + 1)), (List.getD l4 (Int.toNat x0_1) (Ty.dflt TPair)).2.2.2))));
  (L0 (w64 ((w64 ((w64 (x0_0 + 1)) + 1)) + 1)) (w64 (x0_1 + 1)) l5)))))))))
  else
  (some (x0_2, (x0_0, ()))))
def l0 (k : Nat) (a0 : List (Ty.den TPair)) (a1 : Int) : Nat → T0
  | 0 => fun _ _ _ => none
  | n + 1 => b0 k a0 a1 (l0 k a0 a1 n)
def t (k : Nat) (L0 : T0) (a0 : List (Ty.den TPair)) (a1 : Int) : Option ((List (Ty.den TPair)) × Int × Unit) :=
  (L0 a1 0 a0)
def f (k : Nat) (a0 : List (Ty.den TPair)) (a1 : Int) : Option ((List (Ty.den TPair)) × Int × Unit) := t k (l0 k a0 a1 k) a0 a1
end laws_markFileS
namespace laws_markDisk
def t (k : Nat) (a0 : Ty.den TDisk) (a1 : Int) : Option ((Ty.den TDisk) × Int × Unit) :=
  (Option.bind (laws_markFileS.f k a0.1 a1) fun r1 =>
  (some ((r1.1, a0.2), r1.2)))
def f (k : Nat) (a0 : Ty.den TDisk) (a1 : Int) : Option ((Ty.den TDisk) × Int × Unit) := t k a0 a1
end laws_markDisk
namespace laws_markPieceS
abbrev T0 : Type := Int → Int → List (Ty.den TPiece) → Option ((List (Ty.den TPiece)) × Int × Unit)
def b0 (k : Nat) (a0 : List (Ty.den TPiece)) (a1 : Int) (L0 : T0) (x0_0 : Int) (x0_1 : Int) (x0_2 : List (Ty.den TPiece)) : Option ((List (Ty.den TPiece)) × Int × Unit) :=
  (bif (decide (x0_1 < (List.length x0_2 : Int))) then
  (inb x0_1 (List.length x0_2 : Int)
  (let l1 := (List.set x0_2 (Int.toNat x0_1) (x0_0, (List.getD x0_2 (Int.toNat x0_1) (Ty.dflt TPiece)).2));
  (Option.bind (laws_markText.f k (w64 (x0_0 + 1))) fun r2 =>
  (inb x0_1 (List.length l1 : Int)
  (let l3 := (List.set l1 (Int.toNat x0_1) ((List.getD l1 (Int.toNat x0_1) (Ty.dflt TPiece)).1, r2));
  (L0 (w64 ((w64 (x0_0 + 1)) + 1)) (w64 (x0_1 + 1)) l3))))))
  else
  (some (x0_2, (x0_0, ()))))
def l0 (k : Nat) (a0 : List (Ty.den TPiece)) (a1 : Int) : Nat → T0
  | 0 => fun _ _ _ => none
  | n + 1 => b0 k a0 a1 (l0 k a0 a1 n)
def t (k : Nat) (L0 : T0) (a0 : List (Ty.den TPiece)) (a1 : Int) : Option ((List (Ty.den TPiece)) × Int × Unit) :=
  (L0 a1 0 a0)
def f (k : Nat) (a0 : List (Ty.den TPiece)) (a1 : Int) : Option ((List (Ty.den TPiece)) × Int × Unit) := t k (l0 k a0 a1 k) a0 a1
end laws_markPieceS
namespace laws_markFollower
def t (k : Nat) (a0 : Ty.den TFollower) (a1 : Int) : Option ((Ty.den TFollower) × Int × Unit) :=
  (Option.bind (laws_markPieceS.f k a0.2.1 a1) fun r1 =>
  (some ((a0.1, (r1.1, ())), r1.2)))
def f (k : Nat) (a0 : Ty.den TFollower) (a1 : Int) : Option ((Ty.den TFollower) × Int × Unit) := t k a0 a1
end laws_markFollower
namespace laws_markBitS
abbrev T0 : Type := Int → Int → List (Ty.den TBit) → Option ((List (Ty.den TBit)) × Int × Unit)
def b0 (k : Nat) (a0 : List (Ty.den TBit)) (a1 : Int) (L0 : T0) (x0_0 : Int) (x0_1 : Int) (x0_2 : List (Ty.den TBit)) : Option ((List (Ty.den TBit)) × Int × Unit) :=
  (bif (decide (x0_1 < (List.length x0_2 : Int))) then
  (inb x0_1 (List.length x0_2 : Int)
  (let l1 := (List.set x0_2 (Int.toNat x0_1) (x0_0, (List.getD x0_2 (Int.toNat x0_1) (Ty.dflt TBit)).2));
  (inb x0_1 (List.length l1 : Int)
  (let l2 := (List.set l1 (Int.toNat x0_1) ((List.getD l1 (Int.toNat x0_1) (Ty.dflt TBit)).1, ((w64 (x0_0 + 1)), (List.getD l1 (Int.toNat x0_1) (Ty.dflt TBit)).2.2)));
  (Option.bind (laws_markText.f k (w64 ((w64 (x0_0 + 1)) + 1))) fun r3 =>
  (inb x0_1 (List.length l2 : Int)
  (let l4 := (List.set l2 (Int.toNat x0_1) ((List.getD l2 (Int.toNat x0_1) (Ty.dflt TBit)).1, ((List.getD l2 (Int.toNat x0_1) (Ty.dflt TBit)).2.1, r3)));
  (L0 (w64 ((w64 ((w64 (x0_0 + 1)) + 1)) + 1)) (w64 (x0_1 + 1)) l4))))))))
  else
  (some (x0_2, (x0_0, ()))))
def l0 (k : Nat) (a0 : List (Ty.den TBit)) (a1 : Int) : Nat → T0
  | 0 => fun _ _ _ => none
  | n + 1 => b0 k a0 a1 (l0 k a0 a1 n)
def t (k : Nat) (L0 : T0) (a0 : List (Ty.den TBit)) (a1 : Int) : Option ((List (Ty.den TBit)) × Int × Unit) :=
  (L0 a1 0 a0)
def f (k : Nat) (a0 : List (Ty.den TBit)) (a1 : Int) : Option ((List (Ty.den TBit)) × Int × Unit) := t k (l0 k a0 a1 k) a0 a1
end laws_markBitS
namespace laws_markParcel
def t (k : Nat) (a0 : Ty.den TParcel) (a1 : Int) : Option ((Ty.den TParcel) × Int × Unit) :=
  (Option.bind (laws_markBitS.f k a0.2.1 a1) fun r1 =>
  (some ((a0.1, (r1.1, ())), r1.2)))
def f (k : Nat) (a0 : Ty.den TParcel) (a1 : Int) : Option ((Ty.den TParcel) × Int × Unit) := t k a0 a1
end laws_markParcel
namespace laws_heldBitS
abbrev T0 : Type := List (Ty.den TBit) → Int → Int → Option (Int × Unit)
def b0 (k : Nat) (L0 : T0) (x0_0 : List (Ty.den TBit)) (x0_1 : Int) (x0_2 : Int) : Option (Int × Unit) :=
  (bif (decide (x0_2 < (List.length x0_0 : Int))) then
  (inb x0_2 (List.length x0_0 : Int)
  (bif ((List.getD x0_0 (Int.toNat x0_2) (Ty.dflt TBit)).1 != x0_1) then
  (some ((-1), ()))
  else
  (inb x0_2 (List.length x0_0 : Int)
  (bif ((List.getD x0_0 (Int.toNat x0_2) (Ty.dflt TBit)).2.1 != (w64 (x0_1 + 1))) then
  (some ((-1), ()))
  else
  (inb x0_2 (List.length x0_0 : Int)
  (Option.bind (laws_markText.f k (w64 ((w64 (x0_1 + 1)) + 1))) fun r1 =>
  (bif (!(seq (List.getD x0_0 (Int.toNat x0_2) (Ty.dflt TBit)).2.2.1 r1.1)) then
  (some ((-1), ()))
  else
  (L0 x0_0 (w64 ((w64 ((w64 (x0_1 + 1)) + 1)) + 1)) (w64 (x0_2 + 1))))))))))
  else
  (some (x0_1, ())))
def l0 (k : Nat) : Nat → T0
  | 0 => fun _ _ _ => none
  | n + 1 => b0 k (l0 k n)
def t (k : Nat) (L0 : T0) (a0 : List (Ty.den TBit)) (a1 : Int) : Option (Int × Unit) :=
  (L0 a0 a1 0)
def f (k : Nat) (a0 : List (Ty.den TBit)) (a1 : Int) : Option (Int × Unit) := t k (l0 k k) a0 a1
end laws_heldBitS
namespace laws_heldParcel
def t (k : Nat) (a0 : Ty.den TParcel) (a1 : Int) : Option (Int × Unit) :=
  (Option.bind (laws_heldBitS.f k a0.2.1 a1) fun r1 =>
  (bif (decide (r1.1 < 0)) then
  (some ((-1), ()))
  else
  (some r1)))
def f (k : Nat) (a0 : Ty.den TParcel) (a1 : Int) : Option (Int × Unit) := t k a0 a1
end laws_heldParcel
namespace laws_FnExactShip
def t (k : Nat) (a0 : Ty.den TStore) (a1 : Ty.den TDisk) (a2 : Ty.den TFollower) : Option (Bool × Unit) :=
  (Option.bind (laws_szStore.f k a0 1048576) fun r1 =>
  (bif (decide (r1.1 < 0)) then
  (some (true, ()))
  else
  (Option.bind (laws_szDisk.f k a1 r1.1) fun r2 =>
  (bif (decide (r2.1 < 0)) then
  (some (true, ()))
  else
  (Option.bind (laws_szFollower.f k a2 r2.1) fun r3 =>
  (bif (decide (r3.1 < 0)) then
  (some (true, ()))
  else
  (Option.bind (laws_toStore.f k a0) fun r4 =>
  (Option.bind (laws_toDisk.f k a1) fun r5 =>
  (Option.bind (laws_toFollower.f k a2) fun r6 =>
  (Option.bind (spec_Ship.f k r4.1 r5.1 r6.1) fun r7 =>
  (Option.bind (laws_toStore.f k a0) fun r8 =>
  (Option.bind (laws_toDisk.f k a1) fun r9 =>
  (Option.bind (laws_toFollower.f k a2) fun r10 =>
  (Option.bind (impl_Ship.f k r8.1 r9.1 r10.1) fun r11 =>
  (Option.bind (laws_eqParcel.f k r11.1 r7.1) fun r12 =>
  (bif (!r12.1) then
  (some (false, ()))
  else
  (Option.bind (laws_toStore.f k a0) fun r13 =>
  (Option.bind (laws_eqStore.f k r8.1 r13.1) fun r14 =>
  (bif (!r14.1) then
  (some (false, ()))
  else
  (Option.bind (laws_toDisk.f k a1) fun r15 =>
  (Option.bind (laws_eqDisk.f k r9.1 r15.1) fun r16 =>
  (bif (!r16.1) then
  (some (false, ()))
  else
  (Option.bind (laws_toFollower.f k a2) fun r17 =>
  (Option.bind (laws_eqFollower.f k r10.1 r17.1) fun r18 =>
  (bif (!r18.1) then
  (some (false, ()))
  else
  (Option.bind (laws_markStore.f k r8.1 1) fun r19 =>
  (Option.bind (laws_markDisk.f k r9.1 r19.2.1) fun r20 =>
  (Option.bind (laws_markFollower.f k r10.1 r20.2.1) fun r21 =>
  (bif (decide (r21.2.1 < 0)) then
  (some (false, ()))
  else
  (Option.bind (laws_eqParcel.f k r11.1 r7.1) fun r22 =>
  (bif (!r22.1) then
  (some (false, ()))
  else
  (Option.bind (laws_markParcel.f k r11.1 1) fun r23 =>
  (Option.bind (laws_heldParcel.f k (r11.1.1, r23.1.2) 1) fun r24 =>
  (bif (decide (r24.1 < 0)) then
  (some (false, ()))
  else
  (bif (r24.1 != r23.2.1) then
  (some (false, ()))
  else
  (Option.bind (laws_toStore.f k a0) fun r25 =>
  (Option.bind (laws_toDisk.f k a1) fun r26 =>
  (Option.bind (laws_toFollower.f k a2) fun r27 =>
  (Option.bind (impl_Ship.f k r25.1 r26.1 r27.1) fun r28 =>
  (Option.bind (laws_eqParcel.f k r28.1 r7.1) fun r29 =>
  (bif (!r29.1) then
  (some (false, ()))
  else
  (Option.bind (laws_heldParcel.f k (r11.1.1, r23.1.2) 1) fun r30 =>
  (bif (decide (r30.1 < 0)) then
  (some (false, ()))
  else
  (bif (r30.1 != r23.2.1) then
  (some (false, ()))
  else
  (some (true, ()))))))))))))))))))))))))))))))))))))))))))))))
def f (k : Nat) (a0 : Ty.den TStore) (a1 : Ty.den TDisk) (a2 : Ty.den TFollower) : Option (Bool × Unit) := t k a0 a1 a2
end laws_FnExactShip
end Go.Proofs.YtgcahahklmfleaaGreatDoor.G

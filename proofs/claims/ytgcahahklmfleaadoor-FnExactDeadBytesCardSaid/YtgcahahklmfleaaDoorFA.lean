/- Functions, as V runs them. -/
import Derived.Test.YtgcahahklmfleaaDoorVWords
import Derived.Test.YtgcahahklmfleaaDoorXLib
set_option linter.unusedVariables false
namespace Go.Proofs.YtgcahahklmfleaaDoor.G
open Go.V
abbrev TFile : Ty := .pair .str (.pair .str (.pair (.int .i64) .unit))
abbrev TDisk : Ty := .pair (.slice TFile) (.pair (.int .i64) (.pair (.int .i64) (.pair .bool .unit)))
abbrev TEntry : Ty := .pair .str (.pair (.int .i64) (.pair (.int .i64) (.pair (.int .i64) (.pair (.int .i64) .unit))))
abbrev TLive : Ty := .pair (.int .i64) (.pair (.slice (.int .i64)) .unit)
abbrev TStore : Ty := .pair TLive (.pair (.slice TEntry) (.pair (.int .i64) (.pair (.int .i64) (.pair (.int .i64) .unit))))
namespace laws_szIntS
def t (k : Nat) (a0 : List Int) (a1 : Int) : Option (Int × Unit) :=
  (bif (decide ((w64 (a1 - (List.length a0 : Int))) < 0)) then
  (some ((-1), ()))
  else
  (some ((w64 (a1 - (List.length a0 : Int))), ())))
def f (k : Nat) (a0 : List Int) (a1 : Int) : Option (Int × Unit) := t k a0 a1
end laws_szIntS
namespace laws_szLive
def t (k : Nat) (a0 : Ty.den TLive) (a1 : Int) : Option (Int × Unit) :=
  (Option.bind (laws_szIntS.f k a0.2.1 a1) fun r1 =>
  (bif (decide (r1.1 < 0)) then
  (some ((-1), ()))
  else
  (some r1)))
def f (k : Nat) (a0 : Ty.den TLive) (a1 : Int) : Option (Int × Unit) := t k a0 a1
end laws_szLive
namespace laws_szEntry
def t (k : Nat) (a0 : Ty.den TEntry) (a1 : Int) : Option (Int × Unit) :=
  (bif (decide ((w64 (a1 - (ByteArray.size a0.1 : Int))) < 0)) then
  (some ((-1), ()))
  else
  (some ((w64 (a1 - (ByteArray.size a0.1 : Int))), ())))
def f (k : Nat) (a0 : Ty.den TEntry) (a1 : Int) : Option (Int × Unit) := t k a0 a1
end laws_szEntry
namespace laws_szEntryS
abbrev T0 : Type := List (Ty.den TEntry) → Int → Int → Option (Int × Unit)
def b0 (k : Nat) (L0 : T0) (x0_0 : List (Ty.den TEntry)) (x0_1 : Int) (x0_2 : Int) : Option (Int × Unit) :=
  (bif (decide (x0_2 < (List.length x0_0 : Int))) then
  (inb x0_2 (List.length x0_0 : Int)
  (Option.bind (laws_szEntry.f k (List.getD x0_0 (Int.toNat x0_2) (Ty.dflt TEntry)) x0_1) fun r1 =>
  (bif (decide (r1.1 < 0)) then
  (some ((-1), ()))
  else
  (L0 x0_0 r1.1 (w64 (x0_2 + 1))))))
  else
  (some (x0_1, ())))
def l0 (k : Nat) : Nat → T0
  | 0 => fun _ _ _ => none
  | n + 1 => b0 k (l0 k n)
def t (k : Nat) (L0 : T0) (a0 : List (Ty.den TEntry)) (a1 : Int) : Option (Int × Unit) :=
  (bif (decide ((w64 (a1 - (List.length a0 : Int))) < 0)) then
  (some ((-1), ()))
  else
  (L0 a0 (w64 (a1 - (List.length a0 : Int))) 0))
def f (k : Nat) (a0 : List (Ty.den TEntry)) (a1 : Int) : Option (Int × Unit) := t k (l0 k k) a0 a1
end laws_szEntryS
namespace laws_szStore
def t (k : Nat) (a0 : Ty.den TStore) (a1 : Int) : Option (Int × Unit) :=
  (Option.bind (laws_szLive.f k a0.1 a1) fun r1 =>
  (bif (decide (r1.1 < 0)) then
  (some ((-1), ()))
  else
  (Option.bind (laws_szEntryS.f k a0.2.1 r1.1) fun r2 =>
  (bif (decide (r2.1 < 0)) then
  (some ((-1), ()))
  else
  (some r2)))))
def f (k : Nat) (a0 : Ty.den TStore) (a1 : Int) : Option (Int × Unit) := t k a0 a1
end laws_szStore
namespace laws_szFile
def t (k : Nat) (a0 : Ty.den TFile) (a1 : Int) : Option (Int × Unit) :=
  (bif (decide ((w64 (a1 - (ByteArray.size a0.1 : Int))) < 0)) then
  (some ((-1), ()))
  else
  (bif (decide ((w64 ((w64 (a1 - (ByteArray.size a0.1 : Int))) - (ByteArray.size a0.2.1 : Int))) < 0)) then
  (some ((-1), ()))
  else
  (some ((w64 ((w64 (a1 - (ByteArray.size a0.1 : Int))) - (ByteArray.size a0.2.1 : Int))), ()))))
def f (k : Nat) (a0 : Ty.den TFile) (a1 : Int) : Option (Int × Unit) := t k a0 a1
end laws_szFile
namespace laws_szFileS
abbrev T0 : Type := List (Ty.den TFile) → Int → Int → Option (Int × Unit)
def b0 (k : Nat) (L0 : T0) (x0_0 : List (Ty.den TFile)) (x0_1 : Int) (x0_2 : Int) : Option (Int × Unit) :=
  (bif (decide (x0_2 < (List.length x0_0 : Int))) then
  (inb x0_2 (List.length x0_0 : Int)
  (Option.bind (laws_szFile.f k (List.getD x0_0 (Int.toNat x0_2) (Ty.dflt TFile)) x0_1) fun r1 =>
  (bif (decide (r1.1 < 0)) then
  (some ((-1), ()))
  else
  (L0 x0_0 r1.1 (w64 (x0_2 + 1))))))
  else
  (some (x0_1, ())))
def l0 (k : Nat) : Nat → T0
  | 0 => fun _ _ _ => none
  | n + 1 => b0 k (l0 k n)
def t (k : Nat) (L0 : T0) (a0 : List (Ty.den TFile)) (a1 : Int) : Option (Int × Unit) :=
  (bif (decide ((w64 (a1 - (List.length a0 : Int))) < 0)) then
  (some ((-1), ()))
  else
  (L0 a0 (w64 (a1 - (List.length a0 : Int))) 0))
def f (k : Nat) (a0 : List (Ty.den TFile)) (a1 : Int) : Option (Int × Unit) := t k (l0 k k) a0 a1
end laws_szFileS
namespace laws_szDisk
def t (k : Nat) (a0 : Ty.den TDisk) (a1 : Int) : Option (Int × Unit) :=
  (Option.bind (laws_szFileS.f k a0.1 a1) fun r1 =>
  (bif (decide (r1.1 < 0)) then
  (some ((-1), ()))
  else
  (some r1)))
def f (k : Nat) (a0 : Ty.den TDisk) (a1 : Int) : Option (Int × Unit) := t k a0 a1
end laws_szDisk
namespace laws_toIntS
abbrev T0 : Type := List Int → Int → List Int → Option ((List Int) × Unit)
def b0 (k : Nat) (L0 : T0) (x0_0 : List Int) (x0_1 : Int) (x0_2 : List Int) : Option ((List Int) × Unit) :=
  (bif (decide (x0_1 < (List.length x0_0 : Int))) then
  (inb x0_1 (List.length x0_0 : Int)
  (inb x0_1 (List.length x0_2 : Int)
  (let l1 := (List.set x0_2 (Int.toNat x0_1) (List.getD x0_0 (Int.toNat x0_1) (Ty.dflt (.int .i64))));
  (L0 x0_0 (w64 (x0_1 + 1)) l1))))
  else
  (some (x0_2, ())))
def l0 (k : Nat) : Nat → T0
  | 0 => fun _ _ _ => none
  | n + 1 => b0 k (l0 k n)
def t (k : Nat) (L0 : T0) (a0 : List Int) : Option ((List Int) × Unit) :=
  (mks (Ty.bytes (.int .i64)) (List.length a0 : Int)
  (L0 a0 0 (List.replicate (Int.toNat (List.length a0 : Int)) (Ty.dflt (.int .i64)))))
def f (k : Nat) (a0 : List Int) : Option ((List Int) × Unit) := t k (l0 k k) a0
end laws_toIntS
namespace laws_toLive
def t (k : Nat) (a0 : Ty.den TLive) : Option ((Ty.den TLive) × Unit) :=
  (Option.bind (laws_toIntS.f k a0.2.1) fun r1 =>
  (some ((a0.1, r1), ())))
def f (k : Nat) (a0 : Ty.den TLive) : Option ((Ty.den TLive) × Unit) := t k a0
end laws_toLive
namespace laws_toEntry
def t (k : Nat) (a0 : Ty.den TEntry) : Option ((Ty.den TEntry) × Unit) :=
  (some (a0, ()))
def f (k : Nat) (a0 : Ty.den TEntry) : Option ((Ty.den TEntry) × Unit) := t k a0
end laws_toEntry
namespace laws_toEntryS
abbrev T0 : Type := List (Ty.den TEntry) → Int → List (Ty.den TEntry) → Option ((List (Ty.den TEntry)) × Unit)
def b0 (k : Nat) (L0 : T0) (x0_0 : List (Ty.den TEntry)) (x0_1 : Int) (x0_2 : List (Ty.den TEntry)) : Option ((List (Ty.den TEntry)) × Unit) :=
  (bif (decide (x0_1 < (List.length x0_0 : Int))) then
  (inb x0_1 (List.length x0_0 : Int)
  (Option.bind (laws_toEntry.f k (List.getD x0_0 (Int.toNat x0_1) (Ty.dflt TEntry))) fun r1 =>
  (inb x0_1 (List.length x0_2 : Int)
  (let l2 := (List.set x0_2 (Int.toNat x0_1) r1.1);
  (L0 x0_0 (w64 (x0_1 + 1)) l2)))))
  else
  (some (x0_2, ())))
def l0 (k : Nat) : Nat → T0
  | 0 => fun _ _ _ => none
  | n + 1 => b0 k (l0 k n)
def t (k : Nat) (L0 : T0) (a0 : List (Ty.den TEntry)) : Option ((List (Ty.den TEntry)) × Unit) :=
  (mks (Ty.bytes TEntry) (List.length a0 : Int)
  (L0 a0 0 (List.replicate (Int.toNat (List.length a0 : Int)) (Ty.dflt TEntry))))
def f (k : Nat) (a0 : List (Ty.den TEntry)) : Option ((List (Ty.den TEntry)) × Unit) := t k (l0 k k) a0
end laws_toEntryS
namespace laws_toStore
def t (k : Nat) (a0 : Ty.den TStore) : Option ((Ty.den TStore) × Unit) :=
  (Option.bind (laws_toLive.f k a0.1) fun r1 =>
  (Option.bind (laws_toEntryS.f k a0.2.1) fun r2 =>
  (some ((r1.1, (r2.1, a0.2.2)), ()))))
def f (k : Nat) (a0 : Ty.den TStore) : Option ((Ty.den TStore) × Unit) := t k a0
end laws_toStore
namespace laws_toFile
def t (k : Nat) (a0 : Ty.den TFile) : Option ((Ty.den TFile) × Unit) :=
  (some (a0, ()))
def f (k : Nat) (a0 : Ty.den TFile) : Option ((Ty.den TFile) × Unit) := t k a0
end laws_toFile
namespace laws_toFileS
abbrev T0 : Type := List (Ty.den TFile) → Int → List (Ty.den TFile) → Option ((List (Ty.den TFile)) × Unit)
def b0 (k : Nat) (L0 : T0) (x0_0 : List (Ty.den TFile)) (x0_1 : Int) (x0_2 : List (Ty.den TFile)) : Option ((List (Ty.den TFile)) × Unit) :=
  (bif (decide (x0_1 < (List.length x0_0 : Int))) then
  (inb x0_1 (List.length x0_0 : Int)
  (Option.bind (laws_toFile.f k (List.getD x0_0 (Int.toNat x0_1) (Ty.dflt TFile))) fun r1 =>
  (inb x0_1 (List.length x0_2 : Int)
  (let l2 := (List.set x0_2 (Int.toNat x0_1) r1.1);
  (L0 x0_0 (w64 (x0_1 + 1)) l2)))))
  else
  (some (x0_2, ())))
def l0 (k : Nat) : Nat → T0
  | 0 => fun _ _ _ => none
  | n + 1 => b0 k (l0 k n)
def t (k : Nat) (L0 : T0) (a0 : List (Ty.den TFile)) : Option ((List (Ty.den TFile)) × Unit) :=
  (mks (Ty.bytes TFile) (List.length a0 : Int)
  (L0 a0 0 (List.replicate (Int.toNat (List.length a0 : Int)) (Ty.dflt TFile))))
def f (k : Nat) (a0 : List (Ty.den TFile)) : Option ((List (Ty.den TFile)) × Unit) := t k (l0 k k) a0
end laws_toFileS
namespace laws_toDisk
def t (k : Nat) (a0 : Ty.den TDisk) : Option ((Ty.den TDisk) × Unit) :=
  (Option.bind (laws_toFileS.f k a0.1) fun r1 =>
  (some ((r1.1, a0.2), ())))
def f (k : Nat) (a0 : Ty.den TDisk) : Option ((Ty.den TDisk) × Unit) := t k a0
end laws_toDisk
namespace spec_l1In
def t (k : Nat) (a0 : Int) (a1 : Int) (a2 : Int) : Option (Bool × Unit) :=
  (bif (decide (a0 ≥ a1)) then
  (some ((decide (a0 ≤ a2)), ()))
  else
  (some (false, ())))
def f (k : Nat) (a0 : Int) (a1 : Int) (a2 : Int) : Option (Bool × Unit) := t k a0 a1 a2
end spec_l1In
namespace spec_Dec
abbrev T0 : Type := Int → ByteArray → Bool → Option (ByteArray × Unit)
def b0 (k : Nat) (L0 : T0) (x0_0 : Int) (x0_1 : ByteArray) (x0_2 : Bool) : Option (ByteArray × Unit) :=
  (bif (x0_0 != 0) then
  (bif (decide ((Int.tmod x0_0 10) < 0)) then
  (cat (bytesOf [(IntKind.wrap .u8 (w64 (48 + (w64 (0 - (Int.tmod x0_0 10))))))]) x0_1
  (L0 (w64 (Int.tdiv x0_0 10)) ((bytesOf [(IntKind.wrap .u8 (w64 (48 + (w64 (0 - (Int.tmod x0_0 10))))))]) ++ x0_1) x0_2))
  else
  (cat (bytesOf [(IntKind.wrap .u8 (w64 (48 + (Int.tmod x0_0 10))))]) x0_1
  (L0 (w64 (Int.tdiv x0_0 10)) ((bytesOf [(IntKind.wrap .u8 (w64 (48 + (Int.tmod x0_0 10))))]) ++ x0_1) x0_2)))
  else
  (bif x0_2 then
  (cat (⟨#[45]⟩ : ByteArray) x0_1
  (some (((⟨#[45]⟩ : ByteArray) ++ x0_1), ())))
  else
  (some (x0_1, ()))))
def l0 (k : Nat) : Nat → T0
  | 0 => fun _ _ _ => none
  | n + 1 => b0 k (l0 k n)
def t (k : Nat) (L0 : T0) (a0 : Int) : Option (ByteArray × Unit) :=
  (bif (a0 == 0) then
  (some ((⟨#[48]⟩ : ByteArray), ()))
  else
  (L0 a0 (⟨#[]⟩ : ByteArray) (decide (a0 < 0))))
def f (k : Nat) (a0 : Int) : Option (ByteArray × Unit) := t k (l0 k k) a0
end spec_Dec
namespace spec_SegName
def t (k : Nat) (a0 : Int) : Option (ByteArray × Unit) :=
  (Option.bind (spec_l1In.f k a0 1 100000) fun r1 =>
  (bif (!r1.1) then
  (some ((⟨#[]⟩ : ByteArray), ()))
  else
  (Option.bind (spec_Dec.f k a0) fun r2 =>
  (cat (⟨#[115, 101, 103]⟩ : ByteArray) r2.1
  (some (((⟨#[115, 101, 103]⟩ : ByteArray) ++ r2.1), ()))))))
def f (k : Nat) (a0 : Int) : Option (ByteArray × Unit) := t k a0
end spec_SegName
namespace spec_l3Used
abbrev T0 : Type := Int → Int → List (Ty.den TFile) → Int → Int → Bool → Option (Int × Unit)
def b0 (k : Nat) (L0 : T0) (x0_0 : Int) (x0_1 : Int) (x0_2 : List (Ty.den TFile)) (x0_3 : Int) (x0_4 : Int) (x0_5 : Bool) : Option (Int × Unit) :=
  (bif (decide (x0_1 < (List.length x0_2 : Int))) then
  (inb x0_1 (List.length x0_2 : Int)
  (L0 (w64 (x0_0 + (ByteArray.size (List.getD x0_2 (Int.toNat x0_1) (Ty.dflt TFile)).2.1 : Int))) (w64 (x0_1 + 1)) x0_2 x0_3 x0_4 x0_5))
  else
  (some (x0_0, ())))
def l0 (k : Nat) : Nat → T0
  | 0 => fun _ _ _ _ _ _ => none
  | n + 1 => b0 k (l0 k n)
def t (k : Nat) (L0 : T0) (a0 : Ty.den TDisk) : Option (Int × Unit) :=
  (L0 0 0 a0.1 a0.2.1 a0.2.2.1 a0.2.2.2.1)
def f (k : Nat) (a0 : Ty.den TDisk) : Option (Int × Unit) := t k (l0 k k) a0
end spec_l3Used
namespace spec_NameOk
abbrev T0 : Type := ByteArray → Int → Option (Bool × Unit)
def b0 (k : Nat) (L0 : T0) (x0_0 : ByteArray) (x0_1 : Int) : Option (Bool × Unit) :=
  (bif (decide (x0_1 < (ByteArray.size x0_0 : Int))) then
  (inb x0_1 (ByteArray.size x0_0 : Int)
  (bif (decide ((byteAt x0_0 x0_1) ≥ 97)) then
  (inb x0_1 (ByteArray.size x0_0 : Int)
  (bif (decide ((byteAt x0_0 x0_1) ≤ 122)) then
  (L0 x0_0 (w64 (x0_1 + 1)))
  else
  (inb x0_1 (ByteArray.size x0_0 : Int)
  (bif (decide ((byteAt x0_0 x0_1) ≥ 48)) then
  (inb x0_1 (ByteArray.size x0_0 : Int)
  (bif (!(decide ((byteAt x0_0 x0_1) ≤ 57))) then
  (some (false, ()))
  else
  (L0 x0_0 (w64 (x0_1 + 1)))))
  else
  (some (false, ()))))))
  else
  (inb x0_1 (ByteArray.size x0_0 : Int)
  (bif (decide ((byteAt x0_0 x0_1) ≥ 48)) then
  (inb x0_1 (ByteArray.size x0_0 : Int)
  (bif (!(decide ((byteAt x0_0 x0_1) ≤ 57))) then
  (some (false, ()))
  else
  (L0 x0_0 (w64 (x0_1 + 1)))))
  else
  (some (false, ()))))))
  else
  (Option.bind (spec_l1In.f k (ByteArray.size x0_0 : Int) 1 12) fun r1 =>
  (some r1)))
def l0 (k : Nat) : Nat → T0
  | 0 => fun _ _ => none
  | n + 1 => b0 k (l0 k n)
def t (k : Nat) (L0 : T0) (a0 : ByteArray) : Option (Bool × Unit) :=
  (L0 a0 0)
def f (k : Nat) (a0 : ByteArray) : Option (Bool × Unit) := t k (l0 k k) a0
end spec_NameOk
namespace spec_DiskOk
abbrev T0 : Type := Int → List (Ty.den TFile) → Int → Int → Bool → Option (Bool × Unit)
def b0 (k : Nat) (L0 : T0) (x0_0 : Int) (x0_1 : List (Ty.den TFile)) (x0_2 : Int) (x0_3 : Int) (x0_4 : Bool) : Option (Bool × Unit) :=
  (bif (decide (x0_0 < (List.length x0_1 : Int))) then
  (inb x0_0 (List.length x0_1 : Int)
  (Option.bind (spec_NameOk.f k (List.getD x0_1 (Int.toNat x0_0) (Ty.dflt TFile)).1) fun r4 =>
  (bif (!r4.1) then
  (some (false, ()))
  else
  (inb x0_0 (List.length x0_1 : Int)
  (inb x0_0 (List.length x0_1 : Int)
  (Option.bind (spec_l1In.f k (List.getD x0_1 (Int.toNat x0_0) (Ty.dflt TFile)).2.2.1 0 (ByteArray.size (List.getD x0_1 (Int.toNat x0_0) (Ty.dflt TFile)).2.1 : Int)) fun r5 =>
  (bif (!r5.1) then
  (some (false, ()))
  else
  (bif (decide (x0_0 > 0)) then
  (inb x0_0 (List.length x0_1 : Int)
  (inb (w64 (x0_0 - 1)) (List.length x0_1 : Int)
  (bif ((sls (List.getD x0_1 (Int.toNat x0_0) (Ty.dflt TFile)).1 (List.getD x0_1 (Int.toNat (w64 (x0_0 - 1))) (Ty.dflt TFile)).1) || (seq (List.getD x0_1 (Int.toNat x0_0) (Ty.dflt TFile)).1 (List.getD x0_1 (Int.toNat (w64 (x0_0 - 1))) (Ty.dflt TFile)).1)) then
  (some (false, ()))
  else
  (L0 (w64 (x0_0 + 1)) x0_1 x0_2 x0_3 x0_4))))
  else
  (L0 (w64 (x0_0 + 1)) x0_1 x0_2 x0_3 x0_4)))))))))
  else
  (some (true, ())))
def l0 (k : Nat) : Nat → T0
  | 0 => fun _ _ _ _ _ => none
  | n + 1 => b0 k (l0 k n)
def t (k : Nat) (L0 : T0) (a0 : Ty.den TDisk) : Option (Bool × Unit) :=
  (bif (decide ((List.length a0.1 : Int) > 130)) then
  (some (false, ()))
  else
  (Option.bind (spec_l1In.f k a0.2.1 0 100000) fun r1 =>
  (bif (!r1.1) then
  (some (false, ()))
  else
  (Option.bind (spec_l1In.f k a0.2.2.1 (-1) 100000) fun r2 =>
  (bif (!r2.1) then
  (some (false, ()))
  else
  (Option.bind (spec_l3Used.f k a0) fun r3 =>
  (bif (decide (r3.1 > a0.2.1)) then
  (some (false, ()))
  else
  (L0 0 a0.1 a0.2.1 a0.2.2.1 a0.2.2.2.1))))))))
def f (k : Nat) (a0 : Ty.den TDisk) : Option (Bool × Unit) := t k (l0 k k) a0
end spec_DiskOk
namespace spec_l3Find
abbrev T0 : Type := ByteArray → Int → List (Ty.den TFile) → Int → Int → Bool → Option (Int × Unit)
def b0 (k : Nat) (L0 : T0) (x0_0 : ByteArray) (x0_1 : Int) (x0_2 : List (Ty.den TFile)) (x0_3 : Int) (x0_4 : Int) (x0_5 : Bool) : Option (Int × Unit) :=
  (bif (decide (x0_1 < (List.length x0_2 : Int))) then
  (inb x0_1 (List.length x0_2 : Int)
  (bif (seq (List.getD x0_2 (Int.toNat x0_1) (Ty.dflt TFile)).1 x0_0) then
  (some (x0_1, ()))
  else
  (L0 x0_0 (w64 (x0_1 + 1)) x0_2 x0_3 x0_4 x0_5)))
  else
  (some ((-1), ())))
def l0 (k : Nat) : Nat → T0
  | 0 => fun _ _ _ _ _ _ => none
  | n + 1 => b0 k (l0 k n)
def t (k : Nat) (L0 : T0) (a0 : Ty.den TDisk) (a1 : ByteArray) : Option (Int × Unit) :=
  (L0 a1 0 a0.1 a0.2.1 a0.2.2.1 a0.2.2.2.1)
def f (k : Nat) (a0 : Ty.den TDisk) (a1 : ByteArray) : Option (Int × Unit) := t k (l0 k k) a0 a1
end spec_l3Find
namespace spec_FileText
def t (k : Nat) (a0 : Ty.den TDisk) (a1 : ByteArray) : Option (ByteArray × Bool × Unit) :=
  (Option.bind (spec_DiskOk.f k a0) fun r1 =>
  (bif (!r1.1) then
  (some ((⟨#[]⟩ : ByteArray), (false, ())))
  else
  (Option.bind (spec_l3Find.f k a0 a1) fun r2 =>
  (bif (decide (r2.1 < 0)) then
  (some ((⟨#[]⟩ : ByteArray), (false, ())))
  else
  (inb r2.1 (List.length a0.1 : Int)
  (some ((List.getD a0.1 (Int.toNat r2.1) (Ty.dflt TFile)).2.1, (true, ()))))))))
def f (k : Nat) (a0 : Ty.den TDisk) (a1 : ByteArray) : Option (ByteArray × Bool × Unit) := t k a0 a1
end spec_FileText
namespace spec_SegBytes
abbrev T0 : Type := Int → Int → Int → List Int → List (Ty.den TEntry) → Int → Int → Int → List (Ty.den TFile) → Int → Int → Bool → Option (Int × Unit)
def b0 (k : Nat) (L0 : T0) (x0_0 : Int) (x0_1 : Int) (x0_2 : Int) (x0_3 : List Int) (x0_4 : List (Ty.den TEntry)) (x0_5 : Int) (x0_6 : Int) (x0_7 : Int) (x0_8 : List (Ty.den TFile)) (x0_9 : Int) (x0_10 : Int) (x0_11 : Bool) : Option (Int × Unit) :=
  (bif (decide (x0_1 < (List.length x0_3 : Int))) then
  (bif (decide (x0_1 < 60)) then
  (inb x0_1 (List.length x0_3 : Int)
  (Option.bind (spec_SegName.f k (List.getD x0_3 (Int.toNat x0_1) (Ty.dflt (.int .i64)))) fun r1 =>
  (Option.bind (spec_FileText.f k (x0_8, (x0_9, (x0_10, (x0_11, ())))) r1.1) fun r2 =>
  (L0 (w64 (x0_0 + (ByteArray.size r2.1 : Int))) (w64 (x0_1 + 1)) x0_2 x0_3 x0_4 x0_5 x0_6 x0_7 x0_8 x0_9 x0_10 x0_11))))
  else
  (some (x0_0, ())))
  else
  (some (x0_0, ())))
def l0 (k : Nat) : Nat → T0
  | 0 => fun _ _ _ _ _ _ _ _ _ _ _ _ => none
  | n + 1 => b0 k (l0 k n)
def t (k : Nat) (L0 : T0) (a0 : Ty.den TStore) (a1 : Ty.den TDisk) : Option (Int × Unit) :=
  (L0 0 0 a0.1.1 a0.1.2.1 a0.2.1 a0.2.2.1 a0.2.2.2.1 a0.2.2.2.2.1 a1.1 a1.2.1 a1.2.2.1 a1.2.2.2.1)
def f (k : Nat) (a0 : Ty.den TStore) (a1 : Ty.den TDisk) : Option (Int × Unit) := t k (l0 k k) a0 a1
end spec_SegBytes
namespace spec_DeadBytes
abbrev T0 : Type := Int → Int → Int → List Int → List (Ty.den TEntry) → Int → Int → Int → Option (Int × Unit)
def b0 (k : Nat) (L0 : T0) (x0_0 : Int) (x0_1 : Int) (x0_2 : Int) (x0_3 : List Int) (x0_4 : List (Ty.den TEntry)) (x0_5 : Int) (x0_6 : Int) (x0_7 : Int) : Option (Int × Unit) :=
  (bif (decide (x0_1 < (List.length x0_4 : Int))) then
  (inb x0_1 (List.length x0_4 : Int)
  (L0 (w64 (x0_0 - (List.getD x0_4 (Int.toNat x0_1) (Ty.dflt TEntry)).2.2.2.1)) (w64 (x0_1 + 1)) x0_2 x0_3 x0_4 x0_5 x0_6 x0_7))
  else
  (some (x0_0, ())))
def l0 (k : Nat) : Nat → T0
  | 0 => fun _ _ _ _ _ _ _ _ => none
  | n + 1 => b0 k (l0 k n)
def t (k : Nat) (L0 : T0) (a0 : Ty.den TStore) (a1 : Ty.den TDisk) : Option (Int × Unit) :=
  (Option.bind (spec_SegBytes.f k a0 a1) fun r1 =>
  (L0 r1.1 0 a0.1.1 a0.1.2.1 a0.2.1 a0.2.2.1 a0.2.2.2.1 a0.2.2.2.2.1))
def f (k : Nat) (a0 : Ty.den TStore) (a1 : Ty.den TDisk) : Option (Int × Unit) := t k (l0 k k) a0 a1
end spec_DeadBytes
namespace impl_in
def t (k : Nat) (a0 : Int) (a1 : Int) (a2 : Int) : Option (Bool × Unit) :=
  (bif (decide (a0 ≥ a1)) then
  (some ((decide (a0 ≤ a2)), ()))
  else
  (some (false, ())))
def f (k : Nat) (a0 : Int) (a1 : Int) (a2 : Int) : Option (Bool × Unit) := t k a0 a1 a2
end impl_in
namespace impl_Dec
def t (k : Nat) (a0 : Int) : Option (ByteArray × Unit) :=
  (Option.bind (lib_Itoa.f k a0) fun r1 =>
  (some r1))
def f (k : Nat) (a0 : Int) : Option (ByteArray × Unit) := t k a0
end impl_Dec
namespace impl_named
def t (k : Nat) (a0 : ByteArray) (a1 : Int) : Option (ByteArray × Unit) :=
  (Option.bind (impl_in.f k a1 1 100000) fun r1 =>
  (bif (!r1.1) then
  (some ((⟨#[]⟩ : ByteArray), ()))
  else
  (Option.bind (impl_Dec.f k a1) fun r2 =>
  (cat a0 r2.1
  (some ((a0 ++ r2.1), ()))))))
def f (k : Nat) (a0 : ByteArray) (a1 : Int) : Option (ByteArray × Unit) := t k a0 a1
end impl_named
namespace impl_SegName
def t (k : Nat) (a0 : Int) : Option (ByteArray × Unit) :=
  (Option.bind (impl_named.f k (⟨#[115, 101, 103]⟩ : ByteArray) a0) fun r1 =>
  (some r1))
def f (k : Nat) (a0 : Int) : Option (ByteArray × Unit) := t k a0
end impl_SegName
namespace impl_fileAt
abbrev T0 : Type := ByteArray → List (Ty.den TFile) → Int → Int → Option (Int × Unit)
def b0 (k : Nat) (L0 : T0) (x0_0 : ByteArray) (x0_1 : List (Ty.den TFile)) (x0_2 : Int) (x0_3 : Int) : Option (Int × Unit) :=
  (bif (decide (x0_3 < x0_2)) then
  (inb x0_3 (List.length x0_1 : Int)
  (bif (seq (List.getD x0_1 (Int.toNat x0_3) (Ty.dflt TFile)).1 x0_0) then
  (some (x0_3, ()))
  else
  (L0 x0_0 x0_1 x0_2 (w64 (x0_3 + 1)))))
  else
  (some ((-1), ())))
def l0 (k : Nat) : Nat → T0
  | 0 => fun _ _ _ _ => none
  | n + 1 => b0 k (l0 k n)
def t (k : Nat) (L0 : T0) (a0 : Ty.den TDisk) (a1 : ByteArray) : Option (Int × Unit) :=
  (L0 a1 a0.1 (List.length a0.1 : Int) 0)
def f (k : Nat) (a0 : Ty.den TDisk) (a1 : ByteArray) : Option (Int × Unit) := t k (l0 k k) a0 a1
end impl_fileAt
namespace impl_NameOk
abbrev T0 : Type := ByteArray → Int → Option (Bool × Unit)
def b0 (k : Nat) (L0 : T0) (x0_0 : ByteArray) (x0_1 : Int) : Option (Bool × Unit) :=
  (bif (decide (x0_1 < (ByteArray.size x0_0 : Int))) then
  (inb x0_1 (ByteArray.size x0_0 : Int)
  (bif (decide ((byteAt x0_0 x0_1) ≥ 97)) then
  (inb x0_1 (ByteArray.size x0_0 : Int)
  (bif (!(decide ((byteAt x0_0 x0_1) ≤ 122))) then
  (inb x0_1 (ByteArray.size x0_0 : Int)
  (bif (decide ((byteAt x0_0 x0_1) ≥ 48)) then
  (inb x0_1 (ByteArray.size x0_0 : Int)
  (bif (!(decide ((byteAt x0_0 x0_1) ≤ 57))) then
  (some (false, ()))
  else
  (L0 x0_0 (w64 (x0_1 + 1)))))
  else
  (some (false, ()))))
  else
  (L0 x0_0 (w64 (x0_1 + 1)))))
  else
  (inb x0_1 (ByteArray.size x0_0 : Int)
  (bif (decide ((byteAt x0_0 x0_1) ≥ 48)) then
  (inb x0_1 (ByteArray.size x0_0 : Int)
  (bif (!(decide ((byteAt x0_0 x0_1) ≤ 57))) then
  (some (false, ()))
  else
  (L0 x0_0 (w64 (x0_1 + 1)))))
  else
  (some (false, ()))))))
  else
  (Option.bind (impl_in.f k (ByteArray.size x0_0 : Int) 1 12) fun r1 =>
  (some r1)))
def l0 (k : Nat) : Nat → T0
  | 0 => fun _ _ => none
  | n + 1 => b0 k (l0 k n)
def t (k : Nat) (L0 : T0) (a0 : ByteArray) : Option (Bool × Unit) :=
  (L0 a0 0)
def f (k : Nat) (a0 : ByteArray) : Option (Bool × Unit) := t k (l0 k k) a0
end impl_NameOk
namespace impl_DiskOk
abbrev T0 : Type := Int → List (Ty.den TFile) → Int → Int → List (Ty.den TFile) → Int → Int → Bool → Option (Bool × Unit)
def b0 (k : Nat) (L0 : T0) (x0_0 : Int) (x0_1 : List (Ty.den TFile)) (x0_2 : Int) (x0_3 : Int) (x0_4 : List (Ty.den TFile)) (x0_5 : Int) (x0_6 : Int) (x0_7 : Bool) : Option (Bool × Unit) :=
  (bif (decide (x0_3 < x0_2)) then
  (inb x0_3 (List.length x0_1 : Int)
  (Option.bind (impl_NameOk.f k (List.getD x0_1 (Int.toNat x0_3) (Ty.dflt TFile)).1) fun r3 =>
  (bif (!r3.1) then
  (some (false, ()))
  else
  (Option.bind (impl_in.f k (List.getD x0_1 (Int.toNat x0_3) (Ty.dflt TFile)).2.2.1 0 (ByteArray.size (List.getD x0_1 (Int.toNat x0_3) (Ty.dflt TFile)).2.1 : Int)) fun r4 =>
  (bif (!r4.1) then
  (some (false, ()))
  else
  (bif (decide (x0_3 > 0)) then
  (inb (w64 (x0_3 - 1)) (List.length x0_4 : Int)
  (bif (!(sls (List.getD x0_4 (Int.toNat (w64 (x0_3 - 1))) (Ty.dflt TFile)).1 (List.getD x0_1 (Int.toNat x0_3) (Ty.dflt TFile)).1)) then
  (some (false, ()))
  else
  (L0 (w64 (x0_0 + (ByteArray.size (List.getD x0_1 (Int.toNat x0_3) (Ty.dflt TFile)).2.1 : Int))) x0_1 x0_2 (w64 (x0_3 + 1)) x0_4 x0_5 x0_6 x0_7)))
  else
  (L0 (w64 (x0_0 + (ByteArray.size (List.getD x0_1 (Int.toNat x0_3) (Ty.dflt TFile)).2.1 : Int))) x0_1 x0_2 (w64 (x0_3 + 1)) x0_4 x0_5 x0_6 x0_7)))))))
  else
  (some ((decide (x0_0 ≤ x0_5)), ())))
def l0 (k : Nat) : Nat → T0
  | 0 => fun _ _ _ _ _ _ _ _ => none
  | n + 1 => b0 k (l0 k n)
def t (k : Nat) (L0 : T0) (a0 : Ty.den TDisk) : Option (Bool × Unit) :=
  (bif (decide ((List.length a0.1 : Int) > 130)) then
  (some (false, ()))
  else
  (Option.bind (impl_in.f k a0.2.1 0 100000) fun r1 =>
  (bif (!r1.1) then
  (some (false, ()))
  else
  (Option.bind (impl_in.f k a0.2.2.1 (-1) 100000) fun r2 =>
  (bif (!r2.1) then
  (some (false, ()))
  else
  (L0 0 a0.1 (List.length a0.1 : Int) 0 a0.1 a0.2.1 a0.2.2.1 a0.2.2.2.1))))))
def f (k : Nat) (a0 : Ty.den TDisk) : Option (Bool × Unit) := t k (l0 k k) a0
end impl_DiskOk
namespace impl_FileText
def t (k : Nat) (a0 : Ty.den TDisk) (a1 : ByteArray) : Option (ByteArray × Bool × Unit) :=
  (Option.bind (impl_fileAt.f k a0 a1) fun r1 =>
  (bif (decide (r1.1 < 0)) then
  (some ((⟨#[]⟩ : ByteArray), (false, ())))
  else
  (Option.bind (impl_DiskOk.f k a0) fun r2 =>
  (bif (!r2.1) then
  (some ((⟨#[]⟩ : ByteArray), (false, ())))
  else
  (inb r1.1 (List.length a0.1 : Int)
  (some ((List.getD a0.1 (Int.toNat r1.1) (Ty.dflt TFile)).2.1, (true, ()))))))))
def f (k : Nat) (a0 : Ty.den TDisk) (a1 : ByteArray) : Option (ByteArray × Bool × Unit) := t k a0 a1
end impl_FileText
namespace impl_SegBytes
abbrev T0 : Type := Int → List Int → Int → Int → List (Ty.den TFile) → Int → Int → Bool → Option (Int × Unit)
def b0 (k : Nat) (L0 : T0) (x0_0 : Int) (x0_1 : List Int) (x0_2 : Int) (x0_3 : Int) (x0_4 : List (Ty.den TFile)) (x0_5 : Int) (x0_6 : Int) (x0_7 : Bool) : Option (Int × Unit) :=
  (bif (decide (x0_3 < x0_2)) then
  (inb x0_3 (List.length x0_1 : Int)
  (bif (decide (x0_3 < 60)) then
  (Option.bind (impl_SegName.f k (List.getD x0_1 (Int.toNat x0_3) (Ty.dflt (.int .i64)))) fun r1 =>
  (Option.bind (impl_FileText.f k (x0_4, (x0_5, (x0_6, (x0_7, ())))) r1.1) fun r2 =>
  (L0 (w64 (x0_0 + (ByteArray.size r2.1 : Int))) x0_1 x0_2 (w64 (x0_3 + 1)) x0_4 x0_5 x0_6 x0_7)))
  else
  (L0 x0_0 x0_1 x0_2 (w64 (x0_3 + 1)) x0_4 x0_5 x0_6 x0_7)))
  else
  (some (x0_0, ())))
def l0 (k : Nat) : Nat → T0
  | 0 => fun _ _ _ _ _ _ _ _ => none
  | n + 1 => b0 k (l0 k n)
def t (k : Nat) (L0 : T0) (a0 : Ty.den TStore) (a1 : Ty.den TDisk) : Option (Int × Unit) :=
  (L0 0 a0.1.2.1 (List.length a0.1.2.1 : Int) 0 a1.1 a1.2.1 a1.2.2.1 a1.2.2.2.1)
def f (k : Nat) (a0 : Ty.den TStore) (a1 : Ty.den TDisk) : Option (Int × Unit) := t k (l0 k k) a0 a1
end impl_SegBytes
namespace impl_DeadBytes
abbrev T0 : Type := Int → List (Ty.den TEntry) → Int → Int → Option (Int × Unit)
def b0 (k : Nat) (L0 : T0) (x0_0 : Int) (x0_1 : List (Ty.den TEntry)) (x0_2 : Int) (x0_3 : Int) : Option (Int × Unit) :=
  (bif (decide (x0_3 < x0_2)) then
  (inb x0_3 (List.length x0_1 : Int)
  (L0 (w64 (x0_0 - (List.getD x0_1 (Int.toNat x0_3) (Ty.dflt TEntry)).2.2.2.1)) x0_1 x0_2 (w64 (x0_3 + 1))))
  else
  (some (x0_0, ())))
def l0 (k : Nat) : Nat → T0
  | 0 => fun _ _ _ _ => none
  | n + 1 => b0 k (l0 k n)
def t (k : Nat) (L0 : T0) (a0 : Ty.den TStore) (a1 : Ty.den TDisk) : Option (Int × Unit) :=
  (Option.bind (impl_SegBytes.f k a0 a1) fun r1 =>
  (L0 r1.1 a0.2.1 (List.length a0.2.1 : Int) 0))
def f (k : Nat) (a0 : Ty.den TStore) (a1 : Ty.den TDisk) : Option (Int × Unit) := t k (l0 k k) a0 a1
end impl_DeadBytes
namespace laws_eqIntS
abbrev T0 : Type := List Int → List Int → Int → Option (Bool × Unit)
def b0 (k : Nat) (L0 : T0) (x0_0 : List Int) (x0_1 : List Int) (x0_2 : Int) : Option (Bool × Unit) :=
  (bif (decide (x0_2 < (List.length x0_0 : Int))) then
  (inb x0_2 (List.length x0_0 : Int)
  (inb x0_2 (List.length x0_1 : Int)
  (bif ((List.getD x0_0 (Int.toNat x0_2) (Ty.dflt (.int .i64))) != (List.getD x0_1 (Int.toNat x0_2) (Ty.dflt (.int .i64)))) then
  (some (false, ()))
  else
  (L0 x0_0 x0_1 (w64 (x0_2 + 1))))))
  else
  (some (true, ())))
def l0 (k : Nat) : Nat → T0
  | 0 => fun _ _ _ => none
  | n + 1 => b0 k (l0 k n)
def t (k : Nat) (L0 : T0) (a0 : List Int) (a1 : List Int) : Option (Bool × Unit) :=
  (bif ((List.length a0 : Int) != (List.length a1 : Int)) then
  (some (false, ()))
  else
  (L0 a0 a1 0))
def f (k : Nat) (a0 : List Int) (a1 : List Int) : Option (Bool × Unit) := t k (l0 k k) a0 a1
end laws_eqIntS
namespace laws_eqLive
def t (k : Nat) (a0 : Ty.den TLive) (a1 : Ty.den TLive) : Option (Bool × Unit) :=
  (bif (a0.1 != a1.1) then
  (some (false, ()))
  else
  (Option.bind (laws_eqIntS.f k a0.2.1 a1.2.1) fun r1 =>
  (bif (!r1.1) then
  (some (false, ()))
  else
  (some (true, ())))))
def f (k : Nat) (a0 : Ty.den TLive) (a1 : Ty.den TLive) : Option (Bool × Unit) := t k a0 a1
end laws_eqLive
namespace laws_eqEntry
def t (k : Nat) (a0 : Ty.den TEntry) (a1 : Ty.den TEntry) : Option (Bool × Unit) :=
  (bif (!(seq a0.1 a1.1)) then
  (some (false, ()))
  else
  (bif (a0.2.1 != a1.2.1) then
  (some (false, ()))
  else
  (bif (a0.2.2.1 != a1.2.2.1) then
  (some (false, ()))
  else
  (bif (a0.2.2.2.1 != a1.2.2.2.1) then
  (some (false, ()))
  else
  (bif (a0.2.2.2.2.1 != a1.2.2.2.2.1) then
  (some (false, ()))
  else
  (some (true, ())))))))
def f (k : Nat) (a0 : Ty.den TEntry) (a1 : Ty.den TEntry) : Option (Bool × Unit) := t k a0 a1
end laws_eqEntry
namespace laws_eqEntryS
abbrev T0 : Type := List (Ty.den TEntry) → List (Ty.den TEntry) → Int → Option (Bool × Unit)
def b0 (k : Nat) (L0 : T0) (x0_0 : List (Ty.den TEntry)) (x0_1 : List (Ty.den TEntry)) (x0_2 : Int) : Option (Bool × Unit) :=
  (bif (decide (x0_2 < (List.length x0_0 : Int))) then
  (inb x0_2 (List.length x0_0 : Int)
  (inb x0_2 (List.length x0_1 : Int)
  (Option.bind (laws_eqEntry.f k (List.getD x0_0 (Int.toNat x0_2) (Ty.dflt TEntry)) (List.getD x0_1 (Int.toNat x0_2) (Ty.dflt TEntry))) fun r1 =>
  (bif (!r1.1) then
  (some (false, ()))
  else
  (L0 x0_0 x0_1 (w64 (x0_2 + 1)))))))
  else
  (some (true, ())))
def l0 (k : Nat) : Nat → T0
  | 0 => fun _ _ _ => none
  | n + 1 => b0 k (l0 k n)
def t (k : Nat) (L0 : T0) (a0 : List (Ty.den TEntry)) (a1 : List (Ty.den TEntry)) : Option (Bool × Unit) :=
  (bif ((List.length a0 : Int) != (List.length a1 : Int)) then
  (some (false, ()))
  else
  (L0 a0 a1 0))
def f (k : Nat) (a0 : List (Ty.den TEntry)) (a1 : List (Ty.den TEntry)) : Option (Bool × Unit) := t k (l0 k k) a0 a1
end laws_eqEntryS
namespace laws_eqStore
def t (k : Nat) (a0 : Ty.den TStore) (a1 : Ty.den TStore) : Option (Bool × Unit) :=
  (Option.bind (laws_eqLive.f k a0.1 a1.1) fun r1 =>
  (bif (!r1.1) then
  (some (false, ()))
  else
  (Option.bind (laws_eqEntryS.f k a0.2.1 a1.2.1) fun r2 =>
  (bif (!r2.1) then
  (some (false, ()))
  else
  (bif (a0.2.2.1 != a1.2.2.1) then
  (some (false, ()))
  else
  (bif (a0.2.2.2.1 != a1.2.2.2.1) then
  (some (false, ()))
  else
  (bif (a0.2.2.2.2.1 != a1.2.2.2.2.1) then
  (some (false, ()))
  else
  (some (true, ())))))))))
def f (k : Nat) (a0 : Ty.den TStore) (a1 : Ty.den TStore) : Option (Bool × Unit) := t k a0 a1
end laws_eqStore
namespace laws_eqFile
def t (k : Nat) (a0 : Ty.den TFile) (a1 : Ty.den TFile) : Option (Bool × Unit) :=
  (bif (!(seq a0.1 a1.1)) then
  (some (false, ()))
  else
  (bif (!(seq a0.2.1 a1.2.1)) then
  (some (false, ()))
  else
  (bif (a0.2.2.1 != a1.2.2.1) then
  (some (false, ()))
  else
  (some (true, ())))))
def f (k : Nat) (a0 : Ty.den TFile) (a1 : Ty.den TFile) : Option (Bool × Unit) := t k a0 a1
end laws_eqFile
namespace laws_eqFileS
abbrev T0 : Type := List (Ty.den TFile) → List (Ty.den TFile) → Int → Option (Bool × Unit)
def b0 (k : Nat) (L0 : T0) (x0_0 : List (Ty.den TFile)) (x0_1 : List (Ty.den TFile)) (x0_2 : Int) : Option (Bool × Unit) :=
  (bif (decide (x0_2 < (List.length x0_0 : Int))) then
  (inb x0_2 (List.length x0_0 : Int)
  (inb x0_2 (List.length x0_1 : Int)
  (Option.bind (laws_eqFile.f k (List.getD x0_0 (Int.toNat x0_2) (Ty.dflt TFile)) (List.getD x0_1 (Int.toNat x0_2) (Ty.dflt TFile))) fun r1 =>
  (bif (!r1.1) then
  (some (false, ()))
  else
  (L0 x0_0 x0_1 (w64 (x0_2 + 1)))))))
  else
  (some (true, ())))
def l0 (k : Nat) : Nat → T0
  | 0 => fun _ _ _ => none
  | n + 1 => b0 k (l0 k n)
def t (k : Nat) (L0 : T0) (a0 : List (Ty.den TFile)) (a1 : List (Ty.den TFile)) : Option (Bool × Unit) :=
  (bif ((List.length a0 : Int) != (List.length a1 : Int)) then
  (some (false, ()))
  else
  (L0 a0 a1 0))
def f (k : Nat) (a0 : List (Ty.den TFile)) (a1 : List (Ty.den TFile)) : Option (Bool × Unit) := t k (l0 k k) a0 a1
end laws_eqFileS
namespace laws_eqDisk
def t (k : Nat) (a0 : Ty.den TDisk) (a1 : Ty.den TDisk) : Option (Bool × Unit) :=
  (Option.bind (laws_eqFileS.f k a0.1 a1.1) fun r1 =>
  (bif (!r1.1) then
  (some (false, ()))
  else
  (bif (a0.2.1 != a1.2.1) then
  (some (false, ()))
  else
  (bif (a0.2.2.1 != a1.2.2.1) then
  (some (false, ()))
  else
  (bif (!(a0.2.2.2.1 == a1.2.2.2.1)) then
  (some (false, ()))
  else
  (some (true, ())))))))
def f (k : Nat) (a0 : Ty.den TDisk) (a1 : Ty.den TDisk) : Option (Bool × Unit) := t k a0 a1
end laws_eqDisk
namespace laws_FnExactDeadBytes
def t (k : Nat) (a0 : Ty.den TStore) (a1 : Ty.den TDisk) : Option (Bool × Unit) :=
  (Option.bind (laws_szStore.f k a0 1048576) fun r1 =>
  (bif (decide (r1.1 < 0)) then
  (some (true, ()))
  else
  (Option.bind (laws_szDisk.f k a1 r1.1) fun r2 =>
  (bif (decide (r2.1 < 0)) then
  (some (true, ()))
  else
  (Option.bind (laws_toStore.f k a0) fun r3 =>
  (Option.bind (laws_toDisk.f k a1) fun r4 =>
  (Option.bind (spec_DeadBytes.f k r3.1 r4.1) fun r5 =>
  (Option.bind (laws_toStore.f k a0) fun r6 =>
  (Option.bind (laws_toDisk.f k a1) fun r7 =>
  (Option.bind (impl_DeadBytes.f k r6.1 r7.1) fun r8 =>
  (bif (r8.1 != r5.1) then
  (some (false, ()))
  else
  (Option.bind (laws_toStore.f k a0) fun r9 =>
  (Option.bind (laws_eqStore.f k r6.1 r9.1) fun r10 =>
  (bif (!r10.1) then
  (some (false, ()))
  else
  (Option.bind (laws_toDisk.f k a1) fun r11 =>
  (Option.bind (laws_eqDisk.f k r7.1 r11.1) fun r12 =>
  (bif (!r12.1) then
  (some (false, ()))
  else
  (some (true, ())))))))))))))))))))
def f (k : Nat) (a0 : Ty.den TStore) (a1 : Ty.den TDisk) : Option (Bool × Unit) := t k a0 a1
end laws_FnExactDeadBytes
end Go.Proofs.YtgcahahklmfleaaDoor.G

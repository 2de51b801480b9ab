/- Functions, as V runs them. -/
import Derived.Test.YtejgkmhpmhfnbaaGreatDoorVWords
import Derived.Test.YtejgkmhpmhfnbaaGreatDoorXLib
set_option linter.unusedVariables false
namespace Go.Proofs.YtejgkmhpmhfnbaaGreatDoor.G
open Go.V
abbrev TPair : Ty := .pair .str (.pair .str (.pair (.int .i64) .unit))
abbrev TDisk : Ty := .pair (.slice TPair) (.pair (.int .i64) (.pair (.int .i64) (.pair .bool .unit)))
abbrev TLive : Ty := .pair (.int .i64) (.pair (.slice (.int .i64)) .unit)
abbrev TEntry : Ty := .pair .str (.pair (.int .i64) (.pair (.int .i64) (.pair (.int .i64) (.pair (.int .i64) .unit))))
abbrev TStore : Ty := .pair TLive (.pair (.slice TEntry) (.pair (.int .i64) (.pair (.int .i64) (.pair (.int .i64) .unit))))
abbrev TReadRow : Ty := .pair .str (.pair (.int .i64) .unit)
abbrev TPut : Ty := .pair .str (.pair .bool (.pair .str .unit))
abbrev TTxn : Ty := .pair .bool (.pair (.slice TReadRow) (.pair (.slice TPut) .unit))
abbrev TEngine : Ty := .pair .bool (.pair TStore (.pair TDisk (.pair (.slice TTxn) .unit)))
abbrev TGroup : Ty := .pair (.slice TEntry) (.pair (.int .i64) (.pair (.int .i64) .unit))
abbrev THint : Ty := .pair (.int .i64) (.pair (.int .i64) (.pair (.slice TEntry) .unit))
abbrev TRec : Ty := .pair (.int .i64) (.pair (.int .i64) (.pair .str (.pair .str (.pair (.int .i64) (.pair (.int .i64) .unit)))))
abbrev TPlace : Ty := .pair (.int .i64) (.pair (.int .i64) (.pair (.int .i64) (.pair TRec .unit)))
abbrev TSpot : Ty := .pair (.int .i64) (.pair (.int .i64) (.pair TRec .unit))
abbrev Tscanner : Ty := .pair .str (.pair .bool .unit)
abbrev Tworker : Ty := .pair TDisk (.pair (.int .i64) .unit)
abbrev TFile : Ty := TPair
namespace laws_szFile
abbrev Rs : Type := Option (Int × Unit)
def t (k : Nat) (a0 : Ty.den TPair) (a1 : Int) : Rs :=
 (bif (decide ((w64 (a1 - (ByteArray.size a0.1 : Int))) < 0)) then
 (some ((-1), ()))
 else
 (bif (decide ((w64 ((w64 (a1 - (ByteArray.size a0.1 : Int))) - (ByteArray.size a0.2.1 : Int))) < 0)) then
 (some ((-1), ()))
 else
 (some ((w64 ((w64 (a1 - (ByteArray.size a0.1 : Int))) - (ByteArray.size a0.2.1 : Int))), ()))))
def f (k : Nat) := t k
end laws_szFile
namespace laws_szFileS
abbrev Rs : Type := Option (Int × Unit)
abbrev T0 : Type := List (Ty.den TPair) → Int → Int → Rs
def b0 (k : Nat) (L0 : T0) : T0 := fun x0_0 x0_1 x0_2 =>
 (bif (decide (x0_2 < (List.length x0_0 : Int))) then
 (inb x0_2 (List.length x0_0 : Int)
 ((laws_szFile.f k (List.getD x0_0 (Int.toNat x0_2) (Ty.dflt TPair)) x0_1).bind fun r1 =>
 (bif (decide (r1.1 < 0)) then
 (some ((-1), ()))
 else
 (L0 x0_0 r1.1 (w64 (x0_2 + 1))))))
 else
 (some (x0_1, ())))
def l0 (k : Nat) : Nat → T0
  | 0 => fun _ _ _ => none
  | n + 1 => b0 k (l0 k n)
def t (k : Nat) (L0 : T0) (a0 : List (Ty.den TPair)) (a1 : Int) : Rs :=
 (bif (decide ((w64 (a1 - (List.length a0 : Int))) < 0)) then
 (some ((-1), ()))
 else
 (L0 a0 (w64 (a1 - (List.length a0 : Int))) 0))
def f (k : Nat) := t k (l0 k k)
end laws_szFileS
namespace laws_szDisk
abbrev Rs : Type := Option (Int × Unit)
def t (k : Nat) (a0 : Ty.den TDisk) (a1 : Int) : Rs :=
 ((laws_szFileS.f k a0.1 a1).bind fun r1 =>
 (bif (decide (r1.1 < 0)) then
 (some ((-1), ()))
 else
 (some r1)))
def f (k : Nat) := t k
end laws_szDisk
namespace laws_toFile
abbrev Rs : Type := Option ((Ty.den TPair) × Unit)
def t (k : Nat) (a0 : Ty.den TPair) : Rs :=
 (some (a0, ()))
def f (k : Nat) := t k
end laws_toFile
namespace laws_toFileS
abbrev Rs : Type := Option ((List (Ty.den TPair)) × Unit)
abbrev T0 : Type := List (Ty.den TPair) → Int → List (Ty.den TPair) → Rs
def b0 (k : Nat) (L0 : T0) : T0 := fun x0_0 x0_1 x0_2 =>
 (bif (decide (x0_1 < (List.length x0_0 : Int))) then
 (inb x0_1 (List.length x0_0 : Int)
 ((laws_toFile.f k (List.getD x0_0 (Int.toNat x0_1) (Ty.dflt TPair))).bind fun r1 =>
 (inb x0_1 (List.length x0_2 : Int)
 (let l2 := (List.set x0_2 (Int.toNat x0_1) r1.1);
 (L0 x0_0 (w64 (x0_1 + 1)) l2)))))
 else
 (some (x0_2, ())))
def l0 (k : Nat) : Nat → T0
  | 0 => fun _ _ _ => none
  | n + 1 => b0 k (l0 k n)
def t (k : Nat) (L0 : T0) (a0 : List (Ty.den TPair)) : Rs :=
 (mks (Ty.bytes TPair) (List.length a0 : Int)
 (L0 a0 0 (List.replicate (Int.toNat (List.length a0 : Int)) (Ty.dflt TPair))))
def f (k : Nat) := t k (l0 k k)
end laws_toFileS
namespace laws_toDisk
abbrev Rs : Type := Option ((Ty.den TDisk) × Unit)
def t (k : Nat) (a0 : Ty.den TDisk) : Rs :=
 ((laws_toFileS.f k a0.1).bind fun r1 =>
 (some ((r1.1, a0.2), ())))
def f (k : Nat) := t k
end laws_toDisk
namespace laws_toIntS
abbrev Rs : Type := Option ((List Int) × Unit)
abbrev T0 : Type := List Int → Int → List Int → Rs
def b0 (k : Nat) (L0 : T0) : T0 := fun x0_0 x0_1 x0_2 =>
 (bif (decide (x0_1 < (List.length x0_0 : Int))) then
 (inb x0_1 (List.length x0_0 : Int)
 (inb x0_1 (List.length x0_2 : Int)
 (let l1 := (List.set x0_2 (Int.toNat x0_1) (List.getD x0_0 (Int.toNat x0_1) (Ty.dflt (.int .i64))));
 (L0 x0_0 (w64 (x0_1 + 1)) l1))))
 else
 (some (x0_2, ())))
def l0 (k : Nat) : Nat → T0
  | 0 => fun _ _ _ => none
  | n + 1 => b0 k (l0 k n)
def t (k : Nat) (L0 : T0) (a0 : List Int) : Rs :=
 (mks (Ty.bytes (.int .i64)) (List.length a0 : Int)
 (L0 a0 0 (List.replicate (Int.toNat (List.length a0 : Int)) (Ty.dflt (.int .i64)))))
def f (k : Nat) := t k (l0 k k)
end laws_toIntS
namespace spec_l3Copy
abbrev Rs : Type := Option ((Ty.den TDisk) × Unit)
def t (k : Nat) (a0 : Ty.den TDisk) : Rs :=
 (rm (Ty.bytes TPair) (0 + List.length a0.1)
 (some ((([] ++ a0.1), a0.2), ())))
def f (k : Nat) := t k
end spec_l3Copy
namespace spec_l1In
abbrev Rs : Type := Option (Bool × Unit)
def t (k : Nat) (a0 : Int) (a1 : Int) (a2 : Int) : Rs :=
 (bif (decide (a0 ≥ a1)) then
 (some ((decide (a0 ≤ a2)), ()))
 else
 (some (false, ())))
def f (k : Nat) := t k
end spec_l1In
namespace spec_l3Used
abbrev Rs : Type := Option (Int × Unit)
abbrev T0 : Type := Int → Int → List (Ty.den TPair) → Int → Int → Bool → Rs
def b0 (k : Nat) (L0 : T0) : T0 := fun x0_0 x0_1 x0_2 x0_3 x0_4 x0_5 =>
 (bif (decide (x0_1 < (List.length x0_2 : Int))) then
 (inb x0_1 (List.length x0_2 : Int)
 (L0 (w64 (x0_0 + (ByteArray.size (List.getD x0_2 (Int.toNat x0_1) (Ty.dflt TPair)).2.1 : Int))) (w64 (x0_1 + 1)) x0_2 x0_3 x0_4 x0_5))
 else
 (some (x0_0, ())))
def l0 (k : Nat) : Nat → T0
  | 0 => fun _ _ _ _ _ _ => none
  | n + 1 => b0 k (l0 k n)
def t (k : Nat) (L0 : T0) (a0 : Ty.den TDisk) : Rs :=
 (L0 0 0 a0.1 a0.2.1 a0.2.2.1 a0.2.2.2.1)
def f (k : Nat) := t k (l0 k k)
end spec_l3Used
namespace spec_NameOk
abbrev Rs : Type := Option (Bool × Unit)
abbrev T0 : Type := ByteArray → Int → Rs
def b0 (k : Nat) (L0 : T0) : T0 := fun x0_0 x0_1 =>
 (bif (decide (x0_1 < (ByteArray.size x0_0 : Int))) then
 (inb x0_1 (ByteArray.size x0_0 : Int)
 (bif (decide ((byteAt x0_0 x0_1) ≥ 97)) then
 (inb x0_1 (ByteArray.size x0_0 : Int)
 (bif (decide ((byteAt x0_0 x0_1) ≤ 122)) then
 (L0 x0_0 (w64 (x0_1 + 1)))
 else
 (inb x0_1 (ByteArray.size x0_0 : Int)
 (bif (decide ((byteAt x0_0 x0_1) ≥ 48)) then
 (inb x0_1 (ByteArray.size x0_0 : Int)
 (bif (!(decide ((byteAt x0_0 x0_1) ≤ 57))) then
 (some (false, ()))
 else
 (L0 x0_0 (w64 (x0_1 + 1)))))
 else
 (some (false, ()))))))
 else
 (inb x0_1 (ByteArray.size x0_0 : Int)
 (bif (decide ((byteAt x0_0 x0_1) ≥ 48)) then
 (inb x0_1 (ByteArray.size x0_0 : Int)
 (bif (!(decide ((byteAt x0_0 x0_1) ≤ 57))) then
 (some (false, ()))
 else
 (L0 x0_0 (w64 (x0_1 + 1)))))
 else
 (some (false, ()))))))
 else
 ((spec_l1In.f k (ByteArray.size x0_0 : Int) 1 12).bind fun r1 =>
 (some r1)))
def l0 (k : Nat) : Nat → T0
  | 0 => fun _ _ => none
  | n + 1 => b0 k (l0 k n)
def t (k : Nat) (L0 : T0) (a0 : ByteArray) : Rs :=
 (L0 a0 0)
def f (k : Nat) := t k (l0 k k)
end spec_NameOk
namespace spec_DiskOk
abbrev Rs : Type := Option (Bool × Unit)
abbrev T0 : Type := Int → List (Ty.den TPair) → Int → Int → Bool → Rs
def b0 (k : Nat) (L0 : T0) : T0 := fun x0_0 x0_1 x0_2 x0_3 x0_4 =>
 (bif (decide (x0_0 < (List.length x0_1 : Int))) then
 (inb x0_0 (List.length x0_1 : Int)
 ((spec_NameOk.f k (List.getD x0_1 (Int.toNat x0_0) (Ty.dflt TPair)).1).bind fun r4 =>
 (bif (!r4.1) then
 (some (false, ()))
 else
 (inb x0_0 (List.length x0_1 : Int)
 (inb x0_0 (List.length x0_1 : Int)
 ((spec_l1In.f k (List.getD x0_1 (Int.toNat x0_0) (Ty.dflt TPair)).2.2.1 0 (ByteArray.size (List.getD x0_1 (Int.toNat x0_0) (Ty.dflt TPair)).2.1 : Int)).bind fun r5 =>
 (bif (!r5.1) then
 (some (false, ()))
 else
 (bif (decide (x0_0 > 0)) then
 (inb x0_0 (List.length x0_1 : Int)
 (inb (w64 (x0_0 - 1)) (List.length x0_1 : Int)
 (bif ((sls (List.getD x0_1 (Int.toNat x0_0) (Ty.dflt TPair)).1 (List.getD x0_1 (Int.toNat (w64 (x0_0 - 1))) (Ty.dflt TPair)).1) || (seq (List.getD x0_1 (Int.toNat x0_0) (Ty.dflt TPair)).1 (List.getD x0_1 (Int.toNat (w64 (x0_0 - 1))) (Ty.dflt TPair)).1)) then
 (some (false, ()))
 else
 (L0 (w64 (x0_0 + 1)) x0_1 x0_2 x0_3 x0_4))))
 else
 (L0 (w64 (x0_0 + 1)) x0_1 x0_2 x0_3 x0_4)))))))))
 else
 (some (true, ())))
def l0 (k : Nat) : Nat → T0
  | 0 => fun _ _ _ _ _ => none
  | n + 1 => b0 k (l0 k n)
def t (k : Nat) (L0 : T0) (a0 : Ty.den TDisk) : Rs :=
 (bif (decide ((List.length a0.1 : Int) > 130)) then
 (some (false, ()))
 else
 ((spec_l1In.f k a0.2.1 0 100000).bind fun r1 =>
 (bif (!r1.1) then
 (some (false, ()))
 else
 ((spec_l1In.f k a0.2.2.1 (-1) 100000).bind fun r2 =>
 (bif (!r2.1) then
 (some (false, ()))
 else
 ((spec_l3Used.f k a0).bind fun r3 =>
 (bif (decide (r3.1 > a0.2.1)) then
 (some (false, ()))
 else
 (L0 0 a0.1 a0.2.1 a0.2.2.1 a0.2.2.2.1))))))))
def f (k : Nat) := t k (l0 k k)
end spec_DiskOk
namespace spec_Power
abbrev Rs : Type := Option ((Ty.den TDisk) × Unit)
abbrev T0 : Type := List Int → Int → List (Ty.den TPair) → Int → Int → Bool → List (Ty.den TPair) → Int → Int → Bool → Rs
def b0 (k : Nat) (L0 : T0) : T0 := fun x0_0 x0_1 x0_2 x0_3 x0_4 x0_5 x0_6 x0_7 x0_8 x0_9 =>
 (bif (decide (x0_1 < (List.length x0_6 : Int))) then
 (inb x0_1 (List.length x0_6 : Int)
 (bif (decide ((List.length x0_0 : Int) > 0)) then
 (bif (decide ((List.length x0_0 : Int) = 0)) then none else
 (inb (Int.tmod x0_1 (List.length x0_0 : Int)) (List.length x0_0 : Int)
 (bif (decide ((List.getD x0_0 (Int.toNat (Int.tmod x0_1 (List.length x0_0 : Int))) (Ty.dflt (.int .i64))) ≥ 0)) then
 (bif (decide ((List.length x0_0 : Int) = 0)) then none else
 (inb (Int.tmod x0_1 (List.length x0_0 : Int)) (List.length x0_0 : Int)
 (bif (decide ((w64 ((w64 ((ByteArray.size (List.getD x0_6 (Int.toNat x0_1) (Ty.dflt TPair)).2.1 : Int) - (List.getD x0_6 (Int.toNat x0_1) (Ty.dflt TPair)).2.2.1)) + 1)) = 0)) then none else
 (inc (w64 ((List.getD x0_6 (Int.toNat x0_1) (Ty.dflt TPair)).2.2.1 + (Int.tmod (List.getD x0_0 (Int.toNat (Int.tmod x0_1 (List.length x0_0 : Int))) (Ty.dflt (.int .i64))) (w64 ((w64 ((ByteArray.size (List.getD x0_6 (Int.toNat x0_1) (Ty.dflt TPair)).2.1 : Int) - (List.getD x0_6 (Int.toNat x0_1) (Ty.dflt TPair)).2.2.1)) + 1))))) (ByteArray.size (List.getD x0_6 (Int.toNat x0_1) (Ty.dflt TPair)).2.1 : Int)
 (inb x0_1 (List.length x0_6 : Int)
 (let l3 := (List.set x0_6 (Int.toNat x0_1) ((List.getD x0_6 (Int.toNat x0_1) (Ty.dflt TPair)).1, ((ByteArray.extract (List.getD x0_6 (Int.toNat x0_1) (Ty.dflt TPair)).2.1 0 (Int.toNat (w64 ((List.getD x0_6 (Int.toNat x0_1) (Ty.dflt TPair)).2.2.1 + (Int.tmod (List.getD x0_0 (Int.toNat (Int.tmod x0_1 (List.length x0_0 : Int))) (Ty.dflt (.int .i64))) (w64 ((w64 ((ByteArray.size (List.getD x0_6 (Int.toNat x0_1) (Ty.dflt TPair)).2.1 : Int) - (List.getD x0_6 (Int.toNat x0_1) (Ty.dflt TPair)).2.2.1)) + 1))))))), ((ByteArray.size (ByteArray.extract (List.getD x0_6 (Int.toNat x0_1) (Ty.dflt TPair)).2.1 0 (Int.toNat (w64 ((List.getD x0_6 (Int.toNat x0_1) (Ty.dflt TPair)).2.2.1 + (Int.tmod (List.getD x0_0 (Int.toNat (Int.tmod x0_1 (List.length x0_0 : Int))) (Ty.dflt (.int .i64))) (w64 ((w64 ((ByteArray.size (List.getD x0_6 (Int.toNat x0_1) (Ty.dflt TPair)).2.1 : Int) - (List.getD x0_6 (Int.toNat x0_1) (Ty.dflt TPair)).2.2.1)) + 1))))))) : Int), ()))));
 (L0 x0_0 (w64 (x0_1 + 1)) x0_2 x0_3 x0_4 x0_5 l3 x0_7 x0_8 x0_9)))))))
 else
 (inc (w64 ((List.getD x0_6 (Int.toNat x0_1) (Ty.dflt TPair)).2.2.1 + 0)) (ByteArray.size (List.getD x0_6 (Int.toNat x0_1) (Ty.dflt TPair)).2.1 : Int)
 (inb x0_1 (List.length x0_6 : Int)
 (let l4 := (List.set x0_6 (Int.toNat x0_1) ((List.getD x0_6 (Int.toNat x0_1) (Ty.dflt TPair)).1, ((ByteArray.extract (List.getD x0_6 (Int.toNat x0_1) (Ty.dflt TPair)).2.1 0 (Int.toNat (w64 ((List.getD x0_6 (Int.toNat x0_1) (Ty.dflt TPair)).2.2.1 + 0)))), ((ByteArray.size (ByteArray.extract (List.getD x0_6 (Int.toNat x0_1) (Ty.dflt TPair)).2.1 0 (Int.toNat (w64 ((List.getD x0_6 (Int.toNat x0_1) (Ty.dflt TPair)).2.2.1 + 0)))) : Int), ()))));
 (L0 x0_0 (w64 (x0_1 + 1)) x0_2 x0_3 x0_4 x0_5 l4 x0_7 x0_8 x0_9)))))))
 else
 (inc (w64 ((List.getD x0_6 (Int.toNat x0_1) (Ty.dflt TPair)).2.2.1 + 0)) (ByteArray.size (List.getD x0_6 (Int.toNat x0_1) (Ty.dflt TPair)).2.1 : Int)
 (inb x0_1 (List.length x0_6 : Int)
 (let l5 := (List.set x0_6 (Int.toNat x0_1) ((List.getD x0_6 (Int.toNat x0_1) (Ty.dflt TPair)).1, ((ByteArray.extract (List.getD x0_6 (Int.toNat x0_1) (Ty.dflt TPair)).2.1 0 (Int.toNat (w64 ((List.getD x0_6 (Int.toNat x0_1) (Ty.dflt TPair)).2.2.1 + 0)))), ((ByteArray.size (ByteArray.extract (List.getD x0_6 (Int.toNat x0_1) (Ty.dflt TPair)).2.1 0 (Int.toNat (w64 ((List.getD x0_6 (Int.toNat x0_1) (Ty.dflt TPair)).2.2.1 + 0)))) : Int), ()))));
 (L0 x0_0 (w64 (x0_1 + 1)) x0_2 x0_3 x0_4 x0_5 l5 x0_7 x0_8 x0_9))))))
 else
 (some ((x0_6, (x0_7, ((-1), (false, ())))), ())))
def l0 (k : Nat) : Nat → T0
  | 0 => fun _ _ _ _ _ _ _ _ _ _ => none
  | n + 1 => b0 k (l0 k n)
def t (k : Nat) (L0 : T0) (a0 : Ty.den TDisk) (a1 : List Int) : Rs :=
 ((spec_l3Copy.f k a0).bind fun r1 =>
 ((spec_DiskOk.f k a0).bind fun r2 =>
 (bif (!r2.1) then
 (some r1)
 else
 (L0 a1 0 [] 0 0 false r1.1.1 r1.1.2.1 r1.1.2.2.1 r1.1.2.2.2.1))))
def f (k : Nat) := t k (l0 k k)
end spec_Power
namespace spec_l3Find
abbrev Rs : Type := Option (Int × Unit)
abbrev T0 : Type := ByteArray → Int → List (Ty.den TPair) → Int → Int → Bool → Rs
def b0 (k : Nat) (L0 : T0) : T0 := fun x0_0 x0_1 x0_2 x0_3 x0_4 x0_5 =>
 (bif (decide (x0_1 < (List.length x0_2 : Int))) then
 (inb x0_1 (List.length x0_2 : Int)
 (bif (seq (List.getD x0_2 (Int.toNat x0_1) (Ty.dflt TPair)).1 x0_0) then
 (some (x0_1, ()))
 else
 (L0 x0_0 (w64 (x0_1 + 1)) x0_2 x0_3 x0_4 x0_5)))
 else
 (some ((-1), ())))
def l0 (k : Nat) : Nat → T0
  | 0 => fun _ _ _ _ _ _ => none
  | n + 1 => b0 k (l0 k n)
def t (k : Nat) (L0 : T0) (a0 : Ty.den TDisk) (a1 : ByteArray) : Rs :=
 (L0 a1 0 a0.1 a0.2.1 a0.2.2.1 a0.2.2.2.1)
def f (k : Nat) := t k (l0 k k)
end spec_l3Find
namespace spec_FileText
abbrev Rs : Type := Option (ByteArray × Bool × Unit)
def t (k : Nat) (a0 : Ty.den TDisk) (a1 : ByteArray) : Rs :=
 ((spec_DiskOk.f k a0).bind fun r1 =>
 (bif (!r1.1) then
 (some ((⟨#[]⟩ : ByteArray), (false, ())))
 else
 ((spec_l3Find.f k a0 a1).bind fun r2 =>
 (bif (decide (r2.1 < 0)) then
 (some ((⟨#[]⟩ : ByteArray), (false, ())))
 else
 (inb r2.1 (List.length a0.1 : Int)
 (some ((List.getD a0.1 (Int.toNat r2.1) (Ty.dflt TPair)).2.1, (true, ()))))))))
def f (k : Nat) := t k
end spec_FileText
namespace spec_Dec
abbrev Rs : Type := Option (ByteArray × Unit)
abbrev T0 : Type := Int → ByteArray → Bool → Rs
def b0 (k : Nat) (L0 : T0) : T0 := fun x0_0 x0_1 x0_2 =>
 (bif (x0_0 != 0) then
 (bif (decide ((Int.tmod x0_0 10) < 0)) then
 (cat (bytesOf [(IntKind.wrap .u8 (w64 (48 + (w64 (0 - (Int.tmod x0_0 10))))))]) x0_1
 (L0 (w64 (Int.tdiv x0_0 10)) ((bytesOf [(IntKind.wrap .u8 (w64 (48 + (w64 (0 - (Int.tmod x0_0 10))))))]) ++ x0_1) x0_2))
 else
 (cat (bytesOf [(IntKind.wrap .u8 (w64 (48 + (Int.tmod x0_0 10))))]) x0_1
 (L0 (w64 (Int.tdiv x0_0 10)) ((bytesOf [(IntKind.wrap .u8 (w64 (48 + (Int.tmod x0_0 10))))]) ++ x0_1) x0_2)))
 else
 (bif x0_2 then
 (cat (⟨#[45]⟩ : ByteArray) x0_1
 (some (((⟨#[45]⟩ : ByteArray) ++ x0_1), ())))
 else
 (some (x0_1, ()))))
def l0 (k : Nat) : Nat → T0
  | 0 => fun _ _ _ => none
  | n + 1 => b0 k (l0 k n)
def t (k : Nat) (L0 : T0) (a0 : Int) : Rs :=
 (bif (a0 == 0) then
 (some ((⟨#[48]⟩ : ByteArray), ()))
 else
 (L0 a0 (⟨#[]⟩ : ByteArray) (decide (a0 < 0))))
def f (k : Nat) := t k (l0 k k)
end spec_Dec
namespace spec_ReadDec
abbrev Rs : Type := Option (Int × Bool × Unit)
abbrev T0 : Type := ByteArray → Int → Int → Int → Rs
def b0 (k : Nat) (L0 : T0) : T0 := fun x0_0 x0_1 x0_2 x0_3 =>
 (bif (decide (x0_3 < (ByteArray.size x0_0 : Int))) then
 (bif (decide (x0_3 < 11)) then
 (inb x0_3 (ByteArray.size x0_0 : Int)
 (bif (decide ((byteAt x0_0 x0_3) ≥ 48)) then
 (inb x0_3 (ByteArray.size x0_0 : Int)
 (bif (decide ((byteAt x0_0 x0_3) ≤ 57)) then
 (inb x0_3 (ByteArray.size x0_0 : Int)
 (L0 x0_0 (w64 ((w64 (x0_1 * 10)) + (w64 (IntKind.wrap .u8 ((byteAt x0_0 x0_3) - 48))))) (w64 (x0_2 + 1)) (w64 (x0_3 + 1))))
 else
 (L0 x0_0 x0_1 x0_2 (w64 (x0_3 + 1)))))
 else
 (L0 x0_0 x0_1 x0_2 (w64 (x0_3 + 1)))))
 else
 (bif (decide ((ByteArray.size x0_0 : Int) > 0)) then
 (inb 0 (ByteArray.size x0_0 : Int)
 (bif ((byteAt x0_0 0) == 45) then
 (bif (decide (x0_2 > 9)) then
 (some (0, (false, ())))
 else
 (bif (decide ((ByteArray.size x0_0 : Int) > 10)) then
 (some (0, (false, ())))
 else
 ((spec_Dec.f k (w64 (0 - x0_1))).bind fun r1 =>
 (bif (!(seq r1.1 x0_0)) then
 (some (0, (false, ())))
 else
 (some ((w64 (0 - x0_1)), (true, ())))))))
 else
 (bif (decide (x0_2 > 9)) then
 (some (0, (false, ())))
 else
 (bif (decide ((ByteArray.size x0_0 : Int) > 10)) then
 (some (0, (false, ())))
 else
 ((spec_Dec.f k x0_1).bind fun r2 =>
 (bif (!(seq r2.1 x0_0)) then
 (some (0, (false, ())))
 else
 (some (x0_1, (true, ())))))))))
 else
 (bif (decide (x0_2 > 9)) then
 (some (0, (false, ())))
 else
 (bif (decide ((ByteArray.size x0_0 : Int) > 10)) then
 (some (0, (false, ())))
 else
 ((spec_Dec.f k x0_1).bind fun r3 =>
 (bif (!(seq r3.1 x0_0)) then
 (some (0, (false, ())))
 else
 (some (x0_1, (true, ())))))))))
 else
 (bif (decide ((ByteArray.size x0_0 : Int) > 0)) then
 (inb 0 (ByteArray.size x0_0 : Int)
 (bif ((byteAt x0_0 0) == 45) then
 (bif (decide (x0_2 > 9)) then
 (some (0, (false, ())))
 else
 (bif (decide ((ByteArray.size x0_0 : Int) > 10)) then
 (some (0, (false, ())))
 else
 ((spec_Dec.f k (w64 (0 - x0_1))).bind fun r4 =>
 (bif (!(seq r4.1 x0_0)) then
 (some (0, (false, ())))
 else
 (some ((w64 (0 - x0_1)), (true, ())))))))
 else
 (bif (decide (x0_2 > 9)) then
 (some (0, (false, ())))
 else
 (bif (decide ((ByteArray.size x0_0 : Int) > 10)) then
 (some (0, (false, ())))
 else
 ((spec_Dec.f k x0_1).bind fun r5 =>
 (bif (!(seq r5.1 x0_0)) then
 (some (0, (false, ())))
 else
 (some (x0_1, (true, ())))))))))
 else
 (bif (decide (x0_2 > 9)) then
 (some (0, (false, ())))
 else
 (bif (decide ((ByteArray.size x0_0 : Int) > 10)) then
 (some (0, (false, ())))
 else
 ((spec_Dec.f k x0_1).bind fun r6 =>
 (bif (!(seq r6.1 x0_0)) then
 (some (0, (false, ())))
 else
 (some (x0_1, (true, ())))))))))
def l0 (k : Nat) : Nat → T0
  | 0 => fun _ _ _ _ => none
  | n + 1 => b0 k (l0 k n)
def t (k : Nat) (L0 : T0) (a0 : ByteArray) : Rs :=
 (L0 a0 0 0 0)
def f (k : Nat) := t k (l0 k k)
end spec_ReadDec
namespace spec_SegName
abbrev Rs : Type := Option (ByteArray × Unit)
def t (k : Nat) (a0 : Int) : Rs :=
 ((spec_l1In.f k a0 1 100000).bind fun r1 =>
 (bif (!r1.1) then
 (some ((⟨#[]⟩ : ByteArray), ()))
 else
 ((spec_Dec.f k a0).bind fun r2 =>
 (cat (⟨#[115, 101, 103]⟩ : ByteArray) r2.1
 (some (((⟨#[115, 101, 103]⟩ : ByteArray) ++ r2.1), ()))))))
def f (k : Nat) := t k
end spec_SegName
namespace spec_HintName
abbrev Rs : Type := Option (ByteArray × Unit)
def t (k : Nat) (a0 : Int) : Rs :=
 ((spec_l1In.f k a0 1 100000).bind fun r1 =>
 (bif (!r1.1) then
 (some ((⟨#[]⟩ : ByteArray), ()))
 else
 ((spec_Dec.f k a0).bind fun r2 =>
 (cat (⟨#[104, 105, 110, 116]⟩ : ByteArray) r2.1
 (some (((⟨#[104, 105, 110, 116]⟩ : ByteArray) ++ r2.1), ()))))))
def f (k : Nat) := t k
end spec_HintName
namespace spec_IdOf
abbrev Rs : Type := Option (Int × Bool × Unit)
abbrev T0 : Type := ByteArray → Int → Rs
def b0 (k : Nat) (L0 : T0) : T0 := fun x0_0 x0_1 =>
 (bif (decide (x0_1 ≤ 4)) then
 (bif (decide ((ByteArray.size x0_0 : Int) > x0_1)) then
 (inc x0_1 (ByteArray.size x0_0 : Int)
 ((spec_ReadDec.f k (ByteArray.extract x0_0 (Int.toNat x0_1) (ByteArray.size x0_0))).bind fun r1 =>
 (bif r1.2.1 then
 (bif (decide (r1.1 ≥ 1)) then
 ((spec_SegName.f k r1.1).bind fun r2 =>
 (bif (seq r2.1 x0_0) then
 (some (r1.1, (true, ())))
 else
 ((spec_HintName.f k r1.1).bind fun r3 =>
 (bif (seq r3.1 x0_0) then
 (some (r1.1, (true, ())))
 else
 (L0 x0_0 (w64 (x0_1 + 1)))))))
 else
 (L0 x0_0 (w64 (x0_1 + 1))))
 else
 (L0 x0_0 (w64 (x0_1 + 1))))))
 else
 (L0 x0_0 (w64 (x0_1 + 1))))
 else
 (some (0, (false, ()))))
def l0 (k : Nat) : Nat → T0
  | 0 => fun _ _ => none
  | n + 1 => b0 k (l0 k n)
def t (k : Nat) (L0 : T0) (a0 : ByteArray) : Rs :=
 (L0 a0 3)
def f (k : Nat) := t k (l0 k k)
end spec_IdOf
namespace spec_Orphans
abbrev Rs : Type := Option ((List ByteArray) × Unit)
abbrev T1 : Type := Int → Int → Bool → Bool → Int → List (Ty.den TPair) → Int → Int → Bool → Int → List Int → List ByteArray → Rs
abbrev T0 : Type := Int → List (Ty.den TPair) → Int → Int → Bool → Int → List Int → List ByteArray → Rs
def b1 (k : Nat) (L0 : T0) (L1 : T1) : T1 := fun x1_0 x1_1 x1_2 x1_3 x1_4 x1_5 x1_6 x1_7 x1_8 x1_9 x1_10 x1_11 =>
 (bif (decide (x1_4 < (List.length x1_10 : Int))) then
 (bif x1_3 then
 (L1 x1_0 x1_1 x1_2 true (w64 (x1_4 + 1)) x1_5 x1_6 x1_7 x1_8 x1_9 x1_10 x1_11)
 else
 (inb x1_4 (List.length x1_10 : Int)
 (L1 x1_0 x1_1 x1_2 ((List.getD x1_10 (Int.toNat x1_4) (Ty.dflt (.int .i64))) == x1_1) (w64 (x1_4 + 1)) x1_5 x1_6 x1_7 x1_8 x1_9 x1_10 x1_11)))
 else
 (bif x1_2 then
 (bif (!x1_3) then
 (inb x1_0 (List.length x1_5 : Int)
 (rm (Ty.bytes .str) (List.length x1_11 + 1)
 (L0 (w64 (x1_0 + 1)) x1_5 x1_6 x1_7 x1_8 x1_9 x1_10 (x1_11 ++ [(List.getD x1_5 (Int.toNat x1_0) (Ty.dflt TPair)).1]))))
 else
 (inb x1_0 (List.length x1_5 : Int)
 (bif (seq (List.getD x1_5 (Int.toNat x1_0) (Ty.dflt TPair)).1 (⟨#[116, 101, 109, 112]⟩ : ByteArray)) then
 (inb x1_0 (List.length x1_5 : Int)
 (rm (Ty.bytes .str) (List.length x1_11 + 1)
 (L0 (w64 (x1_0 + 1)) x1_5 x1_6 x1_7 x1_8 x1_9 x1_10 (x1_11 ++ [(List.getD x1_5 (Int.toNat x1_0) (Ty.dflt TPair)).1]))))
 else
 (L0 (w64 (x1_0 + 1)) x1_5 x1_6 x1_7 x1_8 x1_9 x1_10 x1_11))))
 else
 (inb x1_0 (List.length x1_5 : Int)
 (bif (seq (List.getD x1_5 (Int.toNat x1_0) (Ty.dflt TPair)).1 (⟨#[116, 101, 109, 112]⟩ : ByteArray)) then
 (inb x1_0 (List.length x1_5 : Int)
 (rm (Ty.bytes .str) (List.length x1_11 + 1)
 (L0 (w64 (x1_0 + 1)) x1_5 x1_6 x1_7 x1_8 x1_9 x1_10 (x1_11 ++ [(List.getD x1_5 (Int.toNat x1_0) (Ty.dflt TPair)).1]))))
 else
 (L0 (w64 (x1_0 + 1)) x1_5 x1_6 x1_7 x1_8 x1_9 x1_10 x1_11)))))
def l1 (k : Nat) (L0 : T0) : Nat → T1
  | 0 => fun _ _ _ _ _ _ _ _ _ _ _ _ => none
  | n + 1 => b1 k L0 (l1 k L0 n)
def b0 (k : Nat) (L1 : T1) (L0 : T0) : T0 := fun x0_0 x0_1 x0_2 x0_3 x0_4 x0_5 x0_6 x0_7 =>
 (bif (decide (x0_0 < (List.length x0_1 : Int))) then
 (inb x0_0 (List.length x0_1 : Int)
 ((spec_IdOf.f k (List.getD x0_1 (Int.toNat x0_0) (Ty.dflt TPair)).1).bind fun r2 =>
 (L1 x0_0 r2.1 r2.2.1 false 0 x0_1 x0_2 x0_3 x0_4 x0_5 x0_6 x0_7)))
 else
 (some (x0_7, ())))
def l0 (k : Nat) : Nat → T0
  | 0 => fun _ _ _ _ _ _ _ _ => none
  | n + 1 => b0 k (l1 k (l0 k n) k) (l0 k n)
def t (k : Nat) (L0 : T0) (a0 : Ty.den TDisk) (a1 : Ty.den TLive) : Rs :=
 ((spec_DiskOk.f k a0).bind fun r1 =>
 (bif (!r1.1) then
 (some ([], ()))
 else
 (L0 0 a0.1 a0.2.1 a0.2.2.1 a0.2.2.2.1 a1.1 a1.2.1 [])))
def f (k : Nat) := t k (l0 k k)
end spec_Orphans
namespace spec_l3Begin
abbrev Rs : Type := Option ((Ty.den TDisk) × Int × Unit)
def t (k : Nat) (a0 : Ty.den TDisk) : Rs :=
 ((spec_l3Copy.f k a0).bind fun r1 =>
 ((spec_DiskOk.f k a0).bind fun r2 =>
 (bif (!r2.1) then
 (some (r1.1, (5, ())))
 else
 (bif a0.2.2.2.1 then
 (some ((r1.1.1, (r1.1.2.1, (r1.1.2.2.1, (true, ())))), (1, ())))
 else
 (bif (a0.2.2.1 == 0) then
 (some ((r1.1.1, (r1.1.2.1, (r1.1.2.2.1, (true, ())))), (1, ())))
 else
 (bif (decide (a0.2.2.1 > 0)) then
 (some ((r1.1.1, (r1.1.2.1, ((w64 (a0.2.2.1 - 1)), r1.1.2.2.2))), (0, ())))
 else
 (some (r1.1, (0, ())))))))))
def f (k : Nat) := t k
end spec_l3Begin
namespace spec_l3Without
abbrev Rs : Type := Option ((List (Ty.den TPair)) × Unit)
def t (k : Nat) (a0 : List (Ty.den TPair)) (a1 : Int) : Rs :=
 (inc a1 (List.length a0 : Int)
 (rm (Ty.bytes TPair) (0 + List.length (List.take (Int.toNat a1) a0))
 (inc (w64 (a1 + 1)) (List.length a0 : Int)
 (rm (Ty.bytes TPair) (List.length ([] ++ (List.take (Int.toNat a1) a0)) + List.length (List.drop (Int.toNat (w64 (a1 + 1))) a0))
 (some ((([] ++ (List.take (Int.toNat a1) a0)) ++ (List.drop (Int.toNat (w64 (a1 + 1))) a0)), ()))))))
def f (k : Nat) := t k
end spec_l3Without
namespace spec_Remove
abbrev Rs : Type := Option ((Ty.den TDisk) × Int × Unit)
def t (k : Nat) (a0 : Ty.den TDisk) (a1 : ByteArray) : Rs :=
 ((spec_l3Begin.f k a0).bind fun r1 =>
 (bif (r1.2.1 != 0) then
 (some r1)
 else
 ((spec_l3Find.f k a0 a1).bind fun r2 =>
 (bif (decide (r2.1 < 0)) then
 (some (r1.1, (3, ())))
 else
 ((spec_l3Without.f k r1.1.1 r2.1).bind fun r3 =>
 (some ((r3.1, r1.1.2), (0, ()))))))))
def f (k : Nat) := t k
end spec_Remove
namespace spec_l11Code
abbrev Rs : Type := Option (Int × Unit)
def t (k : Nat) (a0 : Int) : Rs :=
 (bif (a0 == 0) then
 (some (0, ()))
 else
 (bif (a0 == 1) then
 (some (1, ()))
 else
 (bif (a0 == 2) then
 (some (2, ()))
 else
 (some (3, ())))))
def f (k : Nat) := t k
end spec_l11Code
namespace spec_l3Insert
abbrev Rs : Type := Option ((List (Ty.den TPair)) × Unit)
abbrev T0 : Type := List (Ty.den TPair) → Bool → Int → ByteArray → ByteArray → Int → List (Ty.den TPair) → Rs
def b0 (k : Nat) (L0 : T0) : T0 := fun x0_0 x0_1 x0_2 x0_3 x0_4 x0_5 x0_6 =>
 (bif (decide (x0_2 < (List.length x0_0 : Int))) then
 (bif (!x0_1) then
 (inb x0_2 (List.length x0_0 : Int)
 (bif (!((sls (List.getD x0_0 (Int.toNat x0_2) (Ty.dflt TPair)).1 x0_3) || (seq (List.getD x0_0 (Int.toNat x0_2) (Ty.dflt TPair)).1 x0_3))) then
 (rm (Ty.bytes TPair) (List.length x0_6 + 1)
 (inb x0_2 (List.length x0_0 : Int)
 (rm (Ty.bytes TPair) (List.length (x0_6 ++ [(x0_3, (x0_4, (x0_5, ())))]) + 1)
 (L0 x0_0 true (w64 (x0_2 + 1)) x0_3 x0_4 x0_5 ((x0_6 ++ [(x0_3, (x0_4, (x0_5, ())))]) ++ [(List.getD x0_0 (Int.toNat x0_2) (Ty.dflt TPair))])))))
 else
 (inb x0_2 (List.length x0_0 : Int)
 (rm (Ty.bytes TPair) (List.length x0_6 + 1)
 (L0 x0_0 x0_1 (w64 (x0_2 + 1)) x0_3 x0_4 x0_5 (x0_6 ++ [(List.getD x0_0 (Int.toNat x0_2) (Ty.dflt TPair))]))))))
 else
 (inb x0_2 (List.length x0_0 : Int)
 (rm (Ty.bytes TPair) (List.length x0_6 + 1)
 (L0 x0_0 x0_1 (w64 (x0_2 + 1)) x0_3 x0_4 x0_5 (x0_6 ++ [(List.getD x0_0 (Int.toNat x0_2) (Ty.dflt TPair))])))))
 else
 (bif (!x0_1) then
 (rm (Ty.bytes TPair) (List.length x0_6 + 1)
 (some ((x0_6 ++ [(x0_3, (x0_4, (x0_5, ())))]), ())))
 else
 (some (x0_6, ()))))
def l0 (k : Nat) : Nat → T0
  | 0 => fun _ _ _ _ _ _ _ => none
  | n + 1 => b0 k (l0 k n)
def t (k : Nat) (L0 : T0) (a0 : List (Ty.den TPair)) (a1 : Ty.den TPair) : Rs :=
 (L0 a0 false 0 a1.1 a1.2.1 a1.2.2.1 [])
def f (k : Nat) := t k (l0 k k)
end spec_l3Insert
namespace spec_Create
abbrev Rs : Type := Option ((Ty.den TDisk) × Int × Unit)
def t (k : Nat) (a0 : Ty.den TDisk) (a1 : ByteArray) : Rs :=
 ((spec_l3Begin.f k a0).bind fun r1 =>
 (bif (r1.2.1 != 0) then
 (some r1)
 else
 ((spec_NameOk.f k a1).bind fun r2 =>
 (bif (!r2.1) then
 (some (r1.1, (5, ())))
 else
 ((spec_l3Find.f k a0 a1).bind fun r3 =>
 (bif (decide (r3.1 ≥ 0)) then
 (some (r1.1, (4, ())))
 else
 (bif (decide ((List.length a0.1 : Int) ≥ 130)) then
 (some (r1.1, (2, ())))
 else
 ((spec_l3Insert.f k r1.1.1 (a1, (ByteArray.empty, (0, ())))).bind fun r4 =>
 (some ((r4.1, r1.1.2), (0, ())))))))))))
def f (k : Nat) := t k
end spec_Create
namespace spec_LiveOk
abbrev Rs : Type := Option (Bool × Unit)
abbrev T0 : Type := Int → Int → List Int → Rs
def b0 (k : Nat) (L0 : T0) : T0 := fun x0_0 x0_1 x0_2 =>
 (bif (decide (x0_0 < (List.length x0_2 : Int))) then
 (inb x0_0 (List.length x0_2 : Int)
 ((spec_l1In.f k (List.getD x0_2 (Int.toNat x0_0) (Ty.dflt (.int .i64))) 1 (w64 (x0_1 - 1))).bind fun r3 =>
 (bif (!r3.1) then
 (some (false, ()))
 else
 (bif (decide (x0_0 > 0)) then
 (inb x0_0 (List.length x0_2 : Int)
 (inb (w64 (x0_0 - 1)) (List.length x0_2 : Int)
 (bif (decide ((List.getD x0_2 (Int.toNat x0_0) (Ty.dflt (.int .i64))) ≤ (List.getD x0_2 (Int.toNat (w64 (x0_0 - 1))) (Ty.dflt (.int .i64))))) then
 (some (false, ()))
 else
 (L0 (w64 (x0_0 + 1)) x0_1 x0_2))))
 else
 (L0 (w64 (x0_0 + 1)) x0_1 x0_2)))))
 else
 (some (true, ())))
def l0 (k : Nat) : Nat → T0
  | 0 => fun _ _ _ => none
  | n + 1 => b0 k (l0 k n)
def t (k : Nat) (L0 : T0) (a0 : Ty.den TLive) : Rs :=
 ((spec_l1In.f k a0.1 1 100000).bind fun r1 =>
 (bif (!r1.1) then
 (some (false, ()))
 else
 ((spec_l1In.f k (List.length a0.2.1 : Int) 1 60).bind fun r2 =>
 (bif (!r2.1) then
 (some (false, ()))
 else
 (L0 0 a0.1 a0.2.1)))))
def f (k : Nat) := t k (l0 k k)
end spec_LiveOk
namespace spec_Var
abbrev Rs : Type := Option (ByteArray × Unit)
abbrev T0 : Type := Int → List Int → Rs
def b0 (k : Nat) (L0 : T0) : T0 := fun x0_0 x0_1 =>
 (bif (decide (x0_0 ≥ 128)) then
 (rm (Ty.bytes (.int .u8)) (List.length x0_1 + 1)
 (L0 (w64 (Int.tdiv x0_0 128)) (x0_1 ++ [(IntKind.wrap .u8 (w64 (128 + (Int.tmod x0_0 128))))])))
 else
 (rm (Ty.bytes (.int .u8)) (List.length x0_1 + 1)
 (some ((bytesOf (x0_1 ++ [(IntKind.wrap .u8 x0_0)])), ()))))
def l0 (k : Nat) : Nat → T0
  | 0 => fun _ _ => none
  | n + 1 => b0 k (l0 k n)
def t (k : Nat) (L0 : T0) (a0 : Int) : Rs :=
 ((spec_l1In.f k a0 0 562949953421311).bind fun r1 =>
 (bif (!r1.1) then
 (some ((⟨#[]⟩ : ByteArray), ()))
 else
 (L0 a0 [])))
def f (k : Nat) := t k (l0 k k)
end spec_Var
namespace spec_Crc
abbrev Rs : Type := Option (Int × Unit)
abbrev T1 : Type := ByteArray → Int → Int → Int → Rs
abbrev T0 : Type := ByteArray → Int → Int → Rs
def b1 (k : Nat) (L0 : T0) (L1 : T1) : T1 := fun x1_0 x1_1 x1_2 x1_3 =>
 (bif (decide (x1_3 < 8)) then
 (bif ((Int.tmod x1_1 2) == 1) then
 (L1 x1_0 (w64 (((BitVec.ofInt (IntKind.bits .i64) (w64 (Int.tdiv x1_1 2)) ^^^ BitVec.ofInt (IntKind.bits .i64) 2197175160).toNat : Int))) x1_2 (w64 (x1_3 + 1)))
 else
 (L1 x1_0 (w64 (Int.tdiv x1_1 2)) x1_2 (w64 (x1_3 + 1))))
 else
 (L0 x1_0 x1_1 (w64 (x1_2 + 1))))
def l1 (k : Nat) (L0 : T0) : Nat → T1
  | 0 => fun _ _ _ _ => none
  | n + 1 => b1 k L0 (l1 k L0 n)
def b0 (k : Nat) (L1 : T1) (L0 : T0) : T0 := fun x0_0 x0_1 x0_2 =>
 (bif (decide (x0_2 < (ByteArray.size x0_0 : Int))) then
 (inb x0_2 (ByteArray.size x0_0 : Int)
 (L1 x0_0 (w64 (((BitVec.ofInt (IntKind.bits .i64) x0_1 ^^^ BitVec.ofInt (IntKind.bits .i64) (w64 (byteAt x0_0 x0_2))).toNat : Int))) x0_2 0))
 else
 (some ((w64 (4294967295 - x0_1)), ())))
def l0 (k : Nat) : Nat → T0
  | 0 => fun _ _ _ => none
  | n + 1 => b0 k (l1 k (l0 k n) k) (l0 k n)
def t (k : Nat) (L0 : T0) (a0 : ByteArray) : Rs :=
 (L0 a0 4294967295 0)
def f (k : Nat) := t k (l0 k k)
end spec_Crc
namespace spec_Fixed
abbrev Rs : Type := Option (ByteArray × Unit)
abbrev T0 : Type := Int → Int → ByteArray → Int → Rs
def b0 (k : Nat) (L0 : T0) : T0 := fun x0_0 x0_1 x0_2 x0_3 =>
 (bif (decide (x0_3 < x0_1)) then
 (cat (bytesOf [(IntKind.wrap .u8 (Int.tmod x0_0 256))]) x0_2
 (L0 (w64 (Int.tdiv x0_0 256)) x0_1 ((bytesOf [(IntKind.wrap .u8 (Int.tmod x0_0 256))]) ++ x0_2) (w64 (x0_3 + 1))))
 else
 (bif (decide (x0_0 > 0)) then
 (some ((⟨#[]⟩ : ByteArray), ()))
 else
 (some (x0_2, ()))))
def l0 (k : Nat) : Nat → T0
  | 0 => fun _ _ _ _ => none
  | n + 1 => b0 k (l0 k n)
def t (k : Nat) (L0 : T0) (a0 : Int) (a1 : Int) : Rs :=
 ((spec_l1In.f k a1 1 7).bind fun r1 =>
 (bif (!r1.1) then
 (some ((⟨#[]⟩ : ByteArray), ()))
 else
 (bif (decide (a0 < 0)) then
 (some ((⟨#[]⟩ : ByteArray), ()))
 else
 (L0 a0 a1 (⟨#[]⟩ : ByteArray) 0))))
def f (k : Nat) := t k (l0 k k)
end spec_Fixed
namespace spec_Frame
abbrev Rs : Type := Option (ByteArray × Unit)
def t (k : Nat) (a0 : ByteArray) : Rs :=
 (bif (decide ((ByteArray.size a0 : Int) > 200)) then
 (some ((⟨#[]⟩ : ByteArray), ()))
 else
 ((spec_Var.f k (ByteArray.size a0 : Int)).bind fun r1 =>
 (cat r1.1 a0
 ((spec_Crc.f k (r1.1 ++ a0)).bind fun r2 =>
 ((spec_Fixed.f k r2.1 4).bind fun r3 =>
 (cat r3.1 (r1.1 ++ a0)
 (some ((r3.1 ++ (r1.1 ++ a0)), ()))))))))
def f (k : Nat) := t k
end spec_Frame
namespace spec_ShowLive
abbrev Rs : Type := Option (ByteArray × Unit)
abbrev T0 : Type := ByteArray → Int → Int → List Int → Rs
def b0 (k : Nat) (L0 : T0) : T0 := fun x0_0 x0_1 x0_2 x0_3 =>
 (bif (decide (x0_1 < (List.length x0_3 : Int))) then
 (inb x0_1 (List.length x0_3 : Int)
 ((spec_Var.f k (List.getD x0_3 (Int.toNat x0_1) (Ty.dflt (.int .i64)))).bind fun r4 =>
 (cat x0_0 r4.1
 (L0 (x0_0 ++ r4.1) (w64 (x0_1 + 1)) x0_2 x0_3))))
 else
 ((spec_Frame.f k x0_0).bind fun r5 =>
 (some r5)))
def l0 (k : Nat) : Nat → T0
  | 0 => fun _ _ _ _ => none
  | n + 1 => b0 k (l0 k n)
def t (k : Nat) (L0 : T0) (a0 : Ty.den TLive) : Rs :=
 ((spec_LiveOk.f k a0).bind fun r1 =>
 (bif (!r1.1) then
 (some ((⟨#[]⟩ : ByteArray), ()))
 else
 ((spec_Var.f k a0.1).bind fun r2 =>
 ((spec_Var.f k (List.length a0.2.1 : Int)).bind fun r3 =>
 (cat r2.1 r3.1
 (L0 (r2.1 ++ r3.1) 0 a0.1 a0.2.1))))))
def f (k : Nat) := t k (l0 k k)
end spec_ShowLive
namespace spec_l11Fresh
abbrev Rs : Type := Option ((Ty.den TDisk) × Int × Unit)
def t (k : Nat) (a0 : Ty.den TDisk) (a1 : ByteArray) : Rs :=
 ((spec_l3Find.f k a0 a1).bind fun r1 =>
 (bif (decide (r1.1 ≥ 0)) then
 ((spec_Remove.f k a0 a1).bind fun r2 =>
 (bif (r2.2.1 != 0) then
 (some r2)
 else
 ((spec_Create.f k r2.1 a1).bind fun r3 =>
 (some r3))))
 else
 ((spec_Create.f k a0 a1).bind fun r4 =>
 (some r4))))
def f (k : Nat) := t k
end spec_l11Fresh
namespace spec_Append
abbrev Rs : Type := Option ((Ty.den TDisk) × Int × Unit)
def t (k : Nat) (a0 : Ty.den TDisk) (a1 : ByteArray) (a2 : ByteArray) : Rs :=
 ((spec_l3Begin.f k a0).bind fun r1 =>
 (bif (r1.2.1 != 0) then
 (some r1)
 else
 ((spec_l3Find.f k a0 a1).bind fun r2 =>
 (bif (decide (r2.1 < 0)) then
 (some (r1.1, (3, ())))
 else
 ((spec_l3Used.f k a0).bind fun r3 =>
 (bif (decide ((ByteArray.size a2 : Int) > (w64 (a0.2.1 - r3.1)))) then
 (some (r1.1, (2, ())))
 else
 (inb r2.1 (List.length a0.1 : Int)
 (cat (List.getD a0.1 (Int.toNat r2.1) (Ty.dflt TPair)).2.1 a2
 (inb r2.1 (List.length r1.1.1 : Int)
 (let l4 := (List.set r1.1.1 (Int.toNat r2.1) ((List.getD r1.1.1 (Int.toNat r2.1) (Ty.dflt TPair)).1, (((List.getD a0.1 (Int.toNat r2.1) (Ty.dflt TPair)).2.1 ++ a2), (List.getD r1.1.1 (Int.toNat r2.1) (Ty.dflt TPair)).2.2)));
 (some ((l4, r1.1.2), (0, ())))))))))))))
def f (k : Nat) := t k
end spec_Append
namespace spec_Sync
abbrev Rs : Type := Option ((Ty.den TDisk) × Int × Unit)
def t (k : Nat) (a0 : Ty.den TDisk) (a1 : ByteArray) : Rs :=
 ((spec_l3Begin.f k a0).bind fun r1 =>
 (bif (r1.2.1 != 0) then
 (some r1)
 else
 ((spec_l3Find.f k a0 a1).bind fun r2 =>
 (bif (decide (r2.1 < 0)) then
 (some (r1.1, (3, ())))
 else
 (inb r2.1 (List.length a0.1 : Int)
 (inb r2.1 (List.length r1.1.1 : Int)
 (let l3 := (List.set r1.1.1 (Int.toNat r2.1) ((List.getD r1.1.1 (Int.toNat r2.1) (Ty.dflt TPair)).1, ((List.getD r1.1.1 (Int.toNat r2.1) (Ty.dflt TPair)).2.1, ((ByteArray.size (List.getD a0.1 (Int.toNat r2.1) (Ty.dflt TPair)).2.1 : Int), (List.getD r1.1.1 (Int.toNat r2.1) (Ty.dflt TPair)).2.2.2))));
 (some ((l3, r1.1.2), (0, ()))))))))))
def f (k : Nat) := t k
end spec_Sync
namespace spec_l11File
abbrev Rs : Type := Option ((Ty.den TDisk) × Int × Unit)
def t (k : Nat) (a0 : Ty.den TDisk) (a1 : ByteArray) (a2 : ByteArray) : Rs :=
 ((spec_l11Fresh.f k a0 a1).bind fun r1 =>
 (bif (r1.2.1 == 0) then
 ((spec_Append.f k r1.1 a1 a2).bind fun r2 =>
 (bif (r2.2.1 == 0) then
 ((spec_Sync.f k r2.1 a1).bind fun r3 =>
 (some r3))
 else
 (some r2)))
 else
 (bif (r1.2.1 == 0) then
 ((spec_Sync.f k r1.1 a1).bind fun r4 =>
 (some r4))
 else
 (some r1))))
def f (k : Nat) := t k
end spec_l11File
namespace spec_Rename
abbrev Rs : Type := Option ((Ty.den TDisk) × Int × Unit)
def t (k : Nat) (a0 : Ty.den TDisk) (a1 : ByteArray) (a2 : ByteArray) : Rs :=
 ((spec_l3Begin.f k a0).bind fun r1 =>
 (bif (r1.2.1 != 0) then
 (some r1)
 else
 ((spec_NameOk.f k a2).bind fun r2 =>
 (bif (!r2.1) then
 (some (r1.1, (5, ())))
 else
 ((spec_l3Find.f k a0 a1).bind fun r3 =>
 (bif (decide (r3.1 < 0)) then
 (some (r1.1, (3, ())))
 else
 (bif (seq a1 a2) then
 (some (r1.1, (0, ())))
 else
 (inb r3.1 (List.length a0.1 : Int)
 ((spec_l3Without.f k r1.1.1 r3.1).bind fun r4 =>
 ((spec_l3Find.f k (r4.1, r1.1.2) a2).bind fun r5 =>
 (bif (decide (r5.1 ≥ 0)) then
 ((spec_l3Without.f k r4.1 r5.1).bind fun r6 =>
 ((spec_l3Insert.f k r6.1 (a2, (List.getD a0.1 (Int.toNat r3.1) (Ty.dflt TPair)).2)).bind fun r7 =>
 (some ((r7.1, r1.1.2), (0, ())))))
 else
 ((spec_l3Insert.f k r4.1 (a2, (List.getD a0.1 (Int.toNat r3.1) (Ty.dflt TPair)).2)).bind fun r8 =>
 (some ((r8.1, r1.1.2), (0, ())))))))))))))))
def f (k : Nat) := t k
end spec_Rename
namespace spec_PutLive
abbrev Rs : Type := Option ((Ty.den TDisk) × Int × Unit)
def t (k : Nat) (a0 : Ty.den TDisk) (a1 : Ty.den TLive) : Rs :=
 ((spec_DiskOk.f k a0).bind fun r1 =>
 (bif (!r1.1) then
 ((spec_l3Copy.f k a0).bind fun r2 =>
 (some (r2.1, (4, ()))))
 else
 ((spec_LiveOk.f k a1).bind fun r3 =>
 (bif (!r3.1) then
 ((spec_l3Copy.f k a0).bind fun r4 =>
 (some (r4.1, (4, ()))))
 else
 ((spec_ShowLive.f k a1).bind fun r5 =>
 ((spec_l11File.f k a0 (⟨#[116, 101, 109, 112]⟩ : ByteArray) r5.1).bind fun r6 =>
 (bif (r6.2.1 == 0) then
 ((spec_Rename.f k r6.1 (⟨#[116, 101, 109, 112]⟩ : ByteArray) (⟨#[108, 105, 118, 101]⟩ : ByteArray)).bind fun r7 =>
 ((spec_l11Code.f k r7.2.1).bind fun r8 =>
 (some (r7.1, r8))))
 else
 ((spec_l11Code.f k r6.2.1).bind fun r9 =>
 (some (r6.1, r9))))))))))
def f (k : Nat) := t k
end spec_PutLive
namespace spec_ReadVar
abbrev Rs : Type := Option (Int × Int × Unit)
abbrev T1 : Type := ByteArray → Int → Int → Int → Rs
abbrev T0 : Type := ByteArray → Int → Rs
def b1 (k : Nat) (L0 : T0) (L1 : T1) : T1 := fun x1_0 x1_1 x1_2 x1_3 =>
 (bif (decide (x1_3 ≥ 0)) then
 (inb x1_3 (ByteArray.size x1_0 : Int)
 (L1 x1_0 x1_1 (w64 ((w64 (x1_2 * 128)) + (Int.tmod (w64 (byteAt x1_0 x1_3)) 128))) (w64 (x1_3 - 1))))
 else
 ((spec_Var.f k x1_2).bind fun r1 =>
 (inc x1_1 (ByteArray.size x1_0 : Int)
 (bif (seq r1.1 (ByteArray.extract x1_0 0 (Int.toNat x1_1))) then
 (some (x1_2, (x1_1, ())))
 else
 (L0 x1_0 (w64 (x1_1 + 1)))))))
def l1 (k : Nat) (L0 : T0) : Nat → T1
  | 0 => fun _ _ _ _ => none
  | n + 1 => b1 k L0 (l1 k L0 n)
def b0 (k : Nat) (L1 : T1) (L0 : T0) : T0 := fun x0_0 x0_1 =>
 (bif (decide (x0_1 ≤ 7)) then
 (bif (decide (x0_1 ≤ (ByteArray.size x0_0 : Int))) then
 (L1 x0_0 x0_1 0 (w64 (x0_1 - 1)))
 else
 (some (0, (0, ()))))
 else
 (some (0, (0, ()))))
def l0 (k : Nat) : Nat → T0
  | 0 => fun _ _ => none
  | n + 1 => b0 k (l1 k (l0 k n) k) (l0 k n)
def t (k : Nat) (L0 : T0) (a0 : ByteArray) : Rs :=
 (L0 a0 1)
def f (k : Nat) := t k (l0 k k)
end spec_ReadVar
namespace spec_Unframe
abbrev Rs : Type := Option (ByteArray × Int × Unit)
def t (k : Nat) (a0 : ByteArray) : Rs :=
 (bif (decide ((ByteArray.size a0 : Int) < 5)) then
 (some ((⟨#[]⟩ : ByteArray), (0, ())))
 else
 (inc 4 (ByteArray.size a0 : Int)
 ((spec_ReadVar.f k (ByteArray.extract a0 4 (ByteArray.size a0))).bind fun r1 =>
 (bif (r1.2.1 == 0) then
 (some ((⟨#[]⟩ : ByteArray), (0, ())))
 else
 (bif (decide (r1.1 > 200)) then
 (some ((⟨#[]⟩ : ByteArray), (0, ())))
 else
 (bif (decide (r1.1 > (w64 ((w64 ((ByteArray.size a0 : Int) - 4)) - r1.2.1)))) then
 (some ((⟨#[]⟩ : ByteArray), (0, ())))
 else
 (inc2 (w64 (4 + r1.2.1)) (w64 ((w64 (4 + r1.2.1)) + r1.1)) (ByteArray.size a0 : Int)
 (inc (w64 ((w64 (4 + r1.2.1)) + r1.1)) (ByteArray.size a0 : Int)
 ((spec_Frame.f k (ByteArray.extract a0 (Int.toNat (w64 (4 + r1.2.1))) (Int.toNat (w64 ((w64 (4 + r1.2.1)) + r1.1))))).bind fun r2 =>
 (bif (!(seq (ByteArray.extract a0 0 (Int.toNat (w64 ((w64 (4 + r1.2.1)) + r1.1)))) r2.1)) then
 (some ((⟨#[]⟩ : ByteArray), (0, ())))
 else
 (some ((ByteArray.extract a0 (Int.toNat (w64 (4 + r1.2.1))) (Int.toNat (w64 ((w64 (4 + r1.2.1)) + r1.1)))), ((w64 ((w64 (4 + r1.2.1)) + r1.1)), ())))))))))))))
def f (k : Nat) := t k
end spec_Unframe
namespace spec_ReadLive
abbrev Rs : Type := Option ((Ty.den TLive) × Bool × Unit)
abbrev T0 : Type := ByteArray → ByteArray → Int → Int → Int → List Int → Int → List Int → Int → Rs
def b0 (k : Nat) (L0 : T0) : T0 := fun x0_0 x0_1 x0_2 x0_3 x0_4 x0_5 x0_6 x0_7 x0_8 =>
 (bif (decide (x0_4 < x0_2)) then
 (bif (decide (x0_4 < 60)) then
 (inc x0_3 (ByteArray.size x0_1 : Int)
 ((spec_ReadVar.f k (ByteArray.extract x0_1 (Int.toNat x0_3) (ByteArray.size x0_1))).bind fun r4 =>
 (rm (Ty.bytes (.int .i64)) (List.length x0_7 + 1)
 (L0 x0_0 x0_1 x0_2 (w64 (x0_3 + r4.2.1)) (w64 (x0_4 + 1)) x0_5 x0_6 (x0_7 ++ [r4.1]) x0_8))))
 else
 ((spec_ShowLive.f k (x0_8, (x0_7, ()))).bind fun r5 =>
 (bif (!(seq r5.1 x0_0)) then
 (some ((0, ([], ())), (false, ())))
 else
 (some ((x0_8, (x0_7, ())), (true, ()))))))
 else
 ((spec_ShowLive.f k (x0_8, (x0_7, ()))).bind fun r6 =>
 (bif (!(seq r6.1 x0_0)) then
 (some ((0, ([], ())), (false, ())))
 else
 (some ((x0_8, (x0_7, ())), (true, ()))))))
def l0 (k : Nat) : Nat → T0
  | 0 => fun _ _ _ _ _ _ _ _ _ => none
  | n + 1 => b0 k (l0 k n)
def t (k : Nat) (L0 : T0) (a0 : ByteArray) : Rs :=
 ((spec_Unframe.f k a0).bind fun r1 =>
 ((spec_ReadVar.f k r1.1).bind fun r2 =>
 (bif (r1.2.1 != (ByteArray.size a0 : Int)) then
 (some ((0, ([], ())), (false, ())))
 else
 (bif (r1.2.1 == 0) then
 (some ((0, ([], ())), (false, ())))
 else
 (bif (r2.2.1 == 0) then
 (some ((0, ([], ())), (false, ())))
 else
 (inc r2.2.1 (ByteArray.size r1.1 : Int)
 ((spec_ReadVar.f k (ByteArray.extract r1.1 (Int.toNat r2.2.1) (ByteArray.size r1.1))).bind fun r3 =>
 (L0 a0 r1.1 r3.1 (w64 (r2.2.1 + r3.2.1)) 0 [] 0 [] r2.1))))))))
def f (k : Nat) := t k (l0 k k)
end spec_ReadLive
namespace spec_l5Text
abbrev Rs : Type := Option (ByteArray × ByteArray × Bool × Unit)
def t (k : Nat) (a0 : ByteArray) : Rs :=
 ((spec_ReadVar.f k a0).bind fun r1 =>
 (bif (r1.2.1 == 0) then
 (some ((⟨#[]⟩ : ByteArray), ((⟨#[]⟩ : ByteArray), (false, ()))))
 else
 (bif (decide (r1.1 > (w64 ((ByteArray.size a0 : Int) - r1.2.1)))) then
 (some ((⟨#[]⟩ : ByteArray), ((⟨#[]⟩ : ByteArray), (false, ()))))
 else
 (inc2 r1.2.1 (w64 (r1.2.1 + r1.1)) (ByteArray.size a0 : Int)
 (inc (w64 (r1.2.1 + r1.1)) (ByteArray.size a0 : Int)
 (some ((ByteArray.extract a0 (Int.toNat r1.2.1) (Int.toNat (w64 (r1.2.1 + r1.1)))), ((ByteArray.extract a0 (Int.toNat (w64 (r1.2.1 + r1.1))) (ByteArray.size a0)), (true, ())))))))))
def f (k : Nat) := t k
end spec_l5Text
namespace spec_KeyOk
abbrev Rs : Type := Option (Bool × Unit)
def t (k : Nat) (a0 : ByteArray) : Rs :=
 ((spec_l1In.f k (ByteArray.size a0 : Int) 1 8).bind fun r1 =>
 (some r1))
def f (k : Nat) := t k
end spec_KeyOk
namespace spec_RecOk
abbrev Rs : Type := Option (Bool × Unit)
def t (k : Nat) (a0 : Ty.den TRec) : Rs :=
 ((spec_l1In.f k a0.2.1 0 1000000).bind fun r1 =>
 (bif (!r1.1) then
 (some (false, ()))
 else
 (bif (a0.2.1 == 0) then
 (bif (a0.1 != 5) then
 (some (false, ()))
 else
 (bif (a0.1 == 1) then
 (bif (a0.1 == 1) then
 ((spec_KeyOk.f k a0.2.2.1).bind fun r2 =>
 (bif r2.1 then
 (bif (decide ((ByteArray.size a0.2.2.2.1 : Int) ≤ 24)) then
 (bif (a0.2.2.2.2.1 == 0) then
 (some ((a0.2.2.2.2.2.1 == 0), ()))
 else
 (some (false, ())))
 else
 (some (false, ())))
 else
 (some (false, ()))))
 else
 (bif (a0.1 == 2) then
 ((spec_KeyOk.f k a0.2.2.1).bind fun r3 =>
 (bif r3.1 then
 (bif (seq a0.2.2.2.1 (⟨#[]⟩ : ByteArray)) then
 (bif (a0.2.2.2.2.1 == 0) then
 (some ((a0.2.2.2.2.2.1 == 0), ()))
 else
 (some (false, ())))
 else
 (some (false, ())))
 else
 (some (false, ()))))
 else
 (bif (a0.1 == 3) then
 (bif (seq a0.2.2.1 (⟨#[]⟩ : ByteArray)) then
 (bif (seq a0.2.2.2.1 (⟨#[]⟩ : ByteArray)) then
 ((spec_l1In.f k a0.2.2.2.2.1 0 8).bind fun r4 =>
 (bif r4.1 then
 ((spec_l1In.f k a0.2.2.2.2.2.1 0 4294967295).bind fun r5 =>
 (some r5))
 else
 (some (false, ()))))
 else
 (some (false, ())))
 else
 (some (false, ())))
 else
 (bif (a0.1 == 5) then
 (bif (seq a0.2.2.1 (⟨#[]⟩ : ByteArray)) then
 (bif (seq a0.2.2.2.1 (⟨#[]⟩ : ByteArray)) then
 ((spec_l1In.f k a0.2.2.2.2.1 0 20).bind fun r6 =>
 (bif r6.1 then
 ((spec_l1In.f k a0.2.2.2.2.2.1 0 4294967295).bind fun r7 =>
 (some r7))
 else
 (some (false, ()))))
 else
 (some (false, ())))
 else
 (some (false, ())))
 else
 (some (false, ()))))))
 else
 (bif (a0.1 == 4) then
 ((spec_KeyOk.f k a0.2.2.1).bind fun r8 =>
 (bif r8.1 then
 (bif (decide ((ByteArray.size a0.2.2.2.1 : Int) ≤ 24)) then
 (bif (a0.2.2.2.2.1 == 0) then
 (some ((a0.2.2.2.2.2.1 == 0), ()))
 else
 (some (false, ())))
 else
 (some (false, ())))
 else
 (some (false, ()))))
 else
 (bif (a0.1 == 2) then
 ((spec_KeyOk.f k a0.2.2.1).bind fun r9 =>
 (bif r9.1 then
 (bif (seq a0.2.2.2.1 (⟨#[]⟩ : ByteArray)) then
 (bif (a0.2.2.2.2.1 == 0) then
 (some ((a0.2.2.2.2.2.1 == 0), ()))
 else
 (some (false, ())))
 else
 (some (false, ())))
 else
 (some (false, ()))))
 else
 (bif (a0.1 == 3) then
 (bif (seq a0.2.2.1 (⟨#[]⟩ : ByteArray)) then
 (bif (seq a0.2.2.2.1 (⟨#[]⟩ : ByteArray)) then
 ((spec_l1In.f k a0.2.2.2.2.1 0 8).bind fun r10 =>
 (bif r10.1 then
 ((spec_l1In.f k a0.2.2.2.2.2.1 0 4294967295).bind fun r11 =>
 (some r11))
 else
 (some (false, ()))))
 else
 (some (false, ())))
 else
 (some (false, ())))
 else
 (bif (a0.1 == 5) then
 (bif (seq a0.2.2.1 (⟨#[]⟩ : ByteArray)) then
 (bif (seq a0.2.2.2.1 (⟨#[]⟩ : ByteArray)) then
 ((spec_l1In.f k a0.2.2.2.2.1 0 20).bind fun r12 =>
 (bif r12.1 then
 ((spec_l1In.f k a0.2.2.2.2.2.1 0 4294967295).bind fun r13 =>
 (some r13))
 else
 (some (false, ()))))
 else
 (some (false, ())))
 else
 (some (false, ())))
 else
 (some (false, ()))))))))
 else
 (bif (a0.1 == 1) then
 (bif (a0.1 == 1) then
 ((spec_KeyOk.f k a0.2.2.1).bind fun r14 =>
 (bif r14.1 then
 (bif (decide ((ByteArray.size a0.2.2.2.1 : Int) ≤ 24)) then
 (bif (a0.2.2.2.2.1 == 0) then
 (some ((a0.2.2.2.2.2.1 == 0), ()))
 else
 (some (false, ())))
 else
 (some (false, ())))
 else
 (some (false, ()))))
 else
 (bif (a0.1 == 2) then
 ((spec_KeyOk.f k a0.2.2.1).bind fun r15 =>
 (bif r15.1 then
 (bif (seq a0.2.2.2.1 (⟨#[]⟩ : ByteArray)) then
 (bif (a0.2.2.2.2.1 == 0) then
 (some ((a0.2.2.2.2.2.1 == 0), ()))
 else
 (some (false, ())))
 else
 (some (false, ())))
 else
 (some (false, ()))))
 else
 (bif (a0.1 == 3) then
 (bif (seq a0.2.2.1 (⟨#[]⟩ : ByteArray)) then
 (bif (seq a0.2.2.2.1 (⟨#[]⟩ : ByteArray)) then
 ((spec_l1In.f k a0.2.2.2.2.1 0 8).bind fun r16 =>
 (bif r16.1 then
 ((spec_l1In.f k a0.2.2.2.2.2.1 0 4294967295).bind fun r17 =>
 (some r17))
 else
 (some (false, ()))))
 else
 (some (false, ())))
 else
 (some (false, ())))
 else
 (bif (a0.1 == 5) then
 (bif (seq a0.2.2.1 (⟨#[]⟩ : ByteArray)) then
 (bif (seq a0.2.2.2.1 (⟨#[]⟩ : ByteArray)) then
 ((spec_l1In.f k a0.2.2.2.2.1 0 20).bind fun r18 =>
 (bif r18.1 then
 ((spec_l1In.f k a0.2.2.2.2.2.1 0 4294967295).bind fun r19 =>
 (some r19))
 else
 (some (false, ()))))
 else
 (some (false, ())))
 else
 (some (false, ())))
 else
 (some (false, ()))))))
 else
 (bif (a0.1 == 4) then
 ((spec_KeyOk.f k a0.2.2.1).bind fun r20 =>
 (bif r20.1 then
 (bif (decide ((ByteArray.size a0.2.2.2.1 : Int) ≤ 24)) then
 (bif (a0.2.2.2.2.1 == 0) then
 (some ((a0.2.2.2.2.2.1 == 0), ()))
 else
 (some (false, ())))
 else
 (some (false, ())))
 else
 (some (false, ()))))
 else
 (bif (a0.1 == 2) then
 ((spec_KeyOk.f k a0.2.2.1).bind fun r21 =>
 (bif r21.1 then
 (bif (seq a0.2.2.2.1 (⟨#[]⟩ : ByteArray)) then
 (bif (a0.2.2.2.2.1 == 0) then
 (some ((a0.2.2.2.2.2.1 == 0), ()))
 else
 (some (false, ())))
 else
 (some (false, ())))
 else
 (some (false, ()))))
 else
 (bif (a0.1 == 3) then
 (bif (seq a0.2.2.1 (⟨#[]⟩ : ByteArray)) then
 (bif (seq a0.2.2.2.1 (⟨#[]⟩ : ByteArray)) then
 ((spec_l1In.f k a0.2.2.2.2.1 0 8).bind fun r22 =>
 (bif r22.1 then
 ((spec_l1In.f k a0.2.2.2.2.2.1 0 4294967295).bind fun r23 =>
 (some r23))
 else
 (some (false, ()))))
 else
 (some (false, ())))
 else
 (some (false, ())))
 else
 (bif (a0.1 == 5) then
 (bif (seq a0.2.2.1 (⟨#[]⟩ : ByteArray)) then
 (bif (seq a0.2.2.2.1 (⟨#[]⟩ : ByteArray)) then
 ((spec_l1In.f k a0.2.2.2.2.1 0 20).bind fun r24 =>
 (bif r24.1 then
 ((spec_l1In.f k a0.2.2.2.2.2.1 0 4294967295).bind fun r25 =>
 (some r25))
 else
 (some (false, ()))))
 else
 (some (false, ())))
 else
 (some (false, ())))
 else
 (some (false, ()))))))))))
def f (k : Nat) := t k
end spec_RecOk
namespace spec_ShowRec
abbrev Rs : Type := Option (ByteArray × Unit)
def t (k : Nat) (a0 : Ty.den TRec) : Rs :=
 ((spec_RecOk.f k a0).bind fun r1 =>
 (bif (!r1.1) then
 (some ((⟨#[]⟩ : ByteArray), ()))
 else
 ((spec_Var.f k a0.1).bind fun r2 =>
 ((spec_Var.f k a0.2.1).bind fun r3 =>
 (cat r2.1 r3.1
 (bif (a0.1 == 1) then
 (bif (a0.1 == 1) then
 ((spec_Var.f k (ByteArray.size a0.2.2.1 : Int)).bind fun r4 =>
 (cat (r2.1 ++ r3.1) r4.1
 (cat ((r2.1 ++ r3.1) ++ r4.1) a0.2.2.1
 ((spec_Var.f k (ByteArray.size a0.2.2.2.1 : Int)).bind fun r5 =>
 (cat (((r2.1 ++ r3.1) ++ r4.1) ++ a0.2.2.1) r5.1
 (cat ((((r2.1 ++ r3.1) ++ r4.1) ++ a0.2.2.1) ++ r5.1) a0.2.2.2.1
 (some ((((((r2.1 ++ r3.1) ++ r4.1) ++ a0.2.2.1) ++ r5.1) ++ a0.2.2.2.1), ()))))))))
 else
 (bif (a0.1 == 2) then
 ((spec_Var.f k (ByteArray.size a0.2.2.1 : Int)).bind fun r6 =>
 (cat (r2.1 ++ r3.1) r6.1
 (cat ((r2.1 ++ r3.1) ++ r6.1) a0.2.2.1
 (some ((((r2.1 ++ r3.1) ++ r6.1) ++ a0.2.2.1), ())))))
 else
 ((spec_Var.f k a0.2.2.2.2.1).bind fun r7 =>
 (cat (r2.1 ++ r3.1) r7.1
 ((spec_Fixed.f k a0.2.2.2.2.2.1 4).bind fun r8 =>
 (cat ((r2.1 ++ r3.1) ++ r7.1) r8.1
 (some ((((r2.1 ++ r3.1) ++ r7.1) ++ r8.1), ()))))))))
 else
 (bif (a0.1 == 4) then
 ((spec_Var.f k (ByteArray.size a0.2.2.1 : Int)).bind fun r9 =>
 (cat (r2.1 ++ r3.1) r9.1
 (cat ((r2.1 ++ r3.1) ++ r9.1) a0.2.2.1
 ((spec_Var.f k (ByteArray.size a0.2.2.2.1 : Int)).bind fun r10 =>
 (cat (((r2.1 ++ r3.1) ++ r9.1) ++ a0.2.2.1) r10.1
 (cat ((((r2.1 ++ r3.1) ++ r9.1) ++ a0.2.2.1) ++ r10.1) a0.2.2.2.1
 (some ((((((r2.1 ++ r3.1) ++ r9.1) ++ a0.2.2.1) ++ r10.1) ++ a0.2.2.2.1), ()))))))))
 else
 (bif (a0.1 == 2) then
 ((spec_Var.f k (ByteArray.size a0.2.2.1 : Int)).bind fun r11 =>
 (cat (r2.1 ++ r3.1) r11.1
 (cat ((r2.1 ++ r3.1) ++ r11.1) a0.2.2.1
 (some ((((r2.1 ++ r3.1) ++ r11.1) ++ a0.2.2.1), ())))))
 else
 ((spec_Var.f k a0.2.2.2.2.1).bind fun r12 =>
 (cat (r2.1 ++ r3.1) r12.1
 ((spec_Fixed.f k a0.2.2.2.2.2.1 4).bind fun r13 =>
 (cat ((r2.1 ++ r3.1) ++ r12.1) r13.1
 (some ((((r2.1 ++ r3.1) ++ r12.1) ++ r13.1), ()))))))))))))))
def f (k : Nat) := t k
end spec_ShowRec
namespace spec_ReadFixed
abbrev Rs : Type := Option (Int × Bool × Unit)
abbrev T0 : Type := ByteArray → Int → Int → Int → Rs
def b0 (k : Nat) (L0 : T0) : T0 := fun x0_0 x0_1 x0_2 x0_3 =>
 (bif (decide (x0_3 < x0_1)) then
 (inb x0_3 (ByteArray.size x0_0 : Int)
 (L0 x0_0 x0_1 (w64 ((w64 (x0_2 * 256)) + (w64 (byteAt x0_0 x0_3)))) (w64 (x0_3 + 1))))
 else
 (some (x0_2, (true, ()))))
def l0 (k : Nat) : Nat → T0
  | 0 => fun _ _ _ _ => none
  | n + 1 => b0 k (l0 k n)
def t (k : Nat) (L0 : T0) (a0 : ByteArray) (a1 : Int) : Rs :=
 ((spec_l1In.f k a1 1 7).bind fun r1 =>
 (bif (!r1.1) then
 (some (0, (false, ())))
 else
 (bif (decide ((ByteArray.size a0 : Int) < a1)) then
 (some (0, (false, ())))
 else
 (L0 a0 a1 0 0))))
def f (k : Nat) := t k (l0 k k)
end spec_ReadFixed
namespace spec_ReadRec
abbrev Rs : Type := Option ((Ty.den TRec) × Bool × Unit)
def t (k : Nat) (a0 : ByteArray) : Rs :=
 ((spec_ReadVar.f k a0).bind fun r1 =>
 (inc r1.2.1 (ByteArray.size a0 : Int)
 ((spec_ReadVar.f k (ByteArray.extract a0 (Int.toNat r1.2.1) (ByteArray.size a0))).bind fun r2 =>
 (bif (r1.2.1 == 0) then
 (some ((0, (0, (ByteArray.empty, (ByteArray.empty, (0, (0, ())))))), (false, ())))
 else
 (bif (r2.2.1 == 0) then
 (some ((0, (0, (ByteArray.empty, (ByteArray.empty, (0, (0, ())))))), (false, ())))
 else
 (inc (w64 (r1.2.1 + r2.2.1)) (ByteArray.size a0 : Int)
 (bif (r1.1 == 1) then
 (bif (r1.1 == 1) then
 ((spec_l5Text.f k (ByteArray.extract a0 (Int.toNat (w64 (r1.2.1 + r2.2.1))) (ByteArray.size a0))).bind fun r3 =>
 ((spec_l5Text.f k r3.2.1).bind fun r4 =>
 ((spec_ShowRec.f k (r1.1, (r2.1, (r3.1, (r4.1, (0, (0, ()))))))).bind fun r5 =>
 (bif (!(seq r5.1 a0)) then
 (some ((0, (0, (ByteArray.empty, (ByteArray.empty, (0, (0, ())))))), (false, ())))
 else
 (bif (seq a0 (⟨#[]⟩ : ByteArray)) then
 (some ((0, (0, (ByteArray.empty, (ByteArray.empty, (0, (0, ())))))), (false, ())))
 else
 (some ((r1.1, (r2.1, (r3.1, (r4.1, (0, (0, ())))))), (true, ()))))))))
 else
 (bif (r1.1 == 2) then
 ((spec_l5Text.f k (ByteArray.extract a0 (Int.toNat (w64 (r1.2.1 + r2.2.1))) (ByteArray.size a0))).bind fun r6 =>
 ((spec_ShowRec.f k (r1.1, (r2.1, (r6.1, (ByteArray.empty, (0, (0, ()))))))).bind fun r7 =>
 (bif (!(seq r7.1 a0)) then
 (some ((0, (0, (ByteArray.empty, (ByteArray.empty, (0, (0, ())))))), (false, ())))
 else
 (bif (seq a0 (⟨#[]⟩ : ByteArray)) then
 (some ((0, (0, (ByteArray.empty, (ByteArray.empty, (0, (0, ())))))), (false, ())))
 else
 (some ((r1.1, (r2.1, (r6.1, (ByteArray.empty, (0, (0, ())))))), (true, ())))))))
 else
 ((spec_ReadVar.f k (ByteArray.extract a0 (Int.toNat (w64 (r1.2.1 + r2.2.1))) (ByteArray.size a0))).bind fun r8 =>
 (inc r8.2.1 (ByteArray.size (ByteArray.extract a0 (Int.toNat (w64 (r1.2.1 + r2.2.1))) (ByteArray.size a0)) : Int)
 ((spec_ReadFixed.f k (ByteArray.extract (ByteArray.extract a0 (Int.toNat (w64 (r1.2.1 + r2.2.1))) (ByteArray.size a0)) (Int.toNat r8.2.1) (ByteArray.size (ByteArray.extract a0 (Int.toNat (w64 (r1.2.1 + r2.2.1))) (ByteArray.size a0)))) 4).bind fun r9 =>
 ((spec_ShowRec.f k (r1.1, (r2.1, (ByteArray.empty, (ByteArray.empty, (r8.1, (r9.1, ()))))))).bind fun r10 =>
 (bif (!(seq r10.1 a0)) then
 (some ((0, (0, (ByteArray.empty, (ByteArray.empty, (0, (0, ())))))), (false, ())))
 else
 (bif (seq a0 (⟨#[]⟩ : ByteArray)) then
 (some ((0, (0, (ByteArray.empty, (ByteArray.empty, (0, (0, ())))))), (false, ())))
 else
 (some ((r1.1, (r2.1, (ByteArray.empty, (ByteArray.empty, (r8.1, (r9.1, ())))))), (true, ())))))))))))
 else
 (bif (r1.1 == 4) then
 ((spec_l5Text.f k (ByteArray.extract a0 (Int.toNat (w64 (r1.2.1 + r2.2.1))) (ByteArray.size a0))).bind fun r11 =>
 ((spec_l5Text.f k r11.2.1).bind fun r12 =>
 ((spec_ShowRec.f k (r1.1, (r2.1, (r11.1, (r12.1, (0, (0, ()))))))).bind fun r13 =>
 (bif (!(seq r13.1 a0)) then
 (some ((0, (0, (ByteArray.empty, (ByteArray.empty, (0, (0, ())))))), (false, ())))
 else
 (bif (seq a0 (⟨#[]⟩ : ByteArray)) then
 (some ((0, (0, (ByteArray.empty, (ByteArray.empty, (0, (0, ())))))), (false, ())))
 else
 (some ((r1.1, (r2.1, (r11.1, (r12.1, (0, (0, ())))))), (true, ()))))))))
 else
 (bif (r1.1 == 2) then
 ((spec_l5Text.f k (ByteArray.extract a0 (Int.toNat (w64 (r1.2.1 + r2.2.1))) (ByteArray.size a0))).bind fun r14 =>
 ((spec_ShowRec.f k (r1.1, (r2.1, (r14.1, (ByteArray.empty, (0, (0, ()))))))).bind fun r15 =>
 (bif (!(seq r15.1 a0)) then
 (some ((0, (0, (ByteArray.empty, (ByteArray.empty, (0, (0, ())))))), (false, ())))
 else
 (bif (seq a0 (⟨#[]⟩ : ByteArray)) then
 (some ((0, (0, (ByteArray.empty, (ByteArray.empty, (0, (0, ())))))), (false, ())))
 else
 (some ((r1.1, (r2.1, (r14.1, (ByteArray.empty, (0, (0, ())))))), (true, ())))))))
 else
 ((spec_ReadVar.f k (ByteArray.extract a0 (Int.toNat (w64 (r1.2.1 + r2.2.1))) (ByteArray.size a0))).bind fun r16 =>
 (inc r16.2.1 (ByteArray.size (ByteArray.extract a0 (Int.toNat (w64 (r1.2.1 + r2.2.1))) (ByteArray.size a0)) : Int)
 ((spec_ReadFixed.f k (ByteArray.extract (ByteArray.extract a0 (Int.toNat (w64 (r1.2.1 + r2.2.1))) (ByteArray.size a0)) (Int.toNat r16.2.1) (ByteArray.size (ByteArray.extract a0 (Int.toNat (w64 (r1.2.1 + r2.2.1))) (ByteArray.size a0)))) 4).bind fun r17 =>
 ((spec_ShowRec.f k (r1.1, (r2.1, (ByteArray.empty, (ByteArray.empty, (r16.1, (r17.1, ()))))))).bind fun r18 =>
 (bif (!(seq r18.1 a0)) then
 (some ((0, (0, (ByteArray.empty, (ByteArray.empty, (0, (0, ())))))), (false, ())))
 else
 (bif (seq a0 (⟨#[]⟩ : ByteArray)) then
 (some ((0, (0, (ByteArray.empty, (ByteArray.empty, (0, (0, ())))))), (false, ())))
 else
 (some ((r1.1, (r2.1, (ByteArray.empty, (ByteArray.empty, (r16.1, (r17.1, ())))))), (true, ()))))))))))))))))))
def f (k : Nat) := t k
end spec_ReadRec
namespace spec_ScanRecs
abbrev Rs : Type := Option ((List (Ty.den TSpot)) × Int × Unit)
abbrev T0 : Type := ByteArray → Int → List (Ty.den TSpot) → Rs
def b0 (k : Nat) (L0 : T0) : T0 := fun x0_0 x0_1 x0_2 =>
 (bif (decide (x0_1 < (ByteArray.size x0_0 : Int))) then
 (inc x0_1 (ByteArray.size x0_0 : Int)
 ((spec_Unframe.f k (ByteArray.extract x0_0 (Int.toNat x0_1) (ByteArray.size x0_0))).bind fun r1 =>
 ((spec_ReadRec.f k r1.1).bind fun r2 =>
 (bif (r1.2.1 == 0) then
 (some (x0_2, (x0_1, ())))
 else
 (bif (!r2.2.1) then
 (some (x0_2, (x0_1, ())))
 else
 (rm (Ty.bytes TSpot) (List.length x0_2 + 1)
 (L0 x0_0 (w64 (x0_1 + r1.2.1)) (x0_2 ++ [(x0_1, (r1.2.1, (r2.1, ())))]))))))))
 else
 (some (x0_2, (x0_1, ()))))
def l0 (k : Nat) : Nat → T0
  | 0 => fun _ _ _ => none
  | n + 1 => b0 k (l0 k n)
def t (k : Nat) (L0 : T0) (a0 : ByteArray) : Rs :=
 (L0 a0 0 [])
def f (k : Nat) := t k (l0 k k)
end spec_ScanRecs
namespace spec_Truncate
abbrev Rs : Type := Option ((Ty.den TDisk) × Int × Unit)
def t (k : Nat) (a0 : Ty.den TDisk) (a1 : ByteArray) (a2 : Int) : Rs :=
 ((spec_l3Begin.f k a0).bind fun r1 =>
 (bif (r1.2.1 != 0) then
 (some r1)
 else
 ((spec_l3Find.f k a0 a1).bind fun r2 =>
 (bif (decide (r2.1 < 0)) then
 (some (r1.1, (3, ())))
 else
 (inb r2.1 (List.length a0.1 : Int)
 ((spec_l1In.f k a2 0 (ByteArray.size (List.getD a0.1 (Int.toNat r2.1) (Ty.dflt TPair)).2.1 : Int)).bind fun r3 =>
 (bif (!r3.1) then
 (some (r1.1, (5, ())))
 else
 (inb r2.1 (List.length a0.1 : Int)
 (inc a2 (ByteArray.size (List.getD a0.1 (Int.toNat r2.1) (Ty.dflt TPair)).2.1 : Int)
 (inb r2.1 (List.length r1.1.1 : Int)
 (let l4 := (List.set r1.1.1 (Int.toNat r2.1) ((List.getD r1.1.1 (Int.toNat r2.1) (Ty.dflt TPair)).1, ((ByteArray.extract (List.getD a0.1 (Int.toNat r2.1) (Ty.dflt TPair)).2.1 0 (Int.toNat a2)), (List.getD r1.1.1 (Int.toNat r2.1) (Ty.dflt TPair)).2.2)));
 (inb r2.1 (List.length a0.1 : Int)
 (inb r2.1 (List.length l4 : Int)
 (let l5 := (List.set l4 (Int.toNat r2.1) ((List.getD l4 (Int.toNat r2.1) (Ty.dflt TPair)).1, ((List.getD l4 (Int.toNat r2.1) (Ty.dflt TPair)).2.1, ((if a2 < (List.getD a0.1 (Int.toNat r2.1) (Ty.dflt TPair)).2.2.1 then a2 else (List.getD a0.1 (Int.toNat r2.1) (Ty.dflt TPair)).2.2.1), (List.getD l4 (Int.toNat r2.1) (Ty.dflt TPair)).2.2.2))));
 (some ((l5, r1.1.2), (0, ())))))))))))))))))
def f (k : Nat) := t k
end spec_Truncate
namespace spec_l10Vars
abbrev Rs : Type := Option ((List Int) × Int × Unit)
abbrev T0 : Type := ByteArray → Int → Int → Int → List Int → Rs
def b0 (k : Nat) (L0 : T0) : T0 := fun x0_0 x0_1 x0_2 x0_3 x0_4 =>
 (bif (decide (x0_3 < x0_2)) then
 (inc x0_1 (ByteArray.size x0_0 : Int)
 ((spec_ReadVar.f k (ByteArray.extract x0_0 (Int.toNat x0_1) (ByteArray.size x0_0))).bind fun r1 =>
 (bif (r1.2.1 == 0) then
 (mks (Ty.bytes (.int .i64)) x0_2
 (some ((List.replicate (Int.toNat x0_2) (Ty.dflt (.int .i64))), ((-1), ()))))
 else
 (rm (Ty.bytes (.int .i64)) (List.length x0_4 + 1)
 (L0 x0_0 (w64 (x0_1 + r1.2.1)) x0_2 (w64 (x0_3 + 1)) (x0_4 ++ [r1.1]))))))
 else
 (some (x0_4, (x0_1, ()))))
def l0 (k : Nat) : Nat → T0
  | 0 => fun _ _ _ _ _ => none
  | n + 1 => b0 k (l0 k n)
def t (k : Nat) (L0 : T0) (a0 : ByteArray) (a1 : Int) (a2 : Int) : Rs :=
 (L0 a0 a1 a2 0 [])
def f (k : Nat) := t k (l0 k k)
end spec_l10Vars
namespace spec_DirOk
abbrev Rs : Type := Option (Bool × Unit)
abbrev T0 : Type := List (Ty.den TEntry) → Int → Rs
def b0 (k : Nat) (L0 : T0) : T0 := fun x0_0 x0_1 =>
 (bif (decide (x0_1 < (List.length x0_0 : Int))) then
 (inb x0_1 (List.length x0_0 : Int)
 ((spec_KeyOk.f k (List.getD x0_0 (Int.toNat x0_1) (Ty.dflt TEntry)).1).bind fun r1 =>
 (bif (!r1.1) then
 (some (false, ()))
 else
 ((spec_l1In.f k (List.getD x0_0 (Int.toNat x0_1) (Ty.dflt TEntry)).2.1 1 100000).bind fun r2 =>
 (bif (!r2.1) then
 (some (false, ()))
 else
 (bif (decide ((List.getD x0_0 (Int.toNat x0_1) (Ty.dflt TEntry)).2.2.1 < 0)) then
 (some (false, ()))
 else
 ((spec_l1In.f k (List.getD x0_0 (Int.toNat x0_1) (Ty.dflt TEntry)).2.2.2.1 1 210).bind fun r3 =>
 (bif (!r3.1) then
 (some (false, ()))
 else
 ((spec_l1In.f k (List.getD x0_0 (Int.toNat x0_1) (Ty.dflt TEntry)).2.2.2.2.1 1 1000000).bind fun r4 =>
 (bif (!r4.1) then
 (some (false, ()))
 else
 (bif (decide (x0_1 > 0)) then
 (inb (w64 (x0_1 - 1)) (List.length x0_0 : Int)
 (bif ((sls (List.getD x0_0 (Int.toNat x0_1) (Ty.dflt TEntry)).1 (List.getD x0_0 (Int.toNat (w64 (x0_1 - 1))) (Ty.dflt TEntry)).1) || (seq (List.getD x0_0 (Int.toNat x0_1) (Ty.dflt TEntry)).1 (List.getD x0_0 (Int.toNat (w64 (x0_1 - 1))) (Ty.dflt TEntry)).1)) then
 (some (false, ()))
 else
 (L0 x0_0 (w64 (x0_1 + 1)))))
 else
 (L0 x0_0 (w64 (x0_1 + 1))))))))))))))
 else
 (some (true, ())))
def l0 (k : Nat) : Nat → T0
  | 0 => fun _ _ => none
  | n + 1 => b0 k (l0 k n)
def t (k : Nat) (L0 : T0) (a0 : List (Ty.den TEntry)) : Rs :=
 (bif (decide ((List.length a0 : Int) > 20)) then
 (some (false, ()))
 else
 (L0 a0 0))
def f (k : Nat) := t k (l0 k k)
end spec_DirOk
namespace spec_l10Ok
abbrev Rs : Type := Option (Bool × Unit)
abbrev T0 : Type := Int → Int → Int → List (Ty.den TEntry) → Rs
def b0 (k : Nat) (L0 : T0) : T0 := fun x0_0 x0_1 x0_2 x0_3 =>
 (bif (decide (x0_0 < (List.length x0_3 : Int))) then
 (inb x0_0 (List.length x0_3 : Int)
 (inb 0 (List.length x0_3 : Int)
 (bif ((List.getD x0_3 (Int.toNat x0_0) (Ty.dflt TEntry)).2.1 != (List.getD x0_3 0 (Ty.dflt TEntry)).2.1) then
 (some (false, ()))
 else
 (inb x0_0 (List.length x0_3 : Int)
 (bif (decide ((List.getD x0_3 (Int.toNat x0_0) (Ty.dflt TEntry)).2.2.1 > 100000)) then
 (some (false, ()))
 else
 (L0 (w64 (x0_0 + 1)) x0_1 x0_2 x0_3))))))
 else
 (some (true, ())))
def l0 (k : Nat) : Nat → T0
  | 0 => fun _ _ _ _ => none
  | n + 1 => b0 k (l0 k n)
def t (k : Nat) (L0 : T0) (a0 : Ty.den THint) : Rs :=
 ((spec_l1In.f k a0.1 0 100000).bind fun r1 =>
 (bif (!r1.1) then
 (some (false, ()))
 else
 ((spec_l1In.f k a0.2.1 0 1000000).bind fun r2 =>
 (bif (!r2.1) then
 (some (false, ()))
 else
 ((spec_DirOk.f k a0.2.2.1).bind fun r3 =>
 (bif (!r3.1) then
 (some (false, ()))
 else
 (L0 0 a0.1 a0.2.1 a0.2.2.1)))))))
def f (k : Nat) := t k (l0 k k)
end spec_l10Ok
namespace spec_ShowHint
abbrev Rs : Type := Option (ByteArray × Unit)
abbrev T0 : Type := ByteArray → Int → Int → Int → List (Ty.den TEntry) → Rs
def b0 (k : Nat) (L0 : T0) : T0 := fun x0_0 x0_1 x0_2 x0_3 x0_4 =>
 (bif (decide (x0_1 < (List.length x0_4 : Int))) then
 (inb x0_1 (List.length x0_4 : Int)
 ((spec_Var.f k (ByteArray.size (List.getD x0_4 (Int.toNat x0_1) (Ty.dflt TEntry)).1 : Int)).bind fun r5 =>
 (cat x0_0 r5.1
 (cat (x0_0 ++ r5.1) (List.getD x0_4 (Int.toNat x0_1) (Ty.dflt TEntry)).1
 ((spec_Var.f k (List.getD x0_4 (Int.toNat x0_1) (Ty.dflt TEntry)).2.1).bind fun r6 =>
 (cat ((x0_0 ++ r5.1) ++ (List.getD x0_4 (Int.toNat x0_1) (Ty.dflt TEntry)).1) r6.1
 ((spec_Var.f k (List.getD x0_4 (Int.toNat x0_1) (Ty.dflt TEntry)).2.2.1).bind fun r7 =>
 (cat (((x0_0 ++ r5.1) ++ (List.getD x0_4 (Int.toNat x0_1) (Ty.dflt TEntry)).1) ++ r6.1) r7.1
 ((spec_Var.f k (List.getD x0_4 (Int.toNat x0_1) (Ty.dflt TEntry)).2.2.2.1).bind fun r8 =>
 (cat ((((x0_0 ++ r5.1) ++ (List.getD x0_4 (Int.toNat x0_1) (Ty.dflt TEntry)).1) ++ r6.1) ++ r7.1) r8.1
 ((spec_Var.f k (List.getD x0_4 (Int.toNat x0_1) (Ty.dflt TEntry)).2.2.2.2.1).bind fun r9 =>
 (cat (((((x0_0 ++ r5.1) ++ (List.getD x0_4 (Int.toNat x0_1) (Ty.dflt TEntry)).1) ++ r6.1) ++ r7.1) ++ r8.1) r9.1
 (L0 ((((((x0_0 ++ r5.1) ++ (List.getD x0_4 (Int.toNat x0_1) (Ty.dflt TEntry)).1) ++ r6.1) ++ r7.1) ++ r8.1) ++ r9.1) (w64 (x0_1 + 1)) x0_2 x0_3 x0_4)))))))))))))
 else
 ((spec_Crc.f k x0_0).bind fun r10 =>
 ((spec_Fixed.f k r10.1 4).bind fun r11 =>
 (cat r11.1 x0_0
 (some ((r11.1 ++ x0_0), ()))))))
def l0 (k : Nat) : Nat → T0
  | 0 => fun _ _ _ _ _ => none
  | n + 1 => b0 k (l0 k n)
def t (k : Nat) (L0 : T0) (a0 : Ty.den THint) : Rs :=
 ((spec_l10Ok.f k a0).bind fun r1 =>
 (bif (!r1.1) then
 (some ((⟨#[]⟩ : ByteArray), ()))
 else
 ((spec_Var.f k a0.1).bind fun r2 =>
 ((spec_Var.f k a0.2.1).bind fun r3 =>
 (cat r2.1 r3.1
 ((spec_Var.f k (List.length a0.2.2.1 : Int)).bind fun r4 =>
 (cat (r2.1 ++ r3.1) r4.1
 (L0 ((r2.1 ++ r3.1) ++ r4.1) 0 a0.1 a0.2.1 a0.2.2.1))))))))
def f (k : Nat) := t k (l0 k k)
end spec_ShowHint
namespace spec_ReadHint
abbrev Rs : Type := Option ((Ty.den THint) × Bool × Unit)
abbrev T0 : Type := ByteArray → Int → Int → List (Ty.den TEntry) → Int → Int → List Int → List (Ty.den TEntry) → Int → Int → Rs
def b0 (k : Nat) (L0 : T0) : T0 := fun x0_0 x0_1 x0_2 x0_3 x0_4 x0_5 x0_6 x0_7 x0_8 x0_9 =>
 (inb 2 (List.length x0_6 : Int)
 (bif (decide (x0_2 < (List.getD x0_6 2 (Ty.dflt (.int .i64))))) then
 (inc x0_1 (ByteArray.size x0_0 : Int)
 ((spec_l5Text.f k (ByteArray.extract x0_0 (Int.toNat x0_1) (ByteArray.size x0_0))).bind fun r2 =>
 ((spec_l10Vars.f k r2.2.1 0 4).bind fun r3 =>
 (bif (!r2.2.2.1) then
 (some ((0, (0, ([], ()))), (false, ())))
 else
 (bif (decide (r3.2.1 < 0)) then
 (some ((0, (0, ([], ()))), (false, ())))
 else
 (inb 0 (List.length r3.1 : Int)
 (inb 1 (List.length r3.1 : Int)
 (inb 2 (List.length r3.1 : Int)
 (inb 3 (List.length r3.1 : Int)
 (rm (Ty.bytes TEntry) (List.length x0_7 + 1)
 (L0 x0_0 (w64 ((w64 ((ByteArray.size x0_0 : Int) - (ByteArray.size r2.2.1 : Int))) + r3.2.1)) (w64 (x0_2 + 1)) x0_3 x0_4 x0_5 x0_6 (x0_7 ++ [(r2.1, ((List.getD r3.1 0 (Ty.dflt (.int .i64))), ((List.getD r3.1 1 (Ty.dflt (.int .i64))), ((List.getD r3.1 2 (Ty.dflt (.int .i64))), ((List.getD r3.1 3 (Ty.dflt (.int .i64))), ())))))]) x0_8 x0_9)))))))))))
 else
 ((spec_ShowHint.f k (x0_8, (x0_9, (x0_7, ())))).bind fun r4 =>
 (bif (!(seq r4.1 x0_0)) then
 (some ((0, (0, ([], ()))), (false, ())))
 else
 (some ((x0_8, (x0_9, (x0_7, ()))), (true, ())))))))
def l0 (k : Nat) : Nat → T0
  | 0 => fun _ _ _ _ _ _ _ _ _ _ => none
  | n + 1 => b0 k (l0 k n)
def t (k : Nat) (L0 : T0) (a0 : ByteArray) : Rs :=
 (bif (decide ((ByteArray.size a0 : Int) < 4)) then
 (some ((0, (0, ([], ()))), (false, ())))
 else
 ((spec_l10Vars.f k a0 4 3).bind fun r1 =>
 (bif (decide (r1.2.1 < 0)) then
 (some ((0, (0, ([], ()))), (false, ())))
 else
 (inb 2 (List.length r1.1 : Int)
 (bif (decide ((List.getD r1.1 2 (Ty.dflt (.int .i64))) > 20)) then
 (some ((0, (0, ([], ()))), (false, ())))
 else
 (inb 0 (List.length r1.1 : Int)
 (inb 1 (List.length r1.1 : Int)
 (L0 a0 r1.2.1 0 [] 0 0 r1.1 [] (List.getD r1.1 0 (Ty.dflt (.int .i64))) (List.getD r1.1 1 (Ty.dflt (.int .i64)))))))))))
def f (k : Nat) := t k (l0 k k)
end spec_ReadHint
namespace spec_SumOf
abbrev Rs : Type := Option (Int × Unit)
abbrev T0 : Type := List (Ty.den TRec) → ByteArray → Int → Rs
def b0 (k : Nat) (L0 : T0) : T0 := fun x0_0 x0_1 x0_2 =>
 (bif (decide (x0_2 < (List.length x0_0 : Int))) then
 (inb x0_2 (List.length x0_0 : Int)
 ((spec_ShowRec.f k (List.getD x0_0 (Int.toNat x0_2) (Ty.dflt TRec))).bind fun r1 =>
 (cat x0_1 r1.1
 (L0 x0_0 (x0_1 ++ r1.1) (w64 (x0_2 + 1))))))
 else
 ((spec_Crc.f k x0_1).bind fun r2 =>
 (some r2)))
def l0 (k : Nat) : Nat → T0
  | 0 => fun _ _ _ => none
  | n + 1 => b0 k (l0 k n)
def t (k : Nat) (L0 : T0) (a0 : List (Ty.den TRec)) : Rs :=
 (L0 a0 (⟨#[]⟩ : ByteArray) 0)
def f (k : Nat) := t k (l0 k k)
end spec_SumOf
namespace spec_HintOf
abbrev Rs : Type := Option ((Ty.den THint) × Bool × Unit)
abbrev T0 : Type := Int → Int → List (Ty.den TEntry) → Int → Int → List (Ty.den TSpot) → List (Ty.den TEntry) → Int → Int → List (Ty.den TRec) → Rs
def b0 (k : Nat) (L0 : T0) : T0 := fun x0_0 x0_1 x0_2 x0_3 x0_4 x0_5 x0_6 x0_7 x0_8 x0_9 =>
 (bif (decide ((w64 (x0_1 + 1)) < (List.length x0_5 : Int))) then
 (inb x0_1 (List.length x0_5 : Int)
 (bif ((List.getD x0_5 (Int.toNat x0_1) (Ty.dflt TSpot)).2.2.1.1 != 4) then
 (some ((0, (0, ([], ()))), (false, ())))
 else
 (bif (decide ((List.getD x0_5 (Int.toNat x0_1) (Ty.dflt TSpot)).2.2.1.2.1 > x0_8)) then
 (some ((0, (0, ([], ()))), (false, ())))
 else
 (bif (decide (x0_1 > 0)) then
 (inb (w64 (x0_1 - 1)) (List.length x0_5 : Int)
 (bif ((sls (List.getD x0_5 (Int.toNat x0_1) (Ty.dflt TSpot)).2.2.1.2.2.1 (List.getD x0_5 (Int.toNat (w64 (x0_1 - 1))) (Ty.dflt TSpot)).2.2.1.2.2.1) || (seq (List.getD x0_5 (Int.toNat x0_1) (Ty.dflt TSpot)).2.2.1.2.2.1 (List.getD x0_5 (Int.toNat (w64 (x0_1 - 1))) (Ty.dflt TSpot)).2.2.1.2.2.1)) then
 (some ((0, (0, ([], ()))), (false, ())))
 else
 (rm (Ty.bytes TRec) (List.length x0_9 + 1)
 (inb x0_1 (List.length x0_5 : Int)
 (inb x0_1 (List.length x0_5 : Int)
 (rm (Ty.bytes TEntry) (List.length x0_6 + 1)
 (L0 x0_0 (w64 (x0_1 + 1)) x0_2 x0_3 x0_4 x0_5 (x0_6 ++ [((List.getD x0_5 (Int.toNat x0_1) (Ty.dflt TSpot)).2.2.1.2.2.1, (x0_0, ((List.getD x0_5 (Int.toNat x0_1) (Ty.dflt TSpot)).1, ((List.getD x0_5 (Int.toNat x0_1) (Ty.dflt TSpot)).2.1, ((List.getD x0_5 (Int.toNat x0_1) (Ty.dflt TSpot)).2.2.1.2.1, ())))))]) x0_7 x0_8 (x0_9 ++ [(List.getD x0_5 (Int.toNat x0_1) (Ty.dflt TSpot)).2.2.1]))))))))
 else
 (rm (Ty.bytes TRec) (List.length x0_9 + 1)
 (inb x0_1 (List.length x0_5 : Int)
 (inb x0_1 (List.length x0_5 : Int)
 (rm (Ty.bytes TEntry) (List.length x0_6 + 1)
 (L0 x0_0 (w64 (x0_1 + 1)) x0_2 x0_3 x0_4 x0_5 (x0_6 ++ [((List.getD x0_5 (Int.toNat x0_1) (Ty.dflt TSpot)).2.2.1.2.2.1, (x0_0, ((List.getD x0_5 (Int.toNat x0_1) (Ty.dflt TSpot)).1, ((List.getD x0_5 (Int.toNat x0_1) (Ty.dflt TSpot)).2.1, ((List.getD x0_5 (Int.toNat x0_1) (Ty.dflt TSpot)).2.2.1.2.1, ())))))]) x0_7 x0_8 (x0_9 ++ [(List.getD x0_5 (Int.toNat x0_1) (Ty.dflt TSpot)).2.2.1]))))))))))
 else
 (inb (w64 ((List.length x0_5 : Int) - 1)) (List.length x0_5 : Int)
 (bif ((List.getD x0_5 (Int.toNat (w64 ((List.length x0_5 : Int) - 1))) (Ty.dflt TSpot)).2.2.1.2.2.2.2.1 != (List.length x0_9 : Int)) then
 (some ((0, (0, ([], ()))), (false, ())))
 else
 ((spec_SumOf.f k x0_9).bind fun r3 =>
 (bif ((List.getD x0_5 (Int.toNat (w64 ((List.length x0_5 : Int) - 1))) (Ty.dflt TSpot)).2.2.1.2.2.2.2.2.1 != r3.1) then
 (some ((0, (0, ([], ()))), (false, ())))
 else
 (some ((x0_7, (x0_8, (x0_6, ()))), (true, ()))))))))
def l0 (k : Nat) : Nat → T0
  | 0 => fun _ _ _ _ _ _ _ _ _ _ => none
  | n + 1 => b0 k (l0 k n)
def t (k : Nat) (L0 : T0) (a0 : Int) (a1 : ByteArray) : Rs :=
 ((spec_ScanRecs.f k a1).bind fun r1 =>
 (bif (r1.2.1 != (ByteArray.size a1 : Int)) then
 (some ((0, (0, ([], ()))), (false, ())))
 else
 (bif ((List.length r1.1 : Int) == 0) then
 (some ((0, (0, ([], ()))), (false, ())))
 else
 (inb (w64 ((List.length r1.1 : Int) - 1)) (List.length r1.1 : Int)
 (bif ((List.getD r1.1 (Int.toNat (w64 ((List.length r1.1 : Int) - 1))) (Ty.dflt TSpot)).2.2.1.1 != 5) then
 (some ((0, (0, ([], ()))), (false, ())))
 else
 ((spec_SegName.f k a0).bind fun r2 =>
 (bif (seq r2.1 (⟨#[]⟩ : ByteArray)) then
 (some ((0, (0, ([], ()))), (false, ())))
 else
 (inb (w64 ((List.length r1.1 : Int) - 1)) (List.length r1.1 : Int)
 (L0 a0 0 [] 0 0 r1.1 [] (ByteArray.size a1 : Int) (List.getD r1.1 (Int.toNat (w64 ((List.length r1.1 : Int) - 1))) (Ty.dflt TSpot)).2.2.1.2.1 [])))))))))
def f (k : Nat) := t k (l0 k k)
end spec_HintOf
namespace spec_SameDir
abbrev Rs : Type := Option (Bool × Unit)
abbrev T0 : Type := List (Ty.den TEntry) → List (Ty.den TEntry) → Int → Rs
def b0 (k : Nat) (L0 : T0) : T0 := fun x0_0 x0_1 x0_2 =>
 (bif (decide (x0_2 < (List.length x0_0 : Int))) then
 (inb x0_2 (List.length x0_0 : Int)
 (inb x0_2 (List.length x0_1 : Int)
 (bif (!((seq (List.getD x0_0 (Int.toNat x0_2) (Ty.dflt TEntry)).1 (List.getD x0_1 (Int.toNat x0_2) (Ty.dflt TEntry)).1) && (((List.getD x0_0 (Int.toNat x0_2) (Ty.dflt TEntry)).2.1 == (List.getD x0_1 (Int.toNat x0_2) (Ty.dflt TEntry)).2.1) && (((List.getD x0_0 (Int.toNat x0_2) (Ty.dflt TEntry)).2.2.1 == (List.getD x0_1 (Int.toNat x0_2) (Ty.dflt TEntry)).2.2.1) && (((List.getD x0_0 (Int.toNat x0_2) (Ty.dflt TEntry)).2.2.2.1 == (List.getD x0_1 (Int.toNat x0_2) (Ty.dflt TEntry)).2.2.2.1) && ((List.getD x0_0 (Int.toNat x0_2) (Ty.dflt TEntry)).2.2.2.2.1 == (List.getD x0_1 (Int.toNat x0_2) (Ty.dflt TEntry)).2.2.2.2.1)))))) then
 (some (false, ()))
 else
 (L0 x0_0 x0_1 (w64 (x0_2 + 1))))))
 else
 (some (true, ())))
def l0 (k : Nat) : Nat → T0
  | 0 => fun _ _ _ => none
  | n + 1 => b0 k (l0 k n)
def t (k : Nat) (L0 : T0) (a0 : List (Ty.den TEntry)) (a1 : List (Ty.den TEntry)) : Rs :=
 (bif ((List.length a0 : Int) != (List.length a1 : Int)) then
 (some (false, ()))
 else
 (L0 a0 a1 0))
def f (k : Nat) := t k (l0 k k)
end spec_SameDir
namespace spec_HintFits
abbrev Rs : Type := Option (Bool × Unit)
def t (k : Nat) (a0 : Int) (a1 : ByteArray) (a2 : Ty.den THint) : Rs :=
 ((spec_HintOf.f k a0 a1).bind fun r1 =>
 (bif r1.2.1 then
 (bif (r1.1.1 == a2.1) then
 (bif (r1.1.2.1 == a2.2.1) then
 ((spec_SameDir.f k r1.1.2.2.1 a2.2.2.1).bind fun r2 =>
 (some r2))
 else
 (some (false, ())))
 else
 (some (false, ())))
 else
 (some (false, ()))))
def f (k : Nat) := t k
end spec_HintFits
namespace spec_l11Places
abbrev Rs : Type := Option ((List (Ty.den TPlace)) × Unit)
abbrev T0 : Type := Int → Int → List (Ty.den TPlace) → List (Ty.den TSpot) → Rs
def b0 (k : Nat) (L0 : T0) : T0 := fun x0_0 x0_1 x0_2 x0_3 =>
 (bif (decide (x0_1 < (List.length x0_3 : Int))) then
 (inb x0_1 (List.length x0_3 : Int)
 (inb x0_1 (List.length x0_3 : Int)
 (inb x0_1 (List.length x0_3 : Int)
 (rm (Ty.bytes TPlace) (List.length x0_2 + 1)
 (L0 x0_0 (w64 (x0_1 + 1)) (x0_2 ++ [(x0_0, ((List.getD x0_3 (Int.toNat x0_1) (Ty.dflt TSpot)).1, ((List.getD x0_3 (Int.toNat x0_1) (Ty.dflt TSpot)).2.1, (List.getD x0_3 (Int.toNat x0_1) (Ty.dflt TSpot)).2.2)))]) x0_3)))))
 else
 (some (x0_2, ())))
def l0 (k : Nat) : Nat → T0
  | 0 => fun _ _ _ _ => none
  | n + 1 => b0 k (l0 k n)
def t (k : Nat) (L0 : T0) (a0 : Int) (a1 : ByteArray) : Rs :=
 ((spec_ScanRecs.f k a1).bind fun r1 =>
 (L0 a0 0 [] r1.1))
def f (k : Nat) := t k (l0 k k)
end spec_l11Places
namespace spec_l9Of
abbrev Rs : Type := Option ((List (Ty.den TPlace)) × Unit)
abbrev T0 : Type := List (Ty.den TPlace) → Int → Int → Int → List (Ty.den TPlace) → Rs
def b0 (k : Nat) (L0 : T0) : T0 := fun x0_0 x0_1 x0_2 x0_3 x0_4 =>
 (bif (decide (x0_3 < x0_1)) then
 (inb x0_3 (List.length x0_0 : Int)
 (bif ((List.getD x0_0 (Int.toNat x0_3) (Ty.dflt TPlace)).2.2.2.1.2.1 == x0_2) then
 (bif ((List.getD x0_0 (Int.toNat x0_3) (Ty.dflt TPlace)).2.2.2.1.1 == 3) then
 (bif ((List.getD x0_0 (Int.toNat x0_3) (Ty.dflt TPlace)).2.2.2.1.2.1 == x0_2) then
 (bif ((List.getD x0_0 (Int.toNat x0_3) (Ty.dflt TPlace)).2.2.2.1.1 == 1) then
 (inb x0_3 (List.length x0_0 : Int)
 (rm (Ty.bytes TPlace) (0 + 1)
 (L0 x0_0 x0_1 x0_2 (w64 (x0_3 + 1)) ([] ++ [(List.getD x0_0 (Int.toNat x0_3) (Ty.dflt TPlace))]))))
 else
 (bif ((List.getD x0_0 (Int.toNat x0_3) (Ty.dflt TPlace)).2.2.2.1.1 == 2) then
 (inb x0_3 (List.length x0_0 : Int)
 (rm (Ty.bytes TPlace) (0 + 1)
 (L0 x0_0 x0_1 x0_2 (w64 (x0_3 + 1)) ([] ++ [(List.getD x0_0 (Int.toNat x0_3) (Ty.dflt TPlace))]))))
 else
 (L0 x0_0 x0_1 x0_2 (w64 (x0_3 + 1)) [])))
 else
 (L0 x0_0 x0_1 x0_2 (w64 (x0_3 + 1)) []))
 else
 (bif ((List.getD x0_0 (Int.toNat x0_3) (Ty.dflt TPlace)).2.2.2.1.2.1 == x0_2) then
 (bif ((List.getD x0_0 (Int.toNat x0_3) (Ty.dflt TPlace)).2.2.2.1.1 == 1) then
 (inb x0_3 (List.length x0_0 : Int)
 (rm (Ty.bytes TPlace) (List.length x0_4 + 1)
 (L0 x0_0 x0_1 x0_2 (w64 (x0_3 + 1)) (x0_4 ++ [(List.getD x0_0 (Int.toNat x0_3) (Ty.dflt TPlace))]))))
 else
 (bif ((List.getD x0_0 (Int.toNat x0_3) (Ty.dflt TPlace)).2.2.2.1.1 == 2) then
 (inb x0_3 (List.length x0_0 : Int)
 (rm (Ty.bytes TPlace) (List.length x0_4 + 1)
 (L0 x0_0 x0_1 x0_2 (w64 (x0_3 + 1)) (x0_4 ++ [(List.getD x0_0 (Int.toNat x0_3) (Ty.dflt TPlace))]))))
 else
 (L0 x0_0 x0_1 x0_2 (w64 (x0_3 + 1)) x0_4)))
 else
 (L0 x0_0 x0_1 x0_2 (w64 (x0_3 + 1)) x0_4)))
 else
 (bif ((List.getD x0_0 (Int.toNat x0_3) (Ty.dflt TPlace)).2.2.2.1.2.1 == x0_2) then
 (bif ((List.getD x0_0 (Int.toNat x0_3) (Ty.dflt TPlace)).2.2.2.1.1 == 1) then
 (inb x0_3 (List.length x0_0 : Int)
 (rm (Ty.bytes TPlace) (List.length x0_4 + 1)
 (L0 x0_0 x0_1 x0_2 (w64 (x0_3 + 1)) (x0_4 ++ [(List.getD x0_0 (Int.toNat x0_3) (Ty.dflt TPlace))]))))
 else
 (bif ((List.getD x0_0 (Int.toNat x0_3) (Ty.dflt TPlace)).2.2.2.1.1 == 2) then
 (inb x0_3 (List.length x0_0 : Int)
 (rm (Ty.bytes TPlace) (List.length x0_4 + 1)
 (L0 x0_0 x0_1 x0_2 (w64 (x0_3 + 1)) (x0_4 ++ [(List.getD x0_0 (Int.toNat x0_3) (Ty.dflt TPlace))]))))
 else
 (L0 x0_0 x0_1 x0_2 (w64 (x0_3 + 1)) x0_4)))
 else
 (L0 x0_0 x0_1 x0_2 (w64 (x0_3 + 1)) x0_4))))
 else
 (some (x0_4, ())))
def l0 (k : Nat) : Nat → T0
  | 0 => fun _ _ _ _ _ => none
  | n + 1 => b0 k (l0 k n)
def t (k : Nat) (L0 : T0) (a0 : List (Ty.den TPlace)) (a1 : Int) (a2 : Int) : Rs :=
 (L0 a0 a1 a2 0 [])
def f (k : Nat) := t k (l0 k k)
end spec_l9Of
namespace spec_l9Recs
abbrev Rs : Type := Option ((List (Ty.den TRec)) × Unit)
abbrev T0 : Type := List (Ty.den TPlace) → Int → List (Ty.den TRec) → Rs
def b0 (k : Nat) (L0 : T0) : T0 := fun x0_0 x0_1 x0_2 =>
 (bif (decide (x0_1 < (List.length x0_0 : Int))) then
 (inb x0_1 (List.length x0_0 : Int)
 (rm (Ty.bytes TRec) (List.length x0_2 + 1)
 (L0 x0_0 (w64 (x0_1 + 1)) (x0_2 ++ [(List.getD x0_0 (Int.toNat x0_1) (Ty.dflt TPlace)).2.2.2.1]))))
 else
 (some (x0_2, ())))
def l0 (k : Nat) : Nat → T0
  | 0 => fun _ _ _ => none
  | n + 1 => b0 k (l0 k n)
def t (k : Nat) (L0 : T0) (a0 : List (Ty.den TPlace)) : Rs :=
 (L0 a0 0 [])
def f (k : Nat) := t k (l0 k k)
end spec_l9Recs
namespace spec_l9Fits
abbrev Rs : Type := Option (Bool × Unit)
def t (k : Nat) (a0 : Ty.den TRec) (a1 : List (Ty.den TPlace)) : Rs :=
 (bif (a0.2.2.2.2.1 == (List.length a1 : Int)) then
 ((spec_l9Recs.f k a1).bind fun r1 =>
 ((spec_SumOf.f k r1.1).bind fun r2 =>
 (some ((a0.2.2.2.2.2.1 == r2.1), ()))))
 else
 (some (false, ())))
def f (k : Nat) := t k
end spec_l9Fits
namespace spec_DirDrop
abbrev Rs : Type := Option ((List (Ty.den TEntry)) × Unit)
abbrev T0 : Type := List (Ty.den TEntry) → ByteArray → Int → List (Ty.den TEntry) → Rs
def b0 (k : Nat) (L0 : T0) : T0 := fun x0_0 x0_1 x0_2 x0_3 =>
 (bif (decide (x0_2 < (List.length x0_0 : Int))) then
 (inb x0_2 (List.length x0_0 : Int)
 (bif (!(seq (List.getD x0_0 (Int.toNat x0_2) (Ty.dflt TEntry)).1 x0_1)) then
 (inb x0_2 (List.length x0_0 : Int)
 (rm (Ty.bytes TEntry) (List.length x0_3 + 1)
 (L0 x0_0 x0_1 (w64 (x0_2 + 1)) (x0_3 ++ [(List.getD x0_0 (Int.toNat x0_2) (Ty.dflt TEntry))]))))
 else
 (L0 x0_0 x0_1 (w64 (x0_2 + 1)) x0_3)))
 else
 (some (x0_3, ())))
def l0 (k : Nat) : Nat → T0
  | 0 => fun _ _ _ _ => none
  | n + 1 => b0 k (l0 k n)
def t (k : Nat) (L0 : T0) (a0 : List (Ty.den TEntry)) (a1 : ByteArray) : Rs :=
 (L0 a0 a1 0 [])
def f (k : Nat) := t k (l0 k k)
end spec_DirDrop
namespace spec_DirPut
abbrev Rs : Type := Option ((List (Ty.den TEntry)) × Unit)
abbrev T0 : Type := List (Ty.den TEntry) → Bool → Int → ByteArray → Int → Int → Int → Int → List (Ty.den TEntry) → Rs
def b0 (k : Nat) (L0 : T0) : T0 := fun x0_0 x0_1 x0_2 x0_3 x0_4 x0_5 x0_6 x0_7 x0_8 =>
 (bif (decide (x0_2 < (List.length x0_0 : Int))) then
 (inb x0_2 (List.length x0_0 : Int)
 (bif (seq (List.getD x0_0 (Int.toNat x0_2) (Ty.dflt TEntry)).1 x0_3) then
 (L0 x0_0 x0_1 (w64 (x0_2 + 1)) x0_3 x0_4 x0_5 x0_6 x0_7 x0_8)
 else
 (bif (!x0_1) then
 (inb x0_2 (List.length x0_0 : Int)
 (bif (!((sls (List.getD x0_0 (Int.toNat x0_2) (Ty.dflt TEntry)).1 x0_3) || (seq (List.getD x0_0 (Int.toNat x0_2) (Ty.dflt TEntry)).1 x0_3))) then
 (rm (Ty.bytes TEntry) (List.length x0_8 + 1)
 (inb x0_2 (List.length x0_0 : Int)
 (rm (Ty.bytes TEntry) (List.length (x0_8 ++ [(x0_3, (x0_4, (x0_5, (x0_6, (x0_7, ())))))]) + 1)
 (L0 x0_0 true (w64 (x0_2 + 1)) x0_3 x0_4 x0_5 x0_6 x0_7 ((x0_8 ++ [(x0_3, (x0_4, (x0_5, (x0_6, (x0_7, ())))))]) ++ [(List.getD x0_0 (Int.toNat x0_2) (Ty.dflt TEntry))])))))
 else
 (inb x0_2 (List.length x0_0 : Int)
 (rm (Ty.bytes TEntry) (List.length x0_8 + 1)
 (L0 x0_0 x0_1 (w64 (x0_2 + 1)) x0_3 x0_4 x0_5 x0_6 x0_7 (x0_8 ++ [(List.getD x0_0 (Int.toNat x0_2) (Ty.dflt TEntry))]))))))
 else
 (inb x0_2 (List.length x0_0 : Int)
 (rm (Ty.bytes TEntry) (List.length x0_8 + 1)
 (L0 x0_0 x0_1 (w64 (x0_2 + 1)) x0_3 x0_4 x0_5 x0_6 x0_7 (x0_8 ++ [(List.getD x0_0 (Int.toNat x0_2) (Ty.dflt TEntry))])))))))
 else
 (bif (!x0_1) then
 (rm (Ty.bytes TEntry) (List.length x0_8 + 1)
 (some ((x0_8 ++ [(x0_3, (x0_4, (x0_5, (x0_6, (x0_7, ())))))]), ())))
 else
 (some (x0_8, ()))))
def l0 (k : Nat) : Nat → T0
  | 0 => fun _ _ _ _ _ _ _ _ _ => none
  | n + 1 => b0 k (l0 k n)
def t (k : Nat) (L0 : T0) (a0 : List (Ty.den TEntry)) (a1 : Ty.den TEntry) : Rs :=
 (L0 a0 false 0 a1.1 a1.2.1 a1.2.2.1 a1.2.2.2.1 a1.2.2.2.2.1 [])
def f (k : Nat) := t k (l0 k k)
end spec_DirPut
namespace spec_l9Put
abbrev Rs : Type := Option ((List (Ty.den TEntry)) × Unit)
def t (k : Nat) (a0 : List (Ty.den TEntry)) (a1 : Ty.den TPlace) : Rs :=
 (bif (a1.2.2.2.1.1 == 2) then
 ((spec_DirDrop.f k a0 a1.2.2.2.1.2.2.1).bind fun r1 =>
 (some r1))
 else
 ((spec_DirPut.f k a0 (a1.2.2.2.1.2.2.1, (a1.1, (a1.2.1, (a1.2.2.1, (a1.2.2.2.1.2.1, ())))))).bind fun r2 =>
 (some r2)))
def f (k : Nat) := t k
end spec_l9Put
namespace spec_l9Kept
abbrev Rs : Type := Option ((List (Ty.den TPlace)) × Unit)
abbrev T0 : Type := List (Ty.den TPlace) → Int → Int → List (Ty.den TPlace) → Rs
def b0 (k : Nat) (L0 : T0) : T0 := fun x0_0 x0_1 x0_2 x0_3 =>
 (bif (decide (x0_2 < x0_1)) then
 (inb x0_2 (List.length x0_0 : Int)
 (bif ((List.getD x0_0 (Int.toNat x0_2) (Ty.dflt TPlace)).2.2.2.1.1 == 5) then
 (inb x0_2 (List.length x0_0 : Int)
 (bif ((List.getD x0_0 (Int.toNat x0_2) (Ty.dflt TPlace)).2.2.2.1.1 == 4) then
 (inb x0_2 (List.length x0_0 : Int)
 (rm (Ty.bytes TPlace) (0 + 1)
 (L0 x0_0 x0_1 (w64 (x0_2 + 1)) ([] ++ [(List.getD x0_0 (Int.toNat x0_2) (Ty.dflt TPlace))]))))
 else
 (L0 x0_0 x0_1 (w64 (x0_2 + 1)) [])))
 else
 (inb x0_2 (List.length x0_0 : Int)
 (bif ((List.getD x0_0 (Int.toNat x0_2) (Ty.dflt TPlace)).2.2.2.1.1 == 4) then
 (inb x0_2 (List.length x0_0 : Int)
 (rm (Ty.bytes TPlace) (List.length x0_3 + 1)
 (L0 x0_0 x0_1 (w64 (x0_2 + 1)) (x0_3 ++ [(List.getD x0_0 (Int.toNat x0_2) (Ty.dflt TPlace))]))))
 else
 (L0 x0_0 x0_1 (w64 (x0_2 + 1)) x0_3)))))
 else
 (some (x0_3, ())))
def l0 (k : Nat) : Nat → T0
  | 0 => fun _ _ _ _ => none
  | n + 1 => b0 k (l0 k n)
def t (k : Nat) (L0 : T0) (a0 : List (Ty.den TPlace)) (a1 : Int) : Rs :=
 (L0 a0 a1 0 [])
def f (k : Nat) := t k (l0 k k)
end spec_l9Kept
namespace spec_Regroup
abbrev Rs : Type := Option ((Ty.den TGroup) × Unit)
abbrev T1 : Type := List (Ty.den TPlace) → Int → Int → List (Ty.den TEntry) → Int → Int → List (Ty.den TEntry) → Int → Int → List (Ty.den TPlace) → Rs
abbrev T0 : Type := List (Ty.den TPlace) → Int → List (Ty.den TEntry) → Int → Int → List (Ty.den TEntry) → Int → Int → Rs
def b1 (k : Nat) (L0 : T0) (L1 : T1) : T1 := fun x1_0 x1_1 x1_2 x1_3 x1_4 x1_5 x1_6 x1_7 x1_8 x1_9 =>
 (bif (decide (x1_2 < (List.length x1_9 : Int))) then
 (inb x1_2 (List.length x1_9 : Int)
 ((spec_l9Put.f k x1_6 (List.getD x1_9 (Int.toNat x1_2) (Ty.dflt TPlace))).bind fun r3 =>
 (L1 x1_0 x1_1 (w64 (x1_2 + 1)) x1_3 x1_4 x1_5 r3.1 x1_7 x1_8 x1_9)))
 else
 (bif (decide ((List.length x1_6 : Int) > 20)) then
 (L0 x1_0 (w64 (x1_1 + 1)) x1_3 x1_4 x1_5 x1_6 x1_7 2)
 else
 (L0 x1_0 (w64 (x1_1 + 1)) x1_3 x1_4 x1_5 x1_6 x1_7 x1_8)))
def l1 (k : Nat) (L0 : T0) : Nat → T1
  | 0 => fun _ _ _ _ _ _ _ _ _ _ => none
  | n + 1 => b1 k L0 (l1 k L0 n)
def b0 (k : Nat) (L1 : T1) (L0 : T0) : T0 := fun x0_0 x0_1 x0_2 x0_3 x0_4 x0_5 x0_6 x0_7 =>
 (bif (decide (x0_1 < (List.length x0_0 : Int))) then
 (bif (x0_7 == 0) then
 (inb x0_1 (List.length x0_0 : Int)
 (bif ((List.getD x0_0 (Int.toNat x0_1) (Ty.dflt TPlace)).2.2.2.1.1 == 3) then
 ((spec_l9Of.f k x0_0 x0_1 (List.getD x0_0 (Int.toNat x0_1) (Ty.dflt TPlace)).2.2.2.1.2.1).bind fun r1 =>
 ((spec_l9Fits.f k (List.getD x0_0 (Int.toNat x0_1) (Ty.dflt TPlace)).2.2.2.1 r1.1).bind fun r2 =>
 (bif (!r2.1) then
 (L0 x0_0 (w64 (x0_1 + 1)) x0_2 x0_3 x0_4 x0_5 (if (List.getD x0_0 (Int.toNat x0_1) (Ty.dflt TPlace)).2.2.2.1.2.1 > x0_6 then (List.getD x0_0 (Int.toNat x0_1) (Ty.dflt TPlace)).2.2.2.1.2.1 else x0_6) x0_7)
 else
 (L1 x0_0 x0_1 0 x0_2 x0_3 x0_4 x0_5 (if (List.getD x0_0 (Int.toNat x0_1) (Ty.dflt TPlace)).2.2.2.1.2.1 > x0_6 then (List.getD x0_0 (Int.toNat x0_1) (Ty.dflt TPlace)).2.2.2.1.2.1 else x0_6) x0_7 r1.1))))
 else
 (bif ((List.getD x0_0 (Int.toNat x0_1) (Ty.dflt TPlace)).2.2.2.1.1 == 5) then
 ((spec_l9Kept.f k x0_0 x0_1).bind fun r4 =>
 ((spec_l9Fits.f k (List.getD x0_0 (Int.toNat x0_1) (Ty.dflt TPlace)).2.2.2.1 r4.1).bind fun r5 =>
 (bif (!r5.1) then
 (L0 x0_0 (w64 (x0_1 + 1)) x0_2 x0_3 x0_4 x0_5 (if (List.getD x0_0 (Int.toNat x0_1) (Ty.dflt TPlace)).2.2.2.1.2.1 > x0_6 then (List.getD x0_0 (Int.toNat x0_1) (Ty.dflt TPlace)).2.2.2.1.2.1 else x0_6) 1)
 else
 (L1 x0_0 x0_1 0 x0_2 x0_3 x0_4 x0_5 (if (List.getD x0_0 (Int.toNat x0_1) (Ty.dflt TPlace)).2.2.2.1.2.1 > x0_6 then (List.getD x0_0 (Int.toNat x0_1) (Ty.dflt TPlace)).2.2.2.1.2.1 else x0_6) x0_7 r4.1))))
 else
 (L0 x0_0 (w64 (x0_1 + 1)) x0_2 x0_3 x0_4 x0_5 (if (List.getD x0_0 (Int.toNat x0_1) (Ty.dflt TPlace)).2.2.2.1.2.1 > x0_6 then (List.getD x0_0 (Int.toNat x0_1) (Ty.dflt TPlace)).2.2.2.1.2.1 else x0_6) x0_7))))
 else
 (bif (x0_7 == 0) then
 ((spec_l9Kept.f k x0_0 (List.length x0_0 : Int)).bind fun r6 =>
 (bif (decide ((List.length r6.1 : Int) > 0)) then
 (some ((x0_5, (x0_6, (1, ()))), ()))
 else
 (some ((x0_5, (x0_6, (x0_7, ()))), ()))))
 else
 (some ((x0_5, (x0_6, (x0_7, ()))), ()))))
 else
 (bif (x0_7 == 0) then
 ((spec_l9Kept.f k x0_0 (List.length x0_0 : Int)).bind fun r7 =>
 (bif (decide ((List.length r7.1 : Int) > 0)) then
 (some ((x0_5, (x0_6, (1, ()))), ()))
 else
 (some ((x0_5, (x0_6, (x0_7, ()))), ()))))
 else
 (some ((x0_5, (x0_6, (x0_7, ()))), ()))))
def l0 (k : Nat) : Nat → T0
  | 0 => fun _ _ _ _ _ _ _ _ => none
  | n + 1 => b0 k (l1 k (l0 k n) k) (l0 k n)
def t (k : Nat) (L0 : T0) (a0 : Ty.den TGroup) (a1 : List (Ty.den TPlace)) : Rs :=
 (rm (Ty.bytes TEntry) (0 + List.length a0.1)
 (L0 a1 0 [] 0 0 ([] ++ a0.1) a0.2.1 a0.2.2.1))
def f (k : Nat) := t k (l0 k k)
end spec_Regroup
namespace spec_l11Sweep_g
abbrev Rs : Type := Option ((Ty.den TDisk) × Int × Unit)
abbrev T0 : Type := Int → List (Ty.den TPair) → Int → Int → Bool → List (Ty.den TPair) → Int → Int → Bool → List ByteArray → Rs
def b0 (k : Nat) (L0 : T0) : T0 := fun x0_0 x0_1 x0_2 x0_3 x0_4 x0_5 x0_6 x0_7 x0_8 x0_9 =>
 (bif (decide (x0_0 < (List.length x0_9 : Int))) then
 (inb x0_0 (List.length x0_9 : Int)
 ((spec_Remove.f k (x0_1, (x0_2, (x0_3, (x0_4, ())))) (List.getD x0_9 (Int.toNat x0_0) (Ty.dflt .str))).bind fun r2 =>
 (bif (r2.2.1 != 0) then
 ((spec_l11Code.f k r2.2.1).bind fun r3 =>
 (some (r2.1, r3)))
 else
 (L0 (w64 (x0_0 + 1)) r2.1.1 r2.1.2.1 r2.1.2.2.1 r2.1.2.2.2.1 x0_5 x0_6 x0_7 x0_8 x0_9))))
 else
 (some ((x0_1, (x0_2, (x0_3, (x0_4, ())))), (0, ()))))
def l0 (k : Nat) : Nat → T0
  | 0 => fun _ _ _ _ _ _ _ _ _ _ => none
  | n + 1 => b0 k (l0 k n)
def t (k : Nat) (L0 : T0) (a0 : Ty.den TDisk) (a1 : Ty.den TLive) : Rs :=
 ((spec_Orphans.f k a0 a1).bind fun r1 =>
 (L0 0 a0.1 a0.2.1 a0.2.2.1 a0.2.2.2.1 [] 0 0 false r1.1))
def f (k : Nat) := t k (l0 k k)
end spec_l11Sweep_g
namespace spec_l11First_g
abbrev Rs : Type := Option ((Ty.den TStore) × (Ty.den TDisk) × Int × Unit)
def t (k : Nat) (a0 : Ty.den TDisk) : Rs :=
 ((spec_l11Sweep_g.f k a0 (0, ([], ()))).bind fun r1 =>
 (bif (r1.2.1 != 0) then
 (some (((0, ([], ())), ([], (0, (0, (0, ()))))), r1))
 else
 ((spec_SegName.f k 1).bind fun r2 =>
 ((spec_Create.f k r1.1 r2.1).bind fun r3 =>
 (bif (r3.2.1 != 0) then
 ((spec_l11Code.f k r3.2.1).bind fun r4 =>
 (some (((0, ([], ())), ([], (0, (0, (0, ()))))), (r3.1, r4))))
 else
 ((spec_PutLive.f k r3.1 (2, ([1], ()))).bind fun r5 =>
 (bif (r5.2.1 != 0) then
 (some (((0, ([], ())), ([], (0, (0, (0, ()))))), r5))
 else
 (some (((2, ([1], ())), ([], (1, (0, (0, ()))))), (r5.1, (0, ())))))))))))
def f (k : Nat) := t k
end spec_l11First_g
namespace spec_Open_g
abbrev Rs : Type := Option ((Ty.den TStore) × (Ty.den TDisk) × Int × Unit)
abbrev T1 : Type := Int → List Int → List (Ty.den TEntry) → Int → Int → Int → Int → List (Ty.den TPair) → Int → Int → Bool → List Int → List (Ty.den TEntry) → Int → Int → Int → Int → List Int → Int → List (Ty.den TPair) → Int → Int → Bool → List (Ty.den TEntry) → Int → Int → Int → Int → List (Ty.den TEntry) → Int → Int → List (Ty.den TPlace) → Rs
abbrev T2 : Type := Int → List Int → List (Ty.den TEntry) → Int → Int → Int → Int → List (Ty.den TPair) → Int → Int → Bool → List Int → List (Ty.den TEntry) → Int → Int → Int → Int → List Int → Int → List (Ty.den TPair) → Int → Int → Bool → List (Ty.den TEntry) → Int → Int → Int → Int → List (Ty.den TEntry) → Int → Int → List (Ty.den TPlace) → Rs
abbrev T0 : Type := Int → Int → List (Ty.den TPair) → Int → Int → Bool → List Int → List (Ty.den TEntry) → Int → Int → Int → Int → List (Ty.den TPair) → Int → Int → Bool → List Int → List (Ty.den TEntry) → Int → Int → Int → Int → List Int → Int → Rs
def b1 (k : Nat) (L1 : T1) : T1 := fun x1_0 x1_1 x1_2 x1_3 x1_4 x1_5 x1_6 x1_7 x1_8 x1_9 x1_10 x1_11 x1_12 x1_13 x1_14 x1_15 x1_16 x1_17 x1_18 x1_19 x1_20 x1_21 x1_22 x1_23 x1_24 x1_25 x1_26 x1_27 x1_28 x1_29 x1_30 x1_31 =>
 (bif (decide (x1_0 < (List.length x1_17 : Int))) then
 (inb x1_0 (List.length x1_17 : Int)
 ((spec_SegName.f k (List.getD x1_17 (Int.toNat x1_0) (Ty.dflt (.int .i64)))).bind fun r23 =>
 ((spec_FileText.f k (x1_19, (x1_20, (x1_21, (x1_22, ())))) r23.1).bind fun r24 =>
 (inb x1_0 (List.length x1_17 : Int)
 ((spec_HintName.f k (List.getD x1_17 (Int.toNat x1_0) (Ty.dflt (.int .i64)))).bind fun r25 =>
 ((spec_FileText.f k (x1_19, (x1_20, (x1_21, (x1_22, ())))) r25.1).bind fun r26 =>
 ((spec_ReadHint.f k r26.1).bind fun r27 =>
 (bif (x1_0 == 0) then
 (bif r26.2.1 then
 (bif r27.2.1 then
 (inb 0 (List.length x1_17 : Int)
 ((spec_HintFits.f k (List.getD x1_17 0 (Ty.dflt (.int .i64))) r24.1 r27.1).bind fun r28 =>
 (bif r28.1 then
 (inb 0 (List.length x1_17 : Int)
 (L1 (w64 (x1_0 + 1)) x1_1 x1_2 x1_3 x1_4 x1_5 x1_6 x1_7 x1_8 x1_9 x1_10 x1_11 x1_12 x1_13 x1_14 x1_15 x1_16 x1_17 x1_18 x1_19 x1_20 x1_21 x1_22 x1_23 x1_24 x1_25 x1_26 (List.getD x1_17 0 (Ty.dflt (.int .i64))) r27.1.2.2.1 r27.1.2.1 x1_30 x1_31))
 else
 (inb x1_0 (List.length x1_17 : Int)
 ((spec_l11Places.f k (List.getD x1_17 (Int.toNat x1_0) (Ty.dflt (.int .i64))) r24.1).bind fun r29 =>
 (rm (Ty.bytes TPlace) (List.length x1_31 + List.length r29.1)
 (L1 (w64 (x1_0 + 1)) x1_1 x1_2 x1_3 x1_4 x1_5 x1_6 x1_7 x1_8 x1_9 x1_10 x1_11 x1_12 x1_13 x1_14 x1_15 x1_16 x1_17 x1_18 x1_19 x1_20 x1_21 x1_22 x1_23 x1_24 x1_25 x1_26 x1_27 x1_28 x1_29 x1_30 (x1_31 ++ r29.1))))))))
 else
 (inb x1_0 (List.length x1_17 : Int)
 ((spec_l11Places.f k (List.getD x1_17 (Int.toNat x1_0) (Ty.dflt (.int .i64))) r24.1).bind fun r30 =>
 (rm (Ty.bytes TPlace) (List.length x1_31 + List.length r30.1)
 (L1 (w64 (x1_0 + 1)) x1_1 x1_2 x1_3 x1_4 x1_5 x1_6 x1_7 x1_8 x1_9 x1_10 x1_11 x1_12 x1_13 x1_14 x1_15 x1_16 x1_17 x1_18 x1_19 x1_20 x1_21 x1_22 x1_23 x1_24 x1_25 x1_26 x1_27 x1_28 x1_29 x1_30 (x1_31 ++ r30.1))))))
 else
 (inb x1_0 (List.length x1_17 : Int)
 ((spec_l11Places.f k (List.getD x1_17 (Int.toNat x1_0) (Ty.dflt (.int .i64))) r24.1).bind fun r31 =>
 (rm (Ty.bytes TPlace) (List.length x1_31 + List.length r31.1)
 (L1 (w64 (x1_0 + 1)) x1_1 x1_2 x1_3 x1_4 x1_5 x1_6 x1_7 x1_8 x1_9 x1_10 x1_11 x1_12 x1_13 x1_14 x1_15 x1_16 x1_17 x1_18 x1_19 x1_20 x1_21 x1_22 x1_23 x1_24 x1_25 x1_26 x1_27 x1_28 x1_29 x1_30 (x1_31 ++ r31.1))))))
 else
 (inb x1_0 (List.length x1_17 : Int)
 ((spec_l11Places.f k (List.getD x1_17 (Int.toNat x1_0) (Ty.dflt (.int .i64))) r24.1).bind fun r32 =>
 (rm (Ty.bytes TPlace) (List.length x1_31 + List.length r32.1)
 (L1 (w64 (x1_0 + 1)) x1_1 x1_2 x1_3 x1_4 x1_5 x1_6 x1_7 x1_8 x1_9 x1_10 x1_11 x1_12 x1_13 x1_14 x1_15 x1_16 x1_17 x1_18 x1_19 x1_20 x1_21 x1_22 x1_23 x1_24 x1_25 x1_26 x1_27 x1_28 x1_29 x1_30 (x1_31 ++ r32.1)))))))))))))
 else
 ((spec_Regroup.f k (x1_28, (x1_29, (x1_30, ()))) x1_31).bind fun r33 =>
 (bif (r33.1.2.2.1 != 0) then
 (some (((x1_13, (x1_11, ())), (x1_12, (x1_14, (x1_15, (x1_16, ()))))), ((x1_19, (x1_20, (x1_21, (x1_22, ())))), (3, ()))))
 else
 ((spec_l11Sweep_g.f k (x1_19, (x1_20, (x1_21, (x1_22, ())))) (x1_18, (x1_17, ()))).bind fun r34 =>
 (bif (r34.2.1 != 0) then
 (some (((x1_13, (x1_11, ())), (x1_12, (x1_14, (x1_15, (x1_16, ()))))), r34))
 else
 (some (((x1_24, (x1_17, ())), (r33.1.1, ((w64 (r33.1.2.1 + 1)), (x1_26, (x1_27, ()))))), (r34.1, (0, ())))))))))
def l1 (k : Nat) : Nat → T1
  | 0 => fun _ _ _ _ _ _ _ _ _ _ _ _ _ _ _ _ _ _ _ _ _ _ _ _ _ _ _ _ _ _ _ _ => none
  | n + 1 => b1 k (l1 k n)
def b2 (k : Nat) (L2 : T2) : T2 := fun x2_0 x2_1 x2_2 x2_3 x2_4 x2_5 x2_6 x2_7 x2_8 x2_9 x2_10 x2_11 x2_12 x2_13 x2_14 x2_15 x2_16 x2_17 x2_18 x2_19 x2_20 x2_21 x2_22 x2_23 x2_24 x2_25 x2_26 x2_27 x2_28 x2_29 x2_30 x2_31 =>
 (bif (decide (x2_0 < (List.length x2_17 : Int))) then
 (inb x2_0 (List.length x2_17 : Int)
 ((spec_SegName.f k (List.getD x2_17 (Int.toNat x2_0) (Ty.dflt (.int .i64)))).bind fun r38 =>
 ((spec_FileText.f k (x2_19, (x2_20, (x2_21, (x2_22, ())))) r38.1).bind fun r39 =>
 (inb x2_0 (List.length x2_17 : Int)
 ((spec_HintName.f k (List.getD x2_17 (Int.toNat x2_0) (Ty.dflt (.int .i64)))).bind fun r40 =>
 ((spec_FileText.f k (x2_19, (x2_20, (x2_21, (x2_22, ())))) r40.1).bind fun r41 =>
 ((spec_ReadHint.f k r41.1).bind fun r42 =>
 (bif (x2_0 == 0) then
 (bif r41.2.1 then
 (bif r42.2.1 then
 (inb 0 (List.length x2_17 : Int)
 ((spec_HintFits.f k (List.getD x2_17 0 (Ty.dflt (.int .i64))) r39.1 r42.1).bind fun r43 =>
 (bif r43.1 then
 (inb 0 (List.length x2_17 : Int)
 (L2 (w64 (x2_0 + 1)) x2_1 x2_2 x2_3 x2_4 x2_5 x2_6 x2_7 x2_8 x2_9 x2_10 x2_11 x2_12 x2_13 x2_14 x2_15 x2_16 x2_17 x2_18 x2_19 x2_20 x2_21 x2_22 x2_23 x2_24 x2_25 x2_26 (List.getD x2_17 0 (Ty.dflt (.int .i64))) r42.1.2.2.1 r42.1.2.1 x2_30 x2_31))
 else
 (inb x2_0 (List.length x2_17 : Int)
 ((spec_l11Places.f k (List.getD x2_17 (Int.toNat x2_0) (Ty.dflt (.int .i64))) r39.1).bind fun r44 =>
 (rm (Ty.bytes TPlace) (List.length x2_31 + List.length r44.1)
 (L2 (w64 (x2_0 + 1)) x2_1 x2_2 x2_3 x2_4 x2_5 x2_6 x2_7 x2_8 x2_9 x2_10 x2_11 x2_12 x2_13 x2_14 x2_15 x2_16 x2_17 x2_18 x2_19 x2_20 x2_21 x2_22 x2_23 x2_24 x2_25 x2_26 x2_27 x2_28 x2_29 x2_30 (x2_31 ++ r44.1))))))))
 else
 (inb x2_0 (List.length x2_17 : Int)
 ((spec_l11Places.f k (List.getD x2_17 (Int.toNat x2_0) (Ty.dflt (.int .i64))) r39.1).bind fun r45 =>
 (rm (Ty.bytes TPlace) (List.length x2_31 + List.length r45.1)
 (L2 (w64 (x2_0 + 1)) x2_1 x2_2 x2_3 x2_4 x2_5 x2_6 x2_7 x2_8 x2_9 x2_10 x2_11 x2_12 x2_13 x2_14 x2_15 x2_16 x2_17 x2_18 x2_19 x2_20 x2_21 x2_22 x2_23 x2_24 x2_25 x2_26 x2_27 x2_28 x2_29 x2_30 (x2_31 ++ r45.1))))))
 else
 (inb x2_0 (List.length x2_17 : Int)
 ((spec_l11Places.f k (List.getD x2_17 (Int.toNat x2_0) (Ty.dflt (.int .i64))) r39.1).bind fun r46 =>
 (rm (Ty.bytes TPlace) (List.length x2_31 + List.length r46.1)
 (L2 (w64 (x2_0 + 1)) x2_1 x2_2 x2_3 x2_4 x2_5 x2_6 x2_7 x2_8 x2_9 x2_10 x2_11 x2_12 x2_13 x2_14 x2_15 x2_16 x2_17 x2_18 x2_19 x2_20 x2_21 x2_22 x2_23 x2_24 x2_25 x2_26 x2_27 x2_28 x2_29 x2_30 (x2_31 ++ r46.1))))))
 else
 (inb x2_0 (List.length x2_17 : Int)
 ((spec_l11Places.f k (List.getD x2_17 (Int.toNat x2_0) (Ty.dflt (.int .i64))) r39.1).bind fun r47 =>
 (rm (Ty.bytes TPlace) (List.length x2_31 + List.length r47.1)
 (L2 (w64 (x2_0 + 1)) x2_1 x2_2 x2_3 x2_4 x2_5 x2_6 x2_7 x2_8 x2_9 x2_10 x2_11 x2_12 x2_13 x2_14 x2_15 x2_16 x2_17 x2_18 x2_19 x2_20 x2_21 x2_22 x2_23 x2_24 x2_25 x2_26 x2_27 x2_28 x2_29 x2_30 (x2_31 ++ r47.1)))))))))))))
 else
 ((spec_Regroup.f k (x2_28, (x2_29, (x2_30, ()))) x2_31).bind fun r48 =>
 (bif (r48.1.2.2.1 != 0) then
 (some (((x2_13, (x2_11, ())), (x2_12, (x2_14, (x2_15, (x2_16, ()))))), ((x2_19, (x2_20, (x2_21, (x2_22, ())))), (3, ()))))
 else
 ((spec_l11Sweep_g.f k (x2_19, (x2_20, (x2_21, (x2_22, ())))) (x2_18, (x2_17, ()))).bind fun r49 =>
 (bif (r49.2.1 != 0) then
 (some (((x2_13, (x2_11, ())), (x2_12, (x2_14, (x2_15, (x2_16, ()))))), r49))
 else
 (some (((x2_24, (x2_17, ())), (r48.1.1, ((w64 (r48.1.2.1 + 1)), (x2_26, (x2_27, ()))))), (r49.1, (0, ())))))))))
def l2 (k : Nat) : Nat → T2
  | 0 => fun _ _ _ _ _ _ _ _ _ _ _ _ _ _ _ _ _ _ _ _ _ _ _ _ _ _ _ _ _ _ _ _ => none
  | n + 1 => b2 k (l2 k n)
def b0 (k : Nat) (L1 : T1) (L2 : T2) (L0 : T0) : T0 := fun x0_0 x0_1 x0_2 x0_3 x0_4 x0_5 x0_6 x0_7 x0_8 x0_9 x0_10 x0_11 x0_12 x0_13 x0_14 x0_15 x0_16 x0_17 x0_18 x0_19 x0_20 x0_21 x0_22 x0_23 =>
 (bif (decide (x0_1 < (List.length x0_22 : Int))) then
 (inb x0_1 (List.length x0_22 : Int)
 ((spec_SegName.f k (List.getD x0_22 (Int.toNat x0_1) (Ty.dflt (.int .i64)))).bind fun r8 =>
 ((spec_FileText.f k (x0_2, (x0_3, (x0_4, (x0_5, ())))) r8.1).bind fun r9 =>
 ((spec_ScanRecs.f k r9.1).bind fun r10 =>
 (bif (!r9.2.1) then
 ((spec_l3Copy.f k (x0_2, (x0_3, (x0_4, (x0_5, ()))))).bind fun r11 =>
 (some (((x0_18, (x0_16, ())), (x0_17, (x0_19, (x0_20, (x0_21, ()))))), (r11.1, (3, ())))))
 else
 (inb x0_1 (List.length x0_22 : Int)
 (bif ((List.getD x0_22 (Int.toNat x0_1) (Ty.dflt (.int .i64))) != x0_0) then
 (bif (decide (r10.2.1 < (ByteArray.size r9.1 : Int))) then
 ((spec_l3Copy.f k (x0_2, (x0_3, (x0_4, (x0_5, ()))))).bind fun r12 =>
 (some (((x0_18, (x0_16, ())), (x0_17, (x0_19, (x0_20, (x0_21, ()))))), (r12.1, (3, ())))))
 else
 (L0 x0_0 (w64 (x0_1 + 1)) x0_2 x0_3 x0_4 x0_5 x0_6 x0_7 x0_8 x0_9 x0_10 x0_11 x0_12 x0_13 x0_14 x0_15 x0_16 x0_17 x0_18 x0_19 x0_20 x0_21 x0_22 x0_23))
 else
 (L0 x0_0 (w64 (x0_1 + 1)) x0_2 x0_3 x0_4 x0_5 x0_6 x0_7 x0_8 x0_9 x0_10 x0_11 x0_12 x0_13 x0_14 x0_15 x0_16 x0_17 x0_18 x0_19 x0_20 x0_21 x0_22 x0_23))))))))
 else
 ((spec_SegName.f k x0_0).bind fun r13 =>
 ((spec_FileText.f k (x0_2, (x0_3, (x0_4, (x0_5, ())))) r13.1).bind fun r14 =>
 ((spec_ScanRecs.f k r14.1).bind fun r15 =>
 ((spec_l3Copy.f k (x0_2, (x0_3, (x0_4, (x0_5, ()))))).bind fun r16 =>
 (bif (decide (r15.2.1 < (ByteArray.size r14.1 : Int))) then
 ((spec_SegName.f k x0_0).bind fun r17 =>
 ((spec_Truncate.f k r16.1 r17.1 r15.2.1).bind fun r18 =>
 (bif (r18.2.1 != 0) then
 ((spec_l11Code.f k r18.2.1).bind fun r19 =>
 (some (((x0_18, (x0_16, ())), (x0_17, (x0_19, (x0_20, (x0_21, ()))))), (r18.1, r19))))
 else
 ((spec_SegName.f k x0_0).bind fun r20 =>
 ((spec_Sync.f k r18.1 r20.1).bind fun r21 =>
 (bif (r21.2.1 != 0) then
 ((spec_l11Code.f k r21.2.1).bind fun r22 =>
 (some (((x0_18, (x0_16, ())), (x0_17, (x0_19, (x0_20, (x0_21, ()))))), (r21.1, r22))))
 else
 (L1 0 x0_6 x0_7 x0_8 x0_9 x0_10 x0_11 x0_12 x0_13 x0_14 x0_15 x0_16 x0_17 x0_18 x0_19 x0_20 x0_21 x0_22 x0_23 r21.1.1 r21.1.2.1 r21.1.2.2.1 r21.1.2.2.2.1 [] x0_23 0 r15.2.1 0 [] 0 0 [])))))))
 else
 ((spec_SegName.f k x0_0).bind fun r35 =>
 ((spec_Sync.f k r16.1 r35.1).bind fun r36 =>
 (bif (r36.2.1 != 0) then
 ((spec_l11Code.f k r36.2.1).bind fun r37 =>
 (some (((x0_18, (x0_16, ())), (x0_17, (x0_19, (x0_20, (x0_21, ()))))), (r36.1, r37))))
 else
 (L2 0 x0_6 x0_7 x0_8 x0_9 x0_10 x0_11 x0_12 x0_13 x0_14 x0_15 x0_16 x0_17 x0_18 x0_19 x0_20 x0_21 x0_22 x0_23 r36.1.1 r36.1.2.1 r36.1.2.2.1 r36.1.2.2.2.1 [] x0_23 0 r15.2.1 0 [] 0 0 []))))))))))
def l0 (k : Nat) : Nat → T0
  | 0 => fun _ _ _ _ _ _ _ _ _ _ _ _ _ _ _ _ _ _ _ _ _ _ _ _ => none
  | n + 1 => b0 k (l1 k k) (l2 k k) (l0 k n)
def t (k : Nat) (L0 : T0) (a0 : Ty.den TDisk) : Rs :=
 ((spec_DiskOk.f k a0).bind fun r1 =>
 (bif (!r1.1) then
 ((spec_l3Copy.f k a0).bind fun r2 =>
 (some (((0, ([], ())), ([], (0, (0, (0, ()))))), (r2.1, (4, ())))))
 else
 (bif a0.2.2.2.1 then
 ((spec_l3Copy.f k a0).bind fun r3 =>
 (some (((0, ([], ())), ([], (0, (0, (0, ()))))), (r3.1, (1, ())))))
 else
 ((spec_FileText.f k a0 (⟨#[108, 105, 118, 101]⟩ : ByteArray)).bind fun r4 =>
 (bif (!r4.2.1) then
 ((spec_l11First_g.f k a0).bind fun r5 =>
 (some r5))
 else
 ((spec_ReadLive.f k r4.1).bind fun r6 =>
 (bif (!r6.2.1) then
 ((spec_l3Copy.f k a0).bind fun r7 =>
 (some (((0, ([], ())), ([], (0, (0, (0, ()))))), (r7.1, (3, ())))))
 else
 (inb (w64 ((List.length r6.1.2.1 : Int) - 1)) (List.length r6.1.2.1 : Int)
 (L0 (List.getD r6.1.2.1 (Int.toNat (w64 ((List.length r6.1.2.1 : Int) - 1))) (Ty.dflt (.int .i64))) 0 a0.1 a0.2.1 a0.2.2.1 a0.2.2.2.1 [] [] 0 0 0 0 [] 0 0 false [] [] 0 0 0 0 r6.1.2.1 r6.1.1)))))))))
def f (k : Nat) := t k (l0 k k)
end spec_Open_g
namespace spec_EngineNew_g
abbrev Rs : Type := Option ((Ty.den TEngine) × Int × Unit)
def t (k : Nat) (a0 : Ty.den TDisk) : Rs :=
 ((spec_Open_g.f k a0).bind fun r1 =>
 (mks (Ty.bytes TTxn) 3
 (some (((r1.2.2.1 == 0), (r1.1, (r1.2.1, ((List.replicate (Int.toNat 3) (Ty.dflt TTxn)), ())))), r1.2.2))))
def f (k : Nat) := t k
end spec_EngineNew_g
namespace spec_DirGet
abbrev Rs : Type := Option ((Ty.den TEntry) × Bool × Unit)
abbrev T0 : Type := List (Ty.den TEntry) → ByteArray → Int → ByteArray → Int → Int → Int → Int → Rs
def b0 (k : Nat) (L0 : T0) : T0 := fun x0_0 x0_1 x0_2 x0_3 x0_4 x0_5 x0_6 x0_7 =>
 (bif (decide (x0_2 < (List.length x0_0 : Int))) then
 (inb x0_2 (List.length x0_0 : Int)
 (bif (seq (List.getD x0_0 (Int.toNat x0_2) (Ty.dflt TEntry)).1 x0_1) then
 (inb x0_2 (List.length x0_0 : Int)
 (some ((List.getD x0_0 (Int.toNat x0_2) (Ty.dflt TEntry)), (true, ()))))
 else
 (L0 x0_0 x0_1 (w64 (x0_2 + 1)) x0_3 x0_4 x0_5 x0_6 x0_7)))
 else
 (some ((ByteArray.empty, (0, (0, (0, (0, ()))))), (false, ()))))
def l0 (k : Nat) : Nat → T0
  | 0 => fun _ _ _ _ _ _ _ _ => none
  | n + 1 => b0 k (l0 k n)
def t (k : Nat) (L0 : T0) (a0 : List (Ty.den TEntry)) (a1 : ByteArray) : Rs :=
 (L0 a0 a1 0 ByteArray.empty 0 0 0 0)
def f (k : Nat) := t k (l0 k k)
end spec_DirGet
namespace spec_RecAt
abbrev Rs : Type := Option ((Ty.den TRec) × Bool × Unit)
def t (k : Nat) (a0 : ByteArray) (a1 : Int) (a2 : Int) : Rs :=
 ((spec_l1In.f k a1 0 (ByteArray.size a0 : Int)).bind fun r1 =>
 (bif (!r1.1) then
 (some ((0, (0, (ByteArray.empty, (ByteArray.empty, (0, (0, ())))))), (false, ())))
 else
 ((spec_l1In.f k a2 1 (w64 ((ByteArray.size a0 : Int) - a1))).bind fun r2 =>
 (bif (!r2.1) then
 (some ((0, (0, (ByteArray.empty, (ByteArray.empty, (0, (0, ())))))), (false, ())))
 else
 (inc2 a1 (w64 (a1 + a2)) (ByteArray.size a0 : Int)
 ((spec_Unframe.f k (ByteArray.extract a0 (Int.toNat a1) (Int.toNat (w64 (a1 + a2))))).bind fun r3 =>
 ((spec_ReadRec.f k r3.1).bind fun r4 =>
 (bif (r3.2.1 != a2) then
 (some ((0, (0, (ByteArray.empty, (ByteArray.empty, (0, (0, ())))))), (false, ())))
 else
 (bif (!r4.2.1) then
 (some ((0, (0, (ByteArray.empty, (ByteArray.empty, (0, (0, ())))))), (false, ())))
 else
 (some (r4.1, (true, ()))))))))))))
def f (k : Nat) := t k
end spec_RecAt
namespace spec_Get
abbrev Rs : Type := Option ((Ty.den TPair) × Int × Unit)
def t (k : Nat) (a0 : Ty.den TStore) (a1 : Ty.den TDisk) (a2 : ByteArray) : Rs :=
 ((spec_DirGet.f k a0.2.1 a2).bind fun r1 =>
 (bif (!r1.2.1) then
 (some ((ByteArray.empty, (ByteArray.empty, (0, ()))), (8, ())))
 else
 ((spec_SegName.f k r1.1.2.1).bind fun r2 =>
 ((spec_FileText.f k a1 r2.1).bind fun r3 =>
 ((spec_RecAt.f k r3.1 r1.1.2.2.1 r1.1.2.2.2.1).bind fun r4 =>
 (bif (!r3.2.1) then
 (some ((ByteArray.empty, (ByteArray.empty, (0, ()))), (3, ())))
 else
 (bif (!r4.2.1) then
 (some ((ByteArray.empty, (ByteArray.empty, (0, ()))), (3, ())))
 else
 (bif (!(seq r4.1.2.2.1 a2)) then
 (some ((ByteArray.empty, (ByteArray.empty, (0, ()))), (3, ())))
 else
 (bif (r4.1.1 != 1) then
 (bif (r4.1.1 != 4) then
 (some ((ByteArray.empty, (ByteArray.empty, (0, ()))), (3, ())))
 else
 (some ((a2, (r4.1.2.2.2.1, (r4.1.2.1, ()))), (0, ()))))
 else
 (some ((a2, (r4.1.2.2.2.1, (r4.1.2.1, ()))), (0, ()))))))))))))
def f (k : Nat) := t k
end spec_Get
namespace spec_Dump
abbrev Rs : Type := Option ((List (Ty.den TPair)) × Int × Unit)
abbrev T0 : Type := Int → Int → List Int → List (Ty.den TEntry) → Int → Int → Int → List (Ty.den TPair) → Int → Int → Bool → List (Ty.den TPair) → Rs
def b0 (k : Nat) (L0 : T0) : T0 := fun x0_0 x0_1 x0_2 x0_3 x0_4 x0_5 x0_6 x0_7 x0_8 x0_9 x0_10 x0_11 =>
 (bif (decide (x0_0 < (List.length x0_3 : Int))) then
 (inb x0_0 (List.length x0_3 : Int)
 ((spec_Get.f k ((x0_1, (x0_2, ())), (x0_3, (x0_4, (x0_5, (x0_6, ()))))) (x0_7, (x0_8, (x0_9, (x0_10, ())))) (List.getD x0_3 (Int.toNat x0_0) (Ty.dflt TEntry)).1).bind fun r1 =>
 (bif (r1.2.1 != 0) then
 (some ([], r1.2))
 else
 (rm (Ty.bytes TPair) (List.length x0_11 + 1)
 (L0 (w64 (x0_0 + 1)) x0_1 x0_2 x0_3 x0_4 x0_5 x0_6 x0_7 x0_8 x0_9 x0_10 (x0_11 ++ [r1.1]))))))
 else
 (some (x0_11, (0, ()))))
def l0 (k : Nat) : Nat → T0
  | 0 => fun _ _ _ _ _ _ _ _ _ _ _ _ => none
  | n + 1 => b0 k (l0 k n)
def t (k : Nat) (L0 : T0) (a0 : Ty.den TStore) (a1 : Ty.den TDisk) : Rs :=
 (L0 0 a0.1.1 a0.1.2.1 a0.2.1 a0.2.2.1 a0.2.2.2.1 a0.2.2.2.2.1 a1.1 a1.2.1 a1.2.2.1 a1.2.2.2.1 [])
def f (k : Nat) := t k (l0 k k)
end spec_Dump
namespace spec_EngineMap
abbrev Rs : Type := Option ((List (Ty.den TPair)) × Int × Unit)
def t (k : Nat) (a0 : Ty.den TEngine) : Rs :=
 (bif (!a0.1) then
 (some ([], (6, ())))
 else
 ((spec_Dump.f k a0.2.1 a0.2.2.1).bind fun r1 =>
 (some r1)))
def f (k : Nat) := t k
end spec_EngineMap
namespace spec_Reopened
abbrev Rs : Type := Option ((List (Ty.den TPair)) × Int × Unit)
def t (k : Nat) (a0 : Ty.den TDisk) (a1 : List Int) : Rs :=
 ((spec_Power.f k a0 a1).bind fun r1 =>
 ((spec_EngineNew_g.f k r1.1).bind fun r2 =>
 (bif (r2.2.1 != 0) then
 (some ([], r2.2))
 else
 ((spec_EngineMap.f k r2.1).bind fun r3 =>
 (some r3)))))
def f (k : Nat) := t k
end spec_Reopened
namespace impl_copyDisk
abbrev Rs : Type := Option ((Ty.den TDisk) × Unit)
def t (k : Nat) (a0 : Ty.den TDisk) : Rs :=
 (rm (Ty.bytes TPair) (List.length a0.1)
 (some (a0, ())))
def f (k : Nat) := t k
end impl_copyDisk
namespace impl_in
abbrev Rs : Type := Option (Bool × Unit)
def t (k : Nat) (a0 : Int) (a1 : Int) (a2 : Int) : Rs :=
 (bif (decide (a0 ≥ a1)) then
 (some ((decide (a0 ≤ a2)), ()))
 else
 (some (false, ())))
def f (k : Nat) := t k
end impl_in
namespace impl_NameOk
abbrev Rs : Type := Option (Bool × Unit)
abbrev T0 : Type := ByteArray → Int → Rs
def b0 (k : Nat) (L0 : T0) : T0 := fun x0_0 x0_1 =>
 (bif (decide (x0_1 < (ByteArray.size x0_0 : Int))) then
 (inb x0_1 (ByteArray.size x0_0 : Int)
 (bif (decide ((byteAt x0_0 x0_1) ≥ 97)) then
 (inb x0_1 (ByteArray.size x0_0 : Int)
 (bif (!(decide ((byteAt x0_0 x0_1) ≤ 122))) then
 (inb x0_1 (ByteArray.size x0_0 : Int)
 (bif (decide ((byteAt x0_0 x0_1) ≥ 48)) then
 (inb x0_1 (ByteArray.size x0_0 : Int)
 (bif (!(decide ((byteAt x0_0 x0_1) ≤ 57))) then
 (some (false, ()))
 else
 (L0 x0_0 (w64 (x0_1 + 1)))))
 else
 (some (false, ()))))
 else
 (L0 x0_0 (w64 (x0_1 + 1)))))
 else
 (inb x0_1 (ByteArray.size x0_0 : Int)
 (bif (decide ((byteAt x0_0 x0_1) ≥ 48)) then
 (inb x0_1 (ByteArray.size x0_0 : Int)
 (bif (!(decide ((byteAt x0_0 x0_1) ≤ 57))) then
 (some (false, ()))
 else
 (L0 x0_0 (w64 (x0_1 + 1)))))
 else
 (some (false, ()))))))
 else
 ((impl_in.f k (ByteArray.size x0_0 : Int) 1 12).bind fun r1 =>
 (some r1)))
def l0 (k : Nat) : Nat → T0
  | 0 => fun _ _ => none
  | n + 1 => b0 k (l0 k n)
def t (k : Nat) (L0 : T0) (a0 : ByteArray) : Rs :=
 (L0 a0 0)
def f (k : Nat) := t k (l0 k k)
end impl_NameOk
namespace impl_DiskOk
abbrev Rs : Type := Option (Bool × Unit)
abbrev T0 : Type := Int → List (Ty.den TPair) → Int → Int → List (Ty.den TPair) → Int → Int → Bool → Rs
def b0 (k : Nat) (L0 : T0) : T0 := fun x0_0 x0_1 x0_2 x0_3 x0_4 x0_5 x0_6 x0_7 =>
 (bif (decide (x0_3 < x0_2)) then
 (inb x0_3 (List.length x0_1 : Int)
 ((impl_NameOk.f k (List.getD x0_1 (Int.toNat x0_3) (Ty.dflt TPair)).1).bind fun r3 =>
 (bif (!r3.1) then
 (some (false, ()))
 else
 ((impl_in.f k (List.getD x0_1 (Int.toNat x0_3) (Ty.dflt TPair)).2.2.1 0 (ByteArray.size (List.getD x0_1 (Int.toNat x0_3) (Ty.dflt TPair)).2.1 : Int)).bind fun r4 =>
 (bif (!r4.1) then
 (some (false, ()))
 else
 (bif (decide (x0_3 > 0)) then
 (inb (w64 (x0_3 - 1)) (List.length x0_4 : Int)
 (bif (!(sls (List.getD x0_4 (Int.toNat (w64 (x0_3 - 1))) (Ty.dflt TPair)).1 (List.getD x0_1 (Int.toNat x0_3) (Ty.dflt TPair)).1)) then
 (some (false, ()))
 else
 (L0 (w64 (x0_0 + (ByteArray.size (List.getD x0_1 (Int.toNat x0_3) (Ty.dflt TPair)).2.1 : Int))) x0_1 x0_2 (w64 (x0_3 + 1)) x0_4 x0_5 x0_6 x0_7)))
 else
 (L0 (w64 (x0_0 + (ByteArray.size (List.getD x0_1 (Int.toNat x0_3) (Ty.dflt TPair)).2.1 : Int))) x0_1 x0_2 (w64 (x0_3 + 1)) x0_4 x0_5 x0_6 x0_7)))))))
 else
 (some ((decide (x0_0 ≤ x0_5)), ())))
def l0 (k : Nat) : Nat → T0
  | 0 => fun _ _ _ _ _ _ _ _ => none
  | n + 1 => b0 k (l0 k n)
def t (k : Nat) (L0 : T0) (a0 : Ty.den TDisk) : Rs :=
 (bif (decide ((List.length a0.1 : Int) > 130)) then
 (some (false, ()))
 else
 ((impl_in.f k a0.2.1 0 100000).bind fun r1 =>
 (bif (!r1.1) then
 (some (false, ()))
 else
 ((impl_in.f k a0.2.2.1 (-1) 100000).bind fun r2 =>
 (bif (!r2.1) then
 (some (false, ()))
 else
 (L0 0 a0.1 (List.length a0.1 : Int) 0 a0.1 a0.2.1 a0.2.2.1 a0.2.2.2.1))))))
def f (k : Nat) := t k (l0 k k)
end impl_DiskOk
namespace impl_Power
abbrev Rs : Type := Option ((Ty.den TDisk) × Unit)
abbrev T0 : Type := List Int → Int → Int → List (Ty.den TPair) → Int → Int → Bool → List (Ty.den TPair) → Int → Int → Bool → Rs
def b0 (k : Nat) (L0 : T0) : T0 := fun x0_0 x0_1 x0_2 x0_3 x0_4 x0_5 x0_6 x0_7 x0_8 x0_9 x0_10 =>
 (bif (decide (x0_2 < x0_1)) then
 (inb x0_2 (List.length x0_7 : Int)
 (bif (decide ((List.length x0_0 : Int) > 0)) then
 (bif (decide ((List.length x0_0 : Int) = 0)) then none else
 (inb (Int.tmod x0_2 (List.length x0_0 : Int)) (List.length x0_0 : Int)
 (bif (decide ((w64 ((w64 ((ByteArray.size (List.getD x0_7 (Int.toNat x0_2) (Ty.dflt TPair)).2.1 : Int) - (List.getD x0_7 (Int.toNat x0_2) (Ty.dflt TPair)).2.2.1)) + 1)) = 0)) then none else
 (let l3 := (List.set x0_7 (Int.toNat x0_2) ((List.getD x0_7 (Int.toNat x0_2) (Ty.dflt TPair)).1, ((List.getD x0_7 (Int.toNat x0_2) (Ty.dflt TPair)).2.1, ((w64 ((List.getD x0_7 (Int.toNat x0_2) (Ty.dflt TPair)).2.2.1 + (Int.tmod (if 0 > (List.getD x0_0 (Int.toNat (Int.tmod x0_2 (List.length x0_0 : Int))) (Ty.dflt (.int .i64))) then 0 else (List.getD x0_0 (Int.toNat (Int.tmod x0_2 (List.length x0_0 : Int))) (Ty.dflt (.int .i64)))) (w64 ((w64 ((ByteArray.size (List.getD x0_7 (Int.toNat x0_2) (Ty.dflt TPair)).2.1 : Int) - (List.getD x0_7 (Int.toNat x0_2) (Ty.dflt TPair)).2.2.1)) + 1))))), (List.getD x0_7 (Int.toNat x0_2) (Ty.dflt TPair)).2.2.2))));
 (inc (List.getD l3 (Int.toNat x0_2) (Ty.dflt TPair)).2.2.1 (ByteArray.size (List.getD l3 (Int.toNat x0_2) (Ty.dflt TPair)).2.1 : Int)
 (let l4 := (List.set l3 (Int.toNat x0_2) ((List.getD l3 (Int.toNat x0_2) (Ty.dflt TPair)).1, ((ByteArray.extract (List.getD l3 (Int.toNat x0_2) (Ty.dflt TPair)).2.1 0 (Int.toNat (List.getD l3 (Int.toNat x0_2) (Ty.dflt TPair)).2.2.1)), (List.getD l3 (Int.toNat x0_2) (Ty.dflt TPair)).2.2)));
 (L0 x0_0 x0_1 (w64 (x0_2 + 1)) x0_3 x0_4 x0_5 x0_6 l4 x0_8 x0_9 x0_10)))))))
 else
 (let l5 := (List.set x0_7 (Int.toNat x0_2) ((List.getD x0_7 (Int.toNat x0_2) (Ty.dflt TPair)).1, ((List.getD x0_7 (Int.toNat x0_2) (Ty.dflt TPair)).2.1, ((w64 ((List.getD x0_7 (Int.toNat x0_2) (Ty.dflt TPair)).2.2.1 + 0)), (List.getD x0_7 (Int.toNat x0_2) (Ty.dflt TPair)).2.2.2))));
 (inc (List.getD l5 (Int.toNat x0_2) (Ty.dflt TPair)).2.2.1 (ByteArray.size (List.getD l5 (Int.toNat x0_2) (Ty.dflt TPair)).2.1 : Int)
 (let l6 := (List.set l5 (Int.toNat x0_2) ((List.getD l5 (Int.toNat x0_2) (Ty.dflt TPair)).1, ((ByteArray.extract (List.getD l5 (Int.toNat x0_2) (Ty.dflt TPair)).2.1 0 (Int.toNat (List.getD l5 (Int.toNat x0_2) (Ty.dflt TPair)).2.2.1)), (List.getD l5 (Int.toNat x0_2) (Ty.dflt TPair)).2.2)));
 (L0 x0_0 x0_1 (w64 (x0_2 + 1)) x0_3 x0_4 x0_5 x0_6 l6 x0_8 x0_9 x0_10))))))
 else
 (some ((x0_7, (x0_8, ((-1), (false, ())))), ())))
def l0 (k : Nat) : Nat → T0
  | 0 => fun _ _ _ _ _ _ _ _ _ _ _ => none
  | n + 1 => b0 k (l0 k n)
def t (k : Nat) (L0 : T0) (a0 : Ty.den TDisk) (a1 : List Int) : Rs :=
 ((impl_copyDisk.f k a0).bind fun r1 =>
 ((impl_DiskOk.f k a0).bind fun r2 =>
 (bif (!r2.1) then
 (some r1)
 else
 (L0 a1 (List.length r1.1.1 : Int) 0 [] 0 0 false r1.1.1 r1.1.2.1 r1.1.2.2.1 r1.1.2.2.2.1))))
def f (k : Nat) := t k (l0 k k)
end impl_Power
namespace impl_fileAt
abbrev Rs : Type := Option (Int × Unit)
abbrev T0 : Type := ByteArray → List (Ty.den TPair) → Int → Int → Rs
def b0 (k : Nat) (L0 : T0) : T0 := fun x0_0 x0_1 x0_2 x0_3 =>
 (bif (decide (x0_3 < x0_2)) then
 (inb x0_3 (List.length x0_1 : Int)
 (bif (seq (List.getD x0_1 (Int.toNat x0_3) (Ty.dflt TPair)).1 x0_0) then
 (some (x0_3, ()))
 else
 (L0 x0_0 x0_1 x0_2 (w64 (x0_3 + 1)))))
 else
 (some ((-1), ())))
def l0 (k : Nat) : Nat → T0
  | 0 => fun _ _ _ _ => none
  | n + 1 => b0 k (l0 k n)
def t (k : Nat) (L0 : T0) (a0 : Ty.den TDisk) (a1 : ByteArray) : Rs :=
 (L0 a1 a0.1 (List.length a0.1 : Int) 0)
def f (k : Nat) := t k (l0 k k)
end impl_fileAt
namespace impl_FileText
abbrev Rs : Type := Option (ByteArray × Bool × Unit)
def t (k : Nat) (a0 : Ty.den TDisk) (a1 : ByteArray) : Rs :=
 ((impl_fileAt.f k a0 a1).bind fun r1 =>
 (bif (decide (r1.1 < 0)) then
 (some ((⟨#[]⟩ : ByteArray), (false, ())))
 else
 ((impl_DiskOk.f k a0).bind fun r2 =>
 (bif (!r2.1) then
 (some ((⟨#[]⟩ : ByteArray), (false, ())))
 else
 (inb r1.1 (List.length a0.1 : Int)
 (some ((List.getD a0.1 (Int.toNat r1.1) (Ty.dflt TPair)).2.1, (true, ()))))))))
def f (k : Nat) := t k
end impl_FileText
namespace impl_ReadVar
abbrev Rs : Type := Option (Int × Int × Unit)
abbrev T0 : Type := ByteArray → Int → Int → Rs
def b0 (k : Nat) (L0 : T0) : T0 := fun x0_0 x0_1 x0_2 =>
 (bif (decide (x0_2 < 7)) then
 (bif (decide (x0_2 < (ByteArray.size x0_0 : Int))) then
 (inb x0_2 (ByteArray.size x0_0 : Int)
 (bif (decide ((w64 (7 * x0_2)) < 0)) then none else
 (bif (decide ((w64 (byteAt x0_0 x0_2)) ≥ 128)) then
 (L0 x0_0 (w64 (x0_1 + (w64 ((Int.tmod (w64 (byteAt x0_0 x0_2)) 128) * 2 ^ (min (Int.toNat (w64 (7 * x0_2))) (IntKind.bits .i64)))))) (w64 (x0_2 + 1)))
 else
 (bif ((w64 (byteAt x0_0 x0_2)) == 0) then
 (bif (decide (x0_2 > 0)) then
 (some (0, (0, ())))
 else
 (some ((w64 (x0_1 + (w64 ((Int.tmod (w64 (byteAt x0_0 x0_2)) 128) * 2 ^ (min (Int.toNat (w64 (7 * x0_2))) (IntKind.bits .i64)))))), ((w64 (x0_2 + 1)), ()))))
 else
 (some ((w64 (x0_1 + (w64 ((Int.tmod (w64 (byteAt x0_0 x0_2)) 128) * 2 ^ (min (Int.toNat (w64 (7 * x0_2))) (IntKind.bits .i64)))))), ((w64 (x0_2 + 1)), ())))))))
 else
 (some (0, (0, ()))))
 else
 (some (0, (0, ()))))
def l0 (k : Nat) : Nat → T0
  | 0 => fun _ _ _ => none
  | n + 1 => b0 k (l0 k n)
def t (k : Nat) (L0 : T0) (a0 : ByteArray) : Rs :=
 (L0 a0 0 0)
def f (k : Nat) := t k (l0 k k)
end impl_ReadVar
namespace impl_Var
abbrev Rs : Type := Option (ByteArray × Unit)
abbrev T0 : Type := Int → List Int → Rs
def b0 (k : Nat) (L0 : T0) : T0 := fun x0_0 x0_1 =>
 (bif (decide (x0_0 > 127)) then
 (rm (Ty.bytes (.int .u8)) (List.length x0_1 + 1)
 (L0 (w64 (Int.tdiv x0_0 128)) (x0_1 ++ [(IntKind.wrap .u8 (w64 ((Int.tmod x0_0 128) + 128)))])))
 else
 (rm (Ty.bytes (.int .u8)) (List.length x0_1 + 1)
 (some ((bytesOf (x0_1 ++ [(IntKind.wrap .u8 x0_0)])), ()))))
def l0 (k : Nat) : Nat → T0
  | 0 => fun _ _ => none
  | n + 1 => b0 k (l0 k n)
def t (k : Nat) (L0 : T0) (a0 : Int) : Rs :=
 ((impl_in.f k a0 0 562949953421311).bind fun r1 =>
 (bif (!r1.1) then
 (some ((⟨#[]⟩ : ByteArray), ()))
 else
 (L0 a0 [])))
def f (k : Nat) := t k (l0 k k)
end impl_Var
namespace impl_textOf
abbrev Rs : Type := Option (ByteArray × Unit)
def t (k : Nat) (a0 : ByteArray) : Rs :=
 ((impl_Var.f k (ByteArray.size a0 : Int)).bind fun r1 =>
 (cat r1.1 a0
 (some ((r1.1 ++ a0), ()))))
def f (k : Nat) := t k
end impl_textOf
namespace impl_Crc
abbrev Rs : Type := Option (Int × Unit)
abbrev T1 : Type := ByteArray → Int → Int → Int → Rs
abbrev T0 : Type := ByteArray → Int → Int → Rs
def b1 (k : Nat) (L0 : T0) (L1 : T1) : T1 := fun x1_0 x1_1 x1_2 x1_3 =>
 (bif (decide (x1_3 < 8)) then
 (bif ((IntKind.wrap .u32 (((BitVec.ofInt (IntKind.bits .u32) x1_1 &&& BitVec.ofInt (IntKind.bits .u32) 1).toNat : Int))) == 1) then
 (L1 x1_0 (IntKind.wrap .u32 (((BitVec.ofInt (IntKind.bits .u32) (Int.fdiv x1_1 (2 ^ (Int.toNat 1))) ^^^ BitVec.ofInt (IntKind.bits .u32) 2197175160).toNat : Int))) x1_2 (w64 (x1_3 + 1)))
 else
 (L1 x1_0 (Int.fdiv x1_1 (2 ^ (Int.toNat 1))) x1_2 (w64 (x1_3 + 1))))
 else
 (L0 x1_0 x1_1 (w64 (x1_2 + 1))))
def l1 (k : Nat) (L0 : T0) : Nat → T1
  | 0 => fun _ _ _ _ => none
  | n + 1 => b1 k L0 (l1 k L0 n)
def b0 (k : Nat) (L1 : T1) (L0 : T0) : T0 := fun x0_0 x0_1 x0_2 =>
 (bif (decide (x0_2 < (ByteArray.size x0_0 : Int))) then
 (inb x0_2 (ByteArray.size x0_0 : Int)
 (L1 x0_0 (IntKind.wrap .u32 (((BitVec.ofInt (IntKind.bits .u32) x0_1 ^^^ BitVec.ofInt (IntKind.bits .u32) (IntKind.wrap .u32 (byteAt x0_0 x0_2))).toNat : Int))) x0_2 0))
 else
 (some ((w64 (bitNot .u32 x0_1)), ())))
def l0 (k : Nat) : Nat → T0
  | 0 => fun _ _ _ => none
  | n + 1 => b0 k (l1 k (l0 k n) k) (l0 k n)
def t (k : Nat) (L0 : T0) (a0 : ByteArray) : Rs :=
 (L0 a0 4294967295 0)
def f (k : Nat) := t k (l0 k k)
end impl_Crc
namespace impl_Fixed
abbrev Rs : Type := Option (ByteArray × Unit)
abbrev T0 : Type := Int → Int → List Int → Rs
def b0 (k : Nat) (L0 : T0) : T0 := fun x0_0 x0_1 x0_2 =>
 (bif (decide (x0_1 ≥ 0)) then
 (bif (decide ((w64 (8 * x0_1)) < 0)) then none else
 (rm (Ty.bytes (.int .u8)) (List.length x0_2 + 1)
 (L0 x0_0 (w64 (x0_1 - 1)) (x0_2 ++ [(IntKind.wrap .u8 (Int.fdiv x0_0 (2 ^ (min (Int.toNat (w64 (8 * x0_1))) (IntKind.bits .i64)))))]))))
 else
 (some ((bytesOf x0_2), ())))
def l0 (k : Nat) : Nat → T0
  | 0 => fun _ _ _ => none
  | n + 1 => b0 k (l0 k n)
def t (k : Nat) (L0 : T0) (a0 : Int) (a1 : Int) : Rs :=
 ((impl_in.f k a1 1 7).bind fun r1 =>
 (bif (!r1.1) then
 (some ((⟨#[]⟩ : ByteArray), ()))
 else
 (bif (decide ((w64 (8 * a1)) < 0)) then none else
 ((impl_in.f k a0 0 (w64 ((w64 (1 * 2 ^ (min (Int.toNat (w64 (8 * a1))) (IntKind.bits .i64)))) - 1))).bind fun r2 =>
 (bif (!r2.1) then
 (some ((⟨#[]⟩ : ByteArray), ()))
 else
 (L0 a0 (w64 (a1 - 1)) []))))))
def f (k : Nat) := t k (l0 k k)
end impl_Fixed
namespace impl_Frame
abbrev Rs : Type := Option (ByteArray × Unit)
def t (k : Nat) (a0 : ByteArray) : Rs :=
 (bif (decide ((ByteArray.size a0 : Int) > 200)) then
 (some ((⟨#[]⟩ : ByteArray), ()))
 else
 ((impl_textOf.f k a0).bind fun r1 =>
 ((impl_Crc.f k r1.1).bind fun r2 =>
 ((impl_Fixed.f k r2.1 4).bind fun r3 =>
 (cat r3.1 r1.1
 (some ((r3.1 ++ r1.1), ())))))))
def f (k : Nat) := t k
end impl_Frame
namespace impl_Unframe
abbrev Rs : Type := Option (ByteArray × Int × Unit)
def t (k : Nat) (a0 : ByteArray) : Rs :=
 (bif (decide ((ByteArray.size a0 : Int) < 4)) then
 (some ((⟨#[]⟩ : ByteArray), (0, ())))
 else
 (inc 4 (ByteArray.size a0 : Int)
 ((impl_ReadVar.f k (ByteArray.extract a0 4 (ByteArray.size a0))).bind fun r1 =>
 (bif (r1.2.1 == 0) then
 (some ((⟨#[]⟩ : ByteArray), (0, ())))
 else
 (bif (decide (r1.1 > 200)) then
 (some ((⟨#[]⟩ : ByteArray), (0, ())))
 else
 (bif (decide (r1.1 > (w64 ((w64 ((ByteArray.size a0 : Int) - 4)) - r1.2.1)))) then
 (some ((⟨#[]⟩ : ByteArray), (0, ())))
 else
 (inc2 (w64 (4 + r1.2.1)) (w64 ((w64 (4 + r1.2.1)) + r1.1)) (ByteArray.size a0 : Int)
 ((impl_Frame.f k (ByteArray.extract a0 (Int.toNat (w64 (4 + r1.2.1))) (Int.toNat (w64 ((w64 (4 + r1.2.1)) + r1.1))))).bind fun r2 =>
 (inc (w64 ((w64 (4 + r1.2.1)) + r1.1)) (ByteArray.size a0 : Int)
 (bif (!(seq r2.1 (ByteArray.extract a0 0 (Int.toNat (w64 ((w64 (4 + r1.2.1)) + r1.1)))))) then
 (some ((⟨#[]⟩ : ByteArray), (0, ())))
 else
 (some ((ByteArray.extract a0 (Int.toNat (w64 (4 + r1.2.1))) (Int.toNat (w64 ((w64 (4 + r1.2.1)) + r1.1)))), ((w64 ((w64 (4 + r1.2.1)) + r1.1)), ())))))))))))))
def f (k : Nat) := t k
end impl_Unframe
namespace impl_scanner__num
abbrev Rs : Type := Option ((Ty.den Tscanner) × Int × Unit)
def t (k : Nat) (a0 : Ty.den Tscanner) : Rs :=
 ((impl_ReadVar.f k a0.1).bind fun r1 =>
 (bif a0.2.1 then
 (some ((a0.1, (true, ())), (0, ())))
 else
 (bif (r1.2.1 == 0) then
 (some ((a0.1, (true, ())), (0, ())))
 else
 (inc r1.2.1 (ByteArray.size a0.1 : Int)
 (some (((ByteArray.extract a0.1 (Int.toNat r1.2.1) (ByteArray.size a0.1)), a0.2), (r1.1, ())))))))
def f (k : Nat) := t k
end impl_scanner__num
namespace impl_LiveOk
abbrev Rs : Type := Option (Bool × Unit)
abbrev T0 : Type := List Int → Int → Int → Int → List Int → Rs
def b0 (k : Nat) (L0 : T0) : T0 := fun x0_0 x0_1 x0_2 x0_3 x0_4 =>
 (bif (decide (x0_2 < x0_1)) then
 (inb x0_2 (List.length x0_0 : Int)
 ((impl_in.f k (List.getD x0_0 (Int.toNat x0_2) (Ty.dflt (.int .i64))) 1 (w64 (x0_3 - 1))).bind fun r1 =>
 (bif (!r1.1) then
 (some (false, ()))
 else
 (bif (decide (x0_2 > 0)) then
 (inb (w64 (x0_2 - 1)) (List.length x0_4 : Int)
 (bif (decide ((List.getD x0_4 (Int.toNat (w64 (x0_2 - 1))) (Ty.dflt (.int .i64))) ≥ (List.getD x0_0 (Int.toNat x0_2) (Ty.dflt (.int .i64))))) then
 (some (false, ()))
 else
 (L0 x0_0 x0_1 (w64 (x0_2 + 1)) x0_3 x0_4)))
 else
 (L0 x0_0 x0_1 (w64 (x0_2 + 1)) x0_3 x0_4)))))
 else
 ((impl_in.f k x0_3 1 100000).bind fun r2 =>
 (bif r2.1 then
 ((impl_in.f k (List.length x0_4 : Int) 1 60).bind fun r3 =>
 (some r3))
 else
 (some (false, ())))))
def l0 (k : Nat) : Nat → T0
  | 0 => fun _ _ _ _ _ => none
  | n + 1 => b0 k (l0 k n)
def t (k : Nat) (L0 : T0) (a0 : Ty.den TLive) : Rs :=
 (L0 a0.2.1 (List.length a0.2.1 : Int) 0 a0.1 a0.2.1)
def f (k : Nat) := t k (l0 k k)
end impl_LiveOk
namespace impl_ReadLive
abbrev Rs : Type := Option ((Ty.den TLive) × Bool × Unit)
abbrev T0 : Type := ByteArray → Int → Int → Int → List Int → Int → ByteArray → Bool → List Int → Int → Rs
def b0 (k : Nat) (L0 : T0) : T0 := fun x0_0 x0_1 x0_2 x0_3 x0_4 x0_5 x0_6 x0_7 x0_8 x0_9 =>
 (bif (decide (x0_3 < x0_2)) then
 (bif (!x0_7) then
 ((impl_scanner__num.f k (x0_6, (x0_7, ()))).bind fun r4 =>
 (rm (Ty.bytes (.int .i64)) (List.length x0_8 + 1)
 (L0 x0_0 x0_1 x0_2 (w64 (x0_3 + 1)) x0_4 x0_5 r4.1.1 r4.1.2.1 (x0_8 ++ [r4.2.1]) x0_9)))
 else
 (bif (x0_1 == 0) then
 (some ((0, ([], ())), (false, ())))
 else
 (bif (x0_1 != (ByteArray.size x0_0 : Int)) then
 (some ((0, ([], ())), (false, ())))
 else
 (bif x0_7 then
 (some ((0, ([], ())), (false, ())))
 else
 (bif (!(seq x0_6 (⟨#[]⟩ : ByteArray))) then
 (some ((0, ([], ())), (false, ())))
 else
 ((impl_LiveOk.f k (x0_9, (x0_8, ()))).bind fun r5 =>
 (bif (!r5.1) then
 (some ((0, ([], ())), (false, ())))
 else
 (some ((x0_9, (x0_8, ())), (true, ()))))))))))
 else
 (bif (x0_1 == 0) then
 (some ((0, ([], ())), (false, ())))
 else
 (bif (x0_1 != (ByteArray.size x0_0 : Int)) then
 (some ((0, ([], ())), (false, ())))
 else
 (bif x0_7 then
 (some ((0, ([], ())), (false, ())))
 else
 (bif (!(seq x0_6 (⟨#[]⟩ : ByteArray))) then
 (some ((0, ([], ())), (false, ())))
 else
 ((impl_LiveOk.f k (x0_9, (x0_8, ()))).bind fun r6 =>
 (bif (!r6.1) then
 (some ((0, ([], ())), (false, ())))
 else
 (some ((x0_9, (x0_8, ())), (true, ()))))))))))
def l0 (k : Nat) : Nat → T0
  | 0 => fun _ _ _ _ _ _ _ _ _ _ => none
  | n + 1 => b0 k (l0 k n)
def t (k : Nat) (L0 : T0) (a0 : ByteArray) : Rs :=
 ((impl_Unframe.f k a0).bind fun r1 =>
 ((impl_scanner__num.f k (r1.1, (false, ()))).bind fun r2 =>
 ((impl_scanner__num.f k r2.1).bind fun r3 =>
 (L0 a0 r1.2.1 r3.2.1 0 [] 0 r3.1.1 r3.1.2.1 [] r2.2.1))))
def f (k : Nat) := t k (l0 k k)
end impl_ReadLive
namespace impl_Dec
abbrev Rs : Type := Option (ByteArray × Unit)
def t (k : Nat) (a0 : Int) : Rs :=
 ((lib_Itoa.f k a0).bind fun r1 =>
 (some r1))
def f (k : Nat) := t k
end impl_Dec
namespace impl_named
abbrev Rs : Type := Option (ByteArray × Unit)
def t (k : Nat) (a0 : ByteArray) (a1 : Int) : Rs :=
 ((impl_in.f k a1 1 100000).bind fun r1 =>
 (bif (!r1.1) then
 (some ((⟨#[]⟩ : ByteArray), ()))
 else
 ((impl_Dec.f k a1).bind fun r2 =>
 (cat a0 r2.1
 (some ((a0 ++ r2.1), ()))))))
def f (k : Nat) := t k
end impl_named
namespace impl_SegName
abbrev Rs : Type := Option (ByteArray × Unit)
def t (k : Nat) (a0 : Int) : Rs :=
 ((impl_named.f k (⟨#[115, 101, 103]⟩ : ByteArray) a0).bind fun r1 =>
 (some r1))
def f (k : Nat) := t k
end impl_SegName
namespace impl_scanner__bytes
abbrev Rs : Type := Option ((Ty.den Tscanner) × ByteArray × Unit)
def t (k : Nat) (a0 : Ty.den Tscanner) (a1 : Int) : Rs :=
 (bif a0.2.1 then
 (some ((a0.1, (true, ())), ((⟨#[]⟩ : ByteArray), ())))
 else
 (bif (decide (a1 > (ByteArray.size a0.1 : Int))) then
 (some ((a0.1, (true, ())), ((⟨#[]⟩ : ByteArray), ())))
 else
 (inc a1 (ByteArray.size a0.1 : Int)
 (inc a1 (ByteArray.size a0.1 : Int)
 (some (((ByteArray.extract a0.1 (Int.toNat a1) (ByteArray.size a0.1)), a0.2), ((ByteArray.extract a0.1 0 (Int.toNat a1)), ())))))))
def f (k : Nat) := t k
end impl_scanner__bytes
namespace impl_scanner__text
abbrev Rs : Type := Option ((Ty.den Tscanner) × ByteArray × Unit)
def t (k : Nat) (a0 : Ty.den Tscanner) : Rs :=
 ((impl_scanner__num.f k a0).bind fun r1 =>
 ((impl_scanner__bytes.f k r1.1 r1.2.1).bind fun r2 =>
 (some r2)))
def f (k : Nat) := t k
end impl_scanner__text
namespace impl_KeyOk
abbrev Rs : Type := Option (Bool × Unit)
def t (k : Nat) (a0 : ByteArray) : Rs :=
 ((impl_in.f k (ByteArray.size a0 : Int) 1 8).bind fun r1 =>
 (some r1))
def f (k : Nat) := t k
end impl_KeyOk
namespace impl_RecOk
abbrev Rs : Type := Option (Bool × Unit)
def t (k : Nat) (a0 : Ty.den TRec) : Rs :=
 (bif (a0.1 == 1) then
 (bif (a0.1 == 1) then
 ((impl_KeyOk.f k a0.2.2.1).bind fun r1 =>
 (bif r1.1 then
 (bif (decide ((ByteArray.size a0.2.2.2.1 : Int) ≤ 24)) then
 ((impl_in.f k a0.2.1 1 1000000).bind fun r2 =>
 (bif r2.1 then
 (some (((a0.1 == a0.1) && ((a0.2.1 == a0.2.1) && ((seq a0.2.2.1 a0.2.2.1) && ((seq a0.2.2.2.1 a0.2.2.2.1) && ((a0.2.2.2.2.1 == 0) && (a0.2.2.2.2.2.1 == 0)))))), ()))
 else
 (some (false, ()))))
 else
 (some (false, ())))
 else
 (some (false, ()))))
 else
 (bif (a0.1 == 2) then
 ((impl_KeyOk.f k a0.2.2.1).bind fun r3 =>
 (bif r3.1 then
 ((impl_in.f k a0.2.1 1 1000000).bind fun r4 =>
 (bif r4.1 then
 (some (((a0.1 == a0.1) && ((a0.2.1 == a0.2.1) && ((seq a0.2.2.1 a0.2.2.1) && ((seq a0.2.2.2.1 ByteArray.empty) && ((a0.2.2.2.2.1 == 0) && (a0.2.2.2.2.2.1 == 0)))))), ()))
 else
 (some (false, ()))))
 else
 (some (false, ()))))
 else
 (bif (a0.1 == 3) then
 ((impl_in.f k a0.2.2.2.2.1 0 8).bind fun r5 =>
 (bif r5.1 then
 ((impl_in.f k a0.2.2.2.2.2.1 0 4294967295).bind fun r6 =>
 (bif r6.1 then
 ((impl_in.f k a0.2.1 1 1000000).bind fun r7 =>
 (bif r7.1 then
 (some (((a0.1 == a0.1) && ((a0.2.1 == a0.2.1) && ((seq a0.2.2.1 ByteArray.empty) && ((seq a0.2.2.2.1 ByteArray.empty) && ((a0.2.2.2.2.1 == a0.2.2.2.2.1) && (a0.2.2.2.2.2.1 == a0.2.2.2.2.2.1)))))), ()))
 else
 (some (false, ()))))
 else
 (some (false, ()))))
 else
 (some (false, ()))))
 else
 (bif (a0.1 == 5) then
 ((impl_in.f k a0.2.2.2.2.1 0 20).bind fun r8 =>
 (bif r8.1 then
 ((impl_in.f k a0.2.2.2.2.2.1 0 4294967295).bind fun r9 =>
 (bif r9.1 then
 ((impl_in.f k a0.2.1 0 1000000).bind fun r10 =>
 (bif r10.1 then
 (some (((a0.1 == a0.1) && ((a0.2.1 == a0.2.1) && ((seq a0.2.2.1 ByteArray.empty) && ((seq a0.2.2.2.1 ByteArray.empty) && ((a0.2.2.2.2.1 == a0.2.2.2.2.1) && (a0.2.2.2.2.2.1 == a0.2.2.2.2.2.1)))))), ()))
 else
 (some (false, ()))))
 else
 (some (false, ()))))
 else
 (some (false, ()))))
 else
 (some (false, ()))))))
 else
 (bif (a0.1 == 4) then
 ((impl_KeyOk.f k a0.2.2.1).bind fun r11 =>
 (bif r11.1 then
 (bif (decide ((ByteArray.size a0.2.2.2.1 : Int) ≤ 24)) then
 ((impl_in.f k a0.2.1 1 1000000).bind fun r12 =>
 (bif r12.1 then
 (some (((a0.1 == a0.1) && ((a0.2.1 == a0.2.1) && ((seq a0.2.2.1 a0.2.2.1) && ((seq a0.2.2.2.1 a0.2.2.2.1) && ((a0.2.2.2.2.1 == 0) && (a0.2.2.2.2.2.1 == 0)))))), ()))
 else
 (some (false, ()))))
 else
 (some (false, ())))
 else
 (some (false, ()))))
 else
 (bif (a0.1 == 2) then
 ((impl_KeyOk.f k a0.2.2.1).bind fun r13 =>
 (bif r13.1 then
 ((impl_in.f k a0.2.1 1 1000000).bind fun r14 =>
 (bif r14.1 then
 (some (((a0.1 == a0.1) && ((a0.2.1 == a0.2.1) && ((seq a0.2.2.1 a0.2.2.1) && ((seq a0.2.2.2.1 ByteArray.empty) && ((a0.2.2.2.2.1 == 0) && (a0.2.2.2.2.2.1 == 0)))))), ()))
 else
 (some (false, ()))))
 else
 (some (false, ()))))
 else
 (bif (a0.1 == 3) then
 ((impl_in.f k a0.2.2.2.2.1 0 8).bind fun r15 =>
 (bif r15.1 then
 ((impl_in.f k a0.2.2.2.2.2.1 0 4294967295).bind fun r16 =>
 (bif r16.1 then
 ((impl_in.f k a0.2.1 1 1000000).bind fun r17 =>
 (bif r17.1 then
 (some (((a0.1 == a0.1) && ((a0.2.1 == a0.2.1) && ((seq a0.2.2.1 ByteArray.empty) && ((seq a0.2.2.2.1 ByteArray.empty) && ((a0.2.2.2.2.1 == a0.2.2.2.2.1) && (a0.2.2.2.2.2.1 == a0.2.2.2.2.2.1)))))), ()))
 else
 (some (false, ()))))
 else
 (some (false, ()))))
 else
 (some (false, ()))))
 else
 (bif (a0.1 == 5) then
 ((impl_in.f k a0.2.2.2.2.1 0 20).bind fun r18 =>
 (bif r18.1 then
 ((impl_in.f k a0.2.2.2.2.2.1 0 4294967295).bind fun r19 =>
 (bif r19.1 then
 ((impl_in.f k a0.2.1 0 1000000).bind fun r20 =>
 (bif r20.1 then
 (some (((a0.1 == a0.1) && ((a0.2.1 == a0.2.1) && ((seq a0.2.2.1 ByteArray.empty) && ((seq a0.2.2.2.1 ByteArray.empty) && ((a0.2.2.2.2.1 == a0.2.2.2.2.1) && (a0.2.2.2.2.2.1 == a0.2.2.2.2.2.1)))))), ()))
 else
 (some (false, ()))))
 else
 (some (false, ()))))
 else
 (some (false, ()))))
 else
 (some (false, ())))))))
def f (k : Nat) := t k
end impl_RecOk
namespace impl_ReadFixed
abbrev Rs : Type := Option (Int × Bool × Unit)
abbrev T0 : Type := ByteArray → Int → Int → Int → Rs
def b0 (k : Nat) (L0 : T0) : T0 := fun x0_0 x0_1 x0_2 x0_3 =>
 (bif (decide (x0_3 < x0_2)) then
 (inb x0_3 (ByteArray.size x0_0 : Int)
 (L0 x0_0 (w64 (((BitVec.ofInt (IntKind.bits .i64) (w64 (x0_1 * 2 ^ (min (Int.toNat 8) (IntKind.bits .i64)))) ||| BitVec.ofInt (IntKind.bits .i64) (w64 (byteAt x0_0 x0_3))).toNat : Int))) x0_2 (w64 (x0_3 + 1))))
 else
 (some (x0_1, (true, ()))))
def l0 (k : Nat) : Nat → T0
  | 0 => fun _ _ _ _ => none
  | n + 1 => b0 k (l0 k n)
def t (k : Nat) (L0 : T0) (a0 : ByteArray) (a1 : Int) : Rs :=
 ((impl_in.f k a1 1 7).bind fun r1 =>
 (bif (!r1.1) then
 (some (0, (false, ())))
 else
 (bif (decide ((ByteArray.size a0 : Int) < a1)) then
 (some (0, (false, ())))
 else
 (L0 a0 0 a1 0))))
def f (k : Nat) := t k (l0 k k)
end impl_ReadFixed
namespace impl_ReadRec
abbrev Rs : Type := Option ((Ty.den TRec) × Bool × Unit)
def t (k : Nat) (a0 : ByteArray) : Rs :=
 ((impl_scanner__num.f k (a0, (false, ()))).bind fun r1 =>
 ((impl_scanner__num.f k r1.1).bind fun r2 =>
 (bif (r1.2.1 == 1) then
 (bif (r1.2.1 == 1) then
 ((impl_scanner__text.f k r2.1).bind fun r3 =>
 ((impl_scanner__text.f k r3.1).bind fun r4 =>
 (bif r4.1.2.1 then
 (some ((0, (0, (ByteArray.empty, (ByteArray.empty, (0, (0, ())))))), (false, ())))
 else
 (bif (!(seq r4.1.1 (⟨#[]⟩ : ByteArray))) then
 (some ((0, (0, (ByteArray.empty, (ByteArray.empty, (0, (0, ())))))), (false, ())))
 else
 ((impl_RecOk.f k (r1.2.1, (r2.2.1, (r3.2.1, (r4.2.1, (0, (0, ()))))))).bind fun r5 =>
 (bif (!r5.1) then
 (some ((0, (0, (ByteArray.empty, (ByteArray.empty, (0, (0, ())))))), (false, ())))
 else
 (some ((r1.2.1, (r2.2.1, (r3.2.1, (r4.2.1, (0, (0, ())))))), (true, ())))))))))
 else
 (bif (r1.2.1 == 2) then
 ((impl_scanner__text.f k r2.1).bind fun r6 =>
 (bif r6.1.2.1 then
 (some ((0, (0, (ByteArray.empty, (ByteArray.empty, (0, (0, ())))))), (false, ())))
 else
 (bif (!(seq r6.1.1 (⟨#[]⟩ : ByteArray))) then
 (some ((0, (0, (ByteArray.empty, (ByteArray.empty, (0, (0, ())))))), (false, ())))
 else
 ((impl_RecOk.f k (r1.2.1, (r2.2.1, (r6.2.1, (ByteArray.empty, (0, (0, ()))))))).bind fun r7 =>
 (bif (!r7.1) then
 (some ((0, (0, (ByteArray.empty, (ByteArray.empty, (0, (0, ())))))), (false, ())))
 else
 (some ((r1.2.1, (r2.2.1, (r6.2.1, (ByteArray.empty, (0, (0, ())))))), (true, ()))))))))
 else
 ((impl_scanner__num.f k r2.1).bind fun r8 =>
 ((impl_scanner__bytes.f k r8.1 4).bind fun r9 =>
 ((impl_ReadFixed.f k r9.2.1 4).bind fun r10 =>
 (bif r9.1.2.1 then
 (some ((0, (0, (ByteArray.empty, (ByteArray.empty, (0, (0, ())))))), (false, ())))
 else
 (bif (!(seq r9.1.1 (⟨#[]⟩ : ByteArray))) then
 (some ((0, (0, (ByteArray.empty, (ByteArray.empty, (0, (0, ())))))), (false, ())))
 else
 ((impl_RecOk.f k (r1.2.1, (r2.2.1, (ByteArray.empty, (ByteArray.empty, (r8.2.1, (r10.1, ()))))))).bind fun r11 =>
 (bif (!r11.1) then
 (some ((0, (0, (ByteArray.empty, (ByteArray.empty, (0, (0, ())))))), (false, ())))
 else
 (some ((r1.2.1, (r2.2.1, (ByteArray.empty, (ByteArray.empty, (r8.2.1, (r10.1, ())))))), (true, ()))))))))))))
 else
 (bif (r1.2.1 == 4) then
 ((impl_scanner__text.f k r2.1).bind fun r12 =>
 ((impl_scanner__text.f k r12.1).bind fun r13 =>
 (bif r13.1.2.1 then
 (some ((0, (0, (ByteArray.empty, (ByteArray.empty, (0, (0, ())))))), (false, ())))
 else
 (bif (!(seq r13.1.1 (⟨#[]⟩ : ByteArray))) then
 (some ((0, (0, (ByteArray.empty, (ByteArray.empty, (0, (0, ())))))), (false, ())))
 else
 ((impl_RecOk.f k (r1.2.1, (r2.2.1, (r12.2.1, (r13.2.1, (0, (0, ()))))))).bind fun r14 =>
 (bif (!r14.1) then
 (some ((0, (0, (ByteArray.empty, (ByteArray.empty, (0, (0, ())))))), (false, ())))
 else
 (some ((r1.2.1, (r2.2.1, (r12.2.1, (r13.2.1, (0, (0, ())))))), (true, ())))))))))
 else
 (bif (r1.2.1 == 2) then
 ((impl_scanner__text.f k r2.1).bind fun r15 =>
 (bif r15.1.2.1 then
 (some ((0, (0, (ByteArray.empty, (ByteArray.empty, (0, (0, ())))))), (false, ())))
 else
 (bif (!(seq r15.1.1 (⟨#[]⟩ : ByteArray))) then
 (some ((0, (0, (ByteArray.empty, (ByteArray.empty, (0, (0, ())))))), (false, ())))
 else
 ((impl_RecOk.f k (r1.2.1, (r2.2.1, (r15.2.1, (ByteArray.empty, (0, (0, ()))))))).bind fun r16 =>
 (bif (!r16.1) then
 (some ((0, (0, (ByteArray.empty, (ByteArray.empty, (0, (0, ())))))), (false, ())))
 else
 (some ((r1.2.1, (r2.2.1, (r15.2.1, (ByteArray.empty, (0, (0, ())))))), (true, ()))))))))
 else
 ((impl_scanner__num.f k r2.1).bind fun r17 =>
 ((impl_scanner__bytes.f k r17.1 4).bind fun r18 =>
 ((impl_ReadFixed.f k r18.2.1 4).bind fun r19 =>
 (bif r18.1.2.1 then
 (some ((0, (0, (ByteArray.empty, (ByteArray.empty, (0, (0, ())))))), (false, ())))
 else
 (bif (!(seq r18.1.1 (⟨#[]⟩ : ByteArray))) then
 (some ((0, (0, (ByteArray.empty, (ByteArray.empty, (0, (0, ())))))), (false, ())))
 else
 ((impl_RecOk.f k (r1.2.1, (r2.2.1, (ByteArray.empty, (ByteArray.empty, (r17.2.1, (r19.1, ()))))))).bind fun r20 =>
 (bif (!r20.1) then
 (some ((0, (0, (ByteArray.empty, (ByteArray.empty, (0, (0, ())))))), (false, ())))
 else
 (some ((r1.2.1, (r2.2.1, (ByteArray.empty, (ByteArray.empty, (r17.2.1, (r19.1, ())))))), (true, ())))))))))))))))
def f (k : Nat) := t k
end impl_ReadRec
namespace impl_ScanRecs
abbrev Rs : Type := Option ((List (Ty.den TSpot)) × Int × Unit)
abbrev T0 : Type := ByteArray → Int → List (Ty.den TSpot) → Rs
def b0 (k : Nat) (L0 : T0) : T0 := fun x0_0 x0_1 x0_2 =>
 (inc x0_1 (ByteArray.size x0_0 : Int)
 ((impl_Unframe.f k (ByteArray.extract x0_0 (Int.toNat x0_1) (ByteArray.size x0_0))).bind fun r1 =>
 ((impl_ReadRec.f k r1.1).bind fun r2 =>
 (bif (r1.2.1 == 0) then
 (some (x0_2, (x0_1, ())))
 else
 (bif (!r2.2.1) then
 (some (x0_2, (x0_1, ())))
 else
 (rm (Ty.bytes TSpot) (List.length x0_2 + 1)
 (L0 x0_0 (w64 (x0_1 + r1.2.1)) (x0_2 ++ [(x0_1, (r1.2.1, (r2.1, ())))]))))))))
def l0 (k : Nat) : Nat → T0
  | 0 => fun _ _ _ => none
  | n + 1 => b0 k (l0 k n)
def t (k : Nat) (L0 : T0) (a0 : ByteArray) : Rs :=
 (L0 a0 0 [])
def f (k : Nat) := t k (l0 k k)
end impl_ScanRecs
namespace impl_placed
abbrev Rs : Type := Option ((List (Ty.den TPlace)) × Unit)
abbrev T0 : Type := Int → List (Ty.den TSpot) → Int → Int → List (Ty.den TPlace) → Rs
def b0 (k : Nat) (L0 : T0) : T0 := fun x0_0 x0_1 x0_2 x0_3 x0_4 =>
 (bif (decide (x0_3 < x0_2)) then
 (inb x0_3 (List.length x0_1 : Int)
 (rm (Ty.bytes TPlace) (List.length x0_4 + 1)
 (L0 x0_0 x0_1 x0_2 (w64 (x0_3 + 1)) (x0_4 ++ [(x0_0, (List.getD x0_1 (Int.toNat x0_3) (Ty.dflt TSpot)))]))))
 else
 (some (x0_4, ())))
def l0 (k : Nat) : Nat → T0
  | 0 => fun _ _ _ _ _ => none
  | n + 1 => b0 k (l0 k n)
def t (k : Nat) (L0 : T0) (a0 : Int) (a1 : List (Ty.den TSpot)) : Rs :=
 (L0 a0 a1 (List.length a1 : Int) 0 [])
def f (k : Nat) := t k (l0 k k)
end impl_placed
namespace impl_worker__scanAll
abbrev Rs : Type := Option ((Ty.den Tworker) × (List (List (Ty.den TPlace))) × Int × Bool × Unit)
abbrev T0 : Type := Int → List Int → Int → Int → List (Ty.den TPair) → Int → Int → Bool → Int → Int → List Int → List (List (Ty.den TPlace)) → Rs
def b0 (k : Nat) (L0 : T0) : T0 := fun x0_0 x0_1 x0_2 x0_3 x0_4 x0_5 x0_6 x0_7 x0_8 x0_9 x0_10 x0_11 =>
 (bif (decide (x0_3 < x0_2)) then
 (inb x0_3 (List.length x0_1 : Int)
 ((impl_SegName.f k (List.getD x0_1 (Int.toNat x0_3) (Ty.dflt (.int .i64)))).bind fun r1 =>
 ((impl_FileText.f k (x0_4, (x0_5, (x0_6, (x0_7, ())))) r1.1).bind fun r2 =>
 ((impl_ScanRecs.f k r2.1).bind fun r3 =>
 (bif (!r2.2.1) then
 (some (((x0_4, (x0_5, (x0_6, (x0_7, ())))), (x0_8, ())), ([], (0, (false, ())))))
 else
 (bif (decide (x0_3 < (w64 ((List.length x0_10 : Int) - 1)))) then
 (bif (r3.2.1 != (ByteArray.size r2.1 : Int)) then
 (some (((x0_4, (x0_5, (x0_6, (x0_7, ())))), (x0_8, ())), ([], (0, (false, ())))))
 else
 ((impl_placed.f k (List.getD x0_1 (Int.toNat x0_3) (Ty.dflt (.int .i64))) r3.1).bind fun r4 =>
 (rm (Ty.bytes (.slice TPlace)) (List.length x0_11 + 1)
 (L0 r3.2.1 x0_1 x0_2 (w64 (x0_3 + 1)) x0_4 x0_5 x0_6 x0_7 x0_8 x0_9 x0_10 (x0_11 ++ [r4.1])))))
 else
 ((impl_placed.f k (List.getD x0_1 (Int.toNat x0_3) (Ty.dflt (.int .i64))) r3.1).bind fun r5 =>
 (rm (Ty.bytes (.slice TPlace)) (List.length x0_11 + 1)
 (L0 r3.2.1 x0_1 x0_2 (w64 (x0_3 + 1)) x0_4 x0_5 x0_6 x0_7 x0_8 x0_9 x0_10 (x0_11 ++ [r5.1]))))))))))
 else
 (some (((x0_4, (x0_5, (x0_6, (x0_7, ())))), (x0_8, ())), (x0_11, (x0_0, (true, ()))))))
def l0 (k : Nat) : Nat → T0
  | 0 => fun _ _ _ _ _ _ _ _ _ _ _ _ => none
  | n + 1 => b0 k (l0 k n)
def t (k : Nat) (L0 : T0) (a0 : Ty.den Tworker) (a1 : Ty.den TLive) : Rs :=
 (L0 0 a1.2.1 (List.length a1.2.1 : Int) 0 a0.1.1 a0.1.2.1 a0.1.2.2.1 a0.1.2.2.2.1 a0.2.1 a1.1 a1.2.1 [])
def f (k : Nat) := t k (l0 k k)
end impl_worker__scanAll
namespace impl_Truncate_1
abbrev Rs : Type := Option ((Ty.den TDisk) × ByteArray × Int × Int × Unit)
def t (k : Nat) (a0 : Ty.den TDisk) (a1 : ByteArray) (a2 : Int) : Rs :=
 ((impl_fileAt.f k a0 a1).bind fun r1 =>
 (bif (decide (r1.1 < 0)) then
 (some (a0, (a1, (a2, (3, ())))))
 else
 (inb r1.1 (List.length a0.1 : Int)
 ((impl_in.f k a2 0 (ByteArray.size (List.getD a0.1 (Int.toNat r1.1) (Ty.dflt TPair)).2.1 : Int)).bind fun r2 =>
 (bif (!r2.1) then
 (some (a0, (a1, (a2, (5, ())))))
 else
 (inc a2 (ByteArray.size (List.getD a0.1 (Int.toNat r1.1) (Ty.dflt TPair)).2.1 : Int)
 (let l3 := (List.set a0.1 (Int.toNat r1.1) ((List.getD a0.1 (Int.toNat r1.1) (Ty.dflt TPair)).1, ((ByteArray.extract (List.getD a0.1 (Int.toNat r1.1) (Ty.dflt TPair)).2.1 0 (Int.toNat a2)), (List.getD a0.1 (Int.toNat r1.1) (Ty.dflt TPair)).2.2)));
 (let l4 := (List.set l3 (Int.toNat r1.1) ((List.getD l3 (Int.toNat r1.1) (Ty.dflt TPair)).1, ((List.getD l3 (Int.toNat r1.1) (Ty.dflt TPair)).2.1, ((if a2 < (List.getD a0.1 (Int.toNat r1.1) (Ty.dflt TPair)).2.2.1 then a2 else (List.getD a0.1 (Int.toNat r1.1) (Ty.dflt TPair)).2.2.1), (List.getD l3 (Int.toNat r1.1) (Ty.dflt TPair)).2.2.2))));
 (some ((l4, a0.2), (a1, (a2, (0, ())))))))))))))
def f (k : Nat) := t k
end impl_Truncate_1
namespace impl_step_Truncate_1
abbrev Rs : Type := Option (ByteArray × Int × (Ty.den TDisk) × Int × Unit)
def t (k : Nat) (a0 : Ty.den TDisk) (a1 : ByteArray) (a2 : Int) : Rs :=
 ((impl_copyDisk.f k a0).bind fun r1 =>
 ((impl_DiskOk.f k a0).bind fun r2 =>
 (bif (!r2.1) then
 (some (a1, (a2, (r1.1, (5, ())))))
 else
 (bif a0.2.2.2.1 then
 (some (a1, (a2, ((r1.1.1, (r1.1.2.1, (r1.1.2.2.1, (true, ())))), (1, ())))))
 else
 (bif (a0.2.2.1 == 0) then
 (some (a1, (a2, ((r1.1.1, (r1.1.2.1, (r1.1.2.2.1, (true, ())))), (1, ())))))
 else
 (bif (decide (a0.2.2.1 > 0)) then
 ((impl_Truncate_1.f k (r1.1.1, (r1.1.2.1, ((w64 (r1.1.2.2.1 - 1)), r1.1.2.2.2))) a1 a2).bind fun r3 =>
 (some (r3.2.1, (r3.2.2.1, (r3.1, r3.2.2.2)))))
 else
 ((impl_Truncate_1.f k r1.1 a1 a2).bind fun r4 =>
 (some (r4.2.1, (r4.2.2.1, (r4.1, r4.2.2.2)))))))))))
def f (k : Nat) := t k
end impl_step_Truncate_1
namespace impl_Truncate
abbrev Rs : Type := Option ((Ty.den TDisk) × Int × Unit)
def t (k : Nat) (a0 : Ty.den TDisk) (a1 : ByteArray) (a2 : Int) : Rs :=
 ((impl_step_Truncate_1.f k a0 a1 a2).bind fun r1 =>
 (some r1.2.2))
def f (k : Nat) := t k
end impl_Truncate
namespace impl_told
abbrev Rs : Type := Option (Int × Unit)
def t (k : Nat) (a0 : Int) : Rs :=
 (bif (a0 == 0) then
 (some (0, ()))
 else
 (bif (a0 == 1) then
 (some (1, ()))
 else
 (bif (a0 == 2) then
 (some (2, ()))
 else
 (some (3, ())))))
def f (k : Nat) := t k
end impl_told
namespace impl_worker__took_g1
abbrev Rs : Type := Option ((Ty.den Tworker) × Unit)
def t (k : Nat) (a0 : Ty.den Tworker) (a1 : Ty.den TDisk) (a2 : Int) : Rs :=
 ((impl_told.f k a2).bind fun r1 =>
 (some ((a1, r1), ())))
def f (k : Nat) := t k
end impl_worker__took_g1
namespace impl_Sync_1
abbrev Rs : Type := Option ((Ty.den TDisk) × ByteArray × Int × Unit)
def t (k : Nat) (a0 : Ty.den TDisk) (a1 : ByteArray) : Rs :=
 ((impl_fileAt.f k a0 a1).bind fun r1 =>
 (bif (decide (r1.1 < 0)) then
 (some (a0, (a1, (3, ()))))
 else
 (inb r1.1 (List.length a0.1 : Int)
 (inb r1.1 (List.length a0.1 : Int)
 (let l2 := (List.set a0.1 (Int.toNat r1.1) ((List.getD a0.1 (Int.toNat r1.1) (Ty.dflt TPair)).1, ((List.getD a0.1 (Int.toNat r1.1) (Ty.dflt TPair)).2.1, ((ByteArray.size (List.getD a0.1 (Int.toNat r1.1) (Ty.dflt TPair)).2.1 : Int), (List.getD a0.1 (Int.toNat r1.1) (Ty.dflt TPair)).2.2.2))));
 (some ((l2, a0.2), (a1, (0, ())))))))))
def f (k : Nat) := t k
end impl_Sync_1
namespace impl_step_Sync_1
abbrev Rs : Type := Option (ByteArray × (Ty.den TDisk) × Int × Unit)
def t (k : Nat) (a0 : Ty.den TDisk) (a1 : ByteArray) : Rs :=
 ((impl_copyDisk.f k a0).bind fun r1 =>
 ((impl_DiskOk.f k a0).bind fun r2 =>
 (bif (!r2.1) then
 (some (a1, (r1.1, (5, ()))))
 else
 (bif a0.2.2.2.1 then
 (some (a1, ((r1.1.1, (r1.1.2.1, (r1.1.2.2.1, (true, ())))), (1, ()))))
 else
 (bif (a0.2.2.1 == 0) then
 (some (a1, ((r1.1.1, (r1.1.2.1, (r1.1.2.2.1, (true, ())))), (1, ()))))
 else
 (bif (decide (a0.2.2.1 > 0)) then
 ((impl_Sync_1.f k (r1.1.1, (r1.1.2.1, ((w64 (r1.1.2.2.1 - 1)), r1.1.2.2.2))) a1).bind fun r3 =>
 (some (r3.2.1, (r3.1, r3.2.2))))
 else
 ((impl_Sync_1.f k r1.1 a1).bind fun r4 =>
 (some (r4.2.1, (r4.1, r4.2.2))))))))))
def f (k : Nat) := t k
end impl_step_Sync_1
namespace impl_Sync
abbrev Rs : Type := Option ((Ty.den TDisk) × Int × Unit)
def t (k : Nat) (a0 : Ty.den TDisk) (a1 : ByteArray) : Rs :=
 ((impl_step_Sync_1.f k a0 a1).bind fun r1 =>
 (some r1.2))
def f (k : Nat) := t k
end impl_Sync
namespace impl_worker__sync
abbrev Rs : Type := Option ((Ty.den Tworker) × Unit)
def t (k : Nat) (a0 : Ty.den Tworker) (a1 : ByteArray) : Rs :=
 (bif (a0.2.1 == 0) then
 ((impl_Sync.f k a0.1 a1).bind fun r1 =>
 ((impl_worker__took_g1.f k a0 r1.1 r1.2.1).bind fun r2 =>
 (some r2)))
 else
 (some (a0, ())))
def f (k : Nat) := t k
end impl_worker__sync
namespace impl_HintName
abbrev Rs : Type := Option (ByteArray × Unit)
def t (k : Nat) (a0 : Int) : Rs :=
 ((impl_named.f k (⟨#[104, 105, 110, 116]⟩ : ByteArray) a0).bind fun r1 =>
 (some r1))
def f (k : Nat) := t k
end impl_HintName
namespace impl_DirOk
abbrev Rs : Type := Option (Bool × Unit)
abbrev T0 : Type := List (Ty.den TEntry) → List (Ty.den TEntry) → Int → Int → Rs
def b0 (k : Nat) (L0 : T0) : T0 := fun x0_0 x0_1 x0_2 x0_3 =>
 (bif (decide (x0_3 < x0_2)) then
 (inb x0_3 (List.length x0_1 : Int)
 ((impl_KeyOk.f k (List.getD x0_1 (Int.toNat x0_3) (Ty.dflt TEntry)).1).bind fun r1 =>
 (bif (!r1.1) then
 (some (false, ()))
 else
 ((impl_in.f k (List.getD x0_1 (Int.toNat x0_3) (Ty.dflt TEntry)).2.1 1 100000).bind fun r2 =>
 (bif (!r2.1) then
 (some (false, ()))
 else
 (bif (decide ((List.getD x0_1 (Int.toNat x0_3) (Ty.dflt TEntry)).2.2.1 < 0)) then
 (some (false, ()))
 else
 ((impl_in.f k (List.getD x0_1 (Int.toNat x0_3) (Ty.dflt TEntry)).2.2.2.1 1 210).bind fun r3 =>
 (bif (!r3.1) then
 (some (false, ()))
 else
 ((impl_in.f k (List.getD x0_1 (Int.toNat x0_3) (Ty.dflt TEntry)).2.2.2.2.1 1 1000000).bind fun r4 =>
 (bif (!r4.1) then
 (some (false, ()))
 else
 (bif (decide (x0_3 > 0)) then
 (inb (w64 (x0_3 - 1)) (List.length x0_0 : Int)
 (bif (!(sls (List.getD x0_0 (Int.toNat (w64 (x0_3 - 1))) (Ty.dflt TEntry)).1 (List.getD x0_1 (Int.toNat x0_3) (Ty.dflt TEntry)).1)) then
 (some (false, ()))
 else
 (L0 x0_0 x0_1 x0_2 (w64 (x0_3 + 1)))))
 else
 (L0 x0_0 x0_1 x0_2 (w64 (x0_3 + 1))))))))))))))
 else
 (some ((decide ((List.length x0_0 : Int) ≤ 20)), ())))
def l0 (k : Nat) : Nat → T0
  | 0 => fun _ _ _ _ => none
  | n + 1 => b0 k (l0 k n)
def t (k : Nat) (L0 : T0) (a0 : List (Ty.den TEntry)) : Rs :=
 (L0 a0 a0 (List.length a0 : Int) 0)
def f (k : Nat) := t k (l0 k k)
end impl_DirOk
namespace impl_hintOk
abbrev Rs : Type := Option (Bool × Unit)
abbrev T0 : Type := List (Ty.den TEntry) → Int → Int → Int → Int → List (Ty.den TEntry) → Rs
def b0 (k : Nat) (L0 : T0) : T0 := fun x0_0 x0_1 x0_2 x0_3 x0_4 x0_5 =>
 (bif (decide (x0_2 < x0_1)) then
 (inb x0_2 (List.length x0_0 : Int)
 (inb 0 (List.length x0_5 : Int)
 (bif ((List.getD x0_0 (Int.toNat x0_2) (Ty.dflt TEntry)).2.1 != (List.getD x0_5 0 (Ty.dflt TEntry)).2.1) then
 (some (false, ()))
 else
 (bif (decide ((List.getD x0_0 (Int.toNat x0_2) (Ty.dflt TEntry)).2.2.1 > 100000)) then
 (some (false, ()))
 else
 (L0 x0_0 x0_1 (w64 (x0_2 + 1)) x0_3 x0_4 x0_5)))))
 else
 ((impl_in.f k x0_3 0 100000).bind fun r1 =>
 (bif r1.1 then
 ((impl_in.f k x0_4 0 1000000).bind fun r2 =>
 (bif r2.1 then
 ((impl_DirOk.f k x0_5).bind fun r3 =>
 (some r3))
 else
 (some (false, ()))))
 else
 (some (false, ())))))
def l0 (k : Nat) : Nat → T0
  | 0 => fun _ _ _ _ _ _ => none
  | n + 1 => b0 k (l0 k n)
def t (k : Nat) (L0 : T0) (a0 : Ty.den THint) : Rs :=
 (L0 a0.2.2.1 (List.length a0.2.2.1 : Int) 0 a0.1 a0.2.1 a0.2.2.1)
def f (k : Nat) := t k (l0 k k)
end impl_hintOk
namespace impl_vars
abbrev Rs : Type := Option (ByteArray × Unit)
abbrev T0 : Type := ByteArray → List Int → Int → Int → Rs
def b0 (k : Nat) (L0 : T0) : T0 := fun x0_0 x0_1 x0_2 x0_3 =>
 (bif (decide (x0_3 < x0_2)) then
 (inb x0_3 (List.length x0_1 : Int)
 ((impl_Var.f k (List.getD x0_1 (Int.toNat x0_3) (Ty.dflt (.int .i64)))).bind fun r1 =>
 (cat x0_0 r1.1
 (L0 (x0_0 ++ r1.1) x0_1 x0_2 (w64 (x0_3 + 1))))))
 else
 (some (x0_0, ())))
def l0 (k : Nat) : Nat → T0
  | 0 => fun _ _ _ _ => none
  | n + 1 => b0 k (l0 k n)
def t (k : Nat) (L0 : T0) (a0 : List Int) : Rs :=
 (L0 (⟨#[]⟩ : ByteArray) a0 (List.length a0 : Int) 0)
def f (k : Nat) := t k (l0 k k)
end impl_vars
namespace impl_ShowHint
abbrev Rs : Type := Option (ByteArray × Unit)
abbrev T0 : Type := ByteArray → List (Ty.den TEntry) → Int → Int → Rs
def b0 (k : Nat) (L0 : T0) : T0 := fun x0_0 x0_1 x0_2 x0_3 =>
 (bif (decide (x0_3 < x0_2)) then
 (inb x0_3 (List.length x0_1 : Int)
 ((impl_textOf.f k (List.getD x0_1 (Int.toNat x0_3) (Ty.dflt TEntry)).1).bind fun r3 =>
 ((impl_vars.f k [(List.getD x0_1 (Int.toNat x0_3) (Ty.dflt TEntry)).2.1, (List.getD x0_1 (Int.toNat x0_3) (Ty.dflt TEntry)).2.2.1, (List.getD x0_1 (Int.toNat x0_3) (Ty.dflt TEntry)).2.2.2.1, (List.getD x0_1 (Int.toNat x0_3) (Ty.dflt TEntry)).2.2.2.2.1]).bind fun r4 =>
 (cat r3.1 r4.1
 (cat x0_0 (r3.1 ++ r4.1)
 (L0 (x0_0 ++ (r3.1 ++ r4.1)) x0_1 x0_2 (w64 (x0_3 + 1))))))))
 else
 ((impl_Crc.f k x0_0).bind fun r5 =>
 ((impl_Fixed.f k r5.1 4).bind fun r6 =>
 (cat r6.1 x0_0
 (some ((r6.1 ++ x0_0), ()))))))
def l0 (k : Nat) : Nat → T0
  | 0 => fun _ _ _ _ => none
  | n + 1 => b0 k (l0 k n)
def t (k : Nat) (L0 : T0) (a0 : Ty.den THint) : Rs :=
 ((impl_hintOk.f k a0).bind fun r1 =>
 (bif (!r1.1) then
 (some ((⟨#[]⟩ : ByteArray), ()))
 else
 ((impl_vars.f k [a0.1, a0.2.1, (List.length a0.2.2.1 : Int)]).bind fun r2 =>
 (L0 r2.1 a0.2.2.1 (List.length a0.2.2.1 : Int) 0))))
def f (k : Nat) := t k (l0 k k)
end impl_ShowHint
namespace impl_ReadHint
abbrev Rs : Type := Option ((Ty.den THint) × Bool × Unit)
abbrev T0 : Type := ByteArray → Int → Int → List (Ty.den TEntry) → Int → Int → ByteArray → Bool → List (Ty.den TEntry) → Int → Int → Rs
def b0 (k : Nat) (L0 : T0) : T0 := fun x0_0 x0_1 x0_2 x0_3 x0_4 x0_5 x0_6 x0_7 x0_8 x0_9 x0_10 =>
 (bif (decide (x0_2 < x0_1)) then
 (bif (!x0_7) then
 ((impl_scanner__text.f k (x0_6, (x0_7, ()))).bind fun r5 =>
 ((impl_scanner__num.f k r5.1).bind fun r6 =>
 ((impl_scanner__num.f k r6.1).bind fun r7 =>
 ((impl_scanner__num.f k r7.1).bind fun r8 =>
 ((impl_scanner__num.f k r8.1).bind fun r9 =>
 (rm (Ty.bytes TEntry) (List.length x0_8 + 1)
 (L0 x0_0 x0_1 (w64 (x0_2 + 1)) x0_3 x0_4 x0_5 r9.1.1 r9.1.2.1 (x0_8 ++ [(r5.2.1, (r6.2.1, (r7.2.1, (r8.2.1, r9.2))))]) x0_9 x0_10)))))))
 else
 (bif x0_7 then
 (some ((0, (0, ([], ()))), (false, ())))
 else
 ((impl_hintOk.f k (x0_9, (x0_10, (x0_8, ())))).bind fun r10 =>
 (bif (!r10.1) then
 (some ((0, (0, ([], ()))), (false, ())))
 else
 ((impl_ShowHint.f k (x0_9, (x0_10, (x0_8, ())))).bind fun r11 =>
 (bif (!(seq r11.1 x0_0)) then
 (some ((0, (0, ([], ()))), (false, ())))
 else
 (some ((x0_9, (x0_10, (x0_8, ()))), (true, ())))))))))
 else
 (bif x0_7 then
 (some ((0, (0, ([], ()))), (false, ())))
 else
 ((impl_hintOk.f k (x0_9, (x0_10, (x0_8, ())))).bind fun r12 =>
 (bif (!r12.1) then
 (some ((0, (0, ([], ()))), (false, ())))
 else
 ((impl_ShowHint.f k (x0_9, (x0_10, (x0_8, ())))).bind fun r13 =>
 (bif (!(seq r13.1 x0_0)) then
 (some ((0, (0, ([], ()))), (false, ())))
 else
 (some ((x0_9, (x0_10, (x0_8, ()))), (true, ())))))))))
def l0 (k : Nat) : Nat → T0
  | 0 => fun _ _ _ _ _ _ _ _ _ _ _ => none
  | n + 1 => b0 k (l0 k n)
def t (k : Nat) (L0 : T0) (a0 : ByteArray) : Rs :=
 ((impl_scanner__bytes.f k (a0, (false, ())) 4).bind fun r1 =>
 ((impl_scanner__num.f k r1.1).bind fun r2 =>
 ((impl_scanner__num.f k r2.1).bind fun r3 =>
 ((impl_scanner__num.f k r3.1).bind fun r4 =>
 (L0 a0 r4.2.1 0 [] 0 0 r4.1.1 r4.1.2.1 [] r2.2.1 r3.2.1)))))
def f (k : Nat) := t k (l0 k k)
end impl_ReadHint
namespace impl_ShowRec
abbrev Rs : Type := Option (ByteArray × Unit)
def t (k : Nat) (a0 : Ty.den TRec) : Rs :=
 ((impl_RecOk.f k a0).bind fun r1 =>
 (bif (!r1.1) then
 (some ((⟨#[]⟩ : ByteArray), ()))
 else
 ((impl_vars.f k [a0.1, a0.2.1]).bind fun r2 =>
 (bif (a0.1 == 1) then
 (bif (a0.1 == 1) then
 ((impl_textOf.f k a0.2.2.1).bind fun r3 =>
 (cat r2.1 r3.1
 ((impl_textOf.f k a0.2.2.2.1).bind fun r4 =>
 (cat (r2.1 ++ r3.1) r4.1
 (some (((r2.1 ++ r3.1) ++ r4.1), ()))))))
 else
 (bif (a0.1 == 2) then
 ((impl_textOf.f k a0.2.2.1).bind fun r5 =>
 (cat r2.1 r5.1
 (some ((r2.1 ++ r5.1), ()))))
 else
 ((impl_Var.f k a0.2.2.2.2.1).bind fun r6 =>
 (cat r2.1 r6.1
 ((impl_Fixed.f k a0.2.2.2.2.2.1 4).bind fun r7 =>
 (cat (r2.1 ++ r6.1) r7.1
 (some (((r2.1 ++ r6.1) ++ r7.1), ()))))))))
 else
 (bif (a0.1 == 4) then
 ((impl_textOf.f k a0.2.2.1).bind fun r8 =>
 (cat r2.1 r8.1
 ((impl_textOf.f k a0.2.2.2.1).bind fun r9 =>
 (cat (r2.1 ++ r8.1) r9.1
 (some (((r2.1 ++ r8.1) ++ r9.1), ()))))))
 else
 (bif (a0.1 == 2) then
 ((impl_textOf.f k a0.2.2.1).bind fun r10 =>
 (cat r2.1 r10.1
 (some ((r2.1 ++ r10.1), ()))))
 else
 ((impl_Var.f k a0.2.2.2.2.1).bind fun r11 =>
 (cat r2.1 r11.1
 ((impl_Fixed.f k a0.2.2.2.2.2.1 4).bind fun r12 =>
 (cat (r2.1 ++ r11.1) r12.1
 (some (((r2.1 ++ r11.1) ++ r12.1), ()))))))))))))
def f (k : Nat) := t k
end impl_ShowRec
namespace impl_SumOf
abbrev Rs : Type := Option (Int × Unit)
abbrev T0 : Type := ByteArray → List (Ty.den TRec) → Int → Int → Rs
def b0 (k : Nat) (L0 : T0) : T0 := fun x0_0 x0_1 x0_2 x0_3 =>
 (bif (decide (x0_3 < x0_2)) then
 (inb x0_3 (List.length x0_1 : Int)
 ((impl_ShowRec.f k (List.getD x0_1 (Int.toNat x0_3) (Ty.dflt TRec))).bind fun r1 =>
 (cat x0_0 r1.1
 (L0 (x0_0 ++ r1.1) x0_1 x0_2 (w64 (x0_3 + 1))))))
 else
 ((impl_Crc.f k x0_0).bind fun r2 =>
 (some r2)))
def l0 (k : Nat) : Nat → T0
  | 0 => fun _ _ _ _ => none
  | n + 1 => b0 k (l0 k n)
def t (k : Nat) (L0 : T0) (a0 : List (Ty.den TRec)) : Rs :=
 (L0 (⟨#[]⟩ : ByteArray) a0 (List.length a0 : Int) 0)
def f (k : Nat) := t k (l0 k k)
end impl_SumOf
namespace impl_fits
abbrev Rs : Type := Option (Bool × Unit)
abbrev T0 : Type := List (Ty.den TPlace) → Int → Int → Int → Int → ByteArray → ByteArray → Int → Int → List (Ty.den TRec) → Rs
def b0 (k : Nat) (L0 : T0) : T0 := fun x0_0 x0_1 x0_2 x0_3 x0_4 x0_5 x0_6 x0_7 x0_8 x0_9 =>
 (bif (decide (x0_2 < x0_1)) then
 (inb x0_2 (List.length x0_0 : Int)
 (rm (Ty.bytes TRec) (List.length x0_9 + 1)
 (L0 x0_0 x0_1 (w64 (x0_2 + 1)) x0_3 x0_4 x0_5 x0_6 x0_7 x0_8 (x0_9 ++ [(List.getD x0_0 (Int.toNat x0_2) (Ty.dflt TPlace)).2.2.2.1]))))
 else
 (bif (x0_7 == (List.length x0_9 : Int)) then
 ((impl_SumOf.f k x0_9).bind fun r1 =>
 (some ((x0_8 == r1.1), ())))
 else
 (some (false, ()))))
def l0 (k : Nat) : Nat → T0
  | 0 => fun _ _ _ _ _ _ _ _ _ _ => none
  | n + 1 => b0 k (l0 k n)
def t (k : Nat) (L0 : T0) (a0 : Ty.den TRec) (a1 : List (Ty.den TPlace)) : Rs :=
 (L0 a1 (List.length a1 : Int) 0 a0.1 a0.2.1 a0.2.2.1 a0.2.2.2.1 a0.2.2.2.2.1 a0.2.2.2.2.2.1 [])
def f (k : Nat) := t k (l0 k k)
end impl_fits
namespace impl_HintOf
abbrev Rs : Type := Option ((Ty.den THint) × Bool × Unit)
abbrev T0 : Type := Int → List (Ty.den TSpot) → List (Ty.den TSpot) → Int → Int → List (Ty.den TEntry) → Int → Int → List (Ty.den TEntry) → Int → Int → Rs
def b0 (k : Nat) (L0 : T0) : T0 := fun x0_0 x0_1 x0_2 x0_3 x0_4 x0_5 x0_6 x0_7 x0_8 x0_9 x0_10 =>
 (bif (decide (x0_4 < x0_3)) then
 (inb x0_4 (List.length x0_2 : Int)
 (bif ((List.getD x0_2 (Int.toNat x0_4) (Ty.dflt TSpot)).2.2.1.1 != 4) then
 (some ((0, (0, ([], ()))), (false, ())))
 else
 (bif (decide ((List.getD x0_2 (Int.toNat x0_4) (Ty.dflt TSpot)).2.2.1.2.1 > x0_10)) then
 (some ((0, (0, ([], ()))), (false, ())))
 else
 (bif (decide (x0_4 > 0)) then
 (inb (w64 (x0_4 - 1)) (List.length x0_1 : Int)
 (bif (!(sls (List.getD x0_1 (Int.toNat (w64 (x0_4 - 1))) (Ty.dflt TSpot)).2.2.1.2.2.1 (List.getD x0_2 (Int.toNat x0_4) (Ty.dflt TSpot)).2.2.1.2.2.1)) then
 (some ((0, (0, ([], ()))), (false, ())))
 else
 (rm (Ty.bytes TEntry) (List.length x0_8 + 1)
 (L0 x0_0 x0_1 x0_2 x0_3 (w64 (x0_4 + 1)) x0_5 x0_6 x0_7 (x0_8 ++ [((List.getD x0_2 (Int.toNat x0_4) (Ty.dflt TSpot)).2.2.1.2.2.1, (x0_0, ((List.getD x0_2 (Int.toNat x0_4) (Ty.dflt TSpot)).1, ((List.getD x0_2 (Int.toNat x0_4) (Ty.dflt TSpot)).2.1, ((List.getD x0_2 (Int.toNat x0_4) (Ty.dflt TSpot)).2.2.1.2.1, ())))))]) x0_9 x0_10))))
 else
 (rm (Ty.bytes TEntry) (List.length x0_8 + 1)
 (L0 x0_0 x0_1 x0_2 x0_3 (w64 (x0_4 + 1)) x0_5 x0_6 x0_7 (x0_8 ++ [((List.getD x0_2 (Int.toNat x0_4) (Ty.dflt TSpot)).2.2.1.2.2.1, (x0_0, ((List.getD x0_2 (Int.toNat x0_4) (Ty.dflt TSpot)).1, ((List.getD x0_2 (Int.toNat x0_4) (Ty.dflt TSpot)).2.1, ((List.getD x0_2 (Int.toNat x0_4) (Ty.dflt TSpot)).2.2.1.2.1, ())))))]) x0_9 x0_10))))))
 else
 (some ((x0_9, (x0_10, (x0_8, ()))), (true, ()))))
def l0 (k : Nat) : Nat → T0
  | 0 => fun _ _ _ _ _ _ _ _ _ _ _ => none
  | n + 1 => b0 k (l0 k n)
def t (k : Nat) (L0 : T0) (a0 : Int) (a1 : ByteArray) : Rs :=
 ((impl_ScanRecs.f k a1).bind fun r1 =>
 (bif (decide ((w64 ((List.length r1.1 : Int) - 1)) < 0)) then
 (some ((0, (0, ([], ()))), (false, ())))
 else
 (bif (r1.2.1 != (ByteArray.size a1 : Int)) then
 (some ((0, (0, ([], ()))), (false, ())))
 else
 ((impl_in.f k a0 1 100000).bind fun r2 =>
 (bif (!r2.1) then
 (some ((0, (0, ([], ()))), (false, ())))
 else
 (inb (w64 ((List.length r1.1 : Int) - 1)) (List.length r1.1 : Int)
 (bif ((List.getD r1.1 (Int.toNat (w64 ((List.length r1.1 : Int) - 1))) (Ty.dflt TSpot)).2.2.1.1 != 5) then
 (some ((0, (0, ([], ()))), (false, ())))
 else
 (inb (w64 ((List.length r1.1 : Int) - 1)) (List.length r1.1 : Int)
 (inc (w64 ((List.length r1.1 : Int) - 1)) (List.length r1.1 : Int)
 ((impl_placed.f k a0 (List.take (Int.toNat (w64 ((List.length r1.1 : Int) - 1))) r1.1)).bind fun r3 =>
 ((impl_fits.f k (List.getD r1.1 (Int.toNat (w64 ((List.length r1.1 : Int) - 1))) (Ty.dflt TSpot)).2.2.1 r3.1).bind fun r4 =>
 (bif (!r4.1) then
 (some ((0, (0, ([], ()))), (false, ())))
 else
 (inb (w64 ((List.length r1.1 : Int) - 1)) (List.length r1.1 : Int)
 (inc (w64 ((List.length r1.1 : Int) - 1)) (List.length r1.1 : Int)
 (L0 a0 r1.1 (List.take (Int.toNat (w64 ((List.length r1.1 : Int) - 1))) r1.1) (List.length (List.take (Int.toNat (w64 ((List.length r1.1 : Int) - 1))) r1.1) : Int) 0 [] 0 0 [] r1.2.1 (List.getD r1.1 (Int.toNat (w64 ((List.length r1.1 : Int) - 1))) (Ty.dflt TSpot)).2.2.1.2.1)))))))))))))))
def f (k : Nat) := t k (l0 k k)
end impl_HintOf
namespace impl_SameDir
abbrev Rs : Type := Option (Bool × Unit)
abbrev T0 : Type := List (Ty.den TEntry) → List (Ty.den TEntry) → Int → Int → Rs
def b0 (k : Nat) (L0 : T0) : T0 := fun x0_0 x0_1 x0_2 x0_3 =>
 (bif (decide (x0_3 < x0_2)) then
 (inb x0_3 (List.length x0_0 : Int)
 (inb x0_3 (List.length x0_1 : Int)
 (bif (!((seq (List.getD x0_0 (Int.toNat x0_3) (Ty.dflt TEntry)).1 (List.getD x0_1 (Int.toNat x0_3) (Ty.dflt TEntry)).1) && (((List.getD x0_0 (Int.toNat x0_3) (Ty.dflt TEntry)).2.1 == (List.getD x0_1 (Int.toNat x0_3) (Ty.dflt TEntry)).2.1) && (((List.getD x0_0 (Int.toNat x0_3) (Ty.dflt TEntry)).2.2.1 == (List.getD x0_1 (Int.toNat x0_3) (Ty.dflt TEntry)).2.2.1) && (((List.getD x0_0 (Int.toNat x0_3) (Ty.dflt TEntry)).2.2.2.1 == (List.getD x0_1 (Int.toNat x0_3) (Ty.dflt TEntry)).2.2.2.1) && ((List.getD x0_0 (Int.toNat x0_3) (Ty.dflt TEntry)).2.2.2.2.1 == (List.getD x0_1 (Int.toNat x0_3) (Ty.dflt TEntry)).2.2.2.2.1)))))) then
 (some (false, ()))
 else
 (L0 x0_0 x0_1 x0_2 (w64 (x0_3 + 1))))))
 else
 (some (true, ())))
def l0 (k : Nat) : Nat → T0
  | 0 => fun _ _ _ _ => none
  | n + 1 => b0 k (l0 k n)
def t (k : Nat) (L0 : T0) (a0 : List (Ty.den TEntry)) (a1 : List (Ty.den TEntry)) : Rs :=
 (bif ((List.length a0 : Int) != (List.length a1 : Int)) then
 (some (false, ()))
 else
 (L0 a0 a1 (List.length a0 : Int) 0))
def f (k : Nat) := t k (l0 k k)
end impl_SameDir
namespace impl_HintFits
abbrev Rs : Type := Option (Bool × Unit)
def t (k : Nat) (a0 : Int) (a1 : ByteArray) (a2 : Ty.den THint) : Rs :=
 ((impl_HintOf.f k a0 a1).bind fun r1 =>
 (bif r1.2.1 then
 (bif (r1.1.1 == a2.1) then
 (bif (r1.1.2.1 == a2.2.1) then
 ((impl_SameDir.f k r1.1.2.2.1 a2.2.2.1).bind fun r2 =>
 (some r2))
 else
 (some (false, ())))
 else
 (some (false, ())))
 else
 (some (false, ()))))
def f (k : Nat) := t k
end impl_HintFits
namespace impl_worker__hinted
abbrev Rs : Type := Option ((Ty.den Tworker) × (Ty.den TGroup) × Bool × Unit)
def t (k : Nat) (a0 : Ty.den Tworker) (a1 : Int) : Rs :=
 ((impl_HintName.f k a1).bind fun r1 =>
 ((impl_FileText.f k a0.1 r1.1).bind fun r2 =>
 ((impl_ReadHint.f k r2.1).bind fun r3 =>
 ((impl_SegName.f k a1).bind fun r4 =>
 ((impl_FileText.f k a0.1 r4.1).bind fun r5 =>
 (bif (!r2.2.1) then
 (some (a0, (([], (0, (0, ()))), (false, ()))))
 else
 (bif (!r3.2.1) then
 (some (a0, (([], (0, (0, ()))), (false, ()))))
 else
 ((impl_HintFits.f k a1 r5.1 r3.1).bind fun r6 =>
 (bif (!r6.1) then
 (some (a0, (([], (0, (0, ()))), (false, ()))))
 else
 (some (a0, ((r3.1.2.2.1, (r3.1.2.1, (0, ()))), (true, ())))))))))))))
def f (k : Nat) := t k
end impl_worker__hinted
namespace impl_copyDir
abbrev Rs : Type := Option ((List (Ty.den TEntry)) × Unit)
def t (k : Nat) (a0 : List (Ty.den TEntry)) : Rs :=
 (rm (Ty.bytes TEntry) (List.length a0)
 (some (a0, ())))
def f (k : Nat) := t k
end impl_copyDir
namespace impl_ownOf
abbrev Rs : Type := Option ((List (Ty.den TPlace)) × Unit)
abbrev T0 : Type := List (Ty.den TPlace) → Int → Int → Int → Int → ByteArray → ByteArray → Int → Int → List (Ty.den TPlace) → Rs
def b0 (k : Nat) (L0 : T0) : T0 := fun x0_0 x0_1 x0_2 x0_3 x0_4 x0_5 x0_6 x0_7 x0_8 x0_9 =>
 (bif (decide (x0_2 < x0_1)) then
 (inb x0_2 (List.length x0_0 : Int)
 (bif (x0_3 == 3) then
 (bif ((List.getD x0_0 (Int.toNat x0_2) (Ty.dflt TPlace)).2.2.2.1.2.1 != x0_4) then
 (L0 x0_0 x0_1 (w64 (x0_2 + 1)) x0_3 x0_4 x0_5 x0_6 x0_7 x0_8 x0_9)
 else
 (bif ((List.getD x0_0 (Int.toNat x0_2) (Ty.dflt TPlace)).2.2.2.1.1 == x0_3) then
 (L0 x0_0 x0_1 (w64 (x0_2 + 1)) x0_3 x0_4 x0_5 x0_6 x0_7 x0_8 [])
 else
 (bif (x0_3 == 3) then
 (bif ((List.getD x0_0 (Int.toNat x0_2) (Ty.dflt TPlace)).2.2.2.1.1 == 1) then
 (rm (Ty.bytes TPlace) (List.length x0_9 + 1)
 (L0 x0_0 x0_1 (w64 (x0_2 + 1)) x0_3 x0_4 x0_5 x0_6 x0_7 x0_8 (x0_9 ++ [(List.getD x0_0 (Int.toNat x0_2) (Ty.dflt TPlace))])))
 else
 (bif ((List.getD x0_0 (Int.toNat x0_2) (Ty.dflt TPlace)).2.2.2.1.1 == 2) then
 (bif ((List.getD x0_0 (Int.toNat x0_2) (Ty.dflt TPlace)).2.2.2.1.1 == 2) then
 (rm (Ty.bytes TPlace) (List.length x0_9 + 1)
 (L0 x0_0 x0_1 (w64 (x0_2 + 1)) x0_3 x0_4 x0_5 x0_6 x0_7 x0_8 (x0_9 ++ [(List.getD x0_0 (Int.toNat x0_2) (Ty.dflt TPlace))])))
 else
 (L0 x0_0 x0_1 (w64 (x0_2 + 1)) x0_3 x0_4 x0_5 x0_6 x0_7 x0_8 x0_9))
 else
 (bif (x0_3 == 5) then
 (bif ((List.getD x0_0 (Int.toNat x0_2) (Ty.dflt TPlace)).2.2.2.1.1 == 4) then
 (rm (Ty.bytes TPlace) (List.length x0_9 + 1)
 (L0 x0_0 x0_1 (w64 (x0_2 + 1)) x0_3 x0_4 x0_5 x0_6 x0_7 x0_8 (x0_9 ++ [(List.getD x0_0 (Int.toNat x0_2) (Ty.dflt TPlace))])))
 else
 (L0 x0_0 x0_1 (w64 (x0_2 + 1)) x0_3 x0_4 x0_5 x0_6 x0_7 x0_8 x0_9))
 else
 (L0 x0_0 x0_1 (w64 (x0_2 + 1)) x0_3 x0_4 x0_5 x0_6 x0_7 x0_8 x0_9))))
 else
 (bif (x0_3 == 5) then
 (bif ((List.getD x0_0 (Int.toNat x0_2) (Ty.dflt TPlace)).2.2.2.1.1 == 4) then
 (rm (Ty.bytes TPlace) (List.length x0_9 + 1)
 (L0 x0_0 x0_1 (w64 (x0_2 + 1)) x0_3 x0_4 x0_5 x0_6 x0_7 x0_8 (x0_9 ++ [(List.getD x0_0 (Int.toNat x0_2) (Ty.dflt TPlace))])))
 else
 (L0 x0_0 x0_1 (w64 (x0_2 + 1)) x0_3 x0_4 x0_5 x0_6 x0_7 x0_8 x0_9))
 else
 (L0 x0_0 x0_1 (w64 (x0_2 + 1)) x0_3 x0_4 x0_5 x0_6 x0_7 x0_8 x0_9)))))
 else
 (bif ((List.getD x0_0 (Int.toNat x0_2) (Ty.dflt TPlace)).2.2.2.1.1 == x0_3) then
 (L0 x0_0 x0_1 (w64 (x0_2 + 1)) x0_3 x0_4 x0_5 x0_6 x0_7 x0_8 [])
 else
 (bif (x0_3 == 3) then
 (bif ((List.getD x0_0 (Int.toNat x0_2) (Ty.dflt TPlace)).2.2.2.1.1 == 1) then
 (rm (Ty.bytes TPlace) (List.length x0_9 + 1)
 (L0 x0_0 x0_1 (w64 (x0_2 + 1)) x0_3 x0_4 x0_5 x0_6 x0_7 x0_8 (x0_9 ++ [(List.getD x0_0 (Int.toNat x0_2) (Ty.dflt TPlace))])))
 else
 (bif ((List.getD x0_0 (Int.toNat x0_2) (Ty.dflt TPlace)).2.2.2.1.1 == 2) then
 (bif ((List.getD x0_0 (Int.toNat x0_2) (Ty.dflt TPlace)).2.2.2.1.1 == 2) then
 (rm (Ty.bytes TPlace) (List.length x0_9 + 1)
 (L0 x0_0 x0_1 (w64 (x0_2 + 1)) x0_3 x0_4 x0_5 x0_6 x0_7 x0_8 (x0_9 ++ [(List.getD x0_0 (Int.toNat x0_2) (Ty.dflt TPlace))])))
 else
 (L0 x0_0 x0_1 (w64 (x0_2 + 1)) x0_3 x0_4 x0_5 x0_6 x0_7 x0_8 x0_9))
 else
 (bif (x0_3 == 5) then
 (bif ((List.getD x0_0 (Int.toNat x0_2) (Ty.dflt TPlace)).2.2.2.1.1 == 4) then
 (rm (Ty.bytes TPlace) (List.length x0_9 + 1)
 (L0 x0_0 x0_1 (w64 (x0_2 + 1)) x0_3 x0_4 x0_5 x0_6 x0_7 x0_8 (x0_9 ++ [(List.getD x0_0 (Int.toNat x0_2) (Ty.dflt TPlace))])))
 else
 (L0 x0_0 x0_1 (w64 (x0_2 + 1)) x0_3 x0_4 x0_5 x0_6 x0_7 x0_8 x0_9))
 else
 (L0 x0_0 x0_1 (w64 (x0_2 + 1)) x0_3 x0_4 x0_5 x0_6 x0_7 x0_8 x0_9))))
 else
 (bif (x0_3 == 5) then
 (bif ((List.getD x0_0 (Int.toNat x0_2) (Ty.dflt TPlace)).2.2.2.1.1 == 4) then
 (rm (Ty.bytes TPlace) (List.length x0_9 + 1)
 (L0 x0_0 x0_1 (w64 (x0_2 + 1)) x0_3 x0_4 x0_5 x0_6 x0_7 x0_8 (x0_9 ++ [(List.getD x0_0 (Int.toNat x0_2) (Ty.dflt TPlace))])))
 else
 (L0 x0_0 x0_1 (w64 (x0_2 + 1)) x0_3 x0_4 x0_5 x0_6 x0_7 x0_8 x0_9))
 else
 (L0 x0_0 x0_1 (w64 (x0_2 + 1)) x0_3 x0_4 x0_5 x0_6 x0_7 x0_8 x0_9))))))
 else
 (some (x0_9, ())))
def l0 (k : Nat) : Nat → T0
  | 0 => fun _ _ _ _ _ _ _ _ _ _ => none
  | n + 1 => b0 k (l0 k n)
def t (k : Nat) (L0 : T0) (a0 : List (Ty.den TPlace)) (a1 : Ty.den TRec) : Rs :=
 (L0 a0 (List.length a0 : Int) 0 a1.1 a1.2.1 a1.2.2.1 a1.2.2.2.1 a1.2.2.2.2.1 a1.2.2.2.2.2.1 [])
def f (k : Nat) := t k (l0 k k)
end impl_ownOf
namespace impl_DirDrop
abbrev Rs : Type := Option ((List (Ty.den TEntry)) × Unit)
abbrev T0 : Type := ByteArray → List (Ty.den TEntry) → Int → Int → List (Ty.den TEntry) → Rs
def b0 (k : Nat) (L0 : T0) : T0 := fun x0_0 x0_1 x0_2 x0_3 x0_4 =>
 (bif (decide (x0_3 < x0_2)) then
 (inb x0_3 (List.length x0_1 : Int)
 (bif (!(seq (List.getD x0_1 (Int.toNat x0_3) (Ty.dflt TEntry)).1 x0_0)) then
 (rm (Ty.bytes TEntry) (List.length x0_4 + 1)
 (L0 x0_0 x0_1 x0_2 (w64 (x0_3 + 1)) (x0_4 ++ [(List.getD x0_1 (Int.toNat x0_3) (Ty.dflt TEntry))])))
 else
 (L0 x0_0 x0_1 x0_2 (w64 (x0_3 + 1)) x0_4)))
 else
 (some (x0_4, ())))
def l0 (k : Nat) : Nat → T0
  | 0 => fun _ _ _ _ _ => none
  | n + 1 => b0 k (l0 k n)
def t (k : Nat) (L0 : T0) (a0 : List (Ty.den TEntry)) (a1 : ByteArray) : Rs :=
 (L0 a1 a0 (List.length a0 : Int) 0 [])
def f (k : Nat) := t k (l0 k k)
end impl_DirDrop
namespace impl_DirPut
abbrev Rs : Type := Option ((List (Ty.den TEntry)) × Unit)
abbrev T0 : Type := Int → ByteArray → Int → Int → Int → Int → List (Ty.den TEntry) → Rs
def b0 (k : Nat) (L0 : T0) : T0 := fun x0_0 x0_1 x0_2 x0_3 x0_4 x0_5 x0_6 =>
 (bif (decide (x0_0 < (List.length x0_6 : Int))) then
 (inb x0_0 (List.length x0_6 : Int)
 (bif ((sls (List.getD x0_6 (Int.toNat x0_0) (Ty.dflt TEntry)).1 x0_1) || (seq (List.getD x0_6 (Int.toNat x0_0) (Ty.dflt TEntry)).1 x0_1)) then
 (L0 (w64 (x0_0 + 1)) x0_1 x0_2 x0_3 x0_4 x0_5 x0_6)
 else
 (inc x0_0 (List.length x0_6 : Int)
 ((impl_copyDir.f k (List.take (Int.toNat x0_0) x0_6)).bind fun r2 =>
 (rm (Ty.bytes TEntry) (List.length r2.1 + 1)
 (inc x0_0 (List.length x0_6 : Int)
 (rm (Ty.bytes TEntry) (List.length (r2.1 ++ [(x0_1, (x0_2, (x0_3, (x0_4, (x0_5, ())))))]) + List.length (List.drop (Int.toNat x0_0) x0_6))
 (some (((r2.1 ++ [(x0_1, (x0_2, (x0_3, (x0_4, (x0_5, ())))))]) ++ (List.drop (Int.toNat x0_0) x0_6)), ())))))))))
 else
 (inc x0_0 (List.length x0_6 : Int)
 ((impl_copyDir.f k (List.take (Int.toNat x0_0) x0_6)).bind fun r3 =>
 (rm (Ty.bytes TEntry) (List.length r3.1 + 1)
 (inc x0_0 (List.length x0_6 : Int)
 (rm (Ty.bytes TEntry) (List.length (r3.1 ++ [(x0_1, (x0_2, (x0_3, (x0_4, (x0_5, ())))))]) + List.length (List.drop (Int.toNat x0_0) x0_6))
 (some (((r3.1 ++ [(x0_1, (x0_2, (x0_3, (x0_4, (x0_5, ())))))]) ++ (List.drop (Int.toNat x0_0) x0_6)), ()))))))))
def l0 (k : Nat) : Nat → T0
  | 0 => fun _ _ _ _ _ _ _ => none
  | n + 1 => b0 k (l0 k n)
def t (k : Nat) (L0 : T0) (a0 : List (Ty.den TEntry)) (a1 : Ty.den TEntry) : Rs :=
 ((impl_DirDrop.f k a0 a1.1).bind fun r1 =>
 (L0 0 a1.1 a1.2.1 a1.2.2.1 a1.2.2.2.1 a1.2.2.2.2.1 r1.1))
def f (k : Nat) := t k (l0 k k)
end impl_DirPut
namespace impl_Group__apply
abbrev Rs : Type := Option ((Ty.den TGroup) × Unit)
abbrev T0 : Type := List (Ty.den TPlace) → Int → Int → List (Ty.den TEntry) → Int → Int → Rs
def b0 (k : Nat) (L0 : T0) : T0 := fun x0_0 x0_1 x0_2 x0_3 x0_4 x0_5 =>
 (bif (decide (x0_2 < x0_1)) then
 (inb x0_2 (List.length x0_0 : Int)
 (bif ((List.getD x0_0 (Int.toNat x0_2) (Ty.dflt TPlace)).2.2.2.1.1 == 2) then
 ((impl_DirDrop.f k x0_3 (List.getD x0_0 (Int.toNat x0_2) (Ty.dflt TPlace)).2.2.2.1.2.2.1).bind fun r1 =>
 (L0 x0_0 x0_1 (w64 (x0_2 + 1)) r1.1 x0_4 x0_5))
 else
 ((impl_DirPut.f k x0_3 ((List.getD x0_0 (Int.toNat x0_2) (Ty.dflt TPlace)).2.2.2.1.2.2.1, ((List.getD x0_0 (Int.toNat x0_2) (Ty.dflt TPlace)).1, ((List.getD x0_0 (Int.toNat x0_2) (Ty.dflt TPlace)).2.1, ((List.getD x0_0 (Int.toNat x0_2) (Ty.dflt TPlace)).2.2.1, ((List.getD x0_0 (Int.toNat x0_2) (Ty.dflt TPlace)).2.2.2.1.2.1, ())))))).bind fun r2 =>
 (L0 x0_0 x0_1 (w64 (x0_2 + 1)) r2.1 x0_4 x0_5))))
 else
 (bif (decide ((List.length x0_3 : Int) > 20)) then
 (some ((x0_3, (x0_4, (2, ()))), ()))
 else
 (some ((x0_3, (x0_4, (x0_5, ()))), ()))))
def l0 (k : Nat) : Nat → T0
  | 0 => fun _ _ _ _ _ _ => none
  | n + 1 => b0 k (l0 k n)
def t (k : Nat) (L0 : T0) (a0 : Ty.den TGroup) (a1 : List (Ty.den TPlace)) : Rs :=
 (L0 a1 (List.length a1 : Int) 0 a0.1 a0.2.1 a0.2.2.1)
def f (k : Nat) := t k (l0 k k)
end impl_Group__apply
namespace impl_Regroup
abbrev Rs : Type := Option ((Ty.den TGroup) × Unit)
abbrev T0 : Type := List (Ty.den TPlace) → List (Ty.den TPlace) → Int → Int → List (Ty.den TEntry) → Int → Int → List (Ty.den TEntry) → Int → Int → Rs
def b0 (k : Nat) (L0 : T0) : T0 := fun x0_0 x0_1 x0_2 x0_3 x0_4 x0_5 x0_6 x0_7 x0_8 x0_9 =>
 (bif (decide (x0_3 < x0_2)) then
 (inb x0_3 (List.length x0_1 : Int)
 (bif (x0_9 != 0) then
 (some ((x0_7, (x0_8, (x0_9, ()))), ()))
 else
 (bif ((List.getD x0_1 (Int.toNat x0_3) (Ty.dflt TPlace)).2.2.2.1.1 != 3) then
 (bif ((List.getD x0_1 (Int.toNat x0_3) (Ty.dflt TPlace)).2.2.2.1.1 != 5) then
 (L0 x0_0 x0_1 x0_2 (w64 (x0_3 + 1)) x0_4 x0_5 x0_6 x0_7 (if (List.getD x0_1 (Int.toNat x0_3) (Ty.dflt TPlace)).2.2.2.1.2.1 > x0_8 then (List.getD x0_1 (Int.toNat x0_3) (Ty.dflt TPlace)).2.2.2.1.2.1 else x0_8) x0_9)
 else
 (inc x0_3 (List.length x0_0 : Int)
 ((impl_ownOf.f k (List.take (Int.toNat x0_3) x0_0) (List.getD x0_1 (Int.toNat x0_3) (Ty.dflt TPlace)).2.2.2.1).bind fun r2 =>
 ((impl_fits.f k (List.getD x0_1 (Int.toNat x0_3) (Ty.dflt TPlace)).2.2.2.1 r2.1).bind fun r3 =>
 (bif r3.1 then
 ((impl_Group__apply.f k (x0_7, ((if (List.getD x0_1 (Int.toNat x0_3) (Ty.dflt TPlace)).2.2.2.1.2.1 > x0_8 then (List.getD x0_1 (Int.toNat x0_3) (Ty.dflt TPlace)).2.2.2.1.2.1 else x0_8), (x0_9, ()))) r2.1).bind fun r4 =>
 (L0 x0_0 x0_1 x0_2 (w64 (x0_3 + 1)) x0_4 x0_5 x0_6 r4.1.1 r4.1.2.1 r4.1.2.2.1))
 else
 (bif ((List.getD x0_1 (Int.toNat x0_3) (Ty.dflt TPlace)).2.2.2.1.1 == 5) then
 (L0 x0_0 x0_1 x0_2 (w64 (x0_3 + 1)) x0_4 x0_5 x0_6 x0_7 (if (List.getD x0_1 (Int.toNat x0_3) (Ty.dflt TPlace)).2.2.2.1.2.1 > x0_8 then (List.getD x0_1 (Int.toNat x0_3) (Ty.dflt TPlace)).2.2.2.1.2.1 else x0_8) 1)
 else
 (L0 x0_0 x0_1 x0_2 (w64 (x0_3 + 1)) x0_4 x0_5 x0_6 x0_7 (if (List.getD x0_1 (Int.toNat x0_3) (Ty.dflt TPlace)).2.2.2.1.2.1 > x0_8 then (List.getD x0_1 (Int.toNat x0_3) (Ty.dflt TPlace)).2.2.2.1.2.1 else x0_8) x0_9)))))))
 else
 (inc x0_3 (List.length x0_0 : Int)
 ((impl_ownOf.f k (List.take (Int.toNat x0_3) x0_0) (List.getD x0_1 (Int.toNat x0_3) (Ty.dflt TPlace)).2.2.2.1).bind fun r5 =>
 ((impl_fits.f k (List.getD x0_1 (Int.toNat x0_3) (Ty.dflt TPlace)).2.2.2.1 r5.1).bind fun r6 =>
 (bif r6.1 then
 ((impl_Group__apply.f k (x0_7, ((if (List.getD x0_1 (Int.toNat x0_3) (Ty.dflt TPlace)).2.2.2.1.2.1 > x0_8 then (List.getD x0_1 (Int.toNat x0_3) (Ty.dflt TPlace)).2.2.2.1.2.1 else x0_8), (x0_9, ()))) r5.1).bind fun r7 =>
 (L0 x0_0 x0_1 x0_2 (w64 (x0_3 + 1)) x0_4 x0_5 x0_6 r7.1.1 r7.1.2.1 r7.1.2.2.1))
 else
 (bif ((List.getD x0_1 (Int.toNat x0_3) (Ty.dflt TPlace)).2.2.2.1.1 == 5) then
 (L0 x0_0 x0_1 x0_2 (w64 (x0_3 + 1)) x0_4 x0_5 x0_6 x0_7 (if (List.getD x0_1 (Int.toNat x0_3) (Ty.dflt TPlace)).2.2.2.1.2.1 > x0_8 then (List.getD x0_1 (Int.toNat x0_3) (Ty.dflt TPlace)).2.2.2.1.2.1 else x0_8) 1)
 else
 (L0 x0_0 x0_1 x0_2 (w64 (x0_3 + 1)) x0_4 x0_5 x0_6 x0_7 (if (List.getD x0_1 (Int.toNat x0_3) (Ty.dflt TPlace)).2.2.2.1.2.1 > x0_8 then (List.getD x0_1 (Int.toNat x0_3) (Ty.dflt TPlace)).2.2.2.1.2.1 else x0_8) x0_9)))))))))
 else
 (bif (x0_9 == 0) then
 ((impl_ownOf.f k x0_0 (5, (0, (ByteArray.empty, (ByteArray.empty, (0, (0, ()))))))).bind fun r8 =>
 (bif (decide ((List.length r8.1 : Int) > 0)) then
 (some ((x0_7, (x0_8, (1, ()))), ()))
 else
 (some ((x0_7, (x0_8, (x0_9, ()))), ()))))
 else
 (some ((x0_7, (x0_8, (x0_9, ()))), ()))))
def l0 (k : Nat) : Nat → T0
  | 0 => fun _ _ _ _ _ _ _ _ _ _ => none
  | n + 1 => b0 k (l0 k n)
def t (k : Nat) (L0 : T0) (a0 : Ty.den TGroup) (a1 : List (Ty.den TPlace)) : Rs :=
 ((impl_copyDir.f k a0.1).bind fun r1 =>
 (L0 a1 a1 (List.length a1 : Int) 0 [] 0 0 r1.1 a0.2.1 a0.2.2.1))
def f (k : Nat) := t k (l0 k k)
end impl_Regroup
namespace impl_IdOf
abbrev Rs : Type := Option (Int × Bool × Unit)
def t (k : Nat) (a0 : ByteArray) : Rs :=
 ((lib_CutPrefix.f k a0 (⟨#[115, 101, 103]⟩ : ByteArray)).bind fun r1 =>
 (bif (!r1.2.1) then
 ((lib_CutPrefix.f k a0 (⟨#[104, 105, 110, 116]⟩ : ByteArray)).bind fun r2 =>
 ((impl_ReadDec.f k r2.1).bind fun r3 =>
 (bif (!r2.2.1) then
 (some (0, (false, ())))
 else
 (bif (!r3.2.1) then
 (some (0, (false, ())))
 else
 ((impl_in.f k r3.1 1 100000).bind fun r4 =>
 (bif (!r4.1) then
 (some (0, (false, ())))
 else
 (some (r3.1, (true, ())))))))))
 else
 ((impl_ReadDec.f k r1.1).bind fun r5 =>
 (bif (!r1.2.1) then
 (some (0, (false, ())))
 else
 (bif (!r5.2.1) then
 (some (0, (false, ())))
 else
 ((impl_in.f k r5.1 1 100000).bind fun r6 =>
 (bif (!r6.1) then
 (some (0, (false, ())))
 else
 (some (r5.1, (true, ()))))))))))
def f (k : Nat) := t k
end impl_IdOf
namespace impl_hasInt
abbrev Rs : Type := Option (Bool × Unit)
abbrev T0 : Type := Int → List Int → Int → Int → Rs
def b0 (k : Nat) (L0 : T0) : T0 := fun x0_0 x0_1 x0_2 x0_3 =>
 (bif (decide (x0_3 < x0_2)) then
 (inb x0_3 (List.length x0_1 : Int)
 (bif ((List.getD x0_1 (Int.toNat x0_3) (Ty.dflt (.int .i64))) == x0_0) then
 (some (true, ()))
 else
 (L0 x0_0 x0_1 x0_2 (w64 (x0_3 + 1)))))
 else
 (some (false, ())))
def l0 (k : Nat) : Nat → T0
  | 0 => fun _ _ _ _ => none
  | n + 1 => b0 k (l0 k n)
def t (k : Nat) (L0 : T0) (a0 : List Int) (a1 : Int) : Rs :=
 (L0 a1 a0 (List.length a0 : Int) 0)
def f (k : Nat) := t k (l0 k k)
end impl_hasInt
namespace impl_Orphans
abbrev Rs : Type := Option ((List ByteArray) × Unit)
abbrev T0 : Type := List (Ty.den TPair) → Int → Int → Int → List Int → List ByteArray → Rs
def b0 (k : Nat) (L0 : T0) : T0 := fun x0_0 x0_1 x0_2 x0_3 x0_4 x0_5 =>
 (bif (decide (x0_2 < x0_1)) then
 (inb x0_2 (List.length x0_0 : Int)
 ((impl_IdOf.f k (List.getD x0_0 (Int.toNat x0_2) (Ty.dflt TPair)).1).bind fun r2 =>
 (bif (seq (List.getD x0_0 (Int.toNat x0_2) (Ty.dflt TPair)).1 (⟨#[116, 101, 109, 112]⟩ : ByteArray)) then
 (rm (Ty.bytes .str) (List.length x0_5 + 1)
 (L0 x0_0 x0_1 (w64 (x0_2 + 1)) x0_3 x0_4 (x0_5 ++ [(List.getD x0_0 (Int.toNat x0_2) (Ty.dflt TPair)).1])))
 else
 (bif r2.2.1 then
 ((impl_hasInt.f k x0_4 r2.1).bind fun r3 =>
 (bif (!r3.1) then
 (rm (Ty.bytes .str) (List.length x0_5 + 1)
 (L0 x0_0 x0_1 (w64 (x0_2 + 1)) x0_3 x0_4 (x0_5 ++ [(List.getD x0_0 (Int.toNat x0_2) (Ty.dflt TPair)).1])))
 else
 (L0 x0_0 x0_1 (w64 (x0_2 + 1)) x0_3 x0_4 x0_5)))
 else
 (L0 x0_0 x0_1 (w64 (x0_2 + 1)) x0_3 x0_4 x0_5)))))
 else
 (some (x0_5, ())))
def l0 (k : Nat) : Nat → T0
  | 0 => fun _ _ _ _ _ _ => none
  | n + 1 => b0 k (l0 k n)
def t (k : Nat) (L0 : T0) (a0 : Ty.den TDisk) (a1 : Ty.den TLive) : Rs :=
 ((impl_DiskOk.f k a0).bind fun r1 =>
 (bif (!r1.1) then
 (some ([], ()))
 else
 (L0 a0.1 (List.length a0.1 : Int) 0 a1.1 a1.2.1 [])))
def f (k : Nat) := t k (l0 k k)
end impl_Orphans
namespace impl_Disk__drop
abbrev Rs : Type := Option ((Ty.den TDisk) × Unit)
def t (k : Nat) (a0 : Ty.den TDisk) (a1 : ByteArray) : Rs :=
 ((impl_fileAt.f k a0 a1).bind fun r1 =>
 (bif (decide (r1.1 ≥ 0)) then
 (inc r1.1 (List.length a0.1 : Int)
 (rm (Ty.bytes TPair) (List.length (List.take (Int.toNat r1.1) a0.1))
 (inc (w64 (r1.1 + 1)) (List.length a0.1 : Int)
 (rm (Ty.bytes TPair) (List.length (List.take (Int.toNat r1.1) a0.1) + List.length (List.drop (Int.toNat (w64 (r1.1 + 1))) a0.1))
 (some ((((List.take (Int.toNat r1.1) a0.1) ++ (List.drop (Int.toNat (w64 (r1.1 + 1))) a0.1)), a0.2), ()))))))
 else
 (some (a0, ()))))
def f (k : Nat) := t k
end impl_Disk__drop
namespace impl_Remove_1
abbrev Rs : Type := Option ((Ty.den TDisk) × ByteArray × Int × Unit)
def t (k : Nat) (a0 : Ty.den TDisk) (a1 : ByteArray) : Rs :=
 ((impl_fileAt.f k a0 a1).bind fun r1 =>
 (bif (decide (r1.1 < 0)) then
 (some (a0, (a1, (3, ()))))
 else
 ((impl_Disk__drop.f k a0 a1).bind fun r2 =>
 (some (r2.1, (a1, (0, ())))))))
def f (k : Nat) := t k
end impl_Remove_1
namespace impl_step_Remove_1
abbrev Rs : Type := Option (ByteArray × (Ty.den TDisk) × Int × Unit)
def t (k : Nat) (a0 : Ty.den TDisk) (a1 : ByteArray) : Rs :=
 ((impl_copyDisk.f k a0).bind fun r1 =>
 ((impl_DiskOk.f k a0).bind fun r2 =>
 (bif (!r2.1) then
 (some (a1, (r1.1, (5, ()))))
 else
 (bif a0.2.2.2.1 then
 (some (a1, ((r1.1.1, (r1.1.2.1, (r1.1.2.2.1, (true, ())))), (1, ()))))
 else
 (bif (a0.2.2.1 == 0) then
 (some (a1, ((r1.1.1, (r1.1.2.1, (r1.1.2.2.1, (true, ())))), (1, ()))))
 else
 (bif (decide (a0.2.2.1 > 0)) then
 ((impl_Remove_1.f k (r1.1.1, (r1.1.2.1, ((w64 (r1.1.2.2.1 - 1)), r1.1.2.2.2))) a1).bind fun r3 =>
 (some (r3.2.1, (r3.1, r3.2.2))))
 else
 ((impl_Remove_1.f k r1.1 a1).bind fun r4 =>
 (some (r4.2.1, (r4.1, r4.2.2))))))))))
def f (k : Nat) := t k
end impl_step_Remove_1
namespace impl_Remove
abbrev Rs : Type := Option ((Ty.den TDisk) × Int × Unit)
def t (k : Nat) (a0 : Ty.den TDisk) (a1 : ByteArray) : Rs :=
 ((impl_step_Remove_1.f k a0 a1).bind fun r1 =>
 (some r1.2))
def f (k : Nat) := t k
end impl_Remove
namespace impl_worker__gone
abbrev Rs : Type := Option ((Ty.den Tworker) × Unit)
def t (k : Nat) (a0 : Ty.den Tworker) (a1 : ByteArray) : Rs :=
 (bif (a0.2.1 == 0) then
 ((impl_fileAt.f k a0.1 a1).bind fun r1 =>
 (bif (decide (r1.1 ≥ 0)) then
 ((impl_Remove.f k a0.1 a1).bind fun r2 =>
 ((impl_worker__took_g1.f k a0 r2.1 r2.2.1).bind fun r3 =>
 (some r3)))
 else
 (some (a0, ()))))
 else
 (some (a0, ())))
def f (k : Nat) := t k
end impl_worker__gone
namespace impl_worker__orphans
abbrev Rs : Type := Option ((Ty.den Tworker) × Unit)
abbrev T0 : Type := Int → Int → List (Ty.den TPair) → Int → Int → Bool → Int → List ByteArray → Rs
def b0 (k : Nat) (L0 : T0) : T0 := fun x0_0 x0_1 x0_2 x0_3 x0_4 x0_5 x0_6 x0_7 =>
 (bif (decide (x0_1 < x0_0)) then
 (inb x0_1 (List.length x0_7 : Int)
 ((impl_worker__gone.f k ((x0_2, (x0_3, (x0_4, (x0_5, ())))), (x0_6, ())) (List.getD x0_7 (Int.toNat x0_1) (Ty.dflt .str))).bind fun r2 =>
 (L0 x0_0 (w64 (x0_1 + 1)) r2.1.1.1 r2.1.1.2.1 r2.1.1.2.2.1 r2.1.1.2.2.2.1 r2.1.2.1 x0_7)))
 else
 (some (((x0_2, (x0_3, (x0_4, (x0_5, ())))), (x0_6, ())), ())))
def l0 (k : Nat) : Nat → T0
  | 0 => fun _ _ _ _ _ _ _ _ => none
  | n + 1 => b0 k (l0 k n)
def t (k : Nat) (L0 : T0) (a0 : Ty.den Tworker) (a1 : Ty.den TLive) : Rs :=
 ((impl_Orphans.f k a0.1 a1).bind fun r1 =>
 (L0 (List.length r1.1 : Int) 0 a0.1.1 a0.1.2.1 a0.1.2.2.1 a0.1.2.2.2.1 a0.2.1 r1.1))
def f (k : Nat) := t k (l0 k k)
end impl_worker__orphans
namespace impl_worker__found
abbrev Rs : Type := Option ((Ty.den Tworker) × (Ty.den TStore) × Unit)
abbrev T0 : Type := List (List (Ty.den TPlace)) → Int → Int → List (Ty.den TPair) → Int → Int → Bool → Int → List Int → List (Ty.den TEntry) → Int → Int → Int → Int → List Int → Int → List (Ty.den TEntry) → Int → Int → Int → Int → List (Ty.den TEntry) → Int → Int → List (Ty.den TPlace) → Rs
abbrev T1 : Type := Int → Int → List (Ty.den TPair) → Int → Int → Bool → Int → List Int → List (Ty.den TEntry) → Int → Int → Int → Int → List Int → Int → List (Ty.den TEntry) → Int → Int → Int → Int → List (Ty.den TEntry) → Int → Int → List (Ty.den TPlace) → List (List (Ty.den TPlace)) → Rs
abbrev T2 : Type := List (List (Ty.den TPlace)) → Int → Int → List (Ty.den TPair) → Int → Int → Bool → Int → List Int → List (Ty.den TEntry) → Int → Int → Int → Int → List Int → Int → List (Ty.den TEntry) → Int → Int → Int → Int → List (Ty.den TEntry) → Int → Int → List (Ty.den TPlace) → Rs
abbrev T3 : Type := Int → Int → List (Ty.den TPair) → Int → Int → Bool → Int → List Int → List (Ty.den TEntry) → Int → Int → Int → Int → List Int → Int → List (Ty.den TEntry) → Int → Int → Int → Int → List (Ty.den TEntry) → Int → Int → List (Ty.den TPlace) → List (List (Ty.den TPlace)) → Rs
def b0 (k : Nat) (L0 : T0) : T0 := fun x0_0 x0_1 x0_2 x0_3 x0_4 x0_5 x0_6 x0_7 x0_8 x0_9 x0_10 x0_11 x0_12 x0_13 x0_14 x0_15 x0_16 x0_17 x0_18 x0_19 x0_20 x0_21 x0_22 x0_23 x0_24 =>
 (bif (decide (x0_2 < x0_1)) then
 (inb x0_2 (List.length x0_0 : Int)
 (rm (Ty.bytes TPlace) (List.length x0_24 + List.length (List.getD x0_0 (Int.toNat x0_2) (Ty.dflt (.slice TPlace))))
 (L0 x0_0 x0_1 (w64 (x0_2 + 1)) x0_3 x0_4 x0_5 x0_6 x0_7 x0_8 x0_9 x0_10 x0_11 x0_12 x0_13 x0_14 x0_15 x0_16 x0_17 x0_18 x0_19 x0_20 x0_21 x0_22 x0_23 (x0_24 ++ (List.getD x0_0 (Int.toNat x0_2) (Ty.dflt (.slice TPlace)))))))
 else
 ((impl_Regroup.f k (x0_21, (x0_22, (x0_23, ()))) x0_24).bind fun r9 =>
 (bif (r9.1.2.2.1 != 0) then
 (some (((x0_3, (x0_4, (x0_5, (x0_6, ())))), (3, ())), (((0, ([], ())), ([], (0, (0, (0, ()))))), ())))
 else
 ((impl_worker__orphans.f k ((x0_3, (x0_4, (x0_5, (x0_6, ())))), (x0_7, ())) (x0_15, (x0_14, ()))).bind fun r10 =>
 (some (r10.1, (((x0_17, (x0_14, ())), (r9.1.1, ((w64 (r9.1.2.1 + 1)), (x0_19, (x0_20, ()))))), ())))))))
def l0 (k : Nat) : Nat → T0
  | 0 => fun _ _ _ _ _ _ _ _ _ _ _ _ _ _ _ _ _ _ _ _ _ _ _ _ _ => none
  | n + 1 => b0 k (l0 k n)
def b1 (k : Nat) (L1 : T1) : T1 := fun x1_0 x1_1 x1_2 x1_3 x1_4 x1_5 x1_6 x1_7 x1_8 x1_9 x1_10 x1_11 x1_12 x1_13 x1_14 x1_15 x1_16 x1_17 x1_18 x1_19 x1_20 x1_21 x1_22 x1_23 x1_24 =>
 (bif (decide (x1_1 < x1_0)) then
 (inb x1_1 (List.length x1_24 : Int)
 (rm (Ty.bytes TPlace) (List.length x1_23 + List.length (List.getD x1_24 (Int.toNat x1_1) (Ty.dflt (.slice TPlace))))
 (L1 x1_0 (w64 (x1_1 + 1)) x1_2 x1_3 x1_4 x1_5 x1_6 x1_7 x1_8 x1_9 x1_10 x1_11 x1_12 x1_13 x1_14 x1_15 x1_16 x1_17 x1_18 x1_19 x1_20 x1_21 x1_22 (x1_23 ++ (List.getD x1_24 (Int.toNat x1_1) (Ty.dflt (.slice TPlace)))) x1_24)))
 else
 ((impl_Regroup.f k (x1_20, (x1_21, (x1_22, ()))) x1_23).bind fun r11 =>
 (bif (r11.1.2.2.1 != 0) then
 (some (((x1_2, (x1_3, (x1_4, (x1_5, ())))), (3, ())), (((0, ([], ())), ([], (0, (0, (0, ()))))), ())))
 else
 ((impl_worker__orphans.f k ((x1_2, (x1_3, (x1_4, (x1_5, ())))), (x1_6, ())) (x1_14, (x1_13, ()))).bind fun r12 =>
 (some (r12.1, (((x1_16, (x1_13, ())), (r11.1.1, ((w64 (r11.1.2.1 + 1)), (x1_18, (x1_19, ()))))), ())))))))
def l1 (k : Nat) : Nat → T1
  | 0 => fun _ _ _ _ _ _ _ _ _ _ _ _ _ _ _ _ _ _ _ _ _ _ _ _ _ => none
  | n + 1 => b1 k (l1 k n)
def b2 (k : Nat) (L2 : T2) : T2 := fun x2_0 x2_1 x2_2 x2_3 x2_4 x2_5 x2_6 x2_7 x2_8 x2_9 x2_10 x2_11 x2_12 x2_13 x2_14 x2_15 x2_16 x2_17 x2_18 x2_19 x2_20 x2_21 x2_22 x2_23 x2_24 =>
 (bif (decide (x2_2 < x2_1)) then
 (inb x2_2 (List.length x2_0 : Int)
 (rm (Ty.bytes TPlace) (List.length x2_24 + List.length (List.getD x2_0 (Int.toNat x2_2) (Ty.dflt (.slice TPlace))))
 (L2 x2_0 x2_1 (w64 (x2_2 + 1)) x2_3 x2_4 x2_5 x2_6 x2_7 x2_8 x2_9 x2_10 x2_11 x2_12 x2_13 x2_14 x2_15 x2_16 x2_17 x2_18 x2_19 x2_20 x2_21 x2_22 x2_23 (x2_24 ++ (List.getD x2_0 (Int.toNat x2_2) (Ty.dflt (.slice TPlace)))))))
 else
 ((impl_Regroup.f k (x2_21, (x2_22, (x2_23, ()))) x2_24).bind fun r15 =>
 (bif (r15.1.2.2.1 != 0) then
 (some (((x2_3, (x2_4, (x2_5, (x2_6, ())))), (3, ())), (((0, ([], ())), ([], (0, (0, (0, ()))))), ())))
 else
 ((impl_worker__orphans.f k ((x2_3, (x2_4, (x2_5, (x2_6, ())))), (x2_7, ())) (x2_15, (x2_14, ()))).bind fun r16 =>
 (some (r16.1, (((x2_17, (x2_14, ())), (r15.1.1, ((w64 (r15.1.2.1 + 1)), (x2_19, (x2_20, ()))))), ())))))))
def l2 (k : Nat) : Nat → T2
  | 0 => fun _ _ _ _ _ _ _ _ _ _ _ _ _ _ _ _ _ _ _ _ _ _ _ _ _ => none
  | n + 1 => b2 k (l2 k n)
def b3 (k : Nat) (L3 : T3) : T3 := fun x3_0 x3_1 x3_2 x3_3 x3_4 x3_5 x3_6 x3_7 x3_8 x3_9 x3_10 x3_11 x3_12 x3_13 x3_14 x3_15 x3_16 x3_17 x3_18 x3_19 x3_20 x3_21 x3_22 x3_23 x3_24 =>
 (bif (decide (x3_1 < x3_0)) then
 (inb x3_1 (List.length x3_24 : Int)
 (rm (Ty.bytes TPlace) (List.length x3_23 + List.length (List.getD x3_24 (Int.toNat x3_1) (Ty.dflt (.slice TPlace))))
 (L3 x3_0 (w64 (x3_1 + 1)) x3_2 x3_3 x3_4 x3_5 x3_6 x3_7 x3_8 x3_9 x3_10 x3_11 x3_12 x3_13 x3_14 x3_15 x3_16 x3_17 x3_18 x3_19 x3_20 x3_21 x3_22 (x3_23 ++ (List.getD x3_24 (Int.toNat x3_1) (Ty.dflt (.slice TPlace)))) x3_24)))
 else
 ((impl_Regroup.f k (x3_20, (x3_21, (x3_22, ()))) x3_23).bind fun r17 =>
 (bif (r17.1.2.2.1 != 0) then
 (some (((x3_2, (x3_3, (x3_4, (x3_5, ())))), (3, ())), (((0, ([], ())), ([], (0, (0, (0, ()))))), ())))
 else
 ((impl_worker__orphans.f k ((x3_2, (x3_3, (x3_4, (x3_5, ())))), (x3_6, ())) (x3_14, (x3_13, ()))).bind fun r18 =>
 (some (r18.1, (((x3_16, (x3_13, ())), (r17.1.1, ((w64 (r17.1.2.1 + 1)), (x3_18, (x3_19, ()))))), ())))))))
def l3 (k : Nat) : Nat → T3
  | 0 => fun _ _ _ _ _ _ _ _ _ _ _ _ _ _ _ _ _ _ _ _ _ _ _ _ _ => none
  | n + 1 => b3 k (l3 k n)
def t (k : Nat) (L0 : T0) (L1 : T1) (L2 : T2) (L3 : T3) (a0 : Ty.den Tworker) (a1 : ByteArray) : Rs :=
 ((impl_ReadLive.f k a1).bind fun r1 =>
 ((impl_worker__scanAll.f k a0 r1.1).bind fun r2 =>
 (bif (!r1.2.1) then
 (some ((r2.1.1, (3, ())), (((0, ([], ())), ([], (0, (0, (0, ()))))), ())))
 else
 (bif (!r2.2.2.2.1) then
 (some ((r2.1.1, (3, ())), (((0, ([], ())), ([], (0, (0, (0, ()))))), ())))
 else
 (inb (w64 ((List.length r1.1.2.1 : Int) - 1)) (List.length r1.1.2.1 : Int)
 ((impl_SegName.f k (List.getD r1.1.2.1 (Int.toNat (w64 ((List.length r1.1.2.1 : Int) - 1))) (Ty.dflt (.int .i64)))).bind fun r3 =>
 ((impl_FileText.f k r2.1.1 r3.1).bind fun r4 =>
 (bif ((ByteArray.size r4.1 : Int) != r2.2.2.1) then
 ((impl_Truncate.f k r2.1.1 r3.1 r2.2.2.1).bind fun r5 =>
 ((impl_worker__took_g1.f k r2.1 r5.1 r5.2.1).bind fun r6 =>
 ((impl_worker__sync.f k r6.1 r3.1).bind fun r7 =>
 (bif (r7.1.2.1 != 0) then
 (some (r7.1, (((0, ([], ())), ([], (0, (0, (0, ()))))), ())))
 else
 (inb 0 (List.length r1.1.2.1 : Int)
 ((impl_worker__hinted.f k r7.1 (List.getD r1.1.2.1 0 (Ty.dflt (.int .i64)))).bind fun r8 =>
 (bif r8.2.2.1 then
 (inb 0 (List.length r1.1.2.1 : Int)
 (inc 1 (List.length r2.2.1 : Int)
 (L0 (List.drop 1 r2.2.1) (List.length (List.drop 1 r2.2.1) : Int) 0 r8.1.1.1 r8.1.1.2.1 r8.1.1.2.2.1 r8.1.1.2.2.2.1 r8.1.2.1 [] [] 0 0 0 0 r1.1.2.1 r1.1.1 [] r1.1.1 0 r2.2.2.1 (List.getD r1.1.2.1 0 (Ty.dflt (.int .i64))) r8.2.1.1 r8.2.1.2.1 r8.2.1.2.2.1 [])))
 else
 (L1 (List.length r2.2.1 : Int) 0 r8.1.1.1 r8.1.1.2.1 r8.1.1.2.2.1 r8.1.1.2.2.2.1 r8.1.2.1 [] [] 0 0 0 0 r1.1.2.1 r1.1.1 [] r1.1.1 0 r2.2.2.1 0 r8.2.1.1 r8.2.1.2.1 r8.2.1.2.2.1 [] r2.2.1))))))))
 else
 ((impl_worker__sync.f k r2.1 r3.1).bind fun r13 =>
 (bif (r13.1.2.1 != 0) then
 (some (r13.1, (((0, ([], ())), ([], (0, (0, (0, ()))))), ())))
 else
 (inb 0 (List.length r1.1.2.1 : Int)
 ((impl_worker__hinted.f k r13.1 (List.getD r1.1.2.1 0 (Ty.dflt (.int .i64)))).bind fun r14 =>
 (bif r14.2.2.1 then
 (inb 0 (List.length r1.1.2.1 : Int)
 (inc 1 (List.length r2.2.1 : Int)
 (L2 (List.drop 1 r2.2.1) (List.length (List.drop 1 r2.2.1) : Int) 0 r14.1.1.1 r14.1.1.2.1 r14.1.1.2.2.1 r14.1.1.2.2.2.1 r14.1.2.1 [] [] 0 0 0 0 r1.1.2.1 r1.1.1 [] r1.1.1 0 r2.2.2.1 (List.getD r1.1.2.1 0 (Ty.dflt (.int .i64))) r14.2.1.1 r14.2.1.2.1 r14.2.1.2.2.1 [])))
 else
 (L3 (List.length r2.2.1 : Int) 0 r14.1.1.1 r14.1.1.2.1 r14.1.1.2.2.1 r14.1.1.2.2.2.1 r14.1.2.1 [] [] 0 0 0 0 r1.1.2.1 r1.1.1 [] r1.1.1 0 r2.2.2.1 0 r14.2.1.1 r14.2.1.2.1 r14.2.1.2.2.1 [] r2.2.1))))))))))))))
def f (k : Nat) := t k (l0 k k) (l1 k k) (l2 k k) (l3 k k)
end impl_worker__found
namespace impl_Disk__put
abbrev Rs : Type := Option ((Ty.den TDisk) × Unit)
abbrev T0 : Type := Int → List (Ty.den TPair) → Int → Int → Bool → ByteArray → ByteArray → Int → Rs
def b0 (k : Nat) (L0 : T0) : T0 := fun x0_0 x0_1 x0_2 x0_3 x0_4 x0_5 x0_6 x0_7 =>
 (bif (decide (x0_0 < (List.length x0_1 : Int))) then
 (inb x0_0 (List.length x0_1 : Int)
 (bif (sls (List.getD x0_1 (Int.toNat x0_0) (Ty.dflt TPair)).1 x0_5) then
 (L0 (w64 (x0_0 + 1)) x0_1 x0_2 x0_3 x0_4 x0_5 x0_6 x0_7)
 else
 (inc x0_0 (List.length x0_1 : Int)
 (rm (Ty.bytes TPair) (List.length (List.take (Int.toNat x0_0) x0_1))
 (rm (Ty.bytes TPair) (List.length (List.take (Int.toNat x0_0) x0_1) + 1)
 (inc x0_0 (List.length x0_1 : Int)
 (rm (Ty.bytes TPair) (List.length ((List.take (Int.toNat x0_0) x0_1) ++ [(x0_5, (x0_6, (x0_7, ())))]) + List.length (List.drop (Int.toNat x0_0) x0_1))
 (some (((((List.take (Int.toNat x0_0) x0_1) ++ [(x0_5, (x0_6, (x0_7, ())))]) ++ (List.drop (Int.toNat x0_0) x0_1)), (x0_2, (x0_3, (x0_4, ())))), ())))))))))
 else
 (inc x0_0 (List.length x0_1 : Int)
 (rm (Ty.bytes TPair) (List.length (List.take (Int.toNat x0_0) x0_1))
 (rm (Ty.bytes TPair) (List.length (List.take (Int.toNat x0_0) x0_1) + 1)
 (inc x0_0 (List.length x0_1 : Int)
 (rm (Ty.bytes TPair) (List.length ((List.take (Int.toNat x0_0) x0_1) ++ [(x0_5, (x0_6, (x0_7, ())))]) + List.length (List.drop (Int.toNat x0_0) x0_1))
 (some (((((List.take (Int.toNat x0_0) x0_1) ++ [(x0_5, (x0_6, (x0_7, ())))]) ++ (List.drop (Int.toNat x0_0) x0_1)), (x0_2, (x0_3, (x0_4, ())))), ()))))))))
def l0 (k : Nat) : Nat → T0
  | 0 => fun _ _ _ _ _ _ _ _ => none
  | n + 1 => b0 k (l0 k n)
def t (k : Nat) (L0 : T0) (a0 : Ty.den TDisk) (a1 : Ty.den TPair) : Rs :=
 (L0 0 a0.1 a0.2.1 a0.2.2.1 a0.2.2.2.1 a1.1 a1.2.1 a1.2.2.1)
def f (k : Nat) := t k (l0 k k)
end impl_Disk__put
namespace impl_Create_1
abbrev Rs : Type := Option ((Ty.den TDisk) × ByteArray × Int × Unit)
def t (k : Nat) (a0 : Ty.den TDisk) (a1 : ByteArray) : Rs :=
 ((impl_NameOk.f k a1).bind fun r1 =>
 (bif (!r1.1) then
 (some (a0, (a1, (5, ()))))
 else
 ((impl_fileAt.f k a0 a1).bind fun r2 =>
 (bif (decide (r2.1 ≥ 0)) then
 (some (a0, (a1, (4, ()))))
 else
 (bif (decide ((List.length a0.1 : Int) ≥ 130)) then
 (some (a0, (a1, (2, ()))))
 else
 ((impl_Disk__put.f k a0 (a1, (ByteArray.empty, (0, ())))).bind fun r3 =>
 (some (r3.1, (a1, (0, ()))))))))))
def f (k : Nat) := t k
end impl_Create_1
namespace impl_step_Create_1
abbrev Rs : Type := Option (ByteArray × (Ty.den TDisk) × Int × Unit)
def t (k : Nat) (a0 : Ty.den TDisk) (a1 : ByteArray) : Rs :=
 ((impl_copyDisk.f k a0).bind fun r1 =>
 ((impl_DiskOk.f k a0).bind fun r2 =>
 (bif (!r2.1) then
 (some (a1, (r1.1, (5, ()))))
 else
 (bif a0.2.2.2.1 then
 (some (a1, ((r1.1.1, (r1.1.2.1, (r1.1.2.2.1, (true, ())))), (1, ()))))
 else
 (bif (a0.2.2.1 == 0) then
 (some (a1, ((r1.1.1, (r1.1.2.1, (r1.1.2.2.1, (true, ())))), (1, ()))))
 else
 (bif (decide (a0.2.2.1 > 0)) then
 ((impl_Create_1.f k (r1.1.1, (r1.1.2.1, ((w64 (r1.1.2.2.1 - 1)), r1.1.2.2.2))) a1).bind fun r3 =>
 (some (r3.2.1, (r3.1, r3.2.2))))
 else
 ((impl_Create_1.f k r1.1 a1).bind fun r4 =>
 (some (r4.2.1, (r4.1, r4.2.2))))))))))
def f (k : Nat) := t k
end impl_step_Create_1
namespace impl_Create
abbrev Rs : Type := Option ((Ty.den TDisk) × Int × Unit)
def t (k : Nat) (a0 : Ty.den TDisk) (a1 : ByteArray) : Rs :=
 ((impl_step_Create_1.f k a0 a1).bind fun r1 =>
 (some r1.2))
def f (k : Nat) := t k
end impl_Create
namespace impl_worker__create
abbrev Rs : Type := Option ((Ty.den Tworker) × Unit)
def t (k : Nat) (a0 : Ty.den Tworker) (a1 : ByteArray) : Rs :=
 (bif (a0.2.1 == 0) then
 ((impl_Create.f k a0.1 a1).bind fun r1 =>
 ((impl_worker__took_g1.f k a0 r1.1 r1.2.1).bind fun r2 =>
 (some r2)))
 else
 (some (a0, ())))
def f (k : Nat) := t k
end impl_worker__create
namespace impl_ShowLive
abbrev Rs : Type := Option (ByteArray × Unit)
def t (k : Nat) (a0 : Ty.den TLive) : Rs :=
 ((impl_LiveOk.f k a0).bind fun r1 =>
 (bif (!r1.1) then
 (some ((⟨#[]⟩ : ByteArray), ()))
 else
 ((impl_vars.f k [a0.1, (List.length a0.2.1 : Int)]).bind fun r2 =>
 ((impl_vars.f k a0.2.1).bind fun r3 =>
 (cat r2.1 r3.1
 ((impl_Frame.f k (r2.1 ++ r3.1)).bind fun r4 =>
 (some r4)))))))
def f (k : Nat) := t k
end impl_ShowLive
namespace impl_worker__anew
abbrev Rs : Type := Option ((Ty.den Tworker) × Unit)
def t (k : Nat) (a0 : Ty.den Tworker) (a1 : ByteArray) : Rs :=
 ((impl_worker__gone.f k a0 a1).bind fun r1 =>
 ((impl_worker__create.f k r1.1 a1).bind fun r2 =>
 (some r2)))
def f (k : Nat) := t k
end impl_worker__anew
namespace impl_used
abbrev Rs : Type := Option (Int × Unit)
abbrev T0 : Type := Int → List (Ty.den TPair) → Int → Int → Rs
def b0 (k : Nat) (L0 : T0) : T0 := fun x0_0 x0_1 x0_2 x0_3 =>
 (bif (decide (x0_3 < x0_2)) then
 (inb x0_3 (List.length x0_1 : Int)
 (L0 (w64 (x0_0 + (ByteArray.size (List.getD x0_1 (Int.toNat x0_3) (Ty.dflt TPair)).2.1 : Int))) x0_1 x0_2 (w64 (x0_3 + 1))))
 else
 (some (x0_0, ())))
def l0 (k : Nat) : Nat → T0
  | 0 => fun _ _ _ _ => none
  | n + 1 => b0 k (l0 k n)
def t (k : Nat) (L0 : T0) (a0 : Ty.den TDisk) : Rs :=
 (L0 0 a0.1 (List.length a0.1 : Int) 0)
def f (k : Nat) := t k (l0 k k)
end impl_used
namespace impl_Append_1
abbrev Rs : Type := Option ((Ty.den TDisk) × ByteArray × ByteArray × Int × Unit)
def t (k : Nat) (a0 : Ty.den TDisk) (a1 : ByteArray) (a2 : ByteArray) : Rs :=
 ((impl_fileAt.f k a0 a1).bind fun r1 =>
 (bif (decide (r1.1 < 0)) then
 (some (a0, (a1, (a2, (3, ())))))
 else
 ((impl_used.f k a0).bind fun r2 =>
 (bif (decide ((ByteArray.size a2 : Int) > (w64 (a0.2.1 - r2.1)))) then
 (some (a0, (a1, (a2, (2, ())))))
 else
 (inb r1.1 (List.length a0.1 : Int)
 (cat (List.getD a0.1 (Int.toNat r1.1) (Ty.dflt TPair)).2.1 a2
 (inb r1.1 (List.length a0.1 : Int)
 (let l3 := (List.set a0.1 (Int.toNat r1.1) ((List.getD a0.1 (Int.toNat r1.1) (Ty.dflt TPair)).1, (((List.getD a0.1 (Int.toNat r1.1) (Ty.dflt TPair)).2.1 ++ a2), (List.getD a0.1 (Int.toNat r1.1) (Ty.dflt TPair)).2.2)));
 (some ((l3, a0.2), (a1, (a2, (0, ())))))))))))))
def f (k : Nat) := t k
end impl_Append_1
namespace impl_step_Append_1
abbrev Rs : Type := Option (ByteArray × ByteArray × (Ty.den TDisk) × Int × Unit)
def t (k : Nat) (a0 : Ty.den TDisk) (a1 : ByteArray) (a2 : ByteArray) : Rs :=
 ((impl_copyDisk.f k a0).bind fun r1 =>
 ((impl_DiskOk.f k a0).bind fun r2 =>
 (bif (!r2.1) then
 (some (a1, (a2, (r1.1, (5, ())))))
 else
 (bif a0.2.2.2.1 then
 (some (a1, (a2, ((r1.1.1, (r1.1.2.1, (r1.1.2.2.1, (true, ())))), (1, ())))))
 else
 (bif (a0.2.2.1 == 0) then
 (some (a1, (a2, ((r1.1.1, (r1.1.2.1, (r1.1.2.2.1, (true, ())))), (1, ())))))
 else
 (bif (decide (a0.2.2.1 > 0)) then
 ((impl_Append_1.f k (r1.1.1, (r1.1.2.1, ((w64 (r1.1.2.2.1 - 1)), r1.1.2.2.2))) a1 a2).bind fun r3 =>
 (some (r3.2.1, (r3.2.2.1, (r3.1, r3.2.2.2)))))
 else
 ((impl_Append_1.f k r1.1 a1 a2).bind fun r4 =>
 (some (r4.2.1, (r4.2.2.1, (r4.1, r4.2.2.2)))))))))))
def f (k : Nat) := t k
end impl_step_Append_1
namespace impl_Append
abbrev Rs : Type := Option ((Ty.den TDisk) × Int × Unit)
def t (k : Nat) (a0 : Ty.den TDisk) (a1 : ByteArray) (a2 : ByteArray) : Rs :=
 ((impl_step_Append_1.f k a0 a1 a2).bind fun r1 =>
 (some r1.2.2))
def f (k : Nat) := t k
end impl_Append
namespace impl_worker__put
abbrev Rs : Type := Option ((Ty.den Tworker) × Unit)
def t (k : Nat) (a0 : Ty.den Tworker) (a1 : ByteArray) (a2 : ByteArray) : Rs :=
 (bif (a0.2.1 == 0) then
 ((impl_Append.f k a0.1 a1 a2).bind fun r1 =>
 ((impl_worker__took_g1.f k a0 r1.1 r1.2.1).bind fun r2 =>
 (some r2)))
 else
 (some (a0, ())))
def f (k : Nat) := t k
end impl_worker__put
namespace impl_worker__fileOf
abbrev Rs : Type := Option ((Ty.den Tworker) × Unit)
def t (k : Nat) (a0 : Ty.den Tworker) (a1 : ByteArray) (a2 : ByteArray) : Rs :=
 ((impl_worker__anew.f k a0 a1).bind fun r1 =>
 ((impl_worker__put.f k r1.1 a1 a2).bind fun r2 =>
 ((impl_worker__sync.f k r2.1 a1).bind fun r3 =>
 (some r3))))
def f (k : Nat) := t k
end impl_worker__fileOf
namespace impl_Rename_1
abbrev Rs : Type := Option ((Ty.den TDisk) × ByteArray × ByteArray × Int × Unit)
def t (k : Nat) (a0 : Ty.den TDisk) (a1 : ByteArray) (a2 : ByteArray) : Rs :=
 ((impl_fileAt.f k a0 a1).bind fun r1 =>
 ((impl_NameOk.f k a2).bind fun r2 =>
 (bif (!r2.1) then
 (some (a0, (a1, (a2, (5, ())))))
 else
 (bif (decide (r1.1 < 0)) then
 (some (a0, (a1, (a2, (3, ())))))
 else
 (inb r1.1 (List.length a0.1 : Int)
 ((impl_Disk__drop.f k a0 a1).bind fun r3 =>
 ((impl_Disk__drop.f k r3.1 a2).bind fun r4 =>
 ((impl_Disk__put.f k r4.1 (a2, (List.getD a0.1 (Int.toNat r1.1) (Ty.dflt TPair)).2)).bind fun r5 =>
 (some (r5.1, (a1, (a2, (0, ())))))))))))))
def f (k : Nat) := t k
end impl_Rename_1
namespace impl_step_Rename_1
abbrev Rs : Type := Option (ByteArray × ByteArray × (Ty.den TDisk) × Int × Unit)
def t (k : Nat) (a0 : Ty.den TDisk) (a1 : ByteArray) (a2 : ByteArray) : Rs :=
 ((impl_copyDisk.f k a0).bind fun r1 =>
 ((impl_DiskOk.f k a0).bind fun r2 =>
 (bif (!r2.1) then
 (some (a1, (a2, (r1.1, (5, ())))))
 else
 (bif a0.2.2.2.1 then
 (some (a1, (a2, ((r1.1.1, (r1.1.2.1, (r1.1.2.2.1, (true, ())))), (1, ())))))
 else
 (bif (a0.2.2.1 == 0) then
 (some (a1, (a2, ((r1.1.1, (r1.1.2.1, (r1.1.2.2.1, (true, ())))), (1, ())))))
 else
 (bif (decide (a0.2.2.1 > 0)) then
 ((impl_Rename_1.f k (r1.1.1, (r1.1.2.1, ((w64 (r1.1.2.2.1 - 1)), r1.1.2.2.2))) a1 a2).bind fun r3 =>
 (some (r3.2.1, (r3.2.2.1, (r3.1, r3.2.2.2)))))
 else
 ((impl_Rename_1.f k r1.1 a1 a2).bind fun r4 =>
 (some (r4.2.1, (r4.2.2.1, (r4.1, r4.2.2.2)))))))))))
def f (k : Nat) := t k
end impl_step_Rename_1
namespace impl_Rename
abbrev Rs : Type := Option ((Ty.den TDisk) × Int × Unit)
def t (k : Nat) (a0 : Ty.den TDisk) (a1 : ByteArray) (a2 : ByteArray) : Rs :=
 ((impl_step_Rename_1.f k a0 a1 a2).bind fun r1 =>
 (some r1.2.2))
def f (k : Nat) := t k
end impl_Rename
namespace impl_worker__rename
abbrev Rs : Type := Option ((Ty.den Tworker) × Unit)
def t (k : Nat) (a0 : Ty.den Tworker) (a1 : ByteArray) (a2 : ByteArray) : Rs :=
 (bif (a0.2.1 == 0) then
 ((impl_Rename.f k a0.1 a1 a2).bind fun r1 =>
 ((impl_worker__took_g1.f k a0 r1.1 r1.2.1).bind fun r2 =>
 (some r2)))
 else
 (some (a0, ())))
def f (k : Nat) := t k
end impl_worker__rename
namespace impl_worker__putLive
abbrev Rs : Type := Option ((Ty.den Tworker) × Unit)
def t (k : Nat) (a0 : Ty.den Tworker) (a1 : Ty.den TLive) : Rs :=
 ((impl_ShowLive.f k a1).bind fun r1 =>
 ((impl_worker__fileOf.f k a0 (⟨#[116, 101, 109, 112]⟩ : ByteArray) r1.1).bind fun r2 =>
 ((impl_worker__rename.f k r2.1 (⟨#[116, 101, 109, 112]⟩ : ByteArray) (⟨#[108, 105, 118, 101]⟩ : ByteArray)).bind fun r3 =>
 (some r3))))
def f (k : Nat) := t k
end impl_worker__putLive
namespace impl_worker__first
abbrev Rs : Type := Option ((Ty.den Tworker) × (Ty.den TStore) × Unit)
def t (k : Nat) (a0 : Ty.den Tworker) : Rs :=
 ((impl_worker__orphans.f k a0 (0, ([], ()))).bind fun r1 =>
 ((impl_SegName.f k 1).bind fun r2 =>
 ((impl_worker__create.f k r1.1 r2.1).bind fun r3 =>
 ((impl_worker__putLive.f k r3.1 (2, ([1], ()))).bind fun r4 =>
 (some (r4.1, (((2, ([1], ())), ([], (1, (0, (0, ()))))), ())))))))
def f (k : Nat) := t k
end impl_worker__first
namespace impl_Open
abbrev Rs : Type := Option ((Ty.den TStore) × (Ty.den TDisk) × Int × Unit)
def t (k : Nat) (a0 : Ty.den TDisk) : Rs :=
 ((impl_copyDisk.f k a0).bind fun r1 =>
 ((impl_DiskOk.f k a0).bind fun r2 =>
 (bif (!r2.1) then
 (some (((0, ([], ())), ([], (0, (0, (0, ()))))), (r1.1, (4, ()))))
 else
 (bif a0.2.2.2.1 then
 (some (((0, ([], ())), ([], (0, (0, (0, ()))))), (r1.1, (1, ()))))
 else
 ((impl_FileText.f k a0 (⟨#[108, 105, 118, 101]⟩ : ByteArray)).bind fun r3 =>
 (bif r3.2.1 then
 ((impl_worker__found.f k (r1.1, (0, ())) r3.1).bind fun r4 =>
 (bif (r4.1.2.1 != 0) then
 (some (((0, ([], ())), ([], (0, (0, (0, ()))))), r4.1))
 else
 (some (r4.2.1, (r4.1.1, (0, ()))))))
 else
 ((impl_worker__first.f k (r1.1, (0, ()))).bind fun r5 =>
 (bif (r5.1.2.1 != 0) then
 (some (((0, ([], ())), ([], (0, (0, (0, ()))))), r5.1))
 else
 (some (r5.2.1, (r5.1.1, (0, ()))))))))))))
def f (k : Nat) := t k
end impl_Open
namespace impl_EngineNew
abbrev Rs : Type := Option ((Ty.den TEngine) × Int × Unit)
def t (k : Nat) (a0 : Ty.den TDisk) : Rs :=
 ((impl_Open.f k a0).bind fun r1 =>
 (mks (Ty.bytes TTxn) 3
 (some (((r1.2.2.1 == 0), (r1.1, (r1.2.1, ((List.replicate (Int.toNat 3) (Ty.dflt TTxn)), ())))), r1.2.2))))
def f (k : Nat) := t k
end impl_EngineNew
namespace impl_DirKeys
abbrev Rs : Type := Option ((List ByteArray) × Unit)
abbrev T0 : Type := List (Ty.den TEntry) → Int → Int → List ByteArray → Rs
def b0 (k : Nat) (L0 : T0) : T0 := fun x0_0 x0_1 x0_2 x0_3 =>
 (bif (decide (x0_2 < x0_1)) then
 (inb x0_2 (List.length x0_0 : Int)
 (rm (Ty.bytes .str) (List.length x0_3 + 1)
 (L0 x0_0 x0_1 (w64 (x0_2 + 1)) (x0_3 ++ [(List.getD x0_0 (Int.toNat x0_2) (Ty.dflt TEntry)).1]))))
 else
 (some (x0_3, ())))
def l0 (k : Nat) : Nat → T0
  | 0 => fun _ _ _ _ => none
  | n + 1 => b0 k (l0 k n)
def t (k : Nat) (L0 : T0) (a0 : List (Ty.den TEntry)) : Rs :=
 (L0 a0 (List.length a0 : Int) 0 [])
def f (k : Nat) := t k (l0 k k)
end impl_DirKeys
namespace impl_DirGet
abbrev Rs : Type := Option ((Ty.den TEntry) × Bool × Unit)
abbrev T0 : Type := ByteArray → List (Ty.den TEntry) → Int → Int → ByteArray → Int → Int → Int → Int → Rs
def b0 (k : Nat) (L0 : T0) : T0 := fun x0_0 x0_1 x0_2 x0_3 x0_4 x0_5 x0_6 x0_7 x0_8 =>
 (bif (decide (x0_3 < x0_2)) then
 (inb x0_3 (List.length x0_1 : Int)
 (bif (seq (List.getD x0_1 (Int.toNat x0_3) (Ty.dflt TEntry)).1 x0_0) then
 (some ((List.getD x0_1 (Int.toNat x0_3) (Ty.dflt TEntry)), (true, ())))
 else
 (L0 x0_0 x0_1 x0_2 (w64 (x0_3 + 1)) x0_4 x0_5 x0_6 x0_7 x0_8)))
 else
 (some ((ByteArray.empty, (0, (0, (0, (0, ()))))), (false, ()))))
def l0 (k : Nat) : Nat → T0
  | 0 => fun _ _ _ _ _ _ _ _ _ => none
  | n + 1 => b0 k (l0 k n)
def t (k : Nat) (L0 : T0) (a0 : List (Ty.den TEntry)) (a1 : ByteArray) : Rs :=
 (L0 a1 a0 (List.length a0 : Int) 0 ByteArray.empty 0 0 0 0)
def f (k : Nat) := t k (l0 k k)
end impl_DirGet
namespace impl_RecAt
abbrev Rs : Type := Option ((Ty.den TRec) × Bool × Unit)
def t (k : Nat) (a0 : ByteArray) (a1 : Int) (a2 : Int) : Rs :=
 ((impl_in.f k a1 0 (ByteArray.size a0 : Int)).bind fun r1 =>
 (bif (!r1.1) then
 (some ((0, (0, (ByteArray.empty, (ByteArray.empty, (0, (0, ())))))), (false, ())))
 else
 ((impl_in.f k a2 0 (w64 ((ByteArray.size a0 : Int) - a1))).bind fun r2 =>
 (bif (!r2.1) then
 (some ((0, (0, (ByteArray.empty, (ByteArray.empty, (0, (0, ())))))), (false, ())))
 else
 (inc2 a1 (w64 (a1 + a2)) (ByteArray.size a0 : Int)
 ((impl_Unframe.f k (ByteArray.extract a0 (Int.toNat a1) (Int.toNat (w64 (a1 + a2))))).bind fun r3 =>
 (bif (r3.2.1 == 0) then
 (some ((0, (0, (ByteArray.empty, (ByteArray.empty, (0, (0, ())))))), (false, ())))
 else
 (bif (r3.2.1 != a2) then
 (some ((0, (0, (ByteArray.empty, (ByteArray.empty, (0, (0, ())))))), (false, ())))
 else
 ((impl_ReadRec.f k r3.1).bind fun r4 =>
 (some r4))))))))))
def f (k : Nat) := t k
end impl_RecAt
namespace impl_Get
abbrev Rs : Type := Option ((Ty.den TPair) × Int × Unit)
def t (k : Nat) (a0 : Ty.den TStore) (a1 : Ty.den TDisk) (a2 : ByteArray) : Rs :=
 ((impl_DirGet.f k a0.2.1 a2).bind fun r1 =>
 (bif (!r1.2.1) then
 (some ((ByteArray.empty, (ByteArray.empty, (0, ()))), (8, ())))
 else
 ((impl_SegName.f k r1.1.2.1).bind fun r2 =>
 ((impl_FileText.f k a1 r2.1).bind fun r3 =>
 ((impl_RecAt.f k r3.1 r1.1.2.2.1 r1.1.2.2.2.1).bind fun r4 =>
 (bif (!r4.2.1) then
 (some ((ByteArray.empty, (ByteArray.empty, (0, ()))), (3, ())))
 else
 (bif (r4.1.1 != 1) then
 (bif (r4.1.1 != 4) then
 (some ((ByteArray.empty, (ByteArray.empty, (0, ()))), (3, ())))
 else
 (bif (!(seq r4.1.2.2.1 a2)) then
 (some ((ByteArray.empty, (ByteArray.empty, (0, ()))), (3, ())))
 else
 (some ((r4.1.2.2.1, (r4.1.2.2.2.1, (r4.1.2.1, ()))), (0, ())))))
 else
 (bif (!(seq r4.1.2.2.1 a2)) then
 (some ((ByteArray.empty, (ByteArray.empty, (0, ()))), (3, ())))
 else
 (some ((r4.1.2.2.1, (r4.1.2.2.2.1, (r4.1.2.1, ()))), (0, ())))))))))))
def f (k : Nat) := t k
end impl_Get
namespace impl_Dump
abbrev Rs : Type := Option ((List (Ty.den TPair)) × Int × Unit)
abbrev T0 : Type := Int → Int → Int → List Int → List (Ty.den TEntry) → Int → Int → Int → List (Ty.den TPair) → Int → Int → Bool → List (Ty.den TPair) → List ByteArray → Rs
def b0 (k : Nat) (L0 : T0) : T0 := fun x0_0 x0_1 x0_2 x0_3 x0_4 x0_5 x0_6 x0_7 x0_8 x0_9 x0_10 x0_11 x0_12 x0_13 =>
 (bif (decide (x0_1 < x0_0)) then
 (inb x0_1 (List.length x0_13 : Int)
 ((impl_Get.f k ((x0_2, (x0_3, ())), (x0_4, (x0_5, (x0_6, (x0_7, ()))))) (x0_8, (x0_9, (x0_10, (x0_11, ())))) (List.getD x0_13 (Int.toNat x0_1) (Ty.dflt .str))).bind fun r2 =>
 (bif (r2.2.1 != 0) then
 (some ([], r2.2))
 else
 (rm (Ty.bytes TPair) (List.length x0_12 + 1)
 (L0 x0_0 (w64 (x0_1 + 1)) x0_2 x0_3 x0_4 x0_5 x0_6 x0_7 x0_8 x0_9 x0_10 x0_11 (x0_12 ++ [r2.1]) x0_13)))))
 else
 (some (x0_12, (0, ()))))
def l0 (k : Nat) : Nat → T0
  | 0 => fun _ _ _ _ _ _ _ _ _ _ _ _ _ _ => none
  | n + 1 => b0 k (l0 k n)
def t (k : Nat) (L0 : T0) (a0 : Ty.den TStore) (a1 : Ty.den TDisk) : Rs :=
 ((impl_DirKeys.f k a0.2.1).bind fun r1 =>
 (L0 (List.length r1.1 : Int) 0 a0.1.1 a0.1.2.1 a0.2.1 a0.2.2.1 a0.2.2.2.1 a0.2.2.2.2.1 a1.1 a1.2.1 a1.2.2.1 a1.2.2.2.1 [] r1.1))
def f (k : Nat) := t k (l0 k k)
end impl_Dump
namespace impl_EngineMap
abbrev Rs : Type := Option ((List (Ty.den TPair)) × Int × Unit)
def t (k : Nat) (a0 : Ty.den TEngine) : Rs :=
 (bif (!a0.1) then
 (some ([], (6, ())))
 else
 ((impl_Dump.f k a0.2.1 a0.2.2.1).bind fun r1 =>
 (some r1)))
def f (k : Nat) := t k
end impl_EngineMap
namespace impl_Reopened
abbrev Rs : Type := Option ((List (Ty.den TPair)) × Int × Unit)
def t (k : Nat) (a0 : Ty.den TDisk) (a1 : List Int) : Rs :=
 ((impl_Power.f k a0 a1).bind fun r1 =>
 ((impl_EngineNew.f k r1.1).bind fun r2 =>
 (bif (r2.2.1 != 0) then
 (some ([], r2.2))
 else
 ((impl_EngineMap.f k r2.1).bind fun r3 =>
 (some r3)))))
def f (k : Nat) := t k
end impl_Reopened
namespace laws_eqPair
abbrev Rs : Type := Option (Bool × Unit)
def t (k : Nat) (a0 : Ty.den TPair) (a1 : Ty.den TPair) : Rs :=
 (bif (!(seq a0.1 a1.1)) then
 (some (false, ()))
 else
 (bif (!(seq a0.2.1 a1.2.1)) then
 (some (false, ()))
 else
 (bif (a0.2.2.1 != a1.2.2.1) then
 (some (false, ()))
 else
 (some (true, ())))))
def f (k : Nat) := t k
end laws_eqPair
namespace laws_eqPairS
abbrev Rs : Type := Option (Bool × Unit)
abbrev T0 : Type := List (Ty.den TPair) → List (Ty.den TPair) → Int → Rs
def b0 (k : Nat) (L0 : T0) : T0 := fun x0_0 x0_1 x0_2 =>
 (bif (decide (x0_2 < (List.length x0_0 : Int))) then
 (inb x0_2 (List.length x0_0 : Int)
 (inb x0_2 (List.length x0_1 : Int)
 ((laws_eqPair.f k (List.getD x0_0 (Int.toNat x0_2) (Ty.dflt TPair)) (List.getD x0_1 (Int.toNat x0_2) (Ty.dflt TPair))).bind fun r1 =>
 (bif (!r1.1) then
 (some (false, ()))
 else
 (L0 x0_0 x0_1 (w64 (x0_2 + 1)))))))
 else
 (some (true, ())))
def l0 (k : Nat) : Nat → T0
  | 0 => fun _ _ _ => none
  | n + 1 => b0 k (l0 k n)
def t (k : Nat) (L0 : T0) (a0 : List (Ty.den TPair)) (a1 : List (Ty.den TPair)) : Rs :=
 (bif ((List.length a0 : Int) != (List.length a1 : Int)) then
 (some (false, ()))
 else
 (L0 a0 a1 0))
def f (k : Nat) := t k (l0 k k)
end laws_eqPairS
namespace laws_eqFile
abbrev Rs : Type := Option (Bool × Unit)
def t (k : Nat) (a0 : Ty.den TPair) (a1 : Ty.den TPair) : Rs :=
 (bif (!(seq a0.1 a1.1)) then
 (some (false, ()))
 else
 (bif (!(seq a0.2.1 a1.2.1)) then
 (some (false, ()))
 else
 (bif (a0.2.2.1 != a1.2.2.1) then
 (some (false, ()))
 else
 (some (true, ())))))
def f (k : Nat) := t k
end laws_eqFile
namespace laws_eqFileS
abbrev Rs : Type := Option (Bool × Unit)
abbrev T0 : Type := List (Ty.den TPair) → List (Ty.den TPair) → Int → Rs
def b0 (k : Nat) (L0 : T0) : T0 := fun x0_0 x0_1 x0_2 =>
 (bif (decide (x0_2 < (List.length x0_0 : Int))) then
 (inb x0_2 (List.length x0_0 : Int)
 (inb x0_2 (List.length x0_1 : Int)
 ((laws_eqFile.f k (List.getD x0_0 (Int.toNat x0_2) (Ty.dflt TPair)) (List.getD x0_1 (Int.toNat x0_2) (Ty.dflt TPair))).bind fun r1 =>
 (bif (!r1.1) then
 (some (false, ()))
 else
 (L0 x0_0 x0_1 (w64 (x0_2 + 1)))))))
 else
 (some (true, ())))
def l0 (k : Nat) : Nat → T0
  | 0 => fun _ _ _ => none
  | n + 1 => b0 k (l0 k n)
def t (k : Nat) (L0 : T0) (a0 : List (Ty.den TPair)) (a1 : List (Ty.den TPair)) : Rs :=
 (bif ((List.length a0 : Int) != (List.length a1 : Int)) then
 (some (false, ()))
 else
 (L0 a0 a1 0))
def f (k : Nat) := t k (l0 k k)
end laws_eqFileS
namespace laws_eqDisk
abbrev Rs : Type := Option (Bool × Unit)
def t (k : Nat) (a0 : Ty.den TDisk) (a1 : Ty.den TDisk) : Rs :=
 ((laws_eqFileS.f k a0.1 a1.1).bind fun r1 =>
 (bif (!r1.1) then
 (some (false, ()))
 else
 (bif (a0.2.1 != a1.2.1) then
 (some (false, ()))
 else
 (bif (a0.2.2.1 != a1.2.2.1) then
 (some (false, ()))
 else
 (bif (!(a0.2.2.2.1 == a1.2.2.2.1)) then
 (some (false, ()))
 else
 (some (true, ())))))))
def f (k : Nat) := t k
end laws_eqDisk
namespace laws_eqIntS
abbrev Rs : Type := Option (Bool × Unit)
abbrev T0 : Type := List Int → List Int → Int → Rs
def b0 (k : Nat) (L0 : T0) : T0 := fun x0_0 x0_1 x0_2 =>
 (bif (decide (x0_2 < (List.length x0_0 : Int))) then
 (inb x0_2 (List.length x0_0 : Int)
 (inb x0_2 (List.length x0_1 : Int)
 (bif ((List.getD x0_0 (Int.toNat x0_2) (Ty.dflt (.int .i64))) != (List.getD x0_1 (Int.toNat x0_2) (Ty.dflt (.int .i64)))) then
 (some (false, ()))
 else
 (L0 x0_0 x0_1 (w64 (x0_2 + 1))))))
 else
 (some (true, ())))
def l0 (k : Nat) : Nat → T0
  | 0 => fun _ _ _ => none
  | n + 1 => b0 k (l0 k n)
def t (k : Nat) (L0 : T0) (a0 : List Int) (a1 : List Int) : Rs :=
 (bif ((List.length a0 : Int) != (List.length a1 : Int)) then
 (some (false, ()))
 else
 (L0 a0 a1 0))
def f (k : Nat) := t k (l0 k k)
end laws_eqIntS
namespace laws_markText
abbrev Rs : Type := Option (ByteArray × Unit)
abbrev T0 : Type := Int → ByteArray → Rs
def b0 (k : Nat) (L0 : T0) : T0 := fun x0_0 x0_1 =>
 (bif (decide (x0_0 > 0)) then
 (cat (bytesOf [(IntKind.wrap .u8 (w64 (48 + (Int.tmod x0_0 10))))]) x0_1
 (L0 (w64 (Int.tdiv x0_0 10)) ((bytesOf [(IntKind.wrap .u8 (w64 (48 + (Int.tmod x0_0 10))))]) ++ x0_1)))
 else
 (cat (⟨#[109]⟩ : ByteArray) x0_1
 (some (((⟨#[109]⟩ : ByteArray) ++ x0_1), ()))))
def l0 (k : Nat) : Nat → T0
  | 0 => fun _ _ => none
  | n + 1 => b0 k (l0 k n)
def t (k : Nat) (L0 : T0) (a0 : Int) : Rs :=
 (bif (decide (a0 ≤ 0)) then
 (some ((⟨#[109, 48]⟩ : ByteArray), ()))
 else
 (L0 a0 (⟨#[]⟩ : ByteArray)))
def f (k : Nat) := t k (l0 k k)
end laws_markText
namespace laws_markFileS
abbrev Rs : Type := Option ((List (Ty.den TPair)) × Int × Unit)
abbrev T0 : Type := Int → Int → List (Ty.den TPair) → Rs
def b0 (k : Nat) (a0 : List (Ty.den TPair)) (a1 : Int) (L0 : T0) : T0 := fun x0_0 x0_1 x0_2 =>
 (bif (decide (x0_1 < (List.length x0_2 : Int))) then
 ((laws_markText.f k x0_0).bind fun r1 =>
 (inb x0_1 (List.length x0_2 : Int)
 (let l2 := (List.set x0_2 (Int.toNat x0_1) (r1.1, (List.getD x0_2 (Int.toNat x0_1) (Ty.dflt TPair)).2));
 ((laws_markText.f k (w64 (x0_0 + 1))).bind fun r3 =>
 (inb x0_1 (List.length l2 : Int)
 (let l4 := (List.set l2 (Int.toNat x0_1) ((List.getD l2 (Int.toNat x0_1) (Ty.dflt TPair)).1, (r3.1, (List.getD l2 (Int.toNat x0_1) (Ty.dflt TPair)).2.2)));
 (inb x0_1 (List.length l4 : Int)
 (let l5 := (List.set l4 (Int.toNat x0_1) ((List.getD l4 (Int.toNat x0_1) (Ty.dflt TPair)).1, ((List.getD l4 (Int.toNat x0_1) (Ty.dflt TPair)).2.1, ((w64 ((w64 (x0_0 + 1)) + 1)), (List.getD l4 (Int.toNat x0_1) (Ty.dflt TPair)).2.2.2))));
 (L0 (w64 ((w64 ((w64 (x0_0 + 1)) + 1)) + 1)) (w64 (x0_1 + 1)) l5)))))))))
 else
 (some (x0_2, (x0_0, ()))))
def l0 (k : Nat) (a0 : List (Ty.den TPair)) (a1 : Int) : Nat → T0
  | 0 => fun _ _ _ => none
  | n + 1 => b0 k a0 a1 (l0 k a0 a1 n)
def t (k : Nat) (L0 : T0) (a0 : List (Ty.den TPair)) (a1 : Int) : Rs :=
 (L0 a1 0 a0)
def f (k : Nat) (a0 : List (Ty.den TPair)) (a1 : Int) : Rs := t k (l0 k a0 a1 k) a0 a1
end laws_markFileS
namespace laws_markDisk
abbrev Rs : Type := Option ((Ty.den TDisk) × Int × Unit)
def t (k : Nat) (a0 : Ty.den TDisk) (a1 : Int) : Rs :=
 ((laws_markFileS.f k a0.1 a1).bind fun r1 =>
 (some ((r1.1, a0.2), r1.2)))
def f (k : Nat) (a0 : Ty.den TDisk) (a1 : Int) : Rs := t k a0 a1
end laws_markDisk
namespace laws_markIntS
abbrev Rs : Type := Option ((List Int) × Int × Unit)
abbrev T0 : Type := Int → Int → List Int → Rs
def b0 (k : Nat) (a0 : List Int) (a1 : Int) (L0 : T0) : T0 := fun x0_0 x0_1 x0_2 =>
 (bif (decide (x0_1 < (List.length x0_2 : Int))) then
 (inb x0_1 (List.length x0_2 : Int)
 (let l1 := (List.set x0_2 (Int.toNat x0_1) x0_0);
 (L0 (w64 (x0_0 + 1)) (w64 (x0_1 + 1)) l1)))
 else
 (some (x0_2, (x0_0, ()))))
def l0 (k : Nat) (a0 : List Int) (a1 : Int) : Nat → T0
  | 0 => fun _ _ _ => none
  | n + 1 => b0 k a0 a1 (l0 k a0 a1 n)
def t (k : Nat) (L0 : T0) (a0 : List Int) (a1 : Int) : Rs :=
 (L0 a1 0 a0)
def f (k : Nat) (a0 : List Int) (a1 : Int) : Rs := t k (l0 k a0 a1 k) a0 a1
end laws_markIntS
namespace laws_markPairS
abbrev Rs : Type := Option ((List (Ty.den TPair)) × Int × Unit)
abbrev T0 : Type := Int → Int → List (Ty.den TPair) → Rs
def b0 (k : Nat) (a0 : List (Ty.den TPair)) (a1 : Int) (L0 : T0) : T0 := fun x0_0 x0_1 x0_2 =>
 (bif (decide (x0_1 < (List.length x0_2 : Int))) then
 ((laws_markText.f k x0_0).bind fun r1 =>
 (inb x0_1 (List.length x0_2 : Int)
 (let l2 := (List.set x0_2 (Int.toNat x0_1) (r1.1, (List.getD x0_2 (Int.toNat x0_1) (Ty.dflt TPair)).2));
 ((laws_markText.f k (w64 (x0_0 + 1))).bind fun r3 =>
 (inb x0_1 (List.length l2 : Int)
 (let l4 := (List.set l2 (Int.toNat x0_1) ((List.getD l2 (Int.toNat x0_1) (Ty.dflt TPair)).1, (r3.1, (List.getD l2 (Int.toNat x0_1) (Ty.dflt TPair)).2.2)));
 (inb x0_1 (List.length l4 : Int)
 (let l5 := (List.set l4 (Int.toNat x0_1) ((List.getD l4 (Int.toNat x0_1) (Ty.dflt TPair)).1, ((List.getD l4 (Int.toNat x0_1) (Ty.dflt TPair)).2.1, ((w64 ((w64 (x0_0 + 1)) + 1)), (List.getD l4 (Int.toNat x0_1) (Ty.dflt TPair)).2.2.2))));
 (L0 (w64 ((w64 ((w64 (x0_0 + 1)) + 1)) + 1)) (w64 (x0_1 + 1)) l5)))))))))
 else
 (some (x0_2, (x0_0, ()))))
def l0 (k : Nat) (a0 : List (Ty.den TPair)) (a1 : Int) : Nat → T0
  | 0 => fun _ _ _ => none
  | n + 1 => b0 k a0 a1 (l0 k a0 a1 n)
def t (k : Nat) (L0 : T0) (a0 : List (Ty.den TPair)) (a1 : Int) : Rs :=
 (L0 a1 0 a0)
def f (k : Nat) (a0 : List (Ty.den TPair)) (a1 : Int) : Rs := t k (l0 k a0 a1 k) a0 a1
end laws_markPairS
namespace laws_heldPairS
abbrev Rs : Type := Option (Int × Unit)
abbrev T0 : Type := List (Ty.den TPair) → Int → Int → Rs
def b0 (k : Nat) (L0 : T0) : T0 := fun x0_0 x0_1 x0_2 =>
 (bif (decide (x0_2 < (List.length x0_0 : Int))) then
 (inb x0_2 (List.length x0_0 : Int)
 ((laws_markText.f k x0_1).bind fun r1 =>
 (bif (!(seq (List.getD x0_0 (Int.toNat x0_2) (Ty.dflt TPair)).1 r1.1)) then
 (some ((-1), ()))
 else
 (inb x0_2 (List.length x0_0 : Int)
 ((laws_markText.f k (w64 (x0_1 + 1))).bind fun r2 =>
 (bif (!(seq (List.getD x0_0 (Int.toNat x0_2) (Ty.dflt TPair)).2.1 r2.1)) then
 (some ((-1), ()))
 else
 (inb x0_2 (List.length x0_0 : Int)
 (bif ((List.getD x0_0 (Int.toNat x0_2) (Ty.dflt TPair)).2.2.1 != (w64 ((w64 (x0_1 + 1)) + 1))) then
 (some ((-1), ()))
 else
 (L0 x0_0 (w64 ((w64 ((w64 (x0_1 + 1)) + 1)) + 1)) (w64 (x0_2 + 1)))))))))))
 else
 (some (x0_1, ())))
def l0 (k : Nat) : Nat → T0
  | 0 => fun _ _ _ => none
  | n + 1 => b0 k (l0 k n)
def t (k : Nat) (L0 : T0) (a0 : List (Ty.den TPair)) (a1 : Int) : Rs :=
 (L0 a0 a1 0)
def f (k : Nat) := t k (l0 k k)
end laws_heldPairS
namespace laws_FnExactReopened
abbrev Rs : Type := Option (Bool × Unit)
def t (k : Nat) (a0 : Ty.den TDisk) (a1 : List Int) : Rs :=
 (bif (decide ((List.length a1 : Int) > 1048576)) then
 (some (true, ()))
 else
 ((laws_szDisk.f k a0 1048576).bind fun r1 =>
 (bif (decide (r1.1 < 0)) then
 (some (true, ()))
 else
 ((laws_toDisk.f k a0).bind fun r2 =>
 ((laws_toIntS.f k a1).bind fun r3 =>
 ((spec_Reopened.f k r2.1 r3.1).bind fun r4 =>
 ((laws_toDisk.f k a0).bind fun r5 =>
 ((laws_toIntS.f k a1).bind fun r6 =>
 ((impl_Reopened.f k r5.1 r6.1).bind fun r7 =>
 ((laws_eqPairS.f k r7.1 r4.1).bind fun r8 =>
 (bif (!r8.1) then
 (some (false, ()))
 else
 (bif (r7.2.1 != r4.2.1) then
 (some (false, ()))
 else
 ((laws_toDisk.f k a0).bind fun r9 =>
 ((laws_eqDisk.f k r5.1 r9.1).bind fun r10 =>
 (bif (!r10.1) then
 (some (false, ()))
 else
 ((laws_toIntS.f k a1).bind fun r11 =>
 ((laws_eqIntS.f k r6.1 r11.1).bind fun r12 =>
 (bif (!r12.1) then
 (some (false, ()))
 else
 ((laws_markDisk.f k r5.1 1).bind fun r13 =>
 ((laws_markIntS.f k r6.1 r13.2.1).bind fun r14 =>
 (bif (decide (r14.2.1 < 0)) then
 (some (false, ()))
 else
 ((laws_eqPairS.f k r7.1 r4.1).bind fun r15 =>
 (bif (!r15.1) then
 (some (false, ()))
 else
 (bif (r7.2.1 != r4.2.1) then
 (some (false, ()))
 else
 ((laws_markPairS.f k r7.1 1).bind fun r16 =>
 ((laws_heldPairS.f k r16.1 1).bind fun r17 =>
 (bif (decide (r17.1 < 0)) then
 (some (false, ()))
 else
 (bif (r17.1 != r16.2.1) then
 (some (false, ()))
 else
 ((laws_toDisk.f k a0).bind fun r18 =>
 ((laws_toIntS.f k a1).bind fun r19 =>
 ((impl_Reopened.f k r18.1 r19.1).bind fun r20 =>
 ((laws_eqPairS.f k r20.1 r4.1).bind fun r21 =>
 (bif (!r21.1) then
 (some (false, ()))
 else
 (bif (r20.2.1 != r4.2.1) then
 (some (false, ()))
 else
 ((laws_heldPairS.f k r16.1 1).bind fun r22 =>
 (bif (decide (r22.1 < 0)) then
 (some (false, ()))
 else
 (bif (r22.1 != r16.2.1) then
 (some (false, ()))
 else
 (some (true, ())))))))))))))))))))))))))))))))))))))))
def f (k : Nat) := t k
end laws_FnExactReopened
end Go.Proofs.YtejgkmhpmhfnbaaGreatDoor.G

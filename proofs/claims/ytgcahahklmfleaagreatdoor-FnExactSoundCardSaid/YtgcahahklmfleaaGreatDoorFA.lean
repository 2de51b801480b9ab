/- Functions, as V runs them. -/
import Derived.Test.YtgcahahklmfleaaGreatDoorVWords
import Derived.Test.YtgcahahklmfleaaGreatDoorXLib
set_option linter.unusedVariables false
namespace Go.Proofs.YtgcahahklmfleaaGreatDoor.G
open Go.V
abbrev TPair : Ty := .pair .str (.pair .str (.pair (.int .i64) .unit))
abbrev TDisk : Ty := .pair (.slice TPair) (.pair (.int .i64) (.pair (.int .i64) (.pair .bool .unit)))
abbrev TLive : Ty := .pair (.int .i64) (.pair (.slice (.int .i64)) .unit)
abbrev TRec : Ty := .pair (.int .i64) (.pair (.int .i64) (.pair .str (.pair .str (.pair (.int .i64) (.pair (.int .i64) .unit)))))
abbrev TPlace : Ty := .pair (.int .i64) (.pair (.int .i64) (.pair (.int .i64) (.pair TRec .unit)))
abbrev TReport : Ty := .pair .bool (.pair (.int .i64) (.pair (.int .i64) (.pair (.int .i64) (.pair (.int .i64) (.pair (.int .i64) (.pair (.int .i64) .unit))))))
abbrev TSpot : Ty := .pair (.int .i64) (.pair (.int .i64) (.pair TRec .unit))
abbrev Tscanner : Ty := .pair .str (.pair .bool .unit)
abbrev TFile : Ty := TPair
namespace laws_szFile
def t (k : Nat) (a0 : Ty.den TPair) (a1 : Int) : Option (Int × Unit) :=
  (bif (decide ((w64 (a1 - (ByteArray.size a0.1 : Int))) < 0)) then
  (some ((-1), ()))
  else
  (bif (decide ((w64 ((w64 (a1 - (ByteArray.size a0.1 : Int))) - (ByteArray.size a0.2.1 : Int))) < 0)) then
  (some ((-1), ()))
  else
  (some ((w64 ((w64 (a1 - (ByteArray.size a0.1 : Int))) - (ByteArray.size a0.2.1 : Int))), ()))))
def f (k : Nat) (a0 : Ty.den TPair) (a1 : Int) : Option (Int × Unit) := t k a0 a1
end laws_szFile
namespace laws_szFileS
abbrev T0 : Type := List (Ty.den TPair) → Int → Int → Option (Int × Unit)
def b0 (k : Nat) (L0 : T0) (x0_0 : List (Ty.den TPair)) (x0_1 : Int) (x0_2 : Int) : Option (Int × Unit) :=
  (bif (decide (x0_2 < (List.length x0_0 : Int))) then
  (inb x0_2 (List.length x0_0 : Int)
  (Option.bind (laws_szFile.f k (List.getD x0_0 (Int.toNat x0_2) (Ty.dflt TPair)) x0_1) fun r1 =>
  (bif (decide (r1.1 < 0)) then
  (some ((-1), ()))
  else
  (L0 x0_0 r1.1 (w64 (x0_2 + 1))))))
  else
  (some (x0_1, ())))
def l0 (k : Nat) : Nat → T0
  | 0 => fun _ _ _ => none
  | n + 1 => b0 k (l0 k n)
def t (k : Nat) (L0 : T0) (a0 : List (Ty.den TPair)) (a1 : Int) : Option (Int × Unit) :=
  (bif (decide ((w64 (a1 - (List.length a0 : Int))) < 0)) then
  (some ((-1), ()))
  else
  (L0 a0 (w64 (a1 - (List.length a0 : Int))) 0))
def f (k : Nat) (a0 : List (Ty.den TPair)) (a1 : Int) : Option (Int × Unit) := t k (l0 k k) a0 a1
end laws_szFileS
namespace laws_szDisk
def t (k : Nat) (a0 : Ty.den TDisk) (a1 : Int) : Option (Int × Unit) :=
  (Option.bind (laws_szFileS.f k a0.1 a1) fun r1 =>
  (bif (decide (r1.1 < 0)) then
  (some ((-1), ()))
  else
  (some r1)))
def f (k : Nat) (a0 : Ty.den TDisk) (a1 : Int) : Option (Int × Unit) := t k a0 a1
end laws_szDisk
namespace laws_toFile
def t (k : Nat) (a0 : Ty.den TPair) : Option ((Ty.den TPair) × Unit) :=
  (some (a0, ()))
def f (k : Nat) (a0 : Ty.den TPair) : Option ((Ty.den TPair) × Unit) := t k a0
end laws_toFile
namespace laws_toFileS
abbrev T0 : Type := List (Ty.den TPair) → Int → List (Ty.den TPair) → Option ((List (Ty.den TPair)) × Unit)
def b0 (k : Nat) (L0 : T0) (x0_0 : List (Ty.den TPair)) (x0_1 : Int) (x0_2 : List (Ty.den TPair)) : Option ((List (Ty.den TPair)) × Unit) :=
  (bif (decide (x0_1 < (List.length x0_0 : Int))) then
  (inb x0_1 (List.length x0_0 : Int)
  (Option.bind (laws_toFile.f k (List.getD x0_0 (Int.toNat x0_1) (Ty.dflt TPair))) fun r1 =>
  (inb x0_1 (List.length x0_2 : Int)
  (let l2 := (List.set x0_2 (Int.toNat x0_1) r1.1);
  (L0 x0_0 (w64 (x0_1 + 1)) l2)))))
  else
  (some (x0_2, ())))
def l0 (k : Nat) : Nat → T0
  | 0 => fun _ _ _ => none
  | n + 1 => b0 k (l0 k n)
def t (k : Nat) (L0 : T0) (a0 : List (Ty.den TPair)) : Option ((List (Ty.den TPair)) × Unit) :=
  (mks (Ty.bytes TPair) (List.length a0 : Int)
  (L0 a0 0 (List.replicate (Int.toNat (List.length a0 : Int)) (Ty.dflt TPair))))
def f (k : Nat) (a0 : List (Ty.den TPair)) : Option ((List (Ty.den TPair)) × Unit) := t k (l0 k k) a0
end laws_toFileS
namespace laws_toDisk
def t (k : Nat) (a0 : Ty.den TDisk) : Option ((Ty.den TDisk) × Unit) :=
  (Option.bind (laws_toFileS.f k a0.1) fun r1 =>
  (some ((r1.1, a0.2), ())))
def f (k : Nat) (a0 : Ty.den TDisk) : Option ((Ty.den TDisk) × Unit) := t k a0
end laws_toDisk
namespace spec_l1In
def t (k : Nat) (a0 : Int) (a1 : Int) (a2 : Int) : Option (Bool × Unit) :=
  (bif (decide (a0 ≥ a1)) then
  (some ((decide (a0 ≤ a2)), ()))
  else
  (some (false, ())))
def f (k : Nat) (a0 : Int) (a1 : Int) (a2 : Int) : Option (Bool × Unit) := t k a0 a1 a2
end spec_l1In
namespace spec_l3Used
abbrev T0 : Type := Int → Int → List (Ty.den TPair) → Int → Int → Bool → Option (Int × Unit)
def b0 (k : Nat) (L0 : T0) (x0_0 : Int) (x0_1 : Int) (x0_2 : List (Ty.den TPair)) (x0_3 : Int) (x0_4 : Int) (x0_5 : Bool) : Option (Int × Unit) :=
  (bif (decide (x0_1 < (List.length x0_2 : Int))) then
  (inb x0_1 (List.length x0_2 : Int)
  (L0 (w64 (x0_0 + (ByteArray.size (List.getD x0_2 (Int.toNat x0_1) (Ty.dflt TPair)).2.1 : Int))) (w64 (x0_1 + 1)) x0_2 x0_3 x0_4 x0_5))
  else
  (some (x0_0, ())))
def l0 (k : Nat) : Nat → T0
  | 0 => fun _ _ _ _ _ _ => none
  | n + 1 => b0 k (l0 k n)
def t (k : Nat) (L0 : T0) (a0 : Ty.den TDisk) : Option (Int × Unit) :=
  (L0 0 0 a0.1 a0.2.1 a0.2.2.1 a0.2.2.2.1)
def f (k : Nat) (a0 : Ty.den TDisk) : Option (Int × Unit) := t k (l0 k k) a0
end spec_l3Used
namespace spec_NameOk
abbrev T0 : Type := ByteArray → Int → Option (Bool × Unit)
def b0 (k : Nat) (L0 : T0) (x0_0 : ByteArray) (x0_1 : Int) : Option (Bool × Unit) :=
  (bif (decide (x0_1 < (ByteArray.size x0_0 : Int))) then
  (inb x0_1 (ByteArray.size x0_0 : Int)
  (bif (decide ((byteAt x0_0 x0_1) ≥ 97)) then
  (inb x0_1 (ByteArray.size x0_0 : Int)
  (bif (decide ((byteAt x0_0 x0_1) ≤ 122)) then
  (L0 x0_0 (w64 (x0_1 + 1)))
  else
  (inb x0_1 (ByteArray.size x0_0 : Int)
  (bif (decide ((byteAt x0_0 x0_1) ≥ 48)) then
  (inb x0_1 (ByteArray.size x0_0 : Int)
  (bif (!(decide ((byteAt x0_0 x0_1) ≤ 57))) then
  (some (false, ()))
  else
  (L0 x0_0 (w64 (x0_1 + 1)))))
  else
  (some (false, ()))))))
  else
  (inb x0_1 (ByteArray.size x0_0 : Int)
  (bif (decide ((byteAt x0_0 x0_1) ≥ 48)) then
  (inb x0_1 (ByteArray.size x0_0 : Int)
  (bif (!(decide ((byteAt x0_0 x0_1) ≤ 57))) then
  (some (false, ()))
  else
  (L0 x0_0 (w64 (x0_1 + 1)))))
  else
  (some (false, ()))))))
  else
  (Option.bind (spec_l1In.f k (ByteArray.size x0_0 : Int) 1 12) fun r1 =>
  (some r1)))
def l0 (k : Nat) : Nat → T0
  | 0 => fun _ _ => none
  | n + 1 => b0 k (l0 k n)
def t (k : Nat) (L0 : T0) (a0 : ByteArray) : Option (Bool × Unit) :=
  (L0 a0 0)
def f (k : Nat) (a0 : ByteArray) : Option (Bool × Unit) := t k (l0 k k) a0
end spec_NameOk
namespace spec_DiskOk
abbrev T0 : Type := Int → List (Ty.den TPair) → Int → Int → Bool → Option (Bool × Unit)
def b0 (k : Nat) (L0 : T0) (x0_0 : Int) (x0_1 : List (Ty.den TPair)) (x0_2 : Int) (x0_3 : Int) (x0_4 : Bool) : Option (Bool × Unit) :=
  (bif (decide (x0_0 < (List.length x0_1 : Int))) then
  (inb x0_0 (List.length x0_1 : Int)
  (Option.bind (spec_NameOk.f k (List.getD x0_1 (Int.toNat x0_0) (Ty.dflt TPair)).1) fun r4 =>
  (bif (!r4.1) then
  (some (false, ()))
  else
  (inb x0_0 (List.length x0_1 : Int)
  (inb x0_0 (List.length x0_1 : Int)
  (Option.bind (spec_l1In.f k (List.getD x0_1 (Int.toNat x0_0) (Ty.dflt TPair)).2.2.1 0 (ByteArray.size (List.getD x0_1 (Int.toNat x0_0) (Ty.dflt TPair)).2.1 : Int)) fun r5 =>
  (bif (!r5.1) then
  (some (false, ()))
  else
  (bif (decide (x0_0 > 0)) then
  (inb x0_0 (List.length x0_1 : Int)
  (inb (w64 (x0_0 - 1)) (List.length x0_1 : Int)
  (bif ((sls (List.getD x0_1 (Int.toNat x0_0) (Ty.dflt TPair)).1 (List.getD x0_1 (Int.toNat (w64 (x0_0 - 1))) (Ty.dflt TPair)).1) || (seq (List.getD x0_1 (Int.toNat x0_0) (Ty.dflt TPair)).1 (List.getD x0_1 (Int.toNat (w64 (x0_0 - 1))) (Ty.dflt TPair)).1)) then
  (some (false, ()))
  else
  (L0 (w64 (x0_0 + 1)) x0_1 x0_2 x0_3 x0_4))))
  else
  (L0 (w64 (x0_0 + 1)) x0_1 x0_2 x0_3 x0_4)))))))))
  else
  (some (true, ())))
def l0 (k : Nat) : Nat → T0
  | 0 => fun _ _ _ _ _ => none
  | n + 1 => b0 k (l0 k n)
def t (k : Nat) (L0 : T0) (a0 : Ty.den TDisk) : Option (Bool × Unit) :=
  (bif (decide ((List.length a0.1 : Int) > 130)) then
  (some (false, ()))
  else
  (Option.bind (spec_l1In.f k a0.2.1 0 100000) fun r1 =>
  (bif (!r1.1) then
  (some (false, ()))
  else
  (Option.bind (spec_l1In.f k a0.2.2.1 (-1) 100000) fun r2 =>
  (bif (!r2.1) then
  (some (false, ()))
  else
  (Option.bind (spec_l3Used.f k a0) fun r3 =>
  (bif (decide (r3.1 > a0.2.1)) then
  (some (false, ()))
  else
  (L0 0 a0.1 a0.2.1 a0.2.2.1 a0.2.2.2.1))))))))
def f (k : Nat) (a0 : Ty.den TDisk) : Option (Bool × Unit) := t k (l0 k k) a0
end spec_DiskOk
namespace spec_l3Find
abbrev T0 : Type := ByteArray → Int → List (Ty.den TPair) → Int → Int → Bool → Option (Int × Unit)
def b0 (k : Nat) (L0 : T0) (x0_0 : ByteArray) (x0_1 : Int) (x0_2 : List (Ty.den TPair)) (x0_3 : Int) (x0_4 : Int) (x0_5 : Bool) : Option (Int × Unit) :=
  (bif (decide (x0_1 < (List.length x0_2 : Int))) then
  (inb x0_1 (List.length x0_2 : Int)
  (bif (seq (List.getD x0_2 (Int.toNat x0_1) (Ty.dflt TPair)).1 x0_0) then
  (some (x0_1, ()))
  else
  (L0 x0_0 (w64 (x0_1 + 1)) x0_2 x0_3 x0_4 x0_5)))
  else
  (some ((-1), ())))
def l0 (k : Nat) : Nat → T0
  | 0 => fun _ _ _ _ _ _ => none
  | n + 1 => b0 k (l0 k n)
def t (k : Nat) (L0 : T0) (a0 : Ty.den TDisk) (a1 : ByteArray) : Option (Int × Unit) :=
  (L0 a1 0 a0.1 a0.2.1 a0.2.2.1 a0.2.2.2.1)
def f (k : Nat) (a0 : Ty.den TDisk) (a1 : ByteArray) : Option (Int × Unit) := t k (l0 k k) a0 a1
end spec_l3Find
namespace spec_FileText
def t (k : Nat) (a0 : Ty.den TDisk) (a1 : ByteArray) : Option (ByteArray × Bool × Unit) :=
  (Option.bind (spec_DiskOk.f k a0) fun r1 =>
  (bif (!r1.1) then
  (some ((⟨#[]⟩ : ByteArray), (false, ())))
  else
  (Option.bind (spec_l3Find.f k a0 a1) fun r2 =>
  (bif (decide (r2.1 < 0)) then
  (some ((⟨#[]⟩ : ByteArray), (false, ())))
  else
  (inb r2.1 (List.length a0.1 : Int)
  (some ((List.getD a0.1 (Int.toNat r2.1) (Ty.dflt TPair)).2.1, (true, ()))))))))
def f (k : Nat) (a0 : Ty.den TDisk) (a1 : ByteArray) : Option (ByteArray × Bool × Unit) := t k a0 a1
end spec_FileText
namespace spec_Var
abbrev T0 : Type := Int → List Int → Option (ByteArray × Unit)
def b0 (k : Nat) (L0 : T0) (x0_0 : Int) (x0_1 : List Int) : Option (ByteArray × Unit) :=
  (bif (decide (x0_0 ≥ 128)) then
  (rm (Ty.bytes (.int .u8)) (List.length x0_1 + 1)
  (L0 (w64 (Int.tdiv x0_0 128)) (x0_1 ++ [(IntKind.wrap .u8 (w64 (128 + (Int.tmod x0_0 128))))])))
  else
  (rm (Ty.bytes (.int .u8)) (List.length x0_1 + 1)
  (some ((bytesOf (x0_1 ++ [(IntKind.wrap .u8 x0_0)])), ()))))
def l0 (k : Nat) : Nat → T0
  | 0 => fun _ _ => none
  | n + 1 => b0 k (l0 k n)
def t (k : Nat) (L0 : T0) (a0 : Int) : Option (ByteArray × Unit) :=
  (Option.bind (spec_l1In.f k a0 0 562949953421311) fun r1 =>
  (bif (!r1.1) then
  (some ((⟨#[]⟩ : ByteArray), ()))
  else
  (L0 a0 [])))
def f (k : Nat) (a0 : Int) : Option (ByteArray × Unit) := t k (l0 k k) a0
end spec_Var
namespace spec_ReadVar
abbrev T1 : Type := ByteArray → Int → Int → Int → Option (Int × Int × Unit)
abbrev T0 : Type := ByteArray → Int → Option (Int × Int × Unit)
def b1 (k : Nat) (L0 : T0) (L1 : T1) (x1_0 : ByteArray) (x1_1 : Int) (x1_2 : Int) (x1_3 : Int) : Option (Int × Int × Unit) :=
  (bif (decide (x1_3 ≥ 0)) then
  (inb x1_3 (ByteArray.size x1_0 : Int)
  (L1 x1_0 x1_1 (w64 ((w64 (x1_2 * 128)) + (Int.tmod (w64 (byteAt x1_0 x1_3)) 128))) (w64 (x1_3 - 1))))
  else
  (Option.bind (spec_Var.f k x1_2) fun r1 =>
  (inc x1_1 (ByteArray.size x1_0 : Int)
  (bif (seq r1.1 (ByteArray.extract x1_0 0 (Int.toNat x1_1))) then
  (some (x1_2, (x1_1, ())))
  else
  (L0 x1_0 (w64 (x1_1 + 1)))))))
def l1 (k : Nat) (L0 : T0) : Nat → T1
  | 0 => fun _ _ _ _ => none
  | n + 1 => b1 k L0 (l1 k L0 n)
def b0 (k : Nat) (L1 : T1) (L0 : T0) (x0_0 : ByteArray) (x0_1 : Int) : Option (Int × Int × Unit) :=
  (bif (decide (x0_1 ≤ 7)) then
  (bif (decide (x0_1 ≤ (ByteArray.size x0_0 : Int))) then
  (L1 x0_0 x0_1 0 (w64 (x0_1 - 1)))
  else
  (some (0, (0, ()))))
  else
  (some (0, (0, ()))))
def l0 (k : Nat) : Nat → T0
  | 0 => fun _ _ => none
  | n + 1 => b0 k (l1 k (l0 k n) k) (l0 k n)
def t (k : Nat) (L0 : T0) (a0 : ByteArray) : Option (Int × Int × Unit) :=
  (L0 a0 1)
def f (k : Nat) (a0 : ByteArray) : Option (Int × Int × Unit) := t k (l0 k k) a0
end spec_ReadVar
namespace spec_Crc
abbrev T1 : Type := ByteArray → Int → Int → Int → Option (Int × Unit)
abbrev T0 : Type := ByteArray → Int → Int → Option (Int × Unit)
def b1 (k : Nat) (L0 : T0) (L1 : T1) (x1_0 : ByteArray) (x1_1 : Int) (x1_2 : Int) (x1_3 : Int) : Option (Int × Unit) :=
  (bif (decide (x1_3 < 8)) then
  (bif ((Int.tmod x1_1 2) == 1) then
  (L1 x1_0 (w64 (((BitVec.ofInt (IntKind.bits .i64) (w64 (Int.tdiv x1_1 2)) ^^^ BitVec.ofInt (IntKind.bits .i64) 2197175160).toNat : Int))) x1_2 (w64 (x1_3 + 1)))
  else
  (L1 x1_0 (w64 (Int.tdiv x1_1 2)) x1_2 (w64 (x1_3 + 1))))
  else
  (L0 x1_0 x1_1 (w64 (x1_2 + 1))))
def l1 (k : Nat) (L0 : T0) : Nat → T1
  | 0 => fun _ _ _ _ => none
  | n + 1 => b1 k L0 (l1 k L0 n)
def b0 (k : Nat) (L1 : T1) (L0 : T0) (x0_0 : ByteArray) (x0_1 : Int) (x0_2 : Int) : Option (Int × Unit) :=
  (bif (decide (x0_2 < (ByteArray.size x0_0 : Int))) then
  (inb x0_2 (ByteArray.size x0_0 : Int)
  (L1 x0_0 (w64 (((BitVec.ofInt (IntKind.bits .i64) x0_1 ^^^ BitVec.ofInt (IntKind.bits .i64) (w64 (byteAt x0_0 x0_2))).toNat : Int))) x0_2 0))
  else
  (some ((w64 (4294967295 - x0_1)), ())))
def l0 (k : Nat) : Nat → T0
  | 0 => fun _ _ _ => none
  | n + 1 => b0 k (l1 k (l0 k n) k) (l0 k n)
def t (k : Nat) (L0 : T0) (a0 : ByteArray) : Option (Int × Unit) :=
  (L0 a0 4294967295 0)
def f (k : Nat) (a0 : ByteArray) : Option (Int × Unit) := t k (l0 k k) a0
end spec_Crc
namespace spec_Fixed
abbrev T0 : Type := Int → Int → ByteArray → Int → Option (ByteArray × Unit)
def b0 (k : Nat) (L0 : T0) (x0_0 : Int) (x0_1 : Int) (x0_2 : ByteArray) (x0_3 : Int) : Option (ByteArray × Unit) :=
  (bif (decide (x0_3 < x0_1)) then
  (cat (bytesOf [(IntKind.wrap .u8 (Int.tmod x0_0 256))]) x0_2
  (L0 (w64 (Int.tdiv x0_0 256)) x0_1 ((bytesOf [(IntKind.wrap .u8 (Int.tmod x0_0 256))]) ++ x0_2) (w64 (x0_3 + 1))))
  else
  (bif (decide (x0_0 > 0)) then
  (some ((⟨#[]⟩ : ByteArray), ()))
  else
  (some (x0_2, ()))))
def l0 (k : Nat) : Nat → T0
  | 0 => fun _ _ _ _ => none
  | n + 1 => b0 k (l0 k n)
def t (k : Nat) (L0 : T0) (a0 : Int) (a1 : Int) : Option (ByteArray × Unit) :=
  (Option.bind (spec_l1In.f k a1 1 7) fun r1 =>
  (bif (!r1.1) then
  (some ((⟨#[]⟩ : ByteArray), ()))
  else
  (bif (decide (a0 < 0)) then
  (some ((⟨#[]⟩ : ByteArray), ()))
  else
  (L0 a0 a1 (⟨#[]⟩ : ByteArray) 0))))
def f (k : Nat) (a0 : Int) (a1 : Int) : Option (ByteArray × Unit) := t k (l0 k k) a0 a1
end spec_Fixed
namespace spec_Frame
def t (k : Nat) (a0 : ByteArray) : Option (ByteArray × Unit) :=
  (bif (decide ((ByteArray.size a0 : Int) > 200)) then
  (some ((⟨#[]⟩ : ByteArray), ()))
  else
  (Option.bind (spec_Var.f k (ByteArray.size a0 : Int)) fun r1 =>
  (cat r1.1 a0
  (Option.bind (spec_Crc.f k (r1.1 ++ a0)) fun r2 =>
  (Option.bind (spec_Fixed.f k r2.1 4) fun r3 =>
  (cat r3.1 (r1.1 ++ a0)
  (some ((r3.1 ++ (r1.1 ++ a0)), ()))))))))
def f (k : Nat) (a0 : ByteArray) : Option (ByteArray × Unit) := t k a0
end spec_Frame
namespace spec_Unframe
def t (k : Nat) (a0 : ByteArray) : Option (ByteArray × Int × Unit) :=
  (bif (decide ((ByteArray.size a0 : Int) < 5)) then
  (some ((⟨#[]⟩ : ByteArray), (0, ())))
  else
  (inc 4 (ByteArray.size a0 : Int)
  (Option.bind (spec_ReadVar.f k (ByteArray.extract a0 4 (ByteArray.size a0))) fun r1 =>
  (bif (r1.2.1 == 0) then
  (some ((⟨#[]⟩ : ByteArray), (0, ())))
  else
  (bif (decide (r1.1 > 200)) then
  (some ((⟨#[]⟩ : ByteArray), (0, ())))
  else
  (bif (decide (r1.1 > (w64 ((w64 ((ByteArray.size a0 : Int) - 4)) - r1.2.1)))) then
  (some ((⟨#[]⟩ : ByteArray), (0, ())))
  else
  (inc2 (w64 (4 + r1.2.1)) (w64 ((w64 (4 + r1.2.1)) + r1.1)) (ByteArray.size a0 : Int)
  (inc (w64 ((w64 (4 + r1.2.1)) + r1.1)) (ByteArray.size a0 : Int)
  (Option.bind (spec_Frame.f k (ByteArray.extract a0 (Int.toNat (w64 (4 + r1.2.1))) (Int.toNat (w64 ((w64 (4 + r1.2.1)) + r1.1))))) fun r2 =>
  (bif (!(seq (ByteArray.extract a0 0 (Int.toNat (w64 ((w64 (4 + r1.2.1)) + r1.1)))) r2.1)) then
  (some ((⟨#[]⟩ : ByteArray), (0, ())))
  else
  (some ((ByteArray.extract a0 (Int.toNat (w64 (4 + r1.2.1))) (Int.toNat (w64 ((w64 (4 + r1.2.1)) + r1.1)))), ((w64 ((w64 (4 + r1.2.1)) + r1.1)), ())))))))))))))
def f (k : Nat) (a0 : ByteArray) : Option (ByteArray × Int × Unit) := t k a0
end spec_Unframe
namespace spec_LiveOk
abbrev T0 : Type := Int → Int → List Int → Option (Bool × Unit)
def b0 (k : Nat) (L0 : T0) (x0_0 : Int) (x0_1 : Int) (x0_2 : List Int) : Option (Bool × Unit) :=
  (bif (decide (x0_0 < (List.length x0_2 : Int))) then
  (inb x0_0 (List.length x0_2 : Int)
  (Option.bind (spec_l1In.f k (List.getD x0_2 (Int.toNat x0_0) (Ty.dflt (.int .i64))) 1 (w64 (x0_1 - 1))) fun r3 =>
  (bif (!r3.1) then
  (some (false, ()))
  else
  (bif (decide (x0_0 > 0)) then
  (inb x0_0 (List.length x0_2 : Int)
  (inb (w64 (x0_0 - 1)) (List.length x0_2 : Int)
  (bif (decide ((List.getD x0_2 (Int.toNat x0_0) (Ty.dflt (.int .i64))) ≤ (List.getD x0_2 (Int.toNat (w64 (x0_0 - 1))) (Ty.dflt (.int .i64))))) then
  (some (false, ()))
  else
  (L0 (w64 (x0_0 + 1)) x0_1 x0_2))))
  else
  (L0 (w64 (x0_0 + 1)) x0_1 x0_2)))))
  else
  (some (true, ())))
def l0 (k : Nat) : Nat → T0
  | 0 => fun _ _ _ => none
  | n + 1 => b0 k (l0 k n)
def t (k : Nat) (L0 : T0) (a0 : Ty.den TLive) : Option (Bool × Unit) :=
  (Option.bind (spec_l1In.f k a0.1 1 100000) fun r1 =>
  (bif (!r1.1) then
  (some (false, ()))
  else
  (Option.bind (spec_l1In.f k (List.length a0.2.1 : Int) 1 60) fun r2 =>
  (bif (!r2.1) then
  (some (false, ()))
  else
  (L0 0 a0.1 a0.2.1)))))
def f (k : Nat) (a0 : Ty.den TLive) : Option (Bool × Unit) := t k (l0 k k) a0
end spec_LiveOk
namespace spec_ShowLive
abbrev T0 : Type := ByteArray → Int → Int → List Int → Option (ByteArray × Unit)
def b0 (k : Nat) (L0 : T0) (x0_0 : ByteArray) (x0_1 : Int) (x0_2 : Int) (x0_3 : List Int) : Option (ByteArray × Unit) :=
  (bif (decide (x0_1 < (List.length x0_3 : Int))) then
  (inb x0_1 (List.length x0_3 : Int)
  (Option.bind (spec_Var.f k (List.getD x0_3 (Int.toNat x0_1) (Ty.dflt (.int .i64)))) fun r4 =>
  (cat x0_0 r4.1
  (L0 (x0_0 ++ r4.1) (w64 (x0_1 + 1)) x0_2 x0_3))))
  else
  (Option.bind (spec_Frame.f k x0_0) fun r5 =>
  (some r5)))
def l0 (k : Nat) : Nat → T0
  | 0 => fun _ _ _ _ => none
  | n + 1 => b0 k (l0 k n)
def t (k : Nat) (L0 : T0) (a0 : Ty.den TLive) : Option (ByteArray × Unit) :=
  (Option.bind (spec_LiveOk.f k a0) fun r1 =>
  (bif (!r1.1) then
  (some ((⟨#[]⟩ : ByteArray), ()))
  else
  (Option.bind (spec_Var.f k a0.1) fun r2 =>
  (Option.bind (spec_Var.f k (List.length a0.2.1 : Int)) fun r3 =>
  (cat r2.1 r3.1
  (L0 (r2.1 ++ r3.1) 0 a0.1 a0.2.1))))))
def f (k : Nat) (a0 : Ty.den TLive) : Option (ByteArray × Unit) := t k (l0 k k) a0
end spec_ShowLive
namespace spec_ReadLive
abbrev T0 : Type := ByteArray → ByteArray → Int → Int → Int → List Int → Int → List Int → Int → Option ((Ty.den TLive) × Bool × Unit)
def b0 (k : Nat) (L0 : T0) (x0_0 : ByteArray) (x0_1 : ByteArray) (x0_2 : Int) (x0_3 : Int) (x0_4 : Int) (x0_5 : List Int) (x0_6 : Int) (x0_7 : List Int) (x0_8 : Int) : Option ((Ty.den TLive) × Bool × Unit) :=
  (bif (decide (x0_4 < x0_2)) then
  (bif (decide (x0_4 < 60)) then
  (inc x0_3 (ByteArray.size x0_1 : Int)
  (Option.bind (spec_ReadVar.f k (ByteArray.extract x0_1 (Int.toNat x0_3) (ByteArray.size x0_1))) fun r4 =>
  (rm (Ty.bytes (.int .i64)) (List.length x0_7 + 1)
  (L0 x0_0 x0_1 x0_2 (w64 (x0_3 + r4.2.1)) (w64 (x0_4 + 1)) x0_5 x0_6 (x0_7 ++ [r4.1]) x0_8))))
  else
  (Option.bind (spec_ShowLive.f k (x0_8, (x0_7, ()))) fun r5 =>
  (bif (!(seq r5.1 x0_0)) then
  (some ((0, ([], ())), (false, ())))
  else
  (some ((x0_8, (x0_7, ())), (true, ()))))))
  else
  (Option.bind (spec_ShowLive.f k (x0_8, (x0_7, ()))) fun r6 =>
  (bif (!(seq r6.1 x0_0)) then
  (some ((0, ([], ())), (false, ())))
  else
  (some ((x0_8, (x0_7, ())), (true, ()))))))
def l0 (k : Nat) : Nat → T0
  | 0 => fun _ _ _ _ _ _ _ _ _ => none
  | n + 1 => b0 k (l0 k n)
def t (k : Nat) (L0 : T0) (a0 : ByteArray) : Option ((Ty.den TLive) × Bool × Unit) :=
  (Option.bind (spec_Unframe.f k a0) fun r1 =>
  (Option.bind (spec_ReadVar.f k r1.1) fun r2 =>
  (bif (r1.2.1 != (ByteArray.size a0 : Int)) then
  (some ((0, ([], ())), (false, ())))
  else
  (bif (r1.2.1 == 0) then
  (some ((0, ([], ())), (false, ())))
  else
  (bif (r2.2.1 == 0) then
  (some ((0, ([], ())), (false, ())))
  else
  (inc r2.2.1 (ByteArray.size r1.1 : Int)
  (Option.bind (spec_ReadVar.f k (ByteArray.extract r1.1 (Int.toNat r2.2.1) (ByteArray.size r1.1))) fun r3 =>
  (L0 a0 r1.1 r3.1 (w64 (r2.2.1 + r3.2.1)) 0 [] 0 [] r2.1))))))))
def f (k : Nat) (a0 : ByteArray) : Option ((Ty.den TLive) × Bool × Unit) := t k (l0 k k) a0
end spec_ReadLive
namespace spec_Dec
abbrev T0 : Type := Int → ByteArray → Bool → Option (ByteArray × Unit)
def b0 (k : Nat) (L0 : T0) (x0_0 : Int) (x0_1 : ByteArray) (x0_2 : Bool) : Option (ByteArray × Unit) :=
  (bif (x0_0 != 0) then
  (bif (decide ((Int.tmod x0_0 10) < 0)) then
  (cat (bytesOf [(IntKind.wrap .u8 (w64 (48 + (w64 (0 - (Int.tmod x0_0 10))))))]) x0_1
  (L0 (w64 (Int.tdiv x0_0 10)) ((bytesOf [(IntKind.wrap .u8 (w64 (48 + (w64 (0 - (Int.tmod x0_0 10))))))]) ++ x0_1) x0_2))
  else
  (cat (bytesOf [(IntKind.wrap .u8 (w64 (48 + (Int.tmod x0_0 10))))]) x0_1
  (L0 (w64 (Int.tdiv x0_0 10)) ((bytesOf [(IntKind.wrap .u8 (w64 (48 + (Int.tmod x0_0 10))))]) ++ x0_1) x0_2)))
  else
  (bif x0_2 then
  (cat (⟨#[45]⟩ : ByteArray) x0_1
  (some (((⟨#[45]⟩ : ByteArray) ++ x0_1), ())))
  else
  (some (x0_1, ()))))
def l0 (k : Nat) : Nat → T0
  | 0 => fun _ _ _ => none
  | n + 1 => b0 k (l0 k n)
def t (k : Nat) (L0 : T0) (a0 : Int) : Option (ByteArray × Unit) :=
  (bif (a0 == 0) then
  (some ((⟨#[48]⟩ : ByteArray), ()))
  else
  (L0 a0 (⟨#[]⟩ : ByteArray) (decide (a0 < 0))))
def f (k : Nat) (a0 : Int) : Option (ByteArray × Unit) := t k (l0 k k) a0
end spec_Dec
namespace spec_ReadDec
abbrev T0 : Type := ByteArray → Int → Int → Int → Option (Int × Bool × Unit)
def b0 (k : Nat) (L0 : T0) (x0_0 : ByteArray) (x0_1 : Int) (x0_2 : Int) (x0_3 : Int) : Option (Int × Bool × Unit) :=
  (bif (decide (x0_3 < (ByteArray.size x0_0 : Int))) then
  (bif (decide (x0_3 < 11)) then
  (inb x0_3 (ByteArray.size x0_0 : Int)
  (bif (decide ((byteAt x0_0 x0_3) ≥ 48)) then
  (inb x0_3 (ByteArray.size x0_0 : Int)
  (bif (decide ((byteAt x0_0 x0_3) ≤ 57)) then
  (inb x0_3 (ByteArray.size x0_0 : Int)
  (L0 x0_0 (w64 ((w64 (x0_1 * 10)) + (w64 (IntKind.wrap .u8 ((byteAt x0_0 x0_3) - 48))))) (w64 (x0_2 + 1)) (w64 (x0_3 + 1))))
  else
  (L0 x0_0 x0_1 x0_2 (w64 (x0_3 + 1)))))
  else
  (L0 x0_0 x0_1 x0_2 (w64 (x0_3 + 1)))))
  else
  (bif (decide ((ByteArray.size x0_0 : Int) > 0)) then
  (inb 0 (ByteArray.size x0_0 : Int)
  (bif ((byteAt x0_0 0) == 45) then
  (bif (decide (x0_2 > 9)) then
  (some (0, (false, ())))
  else
  (bif (decide ((ByteArray.size x0_0 : Int) > 10)) then
  (some (0, (false, ())))
  else
  (Option.bind (spec_Dec.f k (w64 (0 - x0_1))) fun r1 =>
  (bif (!(seq r1.1 x0_0)) then
  (some (0, (false, ())))
  else
  (some ((w64 (0 - x0_1)), (true, ())))))))
  else
  (bif (decide (x0_2 > 9)) then
  (some (0, (false, ())))
  else
  (bif (decide ((ByteArray.size x0_0 : Int) > 10)) then
  (some (0, (false, ())))
  else
  (Option.bind (spec_Dec.f k x0_1) fun r2 =>
  (bif (!(seq r2.1 x0_0)) then
  (some (0, (false, ())))
  else
  (some (x0_1, (true, ())))))))))
  else
  (bif (decide (x0_2 > 9)) then
  (some (0, (false, ())))
  else
  (bif (decide ((ByteArray.size x0_0 : Int) > 10)) then
  (some (0, (false, ())))
  else
  (Option.bind (spec_Dec.f k x0_1) fun r3 =>
  (bif (!(seq r3.1 x0_0)) then
  (some (0, (false, ())))
  else
  (some (x0_1, (true, ())))))))))
  else
  (bif (decide ((ByteArray.size x0_0 : Int) > 0)) then
  (inb 0 (ByteArray.size x0_0 : Int)
  (bif ((byteAt x0_0 0) == 45) then
  (bif (decide (x0_2 > 9)) then
  (some (0, (false, ())))
  else
  (bif (decide ((ByteArray.size x0_0 : Int) > 10)) then
  (some (0, (false, ())))
  else
  (Option.bind (spec_Dec.f k (w64 (0 - x0_1))) fun r4 =>
  (bif (!(seq r4.1 x0_0)) then
  (some (0, (false, ())))
  else
  (some ((w64 (0 - x0_1)), (true, ())))))))
  else
  (bif (decide (x0_2 > 9)) then
  (some (0, (false, ())))
  else
  (bif (decide ((ByteArray.size x0_0 : Int) > 10)) then
  (some (0, (false, ())))
  else
  (Option.bind (spec_Dec.f k x0_1) fun r5 =>
  (bif (!(seq r5.1 x0_0)) then
  (some (0, (false, ())))
  else
  (some (x0_1, (true, ())))))))))
  else
  (bif (decide (x0_2 > 9)) then
  (some (0, (false, ())))
  else
  (bif (decide ((ByteArray.size x0_0 : Int) > 10)) then
  (some (0, (false, ())))
  else
  (Option.bind (spec_Dec.f k x0_1) fun r6 =>
  (bif (!(seq r6.1 x0_0)) then
  (some (0, (false, ())))
  else
  (some (x0_1, (true, ())))))))))
def l0 (k : Nat) : Nat → T0
  | 0 => fun _ _ _ _ => none
  | n + 1 => b0 k (l0 k n)
def t (k : Nat) (L0 : T0) (a0 : ByteArray) : Option (Int × Bool × Unit) :=
  (L0 a0 0 0 0)
def f (k : Nat) (a0 : ByteArray) : Option (Int × Bool × Unit) := t k (l0 k k) a0
end spec_ReadDec
namespace spec_SegName
def t (k : Nat) (a0 : Int) : Option (ByteArray × Unit) :=
  (Option.bind (spec_l1In.f k a0 1 100000) fun r1 =>
  (bif (!r1.1) then
  (some ((⟨#[]⟩ : ByteArray), ()))
  else
  (Option.bind (spec_Dec.f k a0) fun r2 =>
  (cat (⟨#[115, 101, 103]⟩ : ByteArray) r2.1
  (some (((⟨#[115, 101, 103]⟩ : ByteArray) ++ r2.1), ()))))))
def f (k : Nat) (a0 : Int) : Option (ByteArray × Unit) := t k a0
end spec_SegName
namespace spec_HintName
def t (k : Nat) (a0 : Int) : Option (ByteArray × Unit) :=
  (Option.bind (spec_l1In.f k a0 1 100000) fun r1 =>
  (bif (!r1.1) then
  (some ((⟨#[]⟩ : ByteArray), ()))
  else
  (Option.bind (spec_Dec.f k a0) fun r2 =>
  (cat (⟨#[104, 105, 110, 116]⟩ : ByteArray) r2.1
  (some (((⟨#[104, 105, 110, 116]⟩ : ByteArray) ++ r2.1), ()))))))
def f (k : Nat) (a0 : Int) : Option (ByteArray × Unit) := t k a0
end spec_HintName
namespace spec_IdOf
abbrev T0 : Type := ByteArray → Int → Option (Int × Bool × Unit)
def b0 (k : Nat) (L0 : T0) (x0_0 : ByteArray) (x0_1 : Int) : Option (Int × Bool × Unit) :=
  (bif (decide (x0_1 ≤ 4)) then
  (bif (decide ((ByteArray.size x0_0 : Int) > x0_1)) then
  (inc x0_1 (ByteArray.size x0_0 : Int)
  (Option.bind (spec_ReadDec.f k (ByteArray.extract x0_0 (Int.toNat x0_1) (ByteArray.size x0_0))) fun r1 =>
  (bif r1.2.1 then
  (bif (decide (r1.1 ≥ 1)) then
  (Option.bind (spec_SegName.f k r1.1) fun r2 =>
  (bif (seq r2.1 x0_0) then
  (some (r1.1, (true, ())))
  else
  (Option.bind (spec_HintName.f k r1.1) fun r3 =>
  (bif (seq r3.1 x0_0) then
  (some (r1.1, (true, ())))
  else
  (L0 x0_0 (w64 (x0_1 + 1)))))))
  else
  (L0 x0_0 (w64 (x0_1 + 1))))
  else
  (L0 x0_0 (w64 (x0_1 + 1))))))
  else
  (L0 x0_0 (w64 (x0_1 + 1))))
  else
  (some (0, (false, ()))))
def l0 (k : Nat) : Nat → T0
  | 0 => fun _ _ => none
  | n + 1 => b0 k (l0 k n)
def t (k : Nat) (L0 : T0) (a0 : ByteArray) : Option (Int × Bool × Unit) :=
  (L0 a0 3)
def f (k : Nat) (a0 : ByteArray) : Option (Int × Bool × Unit) := t k (l0 k k) a0
end spec_IdOf
namespace spec_Orphans
abbrev T1 : Type := Int → Int → Bool → Bool → Int → List (Ty.den TPair) → Int → Int → Bool → Int → List Int → List ByteArray → Option ((List ByteArray) × Unit)
abbrev T0 : Type := Int → List (Ty.den TPair) → Int → Int → Bool → Int → List Int → List ByteArray → Option ((List ByteArray) × Unit)
def b1 (k : Nat) (L0 : T0) (L1 : T1) (x1_0 : Int) (x1_1 : Int) (x1_2 : Bool) (x1_3 : Bool) (x1_4 : Int) (x1_5 : List (Ty.den TPair)) (x1_6 : Int) (x1_7 : Int) (x1_8 : Bool) (x1_9 : Int) (x1_10 : List Int) (x1_11 : List ByteArray) : Option ((List ByteArray) × Unit) :=
  (bif (decide (x1_4 < (List.length x1_10 : Int))) then
  (bif x1_3 then
  (L1 x1_0 x1_1 x1_2 true (w64 (x1_4 + 1)) x1_5 x1_6 x1_7 x1_8 x1_9 x1_10 x1_11)
  else
  (inb x1_4 (List.length x1_10 : Int)
  (L1 x1_0 x1_1 x1_2 ((List.getD x1_10 (Int.toNat x1_4) (Ty.dflt (.int .i64))) == x1_1) (w64 (x1_4 + 1)) x1_5 x1_6 x1_7 x1_8 x1_9 x1_10 x1_11)))
  else
  (bif x1_2 then
  (bif (!x1_3) then
  (inb x1_0 (List.length x1_5 : Int)
  (rm (Ty.bytes .str) (List.length x1_11 + 1)
  (L0 (w64 (x1_0 + 1)) x1_5 x1_6 x1_7 x1_8 x1_9 x1_10 (x1_11 ++ [(List.getD x1_5 (Int.toNat x1_0) (Ty.dflt TPair)).1]))))
  else
  (inb x1_0 (List.length x1_5 : Int)
  (bif (seq (List.getD x1_5 (Int.toNat x1_0) (Ty.dflt TPair)).1 (⟨#[116, 101, 109, 112]⟩ : ByteArray)) then
  (inb x1_0 (List.length x1_5 : Int)
  (rm (Ty.bytes .str) (List.length x1_11 + 1)
  (L0 (w64 (x1_0 + 1)) x1_5 x1_6 x1_7 x1_8 x1_9 x1_10 (x1_11 ++ [(List.getD x1_5 (Int.toNat x1_0) (Ty.dflt TPair)).1]))))
  else
  (L0 (w64 (x1_0 + 1)) x1_5 x1_6 x1_7 x1_8 x1_9 x1_10 x1_11))))
  else
  (inb x1_0 (List.length x1_5 : Int)
  (bif (seq (List.getD x1_5 (Int.toNat x1_0) (Ty.dflt TPair)).1 (⟨#[116, 101, 109, 112]⟩ : ByteArray)) then
  (inb x1_0 (List.length x1_5 : Int)
  (rm (Ty.bytes .str) (List.length x1_11 + 1)
  (L0 (w64 (x1_0 + 1)) x1_5 x1_6 x1_7 x1_8 x1_9 x1_10 (x1_11 ++ [(List.getD x1_5 (Int.toNat x1_0) (Ty.dflt TPair)).1]))))
  else
  (L0 (w64 (x1_0 + 1)) x1_5 x1_6 x1_7 x1_8 x1_9 x1_10 x1_11)))))
def l1 (k : Nat) (L0 : T0) : Nat → T1
  | 0 => fun _ _ _ _ _ _ _ _ _ _ _ _ => none
  | n + 1 => b1 k L0 (l1 k L0 n)
def b0 (k : Nat) (L1 : T1) (L0 : T0) (x0_0 : Int) (x0_1 : List (Ty.den TPair)) (x0_2 : Int) (x0_3 : Int) (x0_4 : Bool) (x0_5 : Int) (x0_6 : List Int) (x0_7 : List ByteArray) : Option ((List ByteArray) × Unit) :=
  (bif (decide (x0_0 < (List.length x0_1 : Int))) then
  (inb x0_0 (List.length x0_1 : Int)
  (Option.bind (spec_IdOf.f k (List.getD x0_1 (Int.toNat x0_0) (Ty.dflt TPair)).1) fun r2 =>
  (L1 x0_0 r2.1 r2.2.1 false 0 x0_1 x0_2 x0_3 x0_4 x0_5 x0_6 x0_7)))
  else
  (some (x0_7, ())))
def l0 (k : Nat) : Nat → T0
  | 0 => fun _ _ _ _ _ _ _ _ => none
  | n + 1 => b0 k (l1 k (l0 k n) k) (l0 k n)
def t (k : Nat) (L0 : T0) (a0 : Ty.den TDisk) (a1 : Ty.den TLive) : Option ((List ByteArray) × Unit) :=
  (Option.bind (spec_DiskOk.f k a0) fun r1 =>
  (bif (!r1.1) then
  (some ([], ()))
  else
  (L0 0 a0.1 a0.2.1 a0.2.2.1 a0.2.2.2.1 a1.1 a1.2.1 [])))
def f (k : Nat) (a0 : Ty.den TDisk) (a1 : Ty.den TLive) : Option ((List ByteArray) × Unit) := t k (l0 k k) a0 a1
end spec_Orphans
namespace spec_l5Text
def t (k : Nat) (a0 : ByteArray) : Option (ByteArray × ByteArray × Bool × Unit) :=
  (Option.bind (spec_ReadVar.f k a0) fun r1 =>
  (bif (r1.2.1 == 0) then
  (some ((⟨#[]⟩ : ByteArray), ((⟨#[]⟩ : ByteArray), (false, ()))))
  else
  (bif (decide (r1.1 > (w64 ((ByteArray.size a0 : Int) - r1.2.1)))) then
  (some ((⟨#[]⟩ : ByteArray), ((⟨#[]⟩ : ByteArray), (false, ()))))
  else
  (inc2 r1.2.1 (w64 (r1.2.1 + r1.1)) (ByteArray.size a0 : Int)
  (inc (w64 (r1.2.1 + r1.1)) (ByteArray.size a0 : Int)
  (some ((ByteArray.extract a0 (Int.toNat r1.2.1) (Int.toNat (w64 (r1.2.1 + r1.1)))), ((ByteArray.extract a0 (Int.toNat (w64 (r1.2.1 + r1.1))) (ByteArray.size a0)), (true, ())))))))))
def f (k : Nat) (a0 : ByteArray) : Option (ByteArray × ByteArray × Bool × Unit) := t k a0
end spec_l5Text
namespace spec_KeyOk
def t (k : Nat) (a0 : ByteArray) : Option (Bool × Unit) :=
  (Option.bind (spec_l1In.f k (ByteArray.size a0 : Int) 1 8) fun r1 =>
  (some r1))
def f (k : Nat) (a0 : ByteArray) : Option (Bool × Unit) := t k a0
end spec_KeyOk
namespace spec_RecOk
def t (k : Nat) (a0 : Ty.den TRec) : Option (Bool × Unit) :=
  (Option.bind (spec_l1In.f k a0.2.1 0 1000000) fun r1 =>
  (bif (!r1.1) then
  (some (false, ()))
  else
  (bif (a0.2.1 == 0) then
  (bif (a0.1 != 5) then
  (some (false, ()))
  else
  (bif (a0.1 == 1) then
  (bif (a0.1 == 1) then
  (Option.bind (spec_KeyOk.f k a0.2.2.1) fun r2 =>
  (bif r2.1 then
  (bif (decide ((ByteArray.size a0.2.2.2.1 : Int) ≤ 24)) then
  (bif (a0.2.2.2.2.1 == 0) then
  (some ((a0.2.2.2.2.2.1 == 0), ()))
  else
  (some (false, ())))
  else
  (some (false, ())))
  else
  (some (false, ()))))
  else
  (bif (a0.1 == 2) then
  (Option.bind (spec_KeyOk.f k a0.2.2.1) fun r3 =>
  (bif r3.1 then
  (bif (seq a0.2.2.2.1 (⟨#[]⟩ : ByteArray)) then
  (bif (a0.2.2.2.2.1 == 0) then
  (some ((a0.2.2.2.2.2.1 == 0), ()))
  else
  (some (false, ())))
  else
  (some (false, ())))
  else
  (some (false, ()))))
  else
  (bif (a0.1 == 3) then
  (bif (seq a0.2.2.1 (⟨#[]⟩ : ByteArray)) then
  (bif (seq a0.2.2.2.1 (⟨#[]⟩ : ByteArray)) then
  (Option.bind (spec_l1In.f k a0.2.2.2.2.1 0 8) fun r4 =>
  (bif r4.1 then
  (Option.bind (spec_l1In.f k a0.2.2.2.2.2.1 0 4294967295) fun r5 =>
  (some r5))
  else
  (some (false, ()))))
  else
  (some (false, ())))
  else
  (some (false, ())))
  else
  (bif (a0.1 == 5) then
  (bif (seq a0.2.2.1 (⟨#[]⟩ : ByteArray)) then
  (bif (seq a0.2.2.2.1 (⟨#[]⟩ : ByteArray)) then
  (Option.bind (spec_l1In.f k a0.2.2.2.2.1 0 20) fun r6 =>
  (bif r6.1 then
  (Option.bind (spec_l1In.f k a0.2.2.2.2.2.1 0 4294967295) fun r7 =>
  (some r7))
  else
  (some (false, ()))))
  else
  (some (false, ())))
  else
  (some (false, ())))
  else
  (some (false, ()))))))
  else
  (bif (a0.1 == 4) then
  (Option.bind (spec_KeyOk.f k a0.2.2.1) fun r8 =>
  (bif r8.1 then
  (bif (decide ((ByteArray.size a0.2.2.2.1 : Int) ≤ 24)) then
  (bif (a0.2.2.2.2.1 == 0) then
  (some ((a0.2.2.2.2.2.1 == 0), ()))
  else
  (some (false, ())))
  else
  (some (false, ())))
  else
  (some (false, ()))))
  else
  (bif (a0.1 == 2) then
  (Option.bind (spec_KeyOk.f k a0.2.2.1) fun r9 =>
  (bif r9.1 then
  (bif (seq a0.2.2.2.1 (⟨#[]⟩ : ByteArray)) then
  (bif (a0.2.2.2.2.1 == 0) then
  (some ((a0.2.2.2.2.2.1 == 0), ()))
  else
  (some (false, ())))
  else
  (some (false, ())))
  else
  (some (false, ()))))
  else
  (bif (a0.1 == 3) then
  (bif (seq a0.2.2.1 (⟨#[]⟩ : ByteArray)) then
  (bif (seq a0.2.2.2.1 (⟨#[]⟩ : ByteArray)) then
  (Option.bind (spec_l1In.f k a0.2.2.2.2.1 0 8) fun r10 =>
  (bif r10.1 then
  (Option.bind (spec_l1In.f k a0.2.2.2.2.2.1 0 4294967295) fun r11 =>
  (some r11))
  else
  (some (false, ()))))
  else
  (some (false, ())))
  else
  (some (false, ())))
  else
  (bif (a0.1 == 5) then
  (bif (seq a0.2.2.1 (⟨#[]⟩ : ByteArray)) then
  (bif (seq a0.2.2.2.1 (⟨#[]⟩ : ByteArray)) then
  (Option.bind (spec_l1In.f k a0.2.2.2.2.1 0 20) fun r12 =>
  (bif r12.1 then
  (Option.bind (spec_l1In.f k a0.2.2.2.2.2.1 0 4294967295) fun r13 =>
  (some r13))
  else
  (some (false, ()))))
  else
  (some (false, ())))
  else
  (some (false, ())))
  else
  (some (false, ()))))))))
  else
  (bif (a0.1 == 1) then
  (bif (a0.1 == 1) then
  (Option.bind (spec_KeyOk.f k a0.2.2.1) fun r14 =>
  (bif r14.1 then
  (bif (decide ((ByteArray.size a0.2.2.2.1 : Int) ≤ 24)) then
  (bif (a0.2.2.2.2.1 == 0) then
  (some ((a0.2.2.2.2.2.1 == 0), ()))
  else
  (some (false, ())))
  else
  (some (false, ())))
  else
  (some (false, ()))))
  else
  (bif (a0.1 == 2) then
  (Option.bind (spec_KeyOk.f k a0.2.2.1) fun r15 =>
  (bif r15.1 then
  (bif (seq a0.2.2.2.1 (⟨#[]⟩ : ByteArray)) then
  (bif (a0.2.2.2.2.1 == 0) then
  (some ((a0.2.2.2.2.2.1 == 0), ()))
  else
  (some (false, ())))
  else
  (some (false, ())))
  else
  (some (false, ()))))
  else
  (bif (a0.1 == 3) then
  (bif (seq a0.2.2.1 (⟨#[]⟩ : ByteArray)) then
  (bif (seq a0.2.2.2.1 (⟨#[]⟩ : ByteArray)) then
  (Option.bind (spec_l1In.f k a0.2.2.2.2.1 0 8) fun r16 =>
  (bif r16.1 then
  (Option.bind (spec_l1In.f k a0.2.2.2.2.2.1 0 4294967295) fun r17 =>
  (some r17))
  else
  (some (false, ()))))
  else
  (some (false, ())))
  else
  (some (false, ())))
  else
  (bif (a0.1 == 5) then
  (bif (seq a0.2.2.1 (⟨#[]⟩ : ByteArray)) then
  (bif (seq a0.2.2.2.1 (⟨#[]⟩ : ByteArray)) then
  (Option.bind (spec_l1In.f k a0.2.2.2.2.1 0 20) fun r18 =>
  (bif r18.1 then
  (Option.bind (spec_l1In.f k a0.2.2.2.2.2.1 0 4294967295) fun r19 =>
  (some r19))
  else
  (some (false, ()))))
  else
  (some (false, ())))
  else
  (some (false, ())))
  else
  (some (false, ()))))))
  else
  (bif (a0.1 == 4) then
  (Option.bind (spec_KeyOk.f k a0.2.2.1) fun r20 =>
  (bif r20.1 then
  (bif (decide ((ByteArray.size a0.2.2.2.1 : Int) ≤ 24)) then
  (bif (a0.2.2.2.2.1 == 0) then
  (some ((a0.2.2.2.2.2.1 == 0), ()))
  else
  (some (false, ())))
  else
  (some (false, ())))
  else
  (some (false, ()))))
  else
  (bif (a0.1 == 2) then
  (Option.bind (spec_KeyOk.f k a0.2.2.1) fun r21 =>
  (bif r21.1 then
  (bif (seq a0.2.2.2.1 (⟨#[]⟩ : ByteArray)) then
  (bif (a0.2.2.2.2.1 == 0) then
  (some ((a0.2.2.2.2.2.1 == 0), ()))
  else
  (some (false, ())))
  else
  (some (false, ())))
  else
  (some (false, ()))))
  else
  (bif (a0.1 == 3) then
  (bif (seq a0.2.2.1 (⟨#[]⟩ : ByteArray)) then
  (bif (seq a0.2.2.2.1 (⟨#[]⟩ : ByteArray)) then
  (Option.bind (spec_l1In.f k a0.2.2.2.2.1 0 8) fun r22 =>
  (bif r22.1 then
  (Option.bind (spec_l1In.f k a0.2.2.2.2.2.1 0 4294967295) fun r23 =>
  (some r23))
  else
  (some (false, ()))))
  else
  (some (false, ())))
  else
  (some (false, ())))
  else
  (bif (a0.1 == 5) then
  (bif (seq a0.2.2.1 (⟨#[]⟩ : ByteArray)) then
  (bif (seq a0.2.2.2.1 (⟨#[]⟩ : ByteArray)) then
  (Option.bind (spec_l1In.f k a0.2.2.2.2.1 0 20) fun r24 =>
  (bif r24.1 then
  (Option.bind (spec_l1In.f k a0.2.2.2.2.2.1 0 4294967295) fun r25 =>
  (some r25))
  else
  (some (false, ()))))
  else
  (some (false, ())))
  else
  (some (false, ())))
  else
  (some (false, ()))))))))))
def f (k : Nat) (a0 : Ty.den TRec) : Option (Bool × Unit) := t k a0
end spec_RecOk
namespace spec_ShowRec
def t (k : Nat) (a0 : Ty.den TRec) : Option (ByteArray × Unit) :=
  (Option.bind (spec_RecOk.f k a0) fun r1 =>
  (bif (!r1.1) then
  (some ((⟨#[]⟩ : ByteArray), ()))
  else
  (Option.bind (spec_Var.f k a0.1) fun r2 =>
  (Option.bind (spec_Var.f k a0.2.1) fun r3 =>
  (cat r2.1 r3.1
  (bif (a0.1 == 1) then
  (bif (a0.1 == 1) then
  (Option.bind (spec_Var.f k (ByteArray.size a0.2.2.1 : Int)) fun r4 =>
  (cat (r2.1 ++ r3.1) r4.1
  (cat ((r2.1 ++ r3.1) ++ r4.1) a0.2.2.1
  (Option.bind (spec_Var.f k (ByteArray.size a0.2.2.2.1 : Int)) fun r5 =>
  (cat (((r2.1 ++ r3.1) ++ r4.1) ++ a0.2.2.1) r5.1
  (cat ((((r2.1 ++ r3.1) ++ r4.1) ++ a0.2.2.1) ++ r5.1) a0.2.2.2.1
  (some ((((((r2.1 ++ r3.1) ++ r4.1) ++ a0.2.2.1) ++ r5.1) ++ a0.2.2.2.1), ()))))))))
  else
  (bif (a0.1 == 2) then
  (Option.bind (spec_Var.f k (ByteArray.size a0.2.2.1 : Int)) fun r6 =>
  (cat (r2.1 ++ r3.1) r6.1
  (cat ((r2.1 ++ r3.1) ++ r6.1) a0.2.2.1
  (some ((((r2.1 ++ r3.1) ++ r6.1) ++ a0.2.2.1), ())))))
  else
  (Option.bind (spec_Var.f k a0.2.2.2.2.1) fun r7 =>
  (cat (r2.1 ++ r3.1) r7.1
  (Option.bind (spec_Fixed.f k a0.2.2.2.2.2.1 4) fun r8 =>
  (cat ((r2.1 ++ r3.1) ++ r7.1) r8.1
  (some ((((r2.1 ++ r3.1) ++ r7.1) ++ r8.1), ()))))))))
  else
  (bif (a0.1 == 4) then
  (Option.bind (spec_Var.f k (ByteArray.size a0.2.2.1 : Int)) fun r9 =>
  (cat (r2.1 ++ r3.1) r9.1
  (cat ((r2.1 ++ r3.1) ++ r9.1) a0.2.2.1
  (Option.bind (spec_Var.f k (ByteArray.size a0.2.2.2.1 : Int)) fun r10 =>
  (cat (((r2.1 ++ r3.1) ++ r9.1) ++ a0.2.2.1) r10.1
  (cat ((((r2.1 ++ r3.1) ++ r9.1) ++ a0.2.2.1) ++ r10.1) a0.2.2.2.1
  (some ((((((r2.1 ++ r3.1) ++ r9.1) ++ a0.2.2.1) ++ r10.1) ++ a0.2.2.2.1), ()))))))))
  else
  (bif (a0.1 == 2) then
  (Option.bind (spec_Var.f k (ByteArray.size a0.2.2.1 : Int)) fun r11 =>
  (cat (r2.1 ++ r3.1) r11.1
  (cat ((r2.1 ++ r3.1) ++ r11.1) a0.2.2.1
  (some ((((r2.1 ++ r3.1) ++ r11.1) ++ a0.2.2.1), ())))))
  else
  (Option.bind (spec_Var.f k a0.2.2.2.2.1) fun r12 =>
  (cat (r2.1 ++ r3.1) r12.1
  (Option.bind (spec_Fixed.f k a0.2.2.2.2.2.1 4) fun r13 =>
  (cat ((r2.1 ++ r3.1) ++ r12.1) r13.1
  (some ((((r2.1 ++ r3.1) ++ r12.1) ++ r13.1), ()))))))))))))))
def f (k : Nat) (a0 : Ty.den TRec) : Option (ByteArray × Unit) := t k a0
end spec_ShowRec
namespace spec_ReadFixed
abbrev T0 : Type := ByteArray → Int → Int → Int → Option (Int × Bool × Unit)
def b0 (k : Nat) (L0 : T0) (x0_0 : ByteArray) (x0_1 : Int) (x0_2 : Int) (x0_3 : Int) : Option (Int × Bool × Unit) :=
  (bif (decide (x0_3 < x0_1)) then
  (inb x0_3 (ByteArray.size x0_0 : Int)
  (L0 x0_0 x0_1 (w64 ((w64 (x0_2 * 256)) + (w64 (byteAt x0_0 x0_3)))) (w64 (x0_3 + 1))))
  else
  (some (x0_2, (true, ()))))
def l0 (k : Nat) : Nat → T0
  | 0 => fun _ _ _ _ => none
  | n + 1 => b0 k (l0 k n)
def t (k : Nat) (L0 : T0) (a0 : ByteArray) (a1 : Int) : Option (Int × Bool × Unit) :=
  (Option.bind (spec_l1In.f k a1 1 7) fun r1 =>
  (bif (!r1.1) then
  (some (0, (false, ())))
  else
  (bif (decide ((ByteArray.size a0 : Int) < a1)) then
  (some (0, (false, ())))
  else
  (L0 a0 a1 0 0))))
def f (k : Nat) (a0 : ByteArray) (a1 : Int) : Option (Int × Bool × Unit) := t k (l0 k k) a0 a1
end spec_ReadFixed
namespace spec_ReadRec
def t (k : Nat) (a0 : ByteArray) : Option ((Ty.den TRec) × Bool × Unit) :=
  (Option.bind (spec_ReadVar.f k a0) fun r1 =>
  (inc r1.2.1 (ByteArray.size a0 : Int)
  (Option.bind (spec_ReadVar.f k (ByteArray.extract a0 (Int.toNat r1.2.1) (ByteArray.size a0))) fun r2 =>
  (bif (r1.2.1 == 0) then
  (some ((0, (0, (ByteArray.empty, (ByteArray.empty, (0, (0, ())))))), (false, ())))
  else
  (bif (r2.2.1 == 0) then
  (some ((0, (0, (ByteArray.empty, (ByteArray.empty, (0, (0, ())))))), (false, ())))
  else
  (inc (w64 (r1.2.1 + r2.2.1)) (ByteArray.size a0 : Int)
  (bif (r1.1 == 1) then
  (bif (r1.1 == 1) then
  (Option.bind (spec_l5Text.f k (ByteArray.extract a0 (Int.toNat (w64 (r1.2.1 + r2.2.1))) (ByteArray.size a0))) fun r3 =>
  (Option.bind (spec_l5Text.f k r3.2.1) fun r4 =>
  (Option.bind (spec_ShowRec.f k (r1.1, (r2.1, (r3.1, (r4.1, (0, (0, ()))))))) fun r5 =>
  (bif (!(seq r5.1 a0)) then
  (some ((0, (0, (ByteArray.empty, (ByteArray.empty, (0, (0, ())))))), (false, ())))
  else
  (bif (seq a0 (⟨#[]⟩ : ByteArray)) then
  (some ((0, (0, (ByteArray.empty, (ByteArray.empty, (0, (0, ())))))), (false, ())))
  else
  (some ((r1.1, (r2.1, (r3.1, (r4.1, (0, (0, ())))))), (true, ()))))))))
  else
  (bif (r1.1 == 2) then
  (Option.bind (spec_l5Text.f k (ByteArray.extract a0 (Int.toNat (w64 (r1.2.1 + r2.2.1))) (ByteArray.size a0))) fun r6 =>
  (Option.bind (spec_ShowRec.f k (r1.1, (r2.1, (r6.1, (ByteArray.empty, (0, (0, ()))))))) fun r7 =>
  (bif (!(seq r7.1 a0)) then
  (some ((0, (0, (ByteArray.empty, (ByteArray.empty, (0, (0, ())))))), (false, ())))
  else
  (bif (seq a0 (⟨#[]⟩ : ByteArray)) then
  (some ((0, (0, (ByteArray.empty, (ByteArray.empty, (0, (0, ())))))), (false, ())))
  else
  (some ((r1.1, (r2.1, (r6.1, (ByteArray.empty, (0, (0, ())))))), (true, ())))))))
  else
  (Option.bind (spec_ReadVar.f k (ByteArray.extract a0 (Int.toNat (w64 (r1.2.1 + r2.2.1))) (ByteArray.size a0))) fun r8 =>
  (inc r8.2.1 (ByteArray.size (ByteArray.extract a0 (Int.toNat (w64 (r1.2.1 + r2.2.1))) (ByteArray.size a0)) : Int)
  (Option.bind (spec_ReadFixed.f k (ByteArray.extract (ByteArray.extract a0 (Int.toNat (w64 (r1.2.1 + r2.2.1))) (ByteArray.size a0)) (Int.toNat r8.2.1) (ByteArray.size (ByteArray.extract a0 (Int.toNat (w64 (r1.2.1 + r2.2.1))) (ByteArray.size a0)))) 4) fun r9 =>
  (Option.bind (spec_ShowRec.f k (r1.1, (r2.1, (ByteArray.empty, (ByteArray.empty, (r8.1, (r9.1, ()))))))) fun r10 =>
  (bif (!(seq r10.1 a0)) then
  (some ((0, (0, (ByteArray.empty, (ByteArray.empty, (0, (0, ())))))), (false, ())))
  else
  (bif (seq a0 (⟨#[]⟩ : ByteArray)) then
  (some ((0, (0, (ByteArray.empty, (ByteArray.empty, (0, (0, ())))))), (false, ())))
  else
  (some ((r1.1, (r2.1, (ByteArray.empty, (ByteArray.empty, (r8.1, (r9.1, ())))))), (true, ())))))))))))
  else
  (bif (r1.1 == 4) then
  (Option.bind (spec_l5Text.f k (ByteArray.extract a0 (Int.toNat (w64 (r1.2.1 + r2.2.1))) (ByteArray.size a0))) fun r11 =>
  (Option.bind (spec_l5Text.f k r11.2.1) fun r12 =>
  (Option.bind (spec_ShowRec.f k (r1.1, (r2.1, (r11.1, (r12.1, (0, (0, ()))))))) fun r13 =>
  (bif (!(seq r13.1 a0)) then
  (some ((0, (0, (ByteArray.empty, (ByteArray.empty, (0, (0, ())))))), (false, ())))
  else
  (bif (seq a0 (⟨#[]⟩ : ByteArray)) then
  (some ((0, (0, (ByteArray.empty, (ByteArray.empty, (0, (0, ())))))), (false, ())))
  else
  (some ((r1.1, (r2.1, (r11.1, (r12.1, (0, (0, ())))))), (true, ()))))))))
  else
  (bif (r1.1 == 2) then
  (Option.bind (spec_l5Text.f k (ByteArray.extract a0 (Int.toNat (w64 (r1.2.1 + r2.2.1))) (ByteArray.size a0))) fun r14 =>
  (Option.bind (spec_ShowRec.f k (r1.1, (r2.1, (r14.1, (ByteArray.empty, (0, (0, ()))))))) fun r15 =>
  (bif (!(seq r15.1 a0)) then
  (some ((0, (0, (ByteArray.empty, (ByteArray.empty, (0, (0, ())))))), (false, ())))
  else
  (bif (seq a0 (⟨#[]⟩ : ByteArray)) then
  (some ((0, (0, (ByteArray.empty, (ByteArray.empty, (0, (0, ())))))), (false, ())))
  else
  (some ((r1.1, (r2.1, (r14.1, (ByteArray.empty, (0, (0, ())))))), (true, ())))))))
  else
  (Option.bind (spec_ReadVar.f k (ByteArray.extract a0 (Int.toNat (w64 (r1.2.1 + r2.2.1))) (ByteArray.size a0))) fun r16 =>
  (inc r16.2.1 (ByteArray.size (ByteArray.extract a0 (Int.toNat (w64 (r1.2.1 + r2.2.1))) (ByteArray.size a0)) : Int)
  (Option.bind (spec_ReadFixed.f k (ByteArray.extract (ByteArray.extract a0 (Int.toNat (w64 (r1.2.1 + r2.2.1))) (ByteArray.size a0)) (Int.toNat r16.2.1) (ByteArray.size (ByteArray.extract a0 (Int.toNat (w64 (r1.2.1 + r2.2.1))) (ByteArray.size a0)))) 4) fun r17 =>
  (Option.bind (spec_ShowRec.f k (r1.1, (r2.1, (ByteArray.empty, (ByteArray.empty, (r16.1, (r17.1, ()))))))) fun r18 =>
  (bif (!(seq r18.1 a0)) then
  (some ((0, (0, (ByteArray.empty, (ByteArray.empty, (0, (0, ())))))), (false, ())))
  else
  (bif (seq a0 (⟨#[]⟩ : ByteArray)) then
  (some ((0, (0, (ByteArray.empty, (ByteArray.empty, (0, (0, ())))))), (false, ())))
  else
  (some ((r1.1, (r2.1, (ByteArray.empty, (ByteArray.empty, (r16.1, (r17.1, ())))))), (true, ()))))))))))))))))))
def f (k : Nat) (a0 : ByteArray) : Option ((Ty.den TRec) × Bool × Unit) := t k a0
end spec_ReadRec
namespace spec_ScanRecs
abbrev T0 : Type := ByteArray → Int → List (Ty.den TSpot) → Option ((List (Ty.den TSpot)) × Int × Unit)
def b0 (k : Nat) (L0 : T0) (x0_0 : ByteArray) (x0_1 : Int) (x0_2 : List (Ty.den TSpot)) : Option ((List (Ty.den TSpot)) × Int × Unit) :=
  (bif (decide (x0_1 < (ByteArray.size x0_0 : Int))) then
  (inc x0_1 (ByteArray.size x0_0 : Int)
  (Option.bind (spec_Unframe.f k (ByteArray.extract x0_0 (Int.toNat x0_1) (ByteArray.size x0_0))) fun r1 =>
  (Option.bind (spec_ReadRec.f k r1.1) fun r2 =>
  (bif (r1.2.1 == 0) then
  (some (x0_2, (x0_1, ())))
  else
  (bif (!r2.2.1) then
  (some (x0_2, (x0_1, ())))
  else
  (rm (Ty.bytes TSpot) (List.length x0_2 + 1)
  (L0 x0_0 (w64 (x0_1 + r1.2.1)) (x0_2 ++ [(x0_1, (r1.2.1, (r2.1, ())))]))))))))
  else
  (some (x0_2, (x0_1, ()))))
def l0 (k : Nat) : Nat → T0
  | 0 => fun _ _ _ => none
  | n + 1 => b0 k (l0 k n)
def t (k : Nat) (L0 : T0) (a0 : ByteArray) : Option ((List (Ty.den TSpot)) × Int × Unit) :=
  (L0 a0 0 [])
def f (k : Nat) (a0 : ByteArray) : Option ((List (Ty.den TSpot)) × Int × Unit) := t k (l0 k k) a0
end spec_ScanRecs
namespace spec_l11Places
abbrev T0 : Type := Int → Int → List (Ty.den TPlace) → List (Ty.den TSpot) → Option ((List (Ty.den TPlace)) × Unit)
def b0 (k : Nat) (L0 : T0) (x0_0 : Int) (x0_1 : Int) (x0_2 : List (Ty.den TPlace)) (x0_3 : List (Ty.den TSpot)) : Option ((List (Ty.den TPlace)) × Unit) :=
  (bif (decide (x0_1 < (List.length x0_3 : Int))) then
  (inb x0_1 (List.length x0_3 : Int)
  (inb x0_1 (List.length x0_3 : Int)
  (inb x0_1 (List.length x0_3 : Int)
  (rm (Ty.bytes TPlace) (List.length x0_2 + 1)
  (L0 x0_0 (w64 (x0_1 + 1)) (x0_2 ++ [(x0_0, ((List.getD x0_3 (Int.toNat x0_1) (Ty.dflt TSpot)).1, ((List.getD x0_3 (Int.toNat x0_1) (Ty.dflt TSpot)).2.1, (List.getD x0_3 (Int.toNat x0_1) (Ty.dflt TSpot)).2.2)))]) x0_3)))))
  else
  (some (x0_2, ())))
def l0 (k : Nat) : Nat → T0
  | 0 => fun _ _ _ _ => none
  | n + 1 => b0 k (l0 k n)
def t (k : Nat) (L0 : T0) (a0 : Int) (a1 : ByteArray) : Option ((List (Ty.den TPlace)) × Unit) :=
  (Option.bind (spec_ScanRecs.f k a1) fun r1 =>
  (L0 a0 0 [] r1.1))
def f (k : Nat) (a0 : Int) (a1 : ByteArray) : Option ((List (Ty.den TPlace)) × Unit) := t k (l0 k k) a0 a1
end spec_l11Places
namespace spec_l9Of
abbrev T0 : Type := List (Ty.den TPlace) → Int → Int → Int → List (Ty.den TPlace) → Option ((List (Ty.den TPlace)) × Unit)
def b0 (k : Nat) (L0 : T0) (x0_0 : List (Ty.den TPlace)) (x0_1 : Int) (x0_2 : Int) (x0_3 : Int) (x0_4 : List (Ty.den TPlace)) : Option ((List (Ty.den TPlace)) × Unit) :=
  (bif (decide (x0_3 < x0_1)) then
  (inb x0_3 (List.length x0_0 : Int)
  (bif ((List.getD x0_0 (Int.toNat x0_3) (Ty.dflt TPlace)).2.2.2.1.2.1 == x0_2) then
  (bif ((List.getD x0_0 (Int.toNat x0_3) (Ty.dflt TPlace)).2.2.2.1.1 == 3) then
  (bif ((List.getD x0_0 (Int.toNat x0_3) (Ty.dflt TPlace)).2.2.2.1.2.1 == x0_2) then
  (bif ((List.getD x0_0 (Int.toNat x0_3) (Ty.dflt TPlace)).2.2.2.1.1 == 1) then
  (inb x0_3 (List.length x0_0 : Int)
  (rm (Ty.bytes TPlace) (0 + 1)
  (L0 x0_0 x0_1 x0_2 (w64 (x0_3 + 1)) ([] ++ [(List.getD x0_0 (Int.toNat x0_3) (Ty.dflt TPlace))]))))
  else
  (bif ((List.getD x0_0 (Int.toNat x0_3) (Ty.dflt TPlace)).2.2.2.1.1 == 2) then
  (inb x0_3 (List.length x0_0 : Int)
  (rm (Ty.bytes TPlace) (0 + 1)
  (L0 x0_0 x0_1 x0_2 (w64 (x0_3 + 1)) ([] ++ [(List.getD x0_0 (Int.toNat x0_3) (Ty.dflt TPlace))]))))
  else
  (L0 x0_0 x0_1 x0_2 (w64 (x0_3 + 1)) [])))
  else
  (L0 x0_0 x0_1 x0_2 (w64 (x0_3 + 1)) []))
  else
  (bif ((List.getD x0_0 (Int.toNat x0_3) (Ty.dflt TPlace)).2.2.2.1.2.1 == x0_2) then
  (bif ((List.getD x0_0 (Int.toNat x0_3) (Ty.dflt TPlace)).2.2.2.1.1 == 1) then
  (inb x0_3 (List.length x0_0 : Int)
  (rm (Ty.bytes TPlace) (List.length x0_4 + 1)
  (L0 x0_0 x0_1 x0_2 (w64 (x0_3 + 1)) (x0_4 ++ [(List.getD x0_0 (Int.toNat x0_3) (Ty.dflt TPlace))]))))
  else
  (bif ((List.getD x0_0 (Int.toNat x0_3) (Ty.dflt TPlace)).2.2.2.1.1 == 2) then
  (inb x0_3 (List.length x0_0 : Int)
  (rm (Ty.bytes TPlace) (List.length x0_4 + 1)
  (L0 x0_0 x0_1 x0_2 (w64 (x0_3 + 1)) (x0_4 ++ [(List.getD x0_0 (Int.toNat x0_3) (Ty.dflt TPlace))]))))
  else
  (L0 x0_0 x0_1 x0_2 (w64 (x0_3 + 1)) x0_4)))
  else
  (L0 x0_0 x0_1 x0_2 (w64 (x0_3 + 1)) x0_4)))
  else
  (bif ((List.getD x0_0 (Int.toNat x0_3) (Ty.dflt TPlace)).2.2.2.1.2.1 == x0_2) then
  (bif ((List.getD x0_0 (Int.toNat x0_3) (Ty.dflt TPlace)).2.2.2.1.1 == 1) then
  (inb x0_3 (List.length x0_0 : Int)
  (rm (Ty.bytes TPlace) (List.length x0_4 + 1)
  (L0 x0_0 x0_1 x0_2 (w64 (x0_3 + 1)) (x0_4 ++ [(List.getD x0_0 (Int.toNat x0_3) (Ty.dflt TPlace))]))))
  else
  (bif ((List.getD x0_0 (Int.toNat x0_3) (Ty.dflt TPlace)).2.2.2.1.1 == 2) then
  (inb x0_3 (List.length x0_0 : Int)
  (rm (Ty.bytes TPlace) (List.length x0_4 + 1)
  (L0 x0_0 x0_1 x0_2 (w64 (x0_3 + 1)) (x0_4 ++ [(List.getD x0_0 (Int.toNat x0_3) (Ty.dflt TPlace))]))))
  else
  (L0 x0_0 x0_1 x0_2 (w64 (x0_3 + 1)) x0_4)))
  else
  (L0 x0_0 x0_1 x0_2 (w64 (x0_3 + 1)) x0_4))))
  else
  (some (x0_4, ())))
def l0 (k : Nat) : Nat → T0
  | 0 => fun _ _ _ _ _ => none
  | n + 1 => b0 k (l0 k n)
def t (k : Nat) (L0 : T0) (a0 : List (Ty.den TPlace)) (a1 : Int) (a2 : Int) : Option ((List (Ty.den TPlace)) × Unit) :=
  (L0 a0 a1 a2 0 [])
def f (k : Nat) (a0 : List (Ty.den TPlace)) (a1 : Int) (a2 : Int) : Option ((List (Ty.den TPlace)) × Unit) := t k (l0 k k) a0 a1 a2
end spec_l9Of
namespace spec_l9Recs
abbrev T0 : Type := List (Ty.den TPlace) → Int → List (Ty.den TRec) → Option ((List (Ty.den TRec)) × Unit)
def b0 (k : Nat) (L0 : T0) (x0_0 : List (Ty.den TPlace)) (x0_1 : Int) (x0_2 : List (Ty.den TRec)) : Option ((List (Ty.den TRec)) × Unit) :=
  (bif (decide (x0_1 < (List.length x0_0 : Int))) then
  (inb x0_1 (List.length x0_0 : Int)
  (rm (Ty.bytes TRec) (List.length x0_2 + 1)
  (L0 x0_0 (w64 (x0_1 + 1)) (x0_2 ++ [(List.getD x0_0 (Int.toNat x0_1) (Ty.dflt TPlace)).2.2.2.1]))))
  else
  (some (x0_2, ())))
def l0 (k : Nat) : Nat → T0
  | 0 => fun _ _ _ => none
  | n + 1 => b0 k (l0 k n)
def t (k : Nat) (L0 : T0) (a0 : List (Ty.den TPlace)) : Option ((List (Ty.den TRec)) × Unit) :=
  (L0 a0 0 [])
def f (k : Nat) (a0 : List (Ty.den TPlace)) : Option ((List (Ty.den TRec)) × Unit) := t k (l0 k k) a0
end spec_l9Recs
namespace spec_SumOf
abbrev T0 : Type := List (Ty.den TRec) → ByteArray → Int → Option (Int × Unit)
def b0 (k : Nat) (L0 : T0) (x0_0 : List (Ty.den TRec)) (x0_1 : ByteArray) (x0_2 : Int) : Option (Int × Unit) :=
  (bif (decide (x0_2 < (List.length x0_0 : Int))) then
  (inb x0_2 (List.length x0_0 : Int)
  (Option.bind (spec_ShowRec.f k (List.getD x0_0 (Int.toNat x0_2) (Ty.dflt TRec))) fun r1 =>
  (cat x0_1 r1.1
  (L0 x0_0 (x0_1 ++ r1.1) (w64 (x0_2 + 1))))))
  else
  (Option.bind (spec_Crc.f k x0_1) fun r2 =>
  (some r2)))
def l0 (k : Nat) : Nat → T0
  | 0 => fun _ _ _ => none
  | n + 1 => b0 k (l0 k n)
def t (k : Nat) (L0 : T0) (a0 : List (Ty.den TRec)) : Option (Int × Unit) :=
  (L0 a0 (⟨#[]⟩ : ByteArray) 0)
def f (k : Nat) (a0 : List (Ty.den TRec)) : Option (Int × Unit) := t k (l0 k k) a0
end spec_SumOf
namespace spec_l9Fits
def t (k : Nat) (a0 : Ty.den TRec) (a1 : List (Ty.den TPlace)) : Option (Bool × Unit) :=
  (bif (a0.2.2.2.2.1 == (List.length a1 : Int)) then
  (Option.bind (spec_l9Recs.f k a1) fun r1 =>
  (Option.bind (spec_SumOf.f k r1.1) fun r2 =>
  (some ((a0.2.2.2.2.2.1 == r2.1), ()))))
  else
  (some (false, ())))
def f (k : Nat) (a0 : Ty.den TRec) (a1 : List (Ty.den TPlace)) : Option (Bool × Unit) := t k a0 a1
end spec_l9Fits
namespace spec_Sealed
abbrev T0 : Type := List (Ty.den TPlace) → Int → List Int → Option ((List Int) × Unit)
def b0 (k : Nat) (L0 : T0) (x0_0 : List (Ty.den TPlace)) (x0_1 : Int) (x0_2 : List Int) : Option ((List Int) × Unit) :=
  (bif (decide (x0_1 < (List.length x0_0 : Int))) then
  (inb x0_1 (List.length x0_0 : Int)
  (bif ((List.getD x0_0 (Int.toNat x0_1) (Ty.dflt TPlace)).2.2.2.1.1 == 3) then
  (inb x0_1 (List.length x0_0 : Int)
  (inb x0_1 (List.length x0_0 : Int)
  (Option.bind (spec_l9Of.f k x0_0 x0_1 (List.getD x0_0 (Int.toNat x0_1) (Ty.dflt TPlace)).2.2.2.1.2.1) fun r1 =>
  (Option.bind (spec_l9Fits.f k (List.getD x0_0 (Int.toNat x0_1) (Ty.dflt TPlace)).2.2.2.1 r1.1) fun r2 =>
  (bif r2.1 then
  (inb x0_1 (List.length x0_0 : Int)
  (rm (Ty.bytes (.int .i64)) (List.length x0_2 + 1)
  (L0 x0_0 (w64 (x0_1 + 1)) (x0_2 ++ [(List.getD x0_0 (Int.toNat x0_1) (Ty.dflt TPlace)).2.2.2.1.2.1]))))
  else
  (L0 x0_0 (w64 (x0_1 + 1)) x0_2))))))
  else
  (L0 x0_0 (w64 (x0_1 + 1)) x0_2)))
  else
  (some (x0_2, ())))
def l0 (k : Nat) : Nat → T0
  | 0 => fun _ _ _ => none
  | n + 1 => b0 k (l0 k n)
def t (k : Nat) (L0 : T0) (a0 : List (Ty.den TPlace)) : Option ((List Int) × Unit) :=
  (L0 a0 0 [])
def f (k : Nat) (a0 : List (Ty.den TPlace)) : Option ((List Int) × Unit) := t k (l0 k k) a0
end spec_Sealed
namespace spec_l4Has
abbrev T0 : Type := List Int → Int → Int → Option (Bool × Unit)
def b0 (k : Nat) (L0 : T0) (x0_0 : List Int) (x0_1 : Int) (x0_2 : Int) : Option (Bool × Unit) :=
  (bif (decide (x0_2 < (List.length x0_0 : Int))) then
  (inb x0_2 (List.length x0_0 : Int)
  (bif ((List.getD x0_0 (Int.toNat x0_2) (Ty.dflt (.int .i64))) == x0_1) then
  (some (true, ()))
  else
  (L0 x0_0 x0_1 (w64 (x0_2 + 1)))))
  else
  (some (false, ())))
def l0 (k : Nat) : Nat → T0
  | 0 => fun _ _ _ => none
  | n + 1 => b0 k (l0 k n)
def t (k : Nat) (L0 : T0) (a0 : List Int) (a1 : Int) : Option (Bool × Unit) :=
  (L0 a0 a1 0)
def f (k : Nat) (a0 : List Int) (a1 : Int) : Option (Bool × Unit) := t k (l0 k k) a0 a1
end spec_l4Has
namespace spec_Check
abbrev T1 : Type := Int → Bool → Int → Int → Int → Int → Int → Int → Bool → Int → Int → Int → Int → Int → Int → List (Ty.den TPlace) → List Int → Option ((Ty.den TReport) × Unit)
abbrev T0 : Type := Int → List (Ty.den TPair) → Int → Int → Bool → Bool → Int → Int → Int → Int → Int → Int → Bool → Int → Int → Int → Int → Int → Int → List Int → Int → List (Ty.den TPlace) → Option ((Ty.den TReport) × Unit)
def b1 (k : Nat) (L1 : T1) (x1_0 : Int) (x1_1 : Bool) (x1_2 : Int) (x1_3 : Int) (x1_4 : Int) (x1_5 : Int) (x1_6 : Int) (x1_7 : Int) (x1_8 : Bool) (x1_9 : Int) (x1_10 : Int) (x1_11 : Int) (x1_12 : Int) (x1_13 : Int) (x1_14 : Int) (x1_15 : List (Ty.den TPlace)) (x1_16 : List Int) : Option ((Ty.den TReport) × Unit) :=
  (bif (decide (x1_0 < (List.length x1_15 : Int))) then
  (inb x1_0 (List.length x1_15 : Int)
  (bif ((List.getD x1_15 (Int.toNat x1_0) (Ty.dflt TPlace)).2.2.2.1.1 == 1) then
  (Option.bind (spec_l4Has.f k x1_16 (List.getD x1_15 (Int.toNat x1_0) (Ty.dflt TPlace)).2.2.2.1.2.1) fun r12 =>
  (bif (!r12.1) then
  (L1 (w64 (x1_0 + 1)) x1_1 x1_2 x1_3 x1_4 x1_5 x1_6 x1_7 x1_8 x1_9 x1_10 (w64 (x1_11 + 1)) x1_12 x1_13 x1_14 x1_15 x1_16)
  else
  (L1 (w64 (x1_0 + 1)) x1_1 x1_2 x1_3 x1_4 x1_5 x1_6 x1_7 x1_8 x1_9 x1_10 x1_11 x1_12 x1_13 x1_14 x1_15 x1_16)))
  else
  (bif ((List.getD x1_15 (Int.toNat x1_0) (Ty.dflt TPlace)).2.2.2.1.1 == 2) then
  (Option.bind (spec_l4Has.f k x1_16 (List.getD x1_15 (Int.toNat x1_0) (Ty.dflt TPlace)).2.2.2.1.2.1) fun r13 =>
  (bif (!r13.1) then
  (L1 (w64 (x1_0 + 1)) x1_1 x1_2 x1_3 x1_4 x1_5 x1_6 x1_7 x1_8 x1_9 x1_10 (w64 (x1_11 + 1)) x1_12 x1_13 x1_14 x1_15 x1_16)
  else
  (L1 (w64 (x1_0 + 1)) x1_1 x1_2 x1_3 x1_4 x1_5 x1_6 x1_7 x1_8 x1_9 x1_10 x1_11 x1_12 x1_13 x1_14 x1_15 x1_16)))
  else
  (L1 (w64 (x1_0 + 1)) x1_1 x1_2 x1_3 x1_4 x1_5 x1_6 x1_7 x1_8 x1_9 x1_10 x1_11 x1_12 x1_13 x1_14 x1_15 x1_16))))
  else
  (some ((x1_8, (x1_9, (x1_10, (x1_11, (x1_12, (x1_13, (x1_14, ()))))))), ())))
def l1 (k : Nat) : Nat → T1
  | 0 => fun _ _ _ _ _ _ _ _ _ _ _ _ _ _ _ _ _ => none
  | n + 1 => b1 k (l1 k n)
def b0 (k : Nat) (L1 : T1) (L0 : T0) (x0_0 : Int) (x0_1 : List (Ty.den TPair)) (x0_2 : Int) (x0_3 : Int) (x0_4 : Bool) (x0_5 : Bool) (x0_6 : Int) (x0_7 : Int) (x0_8 : Int) (x0_9 : Int) (x0_10 : Int) (x0_11 : Int) (x0_12 : Bool) (x0_13 : Int) (x0_14 : Int) (x0_15 : Int) (x0_16 : Int) (x0_17 : Int) (x0_18 : Int) (x0_19 : List Int) (x0_20 : Int) (x0_21 : List (Ty.den TPlace)) : Option ((Ty.den TReport) × Unit) :=
  (bif (decide (x0_0 < (List.length x0_19 : Int))) then
  (inb x0_0 (List.length x0_19 : Int)
  (Option.bind (spec_SegName.f k (List.getD x0_19 (Int.toNat x0_0) (Ty.dflt (.int .i64)))) fun r4 =>
  (Option.bind (spec_FileText.f k (x0_1, (x0_2, (x0_3, (x0_4, ())))) r4.1) fun r5 =>
  (Option.bind (spec_ScanRecs.f k r5.1) fun r6 =>
  (bif (!r5.2.1) then
  (bif (decide (r6.2.1 < (ByteArray.size r5.1 : Int))) then
  (inb x0_0 (List.length x0_19 : Int)
  (Option.bind (spec_l11Places.f k (List.getD x0_19 (Int.toNat x0_0) (Ty.dflt (.int .i64))) r5.1) fun r7 =>
  (rm (Ty.bytes TPlace) (List.length x0_21 + List.length r7.1)
  (L0 (w64 (x0_0 + 1)) x0_1 x0_2 x0_3 x0_4 x0_5 x0_6 x0_7 x0_8 x0_9 x0_10 x0_11 x0_12 (w64 (x0_13 + 1)) (w64 (x0_14 + 1)) x0_15 x0_16 x0_17 (w64 ((w64 (x0_18 + (ByteArray.size r5.1 : Int))) - r6.2.1)) x0_19 x0_20 (x0_21 ++ r7.1)))))
  else
  (inb x0_0 (List.length x0_19 : Int)
  (Option.bind (spec_l11Places.f k (List.getD x0_19 (Int.toNat x0_0) (Ty.dflt (.int .i64))) r5.1) fun r8 =>
  (rm (Ty.bytes TPlace) (List.length x0_21 + List.length r8.1)
  (L0 (w64 (x0_0 + 1)) x0_1 x0_2 x0_3 x0_4 x0_5 x0_6 x0_7 x0_8 x0_9 x0_10 x0_11 x0_12 (w64 (x0_13 + 1)) x0_14 x0_15 x0_16 x0_17 x0_18 x0_19 x0_20 (x0_21 ++ r8.1))))))
  else
  (bif (decide (r6.2.1 < (ByteArray.size r5.1 : Int))) then
  (inb x0_0 (List.length x0_19 : Int)
  (Option.bind (spec_l11Places.f k (List.getD x0_19 (Int.toNat x0_0) (Ty.dflt (.int .i64))) r5.1) fun r9 =>
  (rm (Ty.bytes TPlace) (List.length x0_21 + List.length r9.1)
  (L0 (w64 (x0_0 + 1)) x0_1 x0_2 x0_3 x0_4 x0_5 x0_6 x0_7 x0_8 x0_9 x0_10 x0_11 x0_12 x0_13 (w64 (x0_14 + 1)) x0_15 x0_16 x0_17 (w64 ((w64 (x0_18 + (ByteArray.size r5.1 : Int))) - r6.2.1)) x0_19 x0_20 (x0_21 ++ r9.1)))))
  else
  (inb x0_0 (List.length x0_19 : Int)
  (Option.bind (spec_l11Places.f k (List.getD x0_19 (Int.toNat x0_0) (Ty.dflt (.int .i64))) r5.1) fun r10 =>
  (rm (Ty.bytes TPlace) (List.length x0_21 + List.length r10.1)
  (L0 (w64 (x0_0 + 1)) x0_1 x0_2 x0_3 x0_4 x0_5 x0_6 x0_7 x0_8 x0_9 x0_10 x0_11 x0_12 x0_13 x0_14 x0_15 x0_16 x0_17 x0_18 x0_19 x0_20 (x0_21 ++ r10.1)))))))))))
  else
  (Option.bind (spec_Sealed.f k x0_21) fun r11 =>
  (L1 0 x0_5 x0_6 x0_7 x0_8 x0_9 x0_10 x0_11 x0_12 x0_13 x0_14 x0_15 x0_16 (List.length x0_21 : Int) x0_18 x0_21 r11.1)))
def l0 (k : Nat) : Nat → T0
  | 0 => fun _ _ _ _ _ _ _ _ _ _ _ _ _ _ _ _ _ _ _ _ _ _ => none
  | n + 1 => b0 k (l1 k k) (l0 k n)
def t (k : Nat) (L0 : T0) (a0 : Ty.den TDisk) : Option ((Ty.den TReport) × Unit) :=
  (Option.bind (spec_FileText.f k a0 (⟨#[108, 105, 118, 101]⟩ : ByteArray)) fun r1 =>
  (Option.bind (spec_ReadLive.f k r1.1) fun r2 =>
  (Option.bind (spec_Orphans.f k a0 r2.1) fun r3 =>
  (L0 0 a0.1 a0.2.1 a0.2.2.1 a0.2.2.2.1 false 0 0 0 0 0 0 r2.2.1 0 0 0 (List.length r3.1 : Int) 0 0 r2.1.2.1 r2.1.1 []))))
def f (k : Nat) (a0 : Ty.den TDisk) : Option ((Ty.den TReport) × Unit) := t k (l0 k k) a0
end spec_Check
namespace spec_Sound
def t (k : Nat) (a0 : Ty.den TDisk) : Option (Bool × Unit) :=
  (Option.bind (spec_Check.f k a0) fun r1 =>
  (bif r1.1.1 then
  (bif (r1.1.2.1 == 0) then
  (bif (r1.1.2.2.1 == 0) then
  (some ((r1.1.2.2.2.2.1 == 0), ()))
  else
  (some (false, ())))
  else
  (some (false, ())))
  else
  (some (false, ()))))
def f (k : Nat) (a0 : Ty.den TDisk) : Option (Bool × Unit) := t k a0
end spec_Sound
namespace impl_fileAt
abbrev T0 : Type := ByteArray → List (Ty.den TPair) → Int → Int → Option (Int × Unit)
def b0 (k : Nat) (L0 : T0) (x0_0 : ByteArray) (x0_1 : List (Ty.den TPair)) (x0_2 : Int) (x0_3 : Int) : Option (Int × Unit) :=
  (bif (decide (x0_3 < x0_2)) then
  (inb x0_3 (List.length x0_1 : Int)
  (bif (seq (List.getD x0_1 (Int.toNat x0_3) (Ty.dflt TPair)).1 x0_0) then
  (some (x0_3, ()))
  else
  (L0 x0_0 x0_1 x0_2 (w64 (x0_3 + 1)))))
  else
  (some ((-1), ())))
def l0 (k : Nat) : Nat → T0
  | 0 => fun _ _ _ _ => none
  | n + 1 => b0 k (l0 k n)
def t (k : Nat) (L0 : T0) (a0 : Ty.den TDisk) (a1 : ByteArray) : Option (Int × Unit) :=
  (L0 a1 a0.1 (List.length a0.1 : Int) 0)
def f (k : Nat) (a0 : Ty.den TDisk) (a1 : ByteArray) : Option (Int × Unit) := t k (l0 k k) a0 a1
end impl_fileAt
namespace impl_in
def t (k : Nat) (a0 : Int) (a1 : Int) (a2 : Int) : Option (Bool × Unit) :=
  (bif (decide (a0 ≥ a1)) then
  (some ((decide (a0 ≤ a2)), ()))
  else
  (some (false, ())))
def f (k : Nat) (a0 : Int) (a1 : Int) (a2 : Int) : Option (Bool × Unit) := t k a0 a1 a2
end impl_in
namespace impl_NameOk
abbrev T0 : Type := ByteArray → Int → Option (Bool × Unit)
def b0 (k : Nat) (L0 : T0) (x0_0 : ByteArray) (x0_1 : Int) : Option (Bool × Unit) :=
  (bif (decide (x0_1 < (ByteArray.size x0_0 : Int))) then
  (inb x0_1 (ByteArray.size x0_0 : Int)
  (bif (decide ((byteAt x0_0 x0_1) ≥ 97)) then
  (inb x0_1 (ByteArray.size x0_0 : Int)
  (bif (!(decide ((byteAt x0_0 x0_1) ≤ 122))) then
  (inb x0_1 (ByteArray.size x0_0 : Int)
  (bif (decide ((byteAt x0_0 x0_1) ≥ 48)) then
  (inb x0_1 (ByteArray.size x0_0 : Int)
  (bif (!(decide ((byteAt x0_0 x0_1) ≤ 57))) then
  (some (false, ()))
  else
  (L0 x0_0 (w64 (x0_1 + 1)))))
  else
  (some (false, ()))))
  else
  (L0 x0_0 (w64 (x0_1 + 1)))))
  else
  (inb x0_1 (ByteArray.size x0_0 : Int)
  (bif (decide ((byteAt x0_0 x0_1) ≥ 48)) then
  (inb x0_1 (ByteArray.size x0_0 : Int)
  (bif (!(decide ((byteAt x0_0 x0_1) ≤ 57))) then
  (some (false, ()))
  else
  (L0 x0_0 (w64 (x0_1 + 1)))))
  else
  (some (false, ()))))))
  else
  (Option.bind (impl_in.f k (ByteArray.size x0_0 : Int) 1 12) fun r1 =>
  (some r1)))
def l0 (k : Nat) : Nat → T0
  | 0 => fun _ _ => none
  | n + 1 => b0 k (l0 k n)
def t (k : Nat) (L0 : T0) (a0 : ByteArray) : Option (Bool × Unit) :=
  (L0 a0 0)
def f (k : Nat) (a0 : ByteArray) : Option (Bool × Unit) := t k (l0 k k) a0
end impl_NameOk
namespace impl_DiskOk
abbrev T0 : Type := Int → List (Ty.den TPair) → Int → Int → List (Ty.den TPair) → Int → Int → Bool → Option (Bool × Unit)
def b0 (k : Nat) (L0 : T0) (x0_0 : Int) (x0_1 : List (Ty.den TPair)) (x0_2 : Int) (x0_3 : Int) (x0_4 : List (Ty.den TPair)) (x0_5 : Int) (x0_6 : Int) (x0_7 : Bool) : Option (Bool × Unit) :=
  (bif (decide (x0_3 < x0_2)) then
  (inb x0_3 (List.length x0_1 : Int)
  (Option.bind (impl_NameOk.f k (List.getD x0_1 (Int.toNat x0_3) (Ty.dflt TPair)).1) fun r3 =>
  (bif (!r3.1) then
  (some (false, ()))
  else
  (Option.bind (impl_in.f k (List.getD x0_1 (Int.toNat x0_3) (Ty.dflt TPair)).2.2.1 0 (ByteArray.size (List.getD x0_1 (Int.toNat x0_3) (Ty.dflt TPair)).2.1 : Int)) fun r4 =>
  (bif (!r4.1) then
  (some (false, ()))
  else
  (bif (decide (x0_3 > 0)) then
  (inb (w64 (x0_3 - 1)) (List.length x0_4 : Int)
  (bif (!(sls (List.getD x0_4 (Int.toNat (w64 (x0_3 - 1))) (Ty.dflt TPair)).1 (List.getD x0_1 (Int.toNat x0_3) (Ty.dflt TPair)).1)) then
  (some (false, ()))
  else
  (L0 (w64 (x0_0 + (ByteArray.size (List.getD x0_1 (Int.toNat x0_3) (Ty.dflt TPair)).2.1 : Int))) x0_1 x0_2 (w64 (x0_3 + 1)) x0_4 x0_5 x0_6 x0_7)))
  else
  (L0 (w64 (x0_0 + (ByteArray.size (List.getD x0_1 (Int.toNat x0_3) (Ty.dflt TPair)).2.1 : Int))) x0_1 x0_2 (w64 (x0_3 + 1)) x0_4 x0_5 x0_6 x0_7)))))))
  else
  (some ((decide (x0_0 ≤ x0_5)), ())))
def l0 (k : Nat) : Nat → T0
  | 0 => fun _ _ _ _ _ _ _ _ => none
  | n + 1 => b0 k (l0 k n)
def t (k : Nat) (L0 : T0) (a0 : Ty.den TDisk) : Option (Bool × Unit) :=
  (bif (decide ((List.length a0.1 : Int) > 130)) then
  (some (false, ()))
  else
  (Option.bind (impl_in.f k a0.2.1 0 100000) fun r1 =>
  (bif (!r1.1) then
  (some (false, ()))
  else
  (Option.bind (impl_in.f k a0.2.2.1 (-1) 100000) fun r2 =>
  (bif (!r2.1) then
  (some (false, ()))
  else
  (L0 0 a0.1 (List.length a0.1 : Int) 0 a0.1 a0.2.1 a0.2.2.1 a0.2.2.2.1))))))
def f (k : Nat) (a0 : Ty.den TDisk) : Option (Bool × Unit) := t k (l0 k k) a0
end impl_DiskOk
namespace impl_FileText
def t (k : Nat) (a0 : Ty.den TDisk) (a1 : ByteArray) : Option (ByteArray × Bool × Unit) :=
  (Option.bind (impl_fileAt.f k a0 a1) fun r1 =>
  (bif (decide (r1.1 < 0)) then
  (some ((⟨#[]⟩ : ByteArray), (false, ())))
  else
  (Option.bind (impl_DiskOk.f k a0) fun r2 =>
  (bif (!r2.1) then
  (some ((⟨#[]⟩ : ByteArray), (false, ())))
  else
  (inb r1.1 (List.length a0.1 : Int)
  (some ((List.getD a0.1 (Int.toNat r1.1) (Ty.dflt TPair)).2.1, (true, ()))))))))
def f (k : Nat) (a0 : Ty.den TDisk) (a1 : ByteArray) : Option (ByteArray × Bool × Unit) := t k a0 a1
end impl_FileText
namespace impl_ReadVar
abbrev T0 : Type := ByteArray → Int → Int → Option (Int × Int × Unit)
def b0 (k : Nat) (L0 : T0) (x0_0 : ByteArray) (x0_1 : Int) (x0_2 : Int) : Option (Int × Int × Unit) :=
  (bif (decide (x0_2 < 7)) then
  (bif (decide (x0_2 < (ByteArray.size x0_0 : Int))) then
  (inb x0_2 (ByteArray.size x0_0 : Int)
  (bif (decide ((w64 (7 * x0_2)) < 0)) then none else
  (bif (decide ((w64 (byteAt x0_0 x0_2)) ≥ 128)) then
  (L0 x0_0 (w64 (x0_1 + (w64 ((Int.tmod (w64 (byteAt x0_0 x0_2)) 128) * 2 ^ (min (Int.toNat (w64 (7 * x0_2))) (IntKind.bits .i64)))))) (w64 (x0_2 + 1)))
  else
  (bif ((w64 (byteAt x0_0 x0_2)) == 0) then
  (bif (decide (x0_2 > 0)) then
  (some (0, (0, ())))
  else
  (some ((w64 (x0_1 + (w64 ((Int.tmod (w64 (byteAt x0_0 x0_2)) 128) * 2 ^ (min (Int.toNat (w64 (7 * x0_2))) (IntKind.bits .i64)))))), ((w64 (x0_2 + 1)), ()))))
  else
  (some ((w64 (x0_1 + (w64 ((Int.tmod (w64 (byteAt x0_0 x0_2)) 128) * 2 ^ (min (Int.toNat (w64 (7 * x0_2))) (IntKind.bits .i64)))))), ((w64 (x0_2 + 1)), ())))))))
  else
  (some (0, (0, ()))))
  else
  (some (0, (0, ()))))
def l0 (k : Nat) : Nat → T0
  | 0 => fun _ _ _ => none
  | n + 1 => b0 k (l0 k n)
def t (k : Nat) (L0 : T0) (a0 : ByteArray) : Option (Int × Int × Unit) :=
  (L0 a0 0 0)
def f (k : Nat) (a0 : ByteArray) : Option (Int × Int × Unit) := t k (l0 k k) a0
end impl_ReadVar
namespace impl_Var
abbrev T0 : Type := Int → List Int → Option (ByteArray × Unit)
def b0 (k : Nat) (L0 : T0) (x0_0 : Int) (x0_1 : List Int) : Option (ByteArray × Unit) :=
  (bif (decide (x0_0 > 127)) then
  (rm (Ty.bytes (.int .u8)) (List.length x0_1 + 1)
  (L0 (w64 (Int.tdiv x0_0 128)) (x0_1 ++ [(IntKind.wrap .u8 (w64 ((Int.tmod x0_0 128) + 128)))])))
  else
  (rm (Ty.bytes (.int .u8)) (List.length x0_1 + 1)
  (some ((bytesOf (x0_1 ++ [(IntKind.wrap .u8 x0_0)])), ()))))
def l0 (k : Nat) : Nat → T0
  | 0 => fun _ _ => none
  | n + 1 => b0 k (l0 k n)
def t (k : Nat) (L0 : T0) (a0 : Int) : Option (ByteArray × Unit) :=
  (Option.bind (impl_in.f k a0 0 562949953421311) fun r1 =>
  (bif (!r1.1) then
  (some ((⟨#[]⟩ : ByteArray), ()))
  else
  (L0 a0 [])))
def f (k : Nat) (a0 : Int) : Option (ByteArray × Unit) := t k (l0 k k) a0
end impl_Var
namespace impl_textOf
def t (k : Nat) (a0 : ByteArray) : Option (ByteArray × Unit) :=
  (Option.bind (impl_Var.f k (ByteArray.size a0 : Int)) fun r1 =>
  (cat r1.1 a0
  (some ((r1.1 ++ a0), ()))))
def f (k : Nat) (a0 : ByteArray) : Option (ByteArray × Unit) := t k a0
end impl_textOf
namespace impl_Crc
abbrev T1 : Type := ByteArray → Int → Int → Int → Option (Int × Unit)
abbrev T0 : Type := ByteArray → Int → Int → Option (Int × Unit)
def b1 (k : Nat) (L0 : T0) (L1 : T1) (x1_0 : ByteArray) (x1_1 : Int) (x1_2 : Int) (x1_3 : Int) : Option (Int × Unit) :=
  (bif (decide (x1_3 < 8)) then
  (bif ((IntKind.wrap .u32 (((BitVec.ofInt (IntKind.bits .u32) x1_1 &&& BitVec.ofInt (IntKind.bits .u32) 1).toNat : Int))) == 1) then
  (L1 x1_0 (IntKind.wrap .u32 (((BitVec.ofInt (IntKind.bits .u32) (Int.fdiv x1_1 (2 ^ (Int.toNat 1))) ^^^ BitVec.ofInt (IntKind.bits .u32) 2197175160).toNat : Int))) x1_2 (w64 (x1_3 + 1)))
  else
  (L1 x1_0 (Int.fdiv x1_1 (2 ^ (Int.toNat 1))) x1_2 (w64 (x1_3 + 1))))
  else
  (L0 x1_0 x1_1 (w64 (x1_2 + 1))))
def l1 (k : Nat) (L0 : T0) : Nat → T1
  | 0 => fun _ _ _ _ => none
  | n + 1 => b1 k L0 (l1 k L0 n)
def b0 (k : Nat) (L1 : T1) (L0 : T0) (x0_0 : ByteArray) (x0_1 : Int) (x0_2 : Int) : Option (Int × Unit) :=
  (bif (decide (x0_2 < (ByteArray.size x0_0 : Int))) then
  (inb x0_2 (ByteArray.size x0_0 : Int)
  (L1 x0_0 (IntKind.wrap .u32 (((BitVec.ofInt (IntKind.bits .u32) x0_1 ^^^ BitVec.ofInt (IntKind.bits .u32) (IntKind.wrap .u32 (byteAt x0_0 x0_2))).toNat : Int))) x0_2 0))
  else
  (some ((w64 (bitNot .u32 x0_1)), ())))
def l0 (k : Nat) : Nat → T0
  | 0 => fun _ _ _ => none
  | n + 1 => b0 k (l1 k (l0 k n) k) (l0 k n)
def t (k : Nat) (L0 : T0) (a0 : ByteArray) : Option (Int × Unit) :=
  (L0 a0 4294967295 0)
def f (k : Nat) (a0 : ByteArray) : Option (Int × Unit) := t k (l0 k k) a0
end impl_Crc
namespace impl_Fixed
abbrev T0 : Type := Int → Int → List Int → Option (ByteArray × Unit)
def b0 (k : Nat) (L0 : T0) (x0_0 : Int) (x0_1 : Int) (x0_2 : List Int) : Option (ByteArray × Unit) :=
  (bif (decide (x0_1 ≥ 0)) then
  (bif (decide ((w64 (8 * x0_1)) < 0)) then none else
  (rm (Ty.bytes (.int .u8)) (List.length x0_2 + 1)
  (L0 x0_0 (w64 (x0_1 - 1)) (x0_2 ++ [(IntKind.wrap .u8 (Int.fdiv x0_0 (2 ^ (min (Int.toNat (w64 (8 * x0_1))) (IntKind.bits .i64)))))]))))
  else
  (some ((bytesOf x0_2), ())))
def l0 (k : Nat) : Nat → T0
  | 0 => fun _ _ _ => none
  | n + 1 => b0 k (l0 k n)
def t (k : Nat) (L0 : T0) (a0 : Int) (a1 : Int) : Option (ByteArray × Unit) :=
  (Option.bind (impl_in.f k a1 1 7) fun r1 =>
  (bif (!r1.1) then
  (some ((⟨#[]⟩ : ByteArray), ()))
  else
  (bif (decide ((w64 (8 * a1)) < 0)) then none else
  (Option.bind (impl_in.f k a0 0 (w64 ((w64 (1 * 2 ^ (min (Int.toNat (w64 (8 * a1))) (IntKind.bits .i64)))) - 1))) fun r2 =>
  (bif (!r2.1) then
  (some ((⟨#[]⟩ : ByteArray), ()))
  else
  (L0 a0 (w64 (a1 - 1)) []))))))
def f (k : Nat) (a0 : Int) (a1 : Int) : Option (ByteArray × Unit) := t k (l0 k k) a0 a1
end impl_Fixed
namespace impl_Frame
def t (k : Nat) (a0 : ByteArray) : Option (ByteArray × Unit) :=
  (bif (decide ((ByteArray.size a0 : Int) > 200)) then
  (some ((⟨#[]⟩ : ByteArray), ()))
  else
  (Option.bind (impl_textOf.f k a0) fun r1 =>
  (Option.bind (impl_Crc.f k r1.1) fun r2 =>
  (Option.bind (impl_Fixed.f k r2.1 4) fun r3 =>
  (cat r3.1 r1.1
  (some ((r3.1 ++ r1.1), ())))))))
def f (k : Nat) (a0 : ByteArray) : Option (ByteArray × Unit) := t k a0
end impl_Frame
namespace impl_Unframe
def t (k : Nat) (a0 : ByteArray) : Option (ByteArray × Int × Unit) :=
  (bif (decide ((ByteArray.size a0 : Int) < 4)) then
  (some ((⟨#[]⟩ : ByteArray), (0, ())))
  else
  (inc 4 (ByteArray.size a0 : Int)
  (Option.bind (impl_ReadVar.f k (ByteArray.extract a0 4 (ByteArray.size a0))) fun r1 =>
  (bif (r1.2.1 == 0) then
  (some ((⟨#[]⟩ : ByteArray), (0, ())))
  else
  (bif (decide (r1.1 > 200)) then
  (some ((⟨#[]⟩ : ByteArray), (0, ())))
  else
  (bif (decide (r1.1 > (w64 ((w64 ((ByteArray.size a0 : Int) - 4)) - r1.2.1)))) then
  (some ((⟨#[]⟩ : ByteArray), (0, ())))
  else
  (inc2 (w64 (4 + r1.2.1)) (w64 ((w64 (4 + r1.2.1)) + r1.1)) (ByteArray.size a0 : Int)
  (Option.bind (impl_Frame.f k (ByteArray.extract a0 (Int.toNat (w64 (4 + r1.2.1))) (Int.toNat (w64 ((w64 (4 + r1.2.1)) + r1.1))))) fun r2 =>
  (inc (w64 ((w64 (4 + r1.2.1)) + r1.1)) (ByteArray.size a0 : Int)
  (bif (!(seq r2.1 (ByteArray.extract a0 0 (Int.toNat (w64 ((w64 (4 + r1.2.1)) + r1.1)))))) then
  (some ((⟨#[]⟩ : ByteArray), (0, ())))
  else
  (some ((ByteArray.extract a0 (Int.toNat (w64 (4 + r1.2.1))) (Int.toNat (w64 ((w64 (4 + r1.2.1)) + r1.1)))), ((w64 ((w64 (4 + r1.2.1)) + r1.1)), ())))))))))))))
def f (k : Nat) (a0 : ByteArray) : Option (ByteArray × Int × Unit) := t k a0
end impl_Unframe
namespace impl_scanner__num
def t (k : Nat) (a0 : Ty.den Tscanner) : Option ((Ty.den Tscanner) × Int × Unit) :=
  (Option.bind (impl_ReadVar.f k a0.1) fun r1 =>
  (bif a0.2.1 then
  (some ((a0.1, (true, ())), (0, ())))
  else
  (bif (r1.2.1 == 0) then
  (some ((a0.1, (true, ())), (0, ())))
  else
  (inc r1.2.1 (ByteArray.size a0.1 : Int)
  (some (((ByteArray.extract a0.1 (Int.toNat r1.2.1) (ByteArray.size a0.1)), a0.2), (r1.1, ())))))))
def f (k : Nat) (a0 : Ty.den Tscanner) : Option ((Ty.den Tscanner) × Int × Unit) := t k a0
end impl_scanner__num
namespace impl_LiveOk
abbrev T0 : Type := List Int → Int → Int → Int → List Int → Option (Bool × Unit)
def b0 (k : Nat) (L0 : T0) (x0_0 : List Int) (x0_1 : Int) (x0_2 : Int) (x0_3 : Int) (x0_4 : List Int) : Option (Bool × Unit) :=
  (bif (decide (x0_2 < x0_1)) then
  (inb x0_2 (List.length x0_0 : Int)
  (Option.bind (impl_in.f k (List.getD x0_0 (Int.toNat x0_2) (Ty.dflt (.int .i64))) 1 (w64 (x0_3 - 1))) fun r1 =>
  (bif (!r1.1) then
  (some (false, ()))
  else
  (bif (decide (x0_2 > 0)) then
  (inb (w64 (x0_2 - 1)) (List.length x0_4 : Int)
  (bif (decide ((List.getD x0_4 (Int.toNat (w64 (x0_2 - 1))) (Ty.dflt (.int .i64))) ≥ (List.getD x0_0 (Int.toNat x0_2) (Ty.dflt (.int .i64))))) then
  (some (false, ()))
  else
  (L0 x0_0 x0_1 (w64 (x0_2 + 1)) x0_3 x0_4)))
  else
  (L0 x0_0 x0_1 (w64 (x0_2 + 1)) x0_3 x0_4)))))
  else
  (Option.bind (impl_in.f k x0_3 1 100000) fun r2 =>
  (bif r2.1 then
  (Option.bind (impl_in.f k (List.length x0_4 : Int) 1 60) fun r3 =>
  (some r3))
  else
  (some (false, ())))))
def l0 (k : Nat) : Nat → T0
  | 0 => fun _ _ _ _ _ => none
  | n + 1 => b0 k (l0 k n)
def t (k : Nat) (L0 : T0) (a0 : Ty.den TLive) : Option (Bool × Unit) :=
  (L0 a0.2.1 (List.length a0.2.1 : Int) 0 a0.1 a0.2.1)
def f (k : Nat) (a0 : Ty.den TLive) : Option (Bool × Unit) := t k (l0 k k) a0
end impl_LiveOk
namespace impl_ReadLive
abbrev T0 : Type := ByteArray → Int → Int → Int → List Int → Int → ByteArray → Bool → List Int → Int → Option ((Ty.den TLive) × Bool × Unit)
def b0 (k : Nat) (L0 : T0) (x0_0 : ByteArray) (x0_1 : Int) (x0_2 : Int) (x0_3 : Int) (x0_4 : List Int) (x0_5 : Int) (x0_6 : ByteArray) (x0_7 : Bool) (x0_8 : List Int) (x0_9 : Int) : Option ((Ty.den TLive) × Bool × Unit) :=
  (bif (decide (x0_3 < x0_2)) then
  (bif (!x0_7) then
  (Option.bind (impl_scanner__num.f k (x0_6, (x0_7, ()))) fun r4 =>
  (rm (Ty.bytes (.int .i64)) (List.length x0_8 + 1)
  (L0 x0_0 x0_1 x0_2 (w64 (x0_3 + 1)) x0_4 x0_5 r4.1.1 r4.1.2.1 (x0_8 ++ [r4.2.1]) x0_9)))
  else
  (bif (x0_1 == 0) then
  (some ((0, ([], ())), (false, ())))
  else
  (bif (x0_1 != (ByteArray.size x0_0 : Int)) then
  (some ((0, ([], ())), (false, ())))
  else
  (bif x0_7 then
  (some ((0, ([], ())), (false, ())))
  else
  (bif (!(seq x0_6 (⟨#[]⟩ : ByteArray))) then
  (some ((0, ([], ())), (false, ())))
  else
  (Option.bind (impl_LiveOk.f k (x0_9, (x0_8, ()))) fun r5 =>
  (bif (!r5.1) then
  (some ((0, ([], ())), (false, ())))
  else
  (some ((x0_9, (x0_8, ())), (true, ()))))))))))
  else
  (bif (x0_1 == 0) then
  (some ((0, ([], ())), (false, ())))
  else
  (bif (x0_1 != (ByteArray.size x0_0 : Int)) then
  (some ((0, ([], ())), (false, ())))
  else
  (bif x0_7 then
  (some ((0, ([], ())), (false, ())))
  else
  (bif (!(seq x0_6 (⟨#[]⟩ : ByteArray))) then
  (some ((0, ([], ())), (false, ())))
  else
  (Option.bind (impl_LiveOk.f k (x0_9, (x0_8, ()))) fun r6 =>
  (bif (!r6.1) then
  (some ((0, ([], ())), (false, ())))
  else
  (some ((x0_9, (x0_8, ())), (true, ()))))))))))
def l0 (k : Nat) : Nat → T0
  | 0 => fun _ _ _ _ _ _ _ _ _ _ => none
  | n + 1 => b0 k (l0 k n)
def t (k : Nat) (L0 : T0) (a0 : ByteArray) : Option ((Ty.den TLive) × Bool × Unit) :=
  (Option.bind (impl_Unframe.f k a0) fun r1 =>
  (Option.bind (impl_scanner__num.f k (r1.1, (false, ()))) fun r2 =>
  (Option.bind (impl_scanner__num.f k r2.1) fun r3 =>
  (L0 a0 r1.2.1 r3.2.1 0 [] 0 r3.1.1 r3.1.2.1 [] r2.2.1))))
def f (k : Nat) (a0 : ByteArray) : Option ((Ty.den TLive) × Bool × Unit) := t k (l0 k k) a0
end impl_ReadLive
namespace impl_IdOf
def t (k : Nat) (a0 : ByteArray) : Option (Int × Bool × Unit) :=
  (Option.bind (lib_CutPrefix.f k a0 (⟨#[115, 101, 103]⟩ : ByteArray)) fun r1 =>
  (bif (!r1.2.1) then
  (Option.bind (lib_CutPrefix.f k a0 (⟨#[104, 105, 110, 116]⟩ : ByteArray)) fun r2 =>
  (Option.bind (impl_ReadDec.f k r2.1) fun r3 =>
  (bif (!r2.2.1) then
  (some (0, (false, ())))
  else
  (bif (!r3.2.1) then
  (some (0, (false, ())))
  else
  (Option.bind (impl_in.f k r3.1 1 100000) fun r4 =>
  (bif (!r4.1) then
  (some (0, (false, ())))
  else
  (some (r3.1, (true, ())))))))))
  else
  (Option.bind (impl_ReadDec.f k r1.1) fun r5 =>
  (bif (!r1.2.1) then
  (some (0, (false, ())))
  else
  (bif (!r5.2.1) then
  (some (0, (false, ())))
  else
  (Option.bind (impl_in.f k r5.1 1 100000) fun r6 =>
  (bif (!r6.1) then
  (some (0, (false, ())))
  else
  (some (r5.1, (true, ()))))))))))
def f (k : Nat) (a0 : ByteArray) : Option (Int × Bool × Unit) := t k a0
end impl_IdOf
namespace impl_hasInt
abbrev T0 : Type := Int → List Int → Int → Int → Option (Bool × Unit)
def b0 (k : Nat) (L0 : T0) (x0_0 : Int) (x0_1 : List Int) (x0_2 : Int) (x0_3 : Int) : Option (Bool × Unit) :=
  (bif (decide (x0_3 < x0_2)) then
  (inb x0_3 (List.length x0_1 : Int)
  (bif ((List.getD x0_1 (Int.toNat x0_3) (Ty.dflt (.int .i64))) == x0_0) then
  (some (true, ()))
  else
  (L0 x0_0 x0_1 x0_2 (w64 (x0_3 + 1)))))
  else
  (some (false, ())))
def l0 (k : Nat) : Nat → T0
  | 0 => fun _ _ _ _ => none
  | n + 1 => b0 k (l0 k n)
def t (k : Nat) (L0 : T0) (a0 : List Int) (a1 : Int) : Option (Bool × Unit) :=
  (L0 a1 a0 (List.length a0 : Int) 0)
def f (k : Nat) (a0 : List Int) (a1 : Int) : Option (Bool × Unit) := t k (l0 k k) a0 a1
end impl_hasInt
namespace impl_Orphans
abbrev T0 : Type := List (Ty.den TPair) → Int → Int → Int → List Int → List ByteArray → Option ((List ByteArray) × Unit)
def b0 (k : Nat) (L0 : T0) (x0_0 : List (Ty.den TPair)) (x0_1 : Int) (x0_2 : Int) (x0_3 : Int) (x0_4 : List Int) (x0_5 : List ByteArray) : Option ((List ByteArray) × Unit) :=
  (bif (decide (x0_2 < x0_1)) then
  (inb x0_2 (List.length x0_0 : Int)
  (Option.bind (impl_IdOf.f k (List.getD x0_0 (Int.toNat x0_2) (Ty.dflt TPair)).1) fun r2 =>
  (bif (seq (List.getD x0_0 (Int.toNat x0_2) (Ty.dflt TPair)).1 (⟨#[116, 101, 109, 112]⟩ : ByteArray)) then
  (rm (Ty.bytes .str) (List.length x0_5 + 1)
  (L0 x0_0 x0_1 (w64 (x0_2 + 1)) x0_3 x0_4 (x0_5 ++ [(List.getD x0_0 (Int.toNat x0_2) (Ty.dflt TPair)).1])))
  else
  (bif r2.2.1 then
  (Option.bind (impl_hasInt.f k x0_4 r2.1) fun r3 =>
  (bif (!r3.1) then
  (rm (Ty.bytes .str) (List.length x0_5 + 1)
  (L0 x0_0 x0_1 (w64 (x0_2 + 1)) x0_3 x0_4 (x0_5 ++ [(List.getD x0_0 (Int.toNat x0_2) (Ty.dflt TPair)).1])))
  else
  (L0 x0_0 x0_1 (w64 (x0_2 + 1)) x0_3 x0_4 x0_5)))
  else
  (L0 x0_0 x0_1 (w64 (x0_2 + 1)) x0_3 x0_4 x0_5)))))
  else
  (some (x0_5, ())))
def l0 (k : Nat) : Nat → T0
  | 0 => fun _ _ _ _ _ _ => none
  | n + 1 => b0 k (l0 k n)
def t (k : Nat) (L0 : T0) (a0 : Ty.den TDisk) (a1 : Ty.den TLive) : Option ((List ByteArray) × Unit) :=
  (Option.bind (impl_DiskOk.f k a0) fun r1 =>
  (bif (!r1.1) then
  (some ([], ()))
  else
  (L0 a0.1 (List.length a0.1 : Int) 0 a1.1 a1.2.1 [])))
def f (k : Nat) (a0 : Ty.den TDisk) (a1 : Ty.den TLive) : Option ((List ByteArray) × Unit) := t k (l0 k k) a0 a1
end impl_Orphans
namespace impl_Dec
def t (k : Nat) (a0 : Int) : Option (ByteArray × Unit) :=
  (Option.bind (lib_Itoa.f k a0) fun r1 =>
  (some r1))
def f (k : Nat) (a0 : Int) : Option (ByteArray × Unit) := t k a0
end impl_Dec
namespace impl_named
def t (k : Nat) (a0 : ByteArray) (a1 : Int) : Option (ByteArray × Unit) :=
  (Option.bind (impl_in.f k a1 1 100000) fun r1 =>
  (bif (!r1.1) then
  (some ((⟨#[]⟩ : ByteArray), ()))
  else
  (Option.bind (impl_Dec.f k a1) fun r2 =>
  (cat a0 r2.1
  (some ((a0 ++ r2.1), ()))))))
def f (k : Nat) (a0 : ByteArray) (a1 : Int) : Option (ByteArray × Unit) := t k a0 a1
end impl_named
namespace impl_SegName
def t (k : Nat) (a0 : Int) : Option (ByteArray × Unit) :=
  (Option.bind (impl_named.f k (⟨#[115, 101, 103]⟩ : ByteArray) a0) fun r1 =>
  (some r1))
def f (k : Nat) (a0 : Int) : Option (ByteArray × Unit) := t k a0
end impl_SegName
namespace impl_scanner__bytes
def t (k : Nat) (a0 : Ty.den Tscanner) (a1 : Int) : Option ((Ty.den Tscanner) × ByteArray × Unit) :=
  (bif a0.2.1 then
  (some ((a0.1, (true, ())), ((⟨#[]⟩ : ByteArray), ())))
  else
  (bif (decide (a1 > (ByteArray.size a0.1 : Int))) then
  (some ((a0.1, (true, ())), ((⟨#[]⟩ : ByteArray), ())))
  else
  (inc a1 (ByteArray.size a0.1 : Int)
  (inc a1 (ByteArray.size a0.1 : Int)
  (some (((ByteArray.extract a0.1 (Int.toNat a1) (ByteArray.size a0.1)), a0.2), ((ByteArray.extract a0.1 0 (Int.toNat a1)), ())))))))
def f (k : Nat) (a0 : Ty.den Tscanner) (a1 : Int) : Option ((Ty.den Tscanner) × ByteArray × Unit) := t k a0 a1
end impl_scanner__bytes
namespace impl_scanner__text
def t (k : Nat) (a0 : Ty.den Tscanner) : Option ((Ty.den Tscanner) × ByteArray × Unit) :=
  (Option.bind (impl_scanner__num.f k a0) fun r1 =>
  (Option.bind (impl_scanner__bytes.f k r1.1 r1.2.1) fun r2 =>
  (some r2)))
def f (k : Nat) (a0 : Ty.den Tscanner) : Option ((Ty.den Tscanner) × ByteArray × Unit) := t k a0
end impl_scanner__text
namespace impl_KeyOk
def t (k : Nat) (a0 : ByteArray) : Option (Bool × Unit) :=
  (Option.bind (impl_in.f k (ByteArray.size a0 : Int) 1 8) fun r1 =>
  (some r1))
def f (k : Nat) (a0 : ByteArray) : Option (Bool × Unit) := t k a0
end impl_KeyOk
namespace impl_RecOk
def t (k : Nat) (a0 : Ty.den TRec) : Option (Bool × Unit) :=
  (bif (a0.1 == 1) then
  (bif (a0.1 == 1) then
  (Option.bind (impl_KeyOk.f k a0.2.2.1) fun r1 =>
  (bif r1.1 then
  (bif (decide ((ByteArray.size a0.2.2.2.1 : Int) ≤ 24)) then
  (Option.bind (impl_in.f k a0.2.1 1 1000000) fun r2 =>
  (bif r2.1 then
  (some (((a0.1 == a0.1) && ((a0.2.1 == a0.2.1) && ((seq a0.2.2.1 a0.2.2.1) && ((seq a0.2.2.2.1 a0.2.2.2.1) && ((a0.2.2.2.2.1 == 0) && (a0.2.2.2.2.2.1 == 0)))))), ()))
  else
  (some (false, ()))))
  else
  (some (false, ())))
  else
  (some (false, ()))))
  else
  (bif (a0.1 == 2) then
  (Option.bind (impl_KeyOk.f k a0.2.2.1) fun r3 =>
  (bif r3.1 then
  (Option.bind (impl_in.f k a0.2.1 1 1000000) fun r4 =>
  (bif r4.1 then
  (some (((a0.1 == a0.1) && ((a0.2.1 == a0.2.1) && ((seq a0.2.2.1 a0.2.2.1) && ((seq a0.2.2.2.1 ByteArray.empty) && ((a0.2.2.2.2.1 == 0) && (a0.2.2.2.2.2.1 == 0)))))), ()))
  else
  (some (false, ()))))
  else
  (some (false, ()))))
  else
  (bif (a0.1 == 3) then
  (Option.bind (impl_in.f k a0.2.2.2.2.1 0 8) fun r5 =>
  (bif r5.1 then
  (Option.bind (impl_in.f k a0.2.2.2.2.2.1 0 4294967295) fun r6 =>
  (bif r6.1 then
  (Option.bind (impl_in.f k a0.2.1 1 1000000) fun r7 =>
  (bif r7.1 then
  (some (((a0.1 == a0.1) && ((a0.2.1 == a0.2.1) && ((seq a0.2.2.1 ByteArray.empty) && ((seq a0.2.2.2.1 ByteArray.empty) && ((a0.2.2.2.2.1 == a0.2.2.2.2.1) && (a0.2.2.2.2.2.1 == a0.2.2.2.2.2.1)))))), ()))
  else
  (some (false, ()))))
  else
  (some (false, ()))))
  else
  (some (false, ()))))
  else
  (bif (a0.1 == 5) then
  (Option.bind (impl_in.f k a0.2.2.2.2.1 0 20) fun r8 =>
  (bif r8.1 then
  (Option.bind (impl_in.f k a0.2.2.2.2.2.1 0 4294967295) fun r9 =>
  (bif r9.1 then
  (Option.bind (impl_in.f k a0.2.1 0 1000000) fun r10 =>
  (bif r10.1 then
  (some (((a0.1 == a0.1) && ((a0.2.1 == a0.2.1) && ((seq a0.2.2.1 ByteArray.empty) && ((seq a0.2.2.2.1 ByteArray.empty) && ((a0.2.2.2.2.1 == a0.2.2.2.2.1) && (a0.2.2.2.2.2.1 == a0.2.2.2.2.2.1)))))), ()))
  else
  (some (false, ()))))
  else
  (some (false, ()))))
  else
  (some (false, ()))))
  else
  (some (false, ()))))))
  else
  (bif (a0.1 == 4) then
  (Option.bind (impl_KeyOk.f k a0.2.2.1) fun r11 =>
  (bif r11.1 then
  (bif (decide ((ByteArray.size a0.2.2.2.1 : Int) ≤ 24)) then
  (Option.bind (impl_in.f k a0.2.1 1 1000000) fun r12 =>
  (bif r12.1 then
  (some (((a0.1 == a0.1) && ((a0.2.1 == a0.2.1) && ((seq a0.2.2.1 a0.2.2.1) && ((seq a0.2.2.2.1 a0.2.2.2.1) && ((a0.2.2.2.2.1 == 0) && (a0.2.2.2.2.2.1 == 0)))))), ()))
  else
  (some (false, ()))))
  else
  (some (false, ())))
  else
  (some (false, ()))))
  else
  (bif (a0.1 == 2) then
  (Option.bind (impl_KeyOk.f k a0.2.2.1) fun r13 =>
  (bif r13.1 then
  (Option.bind (impl_in.f k a0.2.1 1 1000000) fun r14 =>
  (bif r14.1 then
  (some (((a0.1 == a0.1) && ((a0.2.1 == a0.2.1) && ((seq a0.2.2.1 a0.2.2.1) && ((seq a0.2.2.2.1 ByteArray.empty) && ((a0.2.2.2.2.1 == 0) && (a0.2.2.2.2.2.1 == 0)))))), ()))
  else
  (some (false, ()))))
  else
  (some (false, ()))))
  else
  (bif (a0.1 == 3) then
  (Option.bind (impl_in.f k a0.2.2.2.2.1 0 8) fun r15 =>
  (bif r15.1 then
  (Option.bind (impl_in.f k a0.2.2.2.2.2.1 0 4294967295) fun r16 =>
  (bif r16.1 then
  (Option.bind (impl_in.f k a0.2.1 1 1000000) fun r17 =>
  (bif r17.1 then
  (some (((a0.1 == a0.1) && ((a0.2.1 == a0.2.1) && ((seq a0.2.2.1 ByteArray.empty) && ((seq a0.2.2.2.1 ByteArray.empty) && ((a0.2.2.2.2.1 == a0.2.2.2.2.1) && (a0.2.2.2.2.2.1 == a0.2.2.2.2.2.1)))))), ()))
  else
  (some (false, ()))))
  else
  (some (false, ()))))
  else
  (some (false, ()))))
  else
  (bif (a0.1 == 5) then
  (Option.bind (impl_in.f k a0.2.2.2.2.1 0 20) fun r18 =>
  (bif r18.1 then
  (Option.bind (impl_in.f k a0.2.2.2.2.2.1 0 4294967295) fun r19 =>
  (bif r19.1 then
  (Option.bind (impl_in.f k a0.2.1 0 1000000) fun r20 =>
  (bif r20.1 then
  (some (((a0.1 == a0.1) && ((a0.2.1 == a0.2.1) && ((seq a0.2.2.1 ByteArray.empty) && ((seq a0.2.2.2.1 ByteArray.empty) && ((a0.2.2.2.2.1 == a0.2.2.2.2.1) && (a0.2.2.2.2.2.1 == a0.2.2.2.2.2.1)))))), ()))
  else
  (some (false, ()))))
  else
  (some (false, ()))))
  else
  (some (false, ()))))
  else
  (some (false, ())))))))
def f (k : Nat) (a0 : Ty.den TRec) : Option (Bool × Unit) := t k a0
end impl_RecOk
namespace impl_ReadFixed
abbrev T0 : Type := ByteArray → Int → Int → Int → Option (Int × Bool × Unit)
def b0 (k : Nat) (L0 : T0) (x0_0 : ByteArray) (x0_1 : Int) (x0_2 : Int) (x0_3 : Int) : Option (Int × Bool × Unit) :=
  (bif (decide (x0_3 < x0_2)) then
  (inb x0_3 (ByteArray.size x0_0 : Int)
  (L0 x0_0 (w64 (((BitVec.ofInt (IntKind.bits .i64) (w64 (x0_1 * 2 ^ (min (Int.toNat 8) (IntKind.bits .i64)))) ||| BitVec.ofInt (IntKind.bits .i64) (w64 (byteAt x0_0 x0_3))).toNat : Int))) x0_2 (w64 (x0_3 + 1))))
  else
  (some (x0_1, (true, ()))))
def l0 (k : Nat) : Nat → T0
  | 0 => fun _ _ _ _ => none
  | n + 1 => b0 k (l0 k n)
def t (k : Nat) (L0 : T0) (a0 : ByteArray) (a1 : Int) : Option (Int × Bool × Unit) :=
  (Option.bind (impl_in.f k a1 1 7) fun r1 =>
  (bif (!r1.1) then
  (some (0, (false, ())))
  else
  (bif (decide ((ByteArray.size a0 : Int) < a1)) then
  (some (0, (false, ())))
  else
  (L0 a0 0 a1 0))))
def f (k : Nat) (a0 : ByteArray) (a1 : Int) : Option (Int × Bool × Unit) := t k (l0 k k) a0 a1
end impl_ReadFixed
namespace impl_ReadRec
def t (k : Nat) (a0 : ByteArray) : Option ((Ty.den TRec) × Bool × Unit) :=
  (Option.bind (impl_scanner__num.f k (a0, (false, ()))) fun r1 =>
  (Option.bind (impl_scanner__num.f k r1.1) fun r2 =>
  (bif (r1.2.1 == 1) then
  (bif (r1.2.1 == 1) then
  (Option.bind (impl_scanner__text.f k r2.1) fun r3 =>
  (Option.bind (impl_scanner__text.f k r3.1) fun r4 =>
  (bif r4.1.2.1 then
  (some ((0, (0, (ByteArray.empty, (ByteArray.empty, (0, (0, ())))))), (false, ())))
  else
  (bif (!(seq r4.1.1 (⟨#[]⟩ : ByteArray))) then
  (some ((0, (0, (ByteArray.empty, (ByteArray.empty, (0, (0, ())))))), (false, ())))
  else
  (Option.bind (impl_RecOk.f k (r1.2.1, (r2.2.1, (r3.2.1, (r4.2.1, (0, (0, ()))))))) fun r5 =>
  (bif (!r5.1) then
  (some ((0, (0, (ByteArray.empty, (ByteArray.empty, (0, (0, ())))))), (false, ())))
  else
  (some ((r1.2.1, (r2.2.1, (r3.2.1, (r4.2.1, (0, (0, ())))))), (true, ())))))))))
  else
  (bif (r1.2.1 == 2) then
  (Option.bind (impl_scanner__text.f k r2.1) fun r6 =>
  (bif r6.1.2.1 then
  (some ((0, (0, (ByteArray.empty, (ByteArray.empty, (0, (0, ())))))), (false, ())))
  else
  (bif (!(seq r6.1.1 (⟨#[]⟩ : ByteArray))) then
  (some ((0, (0, (ByteArray.empty, (ByteArray.empty, (0, (0, ())))))), (false, ())))
  else
  (Option.bind (impl_RecOk.f k (r1.2.1, (r2.2.1, (r6.2.1, (ByteArray.empty, (0, (0, ()))))))) fun r7 =>
  (bif (!r7.1) then
  (some ((0, (0, (ByteArray.empty, (ByteArray.empty, (0, (0, ())))))), (false, ())))
  else
  (some ((r1.2.1, (r2.2.1, (r6.2.1, (ByteArray.empty, (0, (0, ())))))), (true, ()))))))))
  else
  (Option.bind (impl_scanner__num.f k r2.1) fun r8 =>
  (Option.bind (impl_scanner__bytes.f k r8.1 4) fun r9 =>
  (Option.bind (impl_ReadFixed.f k r9.2.1 4) fun r10 =>
  (bif r9.1.2.1 then
  (some ((0, (0, (ByteArray.empty, (ByteArray.empty, (0, (0, ())))))), (false, ())))
  else
  (bif (!(seq r9.1.1 (⟨#[]⟩ : ByteArray))) then
  (some ((0, (0, (ByteArray.empty, (ByteArray.empty, (0, (0, ())))))), (false, ())))
  else
  (Option.bind (impl_RecOk.f k (r1.2.1, (r2.2.1, (ByteArray.empty, (ByteArray.empty, (r8.2.1, (r10.1, ()))))))) fun r11 =>
  (bif (!r11.1) then
  (some ((0, (0, (ByteArray.empty, (ByteArray.empty, (0, (0, ())))))), (false, ())))
  else
  (some ((r1.2.1, (r2.2.1, (ByteArray.empty, (ByteArray.empty, (r8.2.1, (r10.1, ())))))), (true, ()))))))))))))
  else
  (bif (r1.2.1 == 4) then
  (Option.bind (impl_scanner__text.f k r2.1) fun r12 =>
  (Option.bind (impl_scanner__text.f k r12.1) fun r13 =>
  (bif r13.1.2.1 then
  (some ((0, (0, (ByteArray.empty, (ByteArray.empty, (0, (0, ())))))), (false, ())))
  else
  (bif (!(seq r13.1.1 (⟨#[]⟩ : ByteArray))) then
  (some ((0, (0, (ByteArray.empty, (ByteArray.empty, (0, (0, ())))))), (false, ())))
  else
  (Option.bind (impl_RecOk.f k (r1.2.1, (r2.2.1, (r12.2.1, (r13.2.1, (0, (0, ()))))))) fun r14 =>
  (bif (!r14.1) then
  (some ((0, (0, (ByteArray.empty, (ByteArray.empty, (0, (0, ())))))), (false, ())))
  else
  (some ((r1.2.1, (r2.2.1, (r12.2.1, (r13.2.1, (0, (0, ())))))), (true, ())))))))))
  else
  (bif (r1.2.1 == 2) then
  (Option.bind (impl_scanner__text.f k r2.1) fun r15 =>
  (bif r15.1.2.1 then
  (some ((0, (0, (ByteArray.empty, (ByteArray.empty, (0, (0, ())))))), (false, ())))
  else
  (bif (!(seq r15.1.1 (⟨#[]⟩ : ByteArray))) then
  (some ((0, (0, (ByteArray.empty, (ByteArray.empty, (0, (0, ())))))), (false, ())))
  else
  (Option.bind (impl_RecOk.f k (r1.2.1, (r2.2.1, (r15.2.1, (ByteArray.empty, (0, (0, ()))))))) fun r16 =>
  (bif (!r16.1) then
  (some ((0, (0, (ByteArray.empty, (ByteArray.empty, (0, (0, ())))))), (false, ())))
  else
  (some ((r1.2.1, (r2.2.1, (r15.2.1, (ByteArray.empty, (0, (0, ())))))), (true, ()))))))))
  else
  (Option.bind (impl_scanner__num.f k r2.1) fun r17 =>
  (Option.bind (impl_scanner__bytes.f k r17.1 4) fun r18 =>
  (Option.bind (impl_ReadFixed.f k r18.2.1 4) fun r19 =>
  (bif r18.1.2.1 then
  (some ((0, (0, (ByteArray.empty, (ByteArray.empty, (0, (0, ())))))), (false, ())))
  else
  (bif (!(seq r18.1.1 (⟨#[]⟩ : ByteArray))) then
  (some ((0, (0, (ByteArray.empty, (ByteArray.empty, (0, (0, ())))))), (false, ())))
  else
  (Option.bind (impl_RecOk.f k (r1.2.1, (r2.2.1, (ByteArray.empty, (ByteArray.empty, (r17.2.1, (r19.1, ()))))))) fun r20 =>
  (bif (!r20.1) then
  (some ((0, (0, (ByteArray.empty, (ByteArray.empty, (0, (0, ())))))), (false, ())))
  else
  (some ((r1.2.1, (r2.2.1, (ByteArray.empty, (ByteArray.empty, (r17.2.1, (r19.1, ())))))), (true, ())))))))))))))))
def f (k : Nat) (a0 : ByteArray) : Option ((Ty.den TRec) × Bool × Unit) := t k a0
end impl_ReadRec
namespace impl_ScanRecs
abbrev T0 : Type := ByteArray → Int → List (Ty.den TSpot) → Option ((List (Ty.den TSpot)) × Int × Unit)
def b0 (k : Nat) (L0 : T0) (x0_0 : ByteArray) (x0_1 : Int) (x0_2 : List (Ty.den TSpot)) : Option ((List (Ty.den TSpot)) × Int × Unit) :=
  (inc x0_1 (ByteArray.size x0_0 : Int)
  (Option.bind (impl_Unframe.f k (ByteArray.extract x0_0 (Int.toNat x0_1) (ByteArray.size x0_0))) fun r1 =>
  (Option.bind (impl_ReadRec.f k r1.1) fun r2 =>
  (bif (r1.2.1 == 0) then
  (some (x0_2, (x0_1, ())))
  else
  (bif (!r2.2.1) then
  (some (x0_2, (x0_1, ())))
  else
  (rm (Ty.bytes TSpot) (List.length x0_2 + 1)
  (L0 x0_0 (w64 (x0_1 + r1.2.1)) (x0_2 ++ [(x0_1, (r1.2.1, (r2.1, ())))]))))))))
def l0 (k : Nat) : Nat → T0
  | 0 => fun _ _ _ => none
  | n + 1 => b0 k (l0 k n)
def t (k : Nat) (L0 : T0) (a0 : ByteArray) : Option ((List (Ty.den TSpot)) × Int × Unit) :=
  (L0 a0 0 [])
def f (k : Nat) (a0 : ByteArray) : Option ((List (Ty.den TSpot)) × Int × Unit) := t k (l0 k k) a0
end impl_ScanRecs
namespace impl_placed
abbrev T0 : Type := Int → List (Ty.den TSpot) → Int → Int → List (Ty.den TPlace) → Option ((List (Ty.den TPlace)) × Unit)
def b0 (k : Nat) (L0 : T0) (x0_0 : Int) (x0_1 : List (Ty.den TSpot)) (x0_2 : Int) (x0_3 : Int) (x0_4 : List (Ty.den TPlace)) : Option ((List (Ty.den TPlace)) × Unit) :=
  (bif (decide (x0_3 < x0_2)) then
  (inb x0_3 (List.length x0_1 : Int)
  (rm (Ty.bytes TPlace) (List.length x0_4 + 1)
  (L0 x0_0 x0_1 x0_2 (w64 (x0_3 + 1)) (x0_4 ++ [(x0_0, (List.getD x0_1 (Int.toNat x0_3) (Ty.dflt TSpot)))]))))
  else
  (some (x0_4, ())))
def l0 (k : Nat) : Nat → T0
  | 0 => fun _ _ _ _ _ => none
  | n + 1 => b0 k (l0 k n)
def t (k : Nat) (L0 : T0) (a0 : Int) (a1 : List (Ty.den TSpot)) : Option ((List (Ty.den TPlace)) × Unit) :=
  (L0 a0 a1 (List.length a1 : Int) 0 [])
def f (k : Nat) (a0 : Int) (a1 : List (Ty.den TSpot)) : Option ((List (Ty.den TPlace)) × Unit) := t k (l0 k k) a0 a1
end impl_placed
namespace impl_ownOf
abbrev T0 : Type := List (Ty.den TPlace) → Int → Int → Int → Int → ByteArray → ByteArray → Int → Int → List (Ty.den TPlace) → Option ((List (Ty.den TPlace)) × Unit)
def b0 (k : Nat) (L0 : T0) (x0_0 : List (Ty.den TPlace)) (x0_1 : Int) (x0_2 : Int) (x0_3 : Int) (x0_4 : Int) (x0_5 : ByteArray) (x0_6 : ByteArray) (x0_7 : Int) (x0_8 : Int) (x0_9 : List (Ty.den TPlace)) : Option ((List (Ty.den TPlace)) × Unit) :=
  (bif (decide (x0_2 < x0_1)) then
  (inb x0_2 (List.length x0_0 : Int)
  (bif (x0_3 == 3) then
  (bif ((List.getD x0_0 (Int.toNat x0_2) (Ty.dflt TPlace)).2.2.2.1.2.1 != x0_4) then
  (L0 x0_0 x0_1 (w64 (x0_2 + 1)) x0_3 x0_4 x0_5 x0_6 x0_7 x0_8 x0_9)
  else
  (bif ((List.getD x0_0 (Int.toNat x0_2) (Ty.dflt TPlace)).2.2.2.1.1 == x0_3) then
  (L0 x0_0 x0_1 (w64 (x0_2 + 1)) x0_3 x0_4 x0_5 x0_6 x0_7 x0_8 [])
  else
  (bif (x0_3 == 3) then
  (bif ((List.getD x0_0 (Int.toNat x0_2) (Ty.dflt TPlace)).2.2.2.1.1 == 1) then
  (rm (Ty.bytes TPlace) (List.length x0_9 + 1)
  (L0 x0_0 x0_1 (w64 (x0_2 + 1)) x0_3 x0_4 x0_5 x0_6 x0_7 x0_8 (x0_9 ++ [(List.getD x0_0 (Int.toNat x0_2) (Ty.dflt TPlace))])))
  else
  (bif ((List.getD x0_0 (Int.toNat x0_2) (Ty.dflt TPlace)).2.2.2.1.1 == 2) then
  (bif ((List.getD x0_0 (Int.toNat x0_2) (Ty.dflt TPlace)).2.2.2.1.1 == 2) then
  (rm (Ty.bytes TPlace) (List.length x0_9 + 1)
  (L0 x0_0 x0_1 (w64 (x0_2 + 1)) x0_3 x0_4 x0_5 x0_6 x0_7 x0_8 (x0_9 ++ [(List.getD x0_0 (Int.toNat x0_2) (Ty.dflt TPlace))])))
  else
  (L0 x0_0 x0_1 (w64 (x0_2 + 1)) x0_3 x0_4 x0_5 x0_6 x0_7 x0_8 x0_9))
  else
  (bif (x0_3 == 5) then
  (bif ((List.getD x0_0 (Int.toNat x0_2) (Ty.dflt TPlace)).2.2.2.1.1 == 4) then
  (rm (Ty.bytes TPlace) (List.length x0_9 + 1)
  (L0 x0_0 x0_1 (w64 (x0_2 + 1)) x0_3 x0_4 x0_5 x0_6 x0_7 x0_8 (x0_9 ++ [(List.getD x0_0 (Int.toNat x0_2) (Ty.dflt TPlace))])))
  else
  (L0 x0_0 x0_1 (w64 (x0_2 + 1)) x0_3 x0_4 x0_5 x0_6 x0_7 x0_8 x0_9))
  else
  (L0 x0_0 x0_1 (w64 (x0_2 + 1)) x0_3 x0_4 x0_5 x0_6 x0_7 x0_8 x0_9))))
  else
  (bif (x0_3 == 5) then
  (bif ((List.getD x0_0 (Int.toNat x0_2) (Ty.dflt TPlace)).2.2.2.1.1 == 4) then
  (rm (Ty.bytes TPlace) (List.length x0_9 + 1)
  (L0 x0_0 x0_1 (w64 (x0_2 + 1)) x0_3 x0_4 x0_5 x0_6 x0_7 x0_8 (x0_9 ++ [(List.getD x0_0 (Int.toNat x0_2) (Ty.dflt TPlace))])))
  else
  (L0 x0_0 x0_1 (w64 (x0_2 + 1)) x0_3 x0_4 x0_5 x0_6 x0_7 x0_8 x0_9))
  else
  (L0 x0_0 x0_1 (w64 (x0_2 + 1)) x0_3 x0_4 x0_5 x0_6 x0_7 x0_8 x0_9)))))
  else
  (bif ((List.getD x0_0 (Int.toNat x0_2) (Ty.dflt TPlace)).2.2.2.1.1 == x0_3) then
  (L0 x0_0 x0_1 (w64 (x0_2 + 1)) x0_3 x0_4 x0_5 x0_6 x0_7 x0_8 [])
  else
  (bif (x0_3 == 3) then
  (bif ((List.getD x0_0 (Int.toNat x0_2) (Ty.dflt TPlace)).2.2.2.1.1 == 1) then
  (rm (Ty.bytes TPlace) (List.length x0_9 + 1)
  (L0 x0_0 x0_1 (w64 (x0_2 + 1)) x0_3 x0_4 x0_5 x0_6 x0_7 x0_8 (x0_9 ++ [(List.getD x0_0 (Int.toNat x0_2) (Ty.dflt TPlace))])))
  else
  (bif ((List.getD x0_0 (Int.toNat x0_2) (Ty.dflt TPlace)).2.2.2.1.1 == 2) then
  (bif ((List.getD x0_0 (Int.toNat x0_2) (Ty.dflt TPlace)).2.2.2.1.1 == 2) then
  (rm (Ty.bytes TPlace) (List.length x0_9 + 1)
  (L0 x0_0 x0_1 (w64 (x0_2 + 1)) x0_3 x0_4 x0_5 x0_6 x0_7 x0_8 (x0_9 ++ [(List.getD x0_0 (Int.toNat x0_2) (Ty.dflt TPlace))])))
  else
  (L0 x0_0 x0_1 (w64 (x0_2 + 1)) x0_3 x0_4 x0_5 x0_6 x0_7 x0_8 x0_9))
  else
  (bif (x0_3 == 5) then
  (bif ((List.getD x0_0 (Int.toNat x0_2) (Ty.dflt TPlace)).2.2.2.1.1 == 4) then
  (rm (Ty.bytes TPlace) (List.length x0_9 + 1)
  (L0 x0_0 x0_1 (w64 (x0_2 + 1)) x0_3 x0_4 x0_5 x0_6 x0_7 x0_8 (x0_9 ++ [(List.getD x0_0 (Int.toNat x0_2) (Ty.dflt TPlace))])))
  else
  (L0 x0_0 x0_1 (w64 (x0_2 + 1)) x0_3 x0_4 x0_5 x0_6 x0_7 x0_8 x0_9))
  else
  (L0 x0_0 x0_1 (w64 (x0_2 + 1)) x0_3 x0_4 x0_5 x0_6 x0_7 x0_8 x0_9))))
  else
  (bif (x0_3 == 5) then
  (bif ((List.getD x0_0 (Int.toNat x0_2) (Ty.dflt TPlace)).2.2.2.1.1 == 4) then
  (rm (Ty.bytes TPlace) (List.length x0_9 + 1)
  (L0 x0_0 x0_1 (w64 (x0_2 + 1)) x0_3 x0_4 x0_5 x0_6 x0_7 x0_8 (x0_9 ++ [(List.getD x0_0 (Int.toNat x0_2) (Ty.dflt TPlace))])))
  else
  (L0 x0_0 x0_1 (w64 (x0_2 + 1)) x0_3 x0_4 x0_5 x0_6 x0_7 x0_8 x0_9))
  else
  (L0 x0_0 x0_1 (w64 (x0_2 + 1)) x0_3 x0_4 x0_5 x0_6 x0_7 x0_8 x0_9))))))
  else
  (some (x0_9, ())))
def l0 (k : Nat) : Nat → T0
  | 0 => fun _ _ _ _ _ _ _ _ _ _ => none
  | n + 1 => b0 k (l0 k n)
def t (k : Nat) (L0 : T0) (a0 : List (Ty.den TPlace)) (a1 : Ty.den TRec) : Option ((List (Ty.den TPlace)) × Unit) :=
  (L0 a0 (List.length a0 : Int) 0 a1.1 a1.2.1 a1.2.2.1 a1.2.2.2.1 a1.2.2.2.2.1 a1.2.2.2.2.2.1 [])
def f (k : Nat) (a0 : List (Ty.den TPlace)) (a1 : Ty.den TRec) : Option ((List (Ty.den TPlace)) × Unit) := t k (l0 k k) a0 a1
end impl_ownOf
namespace impl_vars
abbrev T0 : Type := ByteArray → List Int → Int → Int → Option (ByteArray × Unit)
def b0 (k : Nat) (L0 : T0) (x0_0 : ByteArray) (x0_1 : List Int) (x0_2 : Int) (x0_3 : Int) : Option (ByteArray × Unit) :=
  (bif (decide (x0_3 < x0_2)) then
  (inb x0_3 (List.length x0_1 : Int)
  (Option.bind (impl_Var.f k (List.getD x0_1 (Int.toNat x0_3) (Ty.dflt (.int .i64)))) fun r1 =>
  (cat x0_0 r1.1
  (L0 (x0_0 ++ r1.1) x0_1 x0_2 (w64 (x0_3 + 1))))))
  else
  (some (x0_0, ())))
def l0 (k : Nat) : Nat → T0
  | 0 => fun _ _ _ _ => none
  | n + 1 => b0 k (l0 k n)
def t (k : Nat) (L0 : T0) (a0 : List Int) : Option (ByteArray × Unit) :=
  (L0 (⟨#[]⟩ : ByteArray) a0 (List.length a0 : Int) 0)
def f (k : Nat) (a0 : List Int) : Option (ByteArray × Unit) := t k (l0 k k) a0
end impl_vars
namespace impl_ShowRec
def t (k : Nat) (a0 : Ty.den TRec) : Option (ByteArray × Unit) :=
  (Option.bind (impl_RecOk.f k a0) fun r1 =>
  (bif (!r1.1) then
  (some ((⟨#[]⟩ : ByteArray), ()))
  else
  (Option.bind (impl_vars.f k [a0.1, a0.2.1]) fun r2 =>
  (bif (a0.1 == 1) then
  (bif (a0.1 == 1) then
  (Option.bind (impl_textOf.f k a0.2.2.1) fun r3 =>
  (cat r2.1 r3.1
  (Option.bind (impl_textOf.f k a0.2.2.2.1) fun r4 =>
  (cat (r2.1 ++ r3.1) r4.1
  (some (((r2.1 ++ r3.1) ++ r4.1), ()))))))
  else
  (bif (a0.1 == 2) then
  (Option.bind (impl_textOf.f k a0.2.2.1) fun r5 =>
  (cat r2.1 r5.1
  (some ((r2.1 ++ r5.1), ()))))
  else
  (Option.bind (impl_Var.f k a0.2.2.2.2.1) fun r6 =>
  (cat r2.1 r6.1
  (Option.bind (impl_Fixed.f k a0.2.2.2.2.2.1 4) fun r7 =>
  (cat (r2.1 ++ r6.1) r7.1
  (some (((r2.1 ++ r6.1) ++ r7.1), ()))))))))
  else
  (bif (a0.1 == 4) then
  (Option.bind (impl_textOf.f k a0.2.2.1) fun r8 =>
  (cat r2.1 r8.1
  (Option.bind (impl_textOf.f k a0.2.2.2.1) fun r9 =>
  (cat (r2.1 ++ r8.1) r9.1
  (some (((r2.1 ++ r8.1) ++ r9.1), ()))))))
  else
  (bif (a0.1 == 2) then
  (Option.bind (impl_textOf.f k a0.2.2.1) fun r10 =>
  (cat r2.1 r10.1
  (some ((r2.1 ++ r10.1), ()))))
  else
  (Option.bind (impl_Var.f k a0.2.2.2.2.1) fun r11 =>
  (cat r2.1 r11.1
  (Option.bind (impl_Fixed.f k a0.2.2.2.2.2.1 4) fun r12 =>
  (cat (r2.1 ++ r11.1) r12.1
  (some (((r2.1 ++ r11.1) ++ r12.1), ()))))))))))))
def f (k : Nat) (a0 : Ty.den TRec) : Option (ByteArray × Unit) := t k a0
end impl_ShowRec
namespace impl_SumOf
abbrev T0 : Type := ByteArray → List (Ty.den TRec) → Int → Int → Option (Int × Unit)
def b0 (k : Nat) (L0 : T0) (x0_0 : ByteArray) (x0_1 : List (Ty.den TRec)) (x0_2 : Int) (x0_3 : Int) : Option (Int × Unit) :=
  (bif (decide (x0_3 < x0_2)) then
  (inb x0_3 (List.length x0_1 : Int)
  (Option.bind (impl_ShowRec.f k (List.getD x0_1 (Int.toNat x0_3) (Ty.dflt TRec))) fun r1 =>
  (cat x0_0 r1.1
  (L0 (x0_0 ++ r1.1) x0_1 x0_2 (w64 (x0_3 + 1))))))
  else
  (Option.bind (impl_Crc.f k x0_0) fun r2 =>
  (some r2)))
def l0 (k : Nat) : Nat → T0
  | 0 => fun _ _ _ _ => none
  | n + 1 => b0 k (l0 k n)
def t (k : Nat) (L0 : T0) (a0 : List (Ty.den TRec)) : Option (Int × Unit) :=
  (L0 (⟨#[]⟩ : ByteArray) a0 (List.length a0 : Int) 0)
def f (k : Nat) (a0 : List (Ty.den TRec)) : Option (Int × Unit) := t k (l0 k k) a0
end impl_SumOf
namespace impl_fits
abbrev T0 : Type := List (Ty.den TPlace) → Int → Int → Int → Int → ByteArray → ByteArray → Int → Int → List (Ty.den TRec) → Option (Bool × Unit)
def b0 (k : Nat) (L0 : T0) (x0_0 : List (Ty.den TPlace)) (x0_1 : Int) (x0_2 : Int) (x0_3 : Int) (x0_4 : Int) (x0_5 : ByteArray) (x0_6 : ByteArray) (x0_7 : Int) (x0_8 : Int) (x0_9 : List (Ty.den TRec)) : Option (Bool × Unit) :=
  (bif (decide (x0_2 < x0_1)) then
  (inb x0_2 (List.length x0_0 : Int)
  (rm (Ty.bytes TRec) (List.length x0_9 + 1)
  (L0 x0_0 x0_1 (w64 (x0_2 + 1)) x0_3 x0_4 x0_5 x0_6 x0_7 x0_8 (x0_9 ++ [(List.getD x0_0 (Int.toNat x0_2) (Ty.dflt TPlace)).2.2.2.1]))))
  else
  (bif (x0_7 == (List.length x0_9 : Int)) then
  (Option.bind (impl_SumOf.f k x0_9) fun r1 =>
  (some ((x0_8 == r1.1), ())))
  else
  (some (false, ()))))
def l0 (k : Nat) : Nat → T0
  | 0 => fun _ _ _ _ _ _ _ _ _ _ => none
  | n + 1 => b0 k (l0 k n)
def t (k : Nat) (L0 : T0) (a0 : Ty.den TRec) (a1 : List (Ty.den TPlace)) : Option (Bool × Unit) :=
  (L0 a1 (List.length a1 : Int) 0 a0.1 a0.2.1 a0.2.2.1 a0.2.2.2.1 a0.2.2.2.2.1 a0.2.2.2.2.2.1 [])
def f (k : Nat) (a0 : Ty.den TRec) (a1 : List (Ty.den TPlace)) : Option (Bool × Unit) := t k (l0 k k) a0 a1
end impl_fits
namespace impl_Sealed
abbrev T0 : Type := List (Ty.den TPlace) → List (Ty.den TPlace) → Int → Int → List Int → Option ((List Int) × Unit)
def b0 (k : Nat) (L0 : T0) (x0_0 : List (Ty.den TPlace)) (x0_1 : List (Ty.den TPlace)) (x0_2 : Int) (x0_3 : Int) (x0_4 : List Int) : Option ((List Int) × Unit) :=
  (bif (decide (x0_3 < x0_2)) then
  (inb x0_3 (List.length x0_1 : Int)
  (bif ((List.getD x0_1 (Int.toNat x0_3) (Ty.dflt TPlace)).2.2.2.1.1 == 3) then
  (inc x0_3 (List.length x0_0 : Int)
  (Option.bind (impl_ownOf.f k (List.take (Int.toNat x0_3) x0_0) (List.getD x0_1 (Int.toNat x0_3) (Ty.dflt TPlace)).2.2.2.1) fun r1 =>
  (Option.bind (impl_fits.f k (List.getD x0_1 (Int.toNat x0_3) (Ty.dflt TPlace)).2.2.2.1 r1.1) fun r2 =>
  (bif r2.1 then
  (rm (Ty.bytes (.int .i64)) (List.length x0_4 + 1)
  (L0 x0_0 x0_1 x0_2 (w64 (x0_3 + 1)) (x0_4 ++ [(List.getD x0_1 (Int.toNat x0_3) (Ty.dflt TPlace)).2.2.2.1.2.1])))
  else
  (L0 x0_0 x0_1 x0_2 (w64 (x0_3 + 1)) x0_4)))))
  else
  (L0 x0_0 x0_1 x0_2 (w64 (x0_3 + 1)) x0_4)))
  else
  (some (x0_4, ())))
def l0 (k : Nat) : Nat → T0
  | 0 => fun _ _ _ _ _ => none
  | n + 1 => b0 k (l0 k n)
def t (k : Nat) (L0 : T0) (a0 : List (Ty.den TPlace)) : Option ((List Int) × Unit) :=
  (L0 a0 a0 (List.length a0 : Int) 0 [])
def f (k : Nat) (a0 : List (Ty.den TPlace)) : Option ((List Int) × Unit) := t k (l0 k k) a0
end impl_Sealed
namespace impl_Check
abbrev T1 : Type := Int → Int → Bool → Int → Int → Int → Int → Int → Int → Bool → Int → Int → Int → Int → Int → Int → List Int → List (Ty.den TPlace) → Option ((Ty.den TReport) × Unit)
abbrev T0 : Type := Int → Int → List (Ty.den TPair) → Int → Int → Bool → Bool → Int → Int → Int → Int → Int → Int → Bool → Int → Int → Int → Int → Int → Int → List (Ty.den TPlace) → List Int → Option ((Ty.den TReport) × Unit)
def b1 (k : Nat) (L1 : T1) (x1_0 : Int) (x1_1 : Int) (x1_2 : Bool) (x1_3 : Int) (x1_4 : Int) (x1_5 : Int) (x1_6 : Int) (x1_7 : Int) (x1_8 : Int) (x1_9 : Bool) (x1_10 : Int) (x1_11 : Int) (x1_12 : Int) (x1_13 : Int) (x1_14 : Int) (x1_15 : Int) (x1_16 : List Int) (x1_17 : List (Ty.den TPlace)) : Option ((Ty.den TReport) × Unit) :=
  (bif (decide (x1_1 < x1_0)) then
  (inb x1_1 (List.length x1_17 : Int)
  (bif ((List.getD x1_17 (Int.toNat x1_1) (Ty.dflt TPlace)).2.2.2.1.1 == 1) then
  (Option.bind (impl_hasInt.f k x1_16 (List.getD x1_17 (Int.toNat x1_1) (Ty.dflt TPlace)).2.2.2.1.2.1) fun r10 =>
  (bif (!r10.1) then
  (L1 x1_0 (w64 (x1_1 + 1)) x1_2 x1_3 x1_4 x1_5 x1_6 x1_7 x1_8 x1_9 x1_10 x1_11 (w64 (x1_12 + 1)) x1_13 x1_14 x1_15 x1_16 x1_17)
  else
  (L1 x1_0 (w64 (x1_1 + 1)) x1_2 x1_3 x1_4 x1_5 x1_6 x1_7 x1_8 x1_9 x1_10 x1_11 x1_12 x1_13 x1_14 x1_15 x1_16 x1_17)))
  else
  (bif ((List.getD x1_17 (Int.toNat x1_1) (Ty.dflt TPlace)).2.2.2.1.1 == 2) then
  (Option.bind (impl_hasInt.f k x1_16 (List.getD x1_17 (Int.toNat x1_1) (Ty.dflt TPlace)).2.2.2.1.2.1) fun r11 =>
  (bif (!r11.1) then
  (L1 x1_0 (w64 (x1_1 + 1)) x1_2 x1_3 x1_4 x1_5 x1_6 x1_7 x1_8 x1_9 x1_10 x1_11 (w64 (x1_12 + 1)) x1_13 x1_14 x1_15 x1_16 x1_17)
  else
  (L1 x1_0 (w64 (x1_1 + 1)) x1_2 x1_3 x1_4 x1_5 x1_6 x1_7 x1_8 x1_9 x1_10 x1_11 x1_12 x1_13 x1_14 x1_15 x1_16 x1_17)))
  else
  (L1 x1_0 (w64 (x1_1 + 1)) x1_2 x1_3 x1_4 x1_5 x1_6 x1_7 x1_8 x1_9 x1_10 x1_11 x1_12 x1_13 x1_14 x1_15 x1_16 x1_17))))
  else
  (some ((x1_9, (x1_10, (x1_11, (x1_12, (x1_13, (x1_14, (x1_15, ()))))))), ())))
def l1 (k : Nat) : Nat → T1
  | 0 => fun _ _ _ _ _ _ _ _ _ _ _ _ _ _ _ _ _ _ => none
  | n + 1 => b1 k (l1 k n)
def b0 (k : Nat) (L1 : T1) (L0 : T0) (x0_0 : Int) (x0_1 : Int) (x0_2 : List (Ty.den TPair)) (x0_3 : Int) (x0_4 : Int) (x0_5 : Bool) (x0_6 : Bool) (x0_7 : Int) (x0_8 : Int) (x0_9 : Int) (x0_10 : Int) (x0_11 : Int) (x0_12 : Int) (x0_13 : Bool) (x0_14 : Int) (x0_15 : Int) (x0_16 : Int) (x0_17 : Int) (x0_18 : Int) (x0_19 : Int) (x0_20 : List (Ty.den TPlace)) (x0_21 : List Int) : Option ((Ty.den TReport) × Unit) :=
  (bif (decide (x0_1 < x0_0)) then
  (inb x0_1 (List.length x0_21 : Int)
  (Option.bind (impl_SegName.f k (List.getD x0_21 (Int.toNat x0_1) (Ty.dflt (.int .i64)))) fun r4 =>
  (Option.bind (impl_FileText.f k (x0_2, (x0_3, (x0_4, (x0_5, ())))) r4.1) fun r5 =>
  (bif (!r5.2.1) then
  (L0 x0_0 (w64 (x0_1 + 1)) x0_2 x0_3 x0_4 x0_5 x0_6 x0_7 x0_8 x0_9 x0_10 x0_11 x0_12 x0_13 (w64 (x0_14 + 1)) x0_15 x0_16 x0_17 x0_18 x0_19 x0_20 x0_21)
  else
  (Option.bind (impl_ScanRecs.f k r5.1) fun r6 =>
  (bif (decide (r6.2.1 < (ByteArray.size r5.1 : Int))) then
  (Option.bind (impl_placed.f k (List.getD x0_21 (Int.toNat x0_1) (Ty.dflt (.int .i64))) r6.1) fun r7 =>
  (rm (Ty.bytes TPlace) (List.length x0_20 + List.length r7.1)
  (L0 x0_0 (w64 (x0_1 + 1)) x0_2 x0_3 x0_4 x0_5 x0_6 x0_7 x0_8 x0_9 x0_10 x0_11 x0_12 x0_13 x0_14 (w64 (x0_15 + 1)) x0_16 x0_17 x0_18 (w64 (x0_19 + (w64 ((ByteArray.size r5.1 : Int) - r6.2.1)))) (x0_20 ++ r7.1) x0_21)))
  else
  (Option.bind (impl_placed.f k (List.getD x0_21 (Int.toNat x0_1) (Ty.dflt (.int .i64))) r6.1) fun r8 =>
  (rm (Ty.bytes TPlace) (List.length x0_20 + List.length r8.1)
  (L0 x0_0 (w64 (x0_1 + 1)) x0_2 x0_3 x0_4 x0_5 x0_6 x0_7 x0_8 x0_9 x0_10 x0_11 x0_12 x0_13 x0_14 x0_15 x0_16 x0_17 x0_18 x0_19 (x0_20 ++ r8.1) x0_21)))))))))
  else
  (Option.bind (impl_Sealed.f k x0_20) fun r9 =>
  (L1 (List.length x0_20 : Int) 0 x0_6 x0_7 x0_8 x0_9 x0_10 x0_11 x0_12 x0_13 x0_14 x0_15 x0_16 x0_17 (List.length x0_20 : Int) x0_19 r9.1 x0_20)))
def l0 (k : Nat) : Nat → T0
  | 0 => fun _ _ _ _ _ _ _ _ _ _ _ _ _ _ _ _ _ _ _ _ _ _ => none
  | n + 1 => b0 k (l1 k k) (l0 k n)
def t (k : Nat) (L0 : T0) (a0 : Ty.den TDisk) : Option ((Ty.den TReport) × Unit) :=
  (Option.bind (impl_FileText.f k a0 (⟨#[108, 105, 118, 101]⟩ : ByteArray)) fun r1 =>
  (Option.bind (impl_ReadLive.f k r1.1) fun r2 =>
  (Option.bind (impl_Orphans.f k a0 r2.1) fun r3 =>
  (L0 (List.length r2.1.2.1 : Int) 0 a0.1 a0.2.1 a0.2.2.1 a0.2.2.2.1 false 0 0 0 0 0 0 r2.2.1 0 0 0 (List.length r3.1 : Int) 0 0 [] r2.1.2.1))))
def f (k : Nat) (a0 : Ty.den TDisk) : Option ((Ty.den TReport) × Unit) := t k (l0 k k) a0
end impl_Check
namespace impl_Sound
def t (k : Nat) (a0 : Ty.den TDisk) : Option (Bool × Unit) :=
  (Option.bind (impl_Check.f k a0) fun r1 =>
  (bif r1.1.1 then
  (bif (r1.1.2.1 == 0) then
  (bif (r1.1.2.2.1 == 0) then
  (some ((r1.1.2.2.2.2.1 == 0), ()))
  else
  (some (false, ())))
  else
  (some (false, ())))
  else
  (some (false, ()))))
def f (k : Nat) (a0 : Ty.den TDisk) : Option (Bool × Unit) := t k a0
end impl_Sound
namespace laws_eqFile
def t (k : Nat) (a0 : Ty.den TPair) (a1 : Ty.den TPair) : Option (Bool × Unit) :=
  (bif (!(seq a0.1 a1.1)) then
  (some (false, ()))
  else
  (bif (!(seq a0.2.1 a1.2.1)) then
  (some (false, ()))
  else
  (bif (a0.2.2.1 != a1.2.2.1) then
  (some (false, ()))
  else
  (some (true, ())))))
def f (k : Nat) (a0 : Ty.den TPair) (a1 : Ty.den TPair) : Option (Bool × Unit) := t k a0 a1
end laws_eqFile
namespace laws_eqFileS
abbrev T0 : Type := List (Ty.den TPair) → List (Ty.den TPair) → Int → Option (Bool × Unit)
def b0 (k : Nat) (L0 : T0) (x0_0 : List (Ty.den TPair)) (x0_1 : List (Ty.den TPair)) (x0_2 : Int) : Option (Bool × Unit) :=
  (bif (decide (x0_2 < (List.length x0_0 : Int))) then
  (inb x0_2 (List.length x0_0 : Int)
  (inb x0_2 (List.length x0_1 : Int)
  (Option.bind (laws_eqFile.f k (List.getD x0_0 (Int.toNat x0_2) (Ty.dflt TPair)) (List.getD x0_1 (Int.toNat x0_2) (Ty.dflt TPair))) fun r1 =>
  (bif (!r1.1) then
  (some (false, ()))
  else
  (L0 x0_0 x0_1 (w64 (x0_2 + 1)))))))
  else
  (some (true, ())))
def l0 (k : Nat) : Nat → T0
  | 0 => fun _ _ _ => none
  | n + 1 => b0 k (l0 k n)
def t (k : Nat) (L0 : T0) (a0 : List (Ty.den TPair)) (a1 : List (Ty.den TPair)) : Option (Bool × Unit) :=
  (bif ((List.length a0 : Int) != (List.length a1 : Int)) then
  (some (false, ()))
  else
  (L0 a0 a1 0))
def f (k : Nat) (a0 : List (Ty.den TPair)) (a1 : List (Ty.den TPair)) : Option (Bool × Unit) := t k (l0 k k) a0 a1
end laws_eqFileS
namespace laws_eqDisk
def t (k : Nat) (a0 : Ty.den TDisk) (a1 : Ty.den TDisk) : Option (Bool × Unit) :=
  (Option.bind (laws_eqFileS.f k a0.1 a1.1) fun r1 =>
  (bif (!r1.1) then
  (some (false, ()))
  else
  (bif (a0.2.1 != a1.2.1) then
  (some (false, ()))
  else
  (bif (a0.2.2.1 != a1.2.2.1) then
  (some (false, ()))
  else
  (bif (!(a0.2.2.2.1 == a1.2.2.2.1)) then
  (some (false, ()))
  else
  (some (true, ())))))))
def f (k : Nat) (a0 : Ty.den TDisk) (a1 : Ty.den TDisk) : Option (Bool × Unit) := t k a0 a1
end laws_eqDisk
namespace laws_FnExactSound
def t (k : Nat) (a0 : Ty.den TDisk) : Option (Bool × Unit) :=
  (Option.bind (laws_szDisk.f k a0 1048576) fun r1 =>
  (bif (decide (r1.1 < 0)) then
  (some (true, ()))
  else
  (Option.bind (laws_toDisk.f k a0) fun r2 =>
  (Option.bind (spec_Sound.f k r2.1) fun r3 =>
  (Option.bind (laws_toDisk.f k a0) fun r4 =>
  (Option.bind (impl_Sound.f k r4.1) fun r5 =>
  (bif (!(r5.1 == r3.1)) then
  (some (false, ()))
  else
  (Option.bind (laws_toDisk.f k a0) fun r6 =>
  (Option.bind (laws_eqDisk.f k r4.1 r6.1) fun r7 =>
  (bif (!r7.1) then
  (some (false, ()))
  else
  (some (true, ()))))))))))))
def f (k : Nat) (a0 : Ty.den TDisk) : Option (Bool × Unit) := t k a0
end laws_FnExactSound
namespace laws_eqReport
def t (k : Nat) (a0 : Ty.den TReport) (a1 : Ty.den TReport) : Option (Bool × Unit) :=
  (bif (!(a0.1 == a1.1)) then
  (some (false, ()))
  else
  (bif (a0.2.1 != a1.2.1) then
  (some (false, ()))
  else
  (bif (a0.2.2.1 != a1.2.2.1) then
  (some (false, ()))
  else
  (bif (a0.2.2.2.1 != a1.2.2.2.1) then
  (some (false, ()))
  else
  (bif (a0.2.2.2.2.1 != a1.2.2.2.2.1) then
  (some (false, ()))
  else
  (bif (a0.2.2.2.2.2.1 != a1.2.2.2.2.2.1) then
  (some (false, ()))
  else
  (bif (a0.2.2.2.2.2.2.1 != a1.2.2.2.2.2.2.1) then
  (some (false, ()))
  else
  (some (true, ())))))))))
def f (k : Nat) (a0 : Ty.den TReport) (a1 : Ty.den TReport) : Option (Bool × Unit) := t k a0 a1
end laws_eqReport
namespace laws_FnExactCheck
def t (k : Nat) (a0 : Ty.den TDisk) : Option (Bool × Unit) :=
  (Option.bind (laws_szDisk.f k a0 1048576) fun r1 =>
  (bif (decide (r1.1 < 0)) then
  (some (true, ()))
  else
  (Option.bind (laws_toDisk.f k a0) fun r2 =>
  (Option.bind (spec_Check.f k r2.1) fun r3 =>
  (Option.bind (laws_toDisk.f k a0) fun r4 =>
  (Option.bind (impl_Check.f k r4.1) fun r5 =>
  (Option.bind (laws_eqReport.f k r5.1 r3.1) fun r6 =>
  (bif (!r6.1) then
  (some (false, ()))
  else
  (Option.bind (laws_toDisk.f k a0) fun r7 =>
  (Option.bind (laws_eqDisk.f k r4.1 r7.1) fun r8 =>
  (bif (!r8.1) then
  (some (false, ()))
  else
  (some (true, ())))))))))))))
def f (k : Nat) (a0 : Ty.den TDisk) : Option (Bool × Unit) := t k a0
end laws_FnExactCheck
end Go.Proofs.YtgcahahklmfleaaGreatDoor.G

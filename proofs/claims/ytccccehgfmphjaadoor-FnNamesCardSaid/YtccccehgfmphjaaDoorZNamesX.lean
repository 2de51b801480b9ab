/- Functions that this seat does not have, as V runs them elsewhere: what is needed of them. -/
import Derived.Test.YtccccehgfmphjaaDoorFA
import Derived.Test.YtccccehgfmphjaaDoorVWords
import Derived.Test.YtccccehgfmphjaaDoorXLib
set_option linter.unusedVariables false
namespace Go.Proofs.YtccccehgfmphjaaDoor.G
open Go.V
namespace spec_Crc
abbrev T1 : Type := ByteArray → Int → Int → Int → Option (Int × Unit)
abbrev T0 : Type := ByteArray → Int → Int → Option (Int × Unit)
def b1 (k : Nat) (L0 : T0) (L1 : T1) (x1_0 : ByteArray) (x1_1 : Int) (x1_2 : Int) (x1_3 : Int) : Option (Int × Unit) :=
  (bif (decide (x1_3 < 8)) then
  (bif ((Int.tmod x1_1 2) == 1) then
  (L1 x1_0 (w64 (((BitVec.ofInt (IntKind.bits .i64) (w64 (Int.tdiv x1_1 2)) ^^^ BitVec.ofInt (IntKind.bits .i64) 2197175160).toNat : Int))) x1_2 (w64 (x1_3 + 1)))
  else
  (L1 x1_0 (w64 (Int.tdiv x1_1 2)) x1_2 (w64 (x1_3 + 1))))
  else
  (L0 x1_0 x1_1 (w64 (x1_2 + 1))))
def l1 (k : Nat) (L0 : T0) : Nat → T1
  | 0 => fun _ _ _ _ => none
  | n + 1 => b1 k L0 (l1 k L0 n)
def b0 (k : Nat) (L1 : T1) (L0 : T0) (x0_0 : ByteArray) (x0_1 : Int) (x0_2 : Int) : Option (Int × Unit) :=
  (bif (decide (x0_2 < (ByteArray.size x0_0 : Int))) then
  (inb x0_2 (ByteArray.size x0_0 : Int)
  (L1 x0_0 (w64 (((BitVec.ofInt (IntKind.bits .i64) x0_1 ^^^ BitVec.ofInt (IntKind.bits .i64) (w64 (byteAt x0_0 x0_2))).toNat : Int))) x0_2 0))
  else
  (some ((w64 (4294967295 - x0_1)), ())))
def l0 (k : Nat) : Nat → T0
  | 0 => fun _ _ _ => none
  | n + 1 => b0 k (l1 k (l0 k n) k) (l0 k n)
def t (k : Nat) (L0 : T0) (a0 : ByteArray) : Option (Int × Unit) :=
  (L0 a0 4294967295 0)
def f (k : Nat) (a0 : ByteArray) : Option (Int × Unit) := t k (l0 k k) a0
end spec_Crc
namespace spec_Var
abbrev T0 : Type := Int → List Int → Option (ByteArray × Unit)
def b0 (k : Nat) (L0 : T0) (x0_0 : Int) (x0_1 : List Int) : Option (ByteArray × Unit) :=
  (bif (decide (x0_0 ≥ 128)) then
  (rm (Ty.bytes (.int .u8)) (List.length x0_1 + 1)
  (L0 (w64 (Int.tdiv x0_0 128)) (x0_1 ++ [(IntKind.wrap .u8 (w64 (128 + (Int.tmod x0_0 128))))])))
  else
  (rm (Ty.bytes (.int .u8)) (List.length x0_1 + 1)
  (some ((bytesOf (x0_1 ++ [(IntKind.wrap .u8 x0_0)])), ()))))
def l0 (k : Nat) : Nat → T0
  | 0 => fun _ _ => none
  | n + 1 => b0 k (l0 k n)
def t (k : Nat) (L0 : T0) (a0 : Int) : Option (ByteArray × Unit) :=
  (Option.bind (spec_l1In.f k a0 0 562949953421311) fun r1 =>
  (bif (!r1.1) then
  (some ((⟨#[]⟩ : ByteArray), ()))
  else
  (L0 a0 [])))
def f (k : Nat) (a0 : Int) : Option (ByteArray × Unit) := t k (l0 k k) a0
end spec_Var
end Go.Proofs.YtccccehgfmphjaaDoor.G

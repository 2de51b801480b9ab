/- What the library's functions, and ReadDec, compute. -/
import Derived.Test.YtijlgdoiofdmhaaGreatDoorVWords
import Derived.Lib.ItoaNum
import Derived.Lib.AtoiAll
import Derived.Lib.Strings
import Derived.Lib.Split
set_option linter.unusedVariables false
namespace Go.Proofs.YtijlgdoiofdmhaaGreatDoor.G
open Go Go.V
def oO.f (k:Nat) (a0:Int):Option (ByteArray × Unit):=bif decide (-9223372036854775808≤a0∧a0≤9223372036854775807) then some (⟨(Lib.itoa a0).toArray⟩,()) else none
def LL.f (k:Nat) (a0 a1:ByteArray):Option (Bool × Unit):=some (Lib.hasPrefix a0.data.toList a1.data.toList,())
def ia.f (k:Nat) (a0 a1:ByteArray):Option (ByteArray × Bool × Unit):=some (⟨(Lib.trimPrefix a0.data.toList a1.data.toList).toArray⟩,(Lib.hasPrefix a0.data.toList a1.data.toList,()))
def Na.f (k:Nat) (a0 a1:ByteArray):Option (List ByteArray × Unit):=bif decide (a0.size<4294967281∧1≤a1.size) then some (Lib.splitB a1 0 (Lib.countB a0 a1) a0,()) else none
def d8.r (s:ByteArray):Lib.NumEnd Int→Int × Bool × Unit
 | .ok v=>bif seq ⟨(Lib.itoa v).toArray⟩ s&&decide (-999999999≤v∧v≤999999999) then (v,(true,())) else (0,(false,()))
 | _=>(0,(false,()))
def d8.f (k:Nat) (a0:ByteArray):Option (Int × Bool × Unit):=bif decide (a0.size≤281474976710656) then some (d8.r a0 (Lib.atoiAll a0.data.toList)) else none
end Go.Proofs.YtijlgdoiofdmhaaGreatDoor.G

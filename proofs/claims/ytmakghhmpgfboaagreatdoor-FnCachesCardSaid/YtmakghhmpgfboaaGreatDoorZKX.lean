/- Functions that this seat does not have, as V runs them elsewhere: what is needed of them. -/
import Derived.Test.YtmakghhmpgfboaaGreatDoorFK
import Derived.Test.YtmakghhmpgfboaaGreatDoorVWords
import Derived.Test.YtmakghhmpgfboaaGreatDoorXLib
set_option linter.unusedVariables false
namespace Go.Proofs.YtmakghhmpgfboaaGreatDoor.G
open Go.V
namespace impl_ScanRecs
abbrev Rs:Type:=Option ((List (Ty.den TSpot)) × Int × Unit)
abbrev T0:Type:=ByteArray→Int→List (Ty.den TSpot)→Rs
def b0 (k:Nat) (L0:T0):T0:=fun x0_0 x0_1 x0_2 =>
 (inc x0_1 (ByteArray.size x0_0:Int)
 ((impl_Unframe.f k (ByteArray.extract x0_0 (Int.toNat x0_1) (ByteArray.size x0_0))).bind fun r1 =>
 ((impl_ReadRec.f k r1.1).bind fun r2 =>
 (bif (r1.2.1==0) then
 (some (x0_2,(x0_1,())))
 else
 (bif (!r2.2.1) then
 (some (x0_2,(x0_1,())))
 else
 (rm (Ty.bytes TSpot) (List.length x0_2+1)
 (L0 x0_0 (w64 (x0_1+r1.2.1)) (x0_2++[(x0_1,(r1.2.1,(r2.1,())))]))))))))
def l0 (k:Nat):Nat→T0
 | 0=>fun _ _ _=>none
 | n+1=>b0 k (l0 k n)
def t (k:Nat) (L0:T0) (a0:ByteArray):Rs :=
 (L0 a0 0 [])
def f (k:Nat):=t k (l0 k k)
end impl_ScanRecs
end Go.Proofs.YtmakghhmpgfboaaGreatDoor.G

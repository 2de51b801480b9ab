/- V: the words that printed functions use. -/
import Derived.Test.YthjppgafienaoabGreatDoorVDefs
set_option linter.unusedVariables false
set_option linter.unusedSimpArgs false
namespace Go.V
variable {R:Type}
@[reducible] def aH (n:Int):Int:=IntKind.wrap .i64 n
def bF (i n:Int) (k:Option R):Option R:=bif decide (0≤i) then (bif decide (i<n) then k else none) else none
def nR (i n:Int) (k:Option R):Option R:=bif decide (0≤i) then (bif decide (i≤n) then k else none) else none
def Dk (i j n:Int) (k:Option R):Option R:=bif decide (0≤i) then (bif decide (i≤j) then (bif decide (j≤n) then k else none) else none) else none
def rm (b n:Nat) (k:Option R):Option R:=bif wU b n then k else none
def vP (b:Nat) (n:Int) (k:Option R):Option R:=bif decide (n=n) then (bif decide (0≤n) then (bif wU b n.toNat then k else none) else none) else none
def kW (a b:ByteArray) (k:Option R):Option R:=bif decide (((a.size+b.size:Nat):Int) > IntKind.i64.max) then none else k
def seq (a b:ByteArray):Bool:=a.toList==b.toList
def mw (a b:ByteArray):Bool:=Op.bytesLess a.toList b.toList
def E7 (k:IntKind) (n:Int):Int:=k.wrap (BitVec.ofInt k.bits (if k.signed then -1 else k.max) ^^^ BitVec.ofInt k.bits n).toNat
theorem aI {i n:Int} {k:Option R} (h0:0≤i) (h1:i<n):bF i n k=k:=by simp [bF,h0,h1]
theorem cC {i n:Int} {k:Option R} (h0:0≤i) (h1:i≤n):nR i n k=k:=by simp [nR,h0,h1]
theorem tG {i j n:Int} {k:Option R} (h0:0≤i) (h1:i≤j) (h2:j≤n):Dk i j n k=k:=by simp [Dk,h0,h1,h2]
theorem LA {b n:Nat} {k:Option R} (h:n*b≤140737488355328) (h':n≤140737488355328):rm b n k=k:=by simp [rm,wU,h,h']
theorem Dl {b:Nat} {n:Int} {k:Option R} (h0:0≤n) (h:n.toNat*b≤140737488355328) (h':n.toNat≤140737488355328):vP b n k=k:=by simp [vP,wU,h0,h,h']
theorem AY {a b:ByteArray} {k:Option R} (h:a.size+b.size≤9223372036854775807):kW a b k=k:=by
 have:¬ (((a.size+b.size:Nat):Int) > IntKind.i64.max):=by
  have:IntKind.i64.max=9223372036854775807:=by decide
  rw [this];omega
 simp only [kW,this,decide_false,cond_false]
theorem aD {n:Int} (h0 : -9223372036854775808≤n) (h1:n≤9223372036854775807):aH n=n:=by
 unfold aH IntKind.wrap
 simp [IntKind.bits,IntKind.signed]
 omega
end Go.V

/- V: the words that printed functions use. -/
import Derived.Test.YthjppgafienaoaaGreatDoorVDefs
namespace Go.V
variable {R:Type}
@[reducible] def aG (n:Int):Int:=IntKind.wrap .i64 n
def aw (i n:Int) (k:Option R):Option R:=bif decide (0≤i) then (bif decide (i<n) then k else none) else none
def pE (i n:Int) (k:Option R):Option R:=bif decide (0≤i) then (bif decide (i≤n) then k else none) else none
def G9 (i j n:Int) (k:Option R):Option R:=bif decide (0≤i) then (bif decide (i≤j) then (bif decide (j≤n) then k else none) else none) else none
def rm (b n:Nat) (k:Option R):Option R:=bif xn b n then k else none
def vJ (b:Nat) (n:Int) (k:Option R):Option R:=bif decide (n=n) then (bif decide (0≤n) then (bif xn b n.toNat then k else none) else none) else none
def ln (a b:ByteArray) (k:Option R):Option R:=bif decide (((a.size+b.size:Nat):Int) > IntKind.i64.max) then none else k
def seq (a b:ByteArray):Bool:=a.toList==b.toList
def oG (a b:ByteArray):Bool:=Op.bytesLess a.toList b.toList
def FV (k:IntKind) (n:Int):Int:=k.wrap (BitVec.ofInt k.bits (if k.signed then -1 else k.max) ^^^ BitVec.ofInt k.bits n).toNat
theorem aI {i n:Int} {k:Option R} (h0:0≤i) (h1:i<n):aw i n k=k:=by simp [aw,h0,h1]
theorem dX {i n:Int} {k:Option R} (h0:0≤i) (h1:i≤n):pE i n k=k:=by simp [pE,h0,h1]
theorem vC {i j n:Int} {k:Option R} (h0:0≤i) (h1:i≤j) (h2:j≤n):G9 i j n k=k:=by simp [G9,h0,h1,h2]
theorem NF {b n:Nat} {k:Option R} (h:n*b≤140737488355328) (h':n≤140737488355328):rm b n k=k:=by simp [rm,xn,h,h']
theorem FK {b:Nat} {n:Int} {k:Option R} (h0:0≤n) (h:n.toNat*b≤140737488355328) (h':n.toNat≤140737488355328):vJ b n k=k:=by simp [vJ,xn,h0,h,h']
theorem Bc {a b:ByteArray} {k:Option R} (h:a.size+b.size≤9223372036854775807):ln a b k=k:=by
 have:¬ (((a.size+b.size:Nat):Int) > IntKind.i64.max):=by
  have:IntKind.i64.max=9223372036854775807:=by decide
  rw [this];omega
 simp only [ln,this,decide_false,cond_false]
theorem aE {n:Int} (h0 : -9223372036854775808≤n) (h1:n≤9223372036854775807):aG n=n:=by
 unfold aG IntKind.wrap
 simp [IntKind.bits,IntKind.signed]
 omega
end Go.V

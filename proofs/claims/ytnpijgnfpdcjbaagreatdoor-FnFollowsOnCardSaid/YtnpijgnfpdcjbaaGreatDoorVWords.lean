/- V: the words that printed functions use. -/
import Derived.Test.YtnpijgnfpdcjbaaGreatDoorVDefs
namespace Go.V
variable {R:Type}
@[reducible] def aJ (n:Int):Int:=IntKind.wrap .i64 n
def bF (i n:Int) (k:Option R):Option R:=bif decide (0≤i) then (bif decide (i<n) then k else none) else none
def pJ (i n:Int) (k:Option R):Option R:=bif decide (0≤i) then (bif decide (i≤n) then k else none) else none
def Ch (i j n:Int) (k:Option R):Option R:=bif decide (0≤i) then (bif decide (i≤j) then (bif decide (j≤n) then k else none) else none) else none
def rm (b n:Nat) (k:Option R):Option R:=bif vh b n then k else none
def uv (b:Nat) (n:Int) (k:Option R):Option R:=bif decide (n=n) then (bif decide (0≤n) then (bif vh b n.toNat then k else none) else none) else none
def kY (a b:ByteArray) (k:Option R):Option R:=bif decide (((a.size+b.size:Nat):Int) > IntKind.i64.max) then none else k
def seq (a b:ByteArray):Bool:=a.toList==b.toList
def mh (a b:ByteArray):Bool:=Op.bytesLess a.toList b.toList
def Co (k:IntKind) (n:Int):Int:=k.wrap (BitVec.ofInt k.bits (if k.signed then -1 else k.max) ^^^ BitVec.ofInt k.bits n).toNat
theorem aH {i n:Int} {k:Option R} (h0:0≤i) (h1:i<n):bF i n k=k:=by simp [bF,h0,h1]
theorem cN {i n:Int} {k:Option R} (h0:0≤i) (h1:i≤n):pJ i n k=k:=by simp [pJ,h0,h1]
theorem t6 {i j n:Int} {k:Option R} (h0:0≤i) (h1:i≤j) (h2:j≤n):Ch i j n k=k:=by simp [Ch,h0,h1,h2]
theorem Kj {b n:Nat} {k:Option R} (h:n*b≤140737488355328) (h':n≤140737488355328):rm b n k=k:=by simp [rm,vh,h,h']
theorem DV {b:Nat} {n:Int} {k:Option R} (h0:0≤n) (h:n.toNat*b≤140737488355328) (h':n.toNat≤140737488355328):uv b n k=k:=by simp [uv,vh,h0,h,h']
theorem AO {a b:ByteArray} {k:Option R} (h:a.size+b.size≤9223372036854775807):kY a b k=k:=by
 have:¬ (((a.size+b.size:Nat):Int) > IntKind.i64.max):=by
  have:IntKind.i64.max=9223372036854775807:=by decide
  rw [this];omega
 simp only [kY,this,decide_false,cond_false]
theorem aD {n:Int} (h0 : -9223372036854775808≤n) (h1:n≤9223372036854775807):aJ n=n:=by
 unfold aJ IntKind.wrap
 simp [IntKind.bits,IntKind.signed]
 omega
end Go.V

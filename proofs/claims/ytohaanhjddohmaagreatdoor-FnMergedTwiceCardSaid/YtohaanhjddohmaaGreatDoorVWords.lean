/- V: the words that printed functions use. -/
import Derived.Test.YtohaanhjddohmaaGreatDoorVDefs
namespace Go.V
variable {R:Type}
@[reducible] def aH (n:Int):Int:=IntKind.wrap .i64 n
def bi (i n:Int) (k:Option R):Option R:=bif decide (0≤i) then (bif decide (i<n) then k else none) else none
def pV (i n:Int) (k:Option R):Option R:=bif decide (0≤i) then (bif decide (i≤n) then k else none) else none
def DC (i j n:Int) (k:Option R):Option R:=bif decide (0≤i) then (bif decide (i≤j) then (bif decide (j≤n) then k else none) else none) else none
def rm (b n:Nat) (k:Option R):Option R:=bif xb b n then k else none
def JU (b:Nat) (n:Int) (k:Option R):Option R:=bif decide (n=n) then (bif decide (0≤n) then (bif xb b n.toNat then k else none) else none) else none
def k_ (a b:ByteArray) (k:Option R):Option R:=bif decide (((a.size+b.size:Nat):Int) > IntKind.i64.max) then none else k
def seq (a b:ByteArray):Bool:=a.toList==b.toList
def mN (a b:ByteArray):Bool:=Op.bytesLess a.toList b.toList
def DU (k:IntKind) (n:Int):Int:=k.wrap (BitVec.ofInt k.bits (if k.signed then -1 else k.max) ^^^ BitVec.ofInt k.bits n).toNat
theorem aG {i n:Int} {k:Option R} (h0:0≤i) (h1:i<n):bi i n k=k:=by simp [bi,h0,h1]
theorem c_ {i n:Int} {k:Option R} (h0:0≤i) (h1:i≤n):pV i n k=k:=by simp [pV,h0,h1]
theorem tE {i j n:Int} {k:Option R} (h0:0≤i) (h1:i≤j) (h2:j≤n):DC i j n k=k:=by simp [DC,h0,h1,h2]
theorem Ju {b n:Nat} {k:Option R} (h:n*b≤140737488355328) (h':n≤140737488355328):rm b n k=k:=by simp [rm,xb,h,h']
theorem CS {b:Nat} {n:Int} {k:Option R} (h0:0≤n) (h:n.toNat*b≤140737488355328) (h':n.toNat≤140737488355328):JU b n k=k:=by simp [JU,xb,h0,h,h']
theorem zY {a b:ByteArray} {k:Option R} (h:a.size+b.size≤9223372036854775807):k_ a b k=k:=by
 have:¬ (((a.size+b.size:Nat):Int) > IntKind.i64.max):=by
  have:IntKind.i64.max=9223372036854775807:=by decide
  rw [this];omega
 simp only [k_,this,decide_false,cond_false]
theorem aC {n:Int} (h0 : -9223372036854775808≤n) (h1:n≤9223372036854775807):aH n=n:=by
 unfold aH IntKind.wrap
 simp [IntKind.bits,IntKind.signed]
 omega
end Go.V

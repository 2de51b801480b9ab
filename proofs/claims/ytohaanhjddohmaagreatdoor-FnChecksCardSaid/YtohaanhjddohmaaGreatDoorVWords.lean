/- V: the words that printed functions use. -/
import Derived.Test.YtohaanhjddohmaaGreatDoorVDefs
namespace Go.V
variable {R:Type}
@[reducible] def aF (n:Int):Int:=IntKind.wrap .i64 n
def ba (i n:Int) (k:Option R):Option R:=bif decide (0≤i) then (bif decide (i<n) then k else none) else none
def mj (i n:Int) (k:Option R):Option R:=bif decide (0≤i) then (bif decide (i≤n) then k else none) else none
def F8 (i j n:Int) (k:Option R):Option R:=bif decide (0≤i) then (bif decide (i≤j) then (bif decide (j≤n) then k else none) else none) else none
def rm (b n:Nat) (k:Option R):Option R:=bif yZ b n then k else none
def Jp (b:Nat) (n:Int) (k:Option R):Option R:=bif decide (n=n) then (bif decide (0≤n) then (bif yZ b n.toNat then k else none) else none) else none
def jk (a b:ByteArray) (k:Option R):Option R:=bif decide (((a.size+b.size:Nat):Int) > IntKind.i64.max) then none else k
def seq (a b:ByteArray):Bool:=a.toList==b.toList
def mv (a b:ByteArray):Bool:=Op.bytesLess a.toList b.toList
def DD (k:IntKind) (n:Int):Int:=k.wrap (BitVec.ofInt k.bits (if k.signed then -1 else k.max) ^^^ BitVec.ofInt k.bits n).toNat
theorem aG {i n:Int} {k:Option R} (h0:0≤i) (h1:i<n):ba i n k=k:=by simp [ba,h0,h1]
theorem br {i n:Int} {k:Option R} (h0:0≤i) (h1:i≤n):mj i n k=k:=by simp [mj,h0,h1]
theorem vr {i j n:Int} {k:Option R} (h0:0≤i) (h1:i≤j) (h2:j≤n):F8 i j n k=k:=by simp [F8,h0,h1,h2]
theorem K7 {b n:Nat} {k:Option R} (h:n*b≤140737488355328) (h':n≤140737488355328):rm b n k=k:=by simp [rm,yZ,h,h']
theorem Dk {b:Nat} {n:Int} {k:Option R} (h0:0≤n) (h:n.toNat*b≤140737488355328) (h':n.toNat≤140737488355328):Jp b n k=k:=by simp [Jp,yZ,h0,h,h']
theorem Ag {a b:ByteArray} {k:Option R} (h:a.size+b.size≤9223372036854775807):jk a b k=k:=by
 have:¬ (((a.size+b.size:Nat):Int) > IntKind.i64.max):=by
  have:IntKind.i64.max=9223372036854775807:=by decide
  rw [this];omega
 simp only [jk,this,decide_false,cond_false]
theorem aD {n:Int} (h0 : -9223372036854775808≤n) (h1:n≤9223372036854775807):aF n=n:=by
 unfold aF IntKind.wrap
 simp [IntKind.bits,IntKind.signed]
 omega
end Go.V

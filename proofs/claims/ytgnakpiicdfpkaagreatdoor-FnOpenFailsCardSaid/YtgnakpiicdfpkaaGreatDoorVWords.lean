/- V: the words that printed functions use. -/
import Derived.Test.YtgnakpiicdfpkaaGreatDoorVDefs
namespace Go.V
variable {R:Type}
@[reducible] def aF (n:Int):Int:=IntKind.wrap .i64 n
def bW (i n:Int) (k:Option R):Option R:=bif decide (0≤i) then (bif decide (i<n) then k else none) else none
def mR (i n:Int) (k:Option R):Option R:=bif decide (0≤i) then (bif decide (i≤n) then k else none) else none
def FQ (i j n:Int) (k:Option R):Option R:=bif decide (0≤i) then (bif decide (i≤j) then (bif decide (j≤n) then k else none) else none) else none
def rm (b n:Nat) (k:Option R):Option R:=bif mn b n then k else none
def Ks (b:Nat) (n:Int) (k:Option R):Option R:=bif decide (n=n) then (bif decide (0≤n) then (bif mn b n.toNat then k else none) else none) else none
def kC (a b:ByteArray) (k:Option R):Option R:=bif decide (((a.size+b.size:Nat):Int) > IntKind.i64.max) then none else k
def seq (a b:ByteArray):Bool:=a.toList==b.toList
def nO (a b:ByteArray):Bool:=Op.bytesLess a.toList b.toList
def Fa (k:IntKind) (n:Int):Int:=k.wrap (BitVec.ofInt k.bits (if k.signed then -1 else k.max) ^^^ BitVec.ofInt k.bits n).toNat
theorem aH {i n:Int} {k:Option R} (h0:0≤i) (h1:i<n):bW i n k=k:=by simp [bW,h0,h1]
theorem bq {i n:Int} {k:Option R} (h0:0≤i) (h1:i≤n):mR i n k=k:=by simp [mR,h0,h1]
theorem v8 {i j n:Int} {k:Option R} (h0:0≤i) (h1:i≤j) (h2:j≤n):FQ i j n k=k:=by simp [FQ,h0,h1,h2]
theorem MI {b n:Nat} {k:Option R} (h:n*b≤140737488355328) (h':n≤140737488355328):rm b n k=k:=by simp [rm,mn,h,h']
theorem Eb {b:Nat} {n:Int} {k:Option R} (h0:0≤n) (h:n.toNat*b≤140737488355328) (h':n.toNat≤140737488355328):Ks b n k=k:=by simp [Ks,mn,h0,h,h']
theorem Bu {a b:ByteArray} {k:Option R} (h:a.size+b.size≤9223372036854775807):kC a b k=k:=by
 have:¬ (((a.size+b.size:Nat):Int) > IntKind.i64.max):=by
  have:IntKind.i64.max=9223372036854775807:=by decide
  rw [this];omega
 simp only [kC,this,decide_false,cond_false]
theorem aE {n:Int} (h0 : -9223372036854775808≤n) (h1:n≤9223372036854775807):aF n=n:=by
 unfold aF IntKind.wrap
 simp [IntKind.bits,IntKind.signed]
 omega
end Go.V

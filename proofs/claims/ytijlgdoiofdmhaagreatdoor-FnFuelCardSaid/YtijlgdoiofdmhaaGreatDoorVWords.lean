/- V: the words that printed functions use. -/
import Derived.Test.YtijlgdoiofdmhaaGreatDoorVDefs
namespace Go.V
variable {R:Type}
@[reducible] def aH (n:Int):Int:=IntKind.wrap .i64 n
def b9 (i n:Int) (k:Option R):Option R:=bif decide (0≤i) then (bif decide (i<n) then k else none) else none
def oh (i n:Int) (k:Option R):Option R:=bif decide (0≤i) then (bif decide (i≤n) then k else none) else none
def GW (i j n:Int) (k:Option R):Option R:=bif decide (0≤i) then (bif decide (i≤j) then (bif decide (j≤n) then k else none) else none) else none
def rm (b n:Nat) (k:Option R):Option R:=bif B2 b n then k else none
def xG (b:Nat) (n:Int) (k:Option R):Option R:=bif decide (n=n) then (bif decide (0≤n) then (bif B2 b n.toNat then k else none) else none) else none
def mK (a b:ByteArray) (k:Option R):Option R:=bif decide (((a.size+b.size:Nat):Int) > IntKind.i64.max) then none else k
def seq (a b:ByteArray):Bool:=a.toList==b.toList
def ox (a b:ByteArray):Bool:=Op.bytesLess a.toList b.toList
def Ga (k:IntKind) (n:Int):Int:=k.wrap (BitVec.ofInt k.bits (if k.signed then -1 else k.max) ^^^ BitVec.ofInt k.bits n).toNat
theorem aF {i n:Int} {k:Option R} (h0:0≤i) (h1:i<n):b9 i n k=k:=by simp [b9,h0,h1]
theorem bv {i n:Int} {k:Option R} (h0:0≤i) (h1:i≤n):oh i n k=k:=by simp [oh,h0,h1]
theorem va {i j n:Int} {k:Option R} (h0:0≤i) (h1:i≤j) (h2:j≤n):GW i j n k=k:=by simp [GW,h0,h1,h2]
theorem O3 {b n:Nat} {k:Option R} (h:n*b≤140737488355328) (h':n≤140737488355328):rm b n k=k:=by simp [rm,B2,h,h']
theorem GI {b:Nat} {n:Int} {k:Option R} (h0:0≤n) (h:n.toNat*b≤140737488355328) (h':n.toNat≤140737488355328):xG b n k=k:=by simp [xG,B2,h0,h,h']
theorem Cz {a b:ByteArray} {k:Option R} (h:a.size+b.size≤9223372036854775807):mK a b k=k:=by
 have:¬ (((a.size+b.size:Nat):Int) > IntKind.i64.max):=by
  have:IntKind.i64.max=9223372036854775807:=by decide
  rw [this];omega
 simp only [mK,this,decide_false,cond_false]
theorem aC {n:Int} (h0 : -9223372036854775808≤n) (h1:n≤9223372036854775807):aH n=n:=by
 unfold aH IntKind.wrap
 simp [IntKind.bits,IntKind.signed]
 omega
end Go.V

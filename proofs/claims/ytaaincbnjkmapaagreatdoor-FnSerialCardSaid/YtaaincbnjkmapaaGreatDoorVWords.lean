/- V: the words that printed functions use. -/
import Derived.Test.YtaaincbnjkmapaaGreatDoorVDefs
namespace Go.V
variable {R:Type}
@[reducible] def aQ (n:Int):Int:=IntKind.wrap .i64 n
def dR (i n:Int) (k:Option R):Option R:=bif decide (0≤i) then (bif decide (i<n) then k else none) else none
def pS (i n:Int) (k:Option R):Option R:=bif decide (0≤i) then (bif decide (i≤n) then k else none) else none
def KC (i j n:Int) (k:Option R):Option R:=bif decide (0≤i) then (bif decide (i≤j) then (bif decide (j≤n) then k else none) else none) else none
def rm (b n:Nat) (k:Option R):Option R:=bif room b n then k else none
def yl (b:Nat) (n:Int) (k:Option R):Option R:=bif decide (n=n) then (bif decide (0≤n) then (bif room b n.toNat then k else none) else none) else none
def oV (a b:ByteArray) (k:Option R):Option R:=bif decide (((a.size+b.size:Nat):Int) > IntKind.i64.max) then none else k
def seq (a b:ByteArray):Bool:=a.toList==b.toList
def nd (a b:ByteArray):Bool:=Op.bytesLess a.toList b.toList
def He (k:IntKind) (n:Int):Int:=k.wrap (BitVec.ofInt k.bits (if k.signed then -1 else k.max) ^^^ BitVec.ofInt k.bits n).toNat
theorem aT {i n:Int} {k:Option R} (h0:0≤i) (h1:i<n):dR i n k=k:=by simp [dR,h0,h1]
theorem d7 {i n:Int} {k:Option R} (h0:0≤i) (h1:i≤n):pS i n k=k:=by simp [pS,h0,h1]
theorem yu {i j n:Int} {k:Option R} (h0:0≤i) (h1:i≤j) (h2:j≤n):KC i j n k=k:=by simp [KC,h0,h1,h2]
theorem Qi {b n:Nat} {k:Option R} (h:n*b≤140737488355328) (h':n≤140737488355328):rm b n k=k:=by simp [rm,room,h,h']
theorem HC {b:Nat} {n:Int} {k:Option R} (h0:0≤n) (h:n.toNat*b≤140737488355328) (h':n.toNat≤140737488355328):yl b n k=k:=by simp [yl,room,h0,h,h']
theorem Di {a b:ByteArray} {k:Option R} (h:a.size+b.size≤9223372036854775807):oV a b k=k:=by
 have:¬ (((a.size+b.size:Nat):Int) > IntKind.i64.max):=by
  have:IntKind.i64.max=9223372036854775807:=by decide
  rw [this];omega
 simp only [oV,this,decide_false,cond_false]
theorem aF {n:Int} (h0 : -9223372036854775808≤n) (h1:n≤9223372036854775807):aQ n=n:=by
 unfold aQ IntKind.wrap
 simp [IntKind.bits,IntKind.signed]
 omega
end Go.V

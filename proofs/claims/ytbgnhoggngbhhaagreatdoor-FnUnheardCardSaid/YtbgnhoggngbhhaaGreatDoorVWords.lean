/- V: the words that printed functions use. -/
import Derived.Test.YtbgnhoggngbhhaaGreatDoorVDefs
namespace Go.V
variable {R:Type}
@[reducible] def aQ (n:Int):Int:=IntKind.wrap .i64 n
def cD (i n:Int) (k:Option R):Option R:=bif decide (0≤i) then (bif decide (i<n) then k else none) else none
def rP (i n:Int) (k:Option R):Option R:=bif decide (0≤i) then (bif decide (i≤n) then k else none) else none
def JI (i j n:Int) (k:Option R):Option R:=bif decide (0≤i) then (bif decide (i≤j) then (bif decide (j≤n) then k else none) else none) else none
def rm (b n:Nat) (k:Option R):Option R:=bif room b n then k else none
def u7 (b:Nat) (n:Int) (k:Option R):Option R:=bif decide (n=n) then (bif decide (0≤n) then (bif room b n.toNat then k else none) else none) else none
def o8 (a b:ByteArray) (k:Option R):Option R:=bif decide (((a.size+b.size:Nat):Int) > IntKind.i64.max) then none else k
def seq (a b:ByteArray):Bool:=a.toList==b.toList
def nT (a b:ByteArray):Bool:=Op.bytesLess a.toList b.toList
def Ha (k:IntKind) (n:Int):Int:=k.wrap (BitVec.ofInt k.bits (if k.signed then -1 else k.max) ^^^ BitVec.ofInt k.bits n).toNat
theorem aN {i n:Int} {k:Option R} (h0:0≤i) (h1:i<n):cD i n k=k:=by simp [cD,h0,h1]
theorem dL {i n:Int} {k:Option R} (h0:0≤i) (h1:i≤n):rP i n k=k:=by simp [rP,h0,h1]
theorem yM {i j n:Int} {k:Option R} (h0:0≤i) (h1:i≤j) (h2:j≤n):JI i j n k=k:=by simp [JI,h0,h1,h2]
theorem Pt {b n:Nat} {k:Option R} (h:n*b≤140737488355328) (h':n≤140737488355328):rm b n k=k:=by simp [rm,room,h,h']
theorem HT {b:Nat} {n:Int} {k:Option R} (h0:0≤n) (h:n.toNat*b≤140737488355328) (h':n.toNat≤140737488355328):u7 b n k=k:=by simp [u7,room,h0,h,h']
theorem Co {a b:ByteArray} {k:Option R} (h:a.size+b.size≤9223372036854775807):o8 a b k=k:=by
 have:¬ (((a.size+b.size:Nat):Int) > IntKind.i64.max):=by
  have:IntKind.i64.max=9223372036854775807:=by decide
  rw [this];omega
 simp only [o8,this,decide_false,cond_false]
theorem aE {n:Int} (h0 : -9223372036854775808≤n) (h1:n≤9223372036854775807):aQ n=n:=by
 unfold aQ IntKind.wrap
 simp [IntKind.bits,IntKind.signed]
 omega
end Go.V

/- V: the words that printed functions use. -/
import Derived.Test.YteejjngdagmofaaGreatDoorVDefs
namespace Go.V
variable {R:Type}
@[reducible] def aU (n:Int):Int:=IntKind.wrap .i64 n
def fW (i n:Int) (k:Option R):Option R:=bif decide (0≤i) then (bif decide (i<n) then k else none) else none
def qn (i n:Int) (k:Option R):Option R:=bif decide (0≤i) then (bif decide (i≤n) then k else none) else none
def M0 (i j n:Int) (k:Option R):Option R:=bif decide (0≤i) then (bif decide (i≤j) then (bif decide (j≤n) then k else none) else none) else none
def rm (b n:Nat) (k:Option R):Option R:=bif room b n then k else none
def Qs (b:Nat) (n:Int) (k:Option R):Option R:=bif decide (n=n) then (bif decide (0≤n) then (bif room b n.toNat then k else none) else none) else none
def jm (a b:ByteArray) (k:Option R):Option R:=bif decide (((a.size+b.size:Nat):Int) > IntKind.i64.max) then none else k
def seq (a b:ByteArray):Bool:=a.toList==b.toList
def nS (a b:ByteArray):Bool:=Op.bytesLess a.toList b.toList
def IX (k:IntKind) (n:Int):Int:=k.wrap (BitVec.ofInt k.bits (if k.signed then -1 else k.max) ^^^ BitVec.ofInt k.bits n).toNat
theorem aY {i n:Int} {k:Option R} (h0:0≤i) (h1:i<n):fW i n k=k:=by simp [fW,h0,h1]
theorem d7 {i n:Int} {k:Option R} (h0:0≤i) (h1:i≤n):qn i n k=k:=by simp [qn,h0,h1]
theorem yg {i j n:Int} {k:Option R} (h0:0≤i) (h1:i≤j) (h2:j≤n):M0 i j n k=k:=by simp [M0,h0,h1,h2]
theorem Ss {b n:Nat} {k:Option R} (h:n*b≤140737488355328) (h':n≤140737488355328):rm b n k=k:=by simp [rm,room,h,h']
theorem JD {b:Nat} {n:Int} {k:Option R} (h0:0≤n) (h:n.toNat*b≤140737488355328) (h':n.toNat≤140737488355328):Qs b n k=k:=by simp [Qs,room,h0,h,h']
theorem F_ {a b:ByteArray} {k:Option R} (h:a.size+b.size≤9223372036854775807):jm a b k=k:=by
 have:¬ (((a.size+b.size:Nat):Int) > IntKind.i64.max):=by
  have:IntKind.i64.max=9223372036854775807:=by decide
  rw [this];omega
 simp only [jm,this,decide_false,cond_false]
theorem aG {n:Int} (h0 : -9223372036854775808≤n) (h1:n≤9223372036854775807):aU n=n:=by
 unfold aU IntKind.wrap
 simp [IntKind.bits,IntKind.signed]
 omega
end Go.V

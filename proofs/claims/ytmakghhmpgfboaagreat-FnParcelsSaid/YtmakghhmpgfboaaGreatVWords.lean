/- V: the words that printed functions use. -/
import Derived.Test.YtmakghhmpgfboaaGreatVDefs
namespace Go.V
variable {R:Type}
@[reducible] def w64 (n:Int):Int:=IntKind.wrap .i64 n
def inb (i n:Int) (k:Option R):Option R:=bif decide (0≤i) then (bif decide (i<n) then k else none) else none
def inc (i n:Int) (k:Option R):Option R:=bif decide (0≤i) then (bif decide (i≤n) then k else none) else none
def inc2 (i j n:Int) (k:Option R):Option R:=bif decide (0≤i) then (bif decide (i≤j) then (bif decide (j≤n) then k else none) else none) else none
def rm (b n:Nat) (k:Option R):Option R:=bif room b n then k else none
def mks (b:Nat) (n:Int) (k:Option R):Option R:=bif decide (n=n) then (bif decide (0≤n) then (bif room b n.toNat then k else none) else none) else none
def cat (a b:ByteArray) (k:Option R):Option R:=bif decide (((a.size+b.size:Nat):Int) > IntKind.i64.max) then none else k
def seq (a b:ByteArray):Bool:=a.toList==b.toList
def sls (a b:ByteArray):Bool:=Op.bytesLess a.toList b.toList
def bitNot (k:IntKind) (n:Int):Int:=k.wrap (BitVec.ofInt k.bits (if k.signed then -1 else k.max) ^^^ BitVec.ofInt k.bits n).toNat
theorem inb_eq {i n:Int} {k:Option R} (h0:0≤i) (h1:i<n):inb i n k=k:=by simp [inb,h0,h1]
theorem inc_eq {i n:Int} {k:Option R} (h0:0≤i) (h1:i≤n):inc i n k=k:=by simp [inc,h0,h1]
theorem inc2_eq {i j n:Int} {k:Option R} (h0:0≤i) (h1:i≤j) (h2:j≤n):inc2 i j n k=k:=by simp [inc2,h0,h1,h2]
theorem rm_eq {b n:Nat} {k:Option R} (h:n*b≤140737488355328) (h':n≤140737488355328):rm b n k=k:=by simp [rm,room,h,h']
theorem mks_eq {b:Nat} {n:Int} {k:Option R} (h0:0≤n) (h:n.toNat*b≤140737488355328) (h':n.toNat≤140737488355328):mks b n k=k:=by simp [mks,room,h0,h,h']
theorem cat_eq {a b:ByteArray} {k:Option R} (h:a.size+b.size≤9223372036854775807):cat a b k=k:=by
 have:¬ (((a.size+b.size:Nat):Int) > IntKind.i64.max):=by
  have:IntKind.i64.max=9223372036854775807:=by decide
  rw [this];omega
 simp only [cat,this,decide_false,cond_false]
theorem w64_eq {n:Int} (h0 : -9223372036854775808≤n) (h1:n≤9223372036854775807):w64 n=n:=by
 unfold w64 IntKind.wrap
 simp [IntKind.bits,IntKind.signed]
 omega
end Go.V

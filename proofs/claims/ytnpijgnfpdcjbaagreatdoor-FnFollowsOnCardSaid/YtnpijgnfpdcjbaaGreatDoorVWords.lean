/- V: the words that printed functions use. -/
import Derived.Test.YtnpijgnfpdcjbaaGreatDoorVDefs
namespace Go.V
variable {R:Type}
@[reducible] def aJ (n:Int):Int:=IntKind.wrap .i64 n
def bF (i n:Int) (k:Option R):Option R:=bif decide (0≤i) then (bif decide (i<n) then k else none) else none
def pJ (i n:Int) (k:Option R):Option R:=bif decide (0≤i) then (bif decide (i≤n) then k else none) else none
def Cb (i j n:Int) (k:Option R):Option R:=bif decide (0≤i) then (bif decide (i≤j) then (bif decide (j≤n) then k else none) else none) else none
def rm (b n:Nat) (k:Option R):Option R:=bif vk b n then k else none
def uy (b:Nat) (n:Int) (k:Option R):Option R:=bif decide (n=n) then (bif decide (0≤n) then (bif vk b n.toNat then k else none) else none) else none
def ke (a b:ByteArray) (k:Option R):Option R:=bif decide (((a.size+b.size:Nat):Int) > IntKind.i64.max) then none else k
def seq (a b:ByteArray):Bool:=a.toList==b.toList
def mo (a b:ByteArray):Bool:=Op.bytesLess a.toList b.toList
def DO (k:IntKind) (n:Int):Int:=k.wrap (BitVec.ofInt k.bits (if k.signed then -1 else k.max) ^^^ BitVec.ofInt k.bits n).toNat
theorem aH {i n:Int} {k:Option R} (h0:0≤i) (h1:i<n):bF i n k=k:=by simp [bF,h0,h1]
theorem cM {i n:Int} {k:Option R} (h0:0≤i) (h1:i≤n):pJ i n k=k:=by simp [pJ,h0,h1]
theorem s7 {i j n:Int} {k:Option R} (h0:0≤i) (h1:i≤j) (h2:j≤n):Cb i j n k=k:=by simp [Cb,h0,h1,h2]
theorem KW {b n:Nat} {k:Option R} (h:n*b≤140737488355328) (h':n≤140737488355328):rm b n k=k:=by simp [rm,vk,h,h']
theorem CK {b:Nat} {n:Int} {k:Option R} (h0:0≤n) (h:n.toNat*b≤140737488355328) (h':n.toNat≤140737488355328):uy b n k=k:=by simp [uy,vk,h0,h,h']
theorem A9 {a b:ByteArray} {k:Option R} (h:a.size+b.size≤9223372036854775807):ke a b k=k:=by
 have:¬ (((a.size+b.size:Nat):Int) > IntKind.i64.max):=by
  have:IntKind.i64.max=9223372036854775807:=by decide
  rw [this];omega
 simp only [ke,this,decide_false,cond_false]
theorem aD {n:Int} (h0 : -9223372036854775808≤n) (h1:n≤9223372036854775807):aJ n=n:=by
 unfold aJ IntKind.wrap
 simp [IntKind.bits,IntKind.signed]
 omega
end Go.V

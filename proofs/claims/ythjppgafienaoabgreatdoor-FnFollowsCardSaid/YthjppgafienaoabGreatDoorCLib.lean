/- The library's functions, and ReadDec, keep their contracts. -/
import Derived.Test.YthjppgafienaoabGreatDoorVTab
import Derived.Test.YthjppgafienaoabGreatDoorXLib
import Derived.Test.YthjppgafienaoabGreatDoorShelf
import Derived.Lib.QuietBelow
import Derived.WalkKit
import Derived.ProofKit
set_option linter.unusedVariables false
set_option linter.unusedSimpArgs false
set_option maxRecDepth 100000
namespace Go.Proofs.YthjppgafienaoabGreatDoor.G
open Go Go.V Go.RowKit Go.Shelf Go.Lib Go.Sort
theorem JJ {P:Program} {f:Nat} {fn:Func} {c:Code} (hf:P.funcs[f]?=some fn) (hname:(fn.name == "runtime.NumGoroutine")=false) (hb:fn.body=some c) (w:World) (vs:Array Value):(callFunc f vs).run P w = .ok (.enter f vs) w:=by
 have h1:fn.name ≠ "runtime.NumGoroutine" := by simpa using hname
 simp [callFunc,hf,h1,hb]
theorem FT (w:World) (q:Nat) (os:Array Obj):Below w.heap.size w (grow (w.drewN q) os) :=
 ⟨rfl,rfl,rfl,by first | (simp [grow];done) | (simp [grow];omega),fun i hi=>by
  show ((w.drewN q).heap++os)[i]?=_
  rw [Array.getElem?_append_left (by show i<w.heap.size;omega)]
  rfl⟩
theorem DZ {w w':World} (h:Below w.heap.size w w') (bs:List Nat):yN bs w w':=⟨h.os,h.tape,h.output,h.size,fun k hk _=>h.block k hk⟩
theorem BM {P:Program} {f:Nat} {fn:Func} {c:Code} {A:List Pm} {R:List Ty} {g:(tup (nM A)).d→Option (tup (gC A++R)).d} (hbx:rH R=false) (hf:P.funcs[f]?=some fn) (hname:(fn.name == "runtime.NumGoroutine")=false) (hb:fn.body=some c)
 (h:∀ x y,g x=some y→∀ (w:World) (vs:List Value) (bs:List Nat) (Xa:Nat→Prop),J.ok w→tU w Xa A x vs bs →
  bs=[]∧Calls P f vs.toArray w fun e w'=>∃ cs,e = .returned (E0 (ip R cs))∧Below w.heap.size w w'∧xt w' (fun _=>False) A vs (A4 (gC A) y) []∧lY w' (fun _=>False) (fun _=>True) (tup R) (n8 (gC A) y) cs []):Ds J P f ⟨A,R,true,false,g⟩ :=
 ⟨JJ hf hname hb,fun q=>absurd (hbx.symm.trans q) (by decide),fun _ x y hy w vs bs Xa hJ hB hXa hA hnd=>by
  obtain ⟨rfl,hc⟩:=h x y hy w vs bs Xa hJ hA
  refine hc.mono fun e w' ⟨cs,he,hbl,ho,hr⟩=>⟨[],cs,[],he,DZ hbl [],by simp [ah],by simp [ah],fun _=>False,fun b q=>q.elim,ho,?_⟩
  exact hr⟩
def mI.C (k:Nat):Cn:=⟨[.val (.int .i64)],[.str],true,false,fun x=>mI.f k x.1⟩
theorem mI.ctr (k:Nat):Ds J Tryz.prog 140 (mI.C k):=by
 refine BM rfl Tryz.func140 (by kernel_rfl) rfl fun x y hy w vs bs Xa hJ hA=>?_
 obtain ⟨c,us,rfl,hc,rfl,rfl⟩:=hA
 refine ⟨rfl,?_⟩
 cases hc
 unfold mI.f at hy
 by_cases q : -9223372036854775808≤x.1∧x.1≤9223372036854775807
 · rw [decide_eq_true q,cond_true] at hy
   obtain rfl:=Option.some.inj hy
   refine (Tryz.strconv_Itoa x.1 q.1 q.2 w hJ.2.1).mono ?_
   rintro e w' ⟨rfl,d,os,rfl⟩
   exact ⟨[.string ⟨(Lib.itoa x.1).toArray⟩],rfl,FT w d os,⟨_,_,rfl,rfl,rfl⟩,[_],[],[],[],rfl,rfl,⟨rfl,rfl⟩,⟨rfl,rfl⟩⟩
 · rw [decide_eq_false q,cond_false] at hy
   cases hy
def iC.C (k:Nat):Cn:=⟨[.val .str,.val .str],[.bool],true,false,fun x=>iC.f k x.1 x.2.1⟩
theorem iC.ctr (k:Nat):Ds J Tryz.prog 37 (iC.C k):=by
 refine BM rfl Tryz.func37 (by kernel_rfl) rfl fun x y hy w vs bs Xa hJ hA=>?_
 obtain ⟨c,us,rfl,hc,c',us',rfl,hc',rfl,rfl⟩:=hA
 refine ⟨rfl,?_⟩
 cases hc;cases hc'
 obtain rfl:=Option.some.inj hy
 refine (Tryz.strings_HasPrefix x.1 x.2.1 w).mono ?_
 rintro e w' ⟨rfl,rfl⟩
 exact ⟨[.bool (Lib.hasPrefix x.1.data.toList x.2.1.data.toList)],rfl,Below.refl _ _,⟨_,_,rfl,_,_,rfl,rfl,rfl⟩,[_],[],[],[],rfl,rfl,⟨rfl,rfl⟩,⟨rfl,rfl⟩⟩
end Go.Proofs.YthjppgafienaoabGreatDoor.G

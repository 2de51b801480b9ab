/- The library's functions, and ReadDec, keep their contracts. -/
import Derived.Test.YtmakghhmpgfboaaGreatDoorVTab
import Derived.Test.YtmakghhmpgfboaaGreatDoorXLib
import Derived.Test.YtmakghhmpgfboaaGreatDoorShelf
import Derived.Lib.QuietBelow
import Derived.WalkKit
import Derived.ProofKit
set_option linter.unusedVariables false
set_option linter.unusedSimpArgs false
set_option maxRecDepth 100000
namespace Go.Proofs.YtmakghhmpgfboaaGreatDoor.G
open Go Go.V Go.RowKit Go.Shelf Go.Lib Go.Sort
theorem enters' {P:Program} {f:Nat} {fn:Func} {c:Code} (hf:P.funcs[f]?=some fn) (hname:(fn.name == "runtime.NumGoroutine")=false) (hb:fn.body=some c) (w:World) (vs:Array Value):(callFunc f vs).run P w = .ok (.enter f vs) w:=by
 have h1:fn.name ≠ "runtime.NumGoroutine" := by simpa using hname
 simp [callFunc,hf,h1,hb]
theorem below_lib (w:World) (q:Nat) (os:Array Obj):Below w.heap.size w (grow (w.drewN q) os) :=
 ⟨rfl,rfl,rfl,by first | (simp [grow];done) | (simp [grow];omega),fun i hi=>by
  show ((w.drewN q).heap++os)[i]?=_
  rw [Array.getElem?_append_left (by show i<w.heap.size;omega)]
  rfl⟩
theorem kept_below {w w':World} (h:Below w.heap.size w w') (bs:List Nat):Kept bs w w':=⟨h.os,h.tape,h.output,h.size,fun k hk _=>h.block k hk⟩
theorem ctr_flat {P:Program} {f:Nat} {fn:Func} {c:Code} {A:List Pm} {R:List Ty} {g:(tup (ins A)).den→Option (tup (outT A++R)).den} (hbx:isBx R=false) (hf:P.funcs[f]?=some fn) (hname:(fn.name == "runtime.NumGoroutine")=false) (hb:fn.body=some c)
 (h:∀ x y,g x=some y→∀ (w:World) (vs:List Value) (bs:List Nat) (Xa:Nat→Prop),J.ok w→ArgR w Xa A x vs bs →
  bs=[]∧Calls P f vs.toArray w fun e w'=>∃ cs,e = .returned (oneV (valsRep R cs))∧Below w.heap.size w w'∧OutR w' (fun _=>False) A vs (fstT (outT A) y) []∧ResO w' (fun _=>False) (fun _=>True) (tup R) (sndT (outT A) y) cs []):Ctr J P f ⟨A,R,true,false,g⟩ :=
 ⟨enters' hf hname hb,fun q=>absurd (hbx.symm.trans q) (by decide),fun _ x y hy w vs bs Xa hJ hB hXa hA hnd=>by
  obtain ⟨rfl,hc⟩:=h x y hy w vs bs Xa hJ hA
  refine hc.mono fun e w' ⟨cs,he,hbl,ho,hr⟩=>⟨[],cs,[],he,kept_below hbl [],by simp [blocksOf],by simp [blocksOf],fun _=>False,fun b q=>q.elim,ho,?_⟩
  exact hr⟩
def lib_Itoa.C (k:Nat):Cn:=⟨[.val (.int .i64)],[.str],true,false,fun x=>lib_Itoa.f k x.1⟩
theorem lib_Itoa.ctr (k:Nat):Ctr J Tryz.prog 218 (lib_Itoa.C k):=by
 refine ctr_flat rfl Tryz.func218 (by kernel_rfl) rfl fun x y hy w vs bs Xa hJ hA=>?_
 obtain ⟨c,us,rfl,hc,rfl,rfl⟩:=hA
 refine ⟨rfl,?_⟩
 cases hc
 unfold lib_Itoa.f at hy
 by_cases q : -9223372036854775808≤x.1∧x.1≤9223372036854775807
 · rw [decide_eq_true q,cond_true] at hy
   obtain rfl:=Option.some.inj hy
   refine (Tryz.strconv_Itoa x.1 q.1 q.2 w hJ.2.1).mono ?_
   rintro e w' ⟨rfl,d,os,rfl⟩
   exact ⟨[.string ⟨(Lib.itoa x.1).toArray⟩],rfl,below_lib w d os,⟨_,_,rfl,rfl,rfl⟩,[_],[],[],[],rfl,rfl,⟨rfl,rfl⟩,⟨rfl,rfl⟩⟩
 · rw [decide_eq_false q,cond_false] at hy
   cases hy
end Go.Proofs.YtmakghhmpgfboaaGreatDoor.G

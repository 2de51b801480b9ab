/- The library's functions, and ReadDec, keep their contracts. -/
import Derived.Test.YtdbekilnpjmeaaaGreatDoorVTab
import Derived.Test.YtdbekilnpjmeaaaGreatDoorXLib
import Derived.Test.YtdbekilnpjmeaaaGreatDoorShelf
import Derived.Lib.QuietBelow
import Derived.WalkKit
import Derived.ProofKit
set_option linter.unusedVariables false
set_option linter.unusedSimpArgs false
set_option maxRecDepth 100000
namespace Go.Proofs.YtdbekilnpjmeaaaGreatDoor.G
open Go Go.V Go.RowKit Go.Shelf Go.Lib Go.Sort
theorem Id {P:Program} {f:Nat} {fn:Func} {c:Code} (hf:P.funcs[f]?=some fn) (hname:(fn.name == "runtime.NumGoroutine")=false) (hb:fn.body=some c) (w:World) (vs:Array Value):(callFunc f vs).run P w = .ok (.enter f vs) w:=by
 have h1:fn.name ≠ "runtime.NumGoroutine" := by simpa using hname
 simp [callFunc,hf,h1,hb]
theorem FU (w:World) (q:Nat) (os:Array Obj):Below w.heap.size w (grow (w.drewN q) os) :=
 ⟨rfl,rfl,rfl,by first | (simp [grow];done) | (simp [grow];omega),fun i hi=>by
  show ((w.drewN q).heap++os)[i]?=_
  rw [Array.getElem?_append_left (by show i<w.heap.size;omega)]
  rfl⟩
theorem DE {w w':World} (h:Below w.heap.size w w') (bs:List Nat):xe bs w w':=⟨h.os,h.tape,h.output,h.size,fun k hk _=>h.block k hk⟩
theorem GJ {P:Program} {f:Nat} {fn:Func} {c:Code} {A:List Pm} {R:List Ty} {g:(tup (nh A)).den→Option (tup (gG A++R)).den} (hbx:rJ R=false) (hf:P.funcs[f]?=some fn) (hname:(fn.name == "runtime.NumGoroutine")=false) (hb:fn.body=some c)
 (h:∀ x y,g x=some y→∀ (w:World) (vs:List Value) (bs:List Nat) (Xa:Nat→Prop),J.ok w→sk w Xa A x vs bs →
  bs=[]∧Calls P f vs.toArray w fun e w'=>∃ cs,e = .returned (DG (ic R cs))∧Below w.heap.size w w'∧vp w' (fun _=>False) A vs (AJ (gG A) y) []∧lk w' (fun _=>False) (fun _=>True) (tup R) (nP (gG A) y) cs []):EG J P f ⟨A,R,true,false,g⟩ :=
 ⟨Id hf hname hb,fun q=>absurd (hbx.symm.trans q) (by decide),fun _ x y hy w vs bs Xa hJ hB hXa hA hnd=>by
  obtain ⟨rfl,hc⟩:=h x y hy w vs bs Xa hJ hA
  refine hc.mono fun e w' ⟨cs,he,hbl,ho,hr⟩=>⟨[],cs,[],he,DE hbl [],by simp [ab],by simp [ab],fun _=>False,fun b q=>q.elim,ho,?_⟩
  exact hr⟩
def mN.C (k:Nat):Cn:=⟨[.val (.int .i64)],[.str],true,false,fun x=>mN.f k x.1⟩
theorem mN.ctr (k:Nat):EG J Tryz.prog 172 (mN.C k):=by
 refine GJ rfl Tryz.func172 (by kernel_rfl) rfl fun x y hy w vs bs Xa hJ hA=>?_
 obtain ⟨c,us,rfl,hc,rfl,rfl⟩:=hA
 refine ⟨rfl,?_⟩
 cases hc
 unfold mN.f at hy
 by_cases q : -9223372036854775808≤x.1∧x.1≤9223372036854775807
 · rw [decide_eq_true q,cond_true] at hy
   obtain rfl:=Option.some.inj hy
   refine (Tryz.strconv_Itoa x.1 q.1 q.2 w hJ.2.1).mono ?_
   rintro e w' ⟨rfl,d,os,rfl⟩
   exact ⟨[.string ⟨(Lib.itoa x.1).toArray⟩],rfl,FU w d os,⟨_,_,rfl,rfl,rfl⟩,[_],[],[],[],rfl,rfl,⟨rfl,rfl⟩,⟨rfl,rfl⟩⟩
 · rw [decide_eq_false q,cond_false] at hy
   cases hy
end Go.Proofs.YtdbekilnpjmeaaaGreatDoor.G

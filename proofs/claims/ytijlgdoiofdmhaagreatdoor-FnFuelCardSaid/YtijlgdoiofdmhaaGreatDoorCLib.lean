/- The library's functions, and ReadDec, keep their contracts. -/
import Derived.Test.YtijlgdoiofdmhaaGreatDoorVTab
import Derived.Test.YtijlgdoiofdmhaaGreatDoorXLib
import Derived.Test.YtijlgdoiofdmhaaGreatDoorShelf
import Derived.Lib.QuietBelow
import Derived.WalkKit
import Derived.ProofKit
import Derived.Lib.AtoiOr
import Derived.Lib.AtoiErrMem
import Derived.Lib.AtoiAllCases
import Derived.BigCall
set_option linter.unusedVariables false
set_option linter.unusedSimpArgs false
set_option maxRecDepth 100000
namespace Go.Proofs.YtijlgdoiofdmhaaGreatDoor.G
open Go Go.V Go.RowKit Go.Shelf Go.Lib Go.Sort
theorem Lz {P:Program} {f:Nat} {fn:Func} {c:Code} (hf:P.funcs[f]?=some fn) (hname:(fn.name == "runtime.NumGoroutine")=false) (hb:fn.body=some c) (w:World) (vs:Array Value):(callFunc f vs).run P w = .ok (.enter f vs) w:=by
 have h1:fn.name ≠ "runtime.NumGoroutine" := by simpa using hname
 simp [callFunc,hf,h1,hb]
theorem CN (w:World) (q:Nat) (os:Array Obj):Below w.heap.size w (grow (w.drewN q) os) :=
 ⟨rfl,rfl,rfl,by first | (simp [grow];done) | (simp [grow];omega),fun i hi=>by
  show ((w.drewN q).heap++os)[i]?=_;rw [Array.getElem?_append_left (by show i<w.heap.size;omega)];rfl⟩
theorem HA {w w':World} (h:Below w.heap.size w w') (bs:List Nat):B_ bs w w':=⟨h.os,h.tape,h.output,h.size,fun k hk _=>h.block k hk⟩
theorem AW {P:Program} {f:Nat} {fn:Func} {c:Code} {A:List Pm} {R:List Ty} {g:(tup (pn A)).d→Option (tup (iG A++R)).d} (hbx:rA R=false) (hf:P.funcs[f]?=some fn) (hname:(fn.name == "runtime.NumGoroutine")=false) (hb:fn.body=some c)
 (h:∀ x y,g x=some y→∀ (w:World) (vs:List Value) (bs:List Nat) (Xa:Nat→Prop),J.ok w→vR w Xa A x vs bs →
  bs=[]∧Calls P f vs.toArray w fun e w'=>∃ cs,e = .returned (GP (kA R cs))∧Below w.heap.size w w'∧yz w' (fun _=>False) A vs (Dj (iG A) y) []∧nX w' (fun _=>False) (fun _=>True) (tup R) (pg (iG A) y) cs []):G3 J P f ⟨A,R,true,false,g⟩ :=
 ⟨Lz hf hname hb,fun q=>absurd (hbx.symm.trans q) (by decide),fun _ x y hy w vs bs Xa hJ hB hXa hA hnd=>by
  obtain ⟨rfl,hc⟩:=h x y hy w vs bs Xa hJ hA;refine hc.mono fun e w' ⟨cs,he,hbl,ho,hr⟩=>⟨[],cs,[],he,HA hbl [],by simp [ay],by simp [ay],fun _=>False,fun b q=>q.elim,ho,?_⟩
  exact hr⟩
def oO.C (k:Nat):Cn:=⟨[.val (.int .i64)],[.str],true,false,fun x=>oO.f k x.1⟩
theorem oO.ctr (k:Nat):G3 J Tryz.prog 240 (oO.C k):=by
 refine AW rfl Tryz.func240 (by kernel_rfl) rfl fun x y hy w vs bs Xa hJ hA=>?_
 obtain ⟨c,us,rfl,hc,rfl,rfl⟩:=hA;refine ⟨rfl,?_⟩;cases hc;unfold oO.f at hy;by_cases q : -9223372036854775808≤x.1∧x.1≤9223372036854775807
 · rw [decide_eq_true q,cond_true] at hy;obtain rfl:=Option.some.inj hy;refine (Tryz.strconv_Itoa x.1 q.1 q.2 w hJ.2.1).mono ?_
   rintro e w' ⟨rfl,d,os,rfl⟩
   exact ⟨[.string ⟨(Lib.itoa x.1).toArray⟩],rfl,CN w d os,⟨_,_,rfl,rfl,rfl⟩,[_],[],[],[],rfl,rfl,⟨rfl,rfl⟩,⟨rfl,rfl⟩⟩
 · rw [decide_eq_false q,cond_false] at hy;cases hy
def ia.C (k:Nat):Cn:=⟨[.val .str,.val .str],[.str,.bool],true,false,fun x=>ia.f k x.1 x.2.1⟩
theorem ia.ctr (k:Nat):G3 J Tryz.prog 241 (ia.C k):=by
 refine AW rfl Tryz.func241 (by kernel_rfl) rfl fun x y hy w vs bs Xa hJ hA=>?_
 obtain ⟨c,us,rfl,hc,c',us',rfl,hc',rfl,rfl⟩:=hA;refine ⟨rfl,?_⟩;cases hc;cases hc';obtain rfl:=Option.some.inj hy;refine (Tryz.strings_CutPrefix x.1 x.2.1 w).mono ?_
 rintro e w' ⟨rfl,rfl⟩
 exact ⟨[.string ⟨(Lib.trimPrefix x.1.data.toList x.2.1.data.toList).toArray⟩,.bool (Lib.hasPrefix x.1.data.toList x.2.1.data.toList)],rfl,Below.refl _ _,⟨_,_,rfl,_,_,rfl,rfl,rfl⟩,
  [_],[_],[],[],rfl,rfl,⟨rfl,rfl⟩,[_],[],[],[],rfl,rfl,⟨rfl,rfl⟩,⟨rfl,rfl⟩⟩
theorem EA (a b c:Int) (w:World):Calls Tryz.prog 15 #[.int .i64 a,.int .i64 b,.int .i64 c] w fun e w'=>e = .returned (.bool (decide (b≤a∧a≤c)))∧w'=w:=by
 go_enter Tryz.func15,Tryz.ntmps15
 go_wp2
 · rename_i h
   go_ret
   exact ⟨congrArg (fun x=>Ending.returned (Value.bool x)) (decide_eq_decide.2 (show (a≤c)↔(b≤a∧a≤c) from ⟨fun q=>⟨h,q⟩,fun q=>q.2⟩)),rfl⟩
 · rename_i h
   go_ret
   exact ⟨congrArg (fun x=>Ending.returned (Value.bool x)) (show false=(decide (b≤a)&&decide (a≤c)) by rw [decide_eq_false (show ¬ b≤a from Int.not_le.2 h)];rfl),rfl⟩
theorem BR (n:Int) (h0 : -9223372036854775808≤n) (h1:n≤9223372036854775807) (w:World) (ht:Lib.TabIs Tryz.prog w "internal/strconv.uint64pow10" .u64 Lib.pow10Tab) :
 Calls Tryz.prog 201 #[.int .i64 n] w fun e w'=>e = .returned (.string ⟨(Lib.itoa n).toArray⟩)∧Below w.heap.size w w':=by
 go_enter Tryz.func201,Tryz.ntmps201
 go_wp2_with (go_at_call 240;refine (Tryz.strconv_Itoa n h0 h1 _ ht).mono ?_;rintro e w' ⟨rfl,d,os,rfl⟩)
 go_ret
 exact ⟨rfl,CN w d os⟩
theorem Hb (s:ByteArray) (v:Int):d8.r s (.ok v)=bif decide (Lib.itoa v=s.toList)&&decide (-999999999≤v∧v≤999999999) then (v,(true,())) else (0,(false,())):=by
 unfold d8.r seq;simp only [Lib.toList_data];by_cases q:Lib.itoa v=s.data.toList
 · rw [decide_eq_true q,show (Lib.itoa v==s.data.toList)=true from beq_iff_eq.2 q]
 · rw [decide_eq_false q,show (Lib.itoa v==s.data.toList)=false from beq_eq_false_iff_ne.2 q]
theorem K4 (s:ByteArray) (hlim:s.size≤281474976710656) (w:World) (ht:Lib.TabIs Tryz.prog w "internal/strconv.uint64pow10" .u64 Lib.pow10Tab) (htab:∀ w',Below w.heap.size w w'→Lib.TabIs Tryz.prog w' "internal/strconv.uint64pow10" .u64 Lib.pow10Tab) (hs:∃ t p,w.var? Tryz.prog "strconv.ErrSyntax" = some #[.iface t p]) (hr:∃ t p,w.var? Tryz.prog "strconv.ErrRange" = some #[.iface t p]) :
 Calls Tryz.prog 242 #[.string s] w fun e w'=>e = .returned (.tuple #[.int .i64 (d8.r s (Lib.atoiAll s.data.toList)).1,.bool (d8.r s (Lib.atoiAll s.data.toList)).2.1])∧Below w.heap.size w w':=by
 cases h:Lib.atoiAll s.data.toList
 case ok v =>
  have hb:=Lib.atoiAll_bounds h
  go_enter Tryz.func242,Tryz.ntmps242
  go_wp2_with (go_at_call 252;refine (Any.strconv_Atoi_ok Tryz.laysC172 s (by omega) v h _).mono ?_;rintro e w' ⟨rfl,hw⟩)
  have hbl:Below w.heap.size w w':=by
   rcases hw with rfl | ⟨t,rfl⟩
   · exact Below.refl _ _
   · exact Lib.bytesWorld_below _ _ _
  by_cases c : -999999999≤v∧v≤999999999
  · go_wp2_with (first | (go_at_call 201;refine (BR v hb.1 hb.2 _ (htab _ hbl)).mono ?_;rintro e w2 ⟨rfl,hb2⟩) | (go_at_call 15;refine (EA _ _ _ _).mono ?_;rintro e w3 ⟨rfl,rfl⟩;rw [decide_eq_true c]))
    all_goals go_wp2
    all_goals go_ret2
    · exact ⟨(show Ending.returned (Value.tuple #[.int .i64 v,.bool true])=_ by rw [Hb,decide_eq_true (show Lib.itoa v=s.toList by assumption),decide_eq_true c];rfl),hbl.trans (hb2.mono hbl.size)⟩
    · exact ⟨(show Ending.returned (Value.tuple #[.int .i64 0,.bool false])=_ by rw [Hb,decide_eq_false (show ¬ Lib.itoa v=s.toList by assumption)];rfl),hbl.trans (hb2.mono hbl.size)⟩
  · go_wp2_with (first | (go_at_call 201;refine (BR v hb.1 hb.2 _ (htab _ hbl)).mono ?_;rintro e w2 ⟨rfl,hb2⟩) | (go_at_call 15;refine (EA _ _ _ _).mono ?_;rintro e w3 ⟨rfl,rfl⟩;rw [decide_eq_false c]))
    all_goals go_wp2
    all_goals go_ret2
    · exact ⟨(show Ending.returned (Value.tuple #[.int .i64 0,.bool false])=_ by rw [Hb,decide_eq_true (show Lib.itoa v=s.toList by assumption),decide_eq_false c];rfl),hbl.trans (hb2.mono hbl.size)⟩
    · exact ⟨(show Ending.returned (Value.tuple #[.int .i64 0,.bool false])=_ by rw [Hb,decide_eq_false (show ¬ Lib.itoa v=s.toList by assumption)];rfl),hbl.trans (hb2.mono hbl.size)⟩
 · obtain ⟨t,p,hs⟩:=hs
   go_enter Tryz.func242,Tryz.ntmps242
   go_wp2_with (go_at_call 252;refine (Any.strconv_Atoi_syntax_var Tryz.laysC172 s hlim h t p _ hs).mono ?_)
   rintro e W1 ⟨N,rfl,-,-,hb⟩
   go_wp2
   go_ret2
   exact ⟨rfl,hb⟩
 · obtain ⟨t,p,hr⟩:=hr
   go_enter Tryz.func242,Tryz.ntmps242
   go_wp2_with (go_at_call 252;refine (Any.strconv_Atoi_range_var Tryz.laysC172 s hlim h t p _ hr).mono ?_)
   rintro e W1 ⟨N,rfl,-,-,hb⟩
   go_wp2
   go_ret2
   exact ⟨rfl,hb⟩
def d8.C (k:Nat):Cn:=⟨[.val .str],[.int .i64,.bool],true,false,fun x=>d8.f k x.1⟩
theorem d8.ctr (k:Nat):G3 J Tryz.prog 242 (d8.C k):=by
 refine AW rfl Tryz.func242 (by kernel_rfl) rfl fun x y hy w vs bs Xa hJ hA=>?_
 obtain ⟨c,us,rfl,hc,rfl,rfl⟩:=hA;refine ⟨rfl,?_⟩;cases hc;unfold d8.f at hy;by_cases q:x.1.size≤281474976710656
 · rw [decide_eq_true q,cond_true] at hy;obtain rfl:=Option.some.inj hy;refine (K4 x.1 q w hJ.2.1 (fun w' hb=>(J.frame w w' hJ (fun k hk=>hb.block k (Nat.lt_of_lt_of_le hk hJ.1)) hb.size).2.1) hJ.2.2.1 hJ.2.2.2.1).mono ?_
   rintro e w' ⟨rfl,hb⟩
   exact ⟨[.int .i64 (d8.r x.1 (Lib.atoiAll x.1.data.toList)).1,.bool (d8.r x.1 (Lib.atoiAll x.1.data.toList)).2.1],rfl,hb,⟨_,_,rfl,rfl,rfl⟩,
    [_],[_],[],[],rfl,rfl,⟨rfl,rfl⟩,[_],[],[],[],rfl,rfl,⟨rfl,rfl⟩,⟨rfl,rfl⟩⟩
 · rw [decide_eq_false q,cond_false] at hy;cases hy
end Go.Proofs.YtijlgdoiofdmhaaGreatDoor.G

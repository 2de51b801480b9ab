/- The library's functions, and ReadDec, keep their contracts. -/
import Derived.Test.YteejjngdagmofaaGreatDoorVTab
import Derived.Test.YteejjngdagmofaaGreatDoorXLib
import Derived.Test.YteejjngdagmofaaGreatDoorShelf
import Derived.Lib.QuietBelow
import Derived.WalkKit
import Derived.ProofKit
import Derived.Lib.AtoiOr
import Derived.Lib.AtoiErrMem
import Derived.Lib.AtoiAllCases
import Derived.BigCall
set_option linter.unusedVariables false
set_option linter.unusedSimpArgs false
set_option maxRecDepth 100000
namespace Go.Proofs.YteejjngdagmofaaGreatDoor.G
open Go Go.V Go.RowKit Go.Shelf Go.Lib Go.Sort
theorem KG {P:Program} {f:Nat} {fn:Func} {c:Code} (hf:P.funcs[f]?=some fn) (hname:(fn.name == "runtime.NumGoroutine")=false) (hb:fn.body=some c) (w:World) (vs:Array Value):(callFunc f vs).run P w = .ok (.enter f vs) w:=by
 have h1:fn.name ≠ "runtime.NumGoroutine" := by simpa using hname
 simp [callFunc,hf,h1,hb]
theorem CS (w:World) (q:Nat) (os:Array Obj):Below w.heap.size w (grow (w.drewN q) os) :=
 ⟨rfl,rfl,rfl,by first | (simp [grow];done) | (simp [grow];omega),fun i hi=>by
  show ((w.drewN q).heap++os)[i]?=_;rw [Array.getElem?_append_left (by show i<w.heap.size;omega)];rfl⟩
theorem IP {w w':World} (h:Below w.heap.size w w') (bs:List Nat):Bq bs w w':=⟨h.os,h.tape,h.output,h.size,fun k hk _=>h.block k hk⟩
theorem zI {P:Program} {f:Nat} {fn:Func} {c:Code} {A:List Pm} {R:List Ty} {g:(tup (pE A)).d→Option (tup (gx A++R)).d} (hbx:pa R=false) (hf:P.funcs[f]?=some fn) (hname:(fn.name == "runtime.NumGoroutine")=false) (hb:fn.body=some c)
 (h:∀ x y,g x=some y→∀ (w:World) (vs:List Value) (bs:List Nat) (Xa:Nat→Prop),J.ok w→vO w Xa A x vs bs →
  bs=[]∧Calls P f vs.toArray w fun e w'=>∃ cs,e = .returned (I9 (jO R cs))∧Below w.heap.size w w'∧zH w' (fun _=>False) A vs (EZ (gx A) y) []∧mT w' (fun _=>False) (fun _=>True) (tup R) (od (gx A) y) cs []):HZ J P f ⟨A,R,true,false,g⟩ :=
 ⟨KG hf hname hb,fun q=>absurd (hbx.symm.trans q) (by decide),fun _ x y hy w vs bs Xa hJ hB hXa hA hnd=>by
  obtain ⟨rfl,hc⟩:=h x y hy w vs bs Xa hJ hA;refine hc.mono fun e w' ⟨cs,he,hbl,ho,hr⟩=>⟨[],cs,[],he,IP hbl [],by simp [aq],by simp [aq],fun _=>False,fun b q=>q.elim,ho,?_⟩
  exact hr⟩
def nN.C (k:Nat):Cn:=⟨[.val (.int .i64)],[.str],true,false,fun x=>nN.f k x.1⟩
theorem nN.ctr (k:Nat):HZ J Tryz.prog 35 (nN.C k):=by
 refine zI rfl Tryz.func35 (by kernel_rfl) rfl fun x y hy w vs bs Xa hJ hA=>?_
 obtain ⟨c,us,rfl,hc,rfl,rfl⟩:=hA;refine ⟨rfl,?_⟩;cases hc;unfold nN.f at hy;by_cases q : -9223372036854775808≤x.1∧x.1≤9223372036854775807
 · rw [decide_eq_true q,cond_true] at hy;obtain rfl:=Option.some.inj hy;refine (Tryz.strconv_Itoa x.1 q.1 q.2 w hJ.2.1).mono ?_
   rintro e w' ⟨rfl,d,os,rfl⟩
   exact ⟨[.string ⟨(Lib.itoa x.1).toArray⟩],rfl,CS w d os,⟨_,_,rfl,rfl,rfl⟩,[_],[],[],[],rfl,rfl,⟨rfl,rfl⟩,⟨rfl,rfl⟩⟩
 · rw [decide_eq_false q,cond_false] at hy;cases hy
def iK.C (k:Nat):Cn:=⟨[.val .str,.val .str],[.str,.bool],true,false,fun x=>iK.f k x.1 x.2.1⟩
theorem iK.ctr (k:Nat):HZ J Tryz.prog 166 (iK.C k):=by
 refine zI rfl Tryz.func166 (by kernel_rfl) rfl fun x y hy w vs bs Xa hJ hA=>?_
 obtain ⟨c,us,rfl,hc,c',us',rfl,hc',rfl,rfl⟩:=hA;refine ⟨rfl,?_⟩;cases hc;cases hc';obtain rfl:=Option.some.inj hy;refine (Tryz.strings_CutPrefix x.1 x.2.1 w).mono ?_
 rintro e w' ⟨rfl,rfl⟩
 exact ⟨[.string ⟨(Lib.trimPrefix x.1.data.toList x.2.1.data.toList).toArray⟩,.bool (Lib.hasPrefix x.1.data.toList x.2.1.data.toList)],rfl,Below.refl _ _,⟨_,_,rfl,_,_,rfl,rfl,rfl⟩,
  [_],[_],[],[],rfl,rfl,⟨rfl,rfl⟩,[_],[],[],[],rfl,rfl,⟨rfl,rfl⟩,⟨rfl,rfl⟩⟩
def iD.C (k:Nat):Cn:=⟨[.val .str,.val .str],[.slice .str],true,false,fun x=>iD.f k x.1 x.2.1⟩
theorem Jo (w:World) (X:Nat→Prop):∀ l:List ByteArray,mO (Rd w X .str) l (l.map Value.string)
 | []=>rfl
 | x::l=>⟨[.string x],l.map Value.string,rfl,rfl,Jo w X l⟩
theorem iD.ctr (k:Nat):HZ J Tryz.prog 12 (iD.C k) :=
 ⟨KG Tryz.func12 (by kernel_rfl) rfl,fun q=>absurd q (by simp [iD.C,pa]),fun _ x y hy w vs bs Xa hJ hB hXa hA hnd=>by
  obtain ⟨c,us,rfl,hc,c',us',rfl,hc',rfl,rfl⟩:=hA;cases hc;cases hc';obtain ⟨m,hm⟩:=hJ.2.2.2.2.1;unfold iD.C iD.f at hy;simp only [] at hy;by_cases q:x.1.size<4294967281∧1≤x.2.1.size
  · rw [decide_eq_true q,cond_true] at hy;obtain rfl:=Option.some.inj hy;refine (Tryz.strings_Split x.1 x.2.1 m w q.1 hm q.2).mono ?_
    rintro e w' ⟨rfl,rfl⟩
    have hlen:(Lib.splitB x.2.1 0 (Lib.countB x.1 x.2.1) x.1).length=Lib.countB x.1 x.2.1+1:=Lib.splitB_all x.2.1 q.2 0 _ x.1 rfl;have hle:=Lib.countB_le x.2.1 q.2 x.1.size x.1 (Nat.le_refl _);have hbelow:Below w.heap.size w (w.alloc (.cells ((Lib.splitB x.2.1 0 (Lib.countB x.1 x.2.1) x.1).map Value.string).toArray (9))):=⟨rfl,rfl,rfl,by show w.heap.size≤(Array.push w.heap _).size;rw [Array.size_push];omega,fun i hi=>by
     show (Array.push w.heap _)[i]?=_;rw [Array.getElem?_push_lt hi,Array.getElem?_eq_getElem hi]⟩
    generalize hl:Lib.splitB x.2.1 0 (Lib.countB x.1 x.2.1) x.1=l at hlen hbelow ⊢;generalize Lib.countB x.1 x.2.1=n at hlen hle ⊢;refine ⟨[],[.slice (some ⟨w.heap.size,0,none⟩) (n+1) (n+1)],[⟨.slice (some ⟨w.heap.size,0,none⟩) (n+1) (n+1),w.heap.size,1,n+1⟩],rfl,⟨hbelow.os,hbelow.tape,hbelow.output,hbelow.size,fun k hk _=>hbelow.block k hk⟩,?_,?_,fun _=>False,fun b q=>q.elim,?_,?_⟩
    · simp [aq,Value.ownBlock]
    · intro b hb;simp [aq,Value.ownBlock] at hb;exact .inl (Nat.le_of_eq hb.symm)
    · exact ⟨_,_,rfl,_,_,rfl,rfl,rfl⟩
    · show mT _ _ _ (.pair (.slice .str) .unit) _ _ _;refine ⟨[_],[],[_],[],rfl,rfl,⟨_,9,l.map Value.string,rfl,?_,Jo _ _ l,?_⟩,rfl,rfl⟩
      · show lA _ _ _ 1 _ l.length _;refine ⟨by rw [List.length_map,Nat.mul_one],.inr ⟨w.heap.size,n+1,(l.map Value.string).toArray,by rw [hlen],trivial,?_,by omega,?_,by simp [hlen],?_⟩⟩
        · show (Array.push w.heap _)[w.heap.size]?=_;rw [Array.getElem?_push_size]
        · have:n+1≤4294967282:=by omega
          exact Nat.le_trans this (by decide)
        · rw [hlen,Nat.mul_one];show ((l.map Value.string).toArray).toList.take (n+1)=_;rw [List.take_of_length_le (by simp [hlen])]
      · show [_]=[(⟨_,_,_,l.length⟩:ig)];rw [hlen];rfl
  · rw [decide_eq_false q,cond_false] at hy;cases hy⟩
theorem GN (a b c:Int) (w:World):Calls Tryz.prog 14 #[.int .i64 a,.int .i64 b,.int .i64 c] w fun e w'=>e = .returned (.bool (decide (b≤a∧a≤c)))∧w'=w:=by
 go_enter Tryz.func14,Tryz.ntmps14
 go_wp2
 · rename_i h
   go_ret
   exact ⟨congrArg (fun x=>Ending.returned (Value.bool x)) (decide_eq_decide.2 (show (a≤c)↔(b≤a∧a≤c) from ⟨fun q=>⟨h,q⟩,fun q=>q.2⟩)),rfl⟩
 · rename_i h
   go_ret
   exact ⟨congrArg (fun x=>Ending.returned (Value.bool x)) (show false=(decide (b≤a)&&decide (a≤c)) by rw [decide_eq_false (show ¬ b≤a from Int.not_le.2 h)];rfl),rfl⟩
theorem DL (n:Int) (h0 : -9223372036854775808≤n) (h1:n≤9223372036854775807) (w:World) (ht:Lib.TabIs Tryz.prog w "internal/strconv.uint64pow10" .u64 Lib.pow10Tab) :
 Calls Tryz.prog 18 #[.int .i64 n] w fun e w'=>e = .returned (.string ⟨(Lib.itoa n).toArray⟩)∧Below w.heap.size w w':=by
 go_enter Tryz.func18,Tryz.ntmps18
 go_wp2_with (go_at_call 35;refine (Tryz.strconv_Itoa n h0 h1 _ ht).mono ?_;rintro e w' ⟨rfl,d,os,rfl⟩)
 go_ret
 exact ⟨rfl,CS w d os⟩
theorem Jk (s:ByteArray) (v:Int):bj.r s (.ok v)=bif decide (Lib.itoa v=s.toList)&&decide (-999999999≤v∧v≤999999999) then (v,(true,())) else (0,(false,())):=by
 unfold bj.r seq;simp only [Lib.toList_data];by_cases q:Lib.itoa v=s.data.toList
 · rw [decide_eq_true q,show (Lib.itoa v==s.data.toList)=true from beq_iff_eq.2 q]
 · rw [decide_eq_false q,show (Lib.itoa v==s.data.toList)=false from beq_eq_false_iff_ne.2 q]
theorem NX (s:ByteArray) (hlim:s.size≤281474976710656) (w:World) (ht:Lib.TabIs Tryz.prog w "internal/strconv.uint64pow10" .u64 Lib.pow10Tab) (htab:∀ w',Below w.heap.size w w'→Lib.TabIs Tryz.prog w' "internal/strconv.uint64pow10" .u64 Lib.pow10Tab) (hs:∃ t p,w.var? Tryz.prog "strconv.ErrSyntax" = some #[.iface t p]) (hr:∃ t p,w.var? Tryz.prog "strconv.ErrRange" = some #[.iface t p]) :
 Calls Tryz.prog 20 #[.string s] w fun e w'=>e = .returned (.tuple #[.int .i64 (bj.r s (Lib.atoiAll s.data.toList)).1,.bool (bj.r s (Lib.atoiAll s.data.toList)).2.1])∧Below w.heap.size w w':=by
 cases h:Lib.atoiAll s.data.toList
 case ok v =>
  have hb:=Lib.atoiAll_bounds h
  go_enter Tryz.func20,Tryz.ntmps20
  go_wp2_with (go_at_call 36;refine (Any.strconv_Atoi_ok Tryz.laysC172 s (by omega) v h _).mono ?_;rintro e w' ⟨rfl,hw⟩)
  have hbl:Below w.heap.size w w':=by
   rcases hw with rfl | ⟨t,rfl⟩
   · exact Below.refl _ _
   · exact Lib.bytesWorld_below _ _ _
  by_cases c : -999999999≤v∧v≤999999999
  · go_wp2_with (first | (go_at_call 18;refine (DL v hb.1 hb.2 _ (htab _ hbl)).mono ?_;rintro e w2 ⟨rfl,hb2⟩) | (go_at_call 14;refine (GN _ _ _ _).mono ?_;rintro e w3 ⟨rfl,rfl⟩;rw [decide_eq_true c]))
    all_goals go_wp2
    all_goals go_ret2
    · exact ⟨(show Ending.returned (Value.tuple #[.int .i64 v,.bool true])=_ by rw [Jk,decide_eq_true (show Lib.itoa v=s.toList by assumption),decide_eq_true c];rfl),hbl.trans (hb2.mono hbl.size)⟩
    · exact ⟨(show Ending.returned (Value.tuple #[.int .i64 0,.bool false])=_ by rw [Jk,decide_eq_false (show ¬ Lib.itoa v=s.toList by assumption)];rfl),hbl.trans (hb2.mono hbl.size)⟩
  · go_wp2_with (first | (go_at_call 18;refine (DL v hb.1 hb.2 _ (htab _ hbl)).mono ?_;rintro e w2 ⟨rfl,hb2⟩) | (go_at_call 14;refine (GN _ _ _ _).mono ?_;rintro e w3 ⟨rfl,rfl⟩;rw [decide_eq_false c]))
    all_goals go_wp2
    all_goals go_ret2
    · exact ⟨(show Ending.returned (Value.tuple #[.int .i64 0,.bool false])=_ by rw [Jk,decide_eq_true (show Lib.itoa v=s.toList by assumption),decide_eq_false c];rfl),hbl.trans (hb2.mono hbl.size)⟩
    · exact ⟨(show Ending.returned (Value.tuple #[.int .i64 0,.bool false])=_ by rw [Jk,decide_eq_false (show ¬ Lib.itoa v=s.toList by assumption)];rfl),hbl.trans (hb2.mono hbl.size)⟩
 · obtain ⟨t,p,hs⟩:=hs
   go_enter Tryz.func20,Tryz.ntmps20
   go_wp2_with (go_at_call 36;refine (Any.strconv_Atoi_syntax_var Tryz.laysC172 s hlim h t p _ hs).mono ?_)
   rintro e W1 ⟨N,rfl,-,-,hb⟩
   go_wp2
   go_ret2
   exact ⟨rfl,hb⟩
 · obtain ⟨t,p,hr⟩:=hr
   go_enter Tryz.func20,Tryz.ntmps20
   go_wp2_with (go_at_call 36;refine (Any.strconv_Atoi_range_var Tryz.laysC172 s hlim h t p _ hr).mono ?_)
   rintro e W1 ⟨N,rfl,-,-,hb⟩
   go_wp2
   go_ret2
   exact ⟨rfl,hb⟩
def bj.C (k:Nat):Cn:=⟨[.val .str],[.int .i64,.bool],true,false,fun x=>bj.f k x.1⟩
theorem bj.ctr (k:Nat):HZ J Tryz.prog 20 (bj.C k):=by
 refine zI rfl Tryz.func20 (by kernel_rfl) rfl fun x y hy w vs bs Xa hJ hA=>?_
 obtain ⟨c,us,rfl,hc,rfl,rfl⟩:=hA;refine ⟨rfl,?_⟩;cases hc;unfold bj.f at hy;by_cases q:x.1.size≤281474976710656
 · rw [decide_eq_true q,cond_true] at hy;obtain rfl:=Option.some.inj hy;refine (NX x.1 q w hJ.2.1 (fun w' hb=>(J.frame w w' hJ (fun k hk=>hb.block k (Nat.lt_of_lt_of_le hk hJ.1)) hb.size).2.1) hJ.2.2.1 hJ.2.2.2.1).mono ?_
   rintro e w' ⟨rfl,hb⟩
   exact ⟨[.int .i64 (bj.r x.1 (Lib.atoiAll x.1.data.toList)).1,.bool (bj.r x.1 (Lib.atoiAll x.1.data.toList)).2.1],rfl,hb,⟨_,_,rfl,rfl,rfl⟩,
    [_],[_],[],[],rfl,rfl,⟨rfl,rfl⟩,[_],[],[],[],rfl,rfl,⟨rfl,rfl⟩,⟨rfl,rfl⟩⟩
 · rw [decide_eq_false q,cond_false] at hy;cases hy
end Go.Proofs.YteejjngdagmofaaGreatDoor.G

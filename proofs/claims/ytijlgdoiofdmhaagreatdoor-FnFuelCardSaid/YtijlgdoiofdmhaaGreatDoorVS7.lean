/- V: soundness, part 7 of 10. -/
import Derived.Test.YtijlgdoiofdmhaaGreatDoorVS6
section
set_option linter.unusedVariables false
set_option linter.unusedSimpArgs false
namespace Go.V
open Go.RowKit
def mT (all:List Oper) (o:Oper) (tm:List AV):Option Bool :=
 match o.guard with
 | none=>some true
 | some (j,want)=>match all[j]? with
  | some g=>match g.dst with
   | some d=>match tm.getD d .junk with
    | .bool b=>some (b==want)
    | .tup []=>some false
    | _=>none
   | none=>none
  | none=>none
theorem zx {tm:List AV} {d:Nat} {v:AV} (h:tm.getD d .junk=v):tm.set d v=tm:=by
 by_cases hd:d<tm.length
 · apply List.ext_getElem?;intro i;by_cases hi:d=i
   · subst hi;simp [List.getD,hd] at h;simp [hd,h]
   · simp [List.getElem?_set_ne hi]
 · exact List.set_eq_of_length_le (by omega)
theorem uM {R:Type} {all:List Oper} {o:Oper} {tm:List AV} {go by_:List AV→Option R} {r:R} (h:yL all o tm go by_=some r) :
 (mT all o tm=some true∧go tm=some r)∨(mT all o tm=some false∧by_ tm=some r):=by
 unfold yL at h;unfold mT;split at h
 · rename_i hg;rw [hg];exact Or.inl ⟨rfl,h⟩
 · rename_i j want hg;rw [hg];simp only [];split at h
   · rename_i g hj;simp only [hj];split at h
     · rename_i d hd;simp only [hd];split at h
       · rename_i b hb;simp only [hb];cases b <;> cases want <;> simp only [cond_true,cond_false] at h <;> rw [zx hb] at h
         · exact Or.inl ⟨rfl,h⟩
         · exact Or.inr ⟨rfl,h⟩
         · exact Or.inr ⟨rfl,h⟩
         · exact Or.inl ⟨rfl,h⟩
       · rename_i hb;simp only [hb]
         first | exact Or.inr ⟨rfl,h⟩ | exact Or.inr ⟨trivial,h⟩
       · cases h
     · cases h
   · cases h
section
variable {P:Program} {tb:mh} {ct:List (Nat × Cn)} {w0:Bs} {w:World} {N:Nat→Prop} {φ:Nat→jF} {tm:List AV} {hp:Hp} {a:Act} {Q:Exit→Act→World→Prop}
theorem tj (h:Ok w0 N φ tm hp a w) {all:List Oper} {o:Oper} {b:Bool} (hw:mT all o tm=some b):Region.wanted o (yielded all.toArray a.tmps)=b:=by
 unfold mT at hw;unfold Region.wanted;split at hw
 · rename_i hg;rw [hg];cases hw;rfl
 · rename_i j want hg;rw [hg];simp only [];split at hw
   · rename_i g hj;split at hw
     · rename_i d hd;split at hw
       · rename_i b' hb;cases hw;have ht:=h.tms d;rw [hb] at ht;have ht:a.tmps.getD d undef = .bool b':=ht;have h2:a.tmps[d]?=some (.bool b'):=by
          cases hq:a.tmps[d]? with
          | none =>
           have:a.tmps.getD d undef=undef:=by simp [hq]
           rw [this] at ht;cases ht
          | some u =>
           have:a.tmps.getD d undef=u:=by simp [hq]
           rw [this] at ht;rw [ht]
         have e:yielded all.toArray a.tmps j=some b':=by unfold yielded;simp [hj,hd,h2]
         rw [e];cases b' <;> cases want <;> rfl
       · rename_i hb;cases hw;have ht:=h.tms d;rw [hb] at ht;unfold dC at ht;obtain ⟨vs,ht,hvs⟩:=ht;unfold dH at hvs;subst hvs;have e:yielded all.toArray a.tmps j=none:=by
          unfold yielded;simp only [List.getElem?_toArray,hj,Option.bind_some,hd];cases hq:a.tmps[d]? with
          | none=>rfl
          | some u =>
           have:a.tmps.getD d undef=u:=by simp [hq]
           rw [this] at ht;rw [ht]
         rw [e];cases want <;> rfl
       · cases hw
     · cases hw
   · cases hw
theorem ML {R:G→G→Prop}:∀ {gs:List G},gs.Pairwise (fun x y=>y.i<x.i∧R x y)→∀ x ∈ gs,∀ y ∈ gs,y.i<x.i→R x y
 | [],_,x,hx,_,_,_=>by cases hx
 | g::gs,hpw,x,hx,y,hy,hlt=>by
  rw [List.pairwise_cons] at hpw;rcases List.mem_cons.1 hx with q | q
  · subst q;rcases List.mem_cons.1 hy with q' | q'
    · subst q';omega
    · exact (hpw.1 y q').2
  · rcases List.mem_cons.1 hy with q' | q'
    · subst q';have:=(hpw.1 x q).1;omega
    · exact ML hpw.2 x q y q' hlt
structure O2 (tb:mh) (ct:List (Nat × Cn)) (all:List Oper) (tm0:List AV) (hp0:Hp) (gs:List G) (g:G) (o:Oper):Prop where
 at_:all[g.i]?=some o
 dst:g.dst=o.dst
 nm:g.nm=named all o
 deps:∀ e ∈ o.after.toList,Region.binds .any e=true→e.on<g.i∧e.on ∈ g.A
 anc:∀ j ∈ g.A,∃ e ∈ o.after.toList,Region.binds .any e=true∧(j=e.on∨∃ g' ∈ gs,g'.i=e.on∧j ∈ g'.A)
 lt:∀ j ∈ g.A,j<g.i
 run:(mT all o (jV tm0 (fun j=>Nat.blt j g.i) gs)=some true∧g.go=true∧g.rd=reads tb ct o (jV tm0 (fun j=>Nat.blt j g.i) gs) (rep hp0 (kW g.A) gs) ∧
  fW tb ct o (jV tm0 (fun j=>Nat.blt j g.i) gs) (rep hp0 (kW g.A) gs) g.id (fun v us nx=>some (v,us,nx))=some (g.v,g.us,g.nx)) ∨
  (mT all o (jV tm0 (fun j=>Nat.blt j g.i) gs)=some false∧g.go=false∧g.us=[]∧g.rd=[]∧g.v = .tup []∧g.id=g.nx)
structure GL (tb:mh) (ct:List (Nat × Cn)) (all:List Oper) (tm0:List AV) (hp0:Hp) (nx0 n nx:Nat) (gs:List G):Prop where
 fact:∀ g ∈ gs,∃ o,O2 tb ct all tm0 hp0 gs g o
 pw:gs.Pairwise (fun x y=>y.i<x.i∧(y.nx≤x.id∧(kW x.A y.i=true∨(O8 y x∧JY y x))))
 cover:∀ i,i<n→∃ g ∈ gs,g.i=i
 lt:∀ g ∈ gs,g.i<n∧nx0≤g.id∧g.id≤g.nx∧g.nx≤nx
 nx:nx0≤nx
theorem GL.skips {all:List Oper} {tm0:List AV} {hp0:Hp} {nx0 n nx:Nat} {gs:List G} (h:GL tb ct all tm0 hp0 nx0 n nx gs):∀ g ∈ gs,g.go=false→g.us=[]:=fun g hg hgo=>by
 obtain ⟨o,f⟩:=h.fact g hg;rcases f.run with ⟨_,q,_⟩ | ⟨_,_,q,_⟩
 · rw [q] at hgo;cases hgo
 · exact q
theorem GL.cons {all:List Oper} {tm0:List AV} {hp0:Hp} {nx0 n nx:Nat} {gs:List G} (h:GL tb ct all tm0 hp0 nx0 n nx gs) {g:G} {o:Oper} (hi:g.i=n) (hid:g.id=nx) (hnx:g.id≤g.nx)
 (f:all[n]?=some o∧g.dst=o.dst∧g.nm=named all o∧(∀ e ∈ o.after.toList,Region.binds .any e=true→e.on<n∧e.on ∈ g.A) ∧
  (∀ j ∈ g.A,∃ e ∈ o.after.toList,Region.binds .any e=true∧(j=e.on∨∃ g' ∈ gs,g'.i=e.on∧j ∈ g'.A))∧(∀ j ∈ g.A,j<n) ∧
  ((mT all o (jV tm0 (fun _=>true) gs)=some true∧g.go=true∧g.rd=reads tb ct o (jV tm0 (fun _=>true) gs) (rep hp0 (kW g.A) gs) ∧
   fW tb ct o (jV tm0 (fun _=>true) gs) (rep hp0 (kW g.A) gs) g.id (fun v us nx=>some (v,us,nx))=some (g.v,g.us,g.nx)) ∨
  (mT all o (jV tm0 (fun _=>true) gs)=some false∧g.go=false∧g.us=[]∧g.rd=[]∧g.v = .tup []∧g.id=g.nx)))
 (far:∀ y ∈ gs,kW g.A y.i=true∨(O8 y g∧JY y g)):GL tb ct all tm0 hp0 nx0 (n+1) g.nx (g::gs):=by
 subst hi;have hnot:∀ l:List Nat,(∀ j ∈ l,j<g.i)→kW l g.i=false:=fun l hl=>by
  cases hb:kW l g.i with
  | false=>rfl
  | true=>have:=hl _ (nF.1 hb);omega
 have e1:jV tm0 (fun j=>Nat.blt j g.i) (g::gs)=jV tm0 (fun _=>true) gs:=by
  simp only [jV];have:Nat.blt g.i g.i=false:=by
   cases hb:Nat.blt g.i g.i with
   | false=>rfl
   | true=>have:=Nat.le_of_ble_eq_true hb;omega
  rw [this,cond_false];exact vO fun y hy=>by have:=(h.lt y hy).1;show Nat.blt y.i g.i=true;exact Nat.ble_eq_true_of_le this
 refine ⟨fun g' hg'=>?_,?_,fun i hi=>?_,fun g' hg'=>?_,?_⟩
 · rcases List.mem_cons.1 hg' with q | q
   · subst q;obtain ⟨f1,f2,f3,f4,f5,f6,f7⟩:=f;refine ⟨o,f1,f2,f3,f4,fun j hj=>?_,f6,?_⟩
     · obtain ⟨e,he,hb,hc⟩:=f5 j hj;exact ⟨e,he,hb,hc.imp id fun ⟨g1,q1,q2⟩=>⟨g1,List.mem_cons_of_mem _ q1,q2⟩⟩
     · have e2:rep hp0 (kW g'.A) (g'::gs)=rep hp0 (kW g'.A) gs:=by
        simp only [rep];rw [hnot _ f6,cond_false]
       rw [e1,e2];exact f7
   · obtain ⟨o',f'⟩:=h.fact g' q;have hlt:=(h.lt g' q).1;have e2:jV tm0 (fun j=>Nat.blt j g'.i) (g::gs)=jV tm0 (fun j=>Nat.blt j g'.i) gs:=by
      simp only [jV];have:Nat.blt g.i g'.i=false:=by
       cases hb:Nat.blt g.i g'.i with
       | false=>rfl
       | true=>have:=Nat.le_of_ble_eq_true hb;omega
      rw [this,cond_false]
     have e3:rep hp0 (kW g'.A) (g::gs)=rep hp0 (kW g'.A) gs:=by simp only [rep];rw [hnot _ (fun j hj=>by have:=f'.lt j hj;omega),cond_false]
     refine ⟨o',f'.at_,f'.dst,f'.nm,f'.deps,fun j hj=>?_,f'.lt,?_⟩
     · obtain ⟨e,he,hb,hc⟩:=f'.anc j hj;exact ⟨e,he,hb,hc.imp id fun ⟨g1,q1,q2⟩=>⟨g1,List.mem_cons_of_mem _ q1,q2⟩⟩
     · rw [e2,e3];exact f'.run
 · rw [List.pairwise_cons];exact ⟨fun y hy=>⟨(h.lt y hy).1,by have:=(h.lt y hy).2.2.2;omega,far y hy⟩,h.pw⟩
 · by_cases q:i=g.i
   · exact ⟨g,List.mem_cons_self ..,q.symm⟩
   · obtain ⟨g',q1,q2⟩:=h.cover i (by omega);exact ⟨g',List.mem_cons_of_mem _ q1,q2⟩
 · have:=h.nx;rcases List.mem_cons.1 hg' with q | q
   · subst q;exact ⟨Nat.lt_succ_self _,by omega,hnx,Nat.le_refl _⟩
   · obtain ⟨q1,q2,q3,q4⟩:=h.lt g' q;exact ⟨by omega,q2,q3,by omega⟩
 · have:=h.nx;omega
end
end Go.V
end
section
namespace Go.V
open Go.RowKit
section
variable {P:Program} {tb:mh} {ct:List (Nat × Cn)} {w0:Bs} {w:World} {N:Nat→Prop} {φ:Nat→jF} {tm:List AV} {hp:Hp} {a:Act} {Q:Exit→Act→World→Prop}
theorem L_ {c x:Bool} (h:(bif c then x else false)=true):c=true∧x=true:=by
 cases c with
 | true=>exact ⟨rfl,h⟩
 | false=>cases h
theorem Dd {j:Nat}:∀ {a b:List Nat},j ∈ Nc a b↔j ∈ a∨j ∈ b
 | [],b=>by simp [Nc]
 | x::a,b=>by
  simp only [Nc];cases hb:kW b x with
  | true =>
   rw [cond_true,Dd,List.mem_cons];have:=nF.1 hb;constructor
   · rintro (h | h)
     · exact Or.inl (Or.inr h)
     · exact Or.inr h
   · rintro ((h | h) | h)
     · subst h;exact Or.inr this
     · exact Or.inl h
     · exact Or.inr h
  | false=>rw [cond_false,List.mem_cons,Dd,List.mem_cons,or_assoc]
theorem zr {done:List (List Nat)} {j:Nat}:∀ {es:List Edge},j ∈ Iv done es↔∃ e ∈ es,Region.binds .any e=true∧(j=e.on∨j ∈ done.getD e.on [])
 | []=>by simp [Iv]
 | e::es=>by
  simp only [Iv];cases hb:Region.binds .any e with
  | true =>
   rw [cond_true,Dd,zr,List.mem_cons];constructor
   · rintro (h | ⟨e',h1,h2⟩)
     · exact ⟨e,List.mem_cons_self ..,hb,h⟩
     · exact ⟨e',List.mem_cons_of_mem _ h1,h2⟩
   · rintro ⟨e',h1,h2,h3⟩
     rcases List.mem_cons.1 h1 with q | q
     · subst q;exact Or.inl h3
     · exact Or.inr ⟨e',q,h2,h3⟩
  | false =>
   rw [cond_false,zr];constructor
   · rintro ⟨e',h1,h2⟩
     exact ⟨e',List.mem_cons_of_mem _ h1,h2⟩
   · rintro ⟨e',h1,h2,h3⟩
     rcases List.mem_cons.1 h1 with q | q
     · subst q;rw [hb] at h2;cases h2
     · exact ⟨e',q,h2,h3⟩
theorem En {o:Oper} {done:List (List Nat)} {j:Nat}:j ∈ po o done↔∃ e ∈ o.after.toList,Region.binds .any e=true∧(j=e.on∨j ∈ done.getD e.on []):=zr
theorem yp {R:Type} {all:List Oper} {tm0:List AV} {hp0:Hp} {nx0:Nat} {k:St→Option R} {r:R} :
 ∀ (os pre:List Oper) (i:Nat) (done:List (List Nat)) (gs:List G) (tm:List AV) (nx:Nat),all=pre++os→pre.length=i→done.length=i→(∀ g ∈ gs,done.getD g.i []=g.A) →
  GL tb ct all tm0 hp0 nx0 i nx gs→Fv all os i done=true→tm=jV tm0 (fun _=>true) gs→GY tb ct all hp0 os i done (nZ gs) tm nx k=some r →
  ∃ gs' nx',GL tb ct all tm0 hp0 nx0 all.length nx' gs'∧k ⟨jV tm0 (fun _=>true) gs',rep hp0 (fun _=>true) gs',nx'⟩=some r
 | [],pre,i,done,gs,tm,nx,hall,hpre,hdl,hd,hgl,ht,htm,hs=>by
  simp only [GY] at hs;have hl:all.length=i:=by rw [hall];simp [hpre]
  rw [hl];refine ⟨gs,nx,hgl,?_⟩;rw [← htm,← uS hgl.skips];exact hs
 | o::os,pre,i,done,gs,tm,nx,hall,hpre,hdl,hd,hgl,ht,htm,hs=>by
  simp only [Fv] at ht;obtain ⟨hc,ht⟩:=L_ ht;simp only [Bool.and_eq_true,List.all_eq_true,Bool.or_eq_true,Bool.not_eq_true'] at hc;obtain ⟨hc1,hc2⟩:=hc;have hon:∀ e ∈ o.after.toList,Region.binds .any e=true→e.on<i:=fun e he hb=>by
   rcases hc1 e he with q | q
   · rw [hb] at q;cases q
   · exact Nat.lt_of_succ_le (Nat.le_of_ble_eq_true q)
  have hat:all[i]?=some o:=by rw [hall,List.getElem?_append_right (by omega),hpre];simp
  have hanc:∀ j ∈ po o done,∃ e ∈ o.after.toList,Region.binds .any e=true∧(j=e.on∨∃ g' ∈ gs,g'.i=e.on∧j ∈ g'.A):=fun j hj=>by obtain ⟨e,h1,h2,h3⟩:=En.1 hj;refine ⟨e,h1,h2,h3.imp id fun q=>?_⟩;obtain ⟨g',q1,q2⟩:=hgl.cover e.on (hon e h1 h2);exact ⟨g',q1,q2,by rw [← hd g' q1,q2];exact q⟩
  have hlt:∀ j ∈ po o done,j<i:=fun j hj=>by
   obtain ⟨e,h1,h2,h3⟩:=hanc j hj;rcases h3 with q | ⟨g',q1,q2,q3⟩
   · rw [q];exact hon e h1 h2
   · obtain ⟨o',f⟩:=hgl.fact g' q1;have:=f.lt j q3;have:=hon e h1 h2;omega
  have farT:∀ (g:G),g.A=po o done→g.dst=o.dst→g.nm=named all o→∀ y ∈ gs,kW g.A y.i=true∨JY y g:=fun g e1 e2 e3 y hy=>by
   obtain ⟨o',f⟩:=hgl.fact y hy;have h1:=(hgl.lt y hy).1;rcases hc2 y.i (List.mem_range.2 h1) with q | q
   · left;rw [e1];exact q
   · right;rw [f.at_] at q;simp only [Bool.and_eq_true,v7] at q;refine ⟨fun t h2 h3=>?_,fun t h2=>?_⟩
     · rw [e2] at h2;rw [f.dst,f.nm] at h3;exact q.1 t h3 h2
     · rw [f.dst] at h2;rw [e3];exact q.2 t h2
  have hdone:∀ (g:G),g.i=i→g.A=po o done→∀ g' ∈ g::gs,(done++[po o done]).getD g'.i []=g'.A:=fun g e1 e2 g' hg'=>by
   rcases List.mem_cons.1 hg' with q | q
   · subst q;rw [e1,e2];simp [List.getD,← hdl]
   · have h1:=(hgl.lt g' q).1;rw [← hd g' q];simp [List.getD,List.getElem?_append_left (show g'.i<done.length by omega)]
  have hdeps:∀ e ∈ o.after.toList,Region.binds .any e=true→e.on<i∧e.on ∈ po o done:=fun e h1 h2=>⟨hon e h1 h2,En.2 ⟨e,h1,h2,Or.inl rfl⟩⟩
  simp only [GY] at hs;rcases uM hs with ⟨hw,hs⟩ | ⟨hw,hs⟩
  · rw [Ba] at hs;obtain ⟨⟨v,us,nx'⟩,ho,hs⟩:=Option.bind_eq_some_iff.1 hs;simp only [] at hs;obtain ⟨hfree,hs⟩:=aM hs;rw [vA hgl.skips] at ho;let g:G:=⟨i,true,us,reads tb ct o tm (rY hp0 (po o done) (nZ gs)),po o done,o.dst,v,named all o,nx,nx'⟩;have hgl':=hgl.cons (g:=g) (o:=o) rfl rfl (vH ho).1 ⟨hat,rfl,rfl,hdeps,hanc,hlt,Or.inl ⟨by rw [← htm];exact hw,rfl,by rw [← htm];show reads tb ct o tm (rY hp0 (po o done) (nZ gs))=reads tb ct o tm (rep hp0 (kW (po o done)) gs);rw [vA hgl.skips],by rw [← htm];exact ho⟩⟩ (fun y hy=>by
     rcases farT g rfl rfl rfl y hy with q | q
     · exact Or.inl q
     · cases hyg:y.go with
       | true =>
        rcases zP hfree y hy hyg with q' | ⟨q1,q2,q3,q4⟩
        · exact Or.inl q'
        · exact Or.inr ⟨⟨q1,q2,q3,q4⟩,q⟩
       | false =>
        obtain ⟨o',f⟩:=hgl.fact y hy;rcases f.run with ⟨_,q1,_⟩ | ⟨_,_,q1,q2,_⟩
        · rw [q1] at hyg;cases hyg
        · exact Or.inr ⟨⟨fun r _=>(by rw [q2];simp),fun r hr=>(by rw [q1] at hr;cases hr),fun r _=>(by rw [q1];simp [ku]),fun r _=>(by rw [q1];simp)⟩,q⟩)
    exact yp os (pre++[o]) (i+1) (done++[po o done]) (g::gs) (oV tm o.dst v) nx' (by rw [hall];simp) (by simp [hpre]) (by simp [hdl]) (hdone g rfl rfl) hgl' ht
     (by simp only [jV,cond_true,htm,g]) (by simpa only [nZ,g,cond_true] using hs)
  · let g:G:=⟨i,false,[],[],po o done,o.dst,.tup [],named all o,nx,nx⟩;have hgl':=hgl.cons (g:=g) (o:=o) rfl rfl (Nat.le_refl _) ⟨hat,rfl,rfl,hdeps,hanc,hlt,Or.inr ⟨by rw [← htm];exact hw,rfl,rfl,rfl,rfl,rfl⟩⟩ (fun y hy=>by
     rcases farT g rfl rfl rfl y hy with q | q
     · exact Or.inl q
     · exact Or.inr ⟨⟨fun r hr=>(by cases hr),fun r _=>(by simp [g]),fun r hr=>(by cases hr),fun r hr=>(by cases hr)⟩,q⟩)
    exact yp os (pre++[o]) (i+1) (done++[po o done]) (g::gs) (oV tm o.dst (.tup [])) nx (by rw [hall];simp) (by simp [hpre]) (by simp [hdl]) (hdone g rfl rfl) hgl' ht
     (by simp only [jV,cond_true,htm,g]) (by simpa only [nZ,g,cond_false] using hs)
end
end Go.V
end
section
namespace Go.V
open Go.RowKit
theorem Bg {f g:Nat→Bool} (h:∀ j,g j=true→f j=true) {i:Nat} (hf:f i=true) (hg:g i=false):∀ {l:List Nat},i ∈ l→(l.filter g).length<(l.filter f).length
 | [],hi=>by cases hi
 | j::l,hi=>by
  have hle:∀ l:List Nat,(l.filter g).length≤(l.filter f).length:=by
   intro l
   induction l with
   | nil=>simp
   | cons j l ih =>
    simp only [List.filter_cons];cases hg':g j with
    | true=>rw [h j hg'];simpa using ih
    | false=>cases f j <;> simp <;> omega
  simp only [List.filter_cons];rcases List.mem_cons.1 hi with q | q
  · subst q;rw [hf,hg];have:=hle l;simp;omega
  · have ih:=Bg h hf hg q;cases hg':g j with
    | true=>rw [h j hg'];simpa using ih
    | false=>cases f j <;> simp <;> omega
theorem tR {listed:Array Bool} {i:Nat} (hi:i<listed.size):(fun j=>(listed.setIfInBounds i true).getD j false)=oo (fun j=>listed.getD j false) i:=by
 funext j;simp only [oo];cases hb:Nat.beq j i with
 | true =>have:=Nat.eq_of_beq_eq_true hb;subst this;simp [hi]
 | false =>
  have:i≠j:=fun q=>by subst q;simp at hb
  simp [Array.getElem?_setIfInBounds_ne this]
section
variable {P:Program} {tb:mh} {ct:List (Nat × Cn)} {w0:Bs} {Q:Exit→Act→World→Prop}
theorem KC (hP:cX P tb=true) (hE:BD P tb) (hC:∀ f c,look ct f=some c→zn w0 P (f % 100000) c) {all:List Oper} {tm0:List AV} {hp0:Hp} {nx0 n nxF:Nat} {gs:List G}
 (hgl:GL tb ct all tm0 hp0 nx0 n nxF gs) {D:Nat→Bool} (hcl:∀ g ∈ gs,D g.i=true→∀ j ∈ g.A,D j=true) {g:G} (hg:g ∈ gs) {o:Oper} (f:O2 tb ct all tm0 hp0 gs g o) (hD:D g.i=false) (hA:∀ j ∈ g.A,D j=true)
 {N:Nat→Prop} (hN:∀ r,N r→r<nx0∨∃ y ∈ gs,D y.i=true∧y.id≤r∧r<y.nx) {φ:Nat→jF} {a:Act} {w:World} (h:Ok w0 N φ (jV tm0 D gs) (rep hp0 D gs) a w)
 {K:Act→World→Prop} (hK:∀ N' φ' a' w',(∀ r,N' r→r<nx0∨∃ y ∈ gs,oo D g.i y.i=true∧y.id≤r∧r<y.nx)→Ok w0 N' φ' (jV tm0 (oo D g.i) gs) (rep hp0 (oo D g.i) gs) a' w'→K a' w') :
 if Region.wanted o (yielded all.toArray a.tmps) then o.wp P a w K Q else K (a.put o.dst undef) w:=by
 have pair:∀ x ∈ gs,∀ y ∈ gs,y.i<x.i→(y.nx≤x.id∧(kW x.A y.i=true∨(O8 y x∧JY y x))):=fun x hx y hy hlt=>ML hgl.pw x hx y hy hlt
 have later:∀ x ∈ gs,g.i<x.i→D x.i=true→O8 g x∧JY g x:=fun x hx hlt hDx=>by
  rcases (pair x hx g hg hlt).2 with q | q
  · rw [hcl x hx hDx _ (nF.1 q)] at hD;cases hD
  · exact q
 have earlier:∀ y ∈ gs,y.i<g.i→kW g.A y.i=false→O8 y g∧JY y g:=fun y hy hlt hm=>by
  rcases (pair g hg y hy hlt).2 with q | q
  · rw [hm] at q;cases q
  · exact q
 have hblt:∀ {x y:Nat},x<y→Nat.blt x y=true:=fun q=>Nat.ble_eq_true_of_le q
 have hblf:∀ {x y:Nat},¬ x<y→Nat.blt x y=false:=fun {x y} q=>by
  cases hb:Nat.blt x y with
  | false=>rfl
  | true=>exact absurd (Nat.lt_of_succ_le (Nat.le_of_ble_eq_true hb)) q
 have htm:∀ t ∈ g.nm,(jV tm0 D gs).getD t .junk=(jV tm0 (fun j=>Nat.blt j g.i) gs).getD t .junk:=fun t ht=>AF fun x hx hxd=>by
  rcases Nat.lt_trichotomy x.i g.i with q | q | q
  · show D x.i=Nat.blt x.i g.i;rw [hblt q];cases hm:kW g.A x.i with
    | true=>exact hA _ (nF.1 hm)
    | false=>exact absurd ht ((earlier x hx q hm).2.f t (by rw [hxd];simp))
  · show D x.i=Nat.blt x.i g.i;rw [q,hD,hblf (by omega)]
  · show D x.i=Nat.blt x.i g.i;rw [hblf (by omega)];cases hb:D x.i with
    | false=>rfl
    | true=>exact absurd (List.mem_append_right _ ht) ((later x hx q hb).2.e t (by rw [hxd];simp))
 have hpw:gs.Pairwise (fun x y=>y.i<x.i):=hgl.pw.imp fun q=>q.1
 have hrows:∀ r,rep hp0 (oo D g.i) gs r=Dv g.us r (rep hp0 D gs r):=fun r=>IH hpw hg hD fun x hx hlt hDx=>⟨fun r h1 h2=>(later x hx hlt hDx).1.c r h2 h1,(later x hx hlt hDx).1.d⟩
 have htms:jV tm0 (oo D g.i) gs=oV (jV tm0 D gs) g.dst g.v:=EC hpw hg hD fun x hx hlt hDx t ht hq=>(later x hx hlt hDx).2.e t ht (List.mem_append_left _ hq)
 have hwant:mT all o (jV tm0 D gs)=mT all o (jV tm0 (fun j=>Nat.blt j g.i) gs):=by
  unfold mT;split
  · rfl
  · rename_i j want hgd;split
    · rename_i q hq;split
      · rename_i d hd;rw [htm d (by rw [f.nm];unfold named;rw [hgd];simp [hq,hd])]
      · rfl
    · rfl
 have hNup:∀ (N':Nat→Prop),(∀ r,N' r→N r∨(g.id≤r∧r<g.nx))→∀ r,N' r→r<nx0∨∃ y ∈ gs,oo D g.i y.i=true∧y.id≤r∧r<y.nx:=fun N' hN' r hr=>by
  rcases hN' r hr with q | q
  · rcases hN r q with q | ⟨y,h1,h2,h3⟩
    · exact Or.inl q
    · refine Or.inr ⟨y,h1,?_,h3⟩;unfold oo;rw [h2];cases Nat.beq y.i g.i <;> rfl
  · exact Or.inr ⟨g,hg,tf,q⟩
 rcases f.run with ⟨hw,hgo,hrd,ho⟩ | ⟨hw,hgo,hus,hrd,hv,hnx⟩
 · rw [← hwant] at hw;rw [tj h hw,if_pos rfl];have hval:∀ x ∈ o.op.operands.toList,∀ T,val tb (jV tm0 D gs) T x=val tb (jV tm0 (fun j=>Nat.blt j g.i) gs) T x:=fun x hx T=>by
    cases x with
    | tmp t=>exact htm t (by rw [f.nm];unfold named;exact List.mem_append_left _ (List.mem_filterMap.2 ⟨.tmp t,hx,rfl⟩))
    | _=>rfl
   have hop:=M3 (ct:=ct) (hp:=rep hp0 D gs) (id:=g.id) (k:=fun v us nx=>some (v,us,nx)) hval;have ho':fW tb ct o (jV tm0 D gs) (rep hp0 D gs) g.id (fun v us nx=>some (v,us,nx))=some (g.v,g.us,g.nx):=by
    rw [hop.1];refine HK ho (fun r hr=>?_) (fun r hr hr'=>?_)
    · rw [← hrd] at hr;have:=I4 (hp:=hp0) (D:=D) (D':=kW g.A) (r:=r) (gs:=gs) fun x hx=>by
       cases hm:kW g.A x.i with
       | true=>exact Or.inl (hA _ (nF.1 hm))
       | false =>
        cases hb:D x.i with
        | false=>exact Or.inl rfl
        | true =>
         right;refine ⟨rfl,fun hh=>?_⟩;rcases Nat.lt_trichotomy x.i g.i with q | q | q
         · exact (earlier x hx q hm).1.b r hh hr
         · rw [q,hD] at hb;cases hb
         · exact (later x hx q hb).1.a r hh hr
      rcases this with q | q
      · exact Or.inl q
      · rw [q];cases rep hp0 (kW g.A) gs r with
        | own p e l=>exact Or.inr ⟨p,e,l,rfl,rfl⟩
        | _=>exact Or.inl rfl
    · rw [← hrd] at hr';exact tn fun x hx hk=>by
       cases hm:kW g.A x.i with
       | true=>exact hA _ (nF.1 hm)
       | false =>
        cases hb:D x.i with
        | false=>rfl
        | true =>
         exfalso;rcases Nat.lt_trichotomy x.i g.i with q | q | q
         · exact (earlier x hx q hm).1.d r hr hk
         · rw [q,hD] at hb;cases hb
         · exact (later x hx q hb).1.c r hk hr
   have hid:∀ r,g.id≤r→r<g.nx→¬ N r:=fun r h1 h2 h3=>by
    have hlt:=hgl.lt g hg;rcases hN r h3 with q | ⟨y,q1,q2,q3,q4⟩
    · omega
    · rcases Nat.lt_trichotomy y.i g.i with q | q | q
      · have:=(pair g hg y q1 q).1;omega
      · rw [q,hD] at q2;cases q2
      · have:=(pair y q1 g hg q).1;omega
   refine Oper.wp_mono (fun a' w' hA'=>?_) (MG h hP hE hC ho' hid);obtain ⟨φ',_,h'⟩:=hA';have e1:apply (rep hp0 D gs) g.us=rep hp0 (oo D g.i) gs:=by rw [← (vH ho').applyF];funext r;rw [lV,hrows r]
   rw [e1,← f.dst,← htms] at h';exact hK _ φ' a' w' (hNup _ fun r q=>q) h'
 · rw [← hwant] at hw;rw [tj h hw,if_neg (by simp)];have e1:rep hp0 D gs=rep hp0 (oo D g.i) gs:=by
    funext r;rw [hrows r,hus];rfl
   have h':=h.put o.dst (v := .tup []) (u:=undef) ⟨[],rfl,rfl⟩;rw [e1,← f.dst,← hv,← htms] at h';refine hK N φ _ w (hNup N fun r q=>Or.inl q) ?_;rw [f.dst] at h';exact h'
theorem N4 (hP:cX P tb=true) (hE:BD P tb) (hC:∀ f c,look ct f=some c→zn w0 P (f % 100000) c) {all:List Oper} {tm0:List AV} {hp0:Hp} {nx0 nxF:Nat} {gs:List G}
 (hgl:GL tb ct all tm0 hp0 nx0 all.length nxF gs)
 (hQ:∀ N φ a w,(∀ r,N r→r<nxF)→Ok w0 N φ (jV tm0 (fun _=>true) gs) (rep hp0 (fun _=>true) gs) a w→Q .normal a w) :
 ∀ (fuel:Nat) (listed:Array Bool) (a:Act) (w:World) (N:Nat→Prop) (φ:Nat→jF),listed.size=all.length→((List.range all.length).filter fun j=>!listed.getD j false).length≤fuel →
  (∀ g ∈ gs,listed.getD g.i false=true→∀ j ∈ g.A,listed.getD j false=true) →
  (∀ r,N r→r<nx0∨∃ y ∈ gs,listed.getD y.i false=true∧y.id≤r∧r<y.nx)→Ok w0 N φ (jV tm0 (fun j=>listed.getD j false) gs) (rep hp0 (fun j=>listed.getD j false) gs) a w →
  wpAny P .any all.toArray Q fuel listed a w:=by
 have full:∀ (listed:Array Bool),listed.size=all.length→Region.ready .any all.toArray listed=[]→∀ i,i<all.length→listed.getD i false=true:=by
  intro listed hsz hr i
  induction i using Nat.strongRecOn with
  | _ i ih =>
   intro hi;cases hb:listed.getD i false with
   | true=>rfl
   | false =>
    exfalso;obtain ⟨g,hg,hgi⟩:=hgl.cover i hi;obtain ⟨o,f⟩:=hgl.fact g hg;have hat:=f.at_;rw [hgi] at hat;have:i ∈ Region.ready .any all.toArray listed:=by
     unfold Region.ready;rw [List.mem_filter];refine ⟨by simpa using hi,?_⟩;have h1:listed.getD i true=false:=by
      have hlt:i<listed.size:=by omega
      simp [hlt] at hb ⊢;exact hb
     rw [h1];simp only [Bool.not_false,Bool.true_and,List.getElem?_toArray,hat,Option.map_some,Option.getD_some];rw [Array.all_eq_true'];intro e he;cases hbd:Region.binds .any e with
     | false=>rfl
     | true =>have:=f.deps e (by simpa using he) hbd;rw [hgi] at this;simp only [Bool.not_true,Bool.false_or];exact ih e.on this.1 (by omega)
    rw [hr] at this;cases this
 have fin:∀ (listed:Array Bool) (a:Act) (w:World) (N:Nat→Prop) (φ:Nat→jF),(∀ i,i<all.length→listed.getD i false=true) →
  (∀ r,N r→r<nx0∨∃ y ∈ gs,listed.getD y.i false=true∧y.id≤r∧r<y.nx)→Ok w0 N φ (jV tm0 (fun j=>listed.getD j false) gs) (rep hp0 (fun j=>listed.getD j false) gs) a w→Q .normal a w:=by
  intro listed a w N φ hall hN h;have e1:∀ g ∈ gs,(fun j=>listed.getD j false) g.i=(fun _=>true) g.i:=fun g hg=>hall g.i (hgl.lt g hg).1
  rw [vO (D:=fun j=>listed.getD j false) (D':=fun _=>true) e1,LW (D:=fun j=>listed.getD j false) (D':=fun _=>true) e1] at h;refine hQ N φ a w (fun r hr=>?_) h;rcases hN r hr with q | ⟨y,q1,_,_,q2⟩
  · have:=hgl.nx;omega
  · have:=(hgl.lt y q1).2.2.2;omega
 intro fuel
 induction fuel with
 | zero =>
  intro listed a w N φ hsz hf hcl hN h;have hall:∀ i,i<all.length→listed.getD i false=true:=fun i hi=>by
   cases hb:listed.getD i false with
   | true=>rfl
   | false =>
    have:i ∈ (List.range all.length).filter fun j=>!listed.getD j false:=List.mem_filter.2 ⟨List.mem_range.2 hi,by rw [hb];rfl⟩
    have:=List.length_pos_of_mem this;omega
  refine ⟨?_,fin listed a w N φ hall hN h⟩;unfold Region.ready;rw [List.filter_eq_nil_iff];intro i hi;have hi':i<all.length:=by simpa using hi
  have hlt:i<listed.size:=by omega
  have:=hall i hi';simp [hlt] at this ⊢;intro q;rw [this] at q;cases q
 | succ fuel ih =>
  intro listed a w N φ hsz hf hcl hN h;refine ⟨fun hr=>fin listed a w N φ (full listed hsz hr) hN h,fun i hi=>?_⟩;unfold Region.ready at hi;rw [List.mem_filter] at hi;obtain ⟨hi1,hi2⟩:=hi;have hi1:i<all.length:=by simpa using hi1
  have hlt:i<listed.size:=by omega
  obtain ⟨g,hg,hgi⟩:=hgl.cover i hi1;obtain ⟨o,f⟩:=hgl.fact g hg;have hat:=f.at_;rw [hgi] at hat;simp only [Bool.and_eq_true,Bool.not_eq_true',List.getElem?_toArray,hat,Option.map_some,Option.getD_some] at hi2;obtain ⟨hi2,hi3⟩:=hi2;have hD:listed.getD i false=false:=by simp [hlt] at hi2 ⊢;exact hi2
  have hdeps:∀ e ∈ o.after.toList,Region.binds .any e=true→listed.getD e.on false=true:=fun e he hb=>by rw [Array.all_eq_true'] at hi3;have:=hi3 e (by simpa using he);rw [hb] at this;simpa using this
  have hA:∀ j ∈ g.A,listed.getD j false=true:=fun j hj=>by
   obtain ⟨e,h1,h2,h3⟩:=f.anc j hj;rcases h3 with q | ⟨g',q1,q2,q3⟩
   · rw [q];exact hdeps e h1 h2
   · exact hcl g' q1 (by rw [q2];exact hdeps e h1 h2) j q3
  have key:∀ N' φ' a' w',(∀ r,N' r→r<nx0∨∃ y ∈ gs,oo (fun j=>listed.getD j false) g.i y.i=true∧y.id≤r∧r<y.nx)→Ok w0 N' φ' (jV tm0 (oo (fun j=>listed.getD j false) g.i) gs) (rep hp0 (oo (fun j=>listed.getD j false) g.i) gs) a' w' →
   wpAny P .any all.toArray Q fuel (listed.setIfInBounds i true) a' w':=by
   intro N' φ' a' w' hN' h';rw [hgi,← tR hlt] at h';rw [hgi,← tR hlt] at hN';have hpl:=tR hlt;have hpl':∀ j,(listed.setIfInBounds i true).getD j false=oo (fun j=>listed.getD j false) i j:=fun j=>congrFun hpl j
   refine ih _ a' w' N' φ' (by simpa using hsz) ?_ (fun x hx hxd j hj=>?_) hN' h'
   · have:=Bg (f:=fun j=>!listed.getD j false) (g:=fun j=>!(listed.setIfInBounds i true).getD j false) (i:=i) (l:=List.range all.length) (fun j hj=>by
      rw [hpl'] at hj;unfold oo at hj;cases hb:Nat.beq j i with
      | true=>rw [hb] at hj;cases hj
      | false=>rw [hb] at hj;exact hj) (by rw [hD];rfl) (by rw [hpl',tf];rfl) (List.mem_range.2 hi1)
     omega
   · rw [hpl'] at hxd ⊢;have hup:∀ j,listed.getD j false=true→oo (fun j=>listed.getD j false) i j=true:=fun j q=>by
      unfold oo;cases Nat.beq j i with
      | true=>rfl
      | false=>exact q
     by_cases q:x.i=i
     · have hxg:x.A=g.A:=by
        obtain ⟨k1,hk1,e1⟩:=List.mem_iff_getElem.1 hx;obtain ⟨k2,hk2,e2⟩:=List.mem_iff_getElem.1 hg;have:k1=k2:=by
         rcases Nat.lt_trichotomy k1 k2 with z | z | z
         · have:=(List.pairwise_iff_getElem.1 hgl.pw k1 k2 hk1 hk2 z).1;rw [e1,e2] at this;omega
         · exact z
         · have:=(List.pairwise_iff_getElem.1 hgl.pw k2 k1 hk2 hk1 z).1;rw [e1,e2] at this;omega
        subst this;rw [← e1,← e2]
       exact hup j (hA j (by rw [← hxg];exact hj))
     · rw [pB q] at hxd;exact hup j (hcl x hx hxd j hj)
  have hstep:=KC (Q:=Q) hP hE hC hgl hcl hg f (by rw [hgi];exact hD) hA hN h key;unfold wpOp;simp only [List.getElem?_toArray,hat];split
  · rename_i hw;rw [if_pos hw] at hstep;exact Or.inl hstep
  · rename_i hw;rw [if_neg hw] at hstep;exact hstep
end
end Go.V
end
section
namespace Go.V
open Go.RowKit
theorem oJ.ren {w:World} {X:Bool→Nat→Prop} {N N':Nat→Prop} {φ φ':Nat→jF} {B:Nat→Prop} {r r':Nat} {p:Bool} {e:Ty} {l:List e.d} (h:oJ w X N φ B r p e l) (hN:N' r') (hφ:φ' r'=φ r):oJ w X N' φ' B r' p e l:=by obtain ⟨_,h2,h3,h4,te,xs,h5,h6⟩:=h;exact ⟨hN,by rw [hφ];exact h2,by rw [hφ];exact h3,by rw [hφ];exact h4,te,xs,by rw [hφ];exact h5,h6⟩
theorem lC.re {w:World} {X:Bool→Nat→Prop} {N N':Nat→Prop} {φ φ':Nat→jF} {B:Nat→Prop} {r:Nat} {x:rF} (h:lC w X N φ B r x) (hN:∀ s,N s→N' s) (hφ:∀ s,N s→φ' s=φ s) (hf:∀ p e l,x ≠ .fro p e l):lC w X N' φ' B r x:=by
 cases x with
 | dead=>trivial
 | box cs =>obtain ⟨h1,h2,h3,vs,te,h4,h5⟩:=h;refine ⟨hN r h1,by rw [hφ r h1];exact h2,by rw [hφ r h1];exact h3,vs,te,by rw [hφ r h1];exact h4,?_⟩;exact cV.mono (fun _ _ q=>q) (fun _ _ _=>rfl) hN hφ h5
 | own p e l=>exact oJ.ren h (hN r h.1) (hφ r h.1)
 | fro p e l=>exact absurd rfl (hf p e l)
section
variable {w0:Bs} {w:World} {N:Nat→Prop} {φ:Nat→jF} {tm:List AV} {hp:Hp} {a:Act}
structure CI (w:World) (X:Bool→Nat→Prop) (N:Nat→Prop) (φ:Nat→jF) (hp:Hp) (B:Nat→Prop) (c:Cs) (ψ:Nat→jF):Prop where
 rows:∀ r,lC w X (fun s=>s<c.nx) ψ B r (c.hp r)
 nof:∀ r p e l,c.hp r ≠ .fro p e l
 blk:∀ r' b,bO ψ r' (c.hp r')=some b→∃ r,look c.map r=some r'∧bO φ r (hp r)=some b
 map:∀ r r',look c.map r=some r'→r'<c.nx∧ψ r'=φ r∧N r
 fresh:∀ r,c.nx≤r→c.hp r = .dead
structure Gr (c:Cs) (ψ:Nat→jF) (c':Cs) (ψ':Nat→jF):Prop where
 nx:c.nx≤c'.nx
 psi:∀ s,s<c.nx→ψ' s=ψ s
 map:∀ r r',look c.map r=some r'→look c'.map r=some r'
theorem Gr.refl {c:Cs} {ψ:Nat→jF}:Gr c ψ c ψ:=⟨Nat.le_refl _,fun _ _=>rfl,fun _ _ q=>q⟩
theorem Gr.trans {c c' c'':Cs} {ψ ψ' ψ'':Nat→jF} (h:Gr c ψ c' ψ') (h':Gr c' ψ' c'' ψ''):Gr c ψ c'' ψ'' :=
 ⟨Nat.le_trans h.nx h'.nx,fun s hs=>(h'.psi s (Nat.lt_of_lt_of_le hs h.nx)).trans (h.psi s hs),fun r r' q=>h'.map r r' (h.map r r' q)⟩
theorem Gr.rep {w:World} {X:Bool→Nat→Prop} {c c':Cs} {ψ ψ':Nat→jF} (g:Gr c ψ c' ψ') {v:AV} {u:Value} (h:dC w X (fun s=>s<c.nx) ψ v u):dC w X (fun s=>s<c'.nx) ψ' v u :=
 dC.mono (fun _ _ q=>q) (fun _ _ _=>rfl) (fun s hs=>Nat.lt_of_lt_of_le hs g.nx) g.psi h
theorem nf {α:Type} {k n:Nat} {x:α} {l:List (Nat × α)}:look ((k,x)::l) n=if k=n then some x else look l n:=by
 simp only [look];by_cases h:k=n
 · subst h;simp
 · have:Nat.beq k n=false:=by
    cases hb:Nat.beq k n with
    | false=>rfl
    | true=>exact absurd (Nat.eq_of_beq_eq_true hb) h
   simp [this,h]
theorem CI.add (h:Ok w0 N φ tm hp a w) {c:Cs} {ψ:Nat→jF} (ci:CI w (XX w0 w φ hp) N φ hp w0.mine c ψ) {r:Nat} (hr:N r) (hm:look c.map r=none) {row:rF}
 (hrow:∀ ψ':Nat→jF,ψ' c.nx=φ r→lC w (XX w0 w φ hp) (fun s=>s<c.nx+1) ψ' w0.mine c.nx row) (hf:∀ p e l,row ≠ .fro p e l)
 (hb:∀ ψ':Nat→jF,ψ' c.nx=φ r→∀ b,bO ψ' c.nx row=some b→bO φ r (hp r)=some b) :
 ∃ ψ',CI w (XX w0 w φ hp) N φ hp w0.mine ⟨(r,c.nx)::c.map,l_ c.hp c.nx row,c.nx+1⟩ ψ'∧Gr c ψ ⟨(r,c.nx)::c.map,l_ c.hp c.nx row,c.nx+1⟩ ψ'∧ψ' c.nx=φ r:=by
 refine ⟨fun s=>if s=c.nx then φ r else ψ s,?_,⟨Nat.le_succ _,fun s hs=>by simp [Nat.ne_of_lt hs],fun r1 r' q=>?_⟩,by simp⟩
 · have e1:(fun s=>if s=c.nx then φ r else ψ s) c.nx=φ r:=by simp
   have e2:∀ s,s≠c.nx→(fun s=>if s=c.nx then φ r else ψ s) s=ψ s:=fun s hs=>by simp [hs]
   generalize (fun s=>if s=c.nx then φ r else ψ s)=ψ' at e1 e2;refine ⟨fun s=>?_,fun s p e l=>?_,fun s b hs=>?_,fun r1 r' q=>?_,fun s hs=>?_⟩
   · by_cases q:s=c.nx
     · subst q;show lC _ _ _ _ _ _ (l_ c.hp c.nx row c.nx);rw [cO];exact hrow ψ' e1
     · show lC _ _ _ _ _ _ (l_ c.hp c.nx row s);rw [bx _ _ q];exact (ci.rows s).re (fun s hs=>Nat.lt_succ_of_lt hs) (fun s hs=>e2 s (Nat.ne_of_lt hs)) (ci.nof s)
   · by_cases q:s=c.nx
     · subst q;show l_ c.hp c.nx row c.nx≠_;rw [cO];exact hf p e l
     · show l_ c.hp c.nx row s≠_;rw [bx _ _ q];exact ci.nof s p e l
   · by_cases q:s=c.nx
     · subst q;have hs:bO ψ' c.nx (l_ c.hp c.nx row c.nx)=some b:=hs;rw [cO] at hs;exact ⟨r,by rw [nf];simp,hb ψ' e1 b hs⟩
     · have hs:bO ψ' s (l_ c.hp c.nx row s)=some b:=hs;rw [bx _ _ q] at hs;have e3:bO ψ s (c.hp s)=some b:=by
        have:=e2 s q;cases hq:c.hp s <;> rw [hq] at hs <;> simp only [bO] at hs ⊢ <;> first | (cases hs;done) | (rw [this] at hs;exact hs)
       obtain ⟨r1,h1,h2⟩:=ci.blk s b e3;refine ⟨r1,?_,h2⟩;rw [nf,if_neg]
       · exact h1
       · intro hq;subst hq;rw [hm] at h1;cases h1
   · have q2:look ((r,c.nx)::c.map) r1=some r':=q;clear q;rw [nf] at q2;by_cases hq:r=r1
     · rw [if_pos hq] at q2;subst hq;cases q2;exact ⟨Nat.lt_succ_self _,e1,hr⟩
     · rw [if_neg hq] at q2;obtain ⟨h1,h2,h3⟩:=ci.map r1 r' q2;exact ⟨Nat.lt_succ_of_lt h1,by rw [e2 r' (Nat.ne_of_lt h1)];exact h2,h3⟩
   · have hs:c.nx+1≤s:=hs;show l_ c.hp c.nx row s = .dead;rw [bx _ _ (by omega)];exact ci.fresh s (by omega)
 · show look ((r,c.nx)::c.map) r1=some r';rw [nf,if_neg]
   · exact q
   · intro hq;subst hq;rw [hm] at q;cases q
theorem CI.addNil {c:Cs} {ψ:Nat→jF} {X:Bool→Nat→Prop} {B:Nat→Prop} (ci:CI w X N φ hp B c ψ) (e:Ty) :
 ∃ ψ',CI w X N φ hp B ⟨c.map,l_ c.hp c.nx (.own false e []),c.nx+1⟩ ψ'∧Gr c ψ ⟨c.map,l_ c.hp c.nx (.own false e []),c.nx+1⟩ ψ'∧ψ' c.nx=⟨.slice none 0 0,0,e.size,0⟩:=by
 refine ⟨fun s=>if s=c.nx then ⟨.slice none 0 0,0,e.size,0⟩ else ψ s,?_,⟨Nat.le_succ _,fun s hs=>by simp [Nat.ne_of_lt hs],fun r1 r' q=>q⟩,by simp⟩;have e1:(fun s=>if s=c.nx then (⟨.slice none 0 0,0,e.size,0⟩:jF) else ψ s) c.nx=⟨.slice none 0 0,0,e.size,0⟩:=by simp
 have e2:∀ s,s≠c.nx→(fun s=>if s=c.nx then (⟨.slice none 0 0,0,e.size,0⟩:jF) else ψ s) s=ψ s:=fun s hs=>by simp [hs]
 generalize (fun s=>if s=c.nx then (⟨.slice none 0 0,0,e.size,0⟩:jF) else ψ s)=ψ' at e1 e2;refine ⟨fun s=>?_,fun s p e' l=>?_,fun s b hs=>?_,fun r1 r' q=>?_,fun s hs=>?_⟩
 · by_cases q:s=c.nx
   · subst q;show lC _ _ _ _ _ _ (l_ c.hp c.nx (.own false e []) c.nx);rw [cO];refine ⟨Nat.lt_succ_self _,by rw [e1],by rw [e1];rfl,fun b hb=>?_,0,[],?_,rfl⟩
     · rw [e1] at hb;cases hb
     · rw [e1];exact mF.nil
   · show lC _ _ _ _ _ _ (l_ c.hp c.nx (.own false e []) s);rw [bx _ _ q];exact (ci.rows s).re (fun s hs=>Nat.lt_succ_of_lt hs) (fun s hs=>e2 s (Nat.ne_of_lt hs)) (ci.nof s)
 · by_cases q:s=c.nx
   · subst q;show l_ c.hp c.nx (.own false e []) c.nx≠_;rw [cO];intro q;cases q
   · show l_ c.hp c.nx (.own false e []) s≠_;rw [bx _ _ q];exact ci.nof s p e' l
 · by_cases q:s=c.nx
   · subst q;have hs:bO ψ' c.nx (l_ c.hp c.nx (.own false e []) c.nx)=some b:=hs;rw [cO] at hs;simp only [bO,e1] at hs;cases hs
   · have hs:bO ψ' s (l_ c.hp c.nx (.own false e []) s)=some b:=hs;rw [bx _ _ q] at hs;have e3:bO ψ s (c.hp s)=some b:=by
      have:=e2 s q;cases hq:c.hp s <;> rw [hq] at hs <;> simp only [bO] at hs ⊢ <;> first | (cases hs;done) | (rw [this] at hs;exact hs)
     exact ci.blk s b e3
 · obtain ⟨h1,h2,h3⟩:=ci.map r1 r' q;exact ⟨Nat.lt_succ_of_lt h1,by rw [e2 r' (Nat.ne_of_lt h1)];exact h2,h3⟩
 · have hs:c.nx+1≤s:=hs;show l_ c.hp c.nx (.own false e []) s = .dead;rw [bx _ _ (by omega)];exact ci.fresh s (by omega)
end
end Go.V
end

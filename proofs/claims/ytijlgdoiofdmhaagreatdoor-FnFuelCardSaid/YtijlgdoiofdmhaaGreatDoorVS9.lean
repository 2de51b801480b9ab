/- V: soundness, part 9 of 10. -/
import Derived.Test.YtijlgdoiofdmhaaGreatDoorVS8
import Derived.Test.YtijlgdoiofdmhaaGreatDoorVS4
import Derived.Laws.StructEq
section
set_option linter.unusedVariables false
set_option linter.unusedSimpArgs false
namespace Go.V
open Go.RowKit
section
variable {P:Program} {w0:Bs} {w:World} {N:Nat→Prop} {φ:Nat→jF} {tm:List AV} {hp:Hp} {a:Act}
theorem Fb {al:Bool} (h:Ok w0 N φ tm hp a w):∀ {ts:List Ty} {vs:List AV} {us:List Value} {x:(tup ts).d} {seen seen':List Nat},args hp ts vs=some x→dH w (XX w0 w φ hp) N φ vs us→iB al hp (vs.flatMap cellsOf) seen=some seen' →
 ∃ cs bl,us=kA ts cs∧(∀ b ∈ ay bl,∃ r,r ∈ seen'∧r ∉ seen∧bO φ r (hp r)=some b)∧(ay bl).Nodup∧(∀ r ∈ seen,r ∈ seen') ∧
  ∀ X:Nat→Prop,(∀ p b,(p&&!al)=false→XX w0 w φ hp p b→X b)→nX w X w0.mine (tup ts) x cs bl
 | [],[],us,x,seen,seen',hx,hr,hd=>by unfold dH at hr;subst hr;cases hd;exact ⟨[],[],rfl,fun b q=>(by cases q),List.nodup_nil,fun r q=>q,fun X _=>⟨rfl,rfl⟩⟩
 | [],_::_,us,x,seen,seen',hx,hr,hd=>by cases hx
 | _::_,[],us,x,seen,seen',hx,hr,hd=>by cases hx
 | t::ts,v::vs,us,x,seen,seen',hx,hr,hd=>by
  simp only [args] at hx;obtain ⟨ha,hx⟩:=aM hx;obtain ⟨h1,h2⟩:=d7 hx;unfold dH at hr;obtain ⟨u,us',rfl,hu,hus⟩:=hr;have ht:=ql h1;have hc:=kZ hu ht;rw [List.flatMap_cons,mX] at hd;obtain ⟨OM,hd1,hd2⟩:=Option.bind_eq_some_iff.1 hd;obtain ⟨b1,p1,p2,p3,p4⟩:=xK h t h1 hc hd1;obtain ⟨cs,b2,e2,q1,q2,q3,q4⟩:=Fb h h2 hus hd2;have hl:u.cells.toList.length=t.size:=(p4 (fun _=>True) (fun _ _ _ _=>trivial)).len.1;refine ⟨u.cells.toList++cs,b1++b2,?_,fun b hb=>?_,?_,fun r q=>q3 r (p3 r q),fun X hX=>⟨_,_,b1,b2,rfl,rfl,p4 X hX,q4 X hX⟩⟩
  · show u::us'=mj t ((u.cells.toList++cs).take t.size)::kA ts ((u.cells.toList++cs).drop t.size);rw [List.take_left' hl,List.drop_left' hl,← e2,← wE hu ht ha]
  · simp only [ay,List.filterMap_append,List.mem_append] at hb;rcases hb with hb | hb
    · obtain ⟨r,z1,z2,z3⟩:=p1 b hb;exact ⟨r,q3 r z1,z2,z3⟩
    · obtain ⟨r,z1,z2,z3⟩:=q1 b hb;exact ⟨r,z1,fun q=>z2 (p3 r q),z3⟩
  · simp only [ay,List.filterMap_append];rw [List.nodup_append];refine ⟨p2,q2,fun b hb b' hb' e=>?_⟩;subst e;obtain ⟨r,z1,z2,z3⟩:=p1 b hb;obtain ⟨r',z1',z2',z3'⟩:=q1 b hb';have:=h.disj r r' b z3 z3';subst this;exact z2' z1
theorem lM {al:Bool} {hp:Hp}:∀ {cs:List AV} {seen seen':List Nat},iB al hp cs seen=some seen'→(∀ r ∈ seen,r ∈ seen')∧∀ r ∈ seen',r ∈ seen∨∃ p e l,hp r = .own p e l
 | [],seen,seen',h=>by cases h;exact ⟨fun _ q=>q,fun _ q=>Or.inl q⟩
 | c::cs,seen,seen',h=>by
  cases c <;> simp only [iB] at h <;> try (cases h;done)
  all_goals (first | exact lM h | skip)
  split at h
  · rename_i p e l hr;cases hb:((p&&!al)||seen.contains _) with
    | true=>rw [hb] at h;cases h
    | false =>
     rw [hb,cond_false] at h;obtain ⟨h1,h2⟩:=lM h;refine ⟨fun r q=>h1 r (List.mem_cons_of_mem _ q),fun r q=>?_⟩;rcases h2 r q with q | q
     · rcases List.mem_cons.1 q with q | q
       · subst q;exact Or.inr ⟨p,e,l,hr⟩
       · exact Or.inl q
     · exact Or.inr q
  · cases h
theorem vZ {al:Bool} (h:Ok w0 N φ tm hp a w) {X:Nat→Prop} (hX:∀ p b,(p&&!al)=false→XX w0 w φ hp p b→X b):∀ {cs:List AV},sK al hp cs=true→∀ c ∈ cs,CH w0 w φ hp X c
 | [],_,c,hc=>by cases hc
 | d::cs,hr,c,hc=>by
  have key:∀ c,(∀ p,p=true→taint1 hp c=true→al=true)→(∀ r p e l,c = .ref r→(hp r = .own p e l∨hp r = .fro p e l)→hp r = .fro p e l∧(p&&!al)=false)→CH w0 w φ hp X c:=fun c k1 k2 =>
   ⟨fun p b hp1 hx=>hX p b (by
    cases p with
    | false=>rfl
    | true=>rw [k1 true rfl (hp1 rfl)];rfl) hx,fun r p e l b e1 e2 hb=>by
    obtain ⟨q1,q2⟩:=k2 r p e l e1 e2;have hrk:=h.rows r;rw [q1] at hrk;exact hX p b q2 (hrk.2 b hb)⟩
  rcases List.mem_cons.1 hc with q | q
  · subst q;cases c <;> simp only [sK,Bool.and_eq_true] at hr <;> try (cases hr;done)
    case bool b=>exact key _ (fun p _ q=>by simp [taint1] at q) (fun r p e l q=>by cases q)
    case int k n=>exact key _ (fun p _ q=>by simp [taint1] at q) (fun r p e l q=>by cases q)
    case str b=>exact key _ (fun p _ q=>by simp [taint1] at q) (fun r p e l q=>by cases q)
    case nil e=>exact key _ (fun p _ q=>by simp [taint1] at q) (fun r p e l q=>by cases q)
    case sl p e l =>refine key _ (fun _ _ q=>?_) (fun r p e l q=>by cases q);simp only [taint1] at q;subst q;simpa using hr.1
    case ref r =>
     have hr1:=hr.1;split at hr1
     · rename_i p e l hq;refine key _ (fun _ _ q=>?_) (fun r' p' e' l' q1 q2=>?_)
       · simp only [taint1,hq] at q;subst q;simpa using hr1
       · cases q1;rw [hq] at q2;rcases q2 with q2 | q2
         · cases q2
         · cases q2;refine ⟨hq,?_⟩;cases p <;> cases al <;> simp at hr1 ⊢
     · cases hr1
  · have hr2:sK al hp cs=true:=by
     cases d <;> simp only [sK,Bool.and_eq_true] at hr <;> first | (exact hr) | (exact hr.2) | (cases hr;done)
    exact vZ h hX hr2 c q
theorem HQ {al:Bool} (h:Ok w0 N φ tm hp a w) {X:Nat→Prop} (hX:∀ p b,(p&&!al)=false→XX w0 w φ hp p b→X b):∀ {ts:List Ty} {vs:List AV} {us:List Value} {x:(tup ts).d},args hp ts vs=some x →
 dH w (XX w0 w φ hp) N φ vs us→sK al hp (vs.flatMap cellsOf)=true→∃ cs,us=kA ts cs∧Rd w X (tup ts) x cs
 | [],[],us,x,hx,hr,hd=>by unfold dH at hr;subst hr;exact ⟨[],rfl,rfl⟩
 | [],_::_,us,x,hx,hr,hd=>by cases hx
 | _::_,[],us,x,hx,hr,hd=>by cases hx
 | t::ts,v::vs,us,x,hx,hr,hd=>by
  simp only [args] at hx;obtain ⟨ha,hx⟩:=aM hx;obtain ⟨h1,h2⟩:=d7 hx;unfold dH at hr;obtain ⟨u,us',rfl,hu,hus⟩:=hr;have ht:=ql h1;have hc:=kZ hu ht;rw [List.flatMap_cons] at hd;have app:∀ cs ds:List AV,sK al hp (cs++ds)=true→sK al hp cs=true∧sK al hp ds=true:=by
   intro cs ds
   induction cs with
   | nil=>exact fun q=>⟨rfl,q⟩
   | cons c cs ih =>
    intro q;cases c <;> simp only [List.cons_append,sK,Bool.and_eq_true] at q ⊢ <;> first | (cases q;done) | (exact ih q) | (exact ⟨⟨q.1,(ih q.2).1⟩,(ih q.2).2⟩)
  obtain ⟨d1,d2⟩:=app _ _ hd;have hp1:=nA h t (vZ h hX d1) h1 hc;obtain ⟨cs,e2,q4⟩:=HQ h hX h2 hus d2;have hl:=hp1.len;refine ⟨u.cells.toList++cs,?_,_,_,rfl,hp1,q4⟩;show u::us'=mj t ((u.cells.toList++cs).take t.size)::kA ts ((u.cells.toList++cs).drop t.size);rw [List.take_left' hl,List.drop_left' hl,← e2,← wE hu ht ha]
theorem vG {al:Bool} (h:Ok w0 N φ tm hp a w):∀ {A:List Pm} {x:(tup (pn A)).d} {us:List Value} {i:Nat} {y:(tup (iG A)).d} {seen seen':List Nat},sd w0.φ A x us i→i+cS A≤w0.g →
 yH hp A x i=some y→zE al hp A x i seen=some seen' →
 ∃ bs',(∀ b ∈ bs',∃ r,bO φ r (hp r)=some b∧(((∃ cs,hp r = .box cs)∧i≤r)∨((∃ p e l,hp r = .own p e l)∧r ∈ seen'∧r ∉ seen)))∧bs'.Nodup∧(∀ r ∈ seen,r ∈ seen') ∧
  ∀ X:Nat→Prop,(∀ p b,(p&&!al)=false→XX w0 w φ hp p b→X b)→yz w X A us y bs'
 | [],x,us,i,y,seen,seen',hr,hi,hv,hd=>by cases hd;exact ⟨[],fun b q=>(by cases q),List.nodup_nil,fun _ q=>q,fun X _=>⟨hr,rfl⟩⟩
 | .val t::A,x,us,i,y,seen,seen',hr,hi,hv,hd=>by obtain ⟨u,us',rfl,hr⟩:=hr;obtain ⟨bs',g1,g2,g3,g4⟩:=vG h (A:=A) hr hi hv hd;exact ⟨bs',g1,g2,g3,fun X hX=>⟨u,us',rfl,g4 X hX⟩⟩
 | .give t::A,x,us,i,y,seen,seen',hr,hi,hv,hd=>by obtain ⟨u,us',rfl,hr⟩:=hr;obtain ⟨bs',g1,g2,g3,g4⟩:=vG h (A:=A) hr hi hv hd;exact ⟨bs',g1,g2,g3,fun X hX=>⟨u,us',rfl,g4 X hX⟩⟩
 | .fn f n::A,x,us,i,y,seen,seen',hr,hi,hv,hd=>by obtain ⟨vs,us',rfl,hn,hr⟩:=hr;obtain ⟨bs',g1,g2,g3,g4⟩:=vG h (A:=A) hr hi hv hd;exact ⟨bs',g1,g2,g3,fun X hX=>⟨vs,us',rfl,hn,g4 X hX⟩⟩
 | .lend t::A,x,us,i,y,seen,seen',hr,hi,hv,hd=>by
  obtain ⟨u,us',rfl,hc,hr⟩:=hr;simp only [yH] at hv;obtain ⟨v1,v2⟩:=d7 hv;simp only [zE] at hd;split at hd
  · rename_i seen1 hd1;simp only [cS] at hi;have hrep:cV w (XX w0 w φ hp) N φ (qf true t x.1 i) u.cells.toList:=by
     have:=hc w (XX w0 w φ hp) (fun r=>r<w0.g) (fun k hk=>by show i+k<w0.g;omega);exact cV.mono (fun _ _ q=>q) (fun _ _ _=>rfl) (fun r q=>(h.giv r q).1) (fun r q=>(h.giv r q).2) this
    obtain ⟨bl,p1,p2,p3,p4⟩:=xK h t v1 hrep hd1;obtain ⟨bs',g1,g2,g3,g4⟩:=vG h (A:=A) hr (by omega) v2 hd;refine ⟨ay bl++bs',fun b hb=>?_,?_,fun r q=>g3 r (p3 r q),fun X hX=>⟨u,us',bl,bs',rfl,rfl,(p4 X hX).any (fun _ q=>q) (fun _ _=>trivial),g4 X hX⟩⟩
    · rcases List.mem_append.1 hb with q | q
      · obtain ⟨r,z1,z2,z3⟩:=p1 b q;refine ⟨r,z3,Or.inr ⟨?_,g3 r z1,z2⟩⟩;rcases (lM hd1).2 r z1 with e | e
        · exact absurd e z2
        · exact e
      · obtain ⟨r,z1,z2 | ⟨z2,z3,z4⟩⟩:=g1 b q
        · exact ⟨r,z1,Or.inl ⟨z2.1,by omega⟩⟩
        · exact ⟨r,z1,Or.inr ⟨z2,z3,fun e=>z4 (p3 r e)⟩⟩
    · rw [List.nodup_append];refine ⟨p2,g2,fun b hb b' hb' e=>?_⟩;subst e;obtain ⟨r,z1,z2,z3⟩:=p1 b hb;obtain ⟨r',z1',z2'⟩:=g1 b hb';have:=h.disj r r' b z3 z1';subst this;rcases z2' with ⟨⟨cs,e⟩,_⟩ | ⟨_,_,e⟩
      · rcases (lM hd1).2 r z1 with e' | ⟨p,e1,l,e'⟩
        · exact z2 e'
        · rw [e] at e';cases e'
      · exact e z1
  · cases hd
 | .io o f t::A,x,us,i,y,seen,seen',hr,hi,hv,hd=>by
  obtain ⟨us',rfl,hr⟩:=hr;simp only [cS] at hi;simp only [yH] at hv;simp only [zE] at hd;cases hrow:hp i with
  | box cs =>
   rw [hrow] at hv hd;simp only [] at hv hd;obtain ⟨v1,v2⟩:=d7 hv;have hrk:=h.rows i;rw [hrow] at hrk;obtain ⟨hN,hB,hn1,vs,te,hh,hcr⟩:=hrk;have hgi:=(h.giv i (by omega)).2;have hbi:bO φ i (hp i)=some (w0.φ i).b:=by rw [hrow];simp only [bO];rw [hgi]
   rw [hgi] at hh;cases o with
   | true =>
    rw [cond_true] at hd;split at hd
    · rename_i seen1 hd1;obtain ⟨bl,p1,p2,p3,p4⟩:=xK h t v1 hcr hd1;obtain ⟨bs',g1,g2,g3,g4⟩:=vG h (A:=A) hr (by omega) v2 hd;have own1:∀ b ∈ ay bl,∃ r,bO φ r (hp r)=some b∧(∃ p e l,hp r = .own p e l)∧r ∈ seen1∧r ∉ seen:=fun b q=>by
       obtain ⟨r,z1,z2,z3⟩:=p1 b q;refine ⟨r,z3,?_,z1,z2⟩;rcases (lM hd1).2 r z1 with e | e
       · exact absurd e z2
       · exact e
      refine ⟨(w0.φ i).b::(ay bl++bs'),fun b hb=>?_,?_,fun r q=>g3 r (p3 r q),fun X hX=>⟨_,vs,te,us',bl,bs',rfl,hh,rfl,by simp only [if_true];exact (p4 X hX).any (fun _ q=>q) (fun _ _=>trivial),g4 X hX⟩⟩
      · rcases List.mem_cons.1 hb with q | q
        · subst q;exact ⟨i,hbi,Or.inl ⟨⟨cs,hrow⟩,Nat.le_refl _⟩⟩
        · rcases List.mem_append.1 q with q | q
          · obtain ⟨r,z1,z2,z3,z4⟩:=own1 b q;exact ⟨r,z1,Or.inr ⟨z2,g3 r z3,z4⟩⟩
          · obtain ⟨r,z1,z2 | ⟨z2,z3,z4⟩⟩:=g1 b q
            · exact ⟨r,z1,Or.inl ⟨z2.1,by omega⟩⟩
            · exact ⟨r,z1,Or.inr ⟨z2,z3,fun e=>z4 (p3 r e)⟩⟩
      · rw [List.nodup_cons,List.mem_append,List.nodup_append];refine ⟨fun q=>?_,p2,g2,fun b hb b' hb' e=>?_⟩
        · rcases q with q | q
          · obtain ⟨r,z1,⟨p,e,l,z2⟩,_⟩:=own1 _ q;have:=h.disj i r _ hbi z1;subst this;rw [hrow] at z2;cases z2
          · obtain ⟨r,z1,⟨_,z2⟩ | ⟨⟨p,e,l,z2⟩,_⟩⟩:=g1 _ q
            · have:=h.disj i r _ hbi z1;omega
            · have:=h.disj i r _ hbi z1;subst this;rw [hrow] at z2;cases z2
        · subst e;obtain ⟨r,z1,⟨p,e1,l,z2⟩,z3,z4⟩:=own1 b hb;obtain ⟨r',z1',z2'⟩:=g1 b hb';have:=h.disj r r' b z1 z1';subst this;rcases z2' with ⟨⟨cs',e⟩,_⟩ | ⟨_,_,e⟩
          · rw [z2] at e;cases e
          · exact e z3
    · cases hd
   | false =>
    rw [cond_false] at hd;obtain ⟨hro,hd⟩:=aM hd;obtain ⟨bs',g1,g2,g3,g4⟩:=vG h (A:=A) hr (by omega) v2 hd;refine ⟨(w0.φ i).b::([]++bs'),fun b hb=>?_,?_,g3,fun X hX=>⟨_,vs,te,us',[],bs',rfl,hh,rfl,by simp only [Bool.false_eq_true,if_false];exact ⟨trivial,nA h t (vZ h hX hro) v1 hcr⟩,g4 X hX⟩⟩
    · rcases List.mem_cons.1 hb with q | q
      · subst q;exact ⟨i,hbi,Or.inl ⟨⟨cs,hrow⟩,Nat.le_refl _⟩⟩
      · rw [List.nil_append] at q;obtain ⟨r,z1,z2 | z2⟩:=g1 b q
        · exact ⟨r,z1,Or.inl ⟨z2.1,by omega⟩⟩
        · exact ⟨r,z1,Or.inr z2⟩
    · rw [List.nodup_cons,List.nil_append];refine ⟨fun q=>?_,g2⟩;obtain ⟨r,z1,⟨_,z2⟩ | ⟨⟨p,e,l,z2⟩,_⟩⟩:=g1 _ q
      · have:=h.disj i r _ hbi z1;omega
      · have:=h.disj i r _ hbi z1;subst this;rw [hrow] at z2;cases z2
  | dead=>rw [hrow] at hv;cases hv
  | own p e l=>rw [hrow] at hv;cases hv
  | fro p e l=>rw [hrow] at hv;cases hv
theorem xM {B:List Ty}:∀ {A:List Ty} {y:(tup A).d} {z:(tup B).d},Dj A (J4 A y z)=y
 | [],_,_=>rfl
 | _::A,y,z=>Prod.ext rfl (xM (A:=A))
theorem tc {B:List Ty}:∀ {A:List Ty} {y:(tup A).d} {z:(tup B).d},pg A (J4 A y z)=z
 | [],_,_=>rfl
 | _::A,y,z=>tc (A:=A)
theorem DT {tb:mh} {st:St} (hP:cX P tb=true) (h:Ok w0 N φ st.tm st.hp a w) {rv:Array ResultVar} {f:ResultVar→Sem Value} (hf1:∀ t,f (.tmp t)=pure (a.tmps.getD t undef))
 (hf2:∀ x t,f (.cell x t)=(do loadVar t (← asAddr (a.tmps.getD x undef)))) {cells:List AV} (hs:lf tb st rv.toList=some cells) :
 ∃ vs,(do let vs ← rv.mapM f;pure (if h:vs.size=1 then vs[0] else .tuple vs):Sem Value).run P w = .ok (GP vs) w∧dH w (XX w0 w φ st.hp) N φ cells vs:=by
 obtain ⟨vs,h1,h2⟩:=D7 hP h hf1 hf2 hs;refine ⟨vs,?_,h2⟩;rw [Array.mapM_eq_mapM_toList,Sem.run_bind];have:(List.toArray <$> List.mapM f rv.toList:Sem (Array Value)).run P w = .ok vs.toArray w:=by rw [map_eq_pure_bind,Sem.run_bind,h1,Result.andThen_ok,Sem.run_pure]
 rw [this,Result.andThen_ok,Sem.run_pure];congr 1
 match vs with
 | []=>rfl
 | [v]=>rfl
 | v::v'::vs=>rfl
theorem xh {fn:Func} {tb:mh} {st:St} (hP:cX P tb=true) (h:Ok w0 N φ st.tm st.hp a w) {cells:List AV} (hs:lf tb st fn.results.toList=some cells) :
 ∃ vs,(results fn a.tmps).run P w = .ok (GP vs) w∧dH w (XX w0 w φ st.hp) N φ cells vs:=by
 unfold results;exact DT hP h (fun _=>rfl) (fun _ _=>rfl) hs
theorem Hh {J:Gl} {E:gq} {f:Nat} {fn:Func} {c:Code} {A:List Pm} {rs:List Ty} {fresh al:Bool} (hbx:rA rs=false) (hm:P.follows .mixedOrders=true) (hP:cX P E.tb=true) (hE:BD P E.tb) (hC:∀ g c,look E.ct g=some c→G3 J P (g % 100000) c) (hEg:E.g=cS A)
 (hf:P.funcs[f]?=some fn) (hname:(fn.name == "runtime.NumGoroutine")=false) (hb:fn.body=some c) {g:(tup (pn A)).d→Option (tup (iG A++rs)).d} (hg:∀ x r,g x=some r→run E fn A rs fresh al x=some r):G3 J P f ⟨A,rs,fresh,al,g⟩:=by
 refine ⟨fun w as=>?_,fun q=>absurd (hbx.symm.trans q) (by decide),fun _ x r hx w as bs Xa hJ hB hXa has hnd=>?_⟩
 · have h1:fn.name ≠ "runtime.NumGoroutine" := by simpa using hname
   simp [callFunc,hf,h1,hb]
 · have hrun:=hg x r hx;unfold run at hrun;have hbody:body fn=c:=by unfold body;rw [hb]
   rw [hbody] at hrun;refine calls_of_wp hf hb ?_;obtain ⟨ψ,hS,hroot⟩:=S.enter has hXa hnd fn.ntmps;refine ot hm hP hE (fun g c q=>(hC g c q).at hJ hB) hEg c hrun hS fun e st' a' w' h' hk=>?_
   have key:Ha E.tb fn.results.toList A x rs fresh al st'=some r→a'.defers=[]∧∃ v,(results fn a'.tmps).run P w' = .ok v w' ∧
    ∃ bs' cs bl,Ending.returned v = .returned (GP (kA rs cs))∧B_ bs w w'∧(bs'++ay bl).Nodup∧(∀ b ∈ bs'++ay bl,w.heap.size≤b∨b ∈ bs) ∧
     ∃ X':Nat→Prop,(∀ b,X' b→b<w'.heap.size∧b ∉ bs'++ay bl∧(w.heap.size≤b∨b ∈ bs∨(al=true∧Xa b)))∧yz w' X' A as (Dj (iG A) r) bs' ∧
     (if fresh then nX w' X' (fun _=>True) (tup rs) (pg (iG A) r) cs bl else bl=[]∧Rd w' X' (tup rs) (pg (iG A) r) cs):=by
    intro hk;obtain ⟨N,φ,hN,h'⟩:=h';unfold Ha at hk;cases hcells:lf E.tb st' fn.results.toList with
    | none=>rw [hcells] at hk;cases hk
    | some cells =>
    rw [hcells] at hk;simp only [] at hk;obtain ⟨vs,r1,r2⟩:=xh hP h' hcells;have hz0:Ok ⟨w,(· ∈ bs),cS A,ψ,Xa⟩ N φ st'.tm (vo fresh st'.hp cells) a' w'∧dH w' (XX ⟨w,(· ∈ bs),cS A,ψ,Xa⟩ w' φ (vo fresh st'.hp cells)) N φ cells vs:=by
     unfold vo;cases fresh with
     | true=>exact ⟨h',r2⟩
     | false =>
      have hf:=ji st'.hp (cells.flatMap cellsOf);refine ⟨h'.freeze _ hf,dH.mono (fun p b hx=>hx.mono (Nat.le_refl _) (fun b _ ⟨s,hs⟩=>⟨s,?_⟩)) (fun _ _ _=>rfl) (fun _ q=>q) (fun _ _=>rfl) r2⟩;rcases hf.eq.1 s with g | ⟨p',e',l',g1,g2⟩
      · rw [cond_false,g] at hs;exact hs
      · rw [cond_false,g2] at hs;cases hs
    generalize vo fresh st'.hp cells=hpz at hk hz0;clear h' r2;obtain ⟨h',r2⟩:=hz0;cases hy:yH hpz A x 0 with
    | none=>rw [hy] at hk;cases hk
    | some y =>
    rw [hy] at hk;simp only [] at hk;cases hz:args hpz rs cells with
    | none=>rw [hz] at hk;cases hk
    | some z =>
    rw [hz] at hk;simp only [] at hk;cases hd:zE al hpz A x 0 [] with
    | none=>rw [hd] at hk;cases hk
    | some seen =>
    rw [hd] at hk;simp only [] at hk;obtain ⟨bs',o1,o2,o3,o4⟩:=vG h' (i:=0) hroot (by simp) hy hd;have hkept:B_ bs w w':=⟨h'.below.os,h'.below.tape,h'.below.output,h'.below.size,fun k h1 h2=>h'.below.block k h1 h2⟩;have hmine:∀ (r:Nat) (b:Nat),bO φ r (hpz r)=some b→w.heap.size≤b∨b ∈ bs:=fun r b q=>(h'.blk_lt q).1
    cases hfr:fresh with
    | true =>
     rw [hfr,cond_true] at hk;split at hk
     · rename_i seen2 hd2;obtain rfl:=Option.some.inj hk;obtain ⟨cs,bl,e,b1,b2,b3,b4⟩:=Fb h' hz r2 hd2;have hblk:∀ b ∈ bs'++ay bl,∃ r,bO φ r (hpz r)=some b:=fun b q=>by
        rcases List.mem_append.1 q with q | q
        · obtain ⟨r,z,_⟩:=o1 b q;exact ⟨r,z⟩
        · obtain ⟨r,_,_,z⟩:=b1 b q;exact ⟨r,z⟩
       have hX:∀ p b,(p&&!al)=false→XX ⟨w,(· ∈ bs),cS A,ψ,Xa⟩ w' φ hpz p b→b<w'.heap.size∧b ∉ bs'++ay bl∧(w.heap.size≤b∨b ∈ bs∨(al=true∧Xa b)):=fun p b hp hx=>by
        refine ⟨hx.1,fun q=>?_,?_⟩
        · obtain ⟨r,z⟩:=hblk b q;exact hx.2.1 ⟨r,z⟩
        · rcases hx.2.2 with (q | q) | ⟨q1,q2⟩
          · exact Or.inl q
          · exact Or.inr (Or.inl q)
          · subst q1;exact Or.inr (Or.inr ⟨by simpa using hp,q2⟩)
       refine ⟨h'.defers,_,r1,bs',cs,bl,by rw [e],hkept,?_,fun b q=>?_,_,fun b q=>q,?_,?_⟩
       · rw [List.nodup_append];refine ⟨o2,b2,fun b hb b' hb' e=>?_⟩;subst e;obtain ⟨r,z1,z2⟩:=o1 b hb;obtain ⟨r',y1,y2,y3⟩:=b1 b hb';have:=h'.disj r r' b z1 y3;subst this;rcases z2 with ⟨⟨cs',e⟩,_⟩ | ⟨_,e,_⟩
         · rcases (lM hd2).2 r y1 with e' | ⟨p,e1,l,e'⟩
           · exact y2 e'
           · rw [e] at e';cases e'
         · exact y2 e
       · obtain ⟨r,z⟩:=hblk b q;exact hmine r b z
       · rw [xM];exact o4 _ hX
       · rw [tc];simp only [if_true];exact (b4 _ hX).any (fun _ q=>q) (fun _ _=>trivial)
     · cases hk
    | false =>
     rw [hfr,cond_false] at hk;obtain ⟨hro,hk⟩:=aM hk;obtain rfl:=Option.some.inj hk;have hX:∀ p b,(p&&!al)=false→XX ⟨w,(· ∈ bs),cS A,ψ,Xa⟩ w' φ hpz p b→b<w'.heap.size∧b ∉ bs'++ay []∧(w.heap.size≤b∨b ∈ bs∨(al=true∧Xa b)):=fun p b hp hx=>by
      refine ⟨hx.1,fun q=>?_,?_⟩
      · rw [show ay []=[] from rfl,List.append_nil] at q;obtain ⟨r,z,_⟩:=o1 b q;exact hx.2.1 ⟨r,z⟩
      · rcases hx.2.2 with (q | q) | ⟨q1,q2⟩
        · exact Or.inl q
        · exact Or.inr (Or.inl q)
        · subst q1;exact Or.inr (Or.inr ⟨by simpa using hp,q2⟩)
     obtain ⟨cs,e,hrd⟩:=HQ h' hX hz r2 hro;refine ⟨h'.defers,_,r1,bs',cs,[],by rw [e],hkept,by simpa [ay] using o2,fun b q=>?_,_,fun b q=>q,?_,?_⟩
     · rw [show ay []=[] from rfl,List.append_nil] at q;obtain ⟨r,z,_⟩:=o1 b q;exact hmine r b z
     · rw [xM];exact o4 _ hX
     · rw [tc];simp only [Bool.false_eq_true,if_false];exact ⟨trivial,hrd⟩
   cases e with
   | normal=>exact key hk
   | ret=>exact key hk
   | exit i=>cases hk
theorem Hi {J:Gl} {E:gq} {f:Nat} {fn:Func} {c:Code} {A:List Pm} {rs:List Ty} (hbx:rA rs=true) (hm:P.follows .mixedOrders=true) (hP:cX P E.tb=true) (hE:BD P E.tb) (hC:∀ g c,look E.ct g=some c→G3 J P (g % 100000) c) (hEg:E.g=cS A)
 (hf:P.funcs[f]?=some fn) (hname:(fn.name == "runtime.NumGoroutine")=false) (hb:fn.body=some c) {g:(tup (pn A)).d→Option (tup (iG A++rs)).d} (hg:∀ x r,g x=some r→Mc E fn A rs x=some r):G3 J P f ⟨A,rs,false,true,g⟩:=by
 refine ⟨fun w as=>?_,fun _ x r hx w as Xa hJ hXa has=>?_,fun q=>absurd (hbx.symm.trans q) (by decide)⟩
 · have h1:fn.name ≠ "runtime.NumGoroutine" := by simpa using hname
   simp [callFunc,hf,h1,hb]
 · have hrun:=hg x r hx;unfold Mc at hrun;have hbody:body fn=c:=by unfold body;rw [hb]
   rw [hbody] at hrun;refine calls_of_wp hf hb ?_;obtain ⟨ψ,hS,hroot⟩:=S.enter has (fun b q=>⟨hXa b q,by simp⟩) List.nodup_nil fn.ntmps;refine ot hm hP hE (fun g c q=>(hC g c q).at hJ (fun b q=>by cases q)) hEg c hrun hS fun e st' a' w' h' hk=>?_
   have key:CU E.tb fn.results.toList A x rs st'=some r→a'.defers=[]∧∃ v,(results fn a'.tmps).run P w' = .ok v w' ∧
    ∃ b vs te,Ending.returned v = .returned (.pointer (some ⟨b,0,none⟩))∧B_ [] w w'∧w.heap.size≤b∧w'.heap[b]?=some (.cells vs te (0,0)) ∧
     ∃ X':Nat→Prop,(∀ d,X' d→d<w'.heap.size∧d≠b∧(w.heap.size≤d∨Xa d))∧Ft w' X' rs (pg (iG A) r) vs.toList:=by
    intro hk;obtain ⟨N,φ,hN,h'⟩:=h';unfold CU at hk;cases hcells:lf E.tb st' fn.results.toList with
    | none=>rw [hcells] at hk;cases hk
    | some cells =>
    rw [hcells] at hk;simp only [] at hk;obtain ⟨vs,r1,r2⟩:=xh hP h' hcells;cases hz:KE st'.hp rs cells with
    | none=>rw [hz] at hk;cases hk
    | some z =>
    rw [hz] at hk;simp only [] at hk;cases hy:yH st'.hp A x 0 with
    | none=>rw [hy] at hk;cases hk
    | some y =>
    rw [hy] at hk;simp only [Option.some.injEq] at hk;subst hk;rw [tc];have hkept:B_ [] w w':=⟨h'.below.os,h'.below.tape,h'.below.output,h'.below.size,fun k h1 h2=>h'.below.block k h1 h2⟩;unfold KE at hz;split at hz
    · rename_i t r0 _;split at hz
      · rename_i cs hrow;obtain ⟨hro,hz⟩:=aM hz;cases hpj:prj (apply st'.hp (freeze st'.hp cs)) t cs with
        | none=>rw [hpj] at hz;cases hz
        | some yy =>
        rw [hpj] at hz;obtain rfl:=Option.some.inj hz;have hfz:=ji st'.hp cs;have hz0:=h'.freeze _ hfz;have hrow2:apply st'.hp (freeze st'.hp cs) r0 = .box cs:=by
         rcases hfz.eq.1 r0 with g | ⟨p',e',l',g1,g2⟩
         · rw [g];exact hrow
         · rw [hrow] at g1;cases g1
        have hR:=hz0.rows r0;rw [hrow2] at hR;obtain ⟨k1,k2,k3,us,te,k4,k5⟩:=hR;unfold dH at r2;obtain ⟨u,us',rfl,hu,hus⟩:=r2;unfold dH at hus;subst hus;have hu':u = .pointer (some ⟨(φ r0).b,0,none⟩):=by obtain ⟨_,_,e⟩:=hu;simpa using e
        have hb0:w.heap.size≤(φ r0).b:=by
         rcases k2 with q | q
         · exact q
         · cases q
        refine ⟨h'.defers,_,r1,(φ r0).b,us,te,by rw [hu'];rfl,hkept,hb0,k4,fun d=>XX ⟨w,(· ∈ []),cS A,ψ,Xa⟩ w' φ (apply st'.hp (freeze st'.hp cs)) true d,fun d hd=>⟨hd.1,fun e=>?_,?_⟩,?_⟩
        · subst e;exact hd.2.1 ⟨r0,by rw [hrow2];rfl⟩
        · rcases hd.2.2 with (q | q) | ⟨_,q⟩
          · exact Or.inl q
          · cases q
          · exact Or.inr q
        · show Rd w' _ t yy us.toList;exact nA hz0 t (vZ hz0 (al:=true) (fun p b _ hx=>⟨hx.1,hx.2.1,Bs.see_up (fun _=>rfl) hx.2.2⟩) hro) hpj k5
      · cases hz
    · cases hz
   cases e with
   | normal=>exact key hk
   | ret=>exact key hk
   | exit i=>cases hk
end
end Go.V
end
section
namespace Go.V
open Go.RowKit
def G7:Option TypeDesc→Ty→Bool
 | some .bool,.bool=>true
 | some (.int k),.int k'=>decide (k=k')
 | some .string,.str=>true
 | _,_=>false
def Cu (P:Program):Nat→List Field→List Ty→Bool
 | _,[],[]=>true
 | n,f::fs,t::ts=>f.name != "_" && decide (f.offset=n)&&G7 (P.underlying f.type) t&&Cu P (n+1) fs ts
 | _,_,_=>false
def Hl (P:Program) (t:Nat) (tys:List Ty):Bool :=
 match P.underlying t with
 | some (.struct fs)=>!(P.stoodInHeld t)&&!(P.eqGuardType P.depth t)&&Cu P 0 fs.toList tys
 | _=>false
def EU (P:Program) (tb:mh):Bool:=tb.eqs.all fun p=>Hl P p.1 p.2
section
variable {P:Program} {w:World} {N:Nat→Prop} {φ:Nat→jF} {X:Bool→Nat→Prop}
theorem Bj {t:TypeId} {ty:Ty} (h:G7 (P.underlying t) ty=true) {xs:Array Value} {off:Nat} {u:Value} (hu:xs[off]?=some u):(part t xs off).run P w = .ok u w:=by
 cases hd:P.underlying t with
 | none=>rw [hd] at h;cases h
 | some d =>
  rw [hd] at h;have:(isAgg t).run P w = .ok false w:=by
   unfold isAgg;rw [Sem.run_bind,run_underlying hd w,Result.andThen_ok];cases d <;> cases ty <;> first | rfl | cases h
  unfold part;rw [Sem.run_bind,this,Result.andThen_ok];simp [hu]
theorem Lb {t:TypeId} {ty:Ty} (h:G7 (P.underlying t) ty=true) {x y:AV} {u v:Value} {c:Bool} (hc:wi ty x y=some c) (hx:dC w X N φ x u) (hy:dC w X N φ y v) (d:Nat) :
 (Op.equalIn (d+1) t u v).run P w = .ok c w:=by
 cases hd:P.underlying t with
 | none=>rw [hd] at h;cases h
 | some de =>
  rw [hd] at h;unfold wi at hc;split at hc
  · cases hx;cases hy;cases hc;cases de <;> first | (cases h;done) | exact run_equalIn_bool' w d t _ _ hd
  · rename_i k k1 a k2 b;split at hc
    · split at hc
      · rename_i h1 h2;subst h1;subst h2;cases hx;cases hy;cases hc;cases de <;> first | (cases h;done) | exact run_equalIn_int w d t _ _ _ _ hd
      · cases hc
    · cases hc
  · cases hx;cases hy;cases hc;cases de <;> first | (cases h;done) | exact run_equalIn_string w d t _ _ hd
  · cases hc
theorem BZ {d:Nat} {xs ys:Array Value}:∀ (fs:List Field) (tys:List Ty) (n:Nat) (cs ds:List AV) (vs us:List Value) (c:Bool),Cu P n fs tys=true→mY tys cs ds=some c→cV w X N φ cs vs→cV w X N φ ds us →
 (∀ j u,vs[j]?=some u→xs[n+j]?=some u)→(∀ j u,us[j]?=some u→ys[n+j]?=some u)→(Op.eqFields (d+1) xs ys fs).run P w = .ok c w
 | [],[],n,cs,ds,vs,us,c,hl,hc,hr,hr',hv,hu=>by cases cs <;> cases ds <;> simp [mY] at hc;subst hc;simp [Op.eqFields]
 | [],_::_,_,_,_,_,_,_,hl,_,_,_,_,_=>by cases hl
 | _::_,[],_,_,_,_,_,_,hl,_,_,_,_,_=>by cases hl
 | f::fs,t::ts,n,cs,ds,vs,us,c,hl,hc,hr,hr',hv,hu=>by
  simp only [Cu,Bool.and_eq_true,decide_eq_true_eq] at hl;obtain ⟨⟨⟨l1,l2⟩,l3⟩,l4⟩:=hl;have key:∀ (x y:AV) (cs' ds':List AV) (c1 c2:Bool),cs=x::cs'→ds=y::ds'→wi t x y=some c1→mY ts cs' ds'=some c2→(Op.eqFields (d+1) xs ys (f::fs)).run P w = .ok (c1&&c2) w:=by
   intro x y cs' ds' c1 c2 e1 e2 h1 h2;subst e1;subst e2;unfold cV at hr hr';obtain ⟨u,vs',rfl,_,r1,r2⟩:=hr;obtain ⟨v,us',rfl,_,r1',r2'⟩:=hr';have ih:=BZ (d:=d) fs ts (n+1) cs' ds' vs' us' c2 l4 h2 r2 r2' (fun j u hj=>by have:=hv (j+1) u (by simpa using hj);rw [show n+1+j=n+(j+1) by omega];exact this)
    (fun j u hj=>by have:=hu (j+1) u (by simpa using hj);rw [show n+1+j=n+(j+1) by omega];exact this)
   have p1:=Bj (P:=P) (w:=w) l3 (xs:=xs) (off:=f.offset) (u:=u) (by rw [l2];exact hv 0 u (by simp));have p2:=Bj (P:=P) (w:=w) l3 (xs:=ys) (off:=f.offset) (u:=v) (by rw [l2];exact hu 0 v (by simp));have p3:=Lb l3 h1 r1 r1' d;have hn:f.name ≠ "_" := by simpa using l1
   simp only [Op.eqFields,if_pos hn,Sem.run_bind,p1,p2,p3,Result.andThen_ok];cases c1
   · simp
   · simpa using ih
  cases cs with
  | nil=>cases ts <;> simp [mY] at hc
  | cons x cs' =>
   cases ds with
   | nil=>cases ts <;> cases cs' <;> simp [mY] at hc
   | cons y ds' =>
    by_cases hone:ts=[]∧cs'=[]∧ds'=[]
    · obtain ⟨rfl,rfl,rfl⟩:=hone;simp only [mY] at hc;have:=key x y [] [] c true rfl rfl hc rfl;simpa using this
    · have e:mY (t::ts) (x::cs') (y::ds')=(match wi t x y,mY ts cs' ds' with
       | some c,some d=>some (c&&d)
       | _,_=>none):=by
       cases ts <;> cases cs' <;> cases ds' <;> first | rfl | exact absurd ⟨rfl,rfl,rfl⟩ hone
      rw [e] at hc;split at hc
      · rename_i c1 c2 h1 h2;cases hc;exact key x y cs' ds' c1 c2 rfl rfl h1 h2
      · cases hc
theorem yZ {tb:mh} (h:EU P tb=true):BD P tb:=by
 intro t tys ht w X N φ cs ds vs us c x y hr hr' hc;have h1:=(List.all_eq_true.1 h) _ (pj ht);unfold Hl at h1;split at h1
 · rename_i fs hfs;simp only [Bool.and_eq_true,Bool.not_eq_true'] at h1;obtain ⟨⟨h1,h2⟩,h3⟩:=h1;have hf:P.fieldsOf t=fs:=by simp [Program.fieldsOf,hfs]
   have e1:=run_eqGuard_agg (P:=P) w .eql t x y vs.toArray us.toArray h2;have e2:=run_eqGuard_agg (P:=P) w .neq t x y vs.toArray us.toArray h2;have e3:(Op.equalIn 10000 t (.agg vs.toArray) (.agg us.toArray)).run P w = .ok c w:=by rw [run_equalIn_struct (P:=P) w 9999 t _ _ (by rw [hf];exact hfs) h1,hf];exact BZ (d:=9998) fs.toList tys 0 cs ds vs us c h3 hc hr hr' (fun j u hj=>by simpa using hj) (fun j u hj=>by simpa using hj)
   exact ⟨by rw [Sem.run_bind,e1,Result.andThen_ok,run_eql_struct,e3,Result.andThen_ok],by rw [Sem.run_bind,e2,Result.andThen_ok,run_neq_struct,e3,Result.andThen_ok]⟩
 · cases h1
end
end Go.V
end

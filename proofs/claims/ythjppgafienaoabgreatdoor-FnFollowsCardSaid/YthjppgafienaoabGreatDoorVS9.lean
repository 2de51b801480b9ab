/- V: soundness, part 9 of 10. -/
import Derived.Test.YthjppgafienaoabGreatDoorVS8
import Derived.Test.YthjppgafienaoabGreatDoorVS4
import Derived.Laws.StructEq
set_option linter.unusedVariables false
set_option linter.unusedSimpArgs false
section
namespace Go.V
open Go.RowKit
section
variable {P:Program} {w0:Bs} {w:World} {N:Nat→Prop} {φ:Nat→hZ} {tm:List AV} {hp:Hp} {a:Act}
theorem CG {al:Bool} (h:Ok w0 N φ tm hp a w):∀ {ts:List Ty} {vs:List AV} {us:List Value} {x:(tup ts).d} {seen seen':List Nat},args hp ts vs=some x→cQ w (XX w0 w φ hp) N φ vs us→fy al hp (vs.flatMap cellsOf) seen=some seen' →
 ∃ cs bl,us=ip ts cs∧(∀ b ∈ ah bl,∃ r,r ∈ seen'∧r ∉ seen∧ay φ r (hp r)=some b)∧(ah bl).Nodup∧(∀ r ∈ seen,r ∈ seen') ∧
  ∀ X:Nat→Prop,(∀ p b,(p&&!al)=false→XX w0 w φ hp p b→X b)→lY w X w0.mine (tup ts) x cs bl
 | [],[],us,x,seen,seen',hx,hr,hd=>by
  unfold cQ at hr
  subst hr
  cases hd
  exact ⟨[],[],rfl,fun b q=>(by cases q),List.nodup_nil,fun r q=>q,fun X _=>⟨rfl,rfl⟩⟩
 | [],_::_,us,x,seen,seen',hx,hr,hd=>by cases hx
 | _::_,[],us,x,seen,seen',hx,hr,hd=>by cases hx
 | t::ts,v::vs,us,x,seen,seen',hx,hr,hd=>by
  simp only [args] at hx
  obtain ⟨ha,hx⟩:=aJ hx
  obtain ⟨h1,h2⟩:=cG hx
  unfold cQ at hr
  obtain ⟨u,us',rfl,hu,hus⟩:=hr
  have ht:=oH h1
  have hc:=jC hu ht
  rw [List.flatMap_cons,km] at hd
  obtain ⟨LU,hd1,hd2⟩:=Option.bind_eq_some_iff.1 hd
  obtain ⟨b1,p1,p2,p3,p4⟩:=u6 h t h1 hc hd1
  obtain ⟨cs,b2,e2,q1,q2,q3,q4⟩:=CG h h2 hus hd2
  have hl:u.cells.toList.length=t.size:=(p4 (fun _=>True) (fun _ _ _ _=>trivial)).len.1
  refine ⟨u.cells.toList++cs,b1++b2,?_,fun b hb=>?_,?_,fun r q=>q3 r (p3 r q),fun X hX=>⟨_,_,b1,b2,rfl,rfl,p4 X hX,q4 X hX⟩⟩
  · show u::us'=l_ t ((u.cells.toList++cs).take t.size)::ip ts ((u.cells.toList++cs).drop t.size)
    rw [List.take_left' hl,List.drop_left' hl,← e2,← tC hu ht ha]
  · simp only [ah,List.filterMap_append,List.mem_append] at hb
    rcases hb with hb | hb
    · obtain ⟨r,z1,z2,z3⟩:=p1 b hb
      exact ⟨r,q3 r z1,z2,z3⟩
    · obtain ⟨r,z1,z2,z3⟩:=q1 b hb
      exact ⟨r,z1,fun q=>z2 (p3 r q),z3⟩
  · simp only [ah,List.filterMap_append]
    rw [List.nodup_append]
    refine ⟨p2,q2,fun b hb b' hb' e=>?_⟩
    subst e
    obtain ⟨r,z1,z2,z3⟩:=p1 b hb
    obtain ⟨r',z1',z2',z3'⟩:=q1 b hb'
    have:=h.disj r r' b z3 z3'
    subst this
    exact z2' z1
theorem jk {al:Bool} {hp:Hp}:∀ {cs:List AV} {seen seen':List Nat},fy al hp cs seen=some seen'→(∀ r ∈ seen,r ∈ seen')∧∀ r ∈ seen',r ∈ seen∨∃ p e l,hp r = .own p e l
 | [],seen,seen',h=>by cases h;exact ⟨fun _ q=>q,fun _ q=>Or.inl q⟩
 | c::cs,seen,seen',h=>by
  cases c <;> simp only [fy] at h <;> try (cases h;done)
  all_goals (first | exact jk h | skip)
  split at h
  · rename_i p e l hr
    cases hb:((p&&!al)||seen.contains _) with
    | true=>rw [hb] at h;cases h
    | false =>
     rw [hb,cond_false] at h
     obtain ⟨h1,h2⟩:=jk h
     refine ⟨fun r q=>h1 r (List.mem_cons_of_mem _ q),fun r q=>?_⟩
     rcases h2 r q with q | q
     · rcases List.mem_cons.1 q with q | q
       · subst q;exact Or.inr ⟨p,e,l,hr⟩
       · exact Or.inl q
     · exact Or.inr q
  · cases h
theorem sY {al:Bool} (h:Ok w0 N φ tm hp a w) {X:Nat→Prop} (hX:∀ p b,(p&&!al)=false→XX w0 w φ hp p b→X b):∀ {cs:List AV},pW al hp cs=true→∀ c ∈ cs,zG w0 w φ hp X c
 | [],_,c,hc=>by cases hc
 | d::cs,hr,c,hc=>by
  have key:∀ c,(∀ p,p=true→taint1 hp c=true→al=true)→(∀ r p e l,c = .ref r→(hp r = .own p e l∨hp r = .fro p e l)→hp r = .fro p e l∧(p&&!al)=false)→zG w0 w φ hp X c:=fun c k1 k2 =>
   ⟨fun p b hp1 hx=>hX p b (by
    cases p with
    | false=>rfl
    | true=>rw [k1 true rfl (hp1 rfl)];rfl) hx,fun r p e l b e1 e2 hb=>by
    obtain ⟨q1,q2⟩:=k2 r p e l e1 e2
    have hrk:=h.rows r
    rw [q1] at hrk
    exact hX p b q2 (hrk.2 b hb)⟩
  rcases List.mem_cons.1 hc with q | q
  · subst q
    cases c <;> simp only [pW,Bool.and_eq_true] at hr <;> try (cases hr;done)
    case bool b=>exact key _ (fun p _ q=>by simp [taint1] at q) (fun r p e l q=>by cases q)
    case int k n=>exact key _ (fun p _ q=>by simp [taint1] at q) (fun r p e l q=>by cases q)
    case str b=>exact key _ (fun p _ q=>by simp [taint1] at q) (fun r p e l q=>by cases q)
    case nil e=>exact key _ (fun p _ q=>by simp [taint1] at q) (fun r p e l q=>by cases q)
    case sl p e l =>
     refine key _ (fun _ _ q=>?_) (fun r p e l q=>by cases q)
     simp only [taint1] at q
     subst q
     simpa using hr.1
    case ref r =>
     have hr1:=hr.1
     split at hr1
     · rename_i p e l hq
       refine key _ (fun _ _ q=>?_) (fun r' p' e' l' q1 q2=>?_)
       · simp only [taint1,hq] at q
         subst q
         simpa using hr1
       · cases q1
         rw [hq] at q2
         rcases q2 with q2 | q2
         · cases q2
         · cases q2
           refine ⟨hq,?_⟩
           cases p <;> cases al <;> simp at hr1 ⊢
     · cases hr1
  · have hr2:pW al hp cs=true:=by
     cases d <;> simp only [pW,Bool.and_eq_true] at hr <;> first | (exact hr) | (exact hr.2) | (cases hr;done)
    exact sY h hX hr2 c q
theorem Em {al:Bool} (h:Ok w0 N φ tm hp a w) {X:Nat→Prop} (hX:∀ p b,(p&&!al)=false→XX w0 w φ hp p b→X b):∀ {ts:List Ty} {vs:List AV} {us:List Value} {x:(tup ts).d},args hp ts vs=some x →
 cQ w (XX w0 w φ hp) N φ vs us→pW al hp (vs.flatMap cellsOf)=true→∃ cs,us=ip ts cs∧Rd w X (tup ts) x cs
 | [],[],us,x,hx,hr,hd=>by
  unfold cQ at hr
  subst hr
  exact ⟨[],rfl,rfl⟩
 | [],_::_,us,x,hx,hr,hd=>by cases hx
 | _::_,[],us,x,hx,hr,hd=>by cases hx
 | t::ts,v::vs,us,x,hx,hr,hd=>by
  simp only [args] at hx
  obtain ⟨ha,hx⟩:=aJ hx
  obtain ⟨h1,h2⟩:=cG hx
  unfold cQ at hr
  obtain ⟨u,us',rfl,hu,hus⟩:=hr
  have ht:=oH h1
  have hc:=jC hu ht
  rw [List.flatMap_cons] at hd
  have app:∀ cs ds:List AV,pW al hp (cs++ds)=true→pW al hp cs=true∧pW al hp ds=true:=by
   intro cs ds
   induction cs with
   | nil=>exact fun q=>⟨rfl,q⟩
   | cons c cs ih =>
    intro q
    cases c <;> simp only [List.cons_append,pW,Bool.and_eq_true] at q ⊢ <;> first | (cases q;done) | (exact ih q) | (exact ⟨⟨q.1,(ih q.2).1⟩,(ih q.2).2⟩)
  obtain ⟨d1,d2⟩:=app _ _ hd
  have hp1:=lS h t (sY h hX d1) h1 hc
  obtain ⟨cs,e2,q4⟩:=Em h hX h2 hus d2
  have hl:=hp1.len
  refine ⟨u.cells.toList++cs,?_,_,_,rfl,hp1,q4⟩
  show u::us'=l_ t ((u.cells.toList++cs).take t.size)::ip ts ((u.cells.toList++cs).drop t.size)
  rw [List.take_left' hl,List.drop_left' hl,← e2,← tC hu ht ha]
theorem rq {al:Bool} (h:Ok w0 N φ tm hp a w):∀ {A:List Pm} {x:(tup (nM A)).d} {us:List Value} {i:Nat} {y:(tup (gC A)).d} {seen seen':List Nat},pe w0.φ A x us i→i+cK A≤w0.g →
 uy hp A x i=some y→xe al hp A x i seen=some seen' →
 ∃ bs',(∀ b ∈ bs',∃ r,ay φ r (hp r)=some b∧(((∃ cs,hp r = .box cs)∧i≤r)∨((∃ p e l,hp r = .own p e l)∧r ∈ seen'∧r ∉ seen)))∧bs'.Nodup∧(∀ r ∈ seen,r ∈ seen') ∧
  ∀ X:Nat→Prop,(∀ p b,(p&&!al)=false→XX w0 w φ hp p b→X b)→xt w X A us y bs'
 | [],x,us,i,y,seen,seen',hr,hi,hv,hd=>by
  cases hd
  exact ⟨[],fun b q=>(by cases q),List.nodup_nil,fun _ q=>q,fun X _=>⟨hr,rfl⟩⟩
 | .val t::A,x,us,i,y,seen,seen',hr,hi,hv,hd=>by
  obtain ⟨u,us',rfl,hr⟩:=hr
  obtain ⟨bs',g1,g2,g3,g4⟩:=rq h (A:=A) hr hi hv hd
  exact ⟨bs',g1,g2,g3,fun X hX=>⟨u,us',rfl,g4 X hX⟩⟩
 | .give t::A,x,us,i,y,seen,seen',hr,hi,hv,hd=>by
  obtain ⟨u,us',rfl,hr⟩:=hr
  obtain ⟨bs',g1,g2,g3,g4⟩:=rq h (A:=A) hr hi hv hd
  exact ⟨bs',g1,g2,g3,fun X hX=>⟨u,us',rfl,g4 X hX⟩⟩
 | .fn f n::A,x,us,i,y,seen,seen',hr,hi,hv,hd=>by
  obtain ⟨vs,us',rfl,hn,hr⟩:=hr
  obtain ⟨bs',g1,g2,g3,g4⟩:=rq h (A:=A) hr hi hv hd
  exact ⟨bs',g1,g2,g3,fun X hX=>⟨vs,us',rfl,hn,g4 X hX⟩⟩
 | .lend t::A,x,us,i,y,seen,seen',hr,hi,hv,hd=>by
  obtain ⟨u,us',rfl,hc,hr⟩:=hr
  simp only [uy] at hv
  obtain ⟨v1,v2⟩:=cG hv
  simp only [xe] at hd
  split at hd
  · rename_i seen1 hd1
    simp only [cK] at hi
    have hrep:c_ w (XX w0 w φ hp) N φ (ny true t x.1 i) u.cells.toList:=by
     have:=hc w (XX w0 w φ hp) (fun r=>r<w0.g) (fun k hk=>by show i+k<w0.g;omega)
     exact c_.mono (fun _ _ q=>q) (fun _ _ _=>rfl) (fun r q=>(h.giv r q).1) (fun r q=>(h.giv r q).2) this
    obtain ⟨bl,p1,p2,p3,p4⟩:=u6 h t v1 hrep hd1
    obtain ⟨bs',g1,g2,g3,g4⟩:=rq h (A:=A) hr (by omega) v2 hd
    refine ⟨ah bl++bs',fun b hb=>?_,?_,fun r q=>g3 r (p3 r q),fun X hX=>⟨u,us',bl,bs',rfl,rfl,(p4 X hX).any (fun _ q=>q) (fun _ _=>trivial),g4 X hX⟩⟩
    · rcases List.mem_append.1 hb with q | q
      · obtain ⟨r,z1,z2,z3⟩:=p1 b q
        refine ⟨r,z3,Or.inr ⟨?_,g3 r z1,z2⟩⟩
        rcases (jk hd1).2 r z1 with e | e
        · exact absurd e z2
        · exact e
      · obtain ⟨r,z1,z2 | ⟨z2,z3,z4⟩⟩:=g1 b q
        · exact ⟨r,z1,Or.inl ⟨z2.1,by omega⟩⟩
        · exact ⟨r,z1,Or.inr ⟨z2,z3,fun e=>z4 (p3 r e)⟩⟩
    · rw [List.nodup_append]
      refine ⟨p2,g2,fun b hb b' hb' e=>?_⟩
      subst e
      obtain ⟨r,z1,z2,z3⟩:=p1 b hb
      obtain ⟨r',z1',z2'⟩:=g1 b hb'
      have:=h.disj r r' b z3 z1'
      subst this
      rcases z2' with ⟨⟨cs,e⟩,_⟩ | ⟨_,_,e⟩
      · rcases (jk hd1).2 r z1 with e' | ⟨p,e1,l,e'⟩
        · exact z2 e'
        · rw [e] at e';cases e'
      · exact e z1
  · cases hd
 | .io o t::A,x,us,i,y,seen,seen',hr,hi,hv,hd=>by
  obtain ⟨us',rfl,hr⟩:=hr
  simp only [cK] at hi
  simp only [uy] at hv
  simp only [xe] at hd
  cases hrow:hp i with
  | box cs =>
   rw [hrow] at hv hd
   simp only [] at hv hd
   obtain ⟨v1,v2⟩:=cG hv
   have hrk:=h.rows i
   rw [hrow] at hrk
   obtain ⟨hN,hB,hn1,vs,te,hh,hcr⟩:=hrk
   have hgi:=(h.giv i (by omega)).2
   have hbi:ay φ i (hp i)=some (w0.φ i).b:=by rw [hrow];simp only [ay];rw [hgi]
   rw [hgi] at hh
   cases o with
   | true =>
    rw [cond_true] at hd
    split at hd
    · rename_i seen1 hd1
      obtain ⟨bl,p1,p2,p3,p4⟩:=u6 h t v1 hcr hd1
      obtain ⟨bs',g1,g2,g3,g4⟩:=rq h (A:=A) hr (by omega) v2 hd
      have own1:∀ b ∈ ah bl,∃ r,ay φ r (hp r)=some b∧(∃ p e l,hp r = .own p e l)∧r ∈ seen1∧r ∉ seen:=fun b q=>by
       obtain ⟨r,z1,z2,z3⟩:=p1 b q
       refine ⟨r,z3,?_,z1,z2⟩
       rcases (jk hd1).2 r z1 with e | e
       · exact absurd e z2
       · exact e
      refine ⟨(w0.φ i).b::(ah bl++bs'),fun b hb=>?_,?_,fun r q=>g3 r (p3 r q),fun X hX=>⟨_,vs,te,us',bl,bs',rfl,hh,rfl,by simp only [if_true];exact (p4 X hX).any (fun _ q=>q) (fun _ _=>trivial),g4 X hX⟩⟩
      · rcases List.mem_cons.1 hb with q | q
        · subst q;exact ⟨i,hbi,Or.inl ⟨⟨cs,hrow⟩,Nat.le_refl _⟩⟩
        · rcases List.mem_append.1 q with q | q
          · obtain ⟨r,z1,z2,z3,z4⟩:=own1 b q
            exact ⟨r,z1,Or.inr ⟨z2,g3 r z3,z4⟩⟩
          · obtain ⟨r,z1,z2 | ⟨z2,z3,z4⟩⟩:=g1 b q
            · exact ⟨r,z1,Or.inl ⟨z2.1,by omega⟩⟩
            · exact ⟨r,z1,Or.inr ⟨z2,z3,fun e=>z4 (p3 r e)⟩⟩
      · rw [List.nodup_cons,List.mem_append,List.nodup_append]
        refine ⟨fun q=>?_,p2,g2,fun b hb b' hb' e=>?_⟩
        · rcases q with q | q
          · obtain ⟨r,z1,⟨p,e,l,z2⟩,_⟩:=own1 _ q
            have:=h.disj i r _ hbi z1
            subst this
            rw [hrow] at z2;cases z2
          · obtain ⟨r,z1,⟨_,z2⟩ | ⟨⟨p,e,l,z2⟩,_⟩⟩:=g1 _ q
            · have:=h.disj i r _ hbi z1
              omega
            · have:=h.disj i r _ hbi z1
              subst this
              rw [hrow] at z2;cases z2
        · subst e
          obtain ⟨r,z1,⟨p,e1,l,z2⟩,z3,z4⟩:=own1 b hb
          obtain ⟨r',z1',z2'⟩:=g1 b hb'
          have:=h.disj r r' b z1 z1'
          subst this
          rcases z2' with ⟨⟨cs',e⟩,_⟩ | ⟨_,_,e⟩
          · rw [z2] at e;cases e
          · exact e z3
    · cases hd
   | false =>
    rw [cond_false] at hd
    obtain ⟨hro,hd⟩:=aJ hd
    obtain ⟨bs',g1,g2,g3,g4⟩:=rq h (A:=A) hr (by omega) v2 hd
    refine ⟨(w0.φ i).b::([]++bs'),fun b hb=>?_,?_,g3,fun X hX=>⟨_,vs,te,us',[],bs',rfl,hh,rfl,by simp only [Bool.false_eq_true,if_false];exact ⟨trivial,lS h t (sY h hX hro) v1 hcr⟩,g4 X hX⟩⟩
    · rcases List.mem_cons.1 hb with q | q
      · subst q;exact ⟨i,hbi,Or.inl ⟨⟨cs,hrow⟩,Nat.le_refl _⟩⟩
      · rw [List.nil_append] at q
        obtain ⟨r,z1,z2 | z2⟩:=g1 b q
        · exact ⟨r,z1,Or.inl ⟨z2.1,by omega⟩⟩
        · exact ⟨r,z1,Or.inr z2⟩
    · rw [List.nodup_cons,List.nil_append]
      refine ⟨fun q=>?_,g2⟩
      obtain ⟨r,z1,⟨_,z2⟩ | ⟨⟨p,e,l,z2⟩,_⟩⟩:=g1 _ q
      · have:=h.disj i r _ hbi z1
        omega
      · have:=h.disj i r _ hbi z1
        subst this
        rw [hrow] at z2;cases z2
  | dead=>rw [hrow] at hv;cases hv
  | own p e l=>rw [hrow] at hv;cases hv
  | fro p e l=>rw [hrow] at hv;cases hv
theorem tk {B:List Ty}:∀ {A:List Ty} {y:(tup A).d} {z:(tup B).d},A4 A (Fi A y z)=y
 | [],_,_=>rfl
 | _::A,y,z=>Prod.ext rfl (tk (A:=A))
theorem qc {B:List Ty}:∀ {A:List Ty} {y:(tup A).d} {z:(tup B).d},n8 A (Fi A y z)=z
 | [],_,_=>rfl
 | _::A,y,z=>qc (A:=A)
theorem zg {tb:lD} {st:St} (hP:cR P tb=true) (h:Ok w0 N φ st.tm st.hp a w) {rv:Array ResultVar} {f:ResultVar→Sem Value} (hf1:∀ t,f (.tmp t)=pure (a.tmps.getD t undef))
 (hf2:∀ x t,f (.cell x t)=(do loadVar t (← asAddr (a.tmps.getD x undef)))) {cells:List AV} (hs:k7 tb st rv.toList=some cells) :
 ∃ vs,(do let vs ← rv.mapM f;pure (if h:vs.size=1 then vs[0] else .tuple vs):Sem Value).run P w = .ok (E0 vs) w∧cQ w (XX w0 w φ st.hp) N φ cells vs:=by
 obtain ⟨vs,h1,h2⟩:=AP hP h hf1 hf2 hs
 refine ⟨vs,?_,h2⟩
 rw [Array.mapM_eq_mapM_toList,Sem.run_bind]
 have:(List.toArray <$> List.mapM f rv.toList:Sem (Array Value)).run P w = .ok vs.toArray w:=by
  rw [map_eq_pure_bind,Sem.run_bind,h1,Result.andThen_ok,Sem.run_pure]
 rw [this,Result.andThen_ok,Sem.run_pure]
 congr 1
 match vs with
 | []=>rfl
 | [v]=>rfl
 | v::v'::vs=>rfl
theorem uI {fn:Func} {tb:lD} {st:St} (hP:cR P tb=true) (h:Ok w0 N φ st.tm st.hp a w) {cells:List AV} (hs:k7 tb st fn.results.toList=some cells) :
 ∃ vs,(results fn a.tmps).run P w = .ok (E0 vs) w∧cQ w (XX w0 w φ st.hp) N φ cells vs:=by
 unfold results
 exact zg hP h (fun _=>rfl) (fun _ _=>rfl) hs
theorem J_ {J:Gl} {E:dI} {f:Nat} {fn:Func} {c:Code} {A:List Pm} {rs:List Ty} {fresh al:Bool} (hbx:rH rs=false) (hm:P.follows .mixedOrders=true) (hP:cR P E.tb=true) (hE:yK P E.tb) (hC:∀ g c,look E.ct g=some c→Ds J P g c) (hEg:E.g=cK A)
 (hf:P.funcs[f]?=some fn) (hname:(fn.name == "runtime.NumGoroutine")=false) (hb:fn.body=some c) {g:(tup (nM A)).d→Option (tup (gC A++rs)).d} (hg:∀ x r,g x=some r→run E fn A rs fresh al x=some r):Ds J P f ⟨A,rs,fresh,al,g⟩:=by
 refine ⟨fun w as=>?_,fun q=>absurd (hbx.symm.trans q) (by decide),fun _ x r hx w as bs Xa hJ hB hXa has hnd=>?_⟩
 · have h1:fn.name ≠ "runtime.NumGoroutine" := by simpa using hname
   simp [callFunc,hf,h1,hb]
 · have hrun:=hg x r hx
   unfold run at hrun
   have hbody:body fn=c:=by unfold body;rw [hb]
   rw [hbody] at hrun
   refine calls_of_wp hf hb ?_
   obtain ⟨ψ,hS,hroot⟩:=S.enter has hXa hnd fn.ntmps
   refine md hm hP hE (fun g c q=>(hC g c q).at hJ hB) hEg c hrun hS fun e st' a' w' h' hk=>?_
   have key:EL E.tb fn.results.toList A x rs fresh al st'=some r→a'.defers=[]∧∃ v,(results fn a'.tmps).run P w' = .ok v w' ∧
    ∃ bs' cs bl,Ending.returned v = .returned (E0 (ip rs cs))∧yN bs w w'∧(bs'++ah bl).Nodup∧(∀ b ∈ bs'++ah bl,w.heap.size≤b∨b ∈ bs) ∧
     ∃ X':Nat→Prop,(∀ b,X' b→b<w'.heap.size∧b ∉ bs'++ah bl∧(w.heap.size≤b∨b ∈ bs∨(al=true∧Xa b)))∧xt w' X' A as (A4 (gC A) r) bs' ∧
     (if fresh then lY w' X' (fun _=>True) (tup rs) (n8 (gC A) r) cs bl else bl=[]∧Rd w' X' (tup rs) (n8 (gC A) r) cs):=by
    intro hk
    obtain ⟨N,φ,hN,h'⟩:=h'
    unfold EL at hk
    cases hcells:k7 E.tb st' fn.results.toList with
    | none=>rw [hcells] at hk;cases hk
    | some cells =>
    rw [hcells] at hk
    simp only [] at hk
    obtain ⟨vs,r1,r2⟩:=uI hP h' hcells
    have hz0:Ok ⟨w,(· ∈ bs),cK A,ψ,Xa⟩ N φ st'.tm (tD fresh st'.hp cells) a' w'∧cQ w' (XX ⟨w,(· ∈ bs),cK A,ψ,Xa⟩ w' φ (tD fresh st'.hp cells)) N φ cells vs:=by
     unfold tD
     cases fresh with
     | true=>exact ⟨h',r2⟩
     | false =>
      have hf:=iM st'.hp (cells.flatMap cellsOf)
      refine ⟨h'.freeze _ hf,cQ.mono (fun p b hx=>hx.mono (Nat.le_refl _) (fun b _ ⟨s,hs⟩=>⟨s,?_⟩)) (fun _ _ _=>rfl) (fun _ q=>q) (fun _ _=>rfl) r2⟩
      rcases hf.eq.1 s with g | ⟨p',e',l',g1,g2⟩
      · rw [cond_false,g] at hs;exact hs
      · rw [cond_false,g2] at hs;cases hs
    generalize tD fresh st'.hp cells=hpz at hk hz0
    clear h' r2
    obtain ⟨h',r2⟩:=hz0
    cases hy:uy hpz A x 0 with
    | none=>rw [hy] at hk;cases hk
    | some y =>
    rw [hy] at hk
    simp only [] at hk
    cases hz:args hpz rs cells with
    | none=>rw [hz] at hk;cases hk
    | some z =>
    rw [hz] at hk
    simp only [] at hk
    cases hd:xe al hpz A x 0 [] with
    | none=>rw [hd] at hk;cases hk
    | some seen =>
    rw [hd] at hk
    simp only [] at hk
    obtain ⟨bs',o1,o2,o3,o4⟩:=rq h' (i:=0) hroot (by simp) hy hd
    have hkept:yN bs w w':=⟨h'.below.os,h'.below.tape,h'.below.output,h'.below.size,fun k h1 h2=>h'.below.block k h1 h2⟩
    have hmine:∀ (r:Nat) (b:Nat),ay φ r (hpz r)=some b→w.heap.size≤b∨b ∈ bs:=fun r b q=>(h'.blk_lt q).1
    cases hfr:fresh with
    | true =>
     rw [hfr,cond_true] at hk
     split at hk
     · rename_i seen2 hd2
       obtain rfl:=Option.some.inj hk
       obtain ⟨cs,bl,e,b1,b2,b3,b4⟩:=CG h' hz r2 hd2
       have hblk:∀ b ∈ bs'++ah bl,∃ r,ay φ r (hpz r)=some b:=fun b q=>by
        rcases List.mem_append.1 q with q | q
        · obtain ⟨r,z,_⟩:=o1 b q;exact ⟨r,z⟩
        · obtain ⟨r,_,_,z⟩:=b1 b q;exact ⟨r,z⟩
       have hX:∀ p b,(p&&!al)=false→XX ⟨w,(· ∈ bs),cK A,ψ,Xa⟩ w' φ hpz p b→b<w'.heap.size∧b ∉ bs'++ah bl∧(w.heap.size≤b∨b ∈ bs∨(al=true∧Xa b)):=fun p b hp hx=>by
        refine ⟨hx.1,fun q=>?_,?_⟩
        · obtain ⟨r,z⟩:=hblk b q
          exact hx.2.1 ⟨r,z⟩
        · rcases hx.2.2 with (q | q) | ⟨q1,q2⟩
          · exact Or.inl q
          · exact Or.inr (Or.inl q)
          · subst q1
            exact Or.inr (Or.inr ⟨by simpa using hp,q2⟩)
       refine ⟨h'.defers,_,r1,bs',cs,bl,by rw [e],hkept,?_,fun b q=>?_,_,fun b q=>q,?_,?_⟩
       · rw [List.nodup_append]
         refine ⟨o2,b2,fun b hb b' hb' e=>?_⟩
         subst e
         obtain ⟨r,z1,z2⟩:=o1 b hb
         obtain ⟨r',y1,y2,y3⟩:=b1 b hb'
         have:=h'.disj r r' b z1 y3
         subst this
         rcases z2 with ⟨⟨cs',e⟩,_⟩ | ⟨_,e,_⟩
         · rcases (jk hd2).2 r y1 with e' | ⟨p,e1,l,e'⟩
           · exact y2 e'
           · rw [e] at e';cases e'
         · exact y2 e
       · obtain ⟨r,z⟩:=hblk b q
         exact hmine r b z
       · rw [tk];exact o4 _ hX
       · rw [qc]
         simp only [if_true]
         exact (b4 _ hX).any (fun _ q=>q) (fun _ _=>trivial)
     · cases hk
    | false =>
     rw [hfr,cond_false] at hk
     obtain ⟨hro,hk⟩:=aJ hk
     obtain rfl:=Option.some.inj hk
     have hX:∀ p b,(p&&!al)=false→XX ⟨w,(· ∈ bs),cK A,ψ,Xa⟩ w' φ hpz p b→b<w'.heap.size∧b ∉ bs'++ah []∧(w.heap.size≤b∨b ∈ bs∨(al=true∧Xa b)):=fun p b hp hx=>by
      refine ⟨hx.1,fun q=>?_,?_⟩
      · rw [show ah []=[] from rfl,List.append_nil] at q
        obtain ⟨r,z,_⟩:=o1 b q
        exact hx.2.1 ⟨r,z⟩
      · rcases hx.2.2 with (q | q) | ⟨q1,q2⟩
        · exact Or.inl q
        · exact Or.inr (Or.inl q)
        · subst q1
          exact Or.inr (Or.inr ⟨by simpa using hp,q2⟩)
     obtain ⟨cs,e,hrd⟩:=Em h' hX hz r2 hro
     refine ⟨h'.defers,_,r1,bs',cs,[],by rw [e],hkept,by simpa [ah] using o2,fun b q=>?_,_,fun b q=>q,?_,?_⟩
     · rw [show ah []=[] from rfl,List.append_nil] at q
       obtain ⟨r,z,_⟩:=o1 b q
       exact hmine r b z
     · rw [tk];exact o4 _ hX
     · rw [qc]
       simp only [Bool.false_eq_true,if_false]
       exact ⟨trivial,hrd⟩
   cases e with
   | normal=>exact key hk
   | ret=>exact key hk
   | exit i=>cases hk
theorem Ir {J:Gl} {E:dI} {f:Nat} {fn:Func} {c:Code} {A:List Pm} {rs:List Ty} (hbx:rH rs=true) (hm:P.follows .mixedOrders=true) (hP:cR P E.tb=true) (hE:yK P E.tb) (hC:∀ g c,look E.ct g=some c→Ds J P g c) (hEg:E.g=cK A)
 (hf:P.funcs[f]?=some fn) (hname:(fn.name == "runtime.NumGoroutine")=false) (hb:fn.body=some c) {g:(tup (nM A)).d→Option (tup (gC A++rs)).d} (hg:∀ x r,g x=some r→Kk E fn A rs x=some r):Ds J P f ⟨A,rs,false,true,g⟩:=by
 refine ⟨fun w as=>?_,fun _ x r hx w as Xa hJ hXa has=>?_,fun q=>absurd (hbx.symm.trans q) (by decide)⟩
 · have h1:fn.name ≠ "runtime.NumGoroutine" := by simpa using hname
   simp [callFunc,hf,h1,hb]
 · have hrun:=hg x r hx
   unfold Kk at hrun
   have hbody:body fn=c:=by unfold body;rw [hb]
   rw [hbody] at hrun
   refine calls_of_wp hf hb ?_
   obtain ⟨ψ,hS,hroot⟩:=S.enter has (fun b q=>⟨hXa b q,by simp⟩) List.nodup_nil fn.ntmps
   refine md hm hP hE (fun g c q=>(hC g c q).at hJ (fun b q=>by cases q)) hEg c hrun hS fun e st' a' w' h' hk=>?_
   have key:AC E.tb fn.results.toList A x rs st'=some r→a'.defers=[]∧∃ v,(results fn a'.tmps).run P w' = .ok v w' ∧
    ∃ b vs te,Ending.returned v = .returned (.pointer (some ⟨b,0,none⟩))∧yN [] w w'∧w.heap.size≤b∧w'.heap[b]?=some (.cells vs te (0,0)) ∧
     ∃ X':Nat→Prop,(∀ d,X' d→d<w'.heap.size∧d≠b∧(w.heap.size≤d∨Xa d))∧Bb w' X' rs (n8 (gC A) r) vs.toList:=by
    intro hk
    obtain ⟨N,φ,hN,h'⟩:=h'
    unfold AC at hk
    cases hcells:k7 E.tb st' fn.results.toList with
    | none=>rw [hcells] at hk;cases hk
    | some cells =>
    rw [hcells] at hk
    simp only [] at hk
    obtain ⟨vs,r1,r2⟩:=uI hP h' hcells
    cases hz:Hm st'.hp rs cells with
    | none=>rw [hz] at hk;cases hk
    | some z =>
    rw [hz] at hk
    simp only [] at hk
    cases hy:uy st'.hp A x 0 with
    | none=>rw [hy] at hk;cases hk
    | some y =>
    rw [hy] at hk
    simp only [Option.some.injEq] at hk
    subst hk
    rw [qc]
    have hkept:yN [] w w':=⟨h'.below.os,h'.below.tape,h'.below.output,h'.below.size,fun k h1 h2=>h'.below.block k h1 h2⟩
    unfold Hm at hz
    split at hz
    · rename_i t r0 _
      split at hz
      · rename_i cs hrow
        obtain ⟨hro,hz⟩:=aJ hz
        cases hpj:prj (apply st'.hp (freeze st'.hp cs)) t cs with
        | none=>rw [hpj] at hz;cases hz
        | some yy =>
        rw [hpj] at hz
        obtain rfl:=Option.some.inj hz
        have hfz:=iM st'.hp cs
        have hz0:=h'.freeze _ hfz
        have hrow2:apply st'.hp (freeze st'.hp cs) r0 = .box cs:=by
         rcases hfz.eq.1 r0 with g | ⟨p',e',l',g1,g2⟩
         · rw [g];exact hrow
         · rw [hrow] at g1;cases g1
        have hR:=hz0.rows r0
        rw [hrow2] at hR
        obtain ⟨k1,k2,k3,us,te,k4,k5⟩:=hR
        unfold cQ at r2
        obtain ⟨u,us',rfl,hu,hus⟩:=r2
        unfold cQ at hus
        subst hus
        have hu':u = .pointer (some ⟨(φ r0).b,0,none⟩):=by
         obtain ⟨_,_,e⟩:=hu
         simpa using e
        have hb0:w.heap.size≤(φ r0).b:=by
         rcases k2 with q | q
         · exact q
         · cases q
        refine ⟨h'.defers,_,r1,(φ r0).b,us,te,by rw [hu'];rfl,hkept,hb0,k4,fun d=>XX ⟨w,(· ∈ []),cK A,ψ,Xa⟩ w' φ (apply st'.hp (freeze st'.hp cs)) true d,fun d hd=>⟨hd.1,fun e=>?_,?_⟩,?_⟩
        · subst e
          exact hd.2.1 ⟨r0,by rw [hrow2];rfl⟩
        · rcases hd.2.2 with (q | q) | ⟨_,q⟩
          · exact Or.inl q
          · cases q
          · exact Or.inr q
        · show Rd w' _ t yy us.toList
          exact lS hz0 t (sY hz0 (al:=true) (fun p b _ hx=>⟨hx.1,hx.2.1,Bs.see_up (fun _=>rfl) hx.2.2⟩) hro) hpj k5
      · cases hz
    · cases hz
   cases e with
   | normal=>exact key hk
   | ret=>exact key hk
   | exit i=>cases hk
end
end Go.V
end
section
namespace Go.V
open Go.RowKit
def Dt:Option TypeDesc→Ty→Bool
 | some .bool,.bool=>true
 | some (.int k),.int k'=>decide (k=k')
 | some .string,.str=>true
 | _,_=>false
def Aw (P:Program):Nat→List Field→List Ty→Bool
 | _,[],[]=>true
 | n,f::fs,t::ts=>f.name != "_" && decide (f.offset=n)&&Dt (P.underlying f.type) t&&Aw P (n+1) fs ts
 | _,_,_=>false
def EZ (P:Program) (t:Nat) (tys:List Ty):Bool :=
 match P.underlying t with
 | some (.struct fs)=>!(P.stoodInHeld t)&&!(P.eqGuardType P.depth t)&&Aw P 0 fs.toList tys
 | _=>false
def BD (P:Program) (tb:lD):Bool:=tb.eqs.all fun p=>EZ P p.1 p.2
section
variable {P:Program} {w:World} {N:Nat→Prop} {φ:Nat→hZ} {X:Bool→Nat→Prop}
theorem zO {t:TypeId} {ty:Ty} (h:Dt (P.underlying t) ty=true) {xs:Array Value} {off:Nat} {u:Value} (hu:xs[off]?=some u):(part t xs off).run P w = .ok u w:=by
 cases hd:P.underlying t with
 | none=>rw [hd] at h;cases h
 | some d =>
  rw [hd] at h
  have:(isAgg t).run P w = .ok false w:=by
   unfold isAgg
   rw [Sem.run_bind,run_underlying hd w,Result.andThen_ok]
   cases d <;> cases ty <;> first | rfl | cases h
  unfold part
  rw [Sem.run_bind,this,Result.andThen_ok]
  simp [hu]
theorem J5 {t:TypeId} {ty:Ty} (h:Dt (P.underlying t) ty=true) {x y:AV} {u v:Value} {c:Bool} (hc:u_ ty x y=some c) (hx:cN w X N φ x u) (hy:cN w X N φ y v) (d:Nat) :
 (Op.equalIn (d+1) t u v).run P w = .ok c w:=by
 cases hd:P.underlying t with
 | none=>rw [hd] at h;cases h
 | some de =>
  rw [hd] at h
  unfold u_ at hc
  split at hc
  · cases hx;cases hy;cases hc
    cases de <;> first | (cases h;done) | exact run_equalIn_bool' w d t _ _ hd
  · rename_i k k1 a k2 b
    split at hc
    · split at hc
      · rename_i h1 h2
        subst h1
        subst h2
        cases hx;cases hy;cases hc
        cases de <;> first | (cases h;done) | exact run_equalIn_int w d t _ _ _ _ hd
      · cases hc
    · cases hc
  · cases hx;cases hy;cases hc
    cases de <;> first | (cases h;done) | exact run_equalIn_string w d t _ _ hd
  · cases hc
theorem zV {d:Nat} {xs ys:Array Value}:∀ (fs:List Field) (tys:List Ty) (n:Nat) (cs ds:List AV) (vs us:List Value) (c:Bool),Aw P n fs tys=true→kn tys cs ds=some c→c_ w X N φ cs vs→c_ w X N φ ds us →
 (∀ j u,vs[j]?=some u→xs[n+j]?=some u)→(∀ j u,us[j]?=some u→ys[n+j]?=some u)→(Op.eqFields (d+1) xs ys fs).run P w = .ok c w
 | [],[],n,cs,ds,vs,us,c,hl,hc,hr,hr',hv,hu=>by
  cases cs <;> cases ds <;> simp [kn] at hc
  subst hc
  simp [Op.eqFields]
 | [],_::_,_,_,_,_,_,_,hl,_,_,_,_,_=>by cases hl
 | _::_,[],_,_,_,_,_,_,hl,_,_,_,_,_=>by cases hl
 | f::fs,t::ts,n,cs,ds,vs,us,c,hl,hc,hr,hr',hv,hu=>by
  simp only [Aw,Bool.and_eq_true,decide_eq_true_eq] at hl
  obtain ⟨⟨⟨l1,l2⟩,l3⟩,l4⟩:=hl
  have key:∀ (x y:AV) (cs' ds':List AV) (c1 c2:Bool),cs=x::cs'→ds=y::ds'→u_ t x y=some c1→kn ts cs' ds'=some c2→(Op.eqFields (d+1) xs ys (f::fs)).run P w = .ok (c1&&c2) w:=by
   intro x y cs' ds' c1 c2 e1 e2 h1 h2
   subst e1
   subst e2
   unfold c_ at hr hr'
   obtain ⟨u,vs',rfl,_,r1,r2⟩:=hr
   obtain ⟨v,us',rfl,_,r1',r2'⟩:=hr'
   have ih:=zV (d:=d) fs ts (n+1) cs' ds' vs' us' c2 l4 h2 r2 r2' (fun j u hj=>by have:=hv (j+1) u (by simpa using hj);rw [show n+1+j=n+(j+1) by omega];exact this)
    (fun j u hj=>by have:=hu (j+1) u (by simpa using hj);rw [show n+1+j=n+(j+1) by omega];exact this)
   have p1:=zO (P:=P) (w:=w) l3 (xs:=xs) (off:=f.offset) (u:=u) (by rw [l2];exact hv 0 u (by simp))
   have p2:=zO (P:=P) (w:=w) l3 (xs:=ys) (off:=f.offset) (u:=v) (by rw [l2];exact hu 0 v (by simp))
   have p3:=J5 l3 h1 r1 r1' d
   have hn:f.name ≠ "_" := by simpa using l1
   simp only [Op.eqFields,if_pos hn,Sem.run_bind,p1,p2,p3,Result.andThen_ok]
   cases c1
   · simp
   · simpa using ih
  cases cs with
  | nil=>cases ts <;> simp [kn] at hc
  | cons x cs' =>
   cases ds with
   | nil=>cases ts <;> cases cs' <;> simp [kn] at hc
   | cons y ds' =>
    by_cases hone:ts=[]∧cs'=[]∧ds'=[]
    · obtain ⟨rfl,rfl,rfl⟩:=hone
      simp only [kn] at hc
      have:=key x y [] [] c true rfl rfl hc rfl
      simpa using this
    · have e:kn (t::ts) (x::cs') (y::ds')=(match u_ t x y,kn ts cs' ds' with
       | some c,some d=>some (c&&d)
       | _,_=>none):=by
       cases ts <;> cases cs' <;> cases ds' <;> first | rfl | exact absurd ⟨rfl,rfl,rfl⟩ hone
      rw [e] at hc
      split at hc
      · rename_i c1 c2 h1 h2
        cases hc
        exact key x y cs' ds' c1 c2 rfl rfl h1 h2
      · cases hc
theorem FG {tb:lD} (h:BD P tb=true):yK P tb:=by
 intro t tys ht w X N φ cs ds vs us c x y hr hr' hc
 have h1:=(List.all_eq_true.1 h) _ (oM ht)
 unfold EZ at h1
 split at h1
 · rename_i fs hfs
   simp only [Bool.and_eq_true,Bool.not_eq_true'] at h1
   obtain ⟨⟨h1,h2⟩,h3⟩:=h1
   have hf:P.fieldsOf t=fs:=by simp [Program.fieldsOf,hfs]
   have e1:=run_eqGuard_agg (P:=P) w .eql t x y vs.toArray us.toArray h2
   have e2:=run_eqGuard_agg (P:=P) w .neq t x y vs.toArray us.toArray h2
   have e3:(Op.equalIn 10000 t (.agg vs.toArray) (.agg us.toArray)).run P w = .ok c w:=by
    rw [run_equalIn_struct (P:=P) w 9999 t _ _ (by rw [hf];exact hfs) h1,hf]
    exact zV (d:=9998) fs.toList tys 0 cs ds vs us c h3 hc hr hr' (fun j u hj=>by simpa using hj) (fun j u hj=>by simpa using hj)
   exact ⟨by rw [Sem.run_bind,e1,Result.andThen_ok,run_eql_struct,e3,Result.andThen_ok],by rw [Sem.run_bind,e2,Result.andThen_ok,run_neq_struct,e3,Result.andThen_ok]⟩
 · cases h1
end
end Go.V
end

/- V: soundness, part 6 of 10. -/
import Derived.Test.YtmakghhmpgfboaaGreatVS5
section
set_option linter.unusedVariables false
set_option linter.unusedSimpArgs false
namespace Go.V
open Go.RowKit
def FrOn (L:List Nat) (A B:Hp):Prop:=∀ r ∈ L,B r=A r∨∃ p e l,A r = .own p e l∧B r = .fro p e l
theorem refs_iff:∀ {cs:List AV} {r:Nat},r ∈ refs cs↔(AV.ref r ∈ cs∨∃ i f,AV.ptr r i f ∈ cs)
 | [],r=>by simp [refs]
 | c::cs,r=>by
  have ih:=refs_iff (cs:=cs) (r:=r)
  cases c <;> simp [refs,ih,List.mem_cons] <;> grind
theorem FrOn.sub {L M:List Nat} {A B:Hp} (h:FrOn L A B) (hs:∀ r ∈ M,r ∈ L):FrOn M A B:=fun r hr=>h r (hs r hr)
theorem refs_sub {cs ds:List AV} (h:∀ c ∈ ds,c ∈ cs):∀ r ∈ refs ds,r ∈ refs cs:=fun r hr=>by
 rw [refs_iff] at hr ⊢
 rcases hr with q | ⟨i,f,q⟩
 · exact Or.inl (h _ q)
 · exact Or.inr ⟨i,f,h _ q⟩
theorem hard_mem:∀ {us:Ups} {r:Nat} {x:Row},(r,x) ∈ us→(∀ p e l,x ≠ .fro p e l)→r ∈ hard us
 | [],_,_,h,_=>by cases h
 | (s,y)::us,r,x,h,hx=>by
  unfold hard
  rcases List.mem_cons.1 h with q | q
  · cases q
    split
    · rename_i q;cases q
    · rename_i q;cases q;exact absurd rfl (hx _ _ _)
    · rename_i q;cases q;exact List.mem_cons_self ..
  · have:=hard_mem q hx
    split
    · rename_i q;cases q
    · rename_i q;cases q;exact this
    · rename_i q;cases q;exact List.mem_cons_of_mem _ this
section
variable {A B:Hp}
theorem getSl_agree {e:Ty} {c:AV} (h:FrOn (refs [c]) A B):getSl B e c=getSl A e c:=by
 cases c <;> try rfl
 rename_i r
 simp only [getSl]
 rcases h r (by simp [refs]) with q | ⟨p,e',l,q1,q2⟩
 · rw [q]
 · rw [q1,q2]
theorem prj_agree:∀ {t:Ty} {cs:List AV},FrOn (refs cs) A B→prj B t cs=prj A t cs
 | .bool,_,_=>rfl
 | .int _,_,_=>rfl
 | .str,_,_=>rfl
 | .slice e,cs,h=>by
  simp only [prj,getOne]
  split
  · exact getSl_agree h
  · rfl
 | .pair a b,cs,h=>by
  simp only [prj]
  rw [prj_agree (t:=a) (h.sub (refs_sub fun c hc=>List.mem_of_mem_take hc)),prj_agree (t:=b) (h.sub (refs_sub fun c hc=>List.mem_of_mem_drop hc))]
 | .unit,_,_=>rfl
 | .opq,_,_=>rfl
theorem taint1_agree {c:AV} (h:FrOn (refs [c]) A B):taint1 B c=taint1 A c:=by
 cases c <;> try rfl
 rename_i r
 simp only [taint1]
 rcases h r (by simp [refs]) with q | ⟨p,e',l,q1,q2⟩
 · rw [q]
 · rw [q1,q2]
theorem taint_agree:∀ {cs:List AV},FrOn (refs cs) A B→taint B cs=taint A cs
 | [],_=>rfl
 | c::cs,h=>by
  simp only [taint]
  rw [taint1_agree (h.sub (refs_sub fun d hd=>by simp at hd;subst hd;exact List.mem_cons_self ..)),taint_agree (h.sub (refs_sub fun d hd=>List.mem_cons_of_mem _ hd))]
theorem freeze_agree:∀ {cs:List AV},FrOn (refs cs) A B→freeze B cs=freeze A cs
 | [],_=>rfl
 | c::cs,h=>by
  have ih:=freeze_agree (cs:=cs) (h.sub (refs_sub fun d hd=>List.mem_cons_of_mem _ hd))
  cases c <;> try exact ih
  rename_i r
  simp only [freeze,ih]
  rcases h r (by simp [refs]) with q | ⟨p,e',l,q1,q2⟩
  · rw [q]
  · rw [q1,q2]
theorem ld_agree {R:Type} {t:Ty} {a:AV} {k:AV→Option R} (h:FrOn (refs (cellsOf a)) A B):ld B t a k=ld A t a k:=by
 cases a <;> try rfl
 rename_i r i off
 simp only [ld]
 rcases h r (by simp [refs,cellsOf]) with q | ⟨p,e',l,q1,q2⟩
 · rw [q]
 · rw [q1,q2]
theorem storeTo_agree {t:Ty} {a v:AV} {us:Ups} (hs:storeTo A t a v some=some us) (h1:FrOn (refs (cellsOf a)) A B) (h2:FrOn (refs (cellsOf v)) A B) (hh:∀ r ∈ hard us,r ∈ refs (cellsOf a)→B r=A r):storeTo B t a v some=some us:=by
 unfold storeTo at hs ⊢
 obtain ⟨hc,hs⟩:=fin_bif' hs
 rw [hc,cond_true]
 split at hs
 · rename_i r i off _
   split at hs
   · rename_i cs hr
     obtain ⟨hle,hs⟩:=fin_bif' hs
     cases hs
     rw [hh r (hard_mem (List.mem_singleton.2 rfl) (fun _ _ _ q=>by cases q)) (by simp [refs,cellsOf]),hr]
     simp only [hle,cond_true]
   · rename_i p e l hr
     obtain ⟨hn,hs⟩:=fin_bif hs
     split at hs
     · rename_i y hy
       split at hs
       · rename_i z hz
         cases hs
         rw [hh r (hard_mem (List.mem_append_right _ (List.mem_singleton.2 rfl)) (fun _ _ _ q=>by cases q)) (by simp [refs,cellsOf]),hr]
         simp only [hn,cond_false,prj_agree h2,hy,hz,freeze_agree h2,taint_agree h2]
       · cases hs
     · cases hs
   · cases hs
 · cases hs
theorem indexAddr_agree {R:Type} {tb:Tab} {t:Nat} {x i:AV} {k:AV→Option R} (h:FrOn (refs (cellsOf x)) A B):indexAddr tb B t x i k=indexAddr tb A t x i k:=by
 unfold indexAddr
 split
 · cases x <;> try rfl
   rename_i r
   simp only []
   rcases h r (by simp [refs,cellsOf]) with q | ⟨p,e',l,q1,q2⟩
   · rw [q]
   · rw [q1,q2]
 · rfl
theorem sliceOp_agree {R:Type} {u:Ty} {x:AV} {lo hi:Option AV} {k:AV→Ups→Option R} (h:FrOn (refs (cellsOf x)) A B):sliceOp u B x lo hi k=sliceOp u A x lo hi k:=by
 cases x with
 | ref r =>
  cases u <;> try rfl
  simp only [sliceOp]
  rcases h r (by simp [refs,cellsOf]) with q | ⟨p,e',l,q1,q2⟩
  · rw [q]
  · rw [q1,q2]
 | _=>cases u <;> rfl
theorem lenOf_agree {R:Type} {u:Ty} {x:AV} {k:AV→Option R} (h:FrOn (refs (cellsOf x)) A B):lenOf u B x k=lenOf u A x k:=by
 cases x with
 | ref r =>
  cases u <;> try rfl
  simp only [lenOf]
  rcases h r (by simp [refs,cellsOf]) with q | ⟨p,e',l,q1,q2⟩
  · rw [q]
  · rw [q1,q2]
 | _=>cases u <;> rfl
theorem refs_cells {c:AV}:∀ r ∈ refs [c],r ∈ refs (cellsOf c):=by
 intro r hr
 cases c <;> simp_all [refs,cellsOf]
theorem appendOp_agree {e:Ty} {id:Nat} {d s v:AV} {us:Ups} (hs:appendOp e A id d s (fun v us=>some (v,us))=some (v,us)) (h1:FrOn (refs (cellsOf d)) A B) (h2:FrOn (refs (cellsOf s)) A B) (hh:∀ r ∈ hard us,r ∈ refs (cellsOf d)→B r=A r) :
 appendOp e B id d s (fun v us=>some (v,us))=some (v,us):=by
 unfold appendOp at hs ⊢
 have h2':=h2.sub refs_cells
 rw [getSl_agree h2']
 split at hs
 · cases hs
 · split at hs
   · rw [taint_agree h2'];exact hs
   · rename_i r
     split at hs
     · rename_i p t l hr
       split at hs
       · rename_i ld hld
         obtain ⟨hle,hs⟩:=fin_bif' hs
         cases hs
         have hB:B r=A r:=hh r (hard_mem (List.mem_cons_self ..) (fun _ _ _ q=>by cases q)) (by simp [refs,cellsOf])
         rw [hB,hr]
         simp only [hld,hle,cond_true,taint_agree h2']
       · cases hs
     · cases hs
   · cases hs
theorem args_agree:∀ {ts:List Ty} {vs:List AV},(∀ v ∈ vs,FrOn (refs (cellsOf v)) A B)→args B ts vs=args A ts vs
 | [],[],_=>rfl
 | [],_::_,_=>rfl
 | _::_,[],_=>rfl
 | t::ts,v::vs,h=>by
  simp only [args]
  rw [prj_agree (h v (List.mem_cons_self ..)),args_agree fun u hu=>h u (List.mem_cons_of_mem _ hu)]
theorem elems_agree {e:Ty} {ρ:Operand→AV}:∀ {ps:List (Nat × Operand)} {l:List e.den} {b:Bool},(∀ p ∈ ps,FrOn (refs (cellsOf (ρ p.2))) A B)→elems B e ρ ps l b=elems A e ρ ps l b
 | [],_,_,_=>rfl
 | (i,x)::ps,l,b,h=>by
  have h0:FrOn (refs (cellsOf (ρ x))) A B:=h (i,x) (List.mem_cons_self ..)
  simp only [elems]
  rw [prj_agree h0,taint_agree h0]
  split
  · rw [elems_agree fun p hp=>h p (List.mem_cons_of_mem _ hp)]
  · rfl
theorem boxAt_agree {v:AV} (h:FrOn (refs [v]) A B):boxAt B v=boxAt A v:=by
 cases v <;> try rfl
 rename_i r i f
 simp only [boxAt]
 rcases h r (by simp [refs]) with q | ⟨p,e,l,q1,q2⟩
 · rw [q]
 · rw [q1,q2]
theorem flatOk_agree:∀ {cs:List AV},(∀ r ∈ refs cs,B r=A r)→flatOk B cs=flatOk A cs
 | [],_=>rfl
 | c::cs,h=>by
  cases c <;> simp only [flatOk] <;> first
   | rfl
   | exact flatOk_agree (cs:=cs) h
   | (rw [h _ (by simp [refs]),flatOk_agree (cs:=cs) fun r q=>h r (by simp [refs,q])])
theorem lent_keys {hp:Hp} {p:Bool}:∀ {t:Ty} {x y:t.den} {cs:List AV},prj hp t cs=some x→flatOk hp cs=true→(lent p t y cs).map (·.1)=refs cs
 | .bool,x,y,cs,hx,hf=>by
  simp only [prj] at hx
  unfold getBool at hx
  split at hx
  · rfl
  · cases hx
 | .int k,x,y,cs,hx,hf=>by
  simp only [prj] at hx
  unfold getInt at hx
  split at hx
  · rfl
  · cases hx
 | .str,x,y,cs,hx,hf=>by
  simp only [prj] at hx
  unfold getStr at hx
  split at hx
  · rfl
  · cases hx
 | .unit,x,y,cs,hx,hf=>by
  simp only [prj] at hx
  unfold getUnit at hx
  split at hx
  · rfl
  · cases hx
 | .opq,x,y,cs,hx,hf=>by cases hx
 | .pair s t,x,y,cs,hx,hf=>by
  simp only [prj] at hx
  obtain ⟨h1,h2⟩:=both_some hx
  have app:∀ cs ds:List AV,flatOk hp (cs++ds)=true→flatOk hp cs=true∧flatOk hp ds=true:=by
   intro cs ds
   induction cs with
   | nil=>exact fun q=>⟨rfl,q⟩
   | cons c cs ih =>
    intro q
    cases c <;> simp only [List.cons_append,flatOk,Bool.and_eq_true] at q ⊢ <;> first | (cases q;done) | (exact ih q) | (exact ⟨⟨q.1,(ih q.2).1⟩,(ih q.2).2⟩)
  obtain ⟨f1,f2⟩:=app (cs.take s.size) (cs.drop s.size) (by rw [List.take_append_drop];exact hf)
  show (lent p s y.1 _++lent p t y.2 _).map (·.1)=_
  rw [List.map_append,lent_keys h1 f1,lent_keys h2 f2,← refs_take_drop]
 | .slice e,x,y,cs,hx,hf=>by
  simp only [prj] at hx
  unfold getOne at hx
  split at hx
  · rename_i c
    cases c <;> first | rfl | (simp [getSl] at hx;done) | (simp [flatOk] at hf;done)
  · cases hx
theorem gvs_back {hp:Hp} {al:Bool}:∀ {A:List Pm} {vs:List AV} {x:(tup (ins A)).den} {y:(tup (outT A)).den} {id:Nat},argsA hp A vs=some x→∀ r ∈ gvs hp A vs,r ∈ (backs hp al A vs y id).map (·.1)
 | [],_,_,_,_,_,r,hr=>by cases hr
 | .val t::A,vs,x,y,id,hx,r,hr=>by
  cases vs with
  | nil=>simp only [argsA] at hx;cases hx
  | cons v vs =>
   simp only [argsA] at hx
   exact gvs_back (A:=A) (both_some (fin_bif' hx).2).2 r hr
 | .lend t::A,vs,x,y,id,hx,r,hr=>by
  cases vs with
  | nil=>simp only [argsA] at hx;cases hx
  | cons v vs =>
   simp only [argsA] at hx
   have h1:=fin_bif' hx
   have h2:=both_some h1.2
   simp only [gvs,List.headD_cons,List.tail_cons,List.mem_append] at hr
   simp only [backs,List.headD_cons,List.tail_cons,List.map_append,List.mem_append]
   rcases hr with q | q
   · left
     rw [lent_keys h2.1 (Bool.and_eq_true _ _▸h1.1:_∧_).2]
     exact q
   · exact Or.inr (gvs_back (A:=A) h2.2 r q)
 | .give t::A,vs,x,y,id,hx,r,hr=>by
  cases vs with
  | nil=>simp only [argsA] at hx;cases hx
  | cons v vs =>
   simp only [argsA] at hx
   have h1:=fin_bif' hx
   have h2:=both_some h1.2
   simp only [gvs,List.headD_cons,List.tail_cons,List.mem_append] at hr
   simp only [backs,List.headD_cons,List.tail_cons,List.map_append,List.mem_append]
   rcases hr with q | q
   · left;rw [kills_keys];exact q
   · exact Or.inr (gvs_back (A:=A) h2.2 r q)
 | .fn f n::A,vs,x,y,id,hx,r,hr=>gvs_back (A:=A) hx r hr
 | .io o t::A,vs,x,y,id,hx,r,hr=>by
  cases vs with
  | nil=>simp only [argsA] at hx;cases hx
  | cons v vs =>
   simp only [argsA] at hx
   split at hx
   · rename_i cs hcs
     obtain ⟨r0,hv,hrow⟩:=boxAt_some hcs
     subst hv
     obtain ⟨ho,hx⟩:=fin_bif' hx
     simp only [gvs,List.headD_cons,List.tail_cons,hcs,Option.getD_some,refs,List.cons_append,List.nil_append,List.mem_cons,List.mem_append] at hr
     cases o with
     | true =>
      simp only [backs,List.headD_cons,List.tail_cons,hcs,Option.getD_some,cond_true,rowOf,List.map_append,List.map_cons,List.mem_append,List.mem_cons,kills_keys]
      rcases hr with q | q | q
      · exact Or.inr (Or.inl q)
      · exact Or.inl q
      · exact Or.inr (Or.inr (Or.inr (gvs_back (A:=A) (both_some hx).2 r q)))
     | false =>
      simp only [backs,List.headD_cons,List.tail_cons,hcs,Option.getD_some,cond_false,rowOf,List.map_cons,List.mem_cons]
      rcases hr with q | q | q
      · exact Or.inl q
      · cases q
      · exact Or.inr (gvs_back (A:=A) (both_some hx).2 r q)
   · cases hx
theorem argsA_agree:∀ {Q:List Pm} {vs:List AV} {x:(tup (ins Q)).den},argsA A Q vs=some x→FrOn (gvs A Q vs++rds A Q vs) A B→(∀ r ∈ gvs A Q vs,B r=A r) →
 argsA B Q vs=some x∧gvs B Q vs=gvs A Q vs∧rds B Q vs=rds A Q vs∧∀ al y id,backs B al Q vs y id=backs A al Q vs y id
 | [],vs,x,hx,_,_=>⟨hx,rfl,rfl,fun _ _ _=>rfl⟩
 | .val t::Q,vs,x,hx,hf,hh=>by
  cases vs with
  | nil=>simp only [argsA] at hx;cases hx
  | cons v vs =>
   simp only [argsA] at hx ⊢
   simp only [gvs,rds,List.headD_cons,List.tail_cons] at hf hh ⊢
   have h1:=fin_bif' hx
   have h2:=both_some h1.2
   obtain ⟨g1,g2,g3,g4⟩:=argsA_agree (Q:=Q) h2.2 (hf.sub fun r q=>by
    rcases List.mem_append.1 q with q | q
    · exact List.mem_append_left _ q
    · exact List.mem_append_right _ (List.mem_append_right _ q)) hh
   refine ⟨?_,g2,by rw [g3],fun al y id=>g4 al y id⟩
   rw [prj_agree (hf.sub fun r q=>List.mem_append_right _ (List.mem_append_left _ q)),h2.1,g1,h1.1]
   rfl
 | .lend t::Q,vs,x,hx,hf,hh=>by
  cases vs with
  | nil=>simp only [argsA] at hx;cases hx
  | cons v vs =>
   simp only [argsA] at hx ⊢
   simp only [gvs,rds,List.headD_cons,List.tail_cons] at hf hh ⊢
   have h1:=fin_bif' hx
   have h2:=both_some h1.2
   obtain ⟨g1,g2,g3,g4⟩:=argsA_agree (Q:=Q) h2.2 (hf.sub fun r q=>by
    rcases List.mem_append.1 q with q | q
    · exact List.mem_append_left _ (List.mem_append_right _ q)
    · exact List.mem_append_right _ q) (fun r q=>hh r (List.mem_append_right _ q))
   refine ⟨?_,by rw [g2],g3,fun al y id=>by simp only [backs,List.headD_cons,List.tail_cons,g4]⟩
   rw [flatOk_agree fun r q=>hh r (List.mem_append_left _ q),prj_agree (hf.sub fun r q=>List.mem_append_left _ (List.mem_append_left _ q)),h2.1,g1,h1.1]
   rfl
 | .give t::Q,vs,x,hx,hf,hh=>by
  cases vs with
  | nil=>simp only [argsA] at hx;cases hx
  | cons v vs =>
   simp only [argsA] at hx ⊢
   simp only [gvs,rds,List.headD_cons,List.tail_cons] at hf hh ⊢
   have h1:=fin_bif' hx
   have h2:=both_some h1.2
   obtain ⟨g1,g2,g3,g4⟩:=argsA_agree (Q:=Q) h2.2 (hf.sub fun r q=>by
    rcases List.mem_append.1 q with q | q
    · exact List.mem_append_left _ (List.mem_append_right _ q)
    · exact List.mem_append_right _ q) (fun r q=>hh r (List.mem_append_right _ q))
   refine ⟨?_,by rw [g2],g3,fun al y id=>congrArg (kills (refs (cellsOf v))++·) (g4 al y id)⟩
   rw [flatOk_agree fun r q=>hh r (List.mem_append_left _ q),prj_agree (hf.sub fun r q=>List.mem_append_left _ (List.mem_append_left _ q)),h2.1,g1,h1.1]
   rfl
 | .fn f n::Q,vs,x,hx,hf,hh=>argsA_agree (Q:=Q) hx hf hh
 | .io o t::Q,vs,x,hx,hf,hh=>by
  cases vs with
  | nil=>simp only [argsA] at hx;cases hx
  | cons v vs =>
   have hbx:boxAt B v=boxAt A v:=boxAt_agree (hf.sub fun r q=>List.mem_append_left _ (by simp only [gvs,List.headD_cons];exact List.mem_append_left _ q))
   simp only [argsA,hbx] at hx ⊢
   cases hcs:boxAt A v with
   | none=>rw [hcs] at hx;cases hx
   | some cs =>
    rw [hcs] at hx
    simp only [] at hx ⊢
    simp only [gvs,rds,List.headD_cons,List.tail_cons,hbx,hcs,Option.getD_some] at hf hh ⊢
    have h1:=fin_bif' hx
    have h2:=both_some h1.2
    obtain ⟨g1,g2,g3,g4⟩:=argsA_agree (Q:=Q) h2.2 (hf.sub fun r q=>by
     rcases List.mem_append.1 q with q | q
     · exact List.mem_append_left _ (List.mem_append_right _ (List.mem_append_right _ q))
     · exact List.mem_append_right _ (List.mem_append_right _ q)) (fun r q=>hh r (List.mem_append_right _ (List.mem_append_right _ q)))
    have hcf:FrOn (refs cs) A B:=hf.sub fun r q=>by
     cases o with
     | true=>exact List.mem_append_left _ (List.mem_append_right _ (List.mem_append_left _ q))
     | false=>exact List.mem_append_right _ (List.mem_append_left _ q)
    have hfo:(!o||flatOk B cs)=(!o||flatOk A cs):=by
     cases o with
     | true=>rw [flatOk_agree fun r q=>hh r (List.mem_append_right _ (List.mem_append_left _ q))]
     | false=>rfl
    refine ⟨?_,by rw [g2],by rw [g3],fun al y id=>by simp only [backs,List.headD_cons,List.tail_cons,hbx,g4]⟩
    rw [hfo,prj_agree hcf,h2.1,g1,h1.1]
    rfl
theorem flatC_agree {c:Cn} {id nx:Nat} {as:List AV} {v:AV} {us:Ups} (hs:flatC c A id as (fun v us nx=>some (v,us,nx))=some (v,us,nx))
 (h:∀ vs,flatA c.A as=some vs→FrOn (gvs A c.A vs++rds A c.A vs) A B) (hh:∀ vs,flatA c.A as=some vs→∀ r ∈ hard us,r ∈ gvs A c.A vs→B r=A r) :
 flatC c B id as (fun v us nx=>some (v,us,nx))=some (v,us,nx):=by
 have hs0:=hs
 unfold flatC at hs ⊢
 cases hf:flatA c.A as with
 | none=>rw [hf] at hs;cases hs
 | some vs =>
 rw [hf] at hs
 simp only [] at hs ⊢
 cases hx:argsA A c.A vs with
 | none=>rw [hx] at hs;cases hs
 | some x =>
 rw [hx] at hs
 simp only [] at hs
 have h1:=fin_bif' hs
 cases hy:c.fn x with
 | none=>have h2:=h1.2;rw [hy] at h2;cases h2
 | some y =>
 have h2:=h1.2
 rw [hy] at h2
 simp only [Option.some.injEq,Prod.mk.injEq] at h2
 have hgv:∀ r ∈ gvs A c.A vs,B r=A r:=fun r q=>by
  refine hh vs hf r ?_ q
  obtain ⟨z,hz,rfl⟩:=List.mem_map.1 (gvs_back (al:=c.al) (y:=fstT (outT c.A) y) (id:=id) hx r q)
  rw [← h2.2.1]
  exact hard_mem (x:=z.2) (List.mem_append_right _ (List.mem_append_left _ hz)) (noFro_backs z.1 z.2 hz)
 obtain ⟨g1,g2,g3,g4⟩:=argsA_agree hx (h vs hf) hgv
 have hrefs:∀ l:List Nat,refs (l.map AV.ref)=l:=by
  intro l
  induction l with
  | nil=>rfl
  | cons r l ih=>simp [refs,ih]
 rw [g1,g2,g3]
 simp only [hy]
 rw [g4,freeze_agree (A:=A) (B:=B) (by rw [hrefs];exact (h vs hf).sub fun r q=>List.mem_append_right _ q)]
 rw [hy] at hs
 exact hs
theorem boxC_agree {c:Cn} {id nx:Nat} {as:List AV} {v:AV} {us:Ups} (hs:boxC c A id as (fun v us nx=>some (v,us,nx))=some (v,us,nx))
 (h:∀ vs,flatA c.A as=some vs→FrOn (gvs A c.A vs++rds A c.A vs) A B) :
 boxC c B id as (fun v us nx=>some (v,us,nx))=some (v,us,nx):=by
 have hs0:=hs
 unfold boxC at hs ⊢
 cases hf:flatA c.A as with
 | none=>rw [hf] at hs;cases hs
 | some vs =>
 rw [hf] at hs
 simp only [] at hs ⊢
 cases hx:argsA A c.A vs with
 | none=>rw [hx] at hs;cases hs
 | some x =>
 rw [hx] at hs
 simp only [] at hs
 have h1:=fin_bif' hs
 have hgv:∀ r ∈ gvs A c.A vs,B r=A r:=fun r q=>by
  rw [List.isEmpty_iff.1 h1.1] at q
  cases q
 obtain ⟨g1,g2,g3,g4⟩:=argsA_agree hx (h vs hf) hgv
 have hrefs:∀ l:List Nat,refs (l.map AV.ref)=l:=by
  intro l
  induction l with
  | nil=>rfl
  | cons r l ih=>simp [refs,ih]
 rw [g1,g2,g3,freeze_agree (A:=A) (B:=B) (by rw [hrefs];exact (h vs hf).sub fun r q=>List.mem_append_right _ q)]
 exact hs
theorem callC_agree {c:Cn} {id nx:Nat} {as:List AV} {v:AV} {us:Ups} (hs:callC c A id as (fun v us nx=>some (v,us,nx))=some (v,us,nx))
 (h:∀ vs,flatA c.A as=some vs→FrOn (gvs A c.A vs++rds A c.A vs) A B) (hh:∀ vs,flatA c.A as=some vs→∀ r ∈ hard us,r ∈ gvs A c.A vs→B r=A r) :
 callC c B id as (fun v us nx=>some (v,us,nx))=some (v,us,nx):=by
 unfold callC at hs ⊢
 cases hb:isBx c.R with
 | false=>rw [hb] at hs;exact flatC_agree hs h hh
 | true=>rw [hb] at hs;exact boxC_agree hs h
theorem refs_flat {α:Type} {f:α→List AV}:∀ {l:List α} {x:α},x ∈ l→∀ r ∈ refs (f x),r ∈ l.flatMap fun x=>refs (f x):=fun hx r hr=>List.mem_flatMap.2 ⟨_,hx,hr⟩
theorem refs_append:∀ {cs ds:List AV},refs (cs++ds)=refs cs++refs ds
 | [],_=>rfl
 | c::cs,ds=>by cases c <;> simp [refs,refs_append (cs:=cs)]
theorem refs_flatMap {α:Type} {f:α→List AV}:∀ {l:List α},refs (l.flatMap f)=l.flatMap fun x=>refs (f x)
 | []=>rfl
 | x::l=>by simp [refs_append,refs_flatMap (l:=l)]
theorem refs_val {tb:Tab} {tm:List AV} {t:Nat} {x:Operand}:refs (cellsOf (val tb tm t x))=refs (cellsOf (val tb tm 0 x)):=by
 cases x with
 | tmp i=>rfl
 | func f=>rfl
 | global g=>rfl
 | const v =>
  simp only [val]
  unfold cst
  cases v <;> try rfl
  rename_i a n c
  cases a <;> try rfl
  cases n <;> try rfl
  cases c <;> try rfl
  simp only []
  split <;> (split <;> rfl)
theorem oper_agree {tb:Tab} {ct:List (Nat × Cn)} {o:Oper} {tm:List AV} {id nx:Nat} {v:AV} {us:Ups} (hs:oper tb ct o tm A id (fun v us nx=>some (v,us,nx))=some (v,us,nx))
 (h:FrOn (reads tb ct o tm A) A B) (hh:∀ r ∈ hard us,r ∈ reads tb ct o tm A→B r=A r):oper tb ct o tm B id (fun v us nx=>some (v,us,nx))=some (v,us,nx):=by
 cases hop:o.op with
 | load t x =>
  simp only [oper,hop,reads] at hs h ⊢
  split at hs
  · rename_i u hu
    try simp only [hu]
    rw [ld_agree h];exact hs
  · cases hs
 | store t x y =>
  simp only [oper,hop,reads] at hs h hh ⊢
  split at hs
  · rename_i u hu
    try simp only [hu]
    rw [storeTo_bind] at hs
    cases hl:storeTo A u (val tb tm 0 x) (val tb tm t y) some with
    | none=>rw [hl] at hs;cases hs
    | some us' =>
     rw [hl] at hs
     cases hs
     rw [storeTo_bind]
     have h1:FrOn (refs (cellsOf (val tb tm 0 x))) A B:=h.sub fun r hr=>List.mem_append_left _ hr
     have h2:FrOn (refs (cellsOf (val tb tm t y))) A B:=h.sub fun r hr=>List.mem_append_right _ (by rw [← refs_val (t:=t)];exact hr)
     rw [storeTo_agree hl h1 h2 fun r hr hm=>hh r hr (List.mem_append_left _ hm)]
     rfl
  · cases hs
 | indexAddr t x i =>
  simp only [oper,hop,reads] at hs h ⊢
  rw [indexAddr_agree (by rw [refs_val];exact h)]
  exact hs
 | slice t x lo hi mx =>
  cases mx with
  | some _=>simp only [oper,hop] at hs;cases hs
  | none =>
   simp only [oper,hop,reads] at hs h ⊢
   rw [sliceOp_agree (by rw [refs_val];exact h)]
   exact hs
 | convert s d x =>
  simp only [oper,hop,reads] at hs h ⊢
  split at hs
  · rename_i h1 h2 h3
    try simp only [h1,h2,h3]
    exact hs
  · rename_i h1 h2 h3
    try simp only [h1,h2,h3]
    exact hs
  · rename_i h1 h2 h3
    rw [getSl_agree (A:=A) (B:=B) (FrOn.sub (by rw [refs_val];exact h) refs_cells)]
    exact hs
  · cases hs
 | buildSlice t n ps =>
  simp only [oper,hop,reads] at hs h ⊢
  split at hs
  · rename_i e he
    try simp only [he]
    have h1:∀ p ∈ ps.toList,FrOn (refs (cellsOf (val tb tm 0 p.2))) A B:=fun p hp=>h.sub fun r hr=>List.mem_flatMap.2 ⟨p,hp,hr⟩
    rw [elems_agree h1,freeze_agree (A:=A) (B:=B) (by rw [refs_flatMap];exact h)]
    exact hs
  · cases hs
 | call c =>
  have h1:∀ x ∈ c.args.toList,FrOn (refs (cellsOf (val tb tm 0 x))) A B:=fun x hx=>h.sub fun r hr=>by
   simp only [reads,hop]
   exact List.mem_append_left _ (List.mem_flatMap.2 ⟨x,hx,hr⟩)
  simp only [oper,hop] at hs ⊢
  split at hs
  · rename_i hc
    try simp only [hc]
    split at hs
    · rename_i x t ha ht
      try simp only [ha,ht]
      rw [lenOf_agree (by rw [refs_val];exact h1 x (by rw [ha];simp))]
      exact hs
    · cases hs
  · rename_i hc
    try simp only [hc]
    split at hs
    · rename_i d s t t' ha ht
      try simp only [ha,ht]
      split at hs
      · rename_i e he
        try simp only [he]
        cases hb:Nat.beq t t' with
        | false=>rw [hb] at hs;cases hs
        | true =>
         rw [hb,cond_true] at hs
         rw [cond_true,appendOp_bind]
         rw [appendOp_bind] at hs
         cases hl:appendOp e A id (val tb tm t d) (val tb tm t s) (fun v us=>some (v,us)) with
         | none=>rw [hl] at hs;cases hs
         | some z =>
          obtain ⟨z1,z2⟩:=z
          rw [hl] at hs
          cases hs
          rw [appendOp_agree hl (by rw [refs_val];exact h1 d (by rw [ha];simp)) (by rw [refs_val];exact h1 s (by rw [ha];simp)) ?_]
          · rfl
          · intro r hr hm
            refine hh r hr ?_
            simp only [reads,hop]
            exact List.mem_append_left _ (List.mem_flatMap.2 ⟨d,by rw [ha];simp,by rw [← refs_val (t:=t)];exact hm⟩)
      · cases hs
    · cases hs
  · rename_i hc
    try simp only [hc]
    exact hs
  · rename_i hc
    try simp only [hc]
    exact hs
  · rename_i x hc
    try simp only [hc]
    split at hs
    · rename_i q hq
      try simp only [hq]
      have hsub:∀ vs,flatA q.1.A q.2=some vs→∀ r ∈ gvs A q.1.A vs++rds A q.1.A vs,r ∈ reads tb ct o tm A:=fun vs hvs r hr=>by
       simp only [reads,hop,hc,hq,hvs]
       exact List.mem_append_right _ hr
      exact callC_agree (A:=A) (B:=B) hs (fun vs hvs=>h.sub (hsub vs hvs)) (fun vs hvs r hr hm=>hh r hr (hsub vs hvs r (List.mem_append_left _ hm)))
    · cases hs
  · cases hs
 | makeFunc fn first caps =>
  cases fn with
  | func f=>simp only [oper,hop] at hs ⊢;exact hs
  | _=>unfold oper at hs;rw [hop] at hs;cases hs
 | _=>unfold oper at hs ⊢;rw [hop] at hs ⊢;exact hs
end
end Go.V
end
section
set_option linter.unusedVariables false
set_option linter.unusedSimpArgs false
namespace Go.V
open Go.RowKit
section
variable {tb:Tab} {ct:List (Nat × Cn)} {tm tm':List AV} {hp:Hp} {id:Nat} {R:Type}
theorem opt_map {f g:Operand→AV} {o:Option Operand} (h:∀ x ∈ o.toList,f x=g x):o.map f=o.map g:=by
 cases o with
 | none=>rfl
 | some x=>simp [h x (by simp)]
theorem placeParts_congr {offs:List (Nat × Nat)} {f g:Operand→AV}:∀ {ps:List (Nat × Operand)} {z:List AV},(∀ p ∈ ps,f p.2=g p.2)→placeParts z offs f ps=placeParts z offs g ps
 | [],_,_=>rfl
 | (i,x)::ps,z,h=>by
  have h0:f x=g x:=h (i,x) (List.mem_cons_self ..)
  simp only [placeParts,h0]
  split
  · rw [placeParts_congr fun p hp=>h p (List.mem_cons_of_mem _ hp)]
  · rfl
theorem elems_congr {e:Ty} {f g:Operand→AV}:∀ {ps:List (Nat × Operand)} {l:List e.den} {b:Bool},(∀ p ∈ ps,f p.2=g p.2)→elems hp e f ps l b=elems hp e g ps l b
 | [],_,_,_=>rfl
 | (i,x)::ps,l,b,h=>by
  have h0:f x=g x:=h (i,x) (List.mem_cons_self ..)
  simp only [elems,h0]
  split
  · rw [elems_congr fun p hp=>h p (List.mem_cons_of_mem _ hp)]
  · rfl
theorem flatMap_congr' {α β:Type} {f g:α→List β}:∀ {l:List α},(∀ x ∈ l,f x=g x)→l.flatMap f=l.flatMap g
 | [],_=>rfl
 | x::l,h=>by simp [h x (List.mem_cons_self ..),flatMap_congr' fun y hy=>h y (List.mem_cons_of_mem _ hy)]
theorem oper_tm {o:Oper} {k:AV→Ups→Nat→Option R} (h:∀ x ∈ o.op.operands.toList,∀ T,val tb tm' T x=val tb tm T x) :
 oper tb ct o tm' hp id k=oper tb ct o tm hp id k∧reads tb ct o tm' hp=reads tb ct o tm hp:=by
 cases hop:o.op with
 | buildSlice t n ps =>
  have h0:∀ p ∈ ps.toList,val tb tm' 0 p.2=val tb tm 0 p.2:=fun p hp=>h p.2 (by rw [hop];simp only [Op.operands,List.toList_toArray];exact List.mem_map_of_mem hp) 0
  simp only [oper,reads,hop]
  have e1:ps.toList.flatMap (fun p=>cellsOf (val tb tm' 0 p.2))=ps.toList.flatMap (fun p=>cellsOf (val tb tm 0 p.2)):=flatMap_congr' fun p hp=>by rw [h0 p hp]
  rw [e1]
  refine ⟨?_,flatMap_congr' fun p hp=>by rw [h0 p hp]⟩
  split
  · rw [elems_congr h0]
  · rfl
 | build t ps =>
  have h0:∀ p ∈ ps.toList,val tb tm' 0 p.2=val tb tm 0 p.2:=fun p hp=>h p.2 (by rw [hop];simp only [Op.operands,List.toList_toArray];exact List.mem_map_of_mem hp) 0
  simp only [oper,reads,hop]
  exact ⟨by
   split
   · rw [placeParts_congr h0]
   · rfl,trivial⟩
 | makeFunc fn first caps =>
  have h0:caps.toList.map (val tb tm' 0)=caps.toList.map (val tb tm 0):=List.map_congr_left fun x hx=>h x (by rw [hop];simp only [Op.operands,Array.toList_append];exact List.mem_append_right _ hx) 0
  cases fn <;> simp only [oper,reads,hop]
  · exact ⟨by rw [h0],trivial⟩
  all_goals exact ⟨trivial,trivial⟩
 | call c =>
  have hin:∀ x ∈ c.args.toList,∀ T,val tb tm' T x=val tb tm T x:=fun x hx=>h x (by rw [hop];simp only [Op.operands,Call.operands,Array.toList_append];exact List.mem_append_right _ hx)
  have h0:c.args.toList.map (val tb tm' 0)=c.args.toList.map (val tb tm 0):=List.map_congr_left fun x hx=>hin x hx 0
  have hcal:∀ x,c.callee = .value x→calleeOf tb ct tm' x (c.args.toList.map (val tb tm' 0))=calleeOf tb ct tm x (c.args.toList.map (val tb tm 0)):=fun x hx=>by
   rw [h0]
   unfold calleeOf
   rw [h x (by rw [hop];simp only [Op.operands,Call.operands,Array.toList_append,hx];exact List.mem_append_left _ (by simp)) 0]
  simp only [oper,reads,hop]
  refine ⟨?_,?_⟩
  · split
    · split
      · rename_i x t ha ht
        rw [hin x (by rw [ha];simp)]
      · rfl
    · split
      · rename_i d s t t' ha ht
        split
        · rw [hin d (by rw [ha];simp),hin s (by rw [ha];simp)]
        · rfl
      · rfl
    · rw [h0]
    · rw [h0]
    · rename_i x hc
      rw [hcal x hc]
    · rfl
  · rw [flatMap_congr' (f:=fun x=>refs (cellsOf (val tb tm' 0 x))) (g:=fun x=>refs (cellsOf (val tb tm 0 x))) fun x hx=>by rw [hin x hx]]
    congr 1
    split
    · rename_i x hc
      rw [hcal x hc]
    · rfl
 | slice t x lo hi mx =>
  have hx:=h x (by rw [hop];simp [Op.operands])
  have hl:lo.map (val tb tm' 0)=lo.map (val tb tm 0):=opt_map fun y hy=>h y (by rw [hop];simp [Op.operands] at hy ⊢;simp [hy]) 0
  have hh:hi.map (val tb tm' 0)=hi.map (val tb tm 0):=opt_map fun y hy=>h y (by rw [hop];simp [Op.operands] at hy ⊢;simp [hy]) 0
  cases mx <;> simp only [oper,reads,hop,hx,hl,hh] <;> exact ⟨trivial,trivial⟩
 | pick c x y =>
  have h1:=h c (by rw [hop];simp [Op.operands])
  have h2:=h x (by rw [hop];simp [Op.operands])
  have h3:=h y (by rw [hop];simp [Op.operands])
  simp only [oper,reads,hop,h1,h2,h3]
  exact ⟨trivial,trivial⟩
 | store t x y =>
  have h1:=h x (by rw [hop];simp [Op.operands])
  have h2:=h y (by rw [hop];simp [Op.operands])
  simp only [oper,reads,hop,h1,h2]
  exact ⟨trivial,trivial⟩
 | binOp op t x y u =>
  have h1:=h x (by rw [hop];simp [Op.operands])
  have h2:=h y (by rw [hop];simp [Op.operands])
  simp only [oper,reads,hop,h1,h2]
  exact ⟨trivial,trivial⟩
 | makeSlice t x y =>
  have h1:=h x (by rw [hop];simp [Op.operands])
  have h2:=h y (by rw [hop];simp [Op.operands])
  simp only [oper,reads,hop,h1,h2]
  exact ⟨trivial,trivial⟩
 | indexAddr t x y =>
  have h1:=h x (by rw [hop];simp [Op.operands])
  have h2:=h y (by rw [hop];simp [Op.operands])
  simp only [oper,reads,hop,h1,h2]
  exact ⟨trivial,trivial⟩
 | index t x y =>
  have h1:=h x (by rw [hop];simp [Op.operands])
  have h2:=h y (by rw [hop];simp [Op.operands])
  simp only [oper,reads,hop,h1,h2]
  exact ⟨trivial,trivial⟩
 | alloc t=>simp only [oper,reads,hop];exact ⟨trivial,trivial⟩
 | move x=>have h1:=h x (by rw [hop];simp [Op.operands]);simp only [oper,reads,hop,h1];exact ⟨trivial,trivial⟩
 | assign x=>have h1:=h x (by rw [hop];simp [Op.operands]);simp only [oper,reads,hop,h1];exact ⟨trivial,trivial⟩
 | box t x=>have h1:=h x (by rw [hop];simp [Op.operands]);simp only [oper,reads,hop,h1];exact ⟨trivial,trivial⟩
 | load t x=>have h1:=h x (by rw [hop];simp [Op.operands]);simp only [oper,reads,hop,h1];exact ⟨trivial,trivial⟩
 | nilCheck x=>have h1:=h x (by rw [hop];simp [Op.operands]);simp only [oper,reads,hop,h1];exact ⟨trivial,trivial⟩
 | unOp op t x=>have h1:=h x (by rw [hop];simp [Op.operands]);simp only [oper,reads,hop,h1];exact ⟨trivial,trivial⟩
 | convert s d x=>have h1:=h x (by rw [hop];simp [Op.operands]);simp only [oper,reads,hop,h1];exact ⟨trivial,trivial⟩
 | fieldAddr s x f=>have h1:=h x (by rw [hop];simp [Op.operands]);simp only [oper,reads,hop,h1];exact ⟨trivial,trivial⟩
 | field s x f=>have h1:=h x (by rw [hop];simp [Op.operands]);simp only [oper,reads,hop,h1];exact ⟨trivial,trivial⟩
 | extract x i=>have h1:=h x (by rw [hop];simp [Op.operands]);simp only [oper,reads,hop,h1];exact ⟨trivial,trivial⟩
 | _=>unfold oper reads;rw [hop];exact ⟨rfl,rfl⟩
end
def eff:Ups→Nat→Row→Row
 | [],_,x=>x
 | u::us,r,x=>eff us r (bif Nat.beq r u.1 then turn u.2 x else x)
theorem applyF_eff:∀ {us:Ups} {hp:Hp} {r:Nat},applyF hp us r=eff us r (hp r)
 | [],_,_=>rfl
 | u::us,hp,r=>by
  simp only [applyF,eff]
  exact applyF_eff (us:=us)
theorem froz_froz (x:Row):froz (froz x)=froz x:=by cases x <;> rfl
theorem turn_cases (x:Row):(∀ y,turn x y=froz y)∨(∃ z,∀ y,turn x y=z):=by
 cases x
 · exact Or.inr ⟨_,fun _=>rfl⟩
 · exact Or.inr ⟨_,fun _=>rfl⟩
 · exact Or.inr ⟨_,fun _=>rfl⟩
 · exact Or.inl fun _=>rfl
theorem eff_rel:∀ (us:Ups) (r:Nat) {x y:Row},(y=x∨y=froz x)→(eff us r y=eff us r x∨eff us r y=froz (eff us r x))
 | [],_,_,_,h=>h
 | u::us,r,x,y,h=>by
  simp only [eff]
  cases Nat.beq r u.1 with
  | false=>exact eff_rel us r h
  | true =>
   simp only [cond_true]
   refine eff_rel us r ?_
   rcases turn_cases u.2 with q | ⟨z,q⟩
   · rw [q,q]
     rcases h with rfl | rfl
     · exact Or.inl rfl
     · exact Or.inl (froz_froz _)
   · rw [q,q];exact Or.inl rfl
theorem eff_not:∀ {us:Ups} {r:Nat},r ∉ us.map (·.1)→∀ x,eff us r x=x
 | [],_,_,_=>rfl
 | u::us,r,h,x=>by
  simp only [List.map_cons,List.mem_cons,not_or] at h
  simp only [eff]
  have:Nat.beq r u.1=false:=by
   cases hb:Nat.beq r u.1 with
   | false=>rfl
   | true=>exact absurd (Nat.eq_of_beq_eq_true hb) h.1
  rw [this]
  exact eff_not h.2 x
theorem hard_cons_not {u:Nat × Row} {us:Ups} {r:Nat} (h:r ∉ hard (u::us)):r ∉ hard us∧(r=u.1→∃ p e l,u.2 = .fro p e l):=by
 obtain ⟨s,x⟩:=u
 cases x <;> simp_all [hard]
theorem eff_soft:∀ {us:Ups} {r:Nat},r ∉ hard us→(∀ x,eff us r x=x)∨(∀ x,eff us r x=froz x)
 | [],_,_=>Or.inl fun _=>rfl
 | u::us,r,h=>by
  obtain ⟨h1,h2⟩:=hard_cons_not h
  simp only [eff]
  cases hb:Nat.beq r u.1 with
  | false=>exact eff_soft h1
  | true =>
   simp only [cond_true]
   obtain ⟨p,e,l,q⟩:=h2 (Nat.eq_of_beq_eq_true hb)
   rw [q]
   right
   intro x
   rcases eff_soft h1 with g | g
   · rw [g];rfl
   · rw [g];exact froz_froz x
theorem hard_keys:∀ {us:Ups} {r:Nat},r ∈ hard us→r ∈ us.map (·.1)
 | [],_,h=>by cases h
 | (s,x)::us,r,h=>by
  have ih:=hard_keys (us:=us) (r:=r)
  cases x <;> simp_all [hard] <;> grind
theorem eff_comm {us vs:Ups} {r:Nat} (h1:∀ r ∈ hard us,r ∉ vs.map (·.1)) (h2:∀ r ∈ hard vs,r ∉ us.map (·.1)) (x:Row):eff vs r (eff us r x)=eff us r (eff vs r x):=by
 by_cases a:r ∈ hard us
 · rw [eff_not (h1 r a),eff_not (h1 r a)]
 · by_cases b:r ∈ hard vs
   · rw [eff_not (h2 r b),eff_not (h2 r b)]
   · rcases eff_soft a with p | p <;> rcases eff_soft b with q | q <;> simp [p,q]
theorem applyF_noFro:∀ {us:Ups} {hp:Hp},noFro us→applyF hp us=apply hp us
 | [],_,_=>rfl
 | u::us,hp,h=>by
  simp only [applyF,apply]
  have e:(fun n=>bif Nat.beq n u.1 then turn u.2 (hp n) else hp n)=upd hp u.1 u.2:=by
   funext n
   simp only [upd]
   have h0:=h u.1 u.2 (List.mem_cons_self ..)
   obtain ⟨s,x⟩:=u
   cases x <;> first | rfl | exact absurd rfl (h0 _ _ _)
  rw [e]
  exact applyF_noFro fun r x hx=>h r x (List.mem_cons_of_mem _ hx)
theorem applyF_frz:∀ {us:Ups} {hp:Hp},Frz hp us→applyF hp us=apply hp us
 | [],_,_=>rfl
 | (r,x)::us,hp,h=>by
  obtain ⟨p,e,l,rfl,hr⟩:=h r x (List.mem_cons_self ..)
  simp only [applyF,apply]
  have e':(fun n=>bif Nat.beq n r then turn (.fro p e l) (hp n) else hp n)=upd hp r (.fro p e l):=by
   funext n
   simp only [upd]
   cases hb:Nat.beq n r with
   | false=>rfl
   | true =>
    simp only [cond_true]
    rw [Nat.eq_of_beq_eq_true hb]
    rcases hr with q | q <;> rw [q] <;> rfl
  rw [e']
  exact applyF_frz h.tail
theorem apply_append:∀ (us0:Ups) {hp:Hp} {us1:Ups},apply hp (us0++us1)=apply (apply hp us0) us1
 | [],_,_=>rfl
 | u::us,hp,us1=>apply_append us
theorem applyF_append:∀ (us0:Ups) {hp:Hp} {us1:Ups},applyF hp (us0++us1)=applyF (applyF hp us0) us1
 | [],_,_=>rfl
 | u::us,hp,us1=>applyF_append us
theorem Shape.applyF {hp:Hp} {id nx:Nat} {us:Ups} (h:Shape hp id us nx):applyF hp us=apply hp us:=by
 obtain ⟨_,us0,us1,rfl,h0,h1⟩:=h
 rw [applyF_append,apply_append,applyF_frz h0,applyF_noFro h1]
end Go.V
end
section
set_option linter.unusedVariables false
set_option linter.unusedSimpArgs false
namespace Go.V
open Go.RowKit
structure G where
 i:Nat
 go:Bool
 us:Ups
 rd:List Nat
 A:List Nat
 dst:Option Nat
 v:AV
 nm:List Nat
 id:Nat
 nx:Nat
def rep (hp:Hp) (D:Nat→Bool):List G→Hp
 | []=>hp
 | g::gs=>bif D g.i then applyF (rep hp D gs) g.us else rep hp D gs
def rept (tm:List AV) (D:Nat→Bool):List G→List AV
 | []=>tm
 | g::gs=>bif D g.i then setD (rept tm D gs) g.dst g.v else rept tm D gs
structure Far (g' g:G):Prop where
 a:∀ r ∈ hard g.us,r ∉ g'.rd
 b:∀ r ∈ hard g'.us,r ∉ g.rd
 c:∀ r ∈ g.us.map (·.1),r ∉ hard g'.us
 d:∀ r ∈ hard g.us,r ∉ g'.us.map (·.1)
structure FarT (g' g:G):Prop where
 e:∀ t ∈ g.dst.toList,t ∉ g'.dst.toList++g'.nm
 f:∀ t ∈ g'.dst.toList,t ∉ g.nm
section
variable {hp:Hp} {tm:List AV} {D D':Nat→Bool}
theorem rep_congr {r:Nat}:∀ {gs:List G},(∀ g ∈ gs,r ∈ g.us.map (·.1)→D g.i=D' g.i)→rep hp D gs r=rep hp D' gs r
 | [],_=>rfl
 | g::gs,h=>by
  have ih:=rep_congr (gs:=gs) fun g' hg=>h g' (List.mem_cons_of_mem _ hg)
  simp only [rep]
  by_cases hr:r ∈ g.us.map (·.1)
  · rw [h g (List.mem_cons_self ..) hr]
    cases D' g.i with
    | true=>simp only [cond_true,applyF_eff,ih]
    | false=>exact ih
  · have e:∀ (b:Bool) (x:Hp),(bif b then applyF x g.us else x) r=x r:=fun b x=>by
     cases b with
     | true=>simp only [cond_true,applyF_eff,eff_not hr]
     | false=>rfl
    rw [e,e,ih]
theorem rep_rel {r:Nat}:∀ {gs:List G},(∀ g ∈ gs,D g.i=D' g.i∨(D g.i=true∧r ∉ hard g.us))→rep hp D gs r=rep hp D' gs r∨rep hp D gs r=froz (rep hp D' gs r)
 | [],_=>Or.inl rfl
 | g::gs,h=>by
  have ih:=rep_rel (gs:=gs) fun g' hg=>h g' (List.mem_cons_of_mem _ hg)
  simp only [rep]
  cases h1:D g.i with
  | true =>
   cases h2:D' g.i with
   | true =>
    simp only [cond_true,applyF_eff]
    exact eff_rel _ _ ih
   | false =>
    rcases h g (List.mem_cons_self ..) with q | ⟨_,q⟩
    · rw [h1,h2] at q;cases q
    · simp only [cond_true,cond_false,applyF_eff]
      rcases eff_soft q with e | e
      · rw [e];exact ih
      · rw [e]
        rcases ih with g1 | g1
        · rw [g1];exact Or.inr rfl
        · rw [g1,froz_froz];exact Or.inr rfl
  | false =>
   cases h2:D' g.i with
   | true =>
    rcases h g (List.mem_cons_self ..) with q | ⟨q,_⟩
    · rw [h1,h2] at q;cases q
    · rw [h1] at q;cases q
   | false=>exact ih
theorem setD_len {l:List AV} {d:Option Nat} {v:AV}:(setD l d v).length=l.length:=by cases d <;> simp [setD]
theorem rept_len:∀ {gs:List G},(rept tm D gs).length=tm.length
 | []=>rfl
 | g::gs=>by
  simp only [rept]
  cases D g.i with
  | true=>rw [cond_true,setD_len];exact rept_len
  | false=>exact rept_len
theorem setD_getD {l l':List AV} {d:Option Nat} {v:AV} {t:Nat} (hl:l.length=l'.length) (h:l.getD t .junk=l'.getD t .junk):(setD l d v).getD t .junk=(setD l' d v).getD t .junk:=by
 cases d with
 | none=>exact h
 | some d =>
  simp only [setD,List.getD,List.getElem?_set,hl] at h ⊢
  split
  · split <;> rfl
  · exact h
theorem setD_other {l:List AV} {d:Option Nat} {v:AV} {t:Nat} (h:d≠some t):(setD l d v).getD t .junk=l.getD t .junk:=by
 cases d with
 | none=>rfl
 | some d =>
  have:d≠t:=fun q=>h (by rw [q])
  simp [setD,List.getD,List.getElem?_set_ne this]
theorem rept_congr {t:Nat}:∀ {gs:List G},(∀ g ∈ gs,g.dst=some t→D g.i=D' g.i)→(rept tm D gs).getD t .junk=(rept tm D' gs).getD t .junk
 | [],_=>rfl
 | g::gs,h=>by
  have ih:=rept_congr (gs:=gs) fun g' hg=>h g' (List.mem_cons_of_mem _ hg)
  simp only [rept]
  by_cases hr:g.dst=some t
  · rw [h g (List.mem_cons_self ..) hr]
    cases D' g.i with
    | true =>
     simp only [cond_true]
     exact setD_getD (by rw [rept_len,rept_len]) ih
    | false=>exact ih
  · have e:∀ (b:Bool) (x:List AV),(bif b then setD x g.dst g.v else x).getD t .junk=x.getD t .junk:=fun b x=>by
     cases b with
     | true=>exact setD_other hr
     | false=>rfl
    rw [e,e,ih]
def plus (D:Nat→Bool) (i:Nat):Nat→Bool:=fun j=>bif Nat.beq j i then true else D j
theorem plus_self {i:Nat}:plus D i i=true:=by simp [plus]
theorem plus_other {i j:Nat} (h:j≠i):plus D i j=D j:=by
 have:Nat.beq j i=false:=by
  cases hb:Nat.beq j i with
  | false=>rfl
  | true=>exact absurd (Nat.eq_of_beq_eq_true hb) h
 simp [plus,this]
theorem rep_all {gs:List G} (h:∀ g ∈ gs,D g.i=D' g.i):rep hp D gs=rep hp D' gs:=funext fun r=>rep_congr fun g hg _=>h g hg
theorem rept_all:∀ {gs:List G},(∀ g ∈ gs,D g.i=D' g.i)→rept tm D gs=rept tm D' gs
 | [],_=>rfl
 | g::gs,h=>by
  simp only [rept]
  rw [h g (List.mem_cons_self ..),rept_all fun g' hg=>h g' (List.mem_cons_of_mem _ hg)]
theorem rep_add {g:G} {r:Nat}:∀ {gs:List G},gs.Pairwise (fun x y=>y.i<x.i)→g ∈ gs→D g.i=false →
 (∀ h ∈ gs,g.i<h.i→D h.i=true→(∀ r ∈ hard g.us,r ∉ h.us.map (·.1))∧(∀ r ∈ hard h.us,r ∉ g.us.map (·.1)))→rep hp (plus D g.i) gs r=eff g.us r (rep hp D gs r)
 | [],_,hg,_,_=>by cases hg
 | h::gs,hp',hg,hD,hc=>by
  rw [List.pairwise_cons] at hp'
  simp only [rep]
  rcases List.mem_cons.1 hg with q | q
  · subst q
    rw [plus_self,hD,cond_true,cond_false,applyF_eff]
    congr 1
    exact rep_congr fun g' hg' _=>plus_other (Nat.ne_of_lt (hp'.1 g' hg'))
  · have hlt:=hp'.1 g q
    rw [plus_other (Nat.ne_of_gt hlt)]
    have ih:=rep_add (r:=r) hp'.2 q hD fun h' hh'=>hc h' (List.mem_cons_of_mem _ hh')
    cases hb:D h.i with
    | false=>exact ih
    | true =>
     simp only [cond_true,applyF_eff]
     rw [ih]
     obtain ⟨c1,c2⟩:=hc h (List.mem_cons_self ..) hlt hb
     exact eff_comm c1 c2 _
theorem setD_comm {l:List AV} {d e:Option Nat} {u v:AV} (h:∀ t ∈ d.toList,t ∉ e.toList):setD (setD l d u) e v=setD (setD l e v) d u:=by
 cases d with
 | none=>rfl
 | some d =>
  cases e with
  | none=>rfl
  | some e =>
   have:d≠e:=fun q=>h d (by simp) (by simp [q])
   exact List.set_comm _ _ this
theorem rept_add {g:G}:∀ {gs:List G},gs.Pairwise (fun x y=>y.i<x.i)→g ∈ gs→D g.i=false →
 (∀ h ∈ gs,g.i<h.i→D h.i=true→∀ t ∈ h.dst.toList,t ∉ g.dst.toList)→rept tm (plus D g.i) gs=setD (rept tm D gs) g.dst g.v
 | [],_,hg,_,_=>by cases hg
 | h::gs,hp',hg,hD,hc=>by
  rw [List.pairwise_cons] at hp'
  simp only [rept]
  rcases List.mem_cons.1 hg with q | q
  · subst q
    rw [plus_self,hD,cond_true,cond_false]
    congr 1
    exact rept_all fun g' hg'=>plus_other (Nat.ne_of_lt (hp'.1 g' hg'))
  · have hlt:=hp'.1 g q
    rw [plus_other (Nat.ne_of_gt hlt)]
    have ih:=rept_add hp'.2 q hD fun h' hh'=>hc h' (List.mem_cons_of_mem _ hh')
    cases hb:D h.i with
    | false=>exact ih
    | true =>
     simp only [cond_true]
     rw [ih]
     exact (setD_comm (hc h (List.mem_cons_self ..) hlt hb)).symm
end
def toRecs:List G→List Rec
 | []=>[]
 | g::gs=>bif g.go then ⟨g.i,g.us,g.rd⟩::toRecs gs else toRecs gs
theorem replay_rep {hp:Hp} {a:List Nat}:∀ {gs:List G},(∀ g ∈ gs,g.go=false→g.us=[])→replay hp a (toRecs gs)=rep hp (memB a) gs
 | [],_=>rfl
 | g::gs,h=>by
  have ih:=replay_rep (hp:=hp) (a:=a) (gs:=gs) fun g' hg=>h g' (List.mem_cons_of_mem _ hg)
  simp only [toRecs,rep]
  cases hg:g.go with
  | true=>simp only [cond_true,replay,ih]
  | false =>
   rw [h g (List.mem_cons_self ..) hg]
   simp only [cond_false,applyF,ih]
   cases memB a g.i <;> rfl
theorem replayAll_rep {hp:Hp}:∀ {gs:List G},(∀ g ∈ gs,g.go=false→g.us=[])→replayAll hp (toRecs gs)=rep hp (fun _=>true) gs
 | [],_=>rfl
 | g::gs,h=>by
  have ih:=replayAll_rep (hp:=hp) (gs:=gs) fun g' hg=>h g' (List.mem_cons_of_mem _ hg)
  simp only [toRecs,rep]
  cases hg:g.go with
  | true=>simp only [cond_true,replayAll,ih]
  | false =>
   rw [h g (List.mem_cons_self ..) hg]
   simp only [cond_false,cond_true,applyF,ih]
theorem free_far {a:List Nat} {us:Ups} {rd:List Nat}:∀ {gs:List G},free a us rd (toRecs gs)=true→∀ g' ∈ gs,g'.go=true→memB a g'.i=true ∨
 ((∀ r ∈ hard us,r ∉ g'.rd)∧(∀ r ∈ hard g'.us,r ∉ rd)∧(∀ r ∈ us.map (·.1),r ∉ hard g'.us)∧(∀ r ∈ hard us,r ∉ g'.us.map (·.1)))
 | [],_,_,hg,_=>by cases hg
 | g::gs,h,g',hg,hgo=>by
  simp only [toRecs] at h
  cases hgg:g.go with
  | false =>
   rw [hgg,cond_false] at h
   rcases List.mem_cons.1 hg with q | q
   · subst q;rw [hgg] at hgo;cases hgo
   · exact free_far h g' q hgo
  | true =>
   rw [hgg,cond_true] at h
   simp only [free] at h
   cases hc:(memB a g.i||(apartL (hard us) g.rd&&apartL (hard g.us) rd&&apartL (us.map (·.1)) (hard g.us)&&apartL (hard us) (g.us.map (·.1)))) with
   | false=>rw [hc] at h;cases h
   | true =>
    rw [hc,cond_true] at h
    rcases List.mem_cons.1 hg with q | q
    · subst q
      simp only [Bool.or_eq_true,Bool.and_eq_true,apartL_iff] at hc
      rcases hc with q | ⟨⟨⟨q1,q2⟩,q3⟩,q4⟩
      · exact Or.inl q
      · exact Or.inr ⟨q1,q2,q3,q4⟩
    · exact free_far h g' q hgo
end Go.V
end

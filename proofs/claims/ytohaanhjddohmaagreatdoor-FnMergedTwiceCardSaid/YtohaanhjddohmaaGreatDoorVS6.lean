/- V: soundness, part 6 of 10. -/
import Derived.Test.YtohaanhjddohmaaGreatDoorVS5
section
set_option linter.unusedVariables false
set_option linter.unusedSimpArgs false
namespace Go.V
open Go.RowKit
def kj (L:List Nat) (A B:Hp):Prop:=∀ r ∈ L,B r=A r∨∃ p e l,A r = .own p e l∧B r = .fro p e l
theorem Bc:∀ {cs:List AV} {r:Nat},r ∈ bm cs↔(AV.ref r ∈ cs∨∃ i f,AV.ptr r i f ∈ cs)
 | [],r=>by simp [bm]
 | c::cs,r=>by
  have ih:=Bc (cs:=cs) (r:=r)
  cases c <;> simp [bm,ih,List.mem_cons] <;> grind
theorem kj.sub {L M:List Nat} {A B:Hp} (h:kj L A B) (hs:∀ r ∈ M,r ∈ L):kj M A B:=fun r hr=>h r (hs r hr)
theorem qG {cs ds:List AV} (h:∀ c ∈ ds,c ∈ cs):∀ r ∈ bm ds,r ∈ bm cs:=fun r hr=>by
 rw [Bc] at hr ⊢
 rcases hr with q | ⟨i,f,q⟩
 · exact Or.inl (h _ q)
 · exact Or.inr ⟨i,f,h _ q⟩
theorem pg:∀ {us:ik} {r:Nat} {x:og},(r,x) ∈ us→(∀ p e l,x ≠ .fro p e l)→r ∈ jI us
 | [],_,_,h,_=>by cases h
 | (s,y)::us,r,x,h,hx=>by
  unfold jI
  rcases List.mem_cons.1 h with q | q
  · cases q
    split
    · rename_i q;cases q
    · rename_i q;cases q;exact absurd rfl (hx _ _ _)
    · rename_i q;cases q;exact List.mem_cons_self ..
  · have:=pg q hx
    split
    · rename_i q;cases q
    · rename_i q;cases q;exact this
    · rename_i q;cases q;exact List.mem_cons_of_mem _ this
section
variable {A B:Hp}
theorem qQ {e:Ty} {c:AV} (h:kj (bm [c]) A B):getSl B e c=getSl A e c:=by
 cases c <;> try rfl
 rename_i r
 simp only [getSl]
 rcases h r (by simp [bm]) with q | ⟨p,e',l,q1,q2⟩
 · rw [q]
 · rw [q1,q2]
theorem kA:∀ {t:Ty} {cs:List AV},kj (bm cs) A B→prj B t cs=prj A t cs
 | .bool,_,_=>rfl
 | .int _,_,_=>rfl
 | .str,_,_=>rfl
 | .slice e,cs,h=>by
  simp only [prj,rT]
  split
  · exact qQ h
  · rfl
 | .pair a b,cs,h=>by
  simp only [prj]
  rw [kA (t:=a) (h.sub (qG fun c hc=>List.mem_of_mem_take hc)),kA (t:=b) (h.sub (qG fun c hc=>List.mem_of_mem_drop hc))]
 | .unit,_,_=>rfl
 | .opq,_,_=>rfl
theorem zv {c:AV} (h:kj (bm [c]) A B):taint1 B c=taint1 A c:=by
 cases c <;> try rfl
 rename_i r
 simp only [taint1]
 rcases h r (by simp [bm]) with q | ⟨p,e',l,q1,q2⟩
 · rw [q]
 · rw [q1,q2]
theorem m9:∀ {cs:List AV},kj (bm cs) A B→taint B cs=taint A cs
 | [],_=>rfl
 | c::cs,h=>by
  simp only [taint]
  rw [zv (h.sub (qG fun d hd=>by simp at hd;subst hd;exact List.mem_cons_self ..)),m9 (h.sub (qG fun d hd=>List.mem_cons_of_mem _ hd))]
theorem lN:∀ {cs:List AV},kj (bm cs) A B→freeze B cs=freeze A cs
 | [],_=>rfl
 | c::cs,h=>by
  have ih:=lN (cs:=cs) (h.sub (qG fun d hd=>List.mem_cons_of_mem _ hd))
  cases c <;> try exact ih
  rename_i r
  simp only [freeze,ih]
  rcases h r (by simp [bm]) with q | ⟨p,e',l,q1,q2⟩
  · rw [q]
  · rw [q1,q2]
theorem Gt {R:Type} {t:Ty} {a:AV} {k:AV→Option R} (h:kj (bm (cellsOf a)) A B):ld B t a k=ld A t a k:=by
 cases a <;> try rfl
 rename_i r i off
 simp only [ld]
 rcases h r (by simp [bm,cellsOf]) with q | ⟨p,e',l,q1,q2⟩
 · rw [q]
 · rw [q1,q2]
theorem xw {t:Ty} {a v:AV} {us:ik} (hs:jx A t a v some=some us) (h1:kj (bm (cellsOf a)) A B) (h2:kj (bm (cellsOf v)) A B) (hh:∀ r ∈ jI us,r ∈ bm (cellsOf a)→B r=A r):jx B t a v some=some us:=by
 unfold jx at hs ⊢
 obtain ⟨hc,hs⟩:=aK hs
 rw [hc,cond_true]
 split at hs
 · rename_i r i off _
   split at hs
   · rename_i cs hr
     obtain ⟨hle,hs⟩:=aK hs
     cases hs
     rw [hh r (pg (List.mem_singleton.2 rfl) (fun _ _ _ q=>by cases q)) (by simp [bm,cellsOf]),hr]
     simp only [hle,cond_true]
   · rename_i p e l hr
     obtain ⟨hn,hs⟩:=ot hs
     split at hs
     · rename_i y hy
       split at hs
       · rename_i z hz
         cases hs
         rw [hh r (pg (List.mem_append_right _ (List.mem_singleton.2 rfl)) (fun _ _ _ q=>by cases q)) (by simp [bm,cellsOf]),hr]
         simp only [hn,cond_false,kA h2,hy,hz,lN h2,m9 h2]
       · cases hs
     · cases hs
   · cases hs
 · cases hs
theorem uh {R:Type} {tb:l_} {t:Nat} {x i:AV} {k:AV→Option R} (h:kj (bm (cellsOf x)) A B):indexAddr tb B t x i k=indexAddr tb A t x i k:=by
 unfold indexAddr
 split
 · cases x <;> try rfl
   rename_i r
   simp only []
   rcases h r (by simp [bm,cellsOf]) with q | ⟨p,e',l,q1,q2⟩
   · rw [q]
   · rw [q1,q2]
 · rfl
theorem xt {R:Type} {u:Ty} {x:AV} {lo hi:Option AV} {k:AV→ik→Option R} (h:kj (bm (cellsOf x)) A B):kH u B x lo hi k=kH u A x lo hi k:=by
 cases x with
 | ref r =>
  cases u <;> try rfl
  simp only [kH]
  rcases h r (by simp [bm,cellsOf]) with q | ⟨p,e',l,q1,q2⟩
  · rw [q]
  · rw [q1,q2]
 | _=>cases u <;> rfl
theorem C8 {R:Type} {u:Ty} {x:AV} {k:AV→Option R} (h:kj (bm (cellsOf x)) A B):lenOf u B x k=lenOf u A x k:=by
 cases x with
 | ref r =>
  cases u <;> try rfl
  simp only [lenOf]
  rcases h r (by simp [bm,cellsOf]) with q | ⟨p,e',l,q1,q2⟩
  · rw [q]
  · rw [q1,q2]
 | _=>cases u <;> rfl
theorem vO {c:AV}:∀ r ∈ bm [c],r ∈ bm (cellsOf c):=by
 intro r hr
 cases c <;> simp_all [bm,cellsOf]
theorem w9 {e:Ty} {id:Nat} {d s v:AV} {us:ik} (hs:ir e A id d s (fun v us=>some (v,us))=some (v,us)) (h1:kj (bm (cellsOf d)) A B) (h2:kj (bm (cellsOf s)) A B) (hh:∀ r ∈ jI us,r ∈ bm (cellsOf d)→B r=A r) :
 ir e B id d s (fun v us=>some (v,us))=some (v,us):=by
 unfold ir at hs ⊢
 have h2':=h2.sub vO
 rw [qQ h2']
 split at hs
 · cases hs
 · split at hs
   · rw [m9 h2'];exact hs
   · rename_i r
     split at hs
     · rename_i p t l hr
       split at hs
       · rename_i ld hld
         obtain ⟨hle,hs⟩:=aK hs
         cases hs
         have hB:B r=A r:=hh r (pg (List.mem_cons_self ..) (fun _ _ _ q=>by cases q)) (by simp [bm,cellsOf])
         rw [hB,hr]
         simp only [hld,hle,cond_true,m9 h2']
       · cases hs
     · cases hs
   · cases hs
theorem Cm:∀ {ts:List Ty} {vs:List AV},(∀ v ∈ vs,kj (bm (cellsOf v)) A B)→args B ts vs=args A ts vs
 | [],[],_=>rfl
 | [],_::_,_=>rfl
 | _::_,[],_=>rfl
 | t::ts,v::vs,h=>by
  simp only [args]
  rw [kA (h v (List.mem_cons_self ..)),Cm fun u hu=>h u (List.mem_cons_of_mem _ hu)]
theorem u9 {e:Ty} {ρ:Operand→AV}:∀ {ps:List (Nat × Operand)} {l:List e.den} {b:Bool},(∀ p ∈ ps,kj (bm (cellsOf (ρ p.2))) A B)→elems B e ρ ps l b=elems A e ρ ps l b
 | [],_,_,_=>rfl
 | (i,x)::ps,l,b,h=>by
  have h0:kj (bm (cellsOf (ρ x))) A B:=h (i,x) (List.mem_cons_self ..)
  simp only [elems]
  rw [kA h0,m9 h0]
  split
  · rw [u9 fun p hp=>h p (List.mem_cons_of_mem _ hp)]
  · rfl
theorem B2 {v:AV} (h:kj (bm [v]) A B):pN B v=pN A v:=by
 cases v <;> try rfl
 rename_i r i f
 simp only [pN]
 rcases h r (by simp [bm]) with q | ⟨p,e,l,q1,q2⟩
 · rw [q]
 · rw [q1,q2]
theorem lM:∀ {cs:List AV},(∀ r ∈ bm cs,B r=A r)→e_ B cs=e_ A cs
 | [],_=>rfl
 | c::cs,h=>by
  cases c <;> simp only [e_] <;> first
   | rfl
   | exact lM (cs:=cs) h
   | (rw [h _ (by simp [bm]),lM (cs:=cs) fun r q=>h r (by simp [bm,q])])
theorem tP {hp:Hp} {p:Bool}:∀ {t:Ty} {x y:t.den} {cs:List AV},prj hp t cs=some x→e_ hp cs=true→(nS p t y cs).map (·.1)=bm cs
 | .bool,x,y,cs,hx,hf=>by
  simp only [prj] at hx
  unfold sJ at hx
  split at hx
  · rfl
  · cases hx
 | .int k,x,y,cs,hx,hf=>by
  simp only [prj] at hx
  unfold x_ at hx
  split at hx
  · rfl
  · cases hx
 | .str,x,y,cs,hx,hf=>by
  simp only [prj] at hx
  unfold wE at hx
  split at hx
  · rfl
  · cases hx
 | .unit,x,y,cs,hx,hf=>by
  simp only [prj] at hx
  unfold sD at hx
  split at hx
  · rfl
  · cases hx
 | .opq,x,y,cs,hx,hf=>by cases hx
 | .pair s t,x,y,cs,hx,hf=>by
  simp only [prj] at hx
  obtain ⟨h1,h2⟩:=cG hx
  have app:∀ cs ds:List AV,e_ hp (cs++ds)=true→e_ hp cs=true∧e_ hp ds=true:=by
   intro cs ds
   induction cs with
   | nil=>exact fun q=>⟨rfl,q⟩
   | cons c cs ih =>
    intro q
    cases c <;> simp only [List.cons_append,e_,Bool.and_eq_true] at q ⊢ <;> first | (cases q;done) | (exact ih q) | (exact ⟨⟨q.1,(ih q.2).1⟩,(ih q.2).2⟩)
  obtain ⟨f1,f2⟩:=app (cs.take s.size) (cs.drop s.size) (by rw [List.take_append_drop];exact hf)
  show (nS p s y.1 _++nS p t y.2 _).map (·.1)=_
  rw [List.map_append,tP h1 f1,tP h2 f2,← pb]
 | .slice e,x,y,cs,hx,hf=>by
  simp only [prj] at hx
  unfold rT at hx
  split at hx
  · rename_i c
    cases c <;> first | rfl | (simp [getSl] at hx;done) | (simp [e_] at hf;done)
  · cases hx
theorem mz {hp:Hp} {al:Bool}:∀ {A:List Pm} {vs:List AV} {x:(tup (nT A)).den} {y:(tup (g7 A)).den} {id:Nat},eP hp A vs=some x→∀ r ∈ lT hp A vs,r ∈ (ij hp al A vs y id).map (·.1)
 | [],_,_,_,_,_,r,hr=>by cases hr
 | .val t::A,vs,x,y,id,hx,r,hr=>by
  cases vs with
  | nil=>simp only [eP] at hx;cases hx
  | cons v vs =>
   simp only [eP] at hx
   exact mz (A:=A) (cG (aK hx).2).2 r hr
 | .lend t::A,vs,x,y,id,hx,r,hr=>by
  cases vs with
  | nil=>simp only [eP] at hx;cases hx
  | cons v vs =>
   simp only [eP] at hx
   have h1:=aK hx
   have h2:=cG h1.2
   simp only [lT,List.headD_cons,List.tail_cons,List.mem_append] at hr
   simp only [ij,List.headD_cons,List.tail_cons,List.map_append,List.mem_append]
   rcases hr with q | q
   · left
     rw [tP h2.1 (Bool.and_eq_true _ _▸h1.1:_∧_).2]
     exact q
   · exact Or.inr (mz (A:=A) h2.2 r q)
 | .give t::A,vs,x,y,id,hx,r,hr=>by
  cases vs with
  | nil=>simp only [eP] at hx;cases hx
  | cons v vs =>
   simp only [eP] at hx
   have h1:=aK hx
   have h2:=cG h1.2
   simp only [lT,List.headD_cons,List.tail_cons,List.mem_append] at hr
   simp only [ij,List.headD_cons,List.tail_cons,List.map_append,List.mem_append]
   rcases hr with q | q
   · left;rw [oj];exact q
   · exact Or.inr (mz (A:=A) h2.2 r q)
 | .fn f n::A,vs,x,y,id,hx,r,hr=>mz (A:=A) hx r hr
 | .io o t::A,vs,x,y,id,hx,r,hr=>by
  cases vs with
  | nil=>simp only [eP] at hx;cases hx
  | cons v vs =>
   simp only [eP] at hx
   split at hx
   · rename_i cs hcs
     obtain ⟨r0,hv,hrow⟩:=pB hcs
     subst hv
     obtain ⟨ho,hx⟩:=aK hx
     simp only [lT,List.headD_cons,List.tail_cons,hcs,Option.getD_some,bm,List.cons_append,List.nil_append,List.mem_cons,List.mem_append] at hr
     cases o with
     | true =>
      simp only [ij,List.headD_cons,List.tail_cons,hcs,Option.getD_some,cond_true,zA,List.map_append,List.map_cons,List.mem_append,List.mem_cons,oj]
      rcases hr with q | q | q
      · exact Or.inr (Or.inl q)
      · exact Or.inl q
      · exact Or.inr (Or.inr (Or.inr (mz (A:=A) (cG hx).2 r q)))
     | false =>
      simp only [ij,List.headD_cons,List.tail_cons,hcs,Option.getD_some,cond_false,zA,List.map_cons,List.mem_cons]
      rcases hr with q | q | q
      · exact Or.inl q
      · cases q
      · exact Or.inr (mz (A:=A) (cG hx).2 r q)
   · cases hx
theorem jv:∀ {Q:List Pm} {vs:List AV} {x:(tup (nT Q)).den},eP A Q vs=some x→kj (lT A Q vs++pS A Q vs) A B→(∀ r ∈ lT A Q vs,B r=A r) →
 eP B Q vs=some x∧lT B Q vs=lT A Q vs∧pS B Q vs=pS A Q vs∧∀ al y id,ij B al Q vs y id=ij A al Q vs y id
 | [],vs,x,hx,_,_=>⟨hx,rfl,rfl,fun _ _ _=>rfl⟩
 | .val t::Q,vs,x,hx,hf,hh=>by
  cases vs with
  | nil=>simp only [eP] at hx;cases hx
  | cons v vs =>
   simp only [eP] at hx ⊢
   simp only [lT,pS,List.headD_cons,List.tail_cons] at hf hh ⊢
   have h1:=aK hx
   have h2:=cG h1.2
   obtain ⟨g1,g2,g3,g4⟩:=jv (Q:=Q) h2.2 (hf.sub fun r q=>by
    rcases List.mem_append.1 q with q | q
    · exact List.mem_append_left _ q
    · exact List.mem_append_right _ (List.mem_append_right _ q)) hh
   refine ⟨?_,g2,by rw [g3],fun al y id=>g4 al y id⟩
   rw [kA (hf.sub fun r q=>List.mem_append_right _ (List.mem_append_left _ q)),h2.1,g1,h1.1]
   rfl
 | .lend t::Q,vs,x,hx,hf,hh=>by
  cases vs with
  | nil=>simp only [eP] at hx;cases hx
  | cons v vs =>
   simp only [eP] at hx ⊢
   simp only [lT,pS,List.headD_cons,List.tail_cons] at hf hh ⊢
   have h1:=aK hx
   have h2:=cG h1.2
   obtain ⟨g1,g2,g3,g4⟩:=jv (Q:=Q) h2.2 (hf.sub fun r q=>by
    rcases List.mem_append.1 q with q | q
    · exact List.mem_append_left _ (List.mem_append_right _ q)
    · exact List.mem_append_right _ q) (fun r q=>hh r (List.mem_append_right _ q))
   refine ⟨?_,by rw [g2],g3,fun al y id=>by simp only [ij,List.headD_cons,List.tail_cons,g4]⟩
   rw [lM fun r q=>hh r (List.mem_append_left _ q),kA (hf.sub fun r q=>List.mem_append_left _ (List.mem_append_left _ q)),h2.1,g1,h1.1]
   rfl
 | .give t::Q,vs,x,hx,hf,hh=>by
  cases vs with
  | nil=>simp only [eP] at hx;cases hx
  | cons v vs =>
   simp only [eP] at hx ⊢
   simp only [lT,pS,List.headD_cons,List.tail_cons] at hf hh ⊢
   have h1:=aK hx
   have h2:=cG h1.2
   obtain ⟨g1,g2,g3,g4⟩:=jv (Q:=Q) h2.2 (hf.sub fun r q=>by
    rcases List.mem_append.1 q with q | q
    · exact List.mem_append_left _ (List.mem_append_right _ q)
    · exact List.mem_append_right _ q) (fun r q=>hh r (List.mem_append_right _ q))
   refine ⟨?_,by rw [g2],g3,fun al y id=>congrArg (q9 (bm (cellsOf v))++·) (g4 al y id)⟩
   rw [lM fun r q=>hh r (List.mem_append_left _ q),kA (hf.sub fun r q=>List.mem_append_left _ (List.mem_append_left _ q)),h2.1,g1,h1.1]
   rfl
 | .fn f n::Q,vs,x,hx,hf,hh=>jv (Q:=Q) hx hf hh
 | .io o t::Q,vs,x,hx,hf,hh=>by
  cases vs with
  | nil=>simp only [eP] at hx;cases hx
  | cons v vs =>
   have hbx:pN B v=pN A v:=B2 (hf.sub fun r q=>List.mem_append_left _ (by simp only [lT,List.headD_cons];exact List.mem_append_left _ q))
   simp only [eP,hbx] at hx ⊢
   cases hcs:pN A v with
   | none=>rw [hcs] at hx;cases hx
   | some cs =>
    rw [hcs] at hx
    simp only [] at hx ⊢
    simp only [lT,pS,List.headD_cons,List.tail_cons,hbx,hcs,Option.getD_some] at hf hh ⊢
    have h1:=aK hx
    have h2:=cG h1.2
    obtain ⟨g1,g2,g3,g4⟩:=jv (Q:=Q) h2.2 (hf.sub fun r q=>by
     rcases List.mem_append.1 q with q | q
     · exact List.mem_append_left _ (List.mem_append_right _ (List.mem_append_right _ q))
     · exact List.mem_append_right _ (List.mem_append_right _ q)) (fun r q=>hh r (List.mem_append_right _ (List.mem_append_right _ q)))
    have hcf:kj (bm cs) A B:=hf.sub fun r q=>by
     cases o with
     | true=>exact List.mem_append_left _ (List.mem_append_right _ (List.mem_append_left _ q))
     | false=>exact List.mem_append_right _ (List.mem_append_left _ q)
    have hfo:(!o||e_ B cs)=(!o||e_ A cs):=by
     cases o with
     | true=>rw [lM fun r q=>hh r (List.mem_append_right _ (List.mem_append_left _ q))]
     | false=>rfl
    refine ⟨?_,by rw [g2],by rw [g3],fun al y id=>by simp only [ij,List.headD_cons,List.tail_cons,hbx,g4]⟩
    rw [hfo,kA hcf,h2.1,g1,h1.1]
    rfl
theorem Bg {c:Cn} {id nx:Nat} {as:List AV} {v:AV} {us:ik} (hs:pe c A id as (fun v us nx=>some (v,us,nx))=some (v,us,nx))
 (h:∀ vs,gA c.A as=some vs→kj (lT A c.A vs++pS A c.A vs) A B) (hh:∀ vs,gA c.A as=some vs→∀ r ∈ jI us,r ∈ lT A c.A vs→B r=A r) :
 pe c B id as (fun v us nx=>some (v,us,nx))=some (v,us,nx):=by
 have hs0:=hs
 unfold pe at hs ⊢
 cases hf:gA c.A as with
 | none=>rw [hf] at hs;cases hs
 | some vs =>
 rw [hf] at hs
 simp only [] at hs ⊢
 cases hx:eP A c.A vs with
 | none=>rw [hx] at hs;cases hs
 | some x =>
 rw [hx] at hs
 simp only [] at hs
 have h1:=aK hs
 cases hy:c.fn x with
 | none=>have h2:=h1.2;rw [hy] at h2;cases h2
 | some y =>
 have h2:=h1.2
 rw [hy] at h2
 simp only [Option.some.injEq,Prod.mk.injEq] at h2
 have hgv:∀ r ∈ lT A c.A vs,B r=A r:=fun r q=>by
  refine hh vs hf r ?_ q
  obtain ⟨z,hz,rfl⟩:=List.mem_map.1 (mz (al:=c.al) (y:=zl (g7 c.A) y) (id:=id) hx r q)
  rw [← h2.2.1]
  exact pg (x:=z.2) (List.mem_append_right _ (List.mem_append_left _ hz)) (j_ z.1 z.2 hz)
 obtain ⟨g1,g2,g3,g4⟩:=jv hx (h vs hf) hgv
 have hrefs:∀ l:List Nat,bm (l.map AV.ref)=l:=by
  intro l
  induction l with
  | nil=>rfl
  | cons r l ih=>simp [bm,ih]
 rw [g1,g2,g3]
 simp only [hy]
 rw [g4,lN (A:=A) (B:=B) (by rw [hrefs];exact (h vs hf).sub fun r q=>List.mem_append_right _ q)]
 rw [hy] at hs
 exact hs
theorem CZ {c:Cn} {id nx:Nat} {as:List AV} {v:AV} {us:ik} (hs:ve c A id as (fun v us nx=>some (v,us,nx))=some (v,us,nx))
 (h:∀ vs,gA c.A as=some vs→kj (lT A c.A vs++pS A c.A vs) A B) :
 ve c B id as (fun v us nx=>some (v,us,nx))=some (v,us,nx):=by
 have hs0:=hs
 unfold ve at hs ⊢
 cases hf:gA c.A as with
 | none=>rw [hf] at hs;cases hs
 | some vs =>
 rw [hf] at hs
 simp only [] at hs ⊢
 cases hx:eP A c.A vs with
 | none=>rw [hx] at hs;cases hs
 | some x =>
 rw [hx] at hs
 simp only [] at hs
 have h1:=aK hs
 have hgv:∀ r ∈ lT A c.A vs,B r=A r:=fun r q=>by
  rw [List.isEmpty_iff.1 h1.1] at q
  cases q
 obtain ⟨g1,g2,g3,g4⟩:=jv hx (h vs hf) hgv
 have hrefs:∀ l:List Nat,bm (l.map AV.ref)=l:=by
  intro l
  induction l with
  | nil=>rfl
  | cons r l ih=>simp [bm,ih]
 rw [g1,g2,g3,lN (A:=A) (B:=B) (by rw [hrefs];exact (h vs hf).sub fun r q=>List.mem_append_right _ q)]
 exact hs
theorem Bp {c:Cn} {id nx:Nat} {as:List AV} {v:AV} {us:ik} (hs:pm c A id as (fun v us nx=>some (v,us,nx))=some (v,us,nx))
 (h:∀ vs,gA c.A as=some vs→kj (lT A c.A vs++pS A c.A vs) A B) (hh:∀ vs,gA c.A as=some vs→∀ r ∈ jI us,r ∈ lT A c.A vs→B r=A r) :
 pm c B id as (fun v us nx=>some (v,us,nx))=some (v,us,nx):=by
 unfold pm at hs ⊢
 cases hb:qt c.R with
 | false=>rw [hb] at hs;exact Bg hs h hh
 | true=>rw [hb] at hs;exact CZ hs h
theorem JX {α:Type} {f:α→List AV}:∀ {l:List α} {x:α},x ∈ l→∀ r ∈ bm (f x),r ∈ l.flatMap fun x=>bm (f x):=fun hx r hr=>List.mem_flatMap.2 ⟨_,hx,hr⟩
theorem uT:∀ {cs ds:List AV},bm (cs++ds)=bm cs++bm ds
 | [],_=>rfl
 | c::cs,ds=>by cases c <;> simp [bm,uT (cs:=cs)]
theorem sI {α:Type} {f:α→List AV}:∀ {l:List α},bm (l.flatMap f)=l.flatMap fun x=>bm (f x)
 | []=>rfl
 | x::l=>by simp [uT,sI (l:=l)]
theorem m0 {tb:l_} {tm:List AV} {t:Nat} {x:Operand}:bm (cellsOf (val tb tm t x))=bm (cellsOf (val tb tm 0 x)):=by
 cases x with
 | tmp i=>rfl
 | func f=>rfl
 | global g=>rfl
 | const v =>
  simp only [val]
  unfold Jz
  cases v <;> try rfl
  rename_i a n c
  cases a <;> try rfl
  cases n <;> try rfl
  cases c <;> try rfl
  simp only []
  split <;> (split <;> rfl)
theorem DW {tb:l_} {ct:List (Nat × Cn)} {o:Oper} {tm:List AV} {id nx:Nat} {v:AV} {us:ik} (hs:eM tb ct o tm A id (fun v us nx=>some (v,us,nx))=some (v,us,nx))
 (h:kj (reads tb ct o tm A) A B) (hh:∀ r ∈ jI us,r ∈ reads tb ct o tm A→B r=A r):eM tb ct o tm B id (fun v us nx=>some (v,us,nx))=some (v,us,nx):=by
 cases hop:o.op with
 | load t x =>
  simp only [eM,hop,reads] at hs h ⊢
  split at hs
  · rename_i u hu
    try simp only [hu]
    rw [Gt h];exact hs
  · cases hs
 | store t x y =>
  simp only [eM,hop,reads] at hs h hh ⊢
  split at hs
  · rename_i u hu
    try simp only [hu]
    rw [jy] at hs
    cases hl:jx A u (val tb tm 0 x) (val tb tm t y) some with
    | none=>rw [hl] at hs;cases hs
    | some us' =>
     rw [hl] at hs
     cases hs
     rw [jy]
     have h1:kj (bm (cellsOf (val tb tm 0 x))) A B:=h.sub fun r hr=>List.mem_append_left _ hr
     have h2:kj (bm (cellsOf (val tb tm t y))) A B:=h.sub fun r hr=>List.mem_append_right _ (by rw [← m0 (t:=t)];exact hr)
     rw [xw hl h1 h2 fun r hr hm=>hh r hr (List.mem_append_left _ hm)]
     rfl
  · cases hs
 | indexAddr t x i =>
  simp only [eM,hop,reads] at hs h ⊢
  rw [uh (by rw [m0];exact h)]
  exact hs
 | slice t x lo hi mx =>
  cases mx with
  | some _=>simp only [eM,hop] at hs;cases hs
  | none =>
   simp only [eM,hop,reads] at hs h ⊢
   rw [xt (by rw [m0];exact h)]
   exact hs
 | convert s d x =>
  simp only [eM,hop,reads] at hs h ⊢
  split at hs
  · rename_i h1 h2 h3
    try simp only [h1,h2,h3]
    exact hs
  · rename_i h1 h2 h3
    try simp only [h1,h2,h3]
    exact hs
  · rename_i h1 h2 h3
    rw [qQ (A:=A) (B:=B) (kj.sub (by rw [m0];exact h) vO)]
    exact hs
  · cases hs
 | buildSlice t n ps =>
  simp only [eM,hop,reads] at hs h ⊢
  split at hs
  · rename_i e he
    try simp only [he]
    have h1:∀ p ∈ ps.toList,kj (bm (cellsOf (val tb tm 0 p.2))) A B:=fun p hp=>h.sub fun r hr=>List.mem_flatMap.2 ⟨p,hp,hr⟩
    rw [u9 h1,lN (A:=A) (B:=B) (by rw [sI];exact h)]
    exact hs
  · cases hs
 | call c =>
  have h1:∀ x ∈ c.args.toList,kj (bm (cellsOf (val tb tm 0 x))) A B:=fun x hx=>h.sub fun r hr=>by
   simp only [reads,hop]
   exact List.mem_append_left _ (List.mem_flatMap.2 ⟨x,hx,hr⟩)
  simp only [eM,hop] at hs ⊢
  split at hs
  · rename_i hc
    try simp only [hc]
    split at hs
    · rename_i x t ha ht
      try simp only [ha,ht]
      rw [C8 (by rw [m0];exact h1 x (by rw [ha];simp))]
      exact hs
    · cases hs
  · rename_i hc
    try simp only [hc]
    split at hs
    · rename_i d s t t' ha ht
      try simp only [ha,ht]
      split at hs
      · rename_i e he
        try simp only [he]
        cases hb:Nat.beq t t' with
        | false=>rw [hb] at hs;cases hs
        | true =>
         rw [hb,cond_true] at hs
         rw [cond_true,hZ]
         rw [hZ] at hs
         cases hl:ir e A id (val tb tm t d) (val tb tm t s) (fun v us=>some (v,us)) with
         | none=>rw [hl] at hs;cases hs
         | some z =>
          obtain ⟨z1,z2⟩:=z
          rw [hl] at hs
          cases hs
          rw [w9 hl (by rw [m0];exact h1 d (by rw [ha];simp)) (by rw [m0];exact h1 s (by rw [ha];simp)) ?_]
          · rfl
          · intro r hr hm
            refine hh r hr ?_
            simp only [reads,hop]
            exact List.mem_append_left _ (List.mem_flatMap.2 ⟨d,by rw [ha];simp,by rw [← m0 (t:=t)];exact hm⟩)
      · cases hs
    · cases hs
  · rename_i hc
    try simp only [hc]
    exact hs
  · rename_i hc
    try simp only [hc]
    exact hs
  · rename_i x hc
    try simp only [hc]
    split at hs
    · rename_i q hq
      try simp only [hq]
      have hsub:∀ vs,gA q.1.A q.2=some vs→∀ r ∈ lT A q.1.A vs++pS A q.1.A vs,r ∈ reads tb ct o tm A:=fun vs hvs r hr=>by
       simp only [reads,hop,hc,hq,hvs]
       exact List.mem_append_right _ hr
      exact Bp (A:=A) (B:=B) hs (fun vs hvs=>h.sub (hsub vs hvs)) (fun vs hvs r hr hm=>hh r hr (hsub vs hvs r (List.mem_append_left _ hm)))
    · cases hs
  · cases hs
 | makeFunc fn first caps =>
  cases fn with
  | func f=>simp only [eM,hop] at hs ⊢;exact hs
  | _=>unfold eM at hs;rw [hop] at hs;cases hs
 | _=>unfold eM at hs ⊢;rw [hop] at hs ⊢;exact hs
end
end Go.V
end
section
set_option linter.unusedVariables false
set_option linter.unusedSimpArgs false
namespace Go.V
open Go.RowKit
section
variable {tb:l_} {ct:List (Nat × Cn)} {tm tm':List AV} {hp:Hp} {id:Nat} {R:Type}
theorem Dv {f g:Operand→AV} {o:Option Operand} (h:∀ x ∈ o.toList,f x=g x):o.map f=o.map g:=by
 cases o with
 | none=>rfl
 | some x=>simp [h x (by simp)]
theorem oO {offs:List (Nat × Nat)} {f g:Operand→AV}:∀ {ps:List (Nat × Operand)} {z:List AV},(∀ p ∈ ps,f p.2=g p.2)→jq z offs f ps=jq z offs g ps
 | [],_,_=>rfl
 | (i,x)::ps,z,h=>by
  have h0:f x=g x:=h (i,x) (List.mem_cons_self ..)
  simp only [jq,h0]
  split
  · rw [oO fun p hp=>h p (List.mem_cons_of_mem _ hp)]
  · rfl
theorem uK {e:Ty} {f g:Operand→AV}:∀ {ps:List (Nat × Operand)} {l:List e.den} {b:Bool},(∀ p ∈ ps,f p.2=g p.2)→elems hp e f ps l b=elems hp e g ps l b
 | [],_,_,_=>rfl
 | (i,x)::ps,l,b,h=>by
  have h0:f x=g x:=h (i,x) (List.mem_cons_self ..)
  simp only [elems,h0]
  split
  · rw [uK fun p hp=>h p (List.mem_cons_of_mem _ hp)]
  · rfl
theorem lE {α β:Type} {f g:α→List β}:∀ {l:List α},(∀ x ∈ l,f x=g x)→l.flatMap f=l.flatMap g
 | [],_=>rfl
 | x::l,h=>by simp [h x (List.mem_cons_self ..),lE fun y hy=>h y (List.mem_cons_of_mem _ hy)]
theorem HR {o:Oper} {k:AV→ik→Nat→Option R} (h:∀ x ∈ o.op.operands.toList,∀ T,val tb tm' T x=val tb tm T x) :
 eM tb ct o tm' hp id k=eM tb ct o tm hp id k∧reads tb ct o tm' hp=reads tb ct o tm hp:=by
 cases hop:o.op with
 | buildSlice t n ps =>
  have h0:∀ p ∈ ps.toList,val tb tm' 0 p.2=val tb tm 0 p.2:=fun p hp=>h p.2 (by rw [hop];simp only [Op.operands,List.toList_toArray];exact List.mem_map_of_mem hp) 0
  simp only [eM,reads,hop]
  have e1:ps.toList.flatMap (fun p=>cellsOf (val tb tm' 0 p.2))=ps.toList.flatMap (fun p=>cellsOf (val tb tm 0 p.2)):=lE fun p hp=>by rw [h0 p hp]
  rw [e1]
  refine ⟨?_,lE fun p hp=>by rw [h0 p hp]⟩
  split
  · rw [uK h0]
  · rfl
 | build t ps =>
  have h0:∀ p ∈ ps.toList,val tb tm' 0 p.2=val tb tm 0 p.2:=fun p hp=>h p.2 (by rw [hop];simp only [Op.operands,List.toList_toArray];exact List.mem_map_of_mem hp) 0
  simp only [eM,reads,hop]
  exact ⟨by
   split
   · rw [oO h0]
   · rfl,trivial⟩
 | makeFunc fn first caps =>
  have h0:caps.toList.map (val tb tm' 0)=caps.toList.map (val tb tm 0):=List.map_congr_left fun x hx=>h x (by rw [hop];simp only [Op.operands,Array.toList_append];exact List.mem_append_right _ hx) 0
  cases fn <;> simp only [eM,reads,hop]
  · exact ⟨by rw [h0],trivial⟩
  all_goals exact ⟨trivial,trivial⟩
 | call c =>
  have hin:∀ x ∈ c.args.toList,∀ T,val tb tm' T x=val tb tm T x:=fun x hx=>h x (by rw [hop];simp only [Op.operands,Call.operands,Array.toList_append];exact List.mem_append_right _ hx)
  have h0:c.args.toList.map (val tb tm' 0)=c.args.toList.map (val tb tm 0):=List.map_congr_left fun x hx=>hin x hx 0
  have hcal:∀ x,c.callee = .value x→oM tb ct tm' x (c.args.toList.map (val tb tm' 0))=oM tb ct tm x (c.args.toList.map (val tb tm 0)):=fun x hx=>by
   rw [h0]
   unfold oM
   rw [h x (by rw [hop];simp only [Op.operands,Call.operands,Array.toList_append,hx];exact List.mem_append_left _ (by simp)) 0]
  simp only [eM,reads,hop]
  refine ⟨?_,?_⟩
  · split
    · split
      · rename_i x t ha ht
        rw [hin x (by rw [ha];simp)]
      · rfl
    · split
      · rename_i d s t t' ha ht
        split
        · rw [hin d (by rw [ha];simp),hin s (by rw [ha];simp)]
        · rfl
      · rfl
    · rw [h0]
    · rw [h0]
    · rename_i x hc
      rw [hcal x hc]
    · rfl
  · rw [lE (f:=fun x=>bm (cellsOf (val tb tm' 0 x))) (g:=fun x=>bm (cellsOf (val tb tm 0 x))) fun x hx=>by rw [hin x hx]]
    congr 1
    split
    · rename_i x hc
      rw [hcal x hc]
    · rfl
 | slice t x lo hi mx =>
  have hx:=h x (by rw [hop];simp [Op.operands])
  have hl:lo.map (val tb tm' 0)=lo.map (val tb tm 0):=Dv fun y hy=>h y (by rw [hop];simp [Op.operands] at hy ⊢;simp [hy]) 0
  have hh:hi.map (val tb tm' 0)=hi.map (val tb tm 0):=Dv fun y hy=>h y (by rw [hop];simp [Op.operands] at hy ⊢;simp [hy]) 0
  cases mx <;> simp only [eM,reads,hop,hx,hl,hh] <;> exact ⟨trivial,trivial⟩
 | pick c x y =>
  have h1:=h c (by rw [hop];simp [Op.operands])
  have h2:=h x (by rw [hop];simp [Op.operands])
  have h3:=h y (by rw [hop];simp [Op.operands])
  simp only [eM,reads,hop,h1,h2,h3]
  exact ⟨trivial,trivial⟩
 | store t x y =>
  have h1:=h x (by rw [hop];simp [Op.operands])
  have h2:=h y (by rw [hop];simp [Op.operands])
  simp only [eM,reads,hop,h1,h2]
  exact ⟨trivial,trivial⟩
 | binOp op t x y u =>
  have h1:=h x (by rw [hop];simp [Op.operands])
  have h2:=h y (by rw [hop];simp [Op.operands])
  simp only [eM,reads,hop,h1,h2]
  exact ⟨trivial,trivial⟩
 | makeSlice t x y =>
  have h1:=h x (by rw [hop];simp [Op.operands])
  have h2:=h y (by rw [hop];simp [Op.operands])
  simp only [eM,reads,hop,h1,h2]
  exact ⟨trivial,trivial⟩
 | indexAddr t x y =>
  have h1:=h x (by rw [hop];simp [Op.operands])
  have h2:=h y (by rw [hop];simp [Op.operands])
  simp only [eM,reads,hop,h1,h2]
  exact ⟨trivial,trivial⟩
 | index t x y =>
  have h1:=h x (by rw [hop];simp [Op.operands])
  have h2:=h y (by rw [hop];simp [Op.operands])
  simp only [eM,reads,hop,h1,h2]
  exact ⟨trivial,trivial⟩
 | alloc t=>simp only [eM,reads,hop];exact ⟨trivial,trivial⟩
 | move x=>have h1:=h x (by rw [hop];simp [Op.operands]);simp only [eM,reads,hop,h1];exact ⟨trivial,trivial⟩
 | assign x=>have h1:=h x (by rw [hop];simp [Op.operands]);simp only [eM,reads,hop,h1];exact ⟨trivial,trivial⟩
 | box t x=>have h1:=h x (by rw [hop];simp [Op.operands]);simp only [eM,reads,hop,h1];exact ⟨trivial,trivial⟩
 | load t x=>have h1:=h x (by rw [hop];simp [Op.operands]);simp only [eM,reads,hop,h1];exact ⟨trivial,trivial⟩
 | nilCheck x=>have h1:=h x (by rw [hop];simp [Op.operands]);simp only [eM,reads,hop,h1];exact ⟨trivial,trivial⟩
 | unOp op t x=>have h1:=h x (by rw [hop];simp [Op.operands]);simp only [eM,reads,hop,h1];exact ⟨trivial,trivial⟩
 | convert s d x=>have h1:=h x (by rw [hop];simp [Op.operands]);simp only [eM,reads,hop,h1];exact ⟨trivial,trivial⟩
 | fieldAddr s x f=>have h1:=h x (by rw [hop];simp [Op.operands]);simp only [eM,reads,hop,h1];exact ⟨trivial,trivial⟩
 | field s x f=>have h1:=h x (by rw [hop];simp [Op.operands]);simp only [eM,reads,hop,h1];exact ⟨trivial,trivial⟩
 | extract x i=>have h1:=h x (by rw [hop];simp [Op.operands]);simp only [eM,reads,hop,h1];exact ⟨trivial,trivial⟩
 | _=>unfold eM reads;rw [hop];exact ⟨rfl,rfl⟩
end
def A8:ik→Nat→og→og
 | [],_,x=>x
 | u::us,r,x=>A8 us r (bif Nat.beq r u.1 then turn u.2 x else x)
theorem jp:∀ {us:ik} {hp:Hp} {r:Nat},applyF hp us r=A8 us r (hp r)
 | [],_,_=>rfl
 | u::us,hp,r=>by
  simp only [applyF,A8]
  exact jp (us:=us)
theorem tJ (x:og):A_ (A_ x)=A_ x:=by cases x <;> rfl
theorem CU (x:og):(∀ y,turn x y=A_ y)∨(∃ z,∀ y,turn x y=z):=by
 cases x
 · exact Or.inr ⟨_,fun _=>rfl⟩
 · exact Or.inr ⟨_,fun _=>rfl⟩
 · exact Or.inr ⟨_,fun _=>rfl⟩
 · exact Or.inl fun _=>rfl
theorem Ae:∀ (us:ik) (r:Nat) {x y:og},(y=x∨y=A_ x)→(A8 us r y=A8 us r x∨A8 us r y=A_ (A8 us r x))
 | [],_,_,_,h=>h
 | u::us,r,x,y,h=>by
  simp only [A8]
  cases Nat.beq r u.1 with
  | false=>exact Ae us r h
  | true =>
   simp only [cond_true]
   refine Ae us r ?_
   rcases CU u.2 with q | ⟨z,q⟩
   · rw [q,q]
     rcases h with rfl | rfl
     · exact Or.inl rfl
     · exact Or.inl (tJ _)
   · rw [q,q];exact Or.inl rfl
theorem ql:∀ {us:ik} {r:Nat},r ∉ us.map (·.1)→∀ x,A8 us r x=x
 | [],_,_,_=>rfl
 | u::us,r,h,x=>by
  simp only [List.map_cons,List.mem_cons,not_or] at h
  simp only [A8]
  have:Nat.beq r u.1=false:=by
   cases hb:Nat.beq r u.1 with
   | false=>rfl
   | true=>exact absurd (Nat.eq_of_beq_eq_true hb) h.1
  rw [this]
  exact ql h.2 x
theorem xf {u:Nat × og} {us:ik} {r:Nat} (h:r ∉ jI (u::us)):r ∉ jI us∧(r=u.1→∃ p e l,u.2 = .fro p e l):=by
 obtain ⟨s,x⟩:=u
 cases x <;> simp_all [jI]
theorem pq:∀ {us:ik} {r:Nat},r ∉ jI us→(∀ x,A8 us r x=x)∨(∀ x,A8 us r x=A_ x)
 | [],_,_=>Or.inl fun _=>rfl
 | u::us,r,h=>by
  obtain ⟨h1,h2⟩:=xf h
  simp only [A8]
  cases hb:Nat.beq r u.1 with
  | false=>exact pq h1
  | true =>
   simp only [cond_true]
   obtain ⟨p,e,l,q⟩:=h2 (Nat.eq_of_beq_eq_true hb)
   rw [q]
   right
   intro x
   rcases pq h1 with g | g
   · rw [g];rfl
   · rw [g];exact tJ x
theorem Ei:∀ {us:ik} {r:Nat},r ∈ jI us→r ∈ us.map (·.1)
 | [],_,h=>by cases h
 | (s,x)::us,r,h=>by
  have ih:=Ei (us:=us) (r:=r)
  cases x <;> simp_all [jI] <;> grind
theorem FY {us vs:ik} {r:Nat} (h1:∀ r ∈ jI us,r ∉ vs.map (·.1)) (h2:∀ r ∈ jI vs,r ∉ us.map (·.1)) (x:og):A8 vs r (A8 us r x)=A8 us r (A8 vs r x):=by
 by_cases a:r ∈ jI us
 · rw [ql (h1 r a),ql (h1 r a)]
 · by_cases b:r ∈ jI vs
   · rw [ql (h2 r b),ql (h2 r b)]
   · rcases pq a with p | p <;> rcases pq b with q | q <;> simp [p,q]
theorem sZ:∀ {us:ik} {hp:Hp},pP us→applyF hp us=apply hp us
 | [],_,_=>rfl
 | u::us,hp,h=>by
  simp only [applyF,apply]
  have e:(fun n=>bif Nat.beq n u.1 then turn u.2 (hp n) else hp n)=jL hp u.1 u.2:=by
   funext n
   simp only [jL]
   have h0:=h u.1 u.2 (List.mem_cons_self ..)
   obtain ⟨s,x⟩:=u
   cases x <;> first | rfl | exact absurd rfl (h0 _ _ _)
  rw [e]
  exact sZ fun r x hx=>h r x (List.mem_cons_of_mem _ hx)
theorem wX:∀ {us:ik} {hp:Hp},Ad hp us→applyF hp us=apply hp us
 | [],_,_=>rfl
 | (r,x)::us,hp,h=>by
  obtain ⟨p,e,l,rfl,hr⟩:=h r x (List.mem_cons_self ..)
  simp only [applyF,apply]
  have e':(fun n=>bif Nat.beq n r then turn (.fro p e l) (hp n) else hp n)=jL hp r (.fro p e l):=by
   funext n
   simp only [jL]
   cases hb:Nat.beq n r with
   | false=>rfl
   | true =>
    simp only [cond_true]
    rw [Nat.eq_of_beq_eq_true hb]
    rcases hr with q | q <;> rw [q] <;> rfl
  rw [e']
  exact wX h.tail
theorem tC:∀ (us0:ik) {hp:Hp} {us1:ik},apply hp (us0++us1)=apply (apply hp us0) us1
 | [],_,_=>rfl
 | u::us,hp,us1=>tC us
theorem rA:∀ (us0:ik) {hp:Hp} {us1:ik},applyF hp (us0++us1)=applyF (applyF hp us0) us1
 | [],_,_=>rfl
 | u::us,hp,us1=>rA us
theorem gH.applyF {hp:Hp} {id nx:Nat} {us:ik} (h:gH hp id us nx):applyF hp us=apply hp us:=by
 obtain ⟨_,us0,us1,rfl,h0,h1⟩:=h
 rw [rA,tC,wX h0,sZ h1]
end Go.V
end
section
set_option linter.unusedVariables false
set_option linter.unusedSimpArgs false
namespace Go.V
open Go.RowKit
structure G where
 i:Nat
 go:Bool
 us:ik
 rd:List Nat
 A:List Nat
 dst:Option Nat
 v:AV
 nm:List Nat
 id:Nat
 nx:Nat
def rep (hp:Hp) (D:Nat→Bool):List G→Hp
 | []=>hp
 | g::gs=>bif D g.i then applyF (rep hp D gs) g.us else rep hp D gs
def iF (tm:List AV) (D:Nat→Bool):List G→List AV
 | []=>tm
 | g::gs=>bif D g.i then mG (iF tm D gs) g.dst g.v else iF tm D gs
structure Jn (g' g:G):Prop where
 a:∀ r ∈ jI g.us,r ∉ g'.rd
 b:∀ r ∈ jI g'.us,r ∉ g.rd
 c:∀ r ∈ g.us.map (·.1),r ∉ jI g'.us
 d:∀ r ∈ jI g.us,r ∉ g'.us.map (·.1)
structure EN (g' g:G):Prop where
 e:∀ t ∈ g.dst.toList,t ∉ g'.dst.toList++g'.nm
 f:∀ t ∈ g'.dst.toList,t ∉ g.nm
section
variable {hp:Hp} {tm:List AV} {D D':Nat→Bool}
theorem qZ {r:Nat}:∀ {gs:List G},(∀ g ∈ gs,r ∈ g.us.map (·.1)→D g.i=D' g.i)→rep hp D gs r=rep hp D' gs r
 | [],_=>rfl
 | g::gs,h=>by
  have ih:=qZ (gs:=gs) fun g' hg=>h g' (List.mem_cons_of_mem _ hg)
  simp only [rep]
  by_cases hr:r ∈ g.us.map (·.1)
  · rw [h g (List.mem_cons_self ..) hr]
    cases D' g.i with
    | true=>simp only [cond_true,jp,ih]
    | false=>exact ih
  · have e:∀ (b:Bool) (x:Hp),(bif b then applyF x g.us else x) r=x r:=fun b x=>by
     cases b with
     | true=>simp only [cond_true,jp,ql hr]
     | false=>rfl
    rw [e,e,ih]
theorem E_ {r:Nat}:∀ {gs:List G},(∀ g ∈ gs,D g.i=D' g.i∨(D g.i=true∧r ∉ jI g.us))→rep hp D gs r=rep hp D' gs r∨rep hp D gs r=A_ (rep hp D' gs r)
 | [],_=>Or.inl rfl
 | g::gs,h=>by
  have ih:=E_ (gs:=gs) fun g' hg=>h g' (List.mem_cons_of_mem _ hg)
  simp only [rep]
  cases h1:D g.i with
  | true =>
   cases h2:D' g.i with
   | true =>
    simp only [cond_true,jp]
    exact Ae _ _ ih
   | false =>
    rcases h g (List.mem_cons_self ..) with q | ⟨_,q⟩
    · rw [h1,h2] at q;cases q
    · simp only [cond_true,cond_false,jp]
      rcases pq q with e | e
      · rw [e];exact ih
      · rw [e]
        rcases ih with g1 | g1
        · rw [g1];exact Or.inr rfl
        · rw [g1,tJ];exact Or.inr rfl
  | false =>
   cases h2:D' g.i with
   | true =>
    rcases h g (List.mem_cons_self ..) with q | ⟨q,_⟩
    · rw [h1,h2] at q;cases q
    · rw [h1] at q;cases q
   | false=>exact ih
theorem GM {l:List AV} {d:Option Nat} {v:AV}:(mG l d v).length=l.length:=by cases d <;> simp [mG]
theorem s6:∀ {gs:List G},(iF tm D gs).length=tm.length
 | []=>rfl
 | g::gs=>by
  simp only [iF]
  cases D g.i with
  | true=>rw [cond_true,GM];exact s6
  | false=>exact s6
theorem Ec {l l':List AV} {d:Option Nat} {v:AV} {t:Nat} (hl:l.length=l'.length) (h:l.getD t .junk=l'.getD t .junk):(mG l d v).getD t .junk=(mG l' d v).getD t .junk:=by
 cases d with
 | none=>exact h
 | some d =>
  simp only [mG,List.getD,List.getElem?_set,hl] at h ⊢
  split
  · split <;> rfl
  · exact h
theorem Cw {l:List AV} {d:Option Nat} {v:AV} {t:Nat} (h:d≠some t):(mG l d v).getD t .junk=l.getD t .junk:=by
 cases d with
 | none=>rfl
 | some d =>
  have:d≠t:=fun q=>h (by rw [q])
  simp [mG,List.getD,List.getElem?_set_ne this]
theorem wC {t:Nat}:∀ {gs:List G},(∀ g ∈ gs,g.dst=some t→D g.i=D' g.i)→(iF tm D gs).getD t .junk=(iF tm D' gs).getD t .junk
 | [],_=>rfl
 | g::gs,h=>by
  have ih:=wC (gs:=gs) fun g' hg=>h g' (List.mem_cons_of_mem _ hg)
  simp only [iF]
  by_cases hr:g.dst=some t
  · rw [h g (List.mem_cons_self ..) hr]
    cases D' g.i with
    | true =>
     simp only [cond_true]
     exact Ec (by rw [s6,s6]) ih
    | false=>exact ih
  · have e:∀ (b:Bool) (x:List AV),(bif b then mG x g.dst g.v else x).getD t .junk=x.getD t .junk:=fun b x=>by
     cases b with
     | true=>exact Cw hr
     | false=>rfl
    rw [e,e,ih]
def mP (D:Nat→Bool) (i:Nat):Nat→Bool:=fun j=>bif Nat.beq j i then true else D j
theorem qc {i:Nat}:mP D i i=true:=by simp [mP]
theorem mi {i j:Nat} (h:j≠i):mP D i j=D j:=by
 have:Nat.beq j i=false:=by
  cases hb:Nat.beq j i with
  | false=>rfl
  | true=>exact absurd (Nat.eq_of_beq_eq_true hb) h
 simp [mP,this]
theorem HC {gs:List G} (h:∀ g ∈ gs,D g.i=D' g.i):rep hp D gs=rep hp D' gs:=funext fun r=>qZ fun g hg _=>h g hg
theorem s9:∀ {gs:List G},(∀ g ∈ gs,D g.i=D' g.i)→iF tm D gs=iF tm D' gs
 | [],_=>rfl
 | g::gs,h=>by
  simp only [iF]
  rw [h g (List.mem_cons_self ..),s9 fun g' hg=>h g' (List.mem_cons_of_mem _ hg)]
theorem Di {g:G} {r:Nat}:∀ {gs:List G},gs.Pairwise (fun x y=>y.i<x.i)→g ∈ gs→D g.i=false →
 (∀ h ∈ gs,g.i<h.i→D h.i=true→(∀ r ∈ jI g.us,r ∉ h.us.map (·.1))∧(∀ r ∈ jI h.us,r ∉ g.us.map (·.1)))→rep hp (mP D g.i) gs r=A8 g.us r (rep hp D gs r)
 | [],_,hg,_,_=>by cases hg
 | h::gs,hp',hg,hD,hc=>by
  rw [List.pairwise_cons] at hp'
  simp only [rep]
  rcases List.mem_cons.1 hg with q | q
  · subst q
    rw [qc,hD,cond_true,cond_false,jp]
    congr 1
    exact qZ fun g' hg' _=>mi (Nat.ne_of_lt (hp'.1 g' hg'))
  · have hlt:=hp'.1 g q
    rw [mi (Nat.ne_of_gt hlt)]
    have ih:=Di (r:=r) hp'.2 q hD fun h' hh'=>hc h' (List.mem_cons_of_mem _ hh')
    cases hb:D h.i with
    | false=>exact ih
    | true =>
     simp only [cond_true,jp]
     rw [ih]
     obtain ⟨c1,c2⟩:=hc h (List.mem_cons_self ..) hlt hb
     exact FY c1 c2 _
theorem F8 {l:List AV} {d e:Option Nat} {u v:AV} (h:∀ t ∈ d.toList,t ∉ e.toList):mG (mG l d u) e v=mG (mG l e v) d u:=by
 cases d with
 | none=>rfl
 | some d =>
  cases e with
  | none=>rfl
  | some e =>
   have:d≠e:=fun q=>h d (by simp) (by simp [q])
   exact List.set_comm _ _ this
theorem Bo {g:G}:∀ {gs:List G},gs.Pairwise (fun x y=>y.i<x.i)→g ∈ gs→D g.i=false →
 (∀ h ∈ gs,g.i<h.i→D h.i=true→∀ t ∈ h.dst.toList,t ∉ g.dst.toList)→iF tm (mP D g.i) gs=mG (iF tm D gs) g.dst g.v
 | [],_,hg,_,_=>by cases hg
 | h::gs,hp',hg,hD,hc=>by
  rw [List.pairwise_cons] at hp'
  simp only [iF]
  rcases List.mem_cons.1 hg with q | q
  · subst q
    rw [qc,hD,cond_true,cond_false]
    congr 1
    exact s9 fun g' hg'=>mi (Nat.ne_of_lt (hp'.1 g' hg'))
  · have hlt:=hp'.1 g q
    rw [mi (Nat.ne_of_gt hlt)]
    have ih:=Bo hp'.2 q hD fun h' hh'=>hc h' (List.mem_cons_of_mem _ hh')
    cases hb:D h.i with
    | false=>exact ih
    | true =>
     simp only [cond_true]
     rw [ih]
     exact (F8 (hc h (List.mem_cons_self ..) hlt hb)).symm
end
def lj:List G→List Jt
 | []=>[]
 | g::gs=>bif g.go then ⟨g.i,g.us,g.rd⟩::lj gs else lj gs
theorem rl {hp:Hp} {a:List Nat}:∀ {gs:List G},(∀ g ∈ gs,g.go=false→g.us=[])→oq hp a (lj gs)=rep hp (j0 a) gs
 | [],_=>rfl
 | g::gs,h=>by
  have ih:=rl (hp:=hp) (a:=a) (gs:=gs) fun g' hg=>h g' (List.mem_cons_of_mem _ hg)
  simp only [lj,rep]
  cases hg:g.go with
  | true=>simp only [cond_true,oq,ih]
  | false =>
   rw [h g (List.mem_cons_self ..) hg]
   simp only [cond_false,applyF,ih]
   cases j0 a g.i <;> rfl
theorem r_ {hp:Hp}:∀ {gs:List G},(∀ g ∈ gs,g.go=false→g.us=[])→qi hp (lj gs)=rep hp (fun _=>true) gs
 | [],_=>rfl
 | g::gs,h=>by
  have ih:=r_ (hp:=hp) (gs:=gs) fun g' hg=>h g' (List.mem_cons_of_mem _ hg)
  simp only [lj,rep]
  cases hg:g.go with
  | true=>simp only [cond_true,qi,ih]
  | false =>
   rw [h g (List.mem_cons_self ..) hg]
   simp only [cond_false,cond_true,applyF,ih]
theorem wG {a:List Nat} {us:ik} {rd:List Nat}:∀ {gs:List G},Hq a us rd (lj gs)=true→∀ g' ∈ gs,g'.go=true→j0 a g'.i=true ∨
 ((∀ r ∈ jI us,r ∉ g'.rd)∧(∀ r ∈ jI g'.us,r ∉ rd)∧(∀ r ∈ us.map (·.1),r ∉ jI g'.us)∧(∀ r ∈ jI us,r ∉ g'.us.map (·.1)))
 | [],_,_,hg,_=>by cases hg
 | g::gs,h,g',hg,hgo=>by
  simp only [lj] at h
  cases hgg:g.go with
  | false =>
   rw [hgg,cond_false] at h
   rcases List.mem_cons.1 hg with q | q
   · subst q;rw [hgg] at hgo;cases hgo
   · exact wG h g' q hgo
  | true =>
   rw [hgg,cond_true] at h
   simp only [Hq] at h
   cases hc:(j0 a g.i||(kN (jI us) g.rd&&kN (jI g.us) rd&&kN (us.map (·.1)) (jI g.us)&&kN (jI us) (g.us.map (·.1)))) with
   | false=>rw [hc] at h;cases h
   | true =>
    rw [hc,cond_true] at h
    rcases List.mem_cons.1 hg with q | q
    · subst q
      simp only [Bool.or_eq_true,Bool.and_eq_true,ri] at hc
      rcases hc with q | ⟨⟨⟨q1,q2⟩,q3⟩,q4⟩
      · exact Or.inl q
      · exact Or.inr ⟨q1,q2,q3,q4⟩
    · exact wG h g' q hgo
end Go.V
end

/- V: soundness, part 6 of 10. -/
import Derived.Test.YtohaanhjddohmaaGreatDoorVS5
section
set_option linter.unusedVariables false
set_option linter.unusedSimpArgs false
namespace Go.V
open Go.RowKit
def lL (L:List Nat) (A B:Hp):Prop:=∀ r ∈ L,B r=A r∨∃ p e l,A r = .own p e l∧B r = .fro p e l
theorem Bb:∀ {cs:List AV} {r:Nat},r ∈ c_ cs↔(AV.ref r ∈ cs∨∃ i f,AV.ptr r i f ∈ cs)
 | [],r=>by simp [c_]
 | c::cs,r=>by
  have ih:=Bb (cs:=cs) (r:=r)
  cases c <;> simp [c_,ih,List.mem_cons] <;> grind
theorem lL.sub {L M:List Nat} {A B:Hp} (h:lL L A B) (hs:∀ r ∈ M,r ∈ L):lL M A B:=fun r hr=>h r (hs r hr)
theorem qv {cs ds:List AV} (h:∀ c ∈ ds,c ∈ cs):∀ r ∈ c_ ds,r ∈ c_ cs:=fun r hr=>by
 rw [Bb] at hr ⊢
 rcases hr with q | ⟨i,f,q⟩
 · exact Or.inl (h _ q)
 · exact Or.inr ⟨i,f,h _ q⟩
theorem qU:∀ {us:jJ} {r:Nat} {x:pQ},(r,x) ∈ us→(∀ p e l,x ≠ .fro p e l)→r ∈ jm us
 | [],_,_,h,_=>by cases h
 | (s,y)::us,r,x,h,hx=>by
  unfold jm
  rcases List.mem_cons.1 h with q | q
  · cases q
    split
    · rename_i q;cases q
    · rename_i q;cases q;exact absurd rfl (hx _ _ _)
    · rename_i q;cases q;exact List.mem_cons_self ..
  · have:=qU q hx
    split
    · rename_i q;cases q
    · rename_i q;cases q;exact this
    · rename_i q;cases q;exact List.mem_cons_of_mem _ this
section
variable {A B:Hp}
theorem qf {e:Ty} {c:AV} (h:lL (c_ [c]) A B):getSl B e c=getSl A e c:=by
 cases c <;> try rfl
 rename_i r
 simp only [getSl]
 rcases h r (by simp [c_]) with q | ⟨p,e',l,q1,q2⟩
 · rw [q]
 · rw [q1,q2]
theorem kZ:∀ {t:Ty} {cs:List AV},lL (c_ cs) A B→prj B t cs=prj A t cs
 | .bool,_,_=>rfl
 | .int _,_,_=>rfl
 | .str,_,_=>rfl
 | .slice e,cs,h=>by
  simp only [prj,sd]
  split
  · exact qf h
  · rfl
 | .pair a b,cs,h=>by
  simp only [prj]
  rw [kZ (t:=a) (h.sub (qv fun c hc=>List.mem_of_mem_take hc)),kZ (t:=b) (h.sub (qv fun c hc=>List.mem_of_mem_drop hc))]
 | .unit,_,_=>rfl
 | .opq,_,_=>rfl
theorem A9 {c:AV} (h:lL (c_ [c]) A B):taint1 B c=taint1 A c:=by
 cases c <;> try rfl
 rename_i r
 simp only [taint1]
 rcases h r (by simp [c_]) with q | ⟨p,e',l,q1,q2⟩
 · rw [q]
 · rw [q1,q2]
theorem mf:∀ {cs:List AV},lL (c_ cs) A B→taint B cs=taint A cs
 | [],_=>rfl
 | c::cs,h=>by
  simp only [taint]
  rw [A9 (h.sub (qv fun d hd=>by simp at hd;subst hd;exact List.mem_cons_self ..)),mf (h.sub (qv fun d hd=>List.mem_cons_of_mem _ hd))]
theorem lg:∀ {cs:List AV},lL (c_ cs) A B→freeze B cs=freeze A cs
 | [],_=>rfl
 | c::cs,h=>by
  have ih:=lg (cs:=cs) (h.sub (qv fun d hd=>List.mem_cons_of_mem _ hd))
  cases c <;> try exact ih
  rename_i r
  simp only [freeze,ih]
  rcases h r (by simp [c_]) with q | ⟨p,e',l,q1,q2⟩
  · rw [q]
  · rw [q1,q2]
theorem Fx {R:Type} {t:Ty} {a:AV} {k:AV→Option R} (h:lL (c_ (cellsOf a)) A B):ld B t a k=ld A t a k:=by
 cases a <;> try rfl
 rename_i r i off
 simp only [ld]
 rcases h r (by simp [c_,cellsOf]) with q | ⟨p,e',l,q1,q2⟩
 · rw [q]
 · rw [q1,q2]
theorem yb {t:Ty} {a v:AV} {us:jJ} (hs:kf A t a v some=some us) (h1:lL (c_ (cellsOf a)) A B) (h2:lL (c_ (cellsOf v)) A B) (hh:∀ r ∈ jm us,r ∈ c_ (cellsOf a)→B r=A r):kf B t a v some=some us:=by
 unfold kf at hs ⊢
 obtain ⟨hc,hs⟩:=aL hs
 rw [hc,cond_true]
 split at hs
 · rename_i r i off _
   split at hs
   · rename_i cs hr
     obtain ⟨hle,hs⟩:=aL hs
     cases hs
     rw [hh r (qU (List.mem_singleton.2 rfl) (fun _ _ _ q=>by cases q)) (by simp [c_,cellsOf]),hr]
     simp only [hle,cond_true]
   · rename_i p e l hr
     obtain ⟨hn,hs⟩:=py hs
     split at hs
     · rename_i y hy
       split at hs
       · rename_i z hz
         cases hs
         rw [hh r (qU (List.mem_append_right _ (List.mem_singleton.2 rfl)) (fun _ _ _ q=>by cases q)) (by simp [c_,cellsOf]),hr]
         simp only [hn,cond_false,kZ h2,hy,hz,lg h2,mf h2]
       · cases hs
     · cases hs
   · cases hs
 · cases hs
theorem vT {R:Type} {tb:lX} {t:Nat} {x i:AV} {k:AV→Option R} (h:lL (c_ (cellsOf x)) A B):indexAddr tb B t x i k=indexAddr tb A t x i k:=by
 unfold indexAddr
 split
 · cases x <;> try rfl
   rename_i r
   simp only []
   rcases h r (by simp [c_,cellsOf]) with q | ⟨p,e',l,q1,q2⟩
   · rw [q]
   · rw [q1,q2]
 · rfl
theorem yW {R:Type} {u:Ty} {x:AV} {lo hi:Option AV} {k:AV→jJ→Option R} (h:lL (c_ (cellsOf x)) A B):kW u B x lo hi k=kW u A x lo hi k:=by
 cases x with
 | ref r =>
  cases u <;> try rfl
  simp only [kW]
  rcases h r (by simp [c_,cellsOf]) with q | ⟨p,e',l,q1,q2⟩
  · rw [q]
  · rw [q1,q2]
 | _=>cases u <;> rfl
theorem Bl {R:Type} {u:Ty} {x:AV} {k:AV→Option R} (h:lL (c_ (cellsOf x)) A B):lenOf u B x k=lenOf u A x k:=by
 cases x with
 | ref r =>
  cases u <;> try rfl
  simp only [lenOf]
  rcases h r (by simp [c_,cellsOf]) with q | ⟨p,e',l,q1,q2⟩
  · rw [q]
  · rw [q1,q2]
 | _=>cases u <;> rfl
theorem wL {c:AV}:∀ r ∈ c_ [c],r ∈ c_ (cellsOf c):=by
 intro r hr
 cases c <;> simp_all [c_,cellsOf]
theorem wy {e:Ty} {id:Nat} {d s v:AV} {us:jJ} (hs:jU e A id d s (fun v us=>some (v,us))=some (v,us)) (h1:lL (c_ (cellsOf d)) A B) (h2:lL (c_ (cellsOf s)) A B) (hh:∀ r ∈ jm us,r ∈ c_ (cellsOf d)→B r=A r) :
 jU e B id d s (fun v us=>some (v,us))=some (v,us):=by
 unfold jU at hs ⊢
 have h2':=h2.sub wL
 rw [qf h2']
 split at hs
 · cases hs
 · split at hs
   · rw [mf h2'];exact hs
   · rename_i r
     split at hs
     · rename_i p t l hr
       split at hs
       · rename_i ld hld
         obtain ⟨hle,hs⟩:=aL hs
         cases hs
         have hB:B r=A r:=hh r (qU (List.mem_cons_self ..) (fun _ _ _ q=>by cases q)) (by simp [c_,cellsOf])
         rw [hB,hr]
         simp only [hld,hle,cond_true,mf h2']
       · cases hs
     · cases hs
   · cases hs
theorem Dr:∀ {ts:List Ty} {vs:List AV},(∀ v ∈ vs,lL (c_ (cellsOf v)) A B)→args B ts vs=args A ts vs
 | [],[],_=>rfl
 | [],_::_,_=>rfl
 | _::_,[],_=>rfl
 | t::ts,v::vs,h=>by
  simp only [args]
  rw [kZ (h v (List.mem_cons_self ..)),Dr fun u hu=>h u (List.mem_cons_of_mem _ hu)]
theorem vE {e:Ty} {ρ:Operand→AV}:∀ {ps:List (Nat × Operand)} {l:List e.den} {b:Bool},(∀ p ∈ ps,lL (c_ (cellsOf (ρ p.2))) A B)→elems B e ρ ps l b=elems A e ρ ps l b
 | [],_,_,_=>rfl
 | (i,x)::ps,l,b,h=>by
  have h0:lL (c_ (cellsOf (ρ x))) A B:=h (i,x) (List.mem_cons_self ..)
  simp only [elems]
  rw [kZ h0,mf h0]
  split
  · rw [vE fun p hp=>h p (List.mem_cons_of_mem _ hp)]
  · rfl
theorem BQ {v:AV} (h:lL (c_ [v]) A B):qH B v=qH A v:=by
 cases v <;> try rfl
 rename_i r i f
 simp only [qH]
 rcases h r (by simp [c_]) with q | ⟨p,e,l,q1,q2⟩
 · rw [q]
 · rw [q1,q2]
theorem lw:∀ {cs:List AV},(∀ r ∈ c_ cs,B r=A r)→eU B cs=eU A cs
 | [],_=>rfl
 | c::cs,h=>by
  cases c <;> simp only [eU] <;> first
   | rfl
   | exact lw (cs:=cs) h
   | (rw [h _ (by simp [c_]),lw (cs:=cs) fun r q=>h r (by simp [c_,q])])
theorem uf {hp:Hp} {p:Bool}:∀ {t:Ty} {x y:t.den} {cs:List AV},prj hp t cs=some x→eU hp cs=true→(o9 p t y cs).map (·.1)=c_ cs
 | .bool,x,y,cs,hx,hf=>by
  simp only [prj] at hx
  unfold tf at hx
  split at hx
  · rfl
  · cases hx
 | .int k,x,y,cs,hx,hf=>by
  simp only [prj] at hx
  unfold x_ at hx
  split at hx
  · rfl
  · cases hx
 | .str,x,y,cs,hx,hf=>by
  simp only [prj] at hx
  unfold yC at hx
  split at hx
  · rfl
  · cases hx
 | .unit,x,y,cs,hx,hf=>by
  simp only [prj] at hx
  unfold tM at hx
  split at hx
  · rfl
  · cases hx
 | .opq,x,y,cs,hx,hf=>by cases hx
 | .pair s t,x,y,cs,hx,hf=>by
  simp only [prj] at hx
  obtain ⟨h1,h2⟩:=cP hx
  have app:∀ cs ds:List AV,eU hp (cs++ds)=true→eU hp cs=true∧eU hp ds=true:=by
   intro cs ds
   induction cs with
   | nil=>exact fun q=>⟨rfl,q⟩
   | cons c cs ih =>
    intro q
    cases c <;> simp only [List.cons_append,eU,Bool.and_eq_true] at q ⊢ <;> first | (cases q;done) | (exact ih q) | (exact ⟨⟨q.1,(ih q.2).1⟩,(ih q.2).2⟩)
  obtain ⟨f1,f2⟩:=app (cs.take s.size) (cs.drop s.size) (by rw [List.take_append_drop];exact hf)
  show (o9 p s y.1 _++o9 p t y.2 _).map (·.1)=_
  rw [List.map_append,uf h1 f1,uf h2 f2,← qp]
 | .slice e,x,y,cs,hx,hf=>by
  simp only [prj] at hx
  unfold sd at hx
  split at hx
  · rename_i c
    cases c <;> first | rfl | (simp [getSl] at hx;done) | (simp [eU] at hf;done)
  · cases hx
theorem nP {hp:Hp} {al:Bool}:∀ {A:List Pm} {vs:List AV} {x:(tup (mq A)).den} {y:(tup (gU A)).den} {id:Nat},ez hp A vs=some x→∀ r ∈ m0 hp A vs,r ∈ (jH hp al A vs y id).map (·.1)
 | [],_,_,_,_,_,r,hr=>by cases hr
 | .val t::A,vs,x,y,id,hx,r,hr=>by
  cases vs with
  | nil=>simp only [ez] at hx;cases hx
  | cons v vs =>
   simp only [ez] at hx
   exact nP (A:=A) (cP (aL hx).2).2 r hr
 | .lend t::A,vs,x,y,id,hx,r,hr=>by
  cases vs with
  | nil=>simp only [ez] at hx;cases hx
  | cons v vs =>
   simp only [ez] at hx
   have h1:=aL hx
   have h2:=cP h1.2
   simp only [m0,List.headD_cons,List.tail_cons,List.mem_append] at hr
   simp only [jH,List.headD_cons,List.tail_cons,List.map_append,List.mem_append]
   rcases hr with q | q
   · left
     rw [uf h2.1 (Bool.and_eq_true _ _▸h1.1:_∧_).2]
     exact q
   · exact Or.inr (nP (A:=A) h2.2 r q)
 | .give t::A,vs,x,y,id,hx,r,hr=>by
  cases vs with
  | nil=>simp only [ez] at hx;cases hx
  | cons v vs =>
   simp only [ez] at hx
   have h1:=aL hx
   have h2:=cP h1.2
   simp only [m0,List.headD_cons,List.tail_cons,List.mem_append] at hr
   simp only [jH,List.headD_cons,List.tail_cons,List.map_append,List.mem_append]
   rcases hr with q | q
   · left;rw [pu];exact q
   · exact Or.inr (nP (A:=A) h2.2 r q)
 | .fn f n::A,vs,x,y,id,hx,r,hr=>nP (A:=A) hx r hr
 | .io o t::A,vs,x,y,id,hx,r,hr=>by
  cases vs with
  | nil=>simp only [ez] at hx;cases hx
  | cons v vs =>
   simp only [ez] at hx
   split at hx
   · rename_i cs hcs
     obtain ⟨r0,hv,hrow⟩:=q_ hcs
     subst hv
     obtain ⟨ho,hx⟩:=aL hx
     simp only [m0,List.headD_cons,List.tail_cons,hcs,Option.getD_some,c_,List.cons_append,List.nil_append,List.mem_cons,List.mem_append] at hr
     cases o with
     | true =>
      simp only [jH,List.headD_cons,List.tail_cons,hcs,Option.getD_some,cond_true,zp,List.map_append,List.map_cons,List.mem_append,List.mem_cons,pu]
      rcases hr with q | q | q
      · exact Or.inr (Or.inl q)
      · exact Or.inl q
      · exact Or.inr (Or.inr (Or.inr (nP (A:=A) (cP hx).2 r q)))
     | false =>
      simp only [jH,List.headD_cons,List.tail_cons,hcs,Option.getD_some,cond_false,zp,List.map_cons,List.mem_cons]
      rcases hr with q | q | q
      · exact Or.inl q
      · cases q
      · exact Or.inr (nP (A:=A) (cP hx).2 r q)
   · cases hx
theorem kN:∀ {Q:List Pm} {vs:List AV} {x:(tup (mq Q)).den},ez A Q vs=some x→lL (m0 A Q vs++qP A Q vs) A B→(∀ r ∈ m0 A Q vs,B r=A r) →
 ez B Q vs=some x∧m0 B Q vs=m0 A Q vs∧qP B Q vs=qP A Q vs∧∀ al y id,jH B al Q vs y id=jH A al Q vs y id
 | [],vs,x,hx,_,_=>⟨hx,rfl,rfl,fun _ _ _=>rfl⟩
 | .val t::Q,vs,x,hx,hf,hh=>by
  cases vs with
  | nil=>simp only [ez] at hx;cases hx
  | cons v vs =>
   simp only [ez] at hx ⊢
   simp only [m0,qP,List.headD_cons,List.tail_cons] at hf hh ⊢
   have h1:=aL hx
   have h2:=cP h1.2
   obtain ⟨g1,g2,g3,g4⟩:=kN (Q:=Q) h2.2 (hf.sub fun r q=>by
    rcases List.mem_append.1 q with q | q
    · exact List.mem_append_left _ q
    · exact List.mem_append_right _ (List.mem_append_right _ q)) hh
   refine ⟨?_,g2,by rw [g3],fun al y id=>g4 al y id⟩
   rw [kZ (hf.sub fun r q=>List.mem_append_right _ (List.mem_append_left _ q)),h2.1,g1,h1.1]
   rfl
 | .lend t::Q,vs,x,hx,hf,hh=>by
  cases vs with
  | nil=>simp only [ez] at hx;cases hx
  | cons v vs =>
   simp only [ez] at hx ⊢
   simp only [m0,qP,List.headD_cons,List.tail_cons] at hf hh ⊢
   have h1:=aL hx
   have h2:=cP h1.2
   obtain ⟨g1,g2,g3,g4⟩:=kN (Q:=Q) h2.2 (hf.sub fun r q=>by
    rcases List.mem_append.1 q with q | q
    · exact List.mem_append_left _ (List.mem_append_right _ q)
    · exact List.mem_append_right _ q) (fun r q=>hh r (List.mem_append_right _ q))
   refine ⟨?_,by rw [g2],g3,fun al y id=>by simp only [jH,List.headD_cons,List.tail_cons,g4]⟩
   rw [lw fun r q=>hh r (List.mem_append_left _ q),kZ (hf.sub fun r q=>List.mem_append_left _ (List.mem_append_left _ q)),h2.1,g1,h1.1]
   rfl
 | .give t::Q,vs,x,hx,hf,hh=>by
  cases vs with
  | nil=>simp only [ez] at hx;cases hx
  | cons v vs =>
   simp only [ez] at hx ⊢
   simp only [m0,qP,List.headD_cons,List.tail_cons] at hf hh ⊢
   have h1:=aL hx
   have h2:=cP h1.2
   obtain ⟨g1,g2,g3,g4⟩:=kN (Q:=Q) h2.2 (hf.sub fun r q=>by
    rcases List.mem_append.1 q with q | q
    · exact List.mem_append_left _ (List.mem_append_right _ q)
    · exact List.mem_append_right _ q) (fun r q=>hh r (List.mem_append_right _ q))
   refine ⟨?_,by rw [g2],g3,fun al y id=>congrArg (rB (c_ (cellsOf v))++·) (g4 al y id)⟩
   rw [lw fun r q=>hh r (List.mem_append_left _ q),kZ (hf.sub fun r q=>List.mem_append_left _ (List.mem_append_left _ q)),h2.1,g1,h1.1]
   rfl
 | .fn f n::Q,vs,x,hx,hf,hh=>kN (Q:=Q) hx hf hh
 | .io o t::Q,vs,x,hx,hf,hh=>by
  cases vs with
  | nil=>simp only [ez] at hx;cases hx
  | cons v vs =>
   have hbx:qH B v=qH A v:=BQ (hf.sub fun r q=>List.mem_append_left _ (by simp only [m0,List.headD_cons];exact List.mem_append_left _ q))
   simp only [ez,hbx] at hx ⊢
   cases hcs:qH A v with
   | none=>rw [hcs] at hx;cases hx
   | some cs =>
    rw [hcs] at hx
    simp only [] at hx ⊢
    simp only [m0,qP,List.headD_cons,List.tail_cons,hbx,hcs,Option.getD_some] at hf hh ⊢
    have h1:=aL hx
    have h2:=cP h1.2
    obtain ⟨g1,g2,g3,g4⟩:=kN (Q:=Q) h2.2 (hf.sub fun r q=>by
     rcases List.mem_append.1 q with q | q
     · exact List.mem_append_left _ (List.mem_append_right _ (List.mem_append_right _ q))
     · exact List.mem_append_right _ (List.mem_append_right _ q)) (fun r q=>hh r (List.mem_append_right _ (List.mem_append_right _ q)))
    have hcf:lL (c_ cs) A B:=hf.sub fun r q=>by
     cases o with
     | true=>exact List.mem_append_left _ (List.mem_append_right _ (List.mem_append_left _ q))
     | false=>exact List.mem_append_right _ (List.mem_append_left _ q)
    have hfo:(!o||eU B cs)=(!o||eU A cs):=by
     cases o with
     | true=>rw [lw fun r q=>hh r (List.mem_append_right _ (List.mem_append_left _ q))]
     | false=>rfl
    refine ⟨?_,by rw [g2],by rw [g3],fun al y id=>by simp only [jH,List.headD_cons,List.tail_cons,hbx,g4]⟩
    rw [hfo,kZ hcf,h2.1,g1,h1.1]
    rfl
theorem Bg {c:Cn} {id nx:Nat} {as:List AV} {v:AV} {us:jJ} (hs:rG c A id as (fun v us nx=>some (v,us,nx))=some (v,us,nx))
 (h:∀ vs,gX c.A as=some vs→lL (m0 A c.A vs++qP A c.A vs) A B) (hh:∀ vs,gX c.A as=some vs→∀ r ∈ jm us,r ∈ m0 A c.A vs→B r=A r) :
 rG c B id as (fun v us nx=>some (v,us,nx))=some (v,us,nx):=by
 have hs0:=hs
 unfold rG at hs ⊢
 cases hf:gX c.A as with
 | none=>rw [hf] at hs;cases hs
 | some vs =>
 rw [hf] at hs
 simp only [] at hs ⊢
 cases hx:ez A c.A vs with
 | none=>rw [hx] at hs;cases hs
 | some x =>
 rw [hx] at hs
 simp only [] at hs
 have h1:=aL hs
 cases hy:c.fn x with
 | none=>have h2:=h1.2;rw [hy] at h2;cases h2
 | some y =>
 have h2:=h1.2
 rw [hy] at h2
 simp only [Option.some.injEq,Prod.mk.injEq] at h2
 have hgv:∀ r ∈ m0 A c.A vs,B r=A r:=fun r q=>by
  refine hh vs hf r ?_ q
  obtain ⟨z,hz,rfl⟩:=List.mem_map.1 (nP (al:=c.al) (y:=BJ (gU c.A) y) (id:=id) hx r q)
  rw [← h2.2.1]
  exact qU (x:=z.2) (List.mem_append_right _ (List.mem_append_left _ hz)) (jc z.1 z.2 hz)
 obtain ⟨g1,g2,g3,g4⟩:=kN hx (h vs hf) hgv
 have hrefs:∀ l:List Nat,c_ (l.map AV.ref)=l:=by
  intro l
  induction l with
  | nil=>rfl
  | cons r l ih=>simp [c_,ih]
 rw [g1,g2,g3]
 simp only [hy]
 rw [g4,lg (A:=A) (B:=B) (by rw [hrefs];exact (h vs hf).sub fun r q=>List.mem_append_right _ q)]
 rw [hy] at hs
 exact hs
theorem Dj {c:Cn} {id nx:Nat} {as:List AV} {v:AV} {us:jJ} (hs:yI c A id as (fun v us nx=>some (v,us,nx))=some (v,us,nx))
 (h:∀ vs,gX c.A as=some vs→lL (m0 A c.A vs++qP A c.A vs) A B) :
 yI c B id as (fun v us nx=>some (v,us,nx))=some (v,us,nx):=by
 have hs0:=hs
 unfold yI at hs ⊢
 cases hf:gX c.A as with
 | none=>rw [hf] at hs;cases hs
 | some vs =>
 rw [hf] at hs
 simp only [] at hs ⊢
 cases hx:ez A c.A vs with
 | none=>rw [hx] at hs;cases hs
 | some x =>
 rw [hx] at hs
 simp only [] at hs
 have h1:=aL hs
 have hgv:∀ r ∈ m0 A c.A vs,B r=A r:=fun r q=>by
  rw [List.isEmpty_iff.1 h1.1] at q
  cases q
 obtain ⟨g1,g2,g3,g4⟩:=kN hx (h vs hf) hgv
 have hrefs:∀ l:List Nat,c_ (l.map AV.ref)=l:=by
  intro l
  induction l with
  | nil=>rfl
  | cons r l ih=>simp [c_,ih]
 rw [g1,g2,g3,lg (A:=A) (B:=B) (by rw [hrefs];exact (h vs hf).sub fun r q=>List.mem_append_right _ q)]
 exact hs
theorem Bi {c:Cn} {id nx:Nat} {as:List AV} {v:AV} {us:jJ} (hs:rJ c A id as (fun v us nx=>some (v,us,nx))=some (v,us,nx))
 (h:∀ vs,gX c.A as=some vs→lL (m0 A c.A vs++qP A c.A vs) A B) (hh:∀ vs,gX c.A as=some vs→∀ r ∈ jm us,r ∈ m0 A c.A vs→B r=A r) :
 rJ c B id as (fun v us nx=>some (v,us,nx))=some (v,us,nx):=by
 unfold rJ at hs ⊢
 cases hb:sC c.R with
 | false=>rw [hb] at hs;exact Bg hs h hh
 | true=>rw [hb] at hs;exact Dj hs h
theorem Jr {α:Type} {f:α→List AV}:∀ {l:List α} {x:α},x ∈ l→∀ r ∈ c_ (f x),r ∈ l.flatMap fun x=>c_ (f x):=fun hx r hr=>List.mem_flatMap.2 ⟨_,hx,hr⟩
theorem vO:∀ {cs ds:List AV},c_ (cs++ds)=c_ cs++c_ ds
 | [],_=>rfl
 | c::cs,ds=>by cases c <;> simp [c_,vO (cs:=cs)]
theorem tI {α:Type} {f:α→List AV}:∀ {l:List α},c_ (l.flatMap f)=l.flatMap fun x=>c_ (f x)
 | []=>rfl
 | x::l=>by simp [vO,tI (l:=l)]
theorem mV {tb:lX} {tm:List AV} {t:Nat} {x:Operand}:c_ (cellsOf (val tb tm t x))=c_ (cellsOf (val tb tm 0 x)):=by
 cases x with
 | tmp i=>rfl
 | func f=>rfl
 | global g=>rfl
 | const v =>
  simp only [val]
  unfold KS
  cases v <;> try rfl
  rename_i a n c
  cases a <;> try rfl
  cases n <;> try rfl
  cases c <;> try rfl
  simp only []
  split <;> (split <;> rfl)
theorem DX {tb:lX} {ct:List (Nat × Cn)} {o:Oper} {tm:List AV} {id nx:Nat} {v:AV} {us:jJ} (hs:eu tb ct o tm A id (fun v us nx=>some (v,us,nx))=some (v,us,nx))
 (h:lL (reads tb ct o tm A) A B) (hh:∀ r ∈ jm us,r ∈ reads tb ct o tm A→B r=A r):eu tb ct o tm B id (fun v us nx=>some (v,us,nx))=some (v,us,nx):=by
 cases hop:o.op with
 | load t x =>
  simp only [eu,hop,reads] at hs h ⊢
  split at hs
  · rename_i u hu
    try simp only [hu]
    rw [Fx h];exact hs
  · cases hs
 | store t x y =>
  simp only [eu,hop,reads] at hs h hh ⊢
  split at hs
  · rename_i u hu
    try simp only [hu]
    rw [kY] at hs
    cases hl:kf A u (val tb tm 0 x) (val tb tm t y) some with
    | none=>rw [hl] at hs;cases hs
    | some us' =>
     rw [hl] at hs
     cases hs
     rw [kY]
     have h1:lL (c_ (cellsOf (val tb tm 0 x))) A B:=h.sub fun r hr=>List.mem_append_left _ hr
     have h2:lL (c_ (cellsOf (val tb tm t y))) A B:=h.sub fun r hr=>List.mem_append_right _ (by rw [← mV (t:=t)];exact hr)
     rw [yb hl h1 h2 fun r hr hm=>hh r hr (List.mem_append_left _ hm)]
     rfl
  · cases hs
 | indexAddr t x i =>
  simp only [eu,hop,reads] at hs h ⊢
  rw [vT (by rw [mV];exact h)]
  exact hs
 | slice t x lo hi mx =>
  cases mx with
  | some _=>simp only [eu,hop] at hs;cases hs
  | none =>
   simp only [eu,hop,reads] at hs h ⊢
   rw [yW (by rw [mV];exact h)]
   exact hs
 | convert s d x =>
  simp only [eu,hop,reads] at hs h ⊢
  split at hs
  · rename_i h1 h2 h3
    try simp only [h1,h2,h3]
    exact hs
  · rename_i h1 h2 h3
    try simp only [h1,h2,h3]
    exact hs
  · rename_i h1 h2 h3
    rw [qf (A:=A) (B:=B) (lL.sub (by rw [mV];exact h) wL)]
    exact hs
  · cases hs
 | buildSlice t n ps =>
  simp only [eu,hop,reads] at hs h ⊢
  split at hs
  · rename_i e he
    try simp only [he]
    have h1:∀ p ∈ ps.toList,lL (c_ (cellsOf (val tb tm 0 p.2))) A B:=fun p hp=>h.sub fun r hr=>List.mem_flatMap.2 ⟨p,hp,hr⟩
    rw [vE h1,lg (A:=A) (B:=B) (by rw [tI];exact h)]
    exact hs
  · cases hs
 | call c =>
  have h1:∀ x ∈ c.args.toList,lL (c_ (cellsOf (val tb tm 0 x))) A B:=fun x hx=>h.sub fun r hr=>by
   simp only [reads,hop]
   exact List.mem_append_left _ (List.mem_flatMap.2 ⟨x,hx,hr⟩)
  simp only [eu,hop] at hs ⊢
  split at hs
  · rename_i hc
    try simp only [hc]
    split at hs
    · rename_i x t ha ht
      try simp only [ha,ht]
      rw [Bl (by rw [mV];exact h1 x (by rw [ha];simp))]
      exact hs
    · cases hs
  · rename_i hc
    try simp only [hc]
    split at hs
    · rename_i d s t t' ha ht
      try simp only [ha,ht]
      split at hs
      · rename_i e he
        try simp only [he]
        cases hb:Nat.beq t t' with
        | false=>rw [hb] at hs;cases hs
        | true =>
         rw [hb,cond_true] at hs
         rw [cond_true,iS]
         rw [iS] at hs
         cases hl:jU e A id (val tb tm t d) (val tb tm t s) (fun v us=>some (v,us)) with
         | none=>rw [hl] at hs;cases hs
         | some z =>
          obtain ⟨z1,z2⟩:=z
          rw [hl] at hs
          cases hs
          rw [wy hl (by rw [mV];exact h1 d (by rw [ha];simp)) (by rw [mV];exact h1 s (by rw [ha];simp)) ?_]
          · rfl
          · intro r hr hm
            refine hh r hr ?_
            simp only [reads,hop]
            exact List.mem_append_left _ (List.mem_flatMap.2 ⟨d,by rw [ha];simp,by rw [← mV (t:=t)];exact hm⟩)
      · cases hs
    · cases hs
  · rename_i hc
    try simp only [hc]
    exact hs
  · rename_i hc
    try simp only [hc]
    exact hs
  · rename_i x hc
    try simp only [hc]
    split at hs
    · rename_i q hq
      try simp only [hq]
      have hsub:∀ vs,gX q.1.A q.2=some vs→∀ r ∈ m0 A q.1.A vs++qP A q.1.A vs,r ∈ reads tb ct o tm A:=fun vs hvs r hr=>by
       simp only [reads,hop,hc,hq,hvs]
       exact List.mem_append_right _ hr
      exact Bi (A:=A) (B:=B) hs (fun vs hvs=>h.sub (hsub vs hvs)) (fun vs hvs r hr hm=>hh r hr (hsub vs hvs r (List.mem_append_left _ hm)))
    · cases hs
  · cases hs
 | makeFunc fn first caps =>
  cases fn with
  | func f=>simp only [eu,hop] at hs ⊢;exact hs
  | _=>unfold eu at hs;rw [hop] at hs;cases hs
 | _=>unfold eu at hs ⊢;rw [hop] at hs ⊢;exact hs
end
end Go.V
end
section
set_option linter.unusedVariables false
set_option linter.unusedSimpArgs false
namespace Go.V
open Go.RowKit
section
variable {tb:lX} {ct:List (Nat × Cn)} {tm tm':List AV} {hp:Hp} {id:Nat} {R:Type}
theorem EZ {f g:Operand→AV} {o:Option Operand} (h:∀ x ∈ o.toList,f x=g x):o.map f=o.map g:=by
 cases o with
 | none=>rfl
 | some x=>simp [h x (by simp)]
theorem pO {offs:List (Nat × Nat)} {f g:Operand→AV}:∀ {ps:List (Nat × Operand)} {z:List AV},(∀ p ∈ ps,f p.2=g p.2)→kK z offs f ps=kK z offs g ps
 | [],_,_=>rfl
 | (i,x)::ps,z,h=>by
  have h0:f x=g x:=h (i,x) (List.mem_cons_self ..)
  simp only [kK,h0]
  split
  · rw [pO fun p hp=>h p (List.mem_cons_of_mem _ hp)]
  · rfl
theorem um {e:Ty} {f g:Operand→AV}:∀ {ps:List (Nat × Operand)} {l:List e.den} {b:Bool},(∀ p ∈ ps,f p.2=g p.2)→elems hp e f ps l b=elems hp e g ps l b
 | [],_,_,_=>rfl
 | (i,x)::ps,l,b,h=>by
  have h0:f x=g x:=h (i,x) (List.mem_cons_self ..)
  simp only [elems,h0]
  split
  · rw [um fun p hp=>h p (List.mem_cons_of_mem _ hp)]
  · rfl
theorem ll {α β:Type} {f g:α→List β}:∀ {l:List α},(∀ x ∈ l,f x=g x)→l.flatMap f=l.flatMap g
 | [],_=>rfl
 | x::l,h=>by simp [h x (List.mem_cons_self ..),ll fun y hy=>h y (List.mem_cons_of_mem _ hy)]
theorem Hi {o:Oper} {k:AV→jJ→Nat→Option R} (h:∀ x ∈ o.op.operands.toList,∀ T,val tb tm' T x=val tb tm T x) :
 eu tb ct o tm' hp id k=eu tb ct o tm hp id k∧reads tb ct o tm' hp=reads tb ct o tm hp:=by
 cases hop:o.op with
 | buildSlice t n ps =>
  have h0:∀ p ∈ ps.toList,val tb tm' 0 p.2=val tb tm 0 p.2:=fun p hp=>h p.2 (by rw [hop];simp only [Op.operands,List.toList_toArray];exact List.mem_map_of_mem hp) 0
  simp only [eu,reads,hop]
  have e1:ps.toList.flatMap (fun p=>cellsOf (val tb tm' 0 p.2))=ps.toList.flatMap (fun p=>cellsOf (val tb tm 0 p.2)):=ll fun p hp=>by rw [h0 p hp]
  rw [e1]
  refine ⟨?_,ll fun p hp=>by rw [h0 p hp]⟩
  split
  · rw [um h0]
  · rfl
 | build t ps =>
  have h0:∀ p ∈ ps.toList,val tb tm' 0 p.2=val tb tm 0 p.2:=fun p hp=>h p.2 (by rw [hop];simp only [Op.operands,List.toList_toArray];exact List.mem_map_of_mem hp) 0
  simp only [eu,reads,hop]
  exact ⟨by
   split
   · rw [pO h0]
   · rfl,trivial⟩
 | makeFunc fn first caps =>
  have h0:caps.toList.map (val tb tm' 0)=caps.toList.map (val tb tm 0):=List.map_congr_left fun x hx=>h x (by rw [hop];simp only [Op.operands,Array.toList_append];exact List.mem_append_right _ hx) 0
  cases fn <;> simp only [eu,reads,hop]
  · exact ⟨by rw [h0],trivial⟩
  all_goals exact ⟨trivial,trivial⟩
 | call c =>
  have hin:∀ x ∈ c.args.toList,∀ T,val tb tm' T x=val tb tm T x:=fun x hx=>h x (by rw [hop];simp only [Op.operands,Call.operands,Array.toList_append];exact List.mem_append_right _ hx)
  have h0:c.args.toList.map (val tb tm' 0)=c.args.toList.map (val tb tm 0):=List.map_congr_left fun x hx=>hin x hx 0
  have hcal:∀ x,c.callee = .value x→pD tb ct tm' x (c.args.toList.map (val tb tm' 0))=pD tb ct tm x (c.args.toList.map (val tb tm 0)):=fun x hx=>by
   rw [h0]
   unfold pD
   rw [h x (by rw [hop];simp only [Op.operands,Call.operands,Array.toList_append,hx];exact List.mem_append_left _ (by simp)) 0]
  simp only [eu,reads,hop]
  refine ⟨?_,?_⟩
  · split
    · split
      · rename_i x t ha ht
        rw [hin x (by rw [ha];simp)]
      · rfl
    · split
      · rename_i d s t t' ha ht
        split
        · rw [hin d (by rw [ha];simp),hin s (by rw [ha];simp)]
        · rfl
      · rfl
    · rw [h0]
    · rw [h0]
    · rename_i x hc
      rw [hcal x hc]
    · rfl
  · rw [ll (f:=fun x=>c_ (cellsOf (val tb tm' 0 x))) (g:=fun x=>c_ (cellsOf (val tb tm 0 x))) fun x hx=>by rw [hin x hx]]
    congr 1
    split
    · rename_i x hc
      rw [hcal x hc]
    · rfl
 | slice t x lo hi mx =>
  have hx:=h x (by rw [hop];simp [Op.operands])
  have hl:lo.map (val tb tm' 0)=lo.map (val tb tm 0):=EZ fun y hy=>h y (by rw [hop];simp [Op.operands] at hy ⊢;simp [hy]) 0
  have hh:hi.map (val tb tm' 0)=hi.map (val tb tm 0):=EZ fun y hy=>h y (by rw [hop];simp [Op.operands] at hy ⊢;simp [hy]) 0
  cases mx <;> simp only [eu,reads,hop,hx,hl,hh] <;> exact ⟨trivial,trivial⟩
 | pick c x y =>
  have h1:=h c (by rw [hop];simp [Op.operands])
  have h2:=h x (by rw [hop];simp [Op.operands])
  have h3:=h y (by rw [hop];simp [Op.operands])
  simp only [eu,reads,hop,h1,h2,h3]
  exact ⟨trivial,trivial⟩
 | store t x y =>
  have h1:=h x (by rw [hop];simp [Op.operands])
  have h2:=h y (by rw [hop];simp [Op.operands])
  simp only [eu,reads,hop,h1,h2]
  exact ⟨trivial,trivial⟩
 | binOp op t x y u =>
  have h1:=h x (by rw [hop];simp [Op.operands])
  have h2:=h y (by rw [hop];simp [Op.operands])
  simp only [eu,reads,hop,h1,h2]
  exact ⟨trivial,trivial⟩
 | makeSlice t x y =>
  have h1:=h x (by rw [hop];simp [Op.operands])
  have h2:=h y (by rw [hop];simp [Op.operands])
  simp only [eu,reads,hop,h1,h2]
  exact ⟨trivial,trivial⟩
 | indexAddr t x y =>
  have h1:=h x (by rw [hop];simp [Op.operands])
  have h2:=h y (by rw [hop];simp [Op.operands])
  simp only [eu,reads,hop,h1,h2]
  exact ⟨trivial,trivial⟩
 | index t x y =>
  have h1:=h x (by rw [hop];simp [Op.operands])
  have h2:=h y (by rw [hop];simp [Op.operands])
  simp only [eu,reads,hop,h1,h2]
  exact ⟨trivial,trivial⟩
 | alloc t=>simp only [eu,reads,hop];exact ⟨trivial,trivial⟩
 | move x=>have h1:=h x (by rw [hop];simp [Op.operands]);simp only [eu,reads,hop,h1];exact ⟨trivial,trivial⟩
 | assign x=>have h1:=h x (by rw [hop];simp [Op.operands]);simp only [eu,reads,hop,h1];exact ⟨trivial,trivial⟩
 | box t x=>have h1:=h x (by rw [hop];simp [Op.operands]);simp only [eu,reads,hop,h1];exact ⟨trivial,trivial⟩
 | load t x=>have h1:=h x (by rw [hop];simp [Op.operands]);simp only [eu,reads,hop,h1];exact ⟨trivial,trivial⟩
 | nilCheck x=>have h1:=h x (by rw [hop];simp [Op.operands]);simp only [eu,reads,hop,h1];exact ⟨trivial,trivial⟩
 | unOp op t x=>have h1:=h x (by rw [hop];simp [Op.operands]);simp only [eu,reads,hop,h1];exact ⟨trivial,trivial⟩
 | convert s d x=>have h1:=h x (by rw [hop];simp [Op.operands]);simp only [eu,reads,hop,h1];exact ⟨trivial,trivial⟩
 | fieldAddr s x f=>have h1:=h x (by rw [hop];simp [Op.operands]);simp only [eu,reads,hop,h1];exact ⟨trivial,trivial⟩
 | field s x f=>have h1:=h x (by rw [hop];simp [Op.operands]);simp only [eu,reads,hop,h1];exact ⟨trivial,trivial⟩
 | extract x i=>have h1:=h x (by rw [hop];simp [Op.operands]);simp only [eu,reads,hop,h1];exact ⟨trivial,trivial⟩
 | _=>unfold eu reads;rw [hop];exact ⟨rfl,rfl⟩
end
def AD:jJ→Nat→pQ→pQ
 | [],_,x=>x
 | u::us,r,x=>AD us r (bif Nat.beq r u.1 then turn u.2 x else x)
theorem kG:∀ {us:jJ} {hp:Hp} {r:Nat},applyF hp us r=AD us r (hp r)
 | [],_,_=>rfl
 | u::us,hp,r=>by
  simp only [applyF,AD]
  exact kG (us:=us)
theorem uU (x:pQ):AL (AL x)=AL x:=by cases x <;> rfl
theorem Cx (x:pQ):(∀ y,turn x y=AL y)∨(∃ z,∀ y,turn x y=z):=by
 cases x
 · exact Or.inr ⟨_,fun _=>rfl⟩
 · exact Or.inr ⟨_,fun _=>rfl⟩
 · exact Or.inr ⟨_,fun _=>rfl⟩
 · exact Or.inl fun _=>rfl
theorem AJ:∀ (us:jJ) (r:Nat) {x y:pQ},(y=x∨y=AL x)→(AD us r y=AD us r x∨AD us r y=AL (AD us r x))
 | [],_,_,_,h=>h
 | u::us,r,x,y,h=>by
  simp only [AD]
  cases Nat.beq r u.1 with
  | false=>exact AJ us r h
  | true =>
   simp only [cond_true]
   refine AJ us r ?_
   rcases Cx u.2 with q | ⟨z,q⟩
   · rw [q,q]
     rcases h with rfl | rfl
     · exact Or.inl rfl
     · exact Or.inl (uU _)
   · rw [q,q];exact Or.inl rfl
theorem ra:∀ {us:jJ} {r:Nat},r ∉ us.map (·.1)→∀ x,AD us r x=x
 | [],_,_,_=>rfl
 | u::us,r,h,x=>by
  simp only [List.map_cons,List.mem_cons,not_or] at h
  simp only [AD]
  have:Nat.beq r u.1=false:=by
   cases hb:Nat.beq r u.1 with
   | false=>rfl
   | true=>exact absurd (Nat.eq_of_beq_eq_true hb) h.1
  rw [this]
  exact ra h.2 x
theorem yP {u:Nat × pQ} {us:jJ} {r:Nat} (h:r ∉ jm (u::us)):r ∉ jm us∧(r=u.1→∃ p e l,u.2 = .fro p e l):=by
 obtain ⟨s,x⟩:=u
 cases x <;> simp_all [jm]
theorem rE:∀ {us:jJ} {r:Nat},r ∉ jm us→(∀ x,AD us r x=x)∨(∀ x,AD us r x=AL x)
 | [],_,_=>Or.inl fun _=>rfl
 | u::us,r,h=>by
  obtain ⟨h1,h2⟩:=yP h
  simp only [AD]
  cases hb:Nat.beq r u.1 with
  | false=>exact rE h1
  | true =>
   simp only [cond_true]
   obtain ⟨p,e,l,q⟩:=h2 (Nat.eq_of_beq_eq_true hb)
   rw [q]
   right
   intro x
   rcases rE h1 with g | g
   · rw [g];rfl
   · rw [g];exact uU x
theorem F_:∀ {us:jJ} {r:Nat},r ∈ jm us→r ∈ us.map (·.1)
 | [],_,h=>by cases h
 | (s,x)::us,r,h=>by
  have ih:=F_ (us:=us) (r:=r)
  cases x <;> simp_all [jm] <;> grind
theorem Gy {us vs:jJ} {r:Nat} (h1:∀ r ∈ jm us,r ∉ vs.map (·.1)) (h2:∀ r ∈ jm vs,r ∉ us.map (·.1)) (x:pQ):AD vs r (AD us r x)=AD us r (AD vs r x):=by
 by_cases a:r ∈ jm us
 · rw [ra (h1 r a),ra (h1 r a)]
 · by_cases b:r ∈ jm vs
   · rw [ra (h2 r b),ra (h2 r b)]
   · rcases rE a with p | p <;> rcases rE b with q | q <;> simp [p,q]
theorem uE:∀ {us:jJ} {hp:Hp},qN us→applyF hp us=apply hp us
 | [],_,_=>rfl
 | u::us,hp,h=>by
  simp only [applyF,apply]
  have e:(fun n=>bif Nat.beq n u.1 then turn u.2 (hp n) else hp n)=jo hp u.1 u.2:=by
   funext n
   simp only [jo]
   have h0:=h u.1 u.2 (List.mem_cons_self ..)
   obtain ⟨s,x⟩:=u
   cases x <;> first | rfl | exact absurd rfl (h0 _ _ _)
  rw [e]
  exact uE fun r x hx=>h r x (List.mem_cons_of_mem _ hx)
theorem wx:∀ {us:jJ} {hp:Hp},Aa hp us→applyF hp us=apply hp us
 | [],_,_=>rfl
 | (r,x)::us,hp,h=>by
  obtain ⟨p,e,l,rfl,hr⟩:=h r x (List.mem_cons_self ..)
  simp only [applyF,apply]
  have e':(fun n=>bif Nat.beq n r then turn (.fro p e l) (hp n) else hp n)=jo hp r (.fro p e l):=by
   funext n
   simp only [jo]
   cases hb:Nat.beq n r with
   | false=>rfl
   | true =>
    simp only [cond_true]
    rw [Nat.eq_of_beq_eq_true hb]
    rcases hr with q | q <;> rw [q] <;> rfl
  rw [e']
  exact wx h.tail
theorem uF:∀ (us0:jJ) {hp:Hp} {us1:jJ},apply hp (us0++us1)=apply (apply hp us0) us1
 | [],_,_=>rfl
 | u::us,hp,us1=>uF us
theorem sH:∀ (us0:jJ) {hp:Hp} {us1:jJ},applyF hp (us0++us1)=applyF (applyF hp us0) us1
 | [],_,_=>rfl
 | u::us,hp,us1=>sH us
theorem gb.applyF {hp:Hp} {id nx:Nat} {us:jJ} (h:gb hp id us nx):applyF hp us=apply hp us:=by
 obtain ⟨_,us0,us1,rfl,h0,h1⟩:=h
 rw [sH,uF,wx h0,uE h1]
end Go.V
end
section
set_option linter.unusedVariables false
set_option linter.unusedSimpArgs false
namespace Go.V
open Go.RowKit
structure G where
 i:Nat
 go:Bool
 us:jJ
 rd:List Nat
 A:List Nat
 dst:Option Nat
 v:AV
 nm:List Nat
 id:Nat
 nx:Nat
def rep (hp:Hp) (D:Nat→Bool):List G→Hp
 | []=>hp
 | g::gs=>bif D g.i then applyF (rep hp D gs) g.us else rep hp D gs
def ic (tm:List AV) (D:Nat→Bool):List G→List AV
 | []=>tm
 | g::gs=>bif D g.i then mn (ic tm D gs) g.dst g.v else ic tm D gs
structure Jv (g' g:G):Prop where
 a:∀ r ∈ jm g.us,r ∉ g'.rd
 b:∀ r ∈ jm g'.us,r ∉ g.rd
 c:∀ r ∈ g.us.map (·.1),r ∉ jm g'.us
 d:∀ r ∈ jm g.us,r ∉ g'.us.map (·.1)
structure Ft (g' g:G):Prop where
 e:∀ t ∈ g.dst.toList,t ∉ g'.dst.toList++g'.nm
 f:∀ t ∈ g'.dst.toList,t ∉ g.nm
section
variable {hp:Hp} {tm:List AV} {D D':Nat→Bool}
theorem ro {r:Nat}:∀ {gs:List G},(∀ g ∈ gs,r ∈ g.us.map (·.1)→D g.i=D' g.i)→rep hp D gs r=rep hp D' gs r
 | [],_=>rfl
 | g::gs,h=>by
  have ih:=ro (gs:=gs) fun g' hg=>h g' (List.mem_cons_of_mem _ hg)
  simp only [rep]
  by_cases hr:r ∈ g.us.map (·.1)
  · rw [h g (List.mem_cons_self ..) hr]
    cases D' g.i with
    | true=>simp only [cond_true,kG,ih]
    | false=>exact ih
  · have e:∀ (b:Bool) (x:Hp),(bif b then applyF x g.us else x) r=x r:=fun b x=>by
     cases b with
     | true=>simp only [cond_true,kG,ra hr]
     | false=>rfl
    rw [e,e,ih]
theorem El {r:Nat}:∀ {gs:List G},(∀ g ∈ gs,D g.i=D' g.i∨(D g.i=true∧r ∉ jm g.us))→rep hp D gs r=rep hp D' gs r∨rep hp D gs r=AL (rep hp D' gs r)
 | [],_=>Or.inl rfl
 | g::gs,h=>by
  have ih:=El (gs:=gs) fun g' hg=>h g' (List.mem_cons_of_mem _ hg)
  simp only [rep]
  cases h1:D g.i with
  | true =>
   cases h2:D' g.i with
   | true =>
    simp only [cond_true,kG]
    exact AJ _ _ ih
   | false =>
    rcases h g (List.mem_cons_self ..) with q | ⟨_,q⟩
    · rw [h1,h2] at q;cases q
    · simp only [cond_true,cond_false,kG]
      rcases rE q with e | e
      · rw [e];exact ih
      · rw [e]
        rcases ih with g1 | g1
        · rw [g1];exact Or.inr rfl
        · rw [g1,uU];exact Or.inr rfl
  | false =>
   cases h2:D' g.i with
   | true =>
    rcases h g (List.mem_cons_self ..) with q | ⟨q,_⟩
    · rw [h1,h2] at q;cases q
    · rw [h1] at q;cases q
   | false=>exact ih
theorem H1 {l:List AV} {d:Option Nat} {v:AV}:(mn l d v).length=l.length:=by cases d <;> simp [mn]
theorem tv:∀ {gs:List G},(ic tm D gs).length=tm.length
 | []=>rfl
 | g::gs=>by
  simp only [ic]
  cases D g.i with
  | true=>rw [cond_true,H1];exact tv
  | false=>exact tv
theorem Fa {l l':List AV} {d:Option Nat} {v:AV} {t:Nat} (hl:l.length=l'.length) (h:l.getD t .junk=l'.getD t .junk):(mn l d v).getD t .junk=(mn l' d v).getD t .junk:=by
 cases d with
 | none=>exact h
 | some d =>
  simp only [mn,List.getD,List.getElem?_set,hl] at h ⊢
  split
  · split <;> rfl
  · exact h
theorem DT {l:List AV} {d:Option Nat} {v:AV} {t:Nat} (h:d≠some t):(mn l d v).getD t .junk=l.getD t .junk:=by
 cases d with
 | none=>rfl
 | some d =>
  have:d≠t:=fun q=>h (by rw [q])
  simp [mn,List.getD,List.getElem?_set_ne this]
theorem yB {t:Nat}:∀ {gs:List G},(∀ g ∈ gs,g.dst=some t→D g.i=D' g.i)→(ic tm D gs).getD t .junk=(ic tm D' gs).getD t .junk
 | [],_=>rfl
 | g::gs,h=>by
  have ih:=yB (gs:=gs) fun g' hg=>h g' (List.mem_cons_of_mem _ hg)
  simp only [ic]
  by_cases hr:g.dst=some t
  · rw [h g (List.mem_cons_self ..) hr]
    cases D' g.i with
    | true =>
     simp only [cond_true]
     exact Fa (by rw [tv,tv]) ih
    | false=>exact ih
  · have e:∀ (b:Bool) (x:List AV),(bif b then mn x g.dst g.v else x).getD t .junk=x.getD t .junk:=fun b x=>by
     cases b with
     | true=>exact DT hr
     | false=>rfl
    rw [e,e,ih]
def n9 (D:Nat→Bool) (i:Nat):Nat→Bool:=fun j=>bif Nat.beq j i then true else D j
theorem rY {i:Nat}:n9 D i i=true:=by simp [n9]
theorem nu {i j:Nat} (h:j≠i):n9 D i j=D j:=by
 have:Nat.beq j i=false:=by
  cases hb:Nat.beq j i with
  | false=>rfl
  | true=>exact absurd (Nat.eq_of_beq_eq_true hb) h
 simp [n9,this]
theorem I7 {gs:List G} (h:∀ g ∈ gs,D g.i=D' g.i):rep hp D gs=rep hp D' gs:=funext fun r=>ro fun g hg _=>h g hg
theorem u0:∀ {gs:List G},(∀ g ∈ gs,D g.i=D' g.i)→ic tm D gs=ic tm D' gs
 | [],_=>rfl
 | g::gs,h=>by
  simp only [ic]
  rw [h g (List.mem_cons_self ..),u0 fun g' hg=>h g' (List.mem_cons_of_mem _ hg)]
theorem ES {g:G} {r:Nat}:∀ {gs:List G},gs.Pairwise (fun x y=>y.i<x.i)→g ∈ gs→D g.i=false →
 (∀ h ∈ gs,g.i<h.i→D h.i=true→(∀ r ∈ jm g.us,r ∉ h.us.map (·.1))∧(∀ r ∈ jm h.us,r ∉ g.us.map (·.1)))→rep hp (n9 D g.i) gs r=AD g.us r (rep hp D gs r)
 | [],_,hg,_,_=>by cases hg
 | h::gs,hp',hg,hD,hc=>by
  rw [List.pairwise_cons] at hp'
  simp only [rep]
  rcases List.mem_cons.1 hg with q | q
  · subst q
    rw [rY,hD,cond_true,cond_false,kG]
    congr 1
    exact ro fun g' hg' _=>nu (Nat.ne_of_lt (hp'.1 g' hg'))
  · have hlt:=hp'.1 g q
    rw [nu (Nat.ne_of_gt hlt)]
    have ih:=ES (r:=r) hp'.2 q hD fun h' hh'=>hc h' (List.mem_cons_of_mem _ hh')
    cases hb:D h.i with
    | false=>exact ih
    | true =>
     simp only [cond_true,kG]
     rw [ih]
     obtain ⟨c1,c2⟩:=hc h (List.mem_cons_self ..) hlt hb
     exact Gy c1 c2 _
theorem Fs {l:List AV} {d e:Option Nat} {u v:AV} (h:∀ t ∈ d.toList,t ∉ e.toList):mn (mn l d u) e v=mn (mn l e v) d u:=by
 cases d with
 | none=>rfl
 | some d =>
  cases e with
  | none=>rfl
  | some e =>
   have:d≠e:=fun q=>h d (by simp) (by simp [q])
   exact List.set_comm _ _ this
theorem Co {g:G}:∀ {gs:List G},gs.Pairwise (fun x y=>y.i<x.i)→g ∈ gs→D g.i=false →
 (∀ h ∈ gs,g.i<h.i→D h.i=true→∀ t ∈ h.dst.toList,t ∉ g.dst.toList)→ic tm (n9 D g.i) gs=mn (ic tm D gs) g.dst g.v
 | [],_,hg,_,_=>by cases hg
 | h::gs,hp',hg,hD,hc=>by
  rw [List.pairwise_cons] at hp'
  simp only [ic]
  rcases List.mem_cons.1 hg with q | q
  · subst q
    rw [rY,hD,cond_true,cond_false]
    congr 1
    exact u0 fun g' hg'=>nu (Nat.ne_of_lt (hp'.1 g' hg'))
  · have hlt:=hp'.1 g q
    rw [nu (Nat.ne_of_gt hlt)]
    have ih:=Co hp'.2 q hD fun h' hh'=>hc h' (List.mem_cons_of_mem _ hh')
    cases hb:D h.i with
    | false=>exact ih
    | true =>
     simp only [cond_true]
     rw [ih]
     exact (Fs (hc h (List.mem_cons_self ..) hlt hb)).symm
end
def m_:List G→List KA
 | []=>[]
 | g::gs=>bif g.go then ⟨g.i,g.us,g.rd⟩::m_ gs else m_ gs
theorem se {hp:Hp} {a:List Nat}:∀ {gs:List G},(∀ g ∈ gs,g.go=false→g.us=[])→pn hp a (m_ gs)=rep hp (jS a) gs
 | [],_=>rfl
 | g::gs,h=>by
  have ih:=se (hp:=hp) (a:=a) (gs:=gs) fun g' hg=>h g' (List.mem_cons_of_mem _ hg)
  simp only [m_,rep]
  cases hg:g.go with
  | true=>simp only [cond_true,pn,ih]
  | false =>
   rw [h g (List.mem_cons_self ..) hg]
   simp only [cond_false,applyF,ih]
   cases jS a g.i <;> rfl
theorem sJ {hp:Hp}:∀ {gs:List G},(∀ g ∈ gs,g.go=false→g.us=[])→rl hp (m_ gs)=rep hp (fun _=>true) gs
 | [],_=>rfl
 | g::gs,h=>by
  have ih:=sJ (hp:=hp) (gs:=gs) fun g' hg=>h g' (List.mem_cons_of_mem _ hg)
  simp only [m_,rep]
  cases hg:g.go with
  | true=>simp only [cond_true,rl,ih]
  | false =>
   rw [h g (List.mem_cons_self ..) hg]
   simp only [cond_false,cond_true,applyF,ih]
theorem wI {a:List Nat} {us:jJ} {rd:List Nat}:∀ {gs:List G},I5 a us rd (m_ gs)=true→∀ g' ∈ gs,g'.go=true→jS a g'.i=true ∨
 ((∀ r ∈ jm us,r ∉ g'.rd)∧(∀ r ∈ jm g'.us,r ∉ rd)∧(∀ r ∈ us.map (·.1),r ∉ jm g'.us)∧(∀ r ∈ jm us,r ∉ g'.us.map (·.1)))
 | [],_,_,hg,_=>by cases hg
 | g::gs,h,g',hg,hgo=>by
  simp only [m_] at h
  cases hgg:g.go with
  | false =>
   rw [hgg,cond_false] at h
   rcases List.mem_cons.1 hg with q | q
   · subst q;rw [hgg] at hgo;cases hgo
   · exact wI h g' q hgo
  | true =>
   rw [hgg,cond_true] at h
   simp only [I5] at h
   cases hc:(jS a g.i||(kr (jm us) g.rd&&kr (jm g.us) rd&&kr (us.map (·.1)) (jm g.us)&&kr (jm us) (g.us.map (·.1)))) with
   | false=>rw [hc] at h;cases h
   | true =>
    rw [hc,cond_true] at h
    rcases List.mem_cons.1 hg with q | q
    · subst q
      simp only [Bool.or_eq_true,Bool.and_eq_true,sP] at hc
      rcases hc with q | ⟨⟨⟨q1,q2⟩,q3⟩,q4⟩
      · exact Or.inl q
      · exact Or.inr ⟨q1,q2,q3,q4⟩
    · exact wI h g' q hgo
end Go.V
end

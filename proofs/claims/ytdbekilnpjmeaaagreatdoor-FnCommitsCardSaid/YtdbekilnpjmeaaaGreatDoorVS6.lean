/- V: soundness, part 6 of 10. -/
import Derived.Test.YtdbekilnpjmeaaaGreatDoorVS5
section
set_option linter.unusedVariables false
set_option linter.unusedSimpArgs false
namespace Go.V
open Go.RowKit
def ky (L:List Nat) (A B:Hp):Prop:=∀ r ∈ L,B r=A r∨∃ p e l,A r = .own p e l∧B r = .fro p e l
theorem C8:∀ {cs:List AV} {r:Nat},r ∈ bq cs↔(AV.ref r ∈ cs∨∃ i f,AV.ptr r i f ∈ cs)
 | [],r=>by simp [bq]
 | c::cs,r=>by
  have ih:=C8 (cs:=cs) (r:=r)
  cases c <;> simp [bq,ih,List.mem_cons] <;> grind
theorem ky.sub {L M:List Nat} {A B:Hp} (h:ky L A B) (hs:∀ r ∈ M,r ∈ L):ky M A B:=fun r hr=>h r (hs r hr)
theorem qA {cs ds:List AV} (h:∀ c ∈ ds,c ∈ cs):∀ r ∈ bq ds,r ∈ bq cs:=fun r hr=>by
 rw [C8] at hr ⊢
 rcases hr with q | ⟨i,f,q⟩
 · exact Or.inl (h _ q)
 · exact Or.inr ⟨i,f,h _ q⟩
theorem qL:∀ {us:iz} {r:Nat} {x:pA},(r,x) ∈ us→(∀ p e l,x ≠ .fro p e l)→r ∈ jW us
 | [],_,_,h,_=>by cases h
 | (s,y)::us,r,x,h,hx=>by
  unfold jW
  rcases List.mem_cons.1 h with q | q
  · cases q
    split
    · rename_i q;cases q
    · rename_i q;cases q;exact absurd rfl (hx _ _ _)
    · rename_i q;cases q;exact List.mem_cons_self ..
  · have:=qL q hx
    split
    · rename_i q;cases q
    · rename_i q;cases q;exact this
    · rename_i q;cases q;exact List.mem_cons_of_mem _ this
section
variable {A B:Hp}
theorem qa {e:Ty} {c:AV} (h:ky (bq [c]) A B):getSl B e c=getSl A e c:=by
 cases c <;> try rfl
 rename_i r
 simp only [getSl]
 rcases h r (by simp [bq]) with q | ⟨p,e',l,q1,q2⟩
 · rw [q]
 · rw [q1,q2]
theorem kK:∀ {t:Ty} {cs:List AV},ky (bq cs) A B→prj B t cs=prj A t cs
 | .bool,_,_=>rfl
 | .int _,_,_=>rfl
 | .str,_,_=>rfl
 | .slice e,cs,h=>by
  simp only [prj,s_]
  split
  · exact qa h
  · rfl
 | .pair a b,cs,h=>by
  simp only [prj]
  rw [kK (t:=a) (h.sub (qA fun c hc=>List.mem_of_mem_take hc)),kK (t:=b) (h.sub (qA fun c hc=>List.mem_of_mem_drop hc))]
 | .unit,_,_=>rfl
 | .opq,_,_=>rfl
theorem zi {c:AV} (h:ky (bq [c]) A B):taint1 B c=taint1 A c:=by
 cases c <;> try rfl
 rename_i r
 simp only [taint1]
 rcases h r (by simp [bq]) with q | ⟨p,e',l,q1,q2⟩
 · rw [q]
 · rw [q1,q2]
theorem mP:∀ {cs:List AV},ky (bq cs) A B→taint B cs=taint A cs
 | [],_=>rfl
 | c::cs,h=>by
  simp only [taint]
  rw [zi (h.sub (qA fun d hd=>by simp at hd;subst hd;exact List.mem_cons_self ..)),mP (h.sub (qA fun d hd=>List.mem_cons_of_mem _ hd))]
theorem lX:∀ {cs:List AV},ky (bq cs) A B→freeze B cs=freeze A cs
 | [],_=>rfl
 | c::cs,h=>by
  have ih:=lX (cs:=cs) (h.sub (qA fun d hd=>List.mem_cons_of_mem _ hd))
  cases c <;> try exact ih
  rename_i r
  simp only [freeze,ih]
  rcases h r (by simp [bq]) with q | ⟨p,e',l,q1,q2⟩
  · rw [q]
  · rw [q1,q2]
theorem HT {R:Type} {t:Ty} {a:AV} {k:AV→Option R} (h:ky (bq (cellsOf a)) A B):ld B t a k=ld A t a k:=by
 cases a <;> try rfl
 rename_i r i off
 simp only [ld]
 rcases h r (by simp [bq,cellsOf]) with q | ⟨p,e',l,q1,q2⟩
 · rw [q]
 · rw [q1,q2]
theorem xn {t:Ty} {a v:AV} {us:iz} (hs:kQ A t a v some=some us) (h1:ky (bq (cellsOf a)) A B) (h2:ky (bq (cellsOf v)) A B) (hh:∀ r ∈ jW us,r ∈ bq (cellsOf a)→B r=A r):kQ B t a v some=some us:=by
 unfold kQ at hs ⊢
 obtain ⟨hc,hs⟩:=aJ hs
 rw [hc,cond_true]
 split at hs
 · rename_i r i off _
   split at hs
   · rename_i cs hr
     obtain ⟨hle,hs⟩:=aJ hs
     cases hs
     rw [hh r (qL (List.mem_singleton.2 rfl) (fun _ _ _ q=>by cases q)) (by simp [bq,cellsOf]),hr]
     simp only [hle,cond_true]
   · rename_i p e l hr
     obtain ⟨hn,hs⟩:=pY hs
     split at hs
     · rename_i y hy
       split at hs
       · rename_i z hz
         cases hs
         rw [hh r (qL (List.mem_append_right _ (List.mem_singleton.2 rfl)) (fun _ _ _ q=>by cases q)) (by simp [bq,cellsOf]),hr]
         simp only [hn,cond_false,kK h2,hy,hz,lX h2,mP h2]
       · cases hs
     · cases hs
   · cases hs
 · cases hs
theorem uv {R:Type} {tb:lM} {t:Nat} {x i:AV} {k:AV→Option R} (h:ky (bq (cellsOf x)) A B):indexAddr tb B t x i k=indexAddr tb A t x i k:=by
 unfold indexAddr
 split
 · cases x <;> try rfl
   rename_i r
   simp only []
   rcases h r (by simp [bq,cellsOf]) with q | ⟨p,e',l,q1,q2⟩
   · rw [q]
   · rw [q1,q2]
 · rfl
theorem xY {R:Type} {u:Ty} {x:AV} {lo hi:Option AV} {k:AV→iz→Option R} (h:ky (bq (cellsOf x)) A B):kF u B x lo hi k=kF u A x lo hi k:=by
 cases x with
 | ref r =>
  cases u <;> try rfl
  simp only [kF]
  rcases h r (by simp [bq,cellsOf]) with q | ⟨p,e',l,q1,q2⟩
  · rw [q]
  · rw [q1,q2]
 | _=>cases u <;> rfl
theorem CA {R:Type} {u:Ty} {x:AV} {k:AV→Option R} (h:ky (bq (cellsOf x)) A B):lenOf u B x k=lenOf u A x k:=by
 cases x with
 | ref r =>
  cases u <;> try rfl
  simp only [lenOf]
  rcases h r (by simp [bq,cellsOf]) with q | ⟨p,e',l,q1,q2⟩
  · rw [q]
  · rw [q1,q2]
 | _=>cases u <;> rfl
theorem wU {c:AV}:∀ r ∈ bq [c],r ∈ bq (cellsOf c):=by
 intro r hr
 cases c <;> simp_all [bq,cellsOf]
theorem wD {e:Ty} {id:Nat} {d s v:AV} {us:iz} (hs:j7 e A id d s (fun v us=>some (v,us))=some (v,us)) (h1:ky (bq (cellsOf d)) A B) (h2:ky (bq (cellsOf s)) A B) (hh:∀ r ∈ jW us,r ∈ bq (cellsOf d)→B r=A r) :
 j7 e B id d s (fun v us=>some (v,us))=some (v,us):=by
 unfold j7 at hs ⊢
 have h2':=h2.sub wU
 rw [qa h2']
 split at hs
 · cases hs
 · split at hs
   · rw [mP h2'];exact hs
   · rename_i r
     split at hs
     · rename_i p t l hr
       split at hs
       · rename_i ld hld
         obtain ⟨hle,hs⟩:=aJ hs
         cases hs
         have hB:B r=A r:=hh r (qL (List.mem_cons_self ..) (fun _ _ _ q=>by cases q)) (by simp [bq,cellsOf])
         rw [hB,hr]
         simp only [hld,hle,cond_true,mP h2']
       · cases hs
     · cases hs
   · cases hs
theorem Da:∀ {ts:List Ty} {vs:List AV},(∀ v ∈ vs,ky (bq (cellsOf v)) A B)→args B ts vs=args A ts vs
 | [],[],_=>rfl
 | [],_::_,_=>rfl
 | _::_,[],_=>rfl
 | t::ts,v::vs,h=>by
  simp only [args]
  rw [kK (h v (List.mem_cons_self ..)),Da fun u hu=>h u (List.mem_cons_of_mem _ hu)]
theorem uT {e:Ty} {ρ:Operand→AV}:∀ {ps:List (Nat × Operand)} {l:List e.den} {b:Bool},(∀ p ∈ ps,ky (bq (cellsOf (ρ p.2))) A B)→elems B e ρ ps l b=elems A e ρ ps l b
 | [],_,_,_=>rfl
 | (i,x)::ps,l,b,h=>by
  have h0:ky (bq (cellsOf (ρ x))) A B:=h (i,x) (List.mem_cons_self ..)
  simp only [elems]
  rw [kK h0,mP h0]
  split
  · rw [uT fun p hp=>h p (List.mem_cons_of_mem _ hp)]
  · rfl
theorem Bl {v:AV} (h:ky (bq [v]) A B):pg B v=pg A v:=by
 cases v <;> try rfl
 rename_i r i f
 simp only [pg]
 rcases h r (by simp [bq]) with q | ⟨p,e,l,q1,q2⟩
 · rw [q]
 · rw [q1,q2]
theorem lU:∀ {cs:List AV},(∀ r ∈ bq cs,B r=A r)→eD B cs=eD A cs
 | [],_=>rfl
 | c::cs,h=>by
  cases c <;> simp only [eD] <;> first
   | rfl
   | exact lU (cs:=cs) h
   | (rw [h _ (by simp [bq]),lU (cs:=cs) fun r q=>h r (by simp [bq,q])])
theorem u0 {hp:Hp} {p:Bool}:∀ {t:Ty} {x y:t.den} {cs:List AV},prj hp t cs=some x→eD hp cs=true→(nk p t y cs).map (·.1)=bq cs
 | .bool,x,y,cs,hx,hf=>by
  simp only [prj] at hx
  unfold tF at hx
  split at hx
  · rfl
  · cases hx
 | .int k,x,y,cs,hx,hf=>by
  simp only [prj] at hx
  unfold vV at hx
  split at hx
  · rfl
  · cases hx
 | .str,x,y,cs,hx,hf=>by
  simp only [prj] at hx
  unfold xR at hx
  split at hx
  · rfl
  · cases hx
 | .unit,x,y,cs,hx,hf=>by
  simp only [prj] at hx
  unfold tH at hx
  split at hx
  · rfl
  · cases hx
 | .opq,x,y,cs,hx,hf=>by cases hx
 | .pair s t,x,y,cs,hx,hf=>by
  simp only [prj] at hx
  obtain ⟨h1,h2⟩:=cE hx
  have app:∀ cs ds:List AV,eD hp (cs++ds)=true→eD hp cs=true∧eD hp ds=true:=by
   intro cs ds
   induction cs with
   | nil=>exact fun q=>⟨rfl,q⟩
   | cons c cs ih =>
    intro q
    cases c <;> simp only [List.cons_append,eD,Bool.and_eq_true] at q ⊢ <;> first | (cases q;done) | (exact ih q) | (exact ⟨⟨q.1,(ih q.2).1⟩,(ih q.2).2⟩)
  obtain ⟨f1,f2⟩:=app (cs.take s.size) (cs.drop s.size) (by rw [List.take_append_drop];exact hf)
  show (nk p s y.1 _++nk p t y.2 _).map (·.1)=_
  rw [List.map_append,u0 h1 f1,u0 h2 f2,← qk]
 | .slice e,x,y,cs,hx,hf=>by
  simp only [prj] at hx
  unfold s_ at hx
  split at hx
  · rename_i c
    cases c <;> first | rfl | (simp [getSl] at hx;done) | (simp [eD] at hf;done)
  · cases hx
theorem nI {hp:Hp} {al:Bool}:∀ {A:List Pm} {vs:List AV} {x:(tup (nh A)).den} {y:(tup (gG A)).den} {id:Nat},eW hp A vs=some x→∀ r ∈ ll hp A vs,r ∈ (ix hp al A vs y id).map (·.1)
 | [],_,_,_,_,_,r,hr=>by cases hr
 | .val t::A,vs,x,y,id,hx,r,hr=>by
  cases vs with
  | nil=>simp only [eW] at hx;cases hx
  | cons v vs =>
   simp only [eW] at hx
   exact nI (A:=A) (cE (aJ hx).2).2 r hr
 | .lend t::A,vs,x,y,id,hx,r,hr=>by
  cases vs with
  | nil=>simp only [eW] at hx;cases hx
  | cons v vs =>
   simp only [eW] at hx
   have h1:=aJ hx
   have h2:=cE h1.2
   simp only [ll,List.headD_cons,List.tail_cons,List.mem_append] at hr
   simp only [ix,List.headD_cons,List.tail_cons,List.map_append,List.mem_append]
   rcases hr with q | q
   · left
     rw [u0 h2.1 (Bool.and_eq_true _ _▸h1.1:_∧_).2]
     exact q
   · exact Or.inr (nI (A:=A) h2.2 r q)
 | .give t::A,vs,x,y,id,hx,r,hr=>by
  cases vs with
  | nil=>simp only [eW] at hx;cases hx
  | cons v vs =>
   simp only [eW] at hx
   have h1:=aJ hx
   have h2:=cE h1.2
   simp only [ll,List.headD_cons,List.tail_cons,List.mem_append] at hr
   simp only [ix,List.headD_cons,List.tail_cons,List.map_append,List.mem_append]
   rcases hr with q | q
   · left;rw [pI];exact q
   · exact Or.inr (nI (A:=A) h2.2 r q)
 | .fn f n::A,vs,x,y,id,hx,r,hr=>nI (A:=A) hx r hr
 | .io o t::A,vs,x,y,id,hx,r,hr=>by
  cases vs with
  | nil=>simp only [eW] at hx;cases hx
  | cons v vs =>
   simp only [eW] at hx
   split at hx
   · rename_i cs hcs
     obtain ⟨r0,hv,hrow⟩:=pL hcs
     subst hv
     obtain ⟨ho,hx⟩:=aJ hx
     simp only [ll,List.headD_cons,List.tail_cons,hcs,Option.getD_some,bq,List.cons_append,List.nil_append,List.mem_cons,List.mem_append] at hr
     cases o with
     | true =>
      simp only [ix,List.headD_cons,List.tail_cons,hcs,Option.getD_some,cond_true,yl,List.map_append,List.map_cons,List.mem_append,List.mem_cons,pI]
      rcases hr with q | q | q
      · exact Or.inr (Or.inl q)
      · exact Or.inl q
      · exact Or.inr (Or.inr (Or.inr (nI (A:=A) (cE hx).2 r q)))
     | false =>
      simp only [ix,List.headD_cons,List.tail_cons,hcs,Option.getD_some,cond_false,yl,List.map_cons,List.mem_cons]
      rcases hr with q | q | q
      · exact Or.inl q
      · cases q
      · exact Or.inr (nI (A:=A) (cE hx).2 r q)
   · cases hx
theorem jt:∀ {Q:List Pm} {vs:List AV} {x:(tup (nh Q)).den},eW A Q vs=some x→ky (ll A Q vs++po A Q vs) A B→(∀ r ∈ ll A Q vs,B r=A r) →
 eW B Q vs=some x∧ll B Q vs=ll A Q vs∧po B Q vs=po A Q vs∧∀ al y id,ix B al Q vs y id=ix A al Q vs y id
 | [],vs,x,hx,_,_=>⟨hx,rfl,rfl,fun _ _ _=>rfl⟩
 | .val t::Q,vs,x,hx,hf,hh=>by
  cases vs with
  | nil=>simp only [eW] at hx;cases hx
  | cons v vs =>
   simp only [eW] at hx ⊢
   simp only [ll,po,List.headD_cons,List.tail_cons] at hf hh ⊢
   have h1:=aJ hx
   have h2:=cE h1.2
   obtain ⟨g1,g2,g3,g4⟩:=jt (Q:=Q) h2.2 (hf.sub fun r q=>by
    rcases List.mem_append.1 q with q | q
    · exact List.mem_append_left _ q
    · exact List.mem_append_right _ (List.mem_append_right _ q)) hh
   refine ⟨?_,g2,by rw [g3],fun al y id=>g4 al y id⟩
   rw [kK (hf.sub fun r q=>List.mem_append_right _ (List.mem_append_left _ q)),h2.1,g1,h1.1]
   rfl
 | .lend t::Q,vs,x,hx,hf,hh=>by
  cases vs with
  | nil=>simp only [eW] at hx;cases hx
  | cons v vs =>
   simp only [eW] at hx ⊢
   simp only [ll,po,List.headD_cons,List.tail_cons] at hf hh ⊢
   have h1:=aJ hx
   have h2:=cE h1.2
   obtain ⟨g1,g2,g3,g4⟩:=jt (Q:=Q) h2.2 (hf.sub fun r q=>by
    rcases List.mem_append.1 q with q | q
    · exact List.mem_append_left _ (List.mem_append_right _ q)
    · exact List.mem_append_right _ q) (fun r q=>hh r (List.mem_append_right _ q))
   refine ⟨?_,by rw [g2],g3,fun al y id=>by simp only [ix,List.headD_cons,List.tail_cons,g4]⟩
   rw [lU fun r q=>hh r (List.mem_append_left _ q),kK (hf.sub fun r q=>List.mem_append_left _ (List.mem_append_left _ q)),h2.1,g1,h1.1]
   rfl
 | .give t::Q,vs,x,hx,hf,hh=>by
  cases vs with
  | nil=>simp only [eW] at hx;cases hx
  | cons v vs =>
   simp only [eW] at hx ⊢
   simp only [ll,po,List.headD_cons,List.tail_cons] at hf hh ⊢
   have h1:=aJ hx
   have h2:=cE h1.2
   obtain ⟨g1,g2,g3,g4⟩:=jt (Q:=Q) h2.2 (hf.sub fun r q=>by
    rcases List.mem_append.1 q with q | q
    · exact List.mem_append_left _ (List.mem_append_right _ q)
    · exact List.mem_append_right _ q) (fun r q=>hh r (List.mem_append_right _ q))
   refine ⟨?_,by rw [g2],g3,fun al y id=>congrArg (qf (bq (cellsOf v))++·) (g4 al y id)⟩
   rw [lU fun r q=>hh r (List.mem_append_left _ q),kK (hf.sub fun r q=>List.mem_append_left _ (List.mem_append_left _ q)),h2.1,g1,h1.1]
   rfl
 | .fn f n::Q,vs,x,hx,hf,hh=>jt (Q:=Q) hx hf hh
 | .io o t::Q,vs,x,hx,hf,hh=>by
  cases vs with
  | nil=>simp only [eW] at hx;cases hx
  | cons v vs =>
   have hbx:pg B v=pg A v:=Bl (hf.sub fun r q=>List.mem_append_left _ (by simp only [ll,List.headD_cons];exact List.mem_append_left _ q))
   simp only [eW,hbx] at hx ⊢
   cases hcs:pg A v with
   | none=>rw [hcs] at hx;cases hx
   | some cs =>
    rw [hcs] at hx
    simp only [] at hx ⊢
    simp only [ll,po,List.headD_cons,List.tail_cons,hbx,hcs,Option.getD_some] at hf hh ⊢
    have h1:=aJ hx
    have h2:=cE h1.2
    obtain ⟨g1,g2,g3,g4⟩:=jt (Q:=Q) h2.2 (hf.sub fun r q=>by
     rcases List.mem_append.1 q with q | q
     · exact List.mem_append_left _ (List.mem_append_right _ (List.mem_append_right _ q))
     · exact List.mem_append_right _ (List.mem_append_right _ q)) (fun r q=>hh r (List.mem_append_right _ (List.mem_append_right _ q)))
    have hcf:ky (bq cs) A B:=hf.sub fun r q=>by
     cases o with
     | true=>exact List.mem_append_left _ (List.mem_append_right _ (List.mem_append_left _ q))
     | false=>exact List.mem_append_right _ (List.mem_append_left _ q)
    have hfo:(!o||eD B cs)=(!o||eD A cs):=by
     cases o with
     | true=>rw [lU fun r q=>hh r (List.mem_append_right _ (List.mem_append_left _ q))]
     | false=>rfl
    refine ⟨?_,by rw [g2],by rw [g3],fun al y id=>by simp only [ix,List.headD_cons,List.tail_cons,hbx,g4]⟩
    rw [hfo,kK hcf,h2.1,g1,h1.1]
    rfl
theorem BW {c:Cn} {id nx:Nat} {as:List AV} {v:AV} {us:iz} (hs:qY c A id as (fun v us nx=>some (v,us,nx))=some (v,us,nx))
 (h:∀ vs,gK c.A as=some vs→ky (ll A c.A vs++po A c.A vs) A B) (hh:∀ vs,gK c.A as=some vs→∀ r ∈ jW us,r ∈ ll A c.A vs→B r=A r) :
 qY c B id as (fun v us nx=>some (v,us,nx))=some (v,us,nx):=by
 have hs0:=hs
 unfold qY at hs ⊢
 cases hf:gK c.A as with
 | none=>rw [hf] at hs;cases hs
 | some vs =>
 rw [hf] at hs
 simp only [] at hs ⊢
 cases hx:eW A c.A vs with
 | none=>rw [hx] at hs;cases hs
 | some x =>
 rw [hx] at hs
 simp only [] at hs
 have h1:=aJ hs
 cases hy:c.fn x with
 | none=>have h2:=h1.2;rw [hy] at h2;cases h2
 | some y =>
 have h2:=h1.2
 rw [hy] at h2
 simp only [Option.some.injEq,Prod.mk.injEq] at h2
 have hgv:∀ r ∈ ll A c.A vs,B r=A r:=fun r q=>by
  refine hh vs hf r ?_ q
  obtain ⟨z,hz,rfl⟩:=List.mem_map.1 (nI (al:=c.al) (y:=AJ (gG c.A) y) (id:=id) hx r q)
  rw [← h2.2.1]
  exact qL (x:=z.2) (List.mem_append_right _ (List.mem_append_left _ hz)) (jN z.1 z.2 hz)
 obtain ⟨g1,g2,g3,g4⟩:=jt hx (h vs hf) hgv
 have hrefs:∀ l:List Nat,bq (l.map AV.ref)=l:=by
  intro l
  induction l with
  | nil=>rfl
  | cons r l ih=>simp [bq,ih]
 rw [g1,g2,g3]
 simp only [hy]
 rw [g4,lX (A:=A) (B:=B) (by rw [hrefs];exact (h vs hf).sub fun r q=>List.mem_append_right _ q)]
 rw [hy] at hs
 exact hs
theorem DF {c:Cn} {id nx:Nat} {as:List AV} {v:AV} {us:iz} (hs:wJ c A id as (fun v us nx=>some (v,us,nx))=some (v,us,nx))
 (h:∀ vs,gK c.A as=some vs→ky (ll A c.A vs++po A c.A vs) A B) :
 wJ c B id as (fun v us nx=>some (v,us,nx))=some (v,us,nx):=by
 have hs0:=hs
 unfold wJ at hs ⊢
 cases hf:gK c.A as with
 | none=>rw [hf] at hs;cases hs
 | some vs =>
 rw [hf] at hs
 simp only [] at hs ⊢
 cases hx:eW A c.A vs with
 | none=>rw [hx] at hs;cases hs
 | some x =>
 rw [hx] at hs
 simp only [] at hs
 have h1:=aJ hs
 have hgv:∀ r ∈ ll A c.A vs,B r=A r:=fun r q=>by
  rw [List.isEmpty_iff.1 h1.1] at q
  cases q
 obtain ⟨g1,g2,g3,g4⟩:=jt hx (h vs hf) hgv
 have hrefs:∀ l:List Nat,bq (l.map AV.ref)=l:=by
  intro l
  induction l with
  | nil=>rfl
  | cons r l ih=>simp [bq,ih]
 rw [g1,g2,g3,lX (A:=A) (B:=B) (by rw [hrefs];exact (h vs hf).sub fun r q=>List.mem_append_right _ q)]
 exact hs
theorem C4 {c:Cn} {id nx:Nat} {as:List AV} {v:AV} {us:iz} (hs:qQ c A id as (fun v us nx=>some (v,us,nx))=some (v,us,nx))
 (h:∀ vs,gK c.A as=some vs→ky (ll A c.A vs++po A c.A vs) A B) (hh:∀ vs,gK c.A as=some vs→∀ r ∈ jW us,r ∈ ll A c.A vs→B r=A r) :
 qQ c B id as (fun v us nx=>some (v,us,nx))=some (v,us,nx):=by
 unfold qQ at hs ⊢
 cases hb:rJ c.R with
 | false=>rw [hb] at hs;exact BW hs h hh
 | true=>rw [hb] at hs;exact DF hs h
theorem K_ {α:Type} {f:α→List AV}:∀ {l:List α} {x:α},x ∈ l→∀ r ∈ bq (f x),r ∈ l.flatMap fun x=>bq (f x):=fun hx r hr=>List.mem_flatMap.2 ⟨_,hx,hr⟩
theorem uh:∀ {cs ds:List AV},bq (cs++ds)=bq cs++bq ds
 | [],_=>rfl
 | c::cs,ds=>by cases c <;> simp [bq,uh (cs:=cs)]
theorem tK {α:Type} {f:α→List AV}:∀ {l:List α},bq (l.flatMap f)=l.flatMap fun x=>bq (f x)
 | []=>rfl
 | x::l=>by simp [uh,tK (l:=l)]
theorem mQ {tb:lM} {tm:List AV} {t:Nat} {x:Operand}:bq (cellsOf (val tb tm t x))=bq (cellsOf (val tb tm 0 x)):=by
 cases x with
 | tmp i=>rfl
 | func f=>rfl
 | global g=>rfl
 | const v =>
  simp only [val]
  unfold Kg
  cases v <;> try rfl
  rename_i a n c
  cases a <;> try rfl
  cases n <;> try rfl
  cases c <;> try rfl
  simp only []
  split <;> (split <;> rfl)
theorem CN {tb:lM} {ct:List (Nat × Cn)} {o:Oper} {tm:List AV} {id nx:Nat} {v:AV} {us:iz} (hs:eQ tb ct o tm A id (fun v us nx=>some (v,us,nx))=some (v,us,nx))
 (h:ky (reads tb ct o tm A) A B) (hh:∀ r ∈ jW us,r ∈ reads tb ct o tm A→B r=A r):eQ tb ct o tm B id (fun v us nx=>some (v,us,nx))=some (v,us,nx):=by
 cases hop:o.op with
 | load t x =>
  simp only [eQ,hop,reads] at hs h ⊢
  split at hs
  · rename_i u hu
    try simp only [hu]
    rw [HT h];exact hs
  · cases hs
 | store t x y =>
  simp only [eQ,hop,reads] at hs h hh ⊢
  split at hs
  · rename_i u hu
    try simp only [hu]
    rw [kC] at hs
    cases hl:kQ A u (val tb tm 0 x) (val tb tm t y) some with
    | none=>rw [hl] at hs;cases hs
    | some us' =>
     rw [hl] at hs
     cases hs
     rw [kC]
     have h1:ky (bq (cellsOf (val tb tm 0 x))) A B:=h.sub fun r hr=>List.mem_append_left _ hr
     have h2:ky (bq (cellsOf (val tb tm t y))) A B:=h.sub fun r hr=>List.mem_append_right _ (by rw [← mQ (t:=t)];exact hr)
     rw [xn hl h1 h2 fun r hr hm=>hh r hr (List.mem_append_left _ hm)]
     rfl
  · cases hs
 | indexAddr t x i =>
  simp only [eQ,hop,reads] at hs h ⊢
  rw [uv (by rw [mQ];exact h)]
  exact hs
 | slice t x lo hi mx =>
  cases mx with
  | some _=>simp only [eQ,hop] at hs;cases hs
  | none =>
   simp only [eQ,hop,reads] at hs h ⊢
   rw [xY (by rw [mQ];exact h)]
   exact hs
 | convert s d x =>
  simp only [eQ,hop,reads] at hs h ⊢
  split at hs
  · rename_i h1 h2 h3
    try simp only [h1,h2,h3]
    exact hs
  · rename_i h1 h2 h3
    try simp only [h1,h2,h3]
    exact hs
  · rename_i h1 h2 h3
    rw [qa (A:=A) (B:=B) (ky.sub (by rw [mQ];exact h) wU)]
    exact hs
  · cases hs
 | buildSlice t n ps =>
  simp only [eQ,hop,reads] at hs h ⊢
  split at hs
  · rename_i e he
    try simp only [he]
    have h1:∀ p ∈ ps.toList,ky (bq (cellsOf (val tb tm 0 p.2))) A B:=fun p hp=>h.sub fun r hr=>List.mem_flatMap.2 ⟨p,hp,hr⟩
    rw [uT h1,lX (A:=A) (B:=B) (by rw [tK];exact h)]
    exact hs
  · cases hs
 | call c =>
  have h1:∀ x ∈ c.args.toList,ky (bq (cellsOf (val tb tm 0 x))) A B:=fun x hx=>h.sub fun r hr=>by
   simp only [reads,hop]
   exact List.mem_append_left _ (List.mem_flatMap.2 ⟨x,hx,hr⟩)
  simp only [eQ,hop] at hs ⊢
  split at hs
  · rename_i hc
    try simp only [hc]
    split at hs
    · rename_i x t ha ht
      try simp only [ha,ht]
      rw [CA (by rw [mQ];exact h1 x (by rw [ha];simp))]
      exact hs
    · cases hs
  · rename_i hc
    try simp only [hc]
    split at hs
    · rename_i d s t t' ha ht
      try simp only [ha,ht]
      split at hs
      · rename_i e he
        try simp only [he]
        cases hb:Nat.beq t t' with
        | false=>rw [hb] at hs;cases hs
        | true =>
         rw [hb,cond_true] at hs
         rw [cond_true,iE]
         rw [iE] at hs
         cases hl:j7 e A id (val tb tm t d) (val tb tm t s) (fun v us=>some (v,us)) with
         | none=>rw [hl] at hs;cases hs
         | some z =>
          obtain ⟨z1,z2⟩:=z
          rw [hl] at hs
          cases hs
          rw [wD hl (by rw [mQ];exact h1 d (by rw [ha];simp)) (by rw [mQ];exact h1 s (by rw [ha];simp)) ?_]
          · rfl
          · intro r hr hm
            refine hh r hr ?_
            simp only [reads,hop]
            exact List.mem_append_left _ (List.mem_flatMap.2 ⟨d,by rw [ha];simp,by rw [← mQ (t:=t)];exact hm⟩)
      · cases hs
    · cases hs
  · rename_i hc
    try simp only [hc]
    exact hs
  · rename_i hc
    try simp only [hc]
    exact hs
  · rename_i x hc
    try simp only [hc]
    split at hs
    · rename_i q hq
      try simp only [hq]
      have hsub:∀ vs,gK q.1.A q.2=some vs→∀ r ∈ ll A q.1.A vs++po A q.1.A vs,r ∈ reads tb ct o tm A:=fun vs hvs r hr=>by
       simp only [reads,hop,hc,hq,hvs]
       exact List.mem_append_right _ hr
      exact C4 (A:=A) (B:=B) hs (fun vs hvs=>h.sub (hsub vs hvs)) (fun vs hvs r hr hm=>hh r hr (hsub vs hvs r (List.mem_append_left _ hm)))
    · cases hs
  · cases hs
 | makeFunc fn first caps =>
  cases fn with
  | func f=>simp only [eQ,hop] at hs ⊢;exact hs
  | _=>unfold eQ at hs;rw [hop] at hs;cases hs
 | _=>unfold eQ at hs ⊢;rw [hop] at hs ⊢;exact hs
end
end Go.V
end
section
set_option linter.unusedVariables false
set_option linter.unusedSimpArgs false
namespace Go.V
open Go.RowKit
section
variable {tb:lM} {ct:List (Nat × Cn)} {tm tm':List AV} {hp:Hp} {id:Nat} {R:Type}
theorem Dz {f g:Operand→AV} {o:Option Operand} (h:∀ x ∈ o.toList,f x=g x):o.map f=o.map g:=by
 cases o with
 | none=>rfl
 | some x=>simp [h x (by simp)]
theorem oq {offs:List (Nat × Nat)} {f g:Operand→AV}:∀ {ps:List (Nat × Operand)} {z:List AV},(∀ p ∈ ps,f p.2=g p.2)→jz z offs f ps=jz z offs g ps
 | [],_,_=>rfl
 | (i,x)::ps,z,h=>by
  have h0:f x=g x:=h (i,x) (List.mem_cons_self ..)
  simp only [jz,h0]
  split
  · rw [oq fun p hp=>h p (List.mem_cons_of_mem _ hp)]
  · rfl
theorem ue {e:Ty} {f g:Operand→AV}:∀ {ps:List (Nat × Operand)} {l:List e.den} {b:Bool},(∀ p ∈ ps,f p.2=g p.2)→elems hp e f ps l b=elems hp e g ps l b
 | [],_,_,_=>rfl
 | (i,x)::ps,l,b,h=>by
  have h0:f x=g x:=h (i,x) (List.mem_cons_self ..)
  simp only [elems,h0]
  split
  · rw [ue fun p hp=>h p (List.mem_cons_of_mem _ hp)]
  · rfl
theorem lT {α β:Type} {f g:α→List β}:∀ {l:List α},(∀ x ∈ l,f x=g x)→l.flatMap f=l.flatMap g
 | [],_=>rfl
 | x::l,h=>by simp [h x (List.mem_cons_self ..),lT fun y hy=>h y (List.mem_cons_of_mem _ hy)]
theorem IA {o:Oper} {k:AV→iz→Nat→Option R} (h:∀ x ∈ o.op.operands.toList,∀ T,val tb tm' T x=val tb tm T x) :
 eQ tb ct o tm' hp id k=eQ tb ct o tm hp id k∧reads tb ct o tm' hp=reads tb ct o tm hp:=by
 cases hop:o.op with
 | buildSlice t n ps =>
  have h0:∀ p ∈ ps.toList,val tb tm' 0 p.2=val tb tm 0 p.2:=fun p hp=>h p.2 (by rw [hop];simp only [Op.operands,List.toList_toArray];exact List.mem_map_of_mem hp) 0
  simp only [eQ,reads,hop]
  have e1:ps.toList.flatMap (fun p=>cellsOf (val tb tm' 0 p.2))=ps.toList.flatMap (fun p=>cellsOf (val tb tm 0 p.2)):=lT fun p hp=>by rw [h0 p hp]
  rw [e1]
  refine ⟨?_,lT fun p hp=>by rw [h0 p hp]⟩
  split
  · rw [ue h0]
  · rfl
 | build t ps =>
  have h0:∀ p ∈ ps.toList,val tb tm' 0 p.2=val tb tm 0 p.2:=fun p hp=>h p.2 (by rw [hop];simp only [Op.operands,List.toList_toArray];exact List.mem_map_of_mem hp) 0
  simp only [eQ,reads,hop]
  exact ⟨by
   split
   · rw [oq h0]
   · rfl,trivial⟩
 | makeFunc fn first caps =>
  have h0:caps.toList.map (val tb tm' 0)=caps.toList.map (val tb tm 0):=List.map_congr_left fun x hx=>h x (by rw [hop];simp only [Op.operands,Array.toList_append];exact List.mem_append_right _ hx) 0
  cases fn <;> simp only [eQ,reads,hop]
  · exact ⟨by rw [h0],trivial⟩
  all_goals exact ⟨trivial,trivial⟩
 | call c =>
  have hin:∀ x ∈ c.args.toList,∀ T,val tb tm' T x=val tb tm T x:=fun x hx=>h x (by rw [hop];simp only [Op.operands,Call.operands,Array.toList_append];exact List.mem_append_right _ hx)
  have h0:c.args.toList.map (val tb tm' 0)=c.args.toList.map (val tb tm 0):=List.map_congr_left fun x hx=>hin x hx 0
  have hcal:∀ x,c.callee = .value x→oa tb ct tm' x (c.args.toList.map (val tb tm' 0))=oa tb ct tm x (c.args.toList.map (val tb tm 0)):=fun x hx=>by
   rw [h0]
   unfold oa
   rw [h x (by rw [hop];simp only [Op.operands,Call.operands,Array.toList_append,hx];exact List.mem_append_left _ (by simp)) 0]
  simp only [eQ,reads,hop]
  refine ⟨?_,?_⟩
  · split
    · split
      · rename_i x t ha ht
        rw [hin x (by rw [ha];simp)]
      · rfl
    · split
      · rename_i d s t t' ha ht
        split
        · rw [hin d (by rw [ha];simp),hin s (by rw [ha];simp)]
        · rfl
      · rfl
    · rw [h0]
    · rw [h0]
    · rename_i x hc
      rw [hcal x hc]
    · rfl
  · rw [lT (f:=fun x=>bq (cellsOf (val tb tm' 0 x))) (g:=fun x=>bq (cellsOf (val tb tm 0 x))) fun x hx=>by rw [hin x hx]]
    congr 1
    split
    · rename_i x hc
      rw [hcal x hc]
    · rfl
 | slice t x lo hi mx =>
  have hx:=h x (by rw [hop];simp [Op.operands])
  have hl:lo.map (val tb tm' 0)=lo.map (val tb tm 0):=Dz fun y hy=>h y (by rw [hop];simp [Op.operands] at hy ⊢;simp [hy]) 0
  have hh:hi.map (val tb tm' 0)=hi.map (val tb tm 0):=Dz fun y hy=>h y (by rw [hop];simp [Op.operands] at hy ⊢;simp [hy]) 0
  cases mx <;> simp only [eQ,reads,hop,hx,hl,hh] <;> exact ⟨trivial,trivial⟩
 | pick c x y =>
  have h1:=h c (by rw [hop];simp [Op.operands])
  have h2:=h x (by rw [hop];simp [Op.operands])
  have h3:=h y (by rw [hop];simp [Op.operands])
  simp only [eQ,reads,hop,h1,h2,h3]
  exact ⟨trivial,trivial⟩
 | store t x y =>
  have h1:=h x (by rw [hop];simp [Op.operands])
  have h2:=h y (by rw [hop];simp [Op.operands])
  simp only [eQ,reads,hop,h1,h2]
  exact ⟨trivial,trivial⟩
 | binOp op t x y u =>
  have h1:=h x (by rw [hop];simp [Op.operands])
  have h2:=h y (by rw [hop];simp [Op.operands])
  simp only [eQ,reads,hop,h1,h2]
  exact ⟨trivial,trivial⟩
 | makeSlice t x y =>
  have h1:=h x (by rw [hop];simp [Op.operands])
  have h2:=h y (by rw [hop];simp [Op.operands])
  simp only [eQ,reads,hop,h1,h2]
  exact ⟨trivial,trivial⟩
 | indexAddr t x y =>
  have h1:=h x (by rw [hop];simp [Op.operands])
  have h2:=h y (by rw [hop];simp [Op.operands])
  simp only [eQ,reads,hop,h1,h2]
  exact ⟨trivial,trivial⟩
 | index t x y =>
  have h1:=h x (by rw [hop];simp [Op.operands])
  have h2:=h y (by rw [hop];simp [Op.operands])
  simp only [eQ,reads,hop,h1,h2]
  exact ⟨trivial,trivial⟩
 | alloc t=>simp only [eQ,reads,hop];exact ⟨trivial,trivial⟩
 | move x=>have h1:=h x (by rw [hop];simp [Op.operands]);simp only [eQ,reads,hop,h1];exact ⟨trivial,trivial⟩
 | assign x=>have h1:=h x (by rw [hop];simp [Op.operands]);simp only [eQ,reads,hop,h1];exact ⟨trivial,trivial⟩
 | box t x=>have h1:=h x (by rw [hop];simp [Op.operands]);simp only [eQ,reads,hop,h1];exact ⟨trivial,trivial⟩
 | load t x=>have h1:=h x (by rw [hop];simp [Op.operands]);simp only [eQ,reads,hop,h1];exact ⟨trivial,trivial⟩
 | nilCheck x=>have h1:=h x (by rw [hop];simp [Op.operands]);simp only [eQ,reads,hop,h1];exact ⟨trivial,trivial⟩
 | unOp op t x=>have h1:=h x (by rw [hop];simp [Op.operands]);simp only [eQ,reads,hop,h1];exact ⟨trivial,trivial⟩
 | convert s d x=>have h1:=h x (by rw [hop];simp [Op.operands]);simp only [eQ,reads,hop,h1];exact ⟨trivial,trivial⟩
 | fieldAddr s x f=>have h1:=h x (by rw [hop];simp [Op.operands]);simp only [eQ,reads,hop,h1];exact ⟨trivial,trivial⟩
 | field s x f=>have h1:=h x (by rw [hop];simp [Op.operands]);simp only [eQ,reads,hop,h1];exact ⟨trivial,trivial⟩
 | extract x i=>have h1:=h x (by rw [hop];simp [Op.operands]);simp only [eQ,reads,hop,h1];exact ⟨trivial,trivial⟩
 | _=>unfold eQ reads;rw [hop];exact ⟨rfl,rfl⟩
end
def AZ:iz→Nat→pA→pA
 | [],_,x=>x
 | u::us,r,x=>AZ us r (bif Nat.beq r u.1 then turn u.2 x else x)
theorem jv:∀ {us:iz} {hp:Hp} {r:Nat},applyF hp us r=AZ us r (hp r)
 | [],_,_=>rfl
 | u::us,hp,r=>by
  simp only [applyF,AZ]
  exact jv (us:=us)
theorem uA (x:pA):zy (zy x)=zy x:=by cases x <;> rfl
theorem DX (x:pA):(∀ y,turn x y=zy y)∨(∃ z,∀ y,turn x y=z):=by
 cases x
 · exact Or.inr ⟨_,fun _=>rfl⟩
 · exact Or.inr ⟨_,fun _=>rfl⟩
 · exact Or.inr ⟨_,fun _=>rfl⟩
 · exact Or.inl fun _=>rfl
theorem zr:∀ (us:iz) (r:Nat) {x y:pA},(y=x∨y=zy x)→(AZ us r y=AZ us r x∨AZ us r y=zy (AZ us r x))
 | [],_,_,_,h=>h
 | u::us,r,x,y,h=>by
  simp only [AZ]
  cases Nat.beq r u.1 with
  | false=>exact zr us r h
  | true =>
   simp only [cond_true]
   refine zr us r ?_
   rcases DX u.2 with q | ⟨z,q⟩
   · rw [q,q]
     rcases h with rfl | rfl
     · exact Or.inl rfl
     · exact Or.inl (uA _)
   · rw [q,q];exact Or.inl rfl
theorem qv:∀ {us:iz} {r:Nat},r ∉ us.map (·.1)→∀ x,AZ us r x=x
 | [],_,_,_=>rfl
 | u::us,r,h,x=>by
  simp only [List.map_cons,List.mem_cons,not_or] at h
  simp only [AZ]
  have:Nat.beq r u.1=false:=by
   cases hb:Nat.beq r u.1 with
   | false=>rfl
   | true=>exact absurd (Nat.eq_of_beq_eq_true hb) h.1
  rw [this]
  exact qv h.2 x
theorem xk {u:Nat × pA} {us:iz} {r:Nat} (h:r ∉ jW (u::us)):r ∉ jW us∧(r=u.1→∃ p e l,u.2 = .fro p e l):=by
 obtain ⟨s,x⟩:=u
 cases x <;> simp_all [jW]
theorem qj:∀ {us:iz} {r:Nat},r ∉ jW us→(∀ x,AZ us r x=x)∨(∀ x,AZ us r x=zy x)
 | [],_,_=>Or.inl fun _=>rfl
 | u::us,r,h=>by
  obtain ⟨h1,h2⟩:=xk h
  simp only [AZ]
  cases hb:Nat.beq r u.1 with
  | false=>exact qj h1
  | true =>
   simp only [cond_true]
   obtain ⟨p,e,l,q⟩:=h2 (Nat.eq_of_beq_eq_true hb)
   rw [q]
   right
   intro x
   rcases qj h1 with g | g
   · rw [g];rfl
   · rw [g];exact uA x
theorem Fi:∀ {us:iz} {r:Nat},r ∈ jW us→r ∈ us.map (·.1)
 | [],_,h=>by cases h
 | (s,x)::us,r,h=>by
  have ih:=Fi (us:=us) (r:=r)
  cases x <;> simp_all [jW] <;> grind
theorem GT {us vs:iz} {r:Nat} (h1:∀ r ∈ jW us,r ∉ vs.map (·.1)) (h2:∀ r ∈ jW vs,r ∉ us.map (·.1)) (x:pA):AZ vs r (AZ us r x)=AZ us r (AZ vs r x):=by
 by_cases a:r ∈ jW us
 · rw [qv (h1 r a),qv (h1 r a)]
 · by_cases b:r ∈ jW vs
   · rw [qv (h2 r b),qv (h2 r b)]
   · rcases qj a with p | p <;> rcases qj b with q | q <;> simp [p,q]
theorem sv:∀ {us:iz} {hp:Hp},pm us→applyF hp us=apply hp us
 | [],_,_=>rfl
 | u::us,hp,h=>by
  simp only [applyF,apply]
  have e:(fun n=>bif Nat.beq n u.1 then turn u.2 (hp n) else hp n)=jX hp u.1 u.2:=by
   funext n
   simp only [jX]
   have h0:=h u.1 u.2 (List.mem_cons_self ..)
   obtain ⟨s,x⟩:=u
   cases x <;> first | rfl | exact absurd rfl (h0 _ _ _)
  rw [e]
  exact sv fun r x hx=>h r x (List.mem_cons_of_mem _ hx)
theorem vm:∀ {us:iz} {hp:Hp},zv hp us→applyF hp us=apply hp us
 | [],_,_=>rfl
 | (r,x)::us,hp,h=>by
  obtain ⟨p,e,l,rfl,hr⟩:=h r x (List.mem_cons_self ..)
  simp only [applyF,apply]
  have e':(fun n=>bif Nat.beq n r then turn (.fro p e l) (hp n) else hp n)=jX hp r (.fro p e l):=by
   funext n
   simp only [jX]
   cases hb:Nat.beq n r with
   | false=>rfl
   | true =>
    simp only [cond_true]
    rw [Nat.eq_of_beq_eq_true hb]
    rcases hr with q | q <;> rw [q] <;> rfl
  rw [e']
  exact vm h.tail
theorem sb:∀ (us0:iz) {hp:Hp} {us1:iz},apply hp (us0++us1)=apply (apply hp us0) us1
 | [],_,_=>rfl
 | u::us,hp,us1=>sb us
theorem rT:∀ (us0:iz) {hp:Hp} {us1:iz},applyF hp (us0++us1)=applyF (applyF hp us0) us1
 | [],_,_=>rfl
 | u::us,hp,us1=>rT us
theorem gO.applyF {hp:Hp} {id nx:Nat} {us:iz} (h:gO hp id us nx):applyF hp us=apply hp us:=by
 obtain ⟨_,us0,us1,rfl,h0,h1⟩:=h
 rw [rT,sb,vm h0,sv h1]
end Go.V
end
section
set_option linter.unusedVariables false
set_option linter.unusedSimpArgs false
namespace Go.V
open Go.RowKit
structure G where
 i:Nat
 go:Bool
 us:iz
 rd:List Nat
 A:List Nat
 dst:Option Nat
 v:AV
 nm:List Nat
 id:Nat
 nx:Nat
def rep (hp:Hp) (D:Nat→Bool):List G→Hp
 | []=>hp
 | g::gs=>bif D g.i then applyF (rep hp D gs) g.us else rep hp D gs
def iL (tm:List AV) (D:Nat→Bool):List G→List AV
 | []=>tm
 | g::gs=>bif D g.i then mc (iL tm D gs) g.dst g.v else iL tm D gs
structure KJ (g' g:G):Prop where
 a:∀ r ∈ jW g.us,r ∉ g'.rd
 b:∀ r ∈ jW g'.us,r ∉ g.rd
 c:∀ r ∈ g.us.map (·.1),r ∉ jW g'.us
 d:∀ r ∈ jW g.us,r ∉ g'.us.map (·.1)
structure FZ (g' g:G):Prop where
 e:∀ t ∈ g.dst.toList,t ∉ g'.dst.toList++g'.nm
 f:∀ t ∈ g'.dst.toList,t ∉ g.nm
section
variable {hp:Hp} {tm:List AV} {D D':Nat→Bool}
theorem qm {r:Nat}:∀ {gs:List G},(∀ g ∈ gs,r ∈ g.us.map (·.1)→D g.i=D' g.i)→rep hp D gs r=rep hp D' gs r
 | [],_=>rfl
 | g::gs,h=>by
  have ih:=qm (gs:=gs) fun g' hg=>h g' (List.mem_cons_of_mem _ hg)
  simp only [rep]
  by_cases hr:r ∈ g.us.map (·.1)
  · rw [h g (List.mem_cons_self ..) hr]
    cases D' g.i with
    | true=>simp only [cond_true,jv,ih]
    | false=>exact ih
  · have e:∀ (b:Bool) (x:Hp),(bif b then applyF x g.us else x) r=x r:=fun b x=>by
     cases b with
     | true=>simp only [cond_true,jv,qv hr]
     | false=>rfl
    rw [e,e,ih]
theorem E4 {r:Nat}:∀ {gs:List G},(∀ g ∈ gs,D g.i=D' g.i∨(D g.i=true∧r ∉ jW g.us))→rep hp D gs r=rep hp D' gs r∨rep hp D gs r=zy (rep hp D' gs r)
 | [],_=>Or.inl rfl
 | g::gs,h=>by
  have ih:=E4 (gs:=gs) fun g' hg=>h g' (List.mem_cons_of_mem _ hg)
  simp only [rep]
  cases h1:D g.i with
  | true =>
   cases h2:D' g.i with
   | true =>
    simp only [cond_true,jv]
    exact zr _ _ ih
   | false =>
    rcases h g (List.mem_cons_self ..) with q | ⟨_,q⟩
    · rw [h1,h2] at q;cases q
    · simp only [cond_true,cond_false,jv]
      rcases qj q with e | e
      · rw [e];exact ih
      · rw [e]
        rcases ih with g1 | g1
        · rw [g1];exact Or.inr rfl
        · rw [g1,uA];exact Or.inr rfl
  | false =>
   cases h2:D' g.i with
   | true =>
    rcases h g (List.mem_cons_self ..) with q | ⟨q,_⟩
    · rw [h1,h2] at q;cases q
    · rw [h1] at q;cases q
   | false=>exact ih
theorem GC {l:List AV} {d:Option Nat} {v:AV}:(mc l d v).length=l.length:=by cases d <;> simp [mc]
theorem tA:∀ {gs:List G},(iL tm D gs).length=tm.length
 | []=>rfl
 | g::gs=>by
  simp only [iL]
  cases D g.i with
  | true=>rw [cond_true,GC];exact tA
  | false=>exact tA
theorem FS {l l':List AV} {d:Option Nat} {v:AV} {t:Nat} (hl:l.length=l'.length) (h:l.getD t .junk=l'.getD t .junk):(mc l d v).getD t .junk=(mc l' d v).getD t .junk:=by
 cases d with
 | none=>exact h
 | some d =>
  simp only [mc,List.getD,List.getElem?_set,hl] at h ⊢
  split
  · split <;> rfl
  · exact h
theorem Cf {l:List AV} {d:Option Nat} {v:AV} {t:Nat} (h:d≠some t):(mc l d v).getD t .junk=l.getD t .junk:=by
 cases d with
 | none=>rfl
 | some d =>
  have:d≠t:=fun q=>h (by rw [q])
  simp [mc,List.getD,List.getElem?_set_ne this]
theorem xJ {t:Nat}:∀ {gs:List G},(∀ g ∈ gs,g.dst=some t→D g.i=D' g.i)→(iL tm D gs).getD t .junk=(iL tm D' gs).getD t .junk
 | [],_=>rfl
 | g::gs,h=>by
  have ih:=xJ (gs:=gs) fun g' hg=>h g' (List.mem_cons_of_mem _ hg)
  simp only [iL]
  by_cases hr:g.dst=some t
  · rw [h g (List.mem_cons_self ..) hr]
    cases D' g.i with
    | true =>
     simp only [cond_true]
     exact FS (by rw [tA,tA]) ih
    | false=>exact ih
  · have e:∀ (b:Bool) (x:List AV),(bif b then mc x g.dst g.v else x).getD t .junk=x.getD t .junk:=fun b x=>by
     cases b with
     | true=>exact Cf hr
     | false=>rfl
    rw [e,e,ih]
def mu (D:Nat→Bool) (i:Nat):Nat→Bool:=fun j=>bif Nat.beq j i then true else D j
theorem rB {i:Nat}:mu D i i=true:=by simp [mu]
theorem nM {i j:Nat} (h:j≠i):mu D i j=D j:=by
 have:Nat.beq j i=false:=by
  cases hb:Nat.beq j i with
  | false=>rfl
  | true=>exact absurd (Nat.eq_of_beq_eq_true hb) h
 simp [mu,this]
theorem IQ {gs:List G} (h:∀ g ∈ gs,D g.i=D' g.i):rep hp D gs=rep hp D' gs:=funext fun r=>qm fun g hg _=>h g hg
theorem ss:∀ {gs:List G},(∀ g ∈ gs,D g.i=D' g.i)→iL tm D gs=iL tm D' gs
 | [],_=>rfl
 | g::gs,h=>by
  simp only [iL]
  rw [h g (List.mem_cons_self ..),ss fun g' hg=>h g' (List.mem_cons_of_mem _ hg)]
theorem Dl {g:G} {r:Nat}:∀ {gs:List G},gs.Pairwise (fun x y=>y.i<x.i)→g ∈ gs→D g.i=false →
 (∀ h ∈ gs,g.i<h.i→D h.i=true→(∀ r ∈ jW g.us,r ∉ h.us.map (·.1))∧(∀ r ∈ jW h.us,r ∉ g.us.map (·.1)))→rep hp (mu D g.i) gs r=AZ g.us r (rep hp D gs r)
 | [],_,hg,_,_=>by cases hg
 | h::gs,hp',hg,hD,hc=>by
  rw [List.pairwise_cons] at hp'
  simp only [rep]
  rcases List.mem_cons.1 hg with q | q
  · subst q
    rw [rB,hD,cond_true,cond_false,jv]
    congr 1
    exact qm fun g' hg' _=>nM (Nat.ne_of_lt (hp'.1 g' hg'))
  · have hlt:=hp'.1 g q
    rw [nM (Nat.ne_of_gt hlt)]
    have ih:=Dl (r:=r) hp'.2 q hD fun h' hh'=>hc h' (List.mem_cons_of_mem _ hh')
    cases hb:D h.i with
    | false=>exact ih
    | true =>
     simp only [cond_true,jv]
     rw [ih]
     obtain ⟨c1,c2⟩:=hc h (List.mem_cons_self ..) hlt hb
     exact GT c1 c2 _
theorem F6 {l:List AV} {d e:Option Nat} {u v:AV} (h:∀ t ∈ d.toList,t ∉ e.toList):mc (mc l d u) e v=mc (mc l e v) d u:=by
 cases d with
 | none=>rfl
 | some d =>
  cases e with
  | none=>rfl
  | some e =>
   have:d≠e:=fun q=>h d (by simp) (by simp [q])
   exact List.set_comm _ _ this
theorem Av {g:G}:∀ {gs:List G},gs.Pairwise (fun x y=>y.i<x.i)→g ∈ gs→D g.i=false →
 (∀ h ∈ gs,g.i<h.i→D h.i=true→∀ t ∈ h.dst.toList,t ∉ g.dst.toList)→iL tm (mu D g.i) gs=mc (iL tm D gs) g.dst g.v
 | [],_,hg,_,_=>by cases hg
 | h::gs,hp',hg,hD,hc=>by
  rw [List.pairwise_cons] at hp'
  simp only [iL]
  rcases List.mem_cons.1 hg with q | q
  · subst q
    rw [rB,hD,cond_true,cond_false]
    congr 1
    exact ss fun g' hg'=>nM (Nat.ne_of_lt (hp'.1 g' hg'))
  · have hlt:=hp'.1 g q
    rw [nM (Nat.ne_of_gt hlt)]
    have ih:=Av hp'.2 q hD fun h' hh'=>hc h' (List.mem_cons_of_mem _ hh')
    cases hb:D h.i with
    | false=>exact ih
    | true =>
     simp only [cond_true]
     rw [ih]
     exact (F6 (hc h (List.mem_cons_self ..) hlt hb)).symm
end
def lr:List G→List KE
 | []=>[]
 | g::gs=>bif g.go then ⟨g.i,g.us,g.rd⟩::lr gs else lr gs
theorem sC {hp:Hp} {a:List Nat}:∀ {gs:List G},(∀ g ∈ gs,g.go=false→g.us=[])→pJ hp a (lr gs)=rep hp (jI a) gs
 | [],_=>rfl
 | g::gs,h=>by
  have ih:=sC (hp:=hp) (a:=a) (gs:=gs) fun g' hg=>h g' (List.mem_cons_of_mem _ hg)
  simp only [lr,rep]
  cases hg:g.go with
  | true=>simp only [cond_true,pJ,ih]
  | false =>
   rw [h g (List.mem_cons_self ..) hg]
   simp only [cond_false,applyF,ih]
   cases jI a g.i <;> rfl
theorem rM {hp:Hp}:∀ {gs:List G},(∀ g ∈ gs,g.go=false→g.us=[])→rI hp (lr gs)=rep hp (fun _=>true) gs
 | [],_=>rfl
 | g::gs,h=>by
  have ih:=rM (hp:=hp) (gs:=gs) fun g' hg=>h g' (List.mem_cons_of_mem _ hg)
  simp only [lr,rep]
  cases hg:g.go with
  | true=>simp only [cond_true,rI,ih]
  | false =>
   rw [h g (List.mem_cons_self ..) hg]
   simp only [cond_false,cond_true,applyF,ih]
theorem wR {a:List Nat} {us:iz} {rd:List Nat}:∀ {gs:List G},Ho a us rd (lr gs)=true→∀ g' ∈ gs,g'.go=true→jI a g'.i=true ∨
 ((∀ r ∈ jW us,r ∉ g'.rd)∧(∀ r ∈ jW g'.us,r ∉ rd)∧(∀ r ∈ us.map (·.1),r ∉ jW g'.us)∧(∀ r ∈ jW us,r ∉ g'.us.map (·.1)))
 | [],_,_,hg,_=>by cases hg
 | g::gs,h,g',hg,hgo=>by
  simp only [lr] at h
  cases hgg:g.go with
  | false =>
   rw [hgg,cond_false] at h
   rcases List.mem_cons.1 hg with q | q
   · subst q;rw [hgg] at hgo;cases hgo
   · exact wR h g' q hgo
  | true =>
   rw [hgg,cond_true] at h
   simp only [Ho] at h
   cases hc:(jI a g.i||(kW (jW us) g.rd&&kW (jW g.us) rd&&kW (us.map (·.1)) (jW g.us)&&kW (jW us) (g.us.map (·.1)))) with
   | false=>rw [hc] at h;cases h
   | true =>
    rw [hc,cond_true] at h
    rcases List.mem_cons.1 hg with q | q
    · subst q
      simp only [Bool.or_eq_true,Bool.and_eq_true,rl] at hc
      rcases hc with q | ⟨⟨⟨q1,q2⟩,q3⟩,q4⟩
      · exact Or.inl q
      · exact Or.inr ⟨q1,q2,q3,q4⟩
    · exact wR h g' q hgo
end Go.V
end

/- V: soundness, part 6 of 10. -/
import Derived.Test.YthjppgafienaoaaGreatDoorVS5
section
set_option linter.unusedVariables false
set_option linter.unusedSimpArgs false
namespace Go.V
open Go.RowKit
def mD (L:List Nat) (A B:Hp):Prop:=∀ r ∈ L,B r=A r∨∃ p e l,A r = .own p e l∧B r = .fro p e l
theorem Dj:∀ {cs:List AV} {r:Nat},r ∈ cC cs↔(AV.ref r ∈ cs∨∃ i f,AV.ptr r i f ∈ cs)
 | [],r=>by simp [cC]
 | c::cs,r=>by
  have ih:=Dj (cs:=cs) (r:=r)
  cases c <;> simp [cC,ih,List.mem_cons] <;> grind
theorem mD.sub {L M:List Nat} {A B:Hp} (h:mD L A B) (hs:∀ r ∈ M,r ∈ L):mD M A B:=fun r hr=>h r (hs r hr)
theorem rq {cs ds:List AV} (h:∀ c ∈ ds,c ∈ cs):∀ r ∈ cC ds,r ∈ cC cs:=fun r hr=>by
 rw [Dj] at hr ⊢
 rcases hr with q | ⟨i,f,q⟩
 · exact Or.inl (h _ q)
 · exact Or.inr ⟨i,f,h _ q⟩
theorem sC:∀ {us:jl} {r:Nat} {x:qR},(r,x) ∈ us→(∀ p e l,x ≠ .fro p e l)→r ∈ kP us
 | [],_,_,h,_=>by cases h
 | (s,y)::us,r,x,h,hx=>by
  unfold kP
  rcases List.mem_cons.1 h with q | q
  · cases q
    split
    · rename_i q;cases q
    · rename_i q;cases q;exact absurd rfl (hx _ _ _)
    · rename_i q;cases q;exact List.mem_cons_self ..
  · have:=sC q hx
    split
    · rename_i q;cases q
    · rename_i q;cases q;exact this
    · rename_i q;cases q;exact List.mem_cons_of_mem _ this
section
variable {A B:Hp}
theorem sI {e:Ty} {c:AV} (h:mD (cC [c]) A B):getSl B e c=getSl A e c:=by
 cases c <;> try rfl
 rename_i r
 simp only [getSl]
 rcases h r (by simp [cC]) with q | ⟨p,e',l,q1,q2⟩
 · rw [q]
 · rw [q1,q2]
theorem lf:∀ {t:Ty} {cs:List AV},mD (cC cs) A B→prj B t cs=prj A t cs
 | .bool,_,_=>rfl
 | .int _,_,_=>rfl
 | .str,_,_=>rfl
 | .slice e,cs,h=>by
  simp only [prj,tX]
  split
  · exact sI h
  · rfl
 | .pair a b,cs,h=>by
  simp only [prj]
  rw [lf (t:=a) (h.sub (rq fun c hc=>List.mem_of_mem_take hc)),lf (t:=b) (h.sub (rq fun c hc=>List.mem_of_mem_drop hc))]
 | .unit,_,_=>rfl
 | .opq,_,_=>rfl
theorem Bj {c:AV} (h:mD (cC [c]) A B):taint1 B c=taint1 A c:=by
 cases c <;> try rfl
 rename_i r
 simp only [taint1]
 rcases h r (by simp [cC]) with q | ⟨p,e',l,q1,q2⟩
 · rw [q]
 · rw [q1,q2]
theorem nv:∀ {cs:List AV},mD (cC cs) A B→taint B cs=taint A cs
 | [],_=>rfl
 | c::cs,h=>by
  simp only [taint]
  rw [Bj (h.sub (rq fun d hd=>by simp at hd;subst hd;exact List.mem_cons_self ..)),nv (h.sub (rq fun d hd=>List.mem_cons_of_mem _ hd))]
theorem mc:∀ {cs:List AV},mD (cC cs) A B→freeze B cs=freeze A cs
 | [],_=>rfl
 | c::cs,h=>by
  have ih:=mc (cs:=cs) (h.sub (rq fun d hd=>List.mem_cons_of_mem _ hd))
  cases c <;> try exact ih
  rename_i r
  simp only [freeze,ih]
  rcases h r (by simp [cC]) with q | ⟨p,e',l,q1,q2⟩
  · rw [q]
  · rw [q1,q2]
theorem Jy {R:Type} {t:Ty} {a:AV} {k:AV→Option R} (h:mD (cC (cellsOf a)) A B):ld B t a k=ld A t a k:=by
 cases a <;> try rfl
 rename_i r i off
 simp only [ld]
 rcases h r (by simp [cC,cellsOf]) with q | ⟨p,e',l,q1,q2⟩
 · rw [q]
 · rw [q1,q2]
theorem A0 {t:Ty} {a v:AV} {us:jl} (hs:lV A t a v some=some us) (h1:mD (cC (cellsOf a)) A B) (h2:mD (cC (cellsOf v)) A B) (hh:∀ r ∈ kP us,r ∈ cC (cellsOf a)→B r=A r):lV B t a v some=some us:=by
 unfold lV at hs ⊢
 obtain ⟨hc,hs⟩:=aL hs
 rw [hc,cond_true]
 split at hs
 · rename_i r i off _
   split at hs
   · rename_i cs hr
     obtain ⟨hle,hs⟩:=aL hs
     cases hs
     rw [hh r (sC (List.mem_singleton.2 rfl) (fun _ _ _ q=>by cases q)) (by simp [cC,cellsOf]),hr]
     simp only [hle,cond_true]
   · rename_i p e l hr
     obtain ⟨hn,hs⟩:=rE hs
     split at hs
     · rename_i y hy
       split at hs
       · rename_i z hz
         cases hs
         rw [hh r (sC (List.mem_append_right _ (List.mem_singleton.2 rfl)) (fun _ _ _ q=>by cases q)) (by simp [cC,cellsOf]),hr]
         simp only [hn,cond_false,lf h2,hy,hz,mc h2,nv h2]
       · cases hs
     · cases hs
   · cases hs
 · cases hs
theorem wh {R:Type} {tb:mS} {t:Nat} {x i:AV} {k:AV→Option R} (h:mD (cC (cellsOf x)) A B):indexAddr tb B t x i k=indexAddr tb A t x i k:=by
 unfold indexAddr
 split
 · cases x <;> try rfl
   rename_i r
   simp only []
   rcases h r (by simp [cC,cellsOf]) with q | ⟨p,e',l,q1,q2⟩
   · rw [q]
   · rw [q1,q2]
 · rfl
 · rfl
theorem zl {R:Type} {u:Ty} {x:AV} {lo hi:Option AV} {k:AV→jl→Option R} (h:mD (cC (cellsOf x)) A B):lZ u B x lo hi k=lZ u A x lo hi k:=by
 cases x with
 | ref r =>
  cases u <;> try rfl
  simp only [lZ]
  rcases h r (by simp [cC,cellsOf]) with q | ⟨p,e',l,q1,q2⟩
  · rw [q]
  · rw [q1,q2]
 | _=>cases u <;> rfl
theorem Dl {R:Type} {u:Ty} {x:AV} {k:AV→Option R} (h:mD (cC (cellsOf x)) A B):lenOf u B x k=lenOf u A x k:=by
 cases x with
 | ref r =>
  cases u <;> try rfl
  simp only [lenOf]
  rcases h r (by simp [cC,cellsOf]) with q | ⟨p,e',l,q1,q2⟩
  · rw [q]
  · rw [q1,q2]
 | _=>cases u <;> rfl
theorem xU {c:AV}:∀ r ∈ cC [c],r ∈ cC (cellsOf c):=by
 intro r hr
 cases c <;> simp_all [cC,cellsOf]
theorem xZ {e:Ty} {id:Nat} {d s v:AV} {us:jl} (hs:js e A id d s (fun v us=>some (v,us))=some (v,us)) (h1:mD (cC (cellsOf d)) A B) (h2:mD (cC (cellsOf s)) A B) (hh:∀ r ∈ kP us,r ∈ cC (cellsOf d)→B r=A r) :
 js e B id d s (fun v us=>some (v,us))=some (v,us):=by
 unfold js at hs ⊢
 have h2':=h2.sub xU
 rw [sI h2']
 split at hs
 · cases hs
 · split at hs
   · rw [nv h2'];exact hs
   · rename_i r
     split at hs
     · rename_i p t l hr
       split at hs
       · rename_i ld hld
         obtain ⟨hle,hs⟩:=aL hs
         cases hs
         have hB:B r=A r:=hh r (sC (List.mem_cons_self ..) (fun _ _ _ q=>by cases q)) (by simp [cC,cellsOf])
         rw [hB,hr]
         simp only [hld,hle,cond_true,nv h2']
       · cases hs
     · cases hs
   · cases hs
theorem wI {e:Ty} {ρ:Operand→AV}:∀ {ps:List (Nat × Operand)} {l:List e.d} {b:Bool},(∀ p ∈ ps,mD (cC (cellsOf (ρ p.2))) A B)→elems B e ρ ps l b=elems A e ρ ps l b
 | [],_,_,_=>rfl
 | (i,x)::ps,l,b,h=>by
  have h0:mD (cC (cellsOf (ρ x))) A B:=h (i,x) (List.mem_cons_self ..)
  simp only [elems]
  rw [lf h0,nv h0]
  split
  · rw [wI fun p hp=>h p (List.mem_cons_of_mem _ hp)]
  · rfl
theorem DV {v:AV} {f:Nat} (h:mD (cC [v]) A B):rG B f v=rG A f v:=by
 cases v <;> try rfl
 rename_i r i f
 simp only [rG]
 rcases h r (by simp [cC]) with q | ⟨p,e,l,q1,q2⟩
 · rw [q]
 · rw [q1,q2]
theorem mY:∀ {cs:List AV},(∀ r ∈ cC cs,B r=A r)→eP B cs=eP A cs
 | [],_=>rfl
 | c::cs,h=>by
  cases c <;> simp only [eP] <;> first
   | rfl
   | exact mY (cs:=cs) h
   | (rw [h _ (by simp [cC]),mY (cs:=cs) fun r q=>h r (by simp [cC,q])])
theorem vY {hp:Hp} {p:Bool}:∀ {t:Ty} {x y:t.d} {cs:List AV},prj hp t cs=some x→eP hp cs=true→(p7 p t y cs).map (·.1)=cC cs
 | .bool,x,y,cs,hx,hf=>by
  simp only [prj] at hx
  unfold uA at hx
  split at hx
  · rfl
  · cases hx
 | .int k,x,y,cs,hx,hf=>by
  simp only [prj] at hx
  unfold zV at hx
  split at hx
  · rfl
  · cases hx
 | .str,x,y,cs,hx,hf=>by
  simp only [prj] at hx
  unfold zD at hx
  split at hx
  · rfl
  · cases hx
 | .unit,x,y,cs,hx,hf=>by
  simp only [prj] at hx
  unfold ud at hx
  split at hx
  · rfl
  · cases hx
 | .opq,x,y,cs,hx,hf=>by cases hx
 | .pair s t,x,y,cs,hx,hf=>by
  simp only [prj] at hx
  obtain ⟨h1,h2⟩:=cY hx
  have app:∀ cs ds:List AV,eP hp (cs++ds)=true→eP hp cs=true∧eP hp ds=true:=by
   intro cs ds
   induction cs with
   | nil=>exact fun q=>⟨rfl,q⟩
   | cons c cs ih =>
    intro q
    cases c <;> simp only [List.cons_append,eP,Bool.and_eq_true] at q ⊢ <;> first | (cases q;done) | (exact ih q) | (exact ⟨⟨q.1,(ih q.2).1⟩,(ih q.2).2⟩)
  obtain ⟨f1,f2⟩:=app (cs.take s.size) (cs.drop s.size) (by rw [List.take_append_drop];exact hf)
  show (p7 p s y.1 _++p7 p t y.2 _).map (·.1)=_
  rw [List.map_append,vY h1 f1,vY h2 f2,← sB]
 | .slice e,x,y,cs,hx,hf=>by
  simp only [prj] at hx
  unfold tX at hx
  split at hx
  · rename_i c
    cases c <;> first | rfl | (simp [getSl] at hx;done) | (simp [eP] at hf;done)
  · cases hx
theorem oX {hp:Hp} {al:Bool}:∀ {A:List Pm} {vs:List AV} {x:(tup (p6 A)).d} {y:(tup (gh A)).d} {id:Nat},f_ hp A vs=some x→∀ r ∈ n8 hp A vs,r ∈ (jj hp al A vs y id).map (·.1)
 | [],_,_,_,_,_,r,hr=>by cases hr
 | .val t::A,vs,x,y,id,hx,r,hr=>by
  cases vs with
  | nil=>simp only [f_] at hx;cases hx
  | cons v vs =>
   simp only [f_] at hx
   exact oX (A:=A) (cY (aL hx).2).2 r hr
 | .lend t::A,vs,x,y,id,hx,r,hr=>by
  cases vs with
  | nil=>simp only [f_] at hx;cases hx
  | cons v vs =>
   simp only [f_] at hx
   have h1:=aL hx
   have h2:=cY h1.2
   simp only [n8,List.headD_cons,List.tail_cons,List.mem_append] at hr
   simp only [jj,List.headD_cons,List.tail_cons,List.map_append,List.mem_append]
   rcases hr with q | q
   · left
     rw [vY h2.1 (Bool.and_eq_true _ _▸h1.1:_∧_).2]
     exact q
   · exact Or.inr (oX (A:=A) h2.2 r q)
 | .give t::A,vs,x,y,id,hx,r,hr=>by
  cases vs with
  | nil=>simp only [f_] at hx;cases hx
  | cons v vs =>
   simp only [f_] at hx
   have h1:=aL hx
   have h2:=cY h1.2
   simp only [n8,List.headD_cons,List.tail_cons,List.mem_append] at hr
   simp only [jj,List.headD_cons,List.tail_cons,List.map_append,List.mem_append]
   rcases hr with q | q
   · left;rw [qt];exact q
   · exact Or.inr (oX (A:=A) h2.2 r q)
 | .fn f n::A,vs,x,y,id,hx,r,hr=>oX (A:=A) hx r hr
 | .io o f t::A,vs,x,y,id,hx,r,hr=>by
  cases vs with
  | nil=>simp only [f_] at hx;cases hx
  | cons v vs =>
   simp only [f_] at hx
   split at hx
   · rename_i cs hcs
     obtain ⟨r0,hv,hrow⟩:=qV hcs
     subst hv
     obtain ⟨ho,hx⟩:=aL hx
     simp only [n8,List.headD_cons,List.tail_cons,hcs,Option.getD_some,cC,List.cons_append,List.nil_append,List.mem_cons,List.mem_append] at hr
     cases o with
     | true =>
      simp only [jj,List.headD_cons,List.tail_cons,hcs,Option.getD_some,cond_true,lg,List.map_append,List.map_cons,List.mem_append,List.mem_cons,qt]
      rcases hr with q | q | q
      · exact Or.inr (Or.inl q)
      · exact Or.inl q
      · exact Or.inr (Or.inr (Or.inr (oX (A:=A) (cY hx).2 r q)))
     | false =>
      simp only [jj,List.headD_cons,List.tail_cons,hcs,Option.getD_some,cond_false,lg,List.map_cons,List.mem_cons]
      rcases hr with q | q | q
      · exact Or.inl q
      · cases q
      · exact Or.inr (oX (A:=A) (cY hx).2 r q)
   · cases hx
theorem lM:∀ {Q:List Pm} {vs:List AV} {x:(tup (p6 Q)).d},f_ A Q vs=some x→mD (n8 A Q vs++rO A Q vs) A B→(∀ r ∈ n8 A Q vs,B r=A r) →
 f_ B Q vs=some x∧n8 B Q vs=n8 A Q vs∧rO B Q vs=rO A Q vs∧∀ al y id,jj B al Q vs y id=jj A al Q vs y id
 | [],vs,x,hx,_,_=>⟨hx,rfl,rfl,fun _ _ _=>rfl⟩
 | .val t::Q,vs,x,hx,hf,hh=>by
  cases vs with
  | nil=>simp only [f_] at hx;cases hx
  | cons v vs =>
   simp only [f_] at hx ⊢
   simp only [n8,rO,List.headD_cons,List.tail_cons] at hf hh ⊢
   have h1:=aL hx
   have h2:=cY h1.2
   obtain ⟨g1,g2,g3,g4⟩:=lM (Q:=Q) h2.2 (hf.sub fun r q=>by
    rcases List.mem_append.1 q with q | q
    · exact List.mem_append_left _ q
    · exact List.mem_append_right _ (List.mem_append_right _ q)) hh
   refine ⟨?_,g2,by rw [g3],fun al y id=>g4 al y id⟩
   rw [lf (hf.sub fun r q=>List.mem_append_right _ (List.mem_append_left _ q)),h2.1,g1,h1.1]
   rfl
 | .lend t::Q,vs,x,hx,hf,hh=>by
  cases vs with
  | nil=>simp only [f_] at hx;cases hx
  | cons v vs =>
   simp only [f_] at hx ⊢
   simp only [n8,rO,List.headD_cons,List.tail_cons] at hf hh ⊢
   have h1:=aL hx
   have h2:=cY h1.2
   obtain ⟨g1,g2,g3,g4⟩:=lM (Q:=Q) h2.2 (hf.sub fun r q=>by
    rcases List.mem_append.1 q with q | q
    · exact List.mem_append_left _ (List.mem_append_right _ q)
    · exact List.mem_append_right _ q) (fun r q=>hh r (List.mem_append_right _ q))
   refine ⟨?_,by rw [g2],g3,fun al y id=>by simp only [jj,List.headD_cons,List.tail_cons,g4]⟩
   rw [mY fun r q=>hh r (List.mem_append_left _ q),lf (hf.sub fun r q=>List.mem_append_left _ (List.mem_append_left _ q)),h2.1,g1,h1.1]
   rfl
 | .give t::Q,vs,x,hx,hf,hh=>by
  cases vs with
  | nil=>simp only [f_] at hx;cases hx
  | cons v vs =>
   simp only [f_] at hx ⊢
   simp only [n8,rO,List.headD_cons,List.tail_cons] at hf hh ⊢
   have h1:=aL hx
   have h2:=cY h1.2
   obtain ⟨g1,g2,g3,g4⟩:=lM (Q:=Q) h2.2 (hf.sub fun r q=>by
    rcases List.mem_append.1 q with q | q
    · exact List.mem_append_left _ (List.mem_append_right _ q)
    · exact List.mem_append_right _ q) (fun r q=>hh r (List.mem_append_right _ q))
   refine ⟨?_,by rw [g2],g3,fun al y id=>congrArg (sM (cC (cellsOf v))++·) (g4 al y id)⟩
   rw [mY fun r q=>hh r (List.mem_append_left _ q),lf (hf.sub fun r q=>List.mem_append_left _ (List.mem_append_left _ q)),h2.1,g1,h1.1]
   rfl
 | .fn f n::Q,vs,x,hx,hf,hh=>lM (Q:=Q) hx hf hh
 | .io o f t::Q,vs,x,hx,hf,hh=>by
  cases vs with
  | nil=>simp only [f_] at hx;cases hx
  | cons v vs =>
   have hbx:rG B f v=rG A f v:=DV (hf.sub fun r q=>List.mem_append_left _ (by simp only [n8,List.headD_cons];exact List.mem_append_left _ q))
   simp only [f_,hbx] at hx ⊢
   cases hcs:rG A f v with
   | none=>rw [hcs] at hx;cases hx
   | some cs =>
    rw [hcs] at hx
    simp only [] at hx ⊢
    simp only [n8,rO,List.headD_cons,List.tail_cons,hbx,hcs,Option.getD_some] at hf hh ⊢
    have h1:=aL hx
    have h2:=cY h1.2
    obtain ⟨g1,g2,g3,g4⟩:=lM (Q:=Q) h2.2 (hf.sub fun r q=>by
     rcases List.mem_append.1 q with q | q
     · exact List.mem_append_left _ (List.mem_append_right _ (List.mem_append_right _ q))
     · exact List.mem_append_right _ (List.mem_append_right _ q)) (fun r q=>hh r (List.mem_append_right _ (List.mem_append_right _ q)))
    have hcf:mD (cC cs) A B:=hf.sub fun r q=>by
     cases o with
     | true=>exact List.mem_append_left _ (List.mem_append_right _ (List.mem_append_left _ q))
     | false=>exact List.mem_append_right _ (List.mem_append_left _ q)
    have hfo:(!o||eP B cs)=(!o||eP A cs):=by
     cases o with
     | true=>rw [mY fun r q=>hh r (List.mem_append_right _ (List.mem_append_left _ q))]
     | false=>rfl
    refine ⟨?_,by rw [g2],by rw [g3],fun al y id=>by simp only [jj,List.headD_cons,List.tail_cons,hbx,g4]⟩
    rw [hfo,lf hcf,h2.1,g1,h1.1]
    rfl
theorem ET {c:Cn} {id nx:Nat} {as:List AV} {v:AV} {us:jl} (hs:rl c A id as (fun v us nx=>some (v,us,nx))=some (v,us,nx))
 (h:∀ vs,gl c.A as=some vs→mD (n8 A c.A vs++rO A c.A vs) A B) (hh:∀ vs,gl c.A as=some vs→∀ r ∈ kP us,r ∈ n8 A c.A vs→B r=A r) :
 rl c B id as (fun v us nx=>some (v,us,nx))=some (v,us,nx):=by
 have hs0:=hs
 unfold rl at hs ⊢
 cases hf:gl c.A as with
 | none=>rw [hf] at hs;cases hs
 | some vs =>
 rw [hf] at hs
 simp only [] at hs ⊢
 cases hx:f_ A c.A vs with
 | none=>rw [hx] at hs;cases hs
 | some x =>
 rw [hx] at hs
 simp only [] at hs
 have h1:=aL hs
 cases hy:c.fn x with
 | none=>have h2:=h1.2;rw [hy] at h2;cases h2
 | some y =>
 have h2:=h1.2
 rw [hy] at h2
 simp only [Option.some.injEq,Prod.mk.injEq] at h2
 have hgv:∀ r ∈ n8 A c.A vs,B r=A r:=fun r q=>by
  refine hh vs hf r ?_ q
  obtain ⟨z,hz,rfl⟩:=List.mem_map.1 (oX (al:=c.al) (y:=CS (gh c.A) y) (id:=id) hx r q)
  rw [← h2.2.1]
  exact sC (x:=z.2) (List.mem_append_right _ (List.mem_append_left _ hz)) (kE z.1 z.2 hz)
 obtain ⟨g1,g2,g3,g4⟩:=lM hx (h vs hf) hgv
 have hrefs:∀ l:List Nat,cC (l.map AV.ref)=l:=by
  intro l
  induction l with
  | nil=>rfl
  | cons r l ih=>simp [cC,ih]
 rw [g1,g2,g3]
 simp only [hy]
 rw [g4,mc (A:=A) (B:=B) (by rw [hrefs];exact (h vs hf).sub fun r q=>List.mem_append_right _ q)]
 rw [hy] at hs
 exact hs
theorem FA {c:Cn} {id nx:Nat} {as:List AV} {v:AV} {us:jl} (hs:yT c A id as (fun v us nx=>some (v,us,nx))=some (v,us,nx))
 (h:∀ vs,gl c.A as=some vs→mD (n8 A c.A vs++rO A c.A vs) A B) :
 yT c B id as (fun v us nx=>some (v,us,nx))=some (v,us,nx):=by
 have hs0:=hs
 unfold yT at hs ⊢
 cases hf:gl c.A as with
 | none=>rw [hf] at hs;cases hs
 | some vs =>
 rw [hf] at hs
 simp only [] at hs ⊢
 cases hx:f_ A c.A vs with
 | none=>rw [hx] at hs;cases hs
 | some x =>
 rw [hx] at hs
 simp only [] at hs
 have h1:=aL hs
 have hgv:∀ r ∈ n8 A c.A vs,B r=A r:=fun r q=>by
  rw [List.isEmpty_iff.1 h1.1] at q
  cases q
 obtain ⟨g1,g2,g3,g4⟩:=lM hx (h vs hf) hgv
 have hrefs:∀ l:List Nat,cC (l.map AV.ref)=l:=by
  intro l
  induction l with
  | nil=>rfl
  | cons r l ih=>simp [cC,ih]
 rw [g1,g2,g3,mc (A:=A) (B:=B) (by rw [hrefs];exact (h vs hf).sub fun r q=>List.mem_append_right _ q)]
 exact hs
theorem DK {c:Cn} {id nx:Nat} {as:List AV} {v:AV} {us:jl} (hs:ru c A id as (fun v us nx=>some (v,us,nx))=some (v,us,nx))
 (h:∀ vs,gl c.A as=some vs→mD (n8 A c.A vs++rO A c.A vs) A B) (hh:∀ vs,gl c.A as=some vs→∀ r ∈ kP us,r ∈ n8 A c.A vs→B r=A r) :
 ru c B id as (fun v us nx=>some (v,us,nx))=some (v,us,nx):=by
 unfold ru at hs ⊢
 cases hb:q9 c.R with
 | false=>rw [hb] at hs;exact ET hs h hh
 | true=>rw [hb] at hs;exact FA hs h
theorem w5:∀ {cs ds:List AV},cC (cs++ds)=cC cs++cC ds
 | [],_=>rfl
 | c::cs,ds=>by cases c <;> simp [cC,w5 (cs:=cs)]
theorem uv {α:Type} {f:α→List AV}:∀ {l:List α},cC (l.flatMap f)=l.flatMap fun x=>cC (f x)
 | []=>rfl
 | x::l=>by simp [w5,uv (l:=l)]
theorem ng {tb:mS} {tm:List AV} {t:Nat} {x:Operand}:cC (cellsOf (val tb tm t x))=cC (cellsOf (val tb tm 0 x)):=by
 cases x with
 | tmp i=>rfl
 | func f=>rfl
 | global g=>rfl
 | const v =>
  simp only [val]
  unfold NT
  cases v <;> try rfl
  rename_i a n c
  cases a <;> try rfl
  cases n <;> try rfl
  cases c <;> try rfl
  simp only []
  split <;> (split <;> rfl)
theorem Fi {tb:mS} {ct:List (Nat × Cn)} {o:Oper} {tm:List AV} {id nx:Nat} {v:AV} {us:jl} (hs:eh tb ct o tm A id (fun v us nx=>some (v,us,nx))=some (v,us,nx))
 (h:mD (reads tb ct o tm A) A B) (hh:∀ r ∈ kP us,r ∈ reads tb ct o tm A→B r=A r):eh tb ct o tm B id (fun v us nx=>some (v,us,nx))=some (v,us,nx):=by
 cases hop:o.op with
 | load t x =>
  simp only [eh,hop,reads] at hs h ⊢
  split at hs
  · rename_i u hu
    try simp only [hu]
    rw [Jy h];exact hs
  · cases hs
 | store t x y =>
  simp only [eh,hop,reads] at hs h hh ⊢
  split at hs
  · rename_i u hu
    try simp only [hu]
    rw [lQ] at hs
    cases hl:lV A u (val tb tm 0 x) (val tb tm t y) some with
    | none=>rw [hl] at hs;cases hs
    | some us' =>
     rw [hl] at hs
     cases hs
     rw [lQ]
     have h1:mD (cC (cellsOf (val tb tm 0 x))) A B:=h.sub fun r hr=>List.mem_append_left _ hr
     have h2:mD (cC (cellsOf (val tb tm t y))) A B:=h.sub fun r hr=>List.mem_append_right _ (by rw [← ng (t:=t)];exact hr)
     rw [A0 hl h1 h2 fun r hr hm=>hh r hr (List.mem_append_left _ hm)]
     rfl
  · cases hs
 | indexAddr t x i =>
  simp only [eh,hop,reads] at hs h ⊢
  rw [wh (by rw [ng];exact h)]
  exact hs
 | slice t x lo hi mx =>
  cases mx with
  | some _=>simp only [eh,hop] at hs;cases hs
  | none =>
   simp only [eh,hop,reads] at hs h ⊢
   rw [zl (by rw [ng];exact h)]
   exact hs
 | convert s d x =>
  simp only [eh,hop,reads] at hs h ⊢
  split at hs
  · rename_i h1 h2 h3
    try simp only [h1,h2,h3]
    exact hs
  · rename_i h1 h2 h3
    try simp only [h1,h2,h3]
    exact hs
  · rename_i h1 h2 h3
    rw [sI (A:=A) (B:=B) (mD.sub (by rw [ng];exact h) xU)]
    exact hs
  · cases hs
 | buildSlice t n ps =>
  simp only [eh,hop,reads] at hs h ⊢
  split at hs
  · rename_i e he
    try simp only [he]
    have h1:∀ p ∈ ps.toList,mD (cC (cellsOf (val tb tm 0 p.2))) A B:=fun p hp=>h.sub fun r hr=>List.mem_flatMap.2 ⟨p,hp,hr⟩
    rw [wI h1,mc (A:=A) (B:=B) (by rw [uv];exact h)]
    exact hs
  · cases hs
 | call c =>
  have h1:∀ x ∈ c.args.toList,mD (cC (cellsOf (val tb tm 0 x))) A B:=fun x hx=>h.sub fun r hr=>by
   simp only [reads,hop]
   exact List.mem_append_left _ (List.mem_flatMap.2 ⟨x,hx,hr⟩)
  simp only [eh,hop] at hs ⊢
  split at hs
  · rename_i hc
    try simp only [hc]
    split at hs
    · rename_i x t ha ht
      try simp only [ha,ht]
      rw [Dl (by rw [ng];exact h1 x (by rw [ha];simp))]
      exact hs
    · cases hs
  · rename_i hc
    try simp only [hc]
    split at hs
    · rename_i d s t t' ha ht
      try simp only [ha,ht]
      split at hs
      · rename_i e he
        try simp only [he]
        cases hb:Nat.beq t t' with
        | false=>rw [hb] at hs;cases hs
        | true =>
         rw [hb,cond_true] at hs
         rw [cond_true,ie]
         rw [ie] at hs
         cases hl:js e A id (val tb tm t d) (val tb tm t s) (fun v us=>some (v,us)) with
         | none=>rw [hl] at hs;cases hs
         | some z =>
          obtain ⟨z1,z2⟩:=z
          rw [hl] at hs
          cases hs
          rw [xZ hl (by rw [ng];exact h1 d (by rw [ha];simp)) (by rw [ng];exact h1 s (by rw [ha];simp)) ?_]
          · rfl
          · intro r hr hm
            refine hh r hr ?_
            simp only [reads,hop]
            exact List.mem_append_left _ (List.mem_flatMap.2 ⟨d,by rw [ha];simp,by rw [← ng (t:=t)];exact hm⟩)
      · cases hs
    · cases hs
  · rename_i hc
    try simp only [hc]
    exact hs
  · rename_i hc
    try simp only [hc]
    exact hs
  · rename_i x hc
    try simp only [hc]
    split at hs
    · rename_i q hq
      try simp only [hq]
      have hsub:∀ vs,gl q.1.A q.2=some vs→∀ r ∈ n8 A q.1.A vs++rO A q.1.A vs,r ∈ reads tb ct o tm A:=fun vs hvs r hr=>by
       simp only [reads,hop,hc,hq,hvs]
       exact List.mem_append_right _ hr
      exact DK (A:=A) (B:=B) hs (fun vs hvs=>h.sub (hsub vs hvs)) (fun vs hvs r hr hm=>hh r hr (hsub vs hvs r (List.mem_append_left _ hm)))
    · cases hs
  · cases hs
 | makeFunc fn first caps =>
  cases fn with
  | func f=>simp only [eh,hop] at hs ⊢;exact hs
  | _=>unfold eh at hs;rw [hop] at hs;cases hs
 | _=>unfold eh at hs ⊢;rw [hop] at hs ⊢;exact hs
end
end Go.V
end
section
namespace Go.V
open Go.RowKit
section
variable {tb:mS} {ct:List (Nat × Cn)} {tm tm':List AV} {hp:Hp} {id:Nat} {R:Type}
theorem GI {f g:Operand→AV} {o:Option Operand} (h:∀ x ∈ o.toList,f x=g x):o.map f=o.map g:=by
 cases o with
 | none=>rfl
 | some x=>simp [h x (by simp)]
theorem qC {offs:List (Nat × Nat)} {f g:Operand→AV}:∀ {ps:List (Nat × Operand)} {z:List AV},(∀ p ∈ ps,f p.2=g p.2)→lI z offs f ps=lI z offs g ps
 | [],_,_=>rfl
 | (i,x)::ps,z,h=>by
  have h0:f x=g x:=h (i,x) (List.mem_cons_self ..)
  simp only [lI,h0]
  split
  · rw [qC fun p hp=>h p (List.mem_cons_of_mem _ hp)]
  · rfl
theorem wX {e:Ty} {f g:Operand→AV}:∀ {ps:List (Nat × Operand)} {l:List e.d} {b:Bool},(∀ p ∈ ps,f p.2=g p.2)→elems hp e f ps l b=elems hp e g ps l b
 | [],_,_,_=>rfl
 | (i,x)::ps,l,b,h=>by
  have h0:f x=g x:=h (i,x) (List.mem_cons_self ..)
  simp only [elems,h0]
  split
  · rw [wX fun p hp=>h p (List.mem_cons_of_mem _ hp)]
  · rfl
theorem mZ {α β:Type} {f g:α→List β}:∀ {l:List α},(∀ x ∈ l,f x=g x)→l.flatMap f=l.flatMap g
 | [],_=>rfl
 | x::l,h=>by simp [h x (List.mem_cons_self ..),mZ fun y hy=>h y (List.mem_cons_of_mem _ hy)]
theorem KB {o:Oper} {k:AV→jl→Nat→Option R} (h:∀ x ∈ o.op.operands.toList,∀ T,val tb tm' T x=val tb tm T x) :
 eh tb ct o tm' hp id k=eh tb ct o tm hp id k∧reads tb ct o tm' hp=reads tb ct o tm hp:=by
 cases hop:o.op with
 | buildSlice t n ps =>
  have h0:∀ p ∈ ps.toList,val tb tm' 0 p.2=val tb tm 0 p.2:=fun p hp=>h p.2 (by rw [hop];simp only [Op.operands,List.toList_toArray];exact List.mem_map_of_mem hp) 0
  simp only [eh,reads,hop]
  have e1:ps.toList.flatMap (fun p=>cellsOf (val tb tm' 0 p.2))=ps.toList.flatMap (fun p=>cellsOf (val tb tm 0 p.2)):=mZ fun p hp=>by rw [h0 p hp]
  rw [e1]
  refine ⟨?_,mZ fun p hp=>by rw [h0 p hp]⟩
  split
  · rw [wX h0]
  · rfl
 | build t ps =>
  have h0:∀ p ∈ ps.toList,val tb tm' 0 p.2=val tb tm 0 p.2:=fun p hp=>h p.2 (by rw [hop];simp only [Op.operands,List.toList_toArray];exact List.mem_map_of_mem hp) 0
  simp only [eh,reads,hop]
  exact ⟨by
   split
   · rw [qC h0]
   · rfl,trivial⟩
 | makeFunc fn first caps =>
  have h0:caps.toList.map (val tb tm' 0)=caps.toList.map (val tb tm 0):=List.map_congr_left fun x hx=>h x (by rw [hop];simp only [Op.operands,Array.toList_append];exact List.mem_append_right _ hx) 0
  cases fn <;> simp only [eh,reads,hop]
  · exact ⟨by rw [h0],trivial⟩
  all_goals exact ⟨trivial,trivial⟩
 | call c =>
  have hin:∀ x ∈ c.args.toList,∀ T,val tb tm' T x=val tb tm T x:=fun x hx=>h x (by rw [hop];simp only [Op.operands,Call.operands,Array.toList_append];exact List.mem_append_right _ hx)
  have h0:c.args.toList.map (val tb tm' 0)=c.args.toList.map (val tb tm 0):=List.map_congr_left fun x hx=>hin x hx 0
  have hcal:∀ x,c.callee = .value x→q8 tb ct tm' x (c.args.toList.map (val tb tm' 0))=q8 tb ct tm x (c.args.toList.map (val tb tm 0)):=fun x hx=>by
   rw [h0]
   unfold q8
   rw [h x (by rw [hop];simp only [Op.operands,Call.operands,Array.toList_append,hx];exact List.mem_append_left _ (by simp)) 0]
  simp only [eh,reads,hop]
  refine ⟨?_,?_⟩
  · split
    · split
      · rename_i x t ha ht
        rw [hin x (by rw [ha];simp)]
      · rfl
    · split
      · rename_i d s t t' ha ht
        split
        · rw [hin d (by rw [ha];simp),hin s (by rw [ha];simp)]
        · rfl
      · rfl
    · rw [h0]
    · rw [h0]
    · rename_i x hc
      rw [hcal x hc]
    · rfl
  · rw [mZ (f:=fun x=>cC (cellsOf (val tb tm' 0 x))) (g:=fun x=>cC (cellsOf (val tb tm 0 x))) fun x hx=>by rw [hin x hx]]
    congr 1
    split
    · rename_i x hc
      rw [hcal x hc]
    · rfl
 | slice t x lo hi mx =>
  have hx:=h x (by rw [hop];simp [Op.operands])
  have hl:lo.map (val tb tm' 0)=lo.map (val tb tm 0):=GI fun y hy=>h y (by rw [hop];simp [Op.operands] at hy ⊢;simp [hy]) 0
  have hh:hi.map (val tb tm' 0)=hi.map (val tb tm 0):=GI fun y hy=>h y (by rw [hop];simp [Op.operands] at hy ⊢;simp [hy]) 0
  cases mx <;> simp only [eh,reads,hop,hx,hl,hh] <;> exact ⟨trivial,trivial⟩
 | pick c x y =>
  have h1:=h c (by rw [hop];simp [Op.operands])
  have h2:=h x (by rw [hop];simp [Op.operands])
  have h3:=h y (by rw [hop];simp [Op.operands])
  simp only [eh,reads,hop,h1,h2,h3]
  exact ⟨trivial,trivial⟩
 | store t x y =>
  have h1:=h x (by rw [hop];simp [Op.operands])
  have h2:=h y (by rw [hop];simp [Op.operands])
  simp only [eh,reads,hop,h1,h2]
  exact ⟨trivial,trivial⟩
 | binOp op t x y u =>
  have h1:=h x (by rw [hop];simp [Op.operands])
  have h2:=h y (by rw [hop];simp [Op.operands])
  simp only [eh,reads,hop,h1,h2]
  exact ⟨trivial,trivial⟩
 | makeSlice t x y =>
  have h1:=h x (by rw [hop];simp [Op.operands])
  have h2:=h y (by rw [hop];simp [Op.operands])
  simp only [eh,reads,hop,h1,h2]
  exact ⟨trivial,trivial⟩
 | indexAddr t x y =>
  have h1:=h x (by rw [hop];simp [Op.operands])
  have h2:=h y (by rw [hop];simp [Op.operands])
  simp only [eh,reads,hop,h1,h2]
  exact ⟨trivial,trivial⟩
 | index t x y =>
  have h1:=h x (by rw [hop];simp [Op.operands])
  have h2:=h y (by rw [hop];simp [Op.operands])
  simp only [eh,reads,hop,h1,h2]
  exact ⟨trivial,trivial⟩
 | alloc t=>simp only [eh,reads,hop];exact ⟨trivial,trivial⟩
 | move x=>have h1:=h x (by rw [hop];simp [Op.operands]);simp only [eh,reads,hop,h1];exact ⟨trivial,trivial⟩
 | assign x=>have h1:=h x (by rw [hop];simp [Op.operands]);simp only [eh,reads,hop,h1];exact ⟨trivial,trivial⟩
 | box t x=>have h1:=h x (by rw [hop];simp [Op.operands]);simp only [eh,reads,hop,h1];exact ⟨trivial,trivial⟩
 | load t x=>have h1:=h x (by rw [hop];simp [Op.operands]);simp only [eh,reads,hop,h1];exact ⟨trivial,trivial⟩
 | nilCheck x=>have h1:=h x (by rw [hop];simp [Op.operands]);simp only [eh,reads,hop,h1];exact ⟨trivial,trivial⟩
 | unOp op t x=>have h1:=h x (by rw [hop];simp [Op.operands]);simp only [eh,reads,hop,h1];exact ⟨trivial,trivial⟩
 | convert s d x=>have h1:=h x (by rw [hop];simp [Op.operands]);simp only [eh,reads,hop,h1];exact ⟨trivial,trivial⟩
 | fieldAddr s x f=>have h1:=h x (by rw [hop];simp [Op.operands]);simp only [eh,reads,hop,h1];exact ⟨trivial,trivial⟩
 | field s x f=>have h1:=h x (by rw [hop];simp [Op.operands]);simp only [eh,reads,hop,h1];exact ⟨trivial,trivial⟩
 | extract x i=>have h1:=h x (by rw [hop];simp [Op.operands]);simp only [eh,reads,hop,h1];exact ⟨trivial,trivial⟩
 | _=>unfold eh reads;rw [hop];exact ⟨rfl,rfl⟩
end
def Ch:jl→Nat→qR→qR
 | [],_,x=>x
 | u::us,r,x=>Ch us r (bif Nat.beq r u.1 then turn u.2 x else x)
theorem l_:∀ {us:jl} {hp:Hp} {r:Nat},applyF hp us r=Ch us r (hp r)
 | [],_,_=>rfl
 | u::us,hp,r=>by
  simp only [applyF,Ch]
  exact l_ (us:=us)
theorem vO (x:qR):CN (CN x)=CN x:=by cases x <;> rfl
theorem Fe (x:qR):(∀ y,turn x y=CN y)∨(∃ z,∀ y,turn x y=z):=by
 cases x
 · exact Or.inr ⟨_,fun _=>rfl⟩
 · exact Or.inr ⟨_,fun _=>rfl⟩
 · exact Or.inr ⟨_,fun _=>rfl⟩
 · exact Or.inl fun _=>rfl
theorem CB:∀ (us:jl) (r:Nat) {x y:qR},(y=x∨y=CN x)→(Ch us r y=Ch us r x∨Ch us r y=CN (Ch us r x))
 | [],_,_,_,h=>h
 | u::us,r,x,y,h=>by
  simp only [Ch]
  cases Nat.beq r u.1 with
  | false=>exact CB us r h
  | true =>
   simp only [cond_true]
   refine CB us r ?_
   rcases Fe u.2 with q | ⟨z,q⟩
   · rw [q,q]
     rcases h with rfl | rfl
     · exact Or.inl rfl
     · exact Or.inl (vO _)
   · rw [q,q];exact Or.inl rfl
theorem sy:∀ {us:jl} {r:Nat},r ∉ us.map (·.1)→∀ x,Ch us r x=x
 | [],_,_,_=>rfl
 | u::us,r,h,x=>by
  simp only [List.map_cons,List.mem_cons,not_or] at h
  simp only [Ch]
  have:Nat.beq r u.1=false:=by
   cases hb:Nat.beq r u.1 with
   | false=>rfl
   | true=>exact absurd (Nat.eq_of_beq_eq_true hb) h.1
  rw [this]
  exact sy h.2 x
theorem zv {u:Nat × qR} {us:jl} {r:Nat} (h:r ∉ kP (u::us)):r ∉ kP us∧(r=u.1→∃ p e l,u.2 = .fro p e l):=by
 obtain ⟨s,x⟩:=u
 cases x <;> simp_all [kP]
theorem sH:∀ {us:jl} {r:Nat},r ∉ kP us→(∀ x,Ch us r x=x)∨(∀ x,Ch us r x=CN x)
 | [],_,_=>Or.inl fun _=>rfl
 | u::us,r,h=>by
  obtain ⟨h1,h2⟩:=zv h
  simp only [Ch]
  cases hb:Nat.beq r u.1 with
  | false=>exact sH h1
  | true =>
   simp only [cond_true]
   obtain ⟨p,e,l,q⟩:=h2 (Nat.eq_of_beq_eq_true hb)
   rw [q]
   right
   intro x
   rcases sH h1 with g | g
   · rw [g];rfl
   · rw [g];exact vO x
theorem JW {us vs:jl} {r:Nat} (h1:∀ r ∈ kP us,r ∉ vs.map (·.1)) (h2:∀ r ∈ kP vs,r ∉ us.map (·.1)) (x:qR):Ch vs r (Ch us r x)=Ch us r (Ch vs r x):=by
 by_cases a:r ∈ kP us
 · rw [sy (h1 r a),sy (h1 r a)]
 · by_cases b:r ∈ kP vs
   · rw [sy (h2 r b),sy (h2 r b)]
   · rcases sH a with p | p <;> rcases sH b with q | q <;> simp [p,q]
theorem vD:∀ {us:jl} {hp:Hp},rJ us→applyF hp us=apply hp us
 | [],_,_=>rfl
 | u::us,hp,h=>by
  simp only [applyF,apply]
  have e:(fun n=>bif Nat.beq n u.1 then turn u.2 (hp n) else hp n)=kT hp u.1 u.2:=by
   funext n
   simp only [kT]
   have h0:=h u.1 u.2 (List.mem_cons_self ..)
   obtain ⟨s,x⟩:=u
   cases x <;> first | rfl | exact absurd rfl (h0 _ _ _)
  rw [e]
  exact vD fun r x hx=>h r x (List.mem_cons_of_mem _ hx)
theorem xj:∀ {us:jl} {hp:Hp},CV hp us→applyF hp us=apply hp us
 | [],_,_=>rfl
 | (r,x)::us,hp,h=>by
  obtain ⟨p,e,l,rfl,hr⟩:=h r x (List.mem_cons_self ..)
  simp only [applyF,apply]
  have e':(fun n=>bif Nat.beq n r then turn (.fro p e l) (hp n) else hp n)=kT hp r (.fro p e l):=by
   funext n
   simp only [kT]
   cases hb:Nat.beq n r with
   | false=>rfl
   | true =>
    simp only [cond_true]
    rw [Nat.eq_of_beq_eq_true hb]
    rcases hr with q | q <;> rw [q] <;> rfl
  rw [e']
  exact xj h.tail
theorem ul:∀ (us0:jl) {hp:Hp} {us1:jl},apply hp (us0++us1)=apply (apply hp us0) us1
 | [],_,_=>rfl
 | u::us,hp,us1=>ul us
theorem tH:∀ (us0:jl) {hp:Hp} {us1:jl},applyF hp (us0++us1)=applyF (applyF hp us0) us1
 | [],_,_=>rfl
 | u::us,hp,us1=>tH us
theorem gq.applyF {hp:Hp} {id nx:Nat} {us:jl} (h:gq hp id us nx):applyF hp us=apply hp us:=by
 obtain ⟨_,us0,us1,rfl,h0,h1⟩:=h
 rw [tH,ul,xj h0,vD h1]
end Go.V
end
section
namespace Go.V
open Go.RowKit
structure G where
 i:Nat
 go:Bool
 us:jl
 rd:List Nat
 A:List Nat
 dst:Option Nat
 v:AV
 nm:List Nat
 id:Nat
 nx:Nat
def rep (hp:Hp) (D:Nat→Bool):List G→Hp
 | []=>hp
 | g::gs=>bif D g.i then applyF (rep hp D gs) g.us else rep hp D gs
def iq (tm:List AV) (D:Nat→Bool):List G→List AV
 | []=>tm
 | g::gs=>bif D g.i then oB (iq tm D gs) g.dst g.v else iq tm D gs
structure NO (g' g:G):Prop where
 a:∀ r ∈ kP g.us,r ∉ g'.rd
 b:∀ r ∈ kP g'.us,r ∉ g.rd
 c:∀ r ∈ g.us.map (·.1),r ∉ kP g'.us
 d:∀ r ∈ kP g.us,r ∉ g'.us.map (·.1)
structure IX (g' g:G):Prop where
 e:∀ t ∈ g.dst.toList,t ∉ g'.dst.toList++g'.nm
 f:∀ t ∈ g'.dst.toList,t ∉ g.nm
section
variable {hp:Hp} {tm:List AV} {D D':Nat→Bool}
theorem sO {r:Nat}:∀ {gs:List G},(∀ g ∈ gs,r ∈ g.us.map (·.1)→D g.i=D' g.i)→rep hp D gs r=rep hp D' gs r
 | [],_=>rfl
 | g::gs,h=>by
  have ih:=sO (gs:=gs) fun g' hg=>h g' (List.mem_cons_of_mem _ hg)
  simp only [rep]
  by_cases hr:r ∈ g.us.map (·.1)
  · rw [h g (List.mem_cons_self ..) hr]
    cases D' g.i with
    | true=>simp only [cond_true,l_,ih]
    | false=>exact ih
  · have e:∀ (b:Bool) (x:Hp),(bif b then applyF x g.us else x) r=x r:=fun b x=>by
     cases b with
     | true=>simp only [cond_true,l_,sy hr]
     | false=>rfl
    rw [e,e,ih]
theorem GF {r:Nat}:∀ {gs:List G},(∀ g ∈ gs,D g.i=D' g.i∨(D g.i=true∧r ∉ kP g.us))→rep hp D gs r=rep hp D' gs r∨rep hp D gs r=CN (rep hp D' gs r)
 | [],_=>Or.inl rfl
 | g::gs,h=>by
  have ih:=GF (gs:=gs) fun g' hg=>h g' (List.mem_cons_of_mem _ hg)
  simp only [rep]
  cases h1:D g.i with
  | true =>
   cases h2:D' g.i with
   | true =>
    simp only [cond_true,l_]
    exact CB _ _ ih
   | false =>
    rcases h g (List.mem_cons_self ..) with q | ⟨_,q⟩
    · rw [h1,h2] at q;cases q
    · simp only [cond_true,cond_false,l_]
      rcases sH q with e | e
      · rw [e];exact ih
      · rw [e]
        rcases ih with g1 | g1
        · rw [g1];exact Or.inr rfl
        · rw [g1,vO];exact Or.inr rfl
  | false =>
   cases h2:D' g.i with
   | true =>
    rcases h g (List.mem_cons_self ..) with q | ⟨q,_⟩
    · rw [h1,h2] at q;cases q
    · rw [h1] at q;cases q
   | false=>exact ih
theorem JQ {l:List AV} {d:Option Nat} {v:AV}:(oB l d v).length=l.length:=by cases d <;> simp [oB]
theorem ut:∀ {gs:List G},(iq tm D gs).length=tm.length
 | []=>rfl
 | g::gs=>by
  simp only [iq]
  cases D g.i with
  | true=>rw [cond_true,JQ];exact ut
  | false=>exact ut
theorem IP {l l':List AV} {d:Option Nat} {v:AV} {t:Nat} (hl:l.length=l'.length) (h:l.getD t .junk=l'.getD t .junk):(oB l d v).getD t .junk=(oB l' d v).getD t .junk:=by
 cases d with
 | none=>exact h
 | some d =>
  simp only [oB,List.getD,List.getElem?_set,hl] at h ⊢
  split
  · split <;> rfl
  · exact h
theorem G7 {l:List AV} {d:Option Nat} {v:AV} {t:Nat} (h:d≠some t):(oB l d v).getD t .junk=l.getD t .junk:=by
 cases d with
 | none=>rfl
 | some d =>
  have:d≠t:=fun q=>h (by rw [q])
  simp [oB,List.getD,List.getElem?_set_ne this]
theorem yd {t:Nat}:∀ {gs:List G},(∀ g ∈ gs,g.dst=some t→D g.i=D' g.i)→(iq tm D gs).getD t .junk=(iq tm D' gs).getD t .junk
 | [],_=>rfl
 | g::gs,h=>by
  have ih:=yd (gs:=gs) fun g' hg=>h g' (List.mem_cons_of_mem _ hg)
  simp only [iq]
  by_cases hr:g.dst=some t
  · rw [h g (List.mem_cons_self ..) hr]
    cases D' g.i with
    | true =>
     simp only [cond_true]
     exact IP (by rw [ut,ut]) ih
    | false=>exact ih
  · have e:∀ (b:Bool) (x:List AV),(bif b then oB x g.dst g.v else x).getD t .junk=x.getD t .junk:=fun b x=>by
     cases b with
     | true=>exact G7 hr
     | false=>rfl
    rw [e,e,ih]
def oI (D:Nat→Bool) (i:Nat):Nat→Bool:=fun j=>bif Nat.beq j i then true else D j
theorem sg {i:Nat}:oI D i i=true:=by simp [oI]
theorem ol {i j:Nat} (h:j≠i):oI D i j=D j:=by
 have:Nat.beq j i=false:=by
  cases hb:Nat.beq j i with
  | false=>rfl
  | true=>exact absurd (Nat.eq_of_beq_eq_true hb) h
 simp [oI,this]
theorem Kq {gs:List G} (h:∀ g ∈ gs,D g.i=D' g.i):rep hp D gs=rep hp D' gs:=funext fun r=>sO fun g hg _=>h g hg
theorem uq:∀ {gs:List G},(∀ g ∈ gs,D g.i=D' g.i)→iq tm D gs=iq tm D' gs
 | [],_=>rfl
 | g::gs,h=>by
  simp only [iq]
  rw [h g (List.mem_cons_self ..),uq fun g' hg=>h g' (List.mem_cons_of_mem _ hg)]
theorem Gk {g:G} {r:Nat}:∀ {gs:List G},gs.Pairwise (fun x y=>y.i<x.i)→g ∈ gs→D g.i=false →
 (∀ h ∈ gs,g.i<h.i→D h.i=true→(∀ r ∈ kP g.us,r ∉ h.us.map (·.1))∧(∀ r ∈ kP h.us,r ∉ g.us.map (·.1)))→rep hp (oI D g.i) gs r=Ch g.us r (rep hp D gs r)
 | [],_,hg,_,_=>by cases hg
 | h::gs,hp',hg,hD,hc=>by
  rw [List.pairwise_cons] at hp'
  simp only [rep]
  rcases List.mem_cons.1 hg with q | q
  · subst q
    rw [sg,hD,cond_true,cond_false,l_]
    congr 1
    exact sO fun g' hg' _=>ol (Nat.ne_of_lt (hp'.1 g' hg'))
  · have hlt:=hp'.1 g q
    rw [ol (Nat.ne_of_gt hlt)]
    have ih:=Gk (r:=r) hp'.2 q hD fun h' hh'=>hc h' (List.mem_cons_of_mem _ hh')
    cases hb:D h.i with
    | false=>exact ih
    | true =>
     simp only [cond_true,l_]
     rw [ih]
     obtain ⟨c1,c2⟩:=hc h (List.mem_cons_self ..) hlt hb
     exact JW c1 c2 _
theorem IJ {l:List AV} {d e:Option Nat} {u v:AV} (h:∀ t ∈ d.toList,t ∉ e.toList):oB (oB l d u) e v=oB (oB l e v) d u:=by
 cases d with
 | none=>rfl
 | some d =>
  cases e with
  | none=>rfl
  | some e =>
   have:d≠e:=fun q=>h d (by simp) (by simp [q])
   exact List.set_comm _ _ this
theorem Cq {g:G}:∀ {gs:List G},gs.Pairwise (fun x y=>y.i<x.i)→g ∈ gs→D g.i=false →
 (∀ h ∈ gs,g.i<h.i→D h.i=true→∀ t ∈ h.dst.toList,t ∉ g.dst.toList)→iq tm (oI D g.i) gs=oB (iq tm D gs) g.dst g.v
 | [],_,hg,_,_=>by cases hg
 | h::gs,hp',hg,hD,hc=>by
  rw [List.pairwise_cons] at hp'
  simp only [iq]
  rcases List.mem_cons.1 hg with q | q
  · subst q
    rw [sg,hD,cond_true,cond_false]
    congr 1
    exact uq fun g' hg'=>ol (Nat.ne_of_lt (hp'.1 g' hg'))
  · have hlt:=hp'.1 g q
    rw [ol (Nat.ne_of_gt hlt)]
    have ih:=Cq hp'.2 q hD fun h' hh'=>hc h' (List.mem_cons_of_mem _ hh')
    cases hb:D h.i with
    | false=>exact ih
    | true =>
     simp only [cond_true]
     rw [ih]
     exact (IJ (hc h (List.mem_cons_self ..) hlt hb)).symm
end
def nB:List G→List NG
 | []=>[]
 | g::gs=>bif g.go then ⟨g.i,g.us,g.rd⟩::nB gs else nB gs
theorem u5 {hp:Hp} {a:List Nat}:∀ {gs:List G},(∀ g ∈ gs,g.go=false→g.us=[])→qd hp a (nB gs)=rep hp (jp a) gs
 | [],_=>rfl
 | g::gs,h=>by
  have ih:=u5 (hp:=hp) (a:=a) (gs:=gs) fun g' hg=>h g' (List.mem_cons_of_mem _ hg)
  simp only [nB,rep]
  cases hg:g.go with
  | true=>simp only [cond_true,qd,ih]
  | false =>
   rw [h g (List.mem_cons_self ..) hg]
   simp only [cond_false,applyF,ih]
   cases jp a g.i <;> rfl
theorem tB {hp:Hp}:∀ {gs:List G},(∀ g ∈ gs,g.go=false→g.us=[])→sd hp (nB gs)=rep hp (fun _=>true) gs
 | [],_=>rfl
 | g::gs,h=>by
  have ih:=tB (hp:=hp) (gs:=gs) fun g' hg=>h g' (List.mem_cons_of_mem _ hg)
  simp only [nB,rep]
  cases hg:g.go with
  | true=>simp only [cond_true,sd,ih]
  | false =>
   rw [h g (List.mem_cons_self ..) hg]
   simp only [cond_false,cond_true,applyF,ih]
theorem xm {a:List Nat} {us:jl} {rd:List Nat}:∀ {gs:List G},KL a us rd (nB gs)=true→∀ g' ∈ gs,g'.go=true→jp a g'.i=true ∨
 ((∀ r ∈ kP us,r ∉ g'.rd)∧(∀ r ∈ kP g'.us,r ∉ rd)∧(∀ r ∈ us.map (·.1),r ∉ kP g'.us)∧(∀ r ∈ kP us,r ∉ g'.us.map (·.1)))
 | [],_,_,hg,_=>by cases hg
 | g::gs,h,g',hg,hgo=>by
  simp only [nB] at h
  cases hgg:g.go with
  | false =>
   rw [hgg,cond_false] at h
   rcases List.mem_cons.1 hg with q | q
   · subst q;rw [hgg] at hgo;cases hgo
   · exact xm h g' q hgo
  | true =>
   rw [hgg,cond_true] at h
   simp only [KL] at h
   cases hc:(jp a g.i||(lk (kP us) g.rd&&lk (kP g.us) rd&&lk (us.map (·.1)) (kP g.us)&&lk (kP us) (g.us.map (·.1)))) with
   | false=>rw [hc] at h;cases h
   | true =>
    rw [hc,cond_true] at h
    rcases List.mem_cons.1 hg with q | q
    · subst q
      simp only [Bool.or_eq_true,Bool.and_eq_true,tY] at hc
      rcases hc with q | ⟨⟨⟨q1,q2⟩,q3⟩,q4⟩
      · exact Or.inl q
      · exact Or.inr ⟨q1,q2,q3,q4⟩
    · exact xm h g' q hgo
end Go.V
end

/- V: soundness, part 6 of 10. -/
import Derived.Test.YtgnakpiicdfpkaaGreatDoorVS5
section
set_option linter.unusedVariables false
set_option linter.unusedSimpArgs false
namespace Go.V
open Go.RowKit
def lp (L:List Nat) (A B:Hp):Prop:=∀ r ∈ L,B r=A r∨∃ p e l,A r = .own p e l∧B r = .fro p e l
theorem Dn:∀ {cs:List AV} {r:Nat},r ∈ cC cs↔(AV.ref r ∈ cs∨∃ i f,AV.ptr r i f ∈ cs)
 | [],r=>by simp [cC]
 | c::cs,r=>by
  have ih:=Dn (cs:=cs) (r:=r)
  cases c <;> simp [cC,ih,List.mem_cons] <;> grind
theorem lp.sub {L M:List Nat} {A B:Hp} (h:lp L A B) (hs:∀ r ∈ M,r ∈ L):lp M A B:=fun r hr=>h r (hs r hr)
theorem rK {cs ds:List AV} (h:∀ c ∈ ds,c ∈ cs):∀ r ∈ cC ds,r ∈ cC cs:=fun r hr=>by
 rw [Dn] at hr ⊢
 rcases hr with q | ⟨i,f,q⟩
 · exact Or.inl (h _ q)
 · exact Or.inr ⟨i,f,h _ q⟩
theorem rB:∀ {us:jg} {r:Nat} {x:pu},(r,x) ∈ us→(∀ p e l,x ≠ .fro p e l)→r ∈ kE us
 | [],_,_,h,_=>by cases h
 | (s,y)::us,r,x,h,hx=>by
  unfold kE
  rcases List.mem_cons.1 h with q | q
  · cases q
    split
    · rename_i q;cases q
    · rename_i q;cases q;exact absurd rfl (hx _ _ _)
    · rename_i q;cases q;exact List.mem_cons_self ..
  · have:=rB q hx
    split
    · rename_i q;cases q
    · rename_i q;cases q;exact this
    · rename_i q;cases q;exact List.mem_cons_of_mem _ this
section
variable {A B:Hp}
theorem rQ {e:Ty} {c:AV} (h:lp (cC [c]) A B):getSl B e c=getSl A e c:=by
 cases c <;> try rfl
 rename_i r
 simp only [getSl]
 rcases h r (by simp [cC]) with q | ⟨p,e',l,q1,q2⟩
 · rw [q]
 · rw [q1,q2]
theorem lG:∀ {t:Ty} {cs:List AV},lp (cC cs) A B→prj B t cs=prj A t cs
 | .bool,_,_=>rfl
 | .int _,_,_=>rfl
 | .str,_,_=>rfl
 | .slice e,cs,h=>by
  simp only [prj,tO]
  split
  · exact rQ h
  · rfl
 | .pair a b,cs,h=>by
  simp only [prj]
  rw [lG (t:=a) (h.sub (rK fun c hc=>List.mem_of_mem_take hc)),lG (t:=b) (h.sub (rK fun c hc=>List.mem_of_mem_drop hc))]
 | .unit,_,_=>rfl
 | .opq,_,_=>rfl
theorem BV {c:AV} (h:lp (cC [c]) A B):taint1 B c=taint1 A c:=by
 cases c <;> try rfl
 rename_i r
 simp only [taint1]
 rcases h r (by simp [cC]) with q | ⟨p,e',l,q1,q2⟩
 · rw [q]
 · rw [q1,q2]
theorem nC:∀ {cs:List AV},lp (cC cs) A B→taint B cs=taint A cs
 | [],_=>rfl
 | c::cs,h=>by
  simp only [taint]
  rw [BV (h.sub (rK fun d hd=>by simp at hd;subst hd;exact List.mem_cons_self ..)),nC (h.sub (rK fun d hd=>List.mem_cons_of_mem _ hd))]
theorem m_:∀ {cs:List AV},lp (cC cs) A B→freeze B cs=freeze A cs
 | [],_=>rfl
 | c::cs,h=>by
  have ih:=m_ (cs:=cs) (h.sub (rK fun d hd=>List.mem_cons_of_mem _ hd))
  cases c <;> try exact ih
  rename_i r
  simp only [freeze,ih]
  rcases h r (by simp [cC]) with q | ⟨p,e',l,q1,q2⟩
  · rw [q]
  · rw [q1,q2]
theorem JF {R:Type} {t:Ty} {a:AV} {k:AV→Option R} (h:lp (cC (cellsOf a)) A B):ld B t a k=ld A t a k:=by
 cases a <;> try rfl
 rename_i r i off
 simp only [ld]
 rcases h r (by simp [cC,cellsOf]) with q | ⟨p,e',l,q1,q2⟩
 · rw [q]
 · rw [q1,q2]
theorem zr {t:Ty} {a v:AV} {us:jg} (hs:lE A t a v some=some us) (h1:lp (cC (cellsOf a)) A B) (h2:lp (cC (cellsOf v)) A B) (hh:∀ r ∈ kE us,r ∈ cC (cellsOf a)→B r=A r):lE B t a v some=some us:=by
 unfold lE at hs ⊢
 obtain ⟨hc,hs⟩:=aM hs
 rw [hc,cond_true]
 split at hs
 · rename_i r i off _
   split at hs
   · rename_i cs hr
     obtain ⟨hle,hs⟩:=aM hs
     cases hs
     rw [hh r (rB (List.mem_singleton.2 rfl) (fun _ _ _ q=>by cases q)) (by simp [cC,cellsOf]),hr]
     simp only [hle,cond_true]
   · rename_i p e l hr
     obtain ⟨hn,hs⟩:=qH hs
     split at hs
     · rename_i y hy
       split at hs
       · rename_i z hz
         cases hs
         rw [hh r (rB (List.mem_append_right _ (List.mem_singleton.2 rfl)) (fun _ _ _ q=>by cases q)) (by simp [cC,cellsOf]),hr]
         simp only [hn,cond_false,lG h2,hy,hz,m_ h2,nC h2]
       · cases hs
     · cases hs
   · cases hs
 · cases hs
theorem wi {R:Type} {tb:m5} {t:Nat} {x i:AV} {k:AV→Option R} (h:lp (cC (cellsOf x)) A B):indexAddr tb B t x i k=indexAddr tb A t x i k:=by
 unfold indexAddr
 split
 · cases x <;> try rfl
   rename_i r
   simp only []
   rcases h r (by simp [cC,cellsOf]) with q | ⟨p,e',l,q1,q2⟩
   · rw [q]
   · rw [q1,q2]
 · rfl
theorem zj {R:Type} {u:Ty} {x:AV} {lo hi:Option AV} {k:AV→jg→Option R} (h:lp (cC (cellsOf x)) A B):lK u B x lo hi k=lK u A x lo hi k:=by
 cases x with
 | ref r =>
  cases u <;> try rfl
  simp only [lK]
  rcases h r (by simp [cC,cellsOf]) with q | ⟨p,e',l,q1,q2⟩
  · rw [q]
  · rw [q1,q2]
 | _=>cases u <;> rfl
theorem DT {R:Type} {u:Ty} {x:AV} {k:AV→Option R} (h:lp (cC (cellsOf x)) A B):lenOf u B x k=lenOf u A x k:=by
 cases x with
 | ref r =>
  cases u <;> try rfl
  simp only [lenOf]
  rcases h r (by simp [cC,cellsOf]) with q | ⟨p,e',l,q1,q2⟩
  · rw [q]
  · rw [q1,q2]
 | _=>cases u <;> rfl
theorem xk {c:AV}:∀ r ∈ cC [c],r ∈ cC (cellsOf c):=by
 intro r hr
 cases c <;> simp_all [cC,cellsOf]
theorem yW {e:Ty} {id:Nat} {d s v:AV} {us:jg} (hs:jv e A id d s (fun v us=>some (v,us))=some (v,us)) (h1:lp (cC (cellsOf d)) A B) (h2:lp (cC (cellsOf s)) A B) (hh:∀ r ∈ kE us,r ∈ cC (cellsOf d)→B r=A r) :
 jv e B id d s (fun v us=>some (v,us))=some (v,us):=by
 unfold jv at hs ⊢
 have h2':=h2.sub xk
 rw [rQ h2']
 split at hs
 · cases hs
 · split at hs
   · rw [nC h2'];exact hs
   · rename_i r
     split at hs
     · rename_i p t l hr
       split at hs
       · rename_i ld hld
         obtain ⟨hle,hs⟩:=aM hs
         cases hs
         have hB:B r=A r:=hh r (rB (List.mem_cons_self ..) (fun _ _ _ q=>by cases q)) (by simp [cC,cellsOf])
         rw [hB,hr]
         simp only [hld,hle,cond_true,nC h2']
       · cases hs
     · cases hs
   · cases hs
theorem vt {e:Ty} {ρ:Operand→AV}:∀ {ps:List (Nat × Operand)} {l:List e.d} {b:Bool},(∀ p ∈ ps,lp (cC (cellsOf (ρ p.2))) A B)→elems B e ρ ps l b=elems A e ρ ps l b
 | [],_,_,_=>rfl
 | (i,x)::ps,l,b,h=>by
  have h0:lp (cC (cellsOf (ρ x))) A B:=h (i,x) (List.mem_cons_self ..)
  simp only [elems]
  rw [lG h0,nC h0]
  split
  · rw [vt fun p hp=>h p (List.mem_cons_of_mem _ hp)]
  · rfl
theorem Dt {v:AV} (h:lp (cC [v]) A B):qf B v=qf A v:=by
 cases v <;> try rfl
 rename_i r i f
 simp only [qf]
 rcases h r (by simp [cC]) with q | ⟨p,e,l,q1,q2⟩
 · rw [q]
 · rw [q1,q2]
theorem mB:∀ {cs:List AV},(∀ r ∈ cC cs,B r=A r)→eZ B cs=eZ A cs
 | [],_=>rfl
 | c::cs,h=>by
  cases c <;> simp only [eZ] <;> first
   | rfl
   | exact mB (cs:=cs) h
   | (rw [h _ (by simp [cC]),mB (cs:=cs) fun r q=>h r (by simp [cC,q])])
theorem vj {hp:Hp} {p:Bool}:∀ {t:Ty} {x y:t.d} {cs:List AV},prj hp t cs=some x→eZ hp cs=true→(oY p t y cs).map (·.1)=cC cs
 | .bool,x,y,cs,hx,hf=>by
  simp only [prj] at hx
  unfold uH at hx
  split at hx
  · rfl
  · cases hx
 | .int k,x,y,cs,hx,hf=>by
  simp only [prj] at hx
  unfold xZ at hx
  split at hx
  · rfl
  · cases hx
 | .str,x,y,cs,hx,hf=>by
  simp only [prj] at hx
  unfold xc at hx
  split at hx
  · rfl
  · cases hx
 | .unit,x,y,cs,hx,hf=>by
  simp only [prj] at hx
  unfold uS at hx
  split at hx
  · rfl
  · cases hx
 | .opq,x,y,cs,hx,hf=>by cases hx
 | .pair s t,x,y,cs,hx,hf=>by
  simp only [prj] at hx
  obtain ⟨h1,h2⟩:=cU hx
  have app:∀ cs ds:List AV,eZ hp (cs++ds)=true→eZ hp cs=true∧eZ hp ds=true:=by
   intro cs ds
   induction cs with
   | nil=>exact fun q=>⟨rfl,q⟩
   | cons c cs ih =>
    intro q
    cases c <;> simp only [List.cons_append,eZ,Bool.and_eq_true] at q ⊢ <;> first | (cases q;done) | (exact ih q) | (exact ⟨⟨q.1,(ih q.2).1⟩,(ih q.2).2⟩)
  obtain ⟨f1,f2⟩:=app (cs.take s.size) (cs.drop s.size) (by rw [List.take_append_drop];exact hf)
  show (oY p s y.1 _++oY p t y.2 _).map (·.1)=_
  rw [List.map_append,vj h1 f1,vj h2 f2,← rE]
 | .slice e,x,y,cs,hx,hf=>by
  simp only [prj] at hx
  unfold tO at hx
  split at hx
  · rename_i c
    cases c <;> first | rfl | (simp [getSl] at hx;done) | (simp [eZ] at hf;done)
  · cases hx
theorem oA {hp:Hp} {al:Bool}:∀ {A:List Pm} {vs:List AV} {x:(tup (nR A)).d} {y:(tup (gd A)).d} {id:Nat},fB hp A vs=some x→∀ r ∈ mV hp A vs,r ∈ (jd hp al A vs y id).map (·.1)
 | [],_,_,_,_,_,r,hr=>by cases hr
 | .val t::A,vs,x,y,id,hx,r,hr=>by
  cases vs with
  | nil=>simp only [fB] at hx;cases hx
  | cons v vs =>
   simp only [fB] at hx
   exact oA (A:=A) (cU (aM hx).2).2 r hr
 | .lend t::A,vs,x,y,id,hx,r,hr=>by
  cases vs with
  | nil=>simp only [fB] at hx;cases hx
  | cons v vs =>
   simp only [fB] at hx
   have h1:=aM hx
   have h2:=cU h1.2
   simp only [mV,List.headD_cons,List.tail_cons,List.mem_append] at hr
   simp only [jd,List.headD_cons,List.tail_cons,List.map_append,List.mem_append]
   rcases hr with q | q
   · left
     rw [vj h2.1 (Bool.and_eq_true _ _▸h1.1:_∧_).2]
     exact q
   · exact Or.inr (oA (A:=A) h2.2 r q)
 | .give t::A,vs,x,y,id,hx,r,hr=>by
  cases vs with
  | nil=>simp only [fB] at hx;cases hx
  | cons v vs =>
   simp only [fB] at hx
   have h1:=aM hx
   have h2:=cU h1.2
   simp only [mV,List.headD_cons,List.tail_cons,List.mem_append] at hr
   simp only [jd,List.headD_cons,List.tail_cons,List.map_append,List.mem_append]
   rcases hr with q | q
   · left;rw [qU];exact q
   · exact Or.inr (oA (A:=A) h2.2 r q)
 | .fn f n::A,vs,x,y,id,hx,r,hr=>oA (A:=A) hx r hr
 | .io o t::A,vs,x,y,id,hx,r,hr=>by
  cases vs with
  | nil=>simp only [fB] at hx;cases hx
  | cons v vs =>
   simp only [fB] at hx
   split at hx
   · rename_i cs hcs
     obtain ⟨r0,hv,hrow⟩:=py hcs
     subst hv
     obtain ⟨ho,hx⟩:=aM hx
     simp only [mV,List.headD_cons,List.tail_cons,hcs,Option.getD_some,cC,List.cons_append,List.nil_append,List.mem_cons,List.mem_append] at hr
     cases o with
     | true =>
      simp only [jd,List.headD_cons,List.tail_cons,hcs,Option.getD_some,cond_true,Aa,List.map_append,List.map_cons,List.mem_append,List.mem_cons,qU]
      rcases hr with q | q | q
      · exact Or.inr (Or.inl q)
      · exact Or.inl q
      · exact Or.inr (Or.inr (Or.inr (oA (A:=A) (cU hx).2 r q)))
     | false =>
      simp only [jd,List.headD_cons,List.tail_cons,hcs,Option.getD_some,cond_false,Aa,List.map_cons,List.mem_cons]
      rcases hr with q | q | q
      · exact Or.inl q
      · cases q
      · exact Or.inr (oA (A:=A) (cU hx).2 r q)
   · cases hx
theorem kz:∀ {Q:List Pm} {vs:List AV} {x:(tup (nR Q)).d},fB A Q vs=some x→lp (mV A Q vs++qv A Q vs) A B→(∀ r ∈ mV A Q vs,B r=A r) →
 fB B Q vs=some x∧mV B Q vs=mV A Q vs∧qv B Q vs=qv A Q vs∧∀ al y id,jd B al Q vs y id=jd A al Q vs y id
 | [],vs,x,hx,_,_=>⟨hx,rfl,rfl,fun _ _ _=>rfl⟩
 | .val t::Q,vs,x,hx,hf,hh=>by
  cases vs with
  | nil=>simp only [fB] at hx;cases hx
  | cons v vs =>
   simp only [fB] at hx ⊢
   simp only [mV,qv,List.headD_cons,List.tail_cons] at hf hh ⊢
   have h1:=aM hx
   have h2:=cU h1.2
   obtain ⟨g1,g2,g3,g4⟩:=kz (Q:=Q) h2.2 (hf.sub fun r q=>by
    rcases List.mem_append.1 q with q | q
    · exact List.mem_append_left _ q
    · exact List.mem_append_right _ (List.mem_append_right _ q)) hh
   refine ⟨?_,g2,by rw [g3],fun al y id=>g4 al y id⟩
   rw [lG (hf.sub fun r q=>List.mem_append_right _ (List.mem_append_left _ q)),h2.1,g1,h1.1]
   rfl
 | .lend t::Q,vs,x,hx,hf,hh=>by
  cases vs with
  | nil=>simp only [fB] at hx;cases hx
  | cons v vs =>
   simp only [fB] at hx ⊢
   simp only [mV,qv,List.headD_cons,List.tail_cons] at hf hh ⊢
   have h1:=aM hx
   have h2:=cU h1.2
   obtain ⟨g1,g2,g3,g4⟩:=kz (Q:=Q) h2.2 (hf.sub fun r q=>by
    rcases List.mem_append.1 q with q | q
    · exact List.mem_append_left _ (List.mem_append_right _ q)
    · exact List.mem_append_right _ q) (fun r q=>hh r (List.mem_append_right _ q))
   refine ⟨?_,by rw [g2],g3,fun al y id=>by simp only [jd,List.headD_cons,List.tail_cons,g4]⟩
   rw [mB fun r q=>hh r (List.mem_append_left _ q),lG (hf.sub fun r q=>List.mem_append_left _ (List.mem_append_left _ q)),h2.1,g1,h1.1]
   rfl
 | .give t::Q,vs,x,hx,hf,hh=>by
  cases vs with
  | nil=>simp only [fB] at hx;cases hx
  | cons v vs =>
   simp only [fB] at hx ⊢
   simp only [mV,qv,List.headD_cons,List.tail_cons] at hf hh ⊢
   have h1:=aM hx
   have h2:=cU h1.2
   obtain ⟨g1,g2,g3,g4⟩:=kz (Q:=Q) h2.2 (hf.sub fun r q=>by
    rcases List.mem_append.1 q with q | q
    · exact List.mem_append_left _ (List.mem_append_right _ q)
    · exact List.mem_append_right _ q) (fun r q=>hh r (List.mem_append_right _ q))
   refine ⟨?_,by rw [g2],g3,fun al y id=>congrArg (rG (cC (cellsOf v))++·) (g4 al y id)⟩
   rw [mB fun r q=>hh r (List.mem_append_left _ q),lG (hf.sub fun r q=>List.mem_append_left _ (List.mem_append_left _ q)),h2.1,g1,h1.1]
   rfl
 | .fn f n::Q,vs,x,hx,hf,hh=>kz (Q:=Q) hx hf hh
 | .io o t::Q,vs,x,hx,hf,hh=>by
  cases vs with
  | nil=>simp only [fB] at hx;cases hx
  | cons v vs =>
   have hbx:qf B v=qf A v:=Dt (hf.sub fun r q=>List.mem_append_left _ (by simp only [mV,List.headD_cons];exact List.mem_append_left _ q))
   simp only [fB,hbx] at hx ⊢
   cases hcs:qf A v with
   | none=>rw [hcs] at hx;cases hx
   | some cs =>
    rw [hcs] at hx
    simp only [] at hx ⊢
    simp only [mV,qv,List.headD_cons,List.tail_cons,hbx,hcs,Option.getD_some] at hf hh ⊢
    have h1:=aM hx
    have h2:=cU h1.2
    obtain ⟨g1,g2,g3,g4⟩:=kz (Q:=Q) h2.2 (hf.sub fun r q=>by
     rcases List.mem_append.1 q with q | q
     · exact List.mem_append_left _ (List.mem_append_right _ (List.mem_append_right _ q))
     · exact List.mem_append_right _ (List.mem_append_right _ q)) (fun r q=>hh r (List.mem_append_right _ (List.mem_append_right _ q)))
    have hcf:lp (cC cs) A B:=hf.sub fun r q=>by
     cases o with
     | true=>exact List.mem_append_left _ (List.mem_append_right _ (List.mem_append_left _ q))
     | false=>exact List.mem_append_right _ (List.mem_append_left _ q)
    have hfo:(!o||eZ B cs)=(!o||eZ A cs):=by
     cases o with
     | true=>rw [mB fun r q=>hh r (List.mem_append_right _ (List.mem_append_left _ q))]
     | false=>rfl
    refine ⟨?_,by rw [g2],by rw [g3],fun al y id=>by simp only [jd,List.headD_cons,List.tail_cons,hbx,g4]⟩
    rw [hfo,lG hcf,h2.1,g1,h1.1]
    rfl
theorem Cd {c:Cn} {id nx:Nat} {as:List AV} {v:AV} {us:jg} (hs:rL c A id as (fun v us nx=>some (v,us,nx))=some (v,us,nx))
 (h:∀ vs,gf c.A as=some vs→lp (mV A c.A vs++qv A c.A vs) A B) (hh:∀ vs,gf c.A as=some vs→∀ r ∈ kE us,r ∈ mV A c.A vs→B r=A r) :
 rL c B id as (fun v us nx=>some (v,us,nx))=some (v,us,nx):=by
 have hs0:=hs
 unfold rL at hs ⊢
 cases hf:gf c.A as with
 | none=>rw [hf] at hs;cases hs
 | some vs =>
 rw [hf] at hs
 simp only [] at hs ⊢
 cases hx:fB A c.A vs with
 | none=>rw [hx] at hs;cases hs
 | some x =>
 rw [hx] at hs
 simp only [] at hs
 have h1:=aM hs
 cases hy:c.fn x with
 | none=>have h2:=h1.2;rw [hy] at h2;cases h2
 | some y =>
 have h2:=h1.2
 rw [hy] at h2
 simp only [Option.some.injEq,Prod.mk.injEq] at h2
 have hgv:∀ r ∈ mV A c.A vs,B r=A r:=fun r q=>by
  refine hh vs hf r ?_ q
  obtain ⟨z,hz,rfl⟩:=List.mem_map.1 (oA (al:=c.al) (y:=BU (gd c.A) y) (id:=id) hx r q)
  rw [← h2.2.1]
  exact rB (x:=z.2) (List.mem_append_right _ (List.mem_append_left _ hz)) (k0 z.1 z.2 hz)
 obtain ⟨g1,g2,g3,g4⟩:=kz hx (h vs hf) hgv
 have hrefs:∀ l:List Nat,cC (l.map AV.ref)=l:=by
  intro l
  induction l with
  | nil=>rfl
  | cons r l ih=>simp [cC,ih]
 rw [g1,g2,g3]
 simp only [hy]
 rw [g4,m_ (A:=A) (B:=B) (by rw [hrefs];exact (h vs hf).sub fun r q=>List.mem_append_right _ q)]
 rw [hy] at hs
 exact hs
theorem FD {c:Cn} {id nx:Nat} {as:List AV} {v:AV} {us:jg} (hs:zP c A id as (fun v us nx=>some (v,us,nx))=some (v,us,nx))
 (h:∀ vs,gf c.A as=some vs→lp (mV A c.A vs++qv A c.A vs) A B) :
 zP c B id as (fun v us nx=>some (v,us,nx))=some (v,us,nx):=by
 have hs0:=hs
 unfold zP at hs ⊢
 cases hf:gf c.A as with
 | none=>rw [hf] at hs;cases hs
 | some vs =>
 rw [hf] at hs
 simp only [] at hs ⊢
 cases hx:fB A c.A vs with
 | none=>rw [hx] at hs;cases hs
 | some x =>
 rw [hx] at hs
 simp only [] at hs
 have h1:=aM hs
 have hgv:∀ r ∈ mV A c.A vs,B r=A r:=fun r q=>by
  rw [List.isEmpty_iff.1 h1.1] at q
  cases q
 obtain ⟨g1,g2,g3,g4⟩:=kz hx (h vs hf) hgv
 have hrefs:∀ l:List Nat,cC (l.map AV.ref)=l:=by
  intro l
  induction l with
  | nil=>rfl
  | cons r l ih=>simp [cC,ih]
 rw [g1,g2,g3,m_ (A:=A) (B:=B) (by rw [hrefs];exact (h vs hf).sub fun r q=>List.mem_append_right _ q)]
 exact hs
theorem EA {c:Cn} {id nx:Nat} {as:List AV} {v:AV} {us:jg} (hs:rM c A id as (fun v us nx=>some (v,us,nx))=some (v,us,nx))
 (h:∀ vs,gf c.A as=some vs→lp (mV A c.A vs++qv A c.A vs) A B) (hh:∀ vs,gf c.A as=some vs→∀ r ∈ kE us,r ∈ mV A c.A vs→B r=A r) :
 rM c B id as (fun v us nx=>some (v,us,nx))=some (v,us,nx):=by
 unfold rM at hs ⊢
 cases hb:si c.R with
 | false=>rw [hb] at hs;exact Cd hs h hh
 | true=>rw [hb] at hs;exact FD hs h
theorem w5:∀ {cs ds:List AV},cC (cs++ds)=cC cs++cC ds
 | [],_=>rfl
 | c::cs,ds=>by cases c <;> simp [cC,w5 (cs:=cs)]
theorem uR {α:Type} {f:α→List AV}:∀ {l:List α},cC (l.flatMap f)=l.flatMap fun x=>cC (f x)
 | []=>rfl
 | x::l=>by simp [w5,uR (l:=l)]
theorem nN {tb:m5} {tm:List AV} {t:Nat} {x:Operand}:cC (cellsOf (val tb tm t x))=cC (cellsOf (val tb tm 0 x)):=by
 cases x with
 | tmp i=>rfl
 | func f=>rfl
 | global g=>rfl
 | const v =>
  simp only [val]
  unfold Mc
  cases v <;> try rfl
  rename_i a n c
  cases a <;> try rfl
  cases n <;> try rfl
  cases c <;> try rfl
  simp only []
  split <;> (split <;> rfl)
theorem F7 {tb:m5} {ct:List (Nat × Cn)} {o:Oper} {tm:List AV} {id nx:Nat} {v:AV} {us:jg} (hs:f_ tb ct o tm A id (fun v us nx=>some (v,us,nx))=some (v,us,nx))
 (h:lp (reads tb ct o tm A) A B) (hh:∀ r ∈ kE us,r ∈ reads tb ct o tm A→B r=A r):f_ tb ct o tm B id (fun v us nx=>some (v,us,nx))=some (v,us,nx):=by
 cases hop:o.op with
 | load t x =>
  simp only [f_,hop,reads] at hs h ⊢
  split at hs
  · rename_i u hu
    try simp only [hu]
    rw [JF h];exact hs
  · cases hs
 | store t x y =>
  simp only [f_,hop,reads] at hs h hh ⊢
  split at hs
  · rename_i u hu
    try simp only [hu]
    rw [lC] at hs
    cases hl:lE A u (val tb tm 0 x) (val tb tm t y) some with
    | none=>rw [hl] at hs;cases hs
    | some us' =>
     rw [hl] at hs
     cases hs
     rw [lC]
     have h1:lp (cC (cellsOf (val tb tm 0 x))) A B:=h.sub fun r hr=>List.mem_append_left _ hr
     have h2:lp (cC (cellsOf (val tb tm t y))) A B:=h.sub fun r hr=>List.mem_append_right _ (by rw [← nN (t:=t)];exact hr)
     rw [zr hl h1 h2 fun r hr hm=>hh r hr (List.mem_append_left _ hm)]
     rfl
  · cases hs
 | indexAddr t x i =>
  simp only [f_,hop,reads] at hs h ⊢
  rw [wi (by rw [nN];exact h)]
  exact hs
 | slice t x lo hi mx =>
  cases mx with
  | some _=>simp only [f_,hop] at hs;cases hs
  | none =>
   simp only [f_,hop,reads] at hs h ⊢
   rw [zj (by rw [nN];exact h)]
   exact hs
 | convert s d x =>
  simp only [f_,hop,reads] at hs h ⊢
  split at hs
  · rename_i h1 h2 h3
    try simp only [h1,h2,h3]
    exact hs
  · rename_i h1 h2 h3
    try simp only [h1,h2,h3]
    exact hs
  · rename_i h1 h2 h3
    rw [rQ (A:=A) (B:=B) (lp.sub (by rw [nN];exact h) xk)]
    exact hs
  · cases hs
 | buildSlice t n ps =>
  simp only [f_,hop,reads] at hs h ⊢
  split at hs
  · rename_i e he
    try simp only [he]
    have h1:∀ p ∈ ps.toList,lp (cC (cellsOf (val tb tm 0 p.2))) A B:=fun p hp=>h.sub fun r hr=>List.mem_flatMap.2 ⟨p,hp,hr⟩
    rw [vt h1,m_ (A:=A) (B:=B) (by rw [uR];exact h)]
    exact hs
  · cases hs
 | call c =>
  have h1:∀ x ∈ c.args.toList,lp (cC (cellsOf (val tb tm 0 x))) A B:=fun x hx=>h.sub fun r hr=>by
   simp only [reads,hop]
   exact List.mem_append_left _ (List.mem_flatMap.2 ⟨x,hx,hr⟩)
  simp only [f_,hop] at hs ⊢
  split at hs
  · rename_i hc
    try simp only [hc]
    split at hs
    · rename_i x t ha ht
      try simp only [ha,ht]
      rw [DT (by rw [nN];exact h1 x (by rw [ha];simp))]
      exact hs
    · cases hs
  · rename_i hc
    try simp only [hc]
    split at hs
    · rename_i d s t t' ha ht
      try simp only [ha,ht]
      split at hs
      · rename_i e he
        try simp only [he]
        cases hb:Nat.beq t t' with
        | false=>rw [hb] at hs;cases hs
        | true =>
         rw [hb,cond_true] at hs
         rw [cond_true,ii]
         rw [ii] at hs
         cases hl:jv e A id (val tb tm t d) (val tb tm t s) (fun v us=>some (v,us)) with
         | none=>rw [hl] at hs;cases hs
         | some z =>
          obtain ⟨z1,z2⟩:=z
          rw [hl] at hs
          cases hs
          rw [yW hl (by rw [nN];exact h1 d (by rw [ha];simp)) (by rw [nN];exact h1 s (by rw [ha];simp)) ?_]
          · rfl
          · intro r hr hm
            refine hh r hr ?_
            simp only [reads,hop]
            exact List.mem_append_left _ (List.mem_flatMap.2 ⟨d,by rw [ha];simp,by rw [← nN (t:=t)];exact hm⟩)
      · cases hs
    · cases hs
  · rename_i hc
    try simp only [hc]
    exact hs
  · rename_i hc
    try simp only [hc]
    exact hs
  · rename_i x hc
    try simp only [hc]
    split at hs
    · rename_i q hq
      try simp only [hq]
      have hsub:∀ vs,gf q.1.A q.2=some vs→∀ r ∈ mV A q.1.A vs++qv A q.1.A vs,r ∈ reads tb ct o tm A:=fun vs hvs r hr=>by
       simp only [reads,hop,hc,hq,hvs]
       exact List.mem_append_right _ hr
      exact EA (A:=A) (B:=B) hs (fun vs hvs=>h.sub (hsub vs hvs)) (fun vs hvs r hr hm=>hh r hr (hsub vs hvs r (List.mem_append_left _ hm)))
    · cases hs
  · cases hs
 | makeFunc fn first caps =>
  cases fn with
  | func f=>simp only [f_,hop] at hs ⊢;exact hs
  | _=>unfold f_ at hs;rw [hop] at hs;cases hs
 | _=>unfold f_ at hs ⊢;rw [hop] at hs ⊢;exact hs
end
end Go.V
end
section
namespace Go.V
open Go.RowKit
section
variable {tb:m5} {ct:List (Nat × Cn)} {tm tm':List AV} {hp:Hp} {id:Nat} {R:Type}
theorem Fx {f g:Operand→AV} {o:Option Operand} (h:∀ x ∈ o.toList,f x=g x):o.map f=o.map g:=by
 cases o with
 | none=>rfl
 | some x=>simp [h x (by simp)]
theorem pV {offs:List (Nat × Nat)} {f g:Operand→AV}:∀ {ps:List (Nat × Operand)} {z:List AV},(∀ p ∈ ps,f p.2=g p.2)→ku z offs f ps=ku z offs g ps
 | [],_,_=>rfl
 | (i,x)::ps,z,h=>by
  have h0:f x=g x:=h (i,x) (List.mem_cons_self ..)
  simp only [ku,h0]
  split
  · rw [pV fun p hp=>h p (List.mem_cons_of_mem _ hp)]
  · rfl
theorem wI {e:Ty} {f g:Operand→AV}:∀ {ps:List (Nat × Operand)} {l:List e.d} {b:Bool},(∀ p ∈ ps,f p.2=g p.2)→elems hp e f ps l b=elems hp e g ps l b
 | [],_,_,_=>rfl
 | (i,x)::ps,l,b,h=>by
  have h0:f x=g x:=h (i,x) (List.mem_cons_self ..)
  simp only [elems,h0]
  split
  · rw [wI fun p hp=>h p (List.mem_cons_of_mem _ hp)]
  · rfl
theorem mF {α β:Type} {f g:α→List β}:∀ {l:List α},(∀ x ∈ l,f x=g x)→l.flatMap f=l.flatMap g
 | [],_=>rfl
 | x::l,h=>by simp [h x (List.mem_cons_self ..),mF fun y hy=>h y (List.mem_cons_of_mem _ hy)]
theorem Je {o:Oper} {k:AV→jg→Nat→Option R} (h:∀ x ∈ o.op.operands.toList,∀ T,val tb tm' T x=val tb tm T x) :
 f_ tb ct o tm' hp id k=f_ tb ct o tm hp id k∧reads tb ct o tm' hp=reads tb ct o tm hp:=by
 cases hop:o.op with
 | buildSlice t n ps =>
  have h0:∀ p ∈ ps.toList,val tb tm' 0 p.2=val tb tm 0 p.2:=fun p hp=>h p.2 (by rw [hop];simp only [Op.operands,List.toList_toArray];exact List.mem_map_of_mem hp) 0
  simp only [f_,reads,hop]
  have e1:ps.toList.flatMap (fun p=>cellsOf (val tb tm' 0 p.2))=ps.toList.flatMap (fun p=>cellsOf (val tb tm 0 p.2)):=mF fun p hp=>by rw [h0 p hp]
  rw [e1]
  refine ⟨?_,mF fun p hp=>by rw [h0 p hp]⟩
  split
  · rw [wI h0]
  · rfl
 | build t ps =>
  have h0:∀ p ∈ ps.toList,val tb tm' 0 p.2=val tb tm 0 p.2:=fun p hp=>h p.2 (by rw [hop];simp only [Op.operands,List.toList_toArray];exact List.mem_map_of_mem hp) 0
  simp only [f_,reads,hop]
  exact ⟨by
   split
   · rw [pV h0]
   · rfl,trivial⟩
 | makeFunc fn first caps =>
  have h0:caps.toList.map (val tb tm' 0)=caps.toList.map (val tb tm 0):=List.map_congr_left fun x hx=>h x (by rw [hop];simp only [Op.operands,Array.toList_append];exact List.mem_append_right _ hx) 0
  cases fn <;> simp only [f_,reads,hop]
  · exact ⟨by rw [h0],trivial⟩
  all_goals exact ⟨trivial,trivial⟩
 | call c =>
  have hin:∀ x ∈ c.args.toList,∀ T,val tb tm' T x=val tb tm T x:=fun x hx=>h x (by rw [hop];simp only [Op.operands,Call.operands,Array.toList_append];exact List.mem_append_right _ hx)
  have h0:c.args.toList.map (val tb tm' 0)=c.args.toList.map (val tb tm 0):=List.map_congr_left fun x hx=>hin x hx 0
  have hcal:∀ x,c.callee = .value x→pL tb ct tm' x (c.args.toList.map (val tb tm' 0))=pL tb ct tm x (c.args.toList.map (val tb tm 0)):=fun x hx=>by
   rw [h0]
   unfold pL
   rw [h x (by rw [hop];simp only [Op.operands,Call.operands,Array.toList_append,hx];exact List.mem_append_left _ (by simp)) 0]
  simp only [f_,reads,hop]
  refine ⟨?_,?_⟩
  · split
    · split
      · rename_i x t ha ht
        rw [hin x (by rw [ha];simp)]
      · rfl
    · split
      · rename_i d s t t' ha ht
        split
        · rw [hin d (by rw [ha];simp),hin s (by rw [ha];simp)]
        · rfl
      · rfl
    · rw [h0]
    · rw [h0]
    · rename_i x hc
      rw [hcal x hc]
    · rfl
  · rw [mF (f:=fun x=>cC (cellsOf (val tb tm' 0 x))) (g:=fun x=>cC (cellsOf (val tb tm 0 x))) fun x hx=>by rw [hin x hx]]
    congr 1
    split
    · rename_i x hc
      rw [hcal x hc]
    · rfl
 | slice t x lo hi mx =>
  have hx:=h x (by rw [hop];simp [Op.operands])
  have hl:lo.map (val tb tm' 0)=lo.map (val tb tm 0):=Fx fun y hy=>h y (by rw [hop];simp [Op.operands] at hy ⊢;simp [hy]) 0
  have hh:hi.map (val tb tm' 0)=hi.map (val tb tm 0):=Fx fun y hy=>h y (by rw [hop];simp [Op.operands] at hy ⊢;simp [hy]) 0
  cases mx <;> simp only [f_,reads,hop,hx,hl,hh] <;> exact ⟨trivial,trivial⟩
 | pick c x y =>
  have h1:=h c (by rw [hop];simp [Op.operands])
  have h2:=h x (by rw [hop];simp [Op.operands])
  have h3:=h y (by rw [hop];simp [Op.operands])
  simp only [f_,reads,hop,h1,h2,h3]
  exact ⟨trivial,trivial⟩
 | store t x y =>
  have h1:=h x (by rw [hop];simp [Op.operands])
  have h2:=h y (by rw [hop];simp [Op.operands])
  simp only [f_,reads,hop,h1,h2]
  exact ⟨trivial,trivial⟩
 | binOp op t x y u =>
  have h1:=h x (by rw [hop];simp [Op.operands])
  have h2:=h y (by rw [hop];simp [Op.operands])
  simp only [f_,reads,hop,h1,h2]
  exact ⟨trivial,trivial⟩
 | makeSlice t x y =>
  have h1:=h x (by rw [hop];simp [Op.operands])
  have h2:=h y (by rw [hop];simp [Op.operands])
  simp only [f_,reads,hop,h1,h2]
  exact ⟨trivial,trivial⟩
 | indexAddr t x y =>
  have h1:=h x (by rw [hop];simp [Op.operands])
  have h2:=h y (by rw [hop];simp [Op.operands])
  simp only [f_,reads,hop,h1,h2]
  exact ⟨trivial,trivial⟩
 | index t x y =>
  have h1:=h x (by rw [hop];simp [Op.operands])
  have h2:=h y (by rw [hop];simp [Op.operands])
  simp only [f_,reads,hop,h1,h2]
  exact ⟨trivial,trivial⟩
 | alloc t=>simp only [f_,reads,hop];exact ⟨trivial,trivial⟩
 | move x=>have h1:=h x (by rw [hop];simp [Op.operands]);simp only [f_,reads,hop,h1];exact ⟨trivial,trivial⟩
 | assign x=>have h1:=h x (by rw [hop];simp [Op.operands]);simp only [f_,reads,hop,h1];exact ⟨trivial,trivial⟩
 | box t x=>have h1:=h x (by rw [hop];simp [Op.operands]);simp only [f_,reads,hop,h1];exact ⟨trivial,trivial⟩
 | load t x=>have h1:=h x (by rw [hop];simp [Op.operands]);simp only [f_,reads,hop,h1];exact ⟨trivial,trivial⟩
 | nilCheck x=>have h1:=h x (by rw [hop];simp [Op.operands]);simp only [f_,reads,hop,h1];exact ⟨trivial,trivial⟩
 | unOp op t x=>have h1:=h x (by rw [hop];simp [Op.operands]);simp only [f_,reads,hop,h1];exact ⟨trivial,trivial⟩
 | convert s d x=>have h1:=h x (by rw [hop];simp [Op.operands]);simp only [f_,reads,hop,h1];exact ⟨trivial,trivial⟩
 | fieldAddr s x f=>have h1:=h x (by rw [hop];simp [Op.operands]);simp only [f_,reads,hop,h1];exact ⟨trivial,trivial⟩
 | field s x f=>have h1:=h x (by rw [hop];simp [Op.operands]);simp only [f_,reads,hop,h1];exact ⟨trivial,trivial⟩
 | extract x i=>have h1:=h x (by rw [hop];simp [Op.operands]);simp only [f_,reads,hop,h1];exact ⟨trivial,trivial⟩
 | _=>unfold f_ reads;rw [hop];exact ⟨rfl,rfl⟩
end
def CG:jg→Nat→pu→pu
 | [],_,x=>x
 | u::us,r,x=>CG us r (bif Nat.beq r u.1 then turn u.2 x else x)
theorem l7:∀ {us:jg} {hp:Hp} {r:Nat},applyF hp us r=CG us r (hp r)
 | [],_,_=>rfl
 | u::us,hp,r=>by
  simp only [applyF,CG]
  exact l7 (us:=us)
theorem vH (x:pu):CC (CC x)=CC x:=by cases x <;> rfl
theorem FE (x:pu):(∀ y,turn x y=CC y)∨(∃ z,∀ y,turn x y=z):=by
 cases x
 · exact Or.inr ⟨_,fun _=>rfl⟩
 · exact Or.inr ⟨_,fun _=>rfl⟩
 · exact Or.inr ⟨_,fun _=>rfl⟩
 · exact Or.inl fun _=>rfl
theorem CL:∀ (us:jg) (r:Nat) {x y:pu},(y=x∨y=CC x)→(CG us r y=CG us r x∨CG us r y=CC (CG us r x))
 | [],_,_,_,h=>h
 | u::us,r,x,y,h=>by
  simp only [CG]
  cases Nat.beq r u.1 with
  | false=>exact CL us r h
  | true =>
   simp only [cond_true]
   refine CL us r ?_
   rcases FE u.2 with q | ⟨z,q⟩
   · rw [q,q]
     rcases h with rfl | rfl
     · exact Or.inl rfl
     · exact Or.inl (vH _)
   · rw [q,q];exact Or.inl rfl
theorem sJ:∀ {us:jg} {r:Nat},r ∉ us.map (·.1)→∀ x,CG us r x=x
 | [],_,_,_=>rfl
 | u::us,r,h,x=>by
  simp only [List.map_cons,List.mem_cons,not_or] at h
  simp only [CG]
  have:Nat.beq r u.1=false:=by
   cases hb:Nat.beq r u.1 with
   | false=>rfl
   | true=>exact absurd (Nat.eq_of_beq_eq_true hb) h.1
  rw [this]
  exact sJ h.2 x
theorem zf {u:Nat × pu} {us:jg} {r:Nat} (h:r ∉ kE (u::us)):r ∉ kE us∧(r=u.1→∃ p e l,u.2 = .fro p e l):=by
 obtain ⟨s,x⟩:=u
 cases x <;> simp_all [kE]
theorem qy:∀ {us:jg} {r:Nat},r ∉ kE us→(∀ x,CG us r x=x)∨(∀ x,CG us r x=CC x)
 | [],_,_=>Or.inl fun _=>rfl
 | u::us,r,h=>by
  obtain ⟨h1,h2⟩:=zf h
  simp only [CG]
  cases hb:Nat.beq r u.1 with
  | false=>exact qy h1
  | true =>
   simp only [cond_true]
   obtain ⟨p,e,l,q⟩:=h2 (Nat.eq_of_beq_eq_true hb)
   rw [q]
   right
   intro x
   rcases qy h1 with g | g
   · rw [g];rfl
   · rw [g];exact vH x
theorem Ia {us vs:jg} {r:Nat} (h1:∀ r ∈ kE us,r ∉ vs.map (·.1)) (h2:∀ r ∈ kE vs,r ∉ us.map (·.1)) (x:pu):CG vs r (CG us r x)=CG us r (CG vs r x):=by
 by_cases a:r ∈ kE us
 · rw [sJ (h1 r a),sJ (h1 r a)]
 · by_cases b:r ∈ kE vs
   · rw [sJ (h2 r b),sJ (h2 r b)]
   · rcases qy a with p | p <;> rcases qy b with q | q <;> simp [p,q]
theorem uL:∀ {us:jg} {hp:Hp},qh us→applyF hp us=apply hp us
 | [],_,_=>rfl
 | u::us,hp,h=>by
  simp only [applyF,apply]
  have e:(fun n=>bif Nat.beq n u.1 then turn u.2 (hp n) else hp n)=kG hp u.1 u.2:=by
   funext n
   simp only [kG]
   have h0:=h u.1 u.2 (List.mem_cons_self ..)
   obtain ⟨s,x⟩:=u
   cases x <;> first | rfl | exact absurd rfl (h0 _ _ _)
  rw [e]
  exact uL fun r x hx=>h r x (List.mem_cons_of_mem _ hx)
theorem ym:∀ {us:jg} {hp:Hp},BW hp us→applyF hp us=apply hp us
 | [],_,_=>rfl
 | (r,x)::us,hp,h=>by
  obtain ⟨p,e,l,rfl,hr⟩:=h r x (List.mem_cons_self ..)
  simp only [applyF,apply]
  have e':(fun n=>bif Nat.beq n r then turn (.fro p e l) (hp n) else hp n)=kG hp r (.fro p e l):=by
   funext n
   simp only [kG]
   cases hb:Nat.beq n r with
   | false=>rfl
   | true =>
    simp only [cond_true]
    rw [Nat.eq_of_beq_eq_true hb]
    rcases hr with q | q <;> rw [q] <;> rfl
  rw [e']
  exact ym h.tail
theorem tp:∀ (us0:jg) {hp:Hp} {us1:jg},apply hp (us0++us1)=apply (apply hp us0) us1
 | [],_,_=>rfl
 | u::us,hp,us1=>tp us
theorem sx:∀ (us0:jg) {hp:Hp} {us1:jg},applyF hp (us0++us1)=applyF (applyF hp us0) us1
 | [],_,_=>rfl
 | u::us,hp,us1=>sx us
theorem gk.applyF {hp:Hp} {id nx:Nat} {us:jg} (h:gk hp id us nx):applyF hp us=apply hp us:=by
 obtain ⟨_,us0,us1,rfl,h0,h1⟩:=h
 rw [sx,tp,ym h0,uL h1]
end Go.V
end
section
namespace Go.V
open Go.RowKit
structure G where
 i:Nat
 go:Bool
 us:jg
 rd:List Nat
 A:List Nat
 dst:Option Nat
 v:AV
 nm:List Nat
 id:Nat
 nx:Nat
def rep (hp:Hp) (D:Nat→Bool):List G→Hp
 | []=>hp
 | g::gs=>bif D g.i then applyF (rep hp D gs) g.us else rep hp D gs
def j0 (tm:List AV) (D:Nat→Bool):List G→List AV
 | []=>tm
 | g::gs=>bif D g.i then nV (j0 tm D gs) g.dst g.v else j0 tm D gs
structure MW (g' g:G):Prop where
 a:∀ r ∈ kE g.us,r ∉ g'.rd
 b:∀ r ∈ kE g'.us,r ∉ g.rd
 c:∀ r ∈ g.us.map (·.1),r ∉ kE g'.us
 d:∀ r ∈ kE g.us,r ∉ g'.us.map (·.1)
structure HO (g' g:G):Prop where
 e:∀ t ∈ g.dst.toList,t ∉ g'.dst.toList++g'.nm
 f:∀ t ∈ g'.dst.toList,t ∉ g.nm
section
variable {hp:Hp} {tm:List AV} {D D':Nat→Bool}
theorem sQ {r:Nat}:∀ {gs:List G},(∀ g ∈ gs,r ∈ g.us.map (·.1)→D g.i=D' g.i)→rep hp D gs r=rep hp D' gs r
 | [],_=>rfl
 | g::gs,h=>by
  have ih:=sQ (gs:=gs) fun g' hg=>h g' (List.mem_cons_of_mem _ hg)
  simp only [rep]
  by_cases hr:r ∈ g.us.map (·.1)
  · rw [h g (List.mem_cons_self ..) hr]
    cases D' g.i with
    | true=>simp only [cond_true,l7,ih]
    | false=>exact ih
  · have e:∀ (b:Bool) (x:Hp),(bif b then applyF x g.us else x) r=x r:=fun b x=>by
     cases b with
     | true=>simp only [cond_true,l7,sJ hr]
     | false=>rfl
    rw [e,e,ih]
theorem GP {r:Nat}:∀ {gs:List G},(∀ g ∈ gs,D g.i=D' g.i∨(D g.i=true∧r ∉ kE g.us))→rep hp D gs r=rep hp D' gs r∨rep hp D gs r=CC (rep hp D' gs r)
 | [],_=>Or.inl rfl
 | g::gs,h=>by
  have ih:=GP (gs:=gs) fun g' hg=>h g' (List.mem_cons_of_mem _ hg)
  simp only [rep]
  cases h1:D g.i with
  | true =>
   cases h2:D' g.i with
   | true =>
    simp only [cond_true,l7]
    exact CL _ _ ih
   | false =>
    rcases h g (List.mem_cons_self ..) with q | ⟨_,q⟩
    · rw [h1,h2] at q;cases q
    · simp only [cond_true,cond_false,l7]
      rcases qy q with e | e
      · rw [e];exact ih
      · rw [e]
        rcases ih with g1 | g1
        · rw [g1];exact Or.inr rfl
        · rw [g1,vH];exact Or.inr rfl
  | false =>
   cases h2:D' g.i with
   | true =>
    rcases h g (List.mem_cons_self ..) with q | ⟨q,_⟩
    · rw [h1,h2] at q;cases q
    · rw [h1] at q;cases q
   | false=>exact ih
theorem JG {l:List AV} {d:Option Nat} {v:AV}:(nV l d v).length=l.length:=by cases d <;> simp [nV]
theorem u6:∀ {gs:List G},(j0 tm D gs).length=tm.length
 | []=>rfl
 | g::gs=>by
  simp only [j0]
  cases D g.i with
  | true=>rw [cond_true,JG];exact u6
  | false=>exact u6
theorem HY {l l':List AV} {d:Option Nat} {v:AV} {t:Nat} (hl:l.length=l'.length) (h:l.getD t .junk=l'.getD t .junk):(nV l d v).getD t .junk=(nV l' d v).getD t .junk:=by
 cases d with
 | none=>exact h
 | some d =>
  simp only [nV,List.getD,List.getElem?_set,hl] at h ⊢
  split
  · split <;> rfl
  · exact h
theorem EN {l:List AV} {d:Option Nat} {v:AV} {t:Nat} (h:d≠some t):(nV l d v).getD t .junk=l.getD t .junk:=by
 cases d with
 | none=>rfl
 | some d =>
  have:d≠t:=fun q=>h (by rw [q])
  simp [nV,List.getD,List.getElem?_set_ne this]
theorem y_ {t:Nat}:∀ {gs:List G},(∀ g ∈ gs,g.dst=some t→D g.i=D' g.i)→(j0 tm D gs).getD t .junk=(j0 tm D' gs).getD t .junk
 | [],_=>rfl
 | g::gs,h=>by
  have ih:=y_ (gs:=gs) fun g' hg=>h g' (List.mem_cons_of_mem _ hg)
  simp only [j0]
  by_cases hr:g.dst=some t
  · rw [h g (List.mem_cons_self ..) hr]
    cases D' g.i with
    | true =>
     simp only [cond_true]
     exact HY (by rw [u6,u6]) ih
    | false=>exact ih
  · have e:∀ (b:Bool) (x:List AV),(bif b then nV x g.dst g.v else x).getD t .junk=x.getD t .junk:=fun b x=>by
     cases b with
     | true=>exact EN hr
     | false=>rfl
    rw [e,e,ih]
def ng (D:Nat→Bool) (i:Nat):Nat→Bool:=fun j=>bif Nat.beq j i then true else D j
theorem sP {i:Nat}:ng D i i=true:=by simp [ng]
theorem oH {i j:Nat} (h:j≠i):ng D i j=D j:=by
 have:Nat.beq j i=false:=by
  cases hb:Nat.beq j i with
  | false=>rfl
  | true=>exact absurd (Nat.eq_of_beq_eq_true hb) h
 simp [ng,this]
theorem Jp {gs:List G} (h:∀ g ∈ gs,D g.i=D' g.i):rep hp D gs=rep hp D' gs:=funext fun r=>sQ fun g hg _=>h g hg
theorem u_:∀ {gs:List G},(∀ g ∈ gs,D g.i=D' g.i)→j0 tm D gs=j0 tm D' gs
 | [],_=>rfl
 | g::gs,h=>by
  simp only [j0]
  rw [h g (List.mem_cons_self ..),u_ fun g' hg=>h g' (List.mem_cons_of_mem _ hg)]
theorem Gd {g:G} {r:Nat}:∀ {gs:List G},gs.Pairwise (fun x y=>y.i<x.i)→g ∈ gs→D g.i=false →
 (∀ h ∈ gs,g.i<h.i→D h.i=true→(∀ r ∈ kE g.us,r ∉ h.us.map (·.1))∧(∀ r ∈ kE h.us,r ∉ g.us.map (·.1)))→rep hp (ng D g.i) gs r=CG g.us r (rep hp D gs r)
 | [],_,hg,_,_=>by cases hg
 | h::gs,hp',hg,hD,hc=>by
  rw [List.pairwise_cons] at hp'
  simp only [rep]
  rcases List.mem_cons.1 hg with q | q
  · subst q
    rw [sP,hD,cond_true,cond_false,l7]
    congr 1
    exact sQ fun g' hg' _=>oH (Nat.ne_of_lt (hp'.1 g' hg'))
  · have hlt:=hp'.1 g q
    rw [oH (Nat.ne_of_gt hlt)]
    have ih:=Gd (r:=r) hp'.2 q hD fun h' hh'=>hc h' (List.mem_cons_of_mem _ hh')
    cases hb:D h.i with
    | false=>exact ih
    | true =>
     simp only [cond_true,l7]
     rw [ih]
     obtain ⟨c1,c2⟩:=hc h (List.mem_cons_self ..) hlt hb
     exact Ia c1 c2 _
theorem HJ {l:List AV} {d e:Option Nat} {u v:AV} (h:∀ t ∈ d.toList,t ∉ e.toList):nV (nV l d u) e v=nV (nV l e v) d u:=by
 cases d with
 | none=>rfl
 | some d =>
  cases e with
  | none=>rfl
  | some e =>
   have:d≠e:=fun q=>h d (by simp) (by simp [q])
   exact List.set_comm _ _ this
theorem DO {g:G}:∀ {gs:List G},gs.Pairwise (fun x y=>y.i<x.i)→g ∈ gs→D g.i=false →
 (∀ h ∈ gs,g.i<h.i→D h.i=true→∀ t ∈ h.dst.toList,t ∉ g.dst.toList)→j0 tm (ng D g.i) gs=nV (j0 tm D gs) g.dst g.v
 | [],_,hg,_,_=>by cases hg
 | h::gs,hp',hg,hD,hc=>by
  rw [List.pairwise_cons] at hp'
  simp only [j0]
  rcases List.mem_cons.1 hg with q | q
  · subst q
    rw [sP,hD,cond_true,cond_false]
    congr 1
    exact u_ fun g' hg'=>oH (Nat.ne_of_lt (hp'.1 g' hg'))
  · have hlt:=hp'.1 g q
    rw [oH (Nat.ne_of_gt hlt)]
    have ih:=DO hp'.2 q hD fun h' hh'=>hc h' (List.mem_cons_of_mem _ hh')
    cases hb:D h.i with
    | false=>exact ih
    | true =>
     simp only [cond_true]
     rw [ih]
     exact (HJ (hc h (List.mem_cons_self ..) hlt hb)).symm
end
def mo:List G→List ML
 | []=>[]
 | g::gs=>bif g.go then ⟨g.i,g.us,g.rd⟩::mo gs else mo gs
theorem tG {hp:Hp} {a:List Nat}:∀ {gs:List G},(∀ g ∈ gs,g.go=false→g.us=[])→qA hp a (mo gs)=rep hp (jt a) gs
 | [],_=>rfl
 | g::gs,h=>by
  have ih:=tG (hp:=hp) (a:=a) (gs:=gs) fun g' hg=>h g' (List.mem_cons_of_mem _ hg)
  simp only [mo,rep]
  cases hg:g.go with
  | true=>simp only [cond_true,qA,ih]
  | false =>
   rw [h g (List.mem_cons_self ..) hg]
   simp only [cond_false,applyF,ih]
   cases jt a g.i <;> rfl
theorem t6 {hp:Hp}:∀ {gs:List G},(∀ g ∈ gs,g.go=false→g.us=[])→sW hp (mo gs)=rep hp (fun _=>true) gs
 | [],_=>rfl
 | g::gs,h=>by
  have ih:=t6 (hp:=hp) (gs:=gs) fun g' hg=>h g' (List.mem_cons_of_mem _ hg)
  simp only [mo,rep]
  cases hg:g.go with
  | true=>simp only [cond_true,sW,ih]
  | false =>
   rw [h g (List.mem_cons_self ..) hg]
   simp only [cond_false,cond_true,applyF,ih]
theorem xK {a:List Nat} {us:jg} {rd:List Nat}:∀ {gs:List G},Jj a us rd (mo gs)=true→∀ g' ∈ gs,g'.go=true→jt a g'.i=true ∨
 ((∀ r ∈ kE us,r ∉ g'.rd)∧(∀ r ∈ kE g'.us,r ∉ rd)∧(∀ r ∈ us.map (·.1),r ∉ kE g'.us)∧(∀ r ∈ kE us,r ∉ g'.us.map (·.1)))
 | [],_,_,hg,_=>by cases hg
 | g::gs,h,g',hg,hgo=>by
  simp only [mo] at h
  cases hgg:g.go with
  | false =>
   rw [hgg,cond_false] at h
   rcases List.mem_cons.1 hg with q | q
   · subst q;rw [hgg] at hgo;cases hgo
   · exact xK h g' q hgo
  | true =>
   rw [hgg,cond_true] at h
   simp only [Jj] at h
   cases hc:(jt a g.i||(lR (kE us) g.rd&&lR (kE g.us) rd&&lR (us.map (·.1)) (kE g.us)&&lR (kE us) (g.us.map (·.1)))) with
   | false=>rw [hc] at h;cases h
   | true =>
    rw [hc,cond_true] at h
    rcases List.mem_cons.1 hg with q | q
    · subst q
      simp only [Bool.or_eq_true,Bool.and_eq_true,tU] at hc
      rcases hc with q | ⟨⟨⟨q1,q2⟩,q3⟩,q4⟩
      · exact Or.inl q
      · exact Or.inr ⟨q1,q2,q3,q4⟩
    · exact xK h g' q hgo
end Go.V
end

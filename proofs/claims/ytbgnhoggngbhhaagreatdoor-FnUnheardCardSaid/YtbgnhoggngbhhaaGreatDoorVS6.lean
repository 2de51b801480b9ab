/- V: soundness, part 6 of 10. -/
import Derived.Test.YtbgnhoggngbhhaaGreatDoorVS5
section
set_option linter.unusedVariables false
set_option linter.unusedSimpArgs false
namespace Go.V
open Go.RowKit
def m0 (L:List Nat) (A B:Hp):Prop:=∀ r ∈ L,B r=A r∨∃ p e l,A r = .own p e l∧B r = .fro p e l
theorem ES:∀ {cs:List AV} {r:Nat},r ∈ cK cs↔(AV.ref r ∈ cs∨∃ i f,AV.ptr r i f ∈ cs)
 | [],r=>by simp [cK]
 | c::cs,r=>by
  have ih:=ES (cs:=cs) (r:=r)
  cases c <;> simp [cK,ih,List.mem_cons] <;> grind
theorem m0.sub {L M:List Nat} {A B:Hp} (h:m0 L A B) (hs:∀ r ∈ M,r ∈ L):m0 M A B:=fun r hr=>h r (hs r hr)
theorem sI {cs ds:List AV} (h:∀ c ∈ ds,c ∈ cs):∀ r ∈ cK ds,r ∈ cK cs:=fun r hr=>by
 rw [ES] at hr ⊢
 rcases hr with q | ⟨i,f,q⟩
 · exact Or.inl (h _ q)
 · exact Or.inr ⟨i,f,h _ q⟩
theorem rl:∀ {us:jg} {r:Nat} {x:qP},(r,x) ∈ us→(∀ p e l,x ≠ .fro p e l)→r ∈ kM us
 | [],_,_,h,_=>by cases h
 | (s,y)::us,r,x,h,hx=>by
  unfold kM
  rcases List.mem_cons.1 h with q | q
  · cases q
    split
    · rename_i q;cases q
    · rename_i q;cases q;exact absurd rfl (hx _ _ _)
    · rename_i q;cases q;exact List.mem_cons_self ..
  · have:=rl q hx
    split
    · rename_i q;cases q
    · rename_i q;cases q;exact this
    · rename_i q;cases q;exact List.mem_cons_of_mem _ this
section
variable {A B:Hp}
theorem sD {e:Ty} {c:AV} (h:m0 (cK [c]) A B):getSl B e c=getSl A e c:=by
 cases c <;> try rfl
 rename_i r
 simp only [getSl]
 rcases h r (by simp [cK]) with q | ⟨p,e',l,q1,q2⟩
 · rw [q]
 · rw [q1,q2]
theorem lN:∀ {t:Ty} {cs:List AV},m0 (cK cs) A B→prj B t cs=prj A t cs
 | .bool,_,_=>rfl
 | .int _,_,_=>rfl
 | .str,_,_=>rfl
 | .slice e,cs,h=>by
  simp only [prj,uU]
  split
  · exact sD h
  · rfl
 | .pair a b,cs,h=>by
  simp only [prj]
  rw [lN (t:=a) (h.sub (sI fun c hc=>List.mem_of_mem_take hc)),lN (t:=b) (h.sub (sI fun c hc=>List.mem_of_mem_drop hc))]
 | .unit,_,_=>rfl
 | .opq,_,_=>rfl
theorem Dl {c:AV} (h:m0 (cK [c]) A B):taint1 B c=taint1 A c:=by
 cases c <;> try rfl
 rename_i r
 simp only [taint1]
 rcases h r (by simp [cK]) with q | ⟨p,e',l,q1,q2⟩
 · rw [q]
 · rw [q1,q2]
theorem nd:∀ {cs:List AV},m0 (cK cs) A B→taint B cs=taint A cs
 | [],_=>rfl
 | c::cs,h=>by
  simp only [taint]
  rw [Dl (h.sub (sI fun d hd=>by simp at hd;subst hd;exact List.mem_cons_self ..)),nd (h.sub (sI fun d hd=>List.mem_cons_of_mem _ hd))]
theorem mQ:∀ {cs:List AV},m0 (cK cs) A B→freeze B cs=freeze A cs
 | [],_=>rfl
 | c::cs,h=>by
  have ih:=mQ (cs:=cs) (h.sub (sI fun d hd=>List.mem_cons_of_mem _ hd))
  cases c <;> try exact ih
  rename_i r
  simp only [freeze,ih]
  rcases h r (by simp [cK]) with q | ⟨p,e',l,q1,q2⟩
  · rw [q]
  · rw [q1,q2]
theorem KW {R:Type} {t:Ty} {a:AV} {k:AV→Option R} (h:m0 (cK (cellsOf a)) A B):ld B t a k=ld A t a k:=by
 cases a <;> try rfl
 rename_i r i off
 simp only [ld]
 rcases h r (by simp [cK,cellsOf]) with q | ⟨p,e',l,q1,q2⟩
 · rw [q]
 · rw [q1,q2]
theorem As {t:Ty} {a v:AV} {us:jg} (hs:lR A t a v some=some us) (h1:m0 (cK (cellsOf a)) A B) (h2:m0 (cK (cellsOf v)) A B) (hh:∀ r ∈ kM us,r ∈ cK (cellsOf a)→B r=A r):lR B t a v some=some us:=by
 unfold lR at hs ⊢
 obtain ⟨hc,hs⟩:=aP hs
 rw [hc,cond_true]
 split at hs
 · rename_i r i off _
   split at hs
   · rename_i cs hr
     obtain ⟨hle,hs⟩:=aP hs
     cases hs
     rw [hh r (rl (List.mem_singleton.2 rfl) (fun _ _ _ q=>by cases q)) (by simp [cK,cellsOf]),hr]
     simp only [hle,cond_true]
   · rename_i p e l hr
     obtain ⟨hn,hs⟩:=qV hs
     split at hs
     · rename_i y hy
       split at hs
       · rename_i z hz
         cases hs
         rw [hh r (rl (List.mem_append_right _ (List.mem_singleton.2 rfl)) (fun _ _ _ q=>by cases q)) (by simp [cK,cellsOf]),hr]
         simp only [hn,cond_false,lN h2,hy,hz,mQ h2,nd h2]
       · cases hs
     · cases hs
   · cases hs
 · cases hs
theorem xk {R:Type} {tb:mJ} {t:Nat} {x i:AV} {k:AV→Option R} (h:m0 (cK (cellsOf x)) A B):indexAddr tb B t x i k=indexAddr tb A t x i k:=by
 unfold indexAddr
 split
 · cases x <;> try rfl
   rename_i r
   simp only []
   rcases h r (by simp [cK,cellsOf]) with q | ⟨p,e',l,q1,q2⟩
   · rw [q]
   · rw [q1,q2]
 · rfl
 · rfl
theorem B6 {R:Type} {u:Ty} {x:AV} {lo hi:Option AV} {k:AV→jg→Option R} (h:m0 (cK (cellsOf x)) A B):lO u B x lo hi k=lO u A x lo hi k:=by
 cases x with
 | ref r =>
  cases u <;> try rfl
  simp only [lO]
  rcases h r (by simp [cK,cellsOf]) with q | ⟨p,e',l,q1,q2⟩
  · rw [q]
  · rw [q1,q2]
 | _=>cases u <;> rfl
theorem FU {R:Type} {u:Ty} {x:AV} {k:AV→Option R} (h:m0 (cK (cellsOf x)) A B):lenOf u B x k=lenOf u A x k:=by
 cases x with
 | ref r =>
  cases u <;> try rfl
  simp only [lenOf]
  rcases h r (by simp [cK,cellsOf]) with q | ⟨p,e',l,q1,q2⟩
  · rw [q]
  · rw [q1,q2]
 | _=>cases u <;> rfl
theorem zn {c:AV}:∀ r ∈ cK [c],r ∈ cK (cellsOf c):=by
 intro r hr
 cases c <;> simp_all [cK,cellsOf]
theorem ym {e:Ty} {id:Nat} {d s v:AV} {us:jg} (hs:k7 e A id d s (fun v us=>some (v,us))=some (v,us)) (h1:m0 (cK (cellsOf d)) A B) (h2:m0 (cK (cellsOf s)) A B) (hh:∀ r ∈ kM us,r ∈ cK (cellsOf d)→B r=A r) :
 k7 e B id d s (fun v us=>some (v,us))=some (v,us):=by
 unfold k7 at hs ⊢
 have h2':=h2.sub zn
 rw [sD h2']
 split at hs
 · cases hs
 · split at hs
   · rw [nd h2'];exact hs
   · rename_i r
     split at hs
     · rename_i p t l hr
       split at hs
       · rename_i ld hld
         obtain ⟨hle,hs⟩:=aP hs
         cases hs
         have hB:B r=A r:=hh r (rl (List.mem_cons_self ..) (fun _ _ _ q=>by cases q)) (by simp [cK,cellsOf])
         rw [hB,hr]
         simp only [hld,hle,cond_true,nd h2']
       · cases hs
     · cases hs
   · cases hs
theorem xY {e:Ty} {ρ:Operand→AV}:∀ {ps:List (Nat × Operand)} {l:List e.d} {b:Bool},(∀ p ∈ ps,m0 (cK (cellsOf (ρ p.2))) A B)→elems B e ρ ps l b=elems A e ρ ps l b
 | [],_,_,_=>rfl
 | (i,x)::ps,l,b,h=>by
  have h0:m0 (cK (cellsOf (ρ x))) A B:=h (i,x) (List.mem_cons_self ..)
  simp only [elems]
  rw [lN h0,nd h0]
  split
  · rw [xY fun p hp=>h p (List.mem_cons_of_mem _ hp)]
  · rfl
theorem F4 {v:AV} {f:Nat} (h:m0 (cK [v]) A B):rJ B f v=rJ A f v:=by
 cases v <;> try rfl
 rename_i r i f
 simp only [rJ]
 rcases h r (by simp [cK]) with q | ⟨p,e,l,q1,q2⟩
 · rw [q]
 · rw [q1,q2]
theorem ma:∀ {cs:List AV},(∀ r ∈ cK cs,B r=A r)→eF B cs=eF A cs
 | [],_=>rfl
 | c::cs,h=>by
  cases c <;> simp only [eF] <;> first
   | rfl
   | exact ma (cs:=cs) h
   | (rw [h _ (by simp [cK]),ma (cs:=cs) fun r q=>h r (by simp [cK,q])])
theorem wl {hp:Hp} {p:Bool}:∀ {t:Ty} {x y:t.d} {cs:List AV},prj hp t cs=some x→eF hp cs=true→(pB p t y cs).map (·.1)=cK cs
 | .bool,x,y,cs,hx,hf=>by
  simp only [prj] at hx
  unfold uj at hx
  split at hx
  · rfl
  · cases hx
 | .int k,x,y,cs,hx,hf=>by
  simp only [prj] at hx
  unfold A8 at hx
  split at hx
  · rfl
  · cases hx
 | .str,x,y,cs,hx,hf=>by
  simp only [prj] at hx
  unfold zB at hx
  split at hx
  · rfl
  · cases hx
 | .unit,x,y,cs,hx,hf=>by
  simp only [prj] at hx
  unfold v_ at hx
  split at hx
  · rfl
  · cases hx
 | .opq,x,y,cs,hx,hf=>by cases hx
 | .pair s t,x,y,cs,hx,hf=>by
  simp only [prj] at hx
  obtain ⟨h1,h2⟩:=cm hx
  have app:∀ cs ds:List AV,eF hp (cs++ds)=true→eF hp cs=true∧eF hp ds=true:=by
   intro cs ds
   induction cs with
   | nil=>exact fun q=>⟨rfl,q⟩
   | cons c cs ih =>
    intro q
    cases c <;> simp only [List.cons_append,eF,Bool.and_eq_true] at q ⊢ <;> first | (cases q;done) | (exact ih q) | (exact ⟨⟨q.1,(ih q.2).1⟩,(ih q.2).2⟩)
  obtain ⟨f1,f2⟩:=app (cs.take s.size) (cs.drop s.size) (by rw [List.take_append_drop];exact hf)
  show (pB p s y.1 _++pB p t y.2 _).map (·.1)=_
  rw [List.map_append,wl h1 f1,wl h2 f2,← rV]
 | .slice e,x,y,cs,hx,hf=>by
  simp only [prj] at hx
  unfold uU at hx
  split at hx
  · rename_i c
    cases c <;> first | rfl | (simp [getSl] at hx;done) | (simp [eF] at hf;done)
  · cases hx
theorem od {hp:Hp} {al:Bool}:∀ {A:List Pm} {vs:List AV} {x:(tup (pC A)).d} {y:(tup (gk A)).d} {id:Nat},eV hp A vs=some x→∀ r ∈ mn hp A vs,r ∈ (je hp al A vs y id).map (·.1)
 | [],_,_,_,_,_,r,hr=>by cases hr
 | .val t::A,vs,x,y,id,hx,r,hr=>by
  cases vs with
  | nil=>simp only [eV] at hx;cases hx
  | cons v vs =>
   simp only [eV] at hx
   exact od (A:=A) (cm (aP hx).2).2 r hr
 | .lend t::A,vs,x,y,id,hx,r,hr=>by
  cases vs with
  | nil=>simp only [eV] at hx;cases hx
  | cons v vs =>
   simp only [eV] at hx
   have h1:=aP hx
   have h2:=cm h1.2
   simp only [mn,List.headD_cons,List.tail_cons,List.mem_append] at hr
   simp only [je,List.headD_cons,List.tail_cons,List.map_append,List.mem_append]
   rcases hr with q | q
   · left
     rw [wl h2.1 (Bool.and_eq_true _ _▸h1.1:_∧_).2]
     exact q
   · exact Or.inr (od (A:=A) h2.2 r q)
 | .give t::A,vs,x,y,id,hx,r,hr=>by
  cases vs with
  | nil=>simp only [eV] at hx;cases hx
  | cons v vs =>
   simp only [eV] at hx
   have h1:=aP hx
   have h2:=cm h1.2
   simp only [mn,List.headD_cons,List.tail_cons,List.mem_append] at hr
   simp only [je,List.headD_cons,List.tail_cons,List.map_append,List.mem_append]
   rcases hr with q | q
   · left;rw [rA];exact q
   · exact Or.inr (od (A:=A) h2.2 r q)
 | .fn f n::A,vs,x,y,id,hx,r,hr=>od (A:=A) hx r hr
 | .io o f t::A,vs,x,y,id,hx,r,hr=>by
  cases vs with
  | nil=>simp only [eV] at hx;cases hx
  | cons v vs =>
   simp only [eV] at hx
   split at hx
   · rename_i cs hcs
     obtain ⟨r0,hv,hrow⟩:=qx hcs
     subst hv
     obtain ⟨ho,hx⟩:=aP hx
     simp only [mn,List.headD_cons,List.tail_cons,hcs,Option.getD_some,cK,List.cons_append,List.nil_append,List.mem_cons,List.mem_append] at hr
     cases o with
     | true =>
      simp only [je,List.headD_cons,List.tail_cons,hcs,Option.getD_some,cond_true,kW,List.map_append,List.map_cons,List.mem_append,List.mem_cons,rA]
      rcases hr with q | q | q
      · exact Or.inr (Or.inl q)
      · exact Or.inl q
      · exact Or.inr (Or.inr (Or.inr (od (A:=A) (cm hx).2 r q)))
     | false =>
      simp only [je,List.headD_cons,List.tail_cons,hcs,Option.getD_some,cond_false,kW,List.map_cons,List.mem_cons]
      rcases hr with q | q | q
      · exact Or.inl q
      · cases q
      · exact Or.inr (od (A:=A) (cm hx).2 r q)
   · cases hx
theorem lJ:∀ {Q:List Pm} {vs:List AV} {x:(tup (pC Q)).d},eV A Q vs=some x→m0 (mn A Q vs++rQ A Q vs) A B→(∀ r ∈ mn A Q vs,B r=A r) →
 eV B Q vs=some x∧mn B Q vs=mn A Q vs∧rQ B Q vs=rQ A Q vs∧∀ al y id,je B al Q vs y id=je A al Q vs y id
 | [],vs,x,hx,_,_=>⟨hx,rfl,rfl,fun _ _ _=>rfl⟩
 | .val t::Q,vs,x,hx,hf,hh=>by
  cases vs with
  | nil=>simp only [eV] at hx;cases hx
  | cons v vs =>
   simp only [eV] at hx ⊢
   simp only [mn,rQ,List.headD_cons,List.tail_cons] at hf hh ⊢
   have h1:=aP hx
   have h2:=cm h1.2
   obtain ⟨g1,g2,g3,g4⟩:=lJ (Q:=Q) h2.2 (hf.sub fun r q=>by
    rcases List.mem_append.1 q with q | q
    · exact List.mem_append_left _ q
    · exact List.mem_append_right _ (List.mem_append_right _ q)) hh
   refine ⟨?_,g2,by rw [g3],fun al y id=>g4 al y id⟩
   rw [lN (hf.sub fun r q=>List.mem_append_right _ (List.mem_append_left _ q)),h2.1,g1,h1.1]
   rfl
 | .lend t::Q,vs,x,hx,hf,hh=>by
  cases vs with
  | nil=>simp only [eV] at hx;cases hx
  | cons v vs =>
   simp only [eV] at hx ⊢
   simp only [mn,rQ,List.headD_cons,List.tail_cons] at hf hh ⊢
   have h1:=aP hx
   have h2:=cm h1.2
   obtain ⟨g1,g2,g3,g4⟩:=lJ (Q:=Q) h2.2 (hf.sub fun r q=>by
    rcases List.mem_append.1 q with q | q
    · exact List.mem_append_left _ (List.mem_append_right _ q)
    · exact List.mem_append_right _ q) (fun r q=>hh r (List.mem_append_right _ q))
   refine ⟨?_,by rw [g2],g3,fun al y id=>by simp only [je,List.headD_cons,List.tail_cons,g4]⟩
   rw [ma fun r q=>hh r (List.mem_append_left _ q),lN (hf.sub fun r q=>List.mem_append_left _ (List.mem_append_left _ q)),h2.1,g1,h1.1]
   rfl
 | .give t::Q,vs,x,hx,hf,hh=>by
  cases vs with
  | nil=>simp only [eV] at hx;cases hx
  | cons v vs =>
   simp only [eV] at hx ⊢
   simp only [mn,rQ,List.headD_cons,List.tail_cons] at hf hh ⊢
   have h1:=aP hx
   have h2:=cm h1.2
   obtain ⟨g1,g2,g3,g4⟩:=lJ (Q:=Q) h2.2 (hf.sub fun r q=>by
    rcases List.mem_append.1 q with q | q
    · exact List.mem_append_left _ (List.mem_append_right _ q)
    · exact List.mem_append_right _ q) (fun r q=>hh r (List.mem_append_right _ q))
   refine ⟨?_,by rw [g2],g3,fun al y id=>congrArg (sN (cK (cellsOf v))++·) (g4 al y id)⟩
   rw [ma fun r q=>hh r (List.mem_append_left _ q),lN (hf.sub fun r q=>List.mem_append_left _ (List.mem_append_left _ q)),h2.1,g1,h1.1]
   rfl
 | .fn f n::Q,vs,x,hx,hf,hh=>lJ (Q:=Q) hx hf hh
 | .io o f t::Q,vs,x,hx,hf,hh=>by
  cases vs with
  | nil=>simp only [eV] at hx;cases hx
  | cons v vs =>
   have hbx:rJ B f v=rJ A f v:=F4 (hf.sub fun r q=>List.mem_append_left _ (by simp only [mn,List.headD_cons];exact List.mem_append_left _ q))
   simp only [eV,hbx] at hx ⊢
   cases hcs:rJ A f v with
   | none=>rw [hcs] at hx;cases hx
   | some cs =>
    rw [hcs] at hx
    simp only [] at hx ⊢
    simp only [mn,rQ,List.headD_cons,List.tail_cons,hbx,hcs,Option.getD_some] at hf hh ⊢
    have h1:=aP hx
    have h2:=cm h1.2
    obtain ⟨g1,g2,g3,g4⟩:=lJ (Q:=Q) h2.2 (hf.sub fun r q=>by
     rcases List.mem_append.1 q with q | q
     · exact List.mem_append_left _ (List.mem_append_right _ (List.mem_append_right _ q))
     · exact List.mem_append_right _ (List.mem_append_right _ q)) (fun r q=>hh r (List.mem_append_right _ (List.mem_append_right _ q)))
    have hcf:m0 (cK cs) A B:=hf.sub fun r q=>by
     cases o with
     | true=>exact List.mem_append_left _ (List.mem_append_right _ (List.mem_append_left _ q))
     | false=>exact List.mem_append_right _ (List.mem_append_left _ q)
    have hfo:(!o||eF B cs)=(!o||eF A cs):=by
     cases o with
     | true=>rw [ma fun r q=>hh r (List.mem_append_right _ (List.mem_append_left _ q))]
     | false=>rfl
    refine ⟨?_,by rw [g2],by rw [g3],fun al y id=>by simp only [je,List.headD_cons,List.tail_cons,hbx,g4]⟩
    rw [hfo,lN hcf,h2.1,g1,h1.1]
    rfl
theorem FA {c:Cn} {id nx:Nat} {as:List AV} {v:AV} {us:jg} (hs:sT c A id as (fun v us nx=>some (v,us,nx))=some (v,us,nx))
 (h:∀ vs,gn c.A as=some vs→m0 (mn A c.A vs++rQ A c.A vs) A B) (hh:∀ vs,gn c.A as=some vs→∀ r ∈ kM us,r ∈ mn A c.A vs→B r=A r) :
 sT c B id as (fun v us nx=>some (v,us,nx))=some (v,us,nx):=by
 have hs0:=hs
 unfold sT at hs ⊢
 cases hf:gn c.A as with
 | none=>rw [hf] at hs;cases hs
 | some vs =>
 rw [hf] at hs
 simp only [] at hs ⊢
 cases hx:eV A c.A vs with
 | none=>rw [hx] at hs;cases hs
 | some x =>
 rw [hx] at hs
 simp only [] at hs
 have h1:=aP hs
 cases hy:c.fn x with
 | none=>have h2:=h1.2;rw [hy] at h2;cases h2
 | some y =>
 have h2:=h1.2
 rw [hy] at h2
 simp only [Option.some.injEq,Prod.mk.injEq] at h2
 have hgv:∀ r ∈ mn A c.A vs,B r=A r:=fun r q=>by
  refine hh vs hf r ?_ q
  obtain ⟨z,hz,rfl⟩:=List.mem_map.1 (od (al:=c.al) (y:=Dc (gk c.A) y) (id:=id) hx r q)
  rw [← h2.2.1]
  exact rl (x:=z.2) (List.mem_append_right _ (List.mem_append_left _ hz)) (kA z.1 z.2 hz)
 obtain ⟨g1,g2,g3,g4⟩:=lJ hx (h vs hf) hgv
 have hrefs:∀ l:List Nat,cK (l.map AV.ref)=l:=by
  intro l
  induction l with
  | nil=>rfl
  | cons r l ih=>simp [cK,ih]
 rw [g1,g2,g3]
 simp only [hy]
 rw [g4,mQ (A:=A) (B:=B) (by rw [hrefs];exact (h vs hf).sub fun r q=>List.mem_append_right _ q)]
 rw [hy] at hs
 exact hs
theorem Gc {c:Cn} {id nx:Nat} {as:List AV} {v:AV} {us:jg} (hs:Ai c A id as (fun v us nx=>some (v,us,nx))=some (v,us,nx))
 (h:∀ vs,gn c.A as=some vs→m0 (mn A c.A vs++rQ A c.A vs) A B) :
 Ai c B id as (fun v us nx=>some (v,us,nx))=some (v,us,nx):=by
 have hs0:=hs
 unfold Ai at hs ⊢
 cases hf:gn c.A as with
 | none=>rw [hf] at hs;cases hs
 | some vs =>
 rw [hf] at hs
 simp only [] at hs ⊢
 cases hx:eV A c.A vs with
 | none=>rw [hx] at hs;cases hs
 | some x =>
 rw [hx] at hs
 simp only [] at hs
 have h1:=aP hs
 have hgv:∀ r ∈ mn A c.A vs,B r=A r:=fun r q=>by
  rw [List.isEmpty_iff.1 h1.1] at q
  cases q
 obtain ⟨g1,g2,g3,g4⟩:=lJ hx (h vs hf) hgv
 have hrefs:∀ l:List Nat,cK (l.map AV.ref)=l:=by
  intro l
  induction l with
  | nil=>rfl
  | cons r l ih=>simp [cK,ih]
 rw [g1,g2,g3,mQ (A:=A) (B:=B) (by rw [hrefs];exact (h vs hf).sub fun r q=>List.mem_append_right _ q)]
 exact hs
theorem El {c:Cn} {id nx:Nat} {as:List AV} {v:AV} {us:jg} (hs:rT c A id as (fun v us nx=>some (v,us,nx))=some (v,us,nx))
 (h:∀ vs,gn c.A as=some vs→m0 (mn A c.A vs++rQ A c.A vs) A B) (hh:∀ vs,gn c.A as=some vs→∀ r ∈ kM us,r ∈ mn A c.A vs→B r=A r) :
 rT c B id as (fun v us nx=>some (v,us,nx))=some (v,us,nx):=by
 unfold rT at hs ⊢
 cases hb:q_ c.R with
 | false=>rw [hb] at hs;exact FA hs h hh
 | true=>rw [hb] at hs;exact Gc hs h
theorem xS:∀ {cs ds:List AV},cK (cs++ds)=cK cs++cK ds
 | [],_=>rfl
 | c::cs,ds=>by cases c <;> simp [cK,xS (cs:=cs)]
theorem uv {α:Type} {f:α→List AV}:∀ {l:List α},cK (l.flatMap f)=l.flatMap fun x=>cK (f x)
 | []=>rfl
 | x::l=>by simp [xS,uv (l:=l)]
theorem nS {tb:mJ} {tm:List AV} {t:Nat} {x:Operand}:cK (cellsOf (val tb tm t x))=cK (cellsOf (val tb tm 0 x)):=by
 cases x with
 | tmp i=>rfl
 | func f=>rfl
 | global g=>rfl
 | const v =>
  simp only [val]
  unfold QM
  cases v <;> try rfl
  rename_i a n c
  cases a <;> try rfl
  cases n <;> try rfl
  cases c <;> try rfl
  simp only []
  split <;> (split <;> rfl)
theorem HX {tb:mJ} {ct:List (Nat × Cn)} {o:Oper} {tm:List AV} {id nx:Nat} {v:AV} {us:jg} (hs:eU tb ct o tm A id (fun v us nx=>some (v,us,nx))=some (v,us,nx))
 (h:m0 (reads tb ct o tm A) A B) (hh:∀ r ∈ kM us,r ∈ reads tb ct o tm A→B r=A r):eU tb ct o tm B id (fun v us nx=>some (v,us,nx))=some (v,us,nx):=by
 cases hop:o.op with
 | load t x =>
  simp only [eU,hop,reads] at hs h ⊢
  split at hs
  · rename_i u hu
    try simp only [hu]
    rw [KW h];exact hs
  · cases hs
 | store t x y =>
  simp only [eU,hop,reads] at hs h hh ⊢
  split at hs
  · rename_i u hu
    try simp only [hu]
    rw [lX] at hs
    cases hl:lR A u (val tb tm 0 x) (val tb tm t y) some with
    | none=>rw [hl] at hs;cases hs
    | some us' =>
     rw [hl] at hs
     cases hs
     rw [lX]
     have h1:m0 (cK (cellsOf (val tb tm 0 x))) A B:=h.sub fun r hr=>List.mem_append_left _ hr
     have h2:m0 (cK (cellsOf (val tb tm t y))) A B:=h.sub fun r hr=>List.mem_append_right _ (by rw [← nS (t:=t)];exact hr)
     rw [As hl h1 h2 fun r hr hm=>hh r hr (List.mem_append_left _ hm)]
     rfl
  · cases hs
 | indexAddr t x i =>
  simp only [eU,hop,reads] at hs h ⊢
  rw [xk (by rw [nS];exact h)]
  exact hs
 | slice t x lo hi mx =>
  cases mx with
  | some _=>simp only [eU,hop] at hs;cases hs
  | none =>
   simp only [eU,hop,reads] at hs h ⊢
   rw [B6 (by rw [nS];exact h)]
   exact hs
 | convert s d x =>
  simp only [eU,hop,reads] at hs h ⊢
  split at hs
  · rename_i h1 h2 h3
    try simp only [h1,h2,h3]
    exact hs
  · rename_i h1 h2 h3
    try simp only [h1,h2,h3]
    exact hs
  · rename_i h1 h2 h3
    rw [sD (A:=A) (B:=B) (m0.sub (by rw [nS];exact h) zn)]
    exact hs
  · cases hs
 | buildSlice t n ps =>
  simp only [eU,hop,reads] at hs h ⊢
  split at hs
  · rename_i e he
    try simp only [he]
    have h1:∀ p ∈ ps.toList,m0 (cK (cellsOf (val tb tm 0 p.2))) A B:=fun p hp=>h.sub fun r hr=>List.mem_flatMap.2 ⟨p,hp,hr⟩
    rw [xY h1,mQ (A:=A) (B:=B) (by rw [uv];exact h)]
    exact hs
  · cases hs
 | call c =>
  have h1:∀ x ∈ c.args.toList,m0 (cK (cellsOf (val tb tm 0 x))) A B:=fun x hx=>h.sub fun r hr=>by
   simp only [reads,hop]
   exact List.mem_append_left _ (List.mem_flatMap.2 ⟨x,hx,hr⟩)
  simp only [eU,hop] at hs ⊢
  split at hs
  · rename_i hc
    try simp only [hc]
    split at hs
    · rename_i x t ha ht
      try simp only [ha,ht]
      rw [FU (by rw [nS];exact h1 x (by rw [ha];simp))]
      exact hs
    · cases hs
  · rename_i hc
    try simp only [hc]
    split at hs
    · rename_i d s t t' ha ht
      try simp only [ha,ht]
      split at hs
      · rename_i e he
        try simp only [he]
        cases hb:Nat.beq t t' with
        | false=>rw [hb] at hs;cases hs
        | true =>
         rw [hb,cond_true] at hs
         rw [cond_true,ia]
         rw [ia] at hs
         cases hl:k7 e A id (val tb tm t d) (val tb tm t s) (fun v us=>some (v,us)) with
         | none=>rw [hl] at hs;cases hs
         | some z =>
          obtain ⟨z1,z2⟩:=z
          rw [hl] at hs
          cases hs
          rw [ym hl (by rw [nS];exact h1 d (by rw [ha];simp)) (by rw [nS];exact h1 s (by rw [ha];simp)) ?_]
          · rfl
          · intro r hr hm
            refine hh r hr ?_
            simp only [reads,hop]
            exact List.mem_append_left _ (List.mem_flatMap.2 ⟨d,by rw [ha];simp,by rw [← nS (t:=t)];exact hm⟩)
      · cases hs
    · cases hs
  · rename_i hc
    try simp only [hc]
    exact hs
  · rename_i hc
    try simp only [hc]
    exact hs
  · rename_i x hc
    try simp only [hc]
    split at hs
    · rename_i q hq
      try simp only [hq]
      have hsub:∀ vs,gn q.1.A q.2=some vs→∀ r ∈ mn A q.1.A vs++rQ A q.1.A vs,r ∈ reads tb ct o tm A:=fun vs hvs r hr=>by
       simp only [reads,hop,hc,hq,hvs]
       exact List.mem_append_right _ hr
      exact El (A:=A) (B:=B) hs (fun vs hvs=>h.sub (hsub vs hvs)) (fun vs hvs r hr hm=>hh r hr (hsub vs hvs r (List.mem_append_left _ hm)))
    · cases hs
  · cases hs
 | makeFunc fn first caps =>
  cases fn with
  | func f=>simp only [eU,hop] at hs ⊢;exact hs
  | _=>unfold eU at hs;rw [hop] at hs;cases hs
 | _=>unfold eU at hs ⊢;rw [hop] at hs ⊢;exact hs
end
end Go.V
end
section
namespace Go.V
open Go.RowKit
section
variable {tb:mJ} {ct:List (Nat × Cn)} {tm tm':List AV} {hp:Hp} {id:Nat} {R:Type}
theorem Ic {f g:Operand→AV} {o:Option Operand} (h:∀ x ∈ o.toList,f x=g x):o.map f=o.map g:=by
 cases o with
 | none=>rfl
 | some x=>simp [h x (by simp)]
theorem qB {offs:List (Nat × Nat)} {f g:Operand→AV}:∀ {ps:List (Nat × Operand)} {z:List AV},(∀ p ∈ ps,f p.2=g p.2)→lK z offs f ps=lK z offs g ps
 | [],_,_=>rfl
 | (i,x)::ps,z,h=>by
  have h0:f x=g x:=h (i,x) (List.mem_cons_self ..)
  simp only [lK,h0]
  split
  · rw [qB fun p hp=>h p (List.mem_cons_of_mem _ hp)]
  · rfl
theorem xf {e:Ty} {f g:Operand→AV}:∀ {ps:List (Nat × Operand)} {l:List e.d} {b:Bool},(∀ p ∈ ps,f p.2=g p.2)→elems hp e f ps l b=elems hp e g ps l b
 | [],_,_,_=>rfl
 | (i,x)::ps,l,b,h=>by
  have h0:f x=g x:=h (i,x) (List.mem_cons_self ..)
  simp only [elems,h0]
  split
  · rw [xf fun p hp=>h p (List.mem_cons_of_mem _ hp)]
  · rfl
theorem mg {α β:Type} {f g:α→List β}:∀ {l:List α},(∀ x ∈ l,f x=g x)→l.flatMap f=l.flatMap g
 | [],_=>rfl
 | x::l,h=>by simp [h x (List.mem_cons_self ..),mg fun y hy=>h y (List.mem_cons_of_mem _ hy)]
theorem Nv {o:Oper} {k:AV→jg→Nat→Option R} (h:∀ x ∈ o.op.operands.toList,∀ T,val tb tm' T x=val tb tm T x) :
 eU tb ct o tm' hp id k=eU tb ct o tm hp id k∧reads tb ct o tm' hp=reads tb ct o tm hp:=by
 cases hop:o.op with
 | buildSlice t n ps =>
  have h0:∀ p ∈ ps.toList,val tb tm' 0 p.2=val tb tm 0 p.2:=fun p hp=>h p.2 (by rw [hop];simp only [Op.operands,List.toList_toArray];exact List.mem_map_of_mem hp) 0
  simp only [eU,reads,hop]
  have e1:ps.toList.flatMap (fun p=>cellsOf (val tb tm' 0 p.2))=ps.toList.flatMap (fun p=>cellsOf (val tb tm 0 p.2)):=mg fun p hp=>by rw [h0 p hp]
  rw [e1]
  refine ⟨?_,mg fun p hp=>by rw [h0 p hp]⟩
  split
  · rw [xf h0]
  · rfl
 | build t ps =>
  have h0:∀ p ∈ ps.toList,val tb tm' 0 p.2=val tb tm 0 p.2:=fun p hp=>h p.2 (by rw [hop];simp only [Op.operands,List.toList_toArray];exact List.mem_map_of_mem hp) 0
  simp only [eU,reads,hop]
  exact ⟨by
   split
   · rw [qB h0]
   · rfl,trivial⟩
 | makeFunc fn first caps =>
  have h0:caps.toList.map (val tb tm' 0)=caps.toList.map (val tb tm 0):=List.map_congr_left fun x hx=>h x (by rw [hop];simp only [Op.operands,Array.toList_append];exact List.mem_append_right _ hx) 0
  cases fn <;> simp only [eU,reads,hop]
  · exact ⟨by rw [h0],trivial⟩
  all_goals exact ⟨trivial,trivial⟩
 | call c =>
  have hin:∀ x ∈ c.args.toList,∀ T,val tb tm' T x=val tb tm T x:=fun x hx=>h x (by rw [hop];simp only [Op.operands,Call.operands,Array.toList_append];exact List.mem_append_right _ hx)
  have h0:c.args.toList.map (val tb tm' 0)=c.args.toList.map (val tb tm 0):=List.map_congr_left fun x hx=>hin x hx 0
  have hcal:∀ x,c.callee = .value x→qE tb ct tm' x (c.args.toList.map (val tb tm' 0))=qE tb ct tm x (c.args.toList.map (val tb tm 0)):=fun x hx=>by
   rw [h0]
   unfold qE
   rw [h x (by rw [hop];simp only [Op.operands,Call.operands,Array.toList_append,hx];exact List.mem_append_left _ (by simp)) 0]
  simp only [eU,reads,hop]
  refine ⟨?_,?_⟩
  · split
    · split
      · rename_i x t ha ht
        rw [hin x (by rw [ha];simp)]
      · rfl
    · split
      · rename_i d s t t' ha ht
        split
        · rw [hin d (by rw [ha];simp),hin s (by rw [ha];simp)]
        · rfl
      · rfl
    · rw [h0]
    · rw [h0]
    · rename_i x hc
      rw [hcal x hc]
    · rfl
  · rw [mg (f:=fun x=>cK (cellsOf (val tb tm' 0 x))) (g:=fun x=>cK (cellsOf (val tb tm 0 x))) fun x hx=>by rw [hin x hx]]
    congr 1
    split
    · rename_i x hc
      rw [hcal x hc]
    · rfl
 | slice t x lo hi mx =>
  have hx:=h x (by rw [hop];simp [Op.operands])
  have hl:lo.map (val tb tm' 0)=lo.map (val tb tm 0):=Ic fun y hy=>h y (by rw [hop];simp [Op.operands] at hy ⊢;simp [hy]) 0
  have hh:hi.map (val tb tm' 0)=hi.map (val tb tm 0):=Ic fun y hy=>h y (by rw [hop];simp [Op.operands] at hy ⊢;simp [hy]) 0
  cases mx <;> simp only [eU,reads,hop,hx,hl,hh] <;> exact ⟨trivial,trivial⟩
 | pick c x y =>
  have h1:=h c (by rw [hop];simp [Op.operands])
  have h2:=h x (by rw [hop];simp [Op.operands])
  have h3:=h y (by rw [hop];simp [Op.operands])
  simp only [eU,reads,hop,h1,h2,h3]
  exact ⟨trivial,trivial⟩
 | store t x y =>
  have h1:=h x (by rw [hop];simp [Op.operands])
  have h2:=h y (by rw [hop];simp [Op.operands])
  simp only [eU,reads,hop,h1,h2]
  exact ⟨trivial,trivial⟩
 | binOp op t x y u =>
  have h1:=h x (by rw [hop];simp [Op.operands])
  have h2:=h y (by rw [hop];simp [Op.operands])
  simp only [eU,reads,hop,h1,h2]
  exact ⟨trivial,trivial⟩
 | makeSlice t x y =>
  have h1:=h x (by rw [hop];simp [Op.operands])
  have h2:=h y (by rw [hop];simp [Op.operands])
  simp only [eU,reads,hop,h1,h2]
  exact ⟨trivial,trivial⟩
 | indexAddr t x y =>
  have h1:=h x (by rw [hop];simp [Op.operands])
  have h2:=h y (by rw [hop];simp [Op.operands])
  simp only [eU,reads,hop,h1,h2]
  exact ⟨trivial,trivial⟩
 | index t x y =>
  have h1:=h x (by rw [hop];simp [Op.operands])
  have h2:=h y (by rw [hop];simp [Op.operands])
  simp only [eU,reads,hop,h1,h2]
  exact ⟨trivial,trivial⟩
 | alloc t=>simp only [eU,reads,hop];exact ⟨trivial,trivial⟩
 | move x=>have h1:=h x (by rw [hop];simp [Op.operands]);simp only [eU,reads,hop,h1];exact ⟨trivial,trivial⟩
 | assign x=>have h1:=h x (by rw [hop];simp [Op.operands]);simp only [eU,reads,hop,h1];exact ⟨trivial,trivial⟩
 | box t x=>have h1:=h x (by rw [hop];simp [Op.operands]);simp only [eU,reads,hop,h1];exact ⟨trivial,trivial⟩
 | load t x=>have h1:=h x (by rw [hop];simp [Op.operands]);simp only [eU,reads,hop,h1];exact ⟨trivial,trivial⟩
 | nilCheck x=>have h1:=h x (by rw [hop];simp [Op.operands]);simp only [eU,reads,hop,h1];exact ⟨trivial,trivial⟩
 | unOp op t x=>have h1:=h x (by rw [hop];simp [Op.operands]);simp only [eU,reads,hop,h1];exact ⟨trivial,trivial⟩
 | convert s d x=>have h1:=h x (by rw [hop];simp [Op.operands]);simp only [eU,reads,hop,h1];exact ⟨trivial,trivial⟩
 | fieldAddr s x f=>have h1:=h x (by rw [hop];simp [Op.operands]);simp only [eU,reads,hop,h1];exact ⟨trivial,trivial⟩
 | field s x f=>have h1:=h x (by rw [hop];simp [Op.operands]);simp only [eU,reads,hop,h1];exact ⟨trivial,trivial⟩
 | extract x i=>have h1:=h x (by rw [hop];simp [Op.operands]);simp only [eU,reads,hop,h1];exact ⟨trivial,trivial⟩
 | _=>unfold eU reads;rw [hop];exact ⟨rfl,rfl⟩
end
def DV:jg→Nat→qP→qP
 | [],_,x=>x
 | u::us,r,x=>DV us r (bif Nat.beq r u.1 then turn u.2 x else x)
theorem lC:∀ {us:jg} {hp:Hp} {r:Nat},applyF hp us r=DV us r (hp r)
 | [],_,_=>rfl
 | u::us,hp,r=>by
  simp only [applyF,DV]
  exact lC (us:=us)
theorem wi (x:qP):Cv (Cv x)=Cv x:=by cases x <;> rfl
theorem HS (x:qP):(∀ y,turn x y=Cv y)∨(∃ z,∀ y,turn x y=z):=by
 cases x
 · exact Or.inr ⟨_,fun _=>rfl⟩
 · exact Or.inr ⟨_,fun _=>rfl⟩
 · exact Or.inr ⟨_,fun _=>rfl⟩
 · exact Or.inl fun _=>rfl
theorem Dd:∀ (us:jg) (r:Nat) {x y:qP},(y=x∨y=Cv x)→(DV us r y=DV us r x∨DV us r y=Cv (DV us r x))
 | [],_,_,_,h=>h
 | u::us,r,x,y,h=>by
  simp only [DV]
  cases Nat.beq r u.1 with
  | false=>exact Dd us r h
  | true =>
   simp only [cond_true]
   refine Dd us r ?_
   rcases HS u.2 with q | ⟨z,q⟩
   · rw [q,q]
     rcases h with rfl | rfl
     · exact Or.inl rfl
     · exact Or.inl (wi _)
   · rw [q,q];exact Or.inl rfl
theorem ss:∀ {us:jg} {r:Nat},r ∉ us.map (·.1)→∀ x,DV us r x=x
 | [],_,_,_=>rfl
 | u::us,r,h,x=>by
  simp only [List.map_cons,List.mem_cons,not_or] at h
  simp only [DV]
  have:Nat.beq r u.1=false:=by
   cases hb:Nat.beq r u.1 with
   | false=>rfl
   | true=>exact absurd (Nat.eq_of_beq_eq_true hb) h.1
  rw [this]
  exact ss h.2 x
theorem Ay {u:Nat × qP} {us:jg} {r:Nat} (h:r ∉ kM (u::us)):r ∉ kM us∧(r=u.1→∃ p e l,u.2 = .fro p e l):=by
 obtain ⟨s,x⟩:=u
 cases x <;> simp_all [kM]
theorem sM:∀ {us:jg} {r:Nat},r ∉ kM us→(∀ x,DV us r x=x)∨(∀ x,DV us r x=Cv x)
 | [],_,_=>Or.inl fun _=>rfl
 | u::us,r,h=>by
  obtain ⟨h1,h2⟩:=Ay h
  simp only [DV]
  cases hb:Nat.beq r u.1 with
  | false=>exact sM h1
  | true =>
   simp only [cond_true]
   obtain ⟨p,e,l,q⟩:=h2 (Nat.eq_of_beq_eq_true hb)
   rw [q]
   right
   intro x
   rcases sM h1 with g | g
   · rw [g];rfl
   · rw [g];exact wi x
theorem M_ {us vs:jg} {r:Nat} (h1:∀ r ∈ kM us,r ∉ vs.map (·.1)) (h2:∀ r ∈ kM vs,r ∉ us.map (·.1)) (x:qP):DV vs r (DV us r x)=DV us r (DV vs r x):=by
 by_cases a:r ∈ kM us
 · rw [ss (h1 r a),ss (h1 r a)]
 · by_cases b:r ∈ kM vs
   · rw [ss (h2 r b),ss (h2 r b)]
   · rcases sM a with p | p <;> rcases sM b with q | q <;> simp [p,q]
theorem vX:∀ {us:jg} {hp:Hp},rH us→applyF hp us=apply hp us
 | [],_,_=>rfl
 | u::us,hp,h=>by
  simp only [applyF,apply]
  have e:(fun n=>bif Nat.beq n u.1 then turn u.2 (hp n) else hp n)=kS hp u.1 u.2:=by
   funext n
   simp only [kS]
   have h0:=h u.1 u.2 (List.mem_cons_self ..)
   obtain ⟨s,x⟩:=u
   cases x <;> first | rfl | exact absurd rfl (h0 _ _ _)
  rw [e]
  exact vX fun r x hx=>h r x (List.mem_cons_of_mem _ hx)
theorem zu:∀ {us:jg} {hp:Hp},Cb hp us→applyF hp us=apply hp us
 | [],_,_=>rfl
 | (r,x)::us,hp,h=>by
  obtain ⟨p,e,l,rfl,hr⟩:=h r x (List.mem_cons_self ..)
  simp only [applyF,apply]
  have e':(fun n=>bif Nat.beq n r then turn (.fro p e l) (hp n) else hp n)=kS hp r (.fro p e l):=by
   funext n
   simp only [kS]
   cases hb:Nat.beq n r with
   | false=>rfl
   | true =>
    simp only [cond_true]
    rw [Nat.eq_of_beq_eq_true hb]
    rcases hr with q | q <;> rw [q] <;> rfl
  rw [e']
  exact zu h.tail
theorem vM:∀ (us0:jg) {hp:Hp} {us1:jg},apply hp (us0++us1)=apply (apply hp us0) us1
 | [],_,_=>rfl
 | u::us,hp,us1=>vM us
theorem tf:∀ (us0:jg) {hp:Hp} {us1:jg},applyF hp (us0++us1)=applyF (applyF hp us0) us1
 | [],_,_=>rfl
 | u::us,hp,us1=>tf us
theorem gz.applyF {hp:Hp} {id nx:Nat} {us:jg} (h:gz hp id us nx):applyF hp us=apply hp us:=by
 obtain ⟨_,us0,us1,rfl,h0,h1⟩:=h
 rw [tf,vM,zu h0,vX h1]
end Go.V
end
section
namespace Go.V
open Go.RowKit
structure G where
 i:Nat
 go:Bool
 us:jg
 rd:List Nat
 A:List Nat
 dst:Option Nat
 v:AV
 nm:List Nat
 id:Nat
 nx:Nat
def rep (hp:Hp) (D:Nat→Bool):List G→Hp
 | []=>hp
 | g::gs=>bif D g.i then applyF (rep hp D gs) g.us else rep hp D gs
def iq (tm:List AV) (D:Nat→Bool):List G→List AV
 | []=>tm
 | g::gs=>bif D g.i then nh (iq tm D gs) g.dst g.v else iq tm D gs
structure Q3 (g' g:G):Prop where
 a:∀ r ∈ kM g.us,r ∉ g'.rd
 b:∀ r ∈ kM g'.us,r ∉ g.rd
 c:∀ r ∈ g.us.map (·.1),r ∉ kM g'.us
 d:∀ r ∈ kM g.us,r ∉ g'.us.map (·.1)
structure J9 (g' g:G):Prop where
 e:∀ t ∈ g.dst.toList,t ∉ g'.dst.toList++g'.nm
 f:∀ t ∈ g'.dst.toList,t ∉ g.nm
section
variable {hp:Hp} {tm:List AV} {D D':Nat→Bool}
theorem t_ {r:Nat}:∀ {gs:List G},(∀ g ∈ gs,r ∈ g.us.map (·.1)→D g.i=D' g.i)→rep hp D gs r=rep hp D' gs r
 | [],_=>rfl
 | g::gs,h=>by
  have ih:=t_ (gs:=gs) fun g' hg=>h g' (List.mem_cons_of_mem _ hg)
  simp only [rep]
  by_cases hr:r ∈ g.us.map (·.1)
  · rw [h g (List.mem_cons_self ..) hr]
    cases D' g.i with
    | true=>simp only [cond_true,lC,ih]
    | false=>exact ih
  · have e:∀ (b:Bool) (x:Hp),(bif b then applyF x g.us else x) r=x r:=fun b x=>by
     cases b with
     | true=>simp only [cond_true,lC,ss hr]
     | false=>rfl
    rw [e,e,ih]
theorem Im {r:Nat}:∀ {gs:List G},(∀ g ∈ gs,D g.i=D' g.i∨(D g.i=true∧r ∉ kM g.us))→rep hp D gs r=rep hp D' gs r∨rep hp D gs r=Cv (rep hp D' gs r)
 | [],_=>Or.inl rfl
 | g::gs,h=>by
  have ih:=Im (gs:=gs) fun g' hg=>h g' (List.mem_cons_of_mem _ hg)
  simp only [rep]
  cases h1:D g.i with
  | true =>
   cases h2:D' g.i with
   | true =>
    simp only [cond_true,lC]
    exact Dd _ _ ih
   | false =>
    rcases h g (List.mem_cons_self ..) with q | ⟨_,q⟩
    · rw [h1,h2] at q;cases q
    · simp only [cond_true,cond_false,lC]
      rcases sM q with e | e
      · rw [e];exact ih
      · rw [e]
        rcases ih with g1 | g1
        · rw [g1];exact Or.inr rfl
        · rw [g1,wi];exact Or.inr rfl
  | false =>
   cases h2:D' g.i with
   | true =>
    rcases h g (List.mem_cons_self ..) with q | ⟨q,_⟩
    · rw [h1,h2] at q;cases q
    · rw [h1] at q;cases q
   | false=>exact ih
theorem Kq {l:List AV} {d:Option Nat} {v:AV}:(nh l d v).length=l.length:=by cases d <;> simp [nh]
theorem vH:∀ {gs:List G},(iq tm D gs).length=tm.length
 | []=>rfl
 | g::gs=>by
  simp only [iq]
  cases D g.i with
  | true=>rw [cond_true,Kq];exact vH
  | false=>exact vH
theorem Jo {l l':List AV} {d:Option Nat} {v:AV} {t:Nat} (hl:l.length=l'.length) (h:l.getD t .junk=l'.getD t .junk):(nh l d v).getD t .junk=(nh l' d v).getD t .junk:=by
 cases d with
 | none=>exact h
 | some d =>
  simp only [nh,List.getD,List.getElem?_set,hl] at h ⊢
  split
  · split <;> rfl
  · exact h
theorem GZ {l:List AV} {d:Option Nat} {v:AV} {t:Nat} (h:d≠some t):(nh l d v).getD t .junk=l.getD t .junk:=by
 cases d with
 | none=>rfl
 | some d =>
  have:d≠t:=fun q=>h (by rw [q])
  simp [nh,List.getD,List.getElem?_set_ne this]
theorem zS {t:Nat}:∀ {gs:List G},(∀ g ∈ gs,g.dst=some t→D g.i=D' g.i)→(iq tm D gs).getD t .junk=(iq tm D' gs).getD t .junk
 | [],_=>rfl
 | g::gs,h=>by
  have ih:=zS (gs:=gs) fun g' hg=>h g' (List.mem_cons_of_mem _ hg)
  simp only [iq]
  by_cases hr:g.dst=some t
  · rw [h g (List.mem_cons_self ..) hr]
    cases D' g.i with
    | true =>
     simp only [cond_true]
     exact Jo (by rw [vH,vH]) ih
    | false=>exact ih
  · have e:∀ (b:Bool) (x:List AV),(bif b then nh x g.dst g.v else x).getD t .junk=x.getD t .junk:=fun b x=>by
     cases b with
     | true=>exact GZ hr
     | false=>rfl
    rw [e,e,ih]
def o5 (D:Nat→Bool) (i:Nat):Nat→Bool:=fun j=>bif Nat.beq j i then true else D j
theorem su {i:Nat}:o5 D i i=true:=by simp [o5]
theorem p6 {i j:Nat} (h:j≠i):o5 D i j=D j:=by
 have:Nat.beq j i=false:=by
  cases hb:Nat.beq j i with
  | false=>rfl
  | true=>exact absurd (Nat.eq_of_beq_eq_true hb) h
 simp [o5,this]
theorem NR {gs:List G} (h:∀ g ∈ gs,D g.i=D' g.i):rep hp D gs=rep hp D' gs:=funext fun r=>t_ fun g hg _=>h g hg
theorem vk:∀ {gs:List G},(∀ g ∈ gs,D g.i=D' g.i)→iq tm D gs=iq tm D' gs
 | [],_=>rfl
 | g::gs,h=>by
  simp only [iq]
  rw [h g (List.mem_cons_self ..),vk fun g' hg=>h g' (List.mem_cons_of_mem _ hg)]
theorem IZ {g:G} {r:Nat}:∀ {gs:List G},gs.Pairwise (fun x y=>y.i<x.i)→g ∈ gs→D g.i=false →
 (∀ h ∈ gs,g.i<h.i→D h.i=true→(∀ r ∈ kM g.us,r ∉ h.us.map (·.1))∧(∀ r ∈ kM h.us,r ∉ g.us.map (·.1)))→rep hp (o5 D g.i) gs r=DV g.us r (rep hp D gs r)
 | [],_,hg,_,_=>by cases hg
 | h::gs,hp',hg,hD,hc=>by
  rw [List.pairwise_cons] at hp'
  simp only [rep]
  rcases List.mem_cons.1 hg with q | q
  · subst q
    rw [su,hD,cond_true,cond_false,lC]
    congr 1
    exact t_ fun g' hg' _=>p6 (Nat.ne_of_lt (hp'.1 g' hg'))
  · have hlt:=hp'.1 g q
    rw [p6 (Nat.ne_of_gt hlt)]
    have ih:=IZ (r:=r) hp'.2 q hD fun h' hh'=>hc h' (List.mem_cons_of_mem _ hh')
    cases hb:D h.i with
    | false=>exact ih
    | true =>
     simp only [cond_true,lC]
     rw [ih]
     obtain ⟨c1,c2⟩:=hc h (List.mem_cons_self ..) hlt hb
     exact M_ c1 c2 _
theorem Jv {l:List AV} {d e:Option Nat} {u v:AV} (h:∀ t ∈ d.toList,t ∉ e.toList):nh (nh l d u) e v=nh (nh l e v) d u:=by
 cases d with
 | none=>rfl
 | some d =>
  cases e with
  | none=>rfl
  | some e =>
   have:d≠e:=fun q=>h d (by simp) (by simp [q])
   exact List.set_comm _ _ this
theorem Fu {g:G}:∀ {gs:List G},gs.Pairwise (fun x y=>y.i<x.i)→g ∈ gs→D g.i=false →
 (∀ h ∈ gs,g.i<h.i→D h.i=true→∀ t ∈ h.dst.toList,t ∉ g.dst.toList)→iq tm (o5 D g.i) gs=nh (iq tm D gs) g.dst g.v
 | [],_,hg,_,_=>by cases hg
 | h::gs,hp',hg,hD,hc=>by
  rw [List.pairwise_cons] at hp'
  simp only [iq]
  rcases List.mem_cons.1 hg with q | q
  · subst q
    rw [su,hD,cond_true,cond_false]
    congr 1
    exact vk fun g' hg'=>p6 (Nat.ne_of_lt (hp'.1 g' hg'))
  · have hlt:=hp'.1 g q
    rw [p6 (Nat.ne_of_gt hlt)]
    have ih:=Fu hp'.2 q hD fun h' hh'=>hc h' (List.mem_cons_of_mem _ hh')
    cases hb:D h.i with
    | false=>exact ih
    | true =>
     simp only [cond_true]
     rw [ih]
     exact (Jv (hc h (List.mem_cons_self ..) hlt hb)).symm
end
def n_:List G→List Pp
 | []=>[]
 | g::gs=>bif g.go then ⟨g.i,g.us,g.rd⟩::n_ gs else n_ gs
theorem uR {hp:Hp} {a:List Nat}:∀ {gs:List G},(∀ g ∈ gs,g.go=false→g.us=[])→qZ hp a (n_ gs)=rep hp (jr a) gs
 | [],_=>rfl
 | g::gs,h=>by
  have ih:=uR (hp:=hp) (a:=a) (gs:=gs) fun g' hg=>h g' (List.mem_cons_of_mem _ hg)
  simp only [n_,rep]
  cases hg:g.go with
  | true=>simp only [cond_true,qZ,ih]
  | false =>
   rw [h g (List.mem_cons_self ..) hg]
   simp only [cond_false,applyF,ih]
   cases jr a g.i <;> rfl
theorem tj {hp:Hp}:∀ {gs:List G},(∀ g ∈ gs,g.go=false→g.us=[])→t8 hp (n_ gs)=rep hp (fun _=>true) gs
 | [],_=>rfl
 | g::gs,h=>by
  have ih:=tj (hp:=hp) (gs:=gs) fun g' hg=>h g' (List.mem_cons_of_mem _ hg)
  simp only [n_,rep]
  cases hg:g.go with
  | true=>simp only [cond_true,t8,ih]
  | false =>
   rw [h g (List.mem_cons_self ..) hg]
   simp only [cond_false,cond_true,applyF,ih]
theorem zv {a:List Nat} {us:jg} {rd:List Nat}:∀ {gs:List G},NA a us rd (n_ gs)=true→∀ g' ∈ gs,g'.go=true→jr a g'.i=true ∨
 ((∀ r ∈ kM us,r ∉ g'.rd)∧(∀ r ∈ kM g'.us,r ∉ rd)∧(∀ r ∈ us.map (·.1),r ∉ kM g'.us)∧(∀ r ∈ kM us,r ∉ g'.us.map (·.1)))
 | [],_,_,hg,_=>by cases hg
 | g::gs,h,g',hg,hgo=>by
  simp only [n_] at h
  cases hgg:g.go with
  | false =>
   rw [hgg,cond_false] at h
   rcases List.mem_cons.1 hg with q | q
   · subst q;rw [hgg] at hgo;cases hgo
   · exact zv h g' q hgo
  | true =>
   rw [hgg,cond_true] at h
   simp only [NA] at h
   cases hc:(jr a g.i||(lh (kM us) g.rd&&lh (kM g.us) rd&&lh (us.map (·.1)) (kM g.us)&&lh (kM us) (g.us.map (·.1)))) with
   | false=>rw [hc] at h;cases h
   | true =>
    rw [hc,cond_true] at h
    rcases List.mem_cons.1 hg with q | q
    · subst q
      simp only [Bool.or_eq_true,Bool.and_eq_true,uB] at hc
      rcases hc with q | ⟨⟨⟨q1,q2⟩,q3⟩,q4⟩
      · exact Or.inl q
      · exact Or.inr ⟨q1,q2,q3,q4⟩
    · exact zv h g' q hgo
end Go.V
end

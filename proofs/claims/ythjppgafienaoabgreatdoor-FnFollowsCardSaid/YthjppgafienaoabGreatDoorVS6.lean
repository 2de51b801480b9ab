/- V: soundness, part 6 of 10. -/
import Derived.Test.YthjppgafienaoabGreatDoorVS5
set_option linter.unusedVariables false
set_option linter.unusedSimpArgs false
section
namespace Go.V
open Go.RowKit
def ku (L:List Nat) (A B:Hp):Prop:=∀ r ∈ L,B r=A r∨∃ p e l,A r = .own p e l∧B r = .fro p e l
theorem CV:∀ {cs:List AV} {r:Nat},r ∈ bw cs↔(AV.ref r ∈ cs∨∃ i f,AV.ptr r i f ∈ cs)
 | [],r=>by simp [bw]
 | c::cs,r=>by
  have ih:=CV (cs:=cs) (r:=r)
  cases c <;> simp [bw,ih,List.mem_cons] <;> grind
theorem ku.sub {L M:List Nat} {A B:Hp} (h:ku L A B) (hs:∀ r ∈ M,r ∈ L):ku M A B:=fun r hr=>h r (hs r hr)
theorem qY {cs ds:List AV} (h:∀ c ∈ ds,c ∈ cs):∀ r ∈ bw ds,r ∈ bw cs:=fun r hr=>by
 rw [CV] at hr ⊢
 rcases hr with q | ⟨i,f,q⟩
 · exact Or.inl (h _ q)
 · exact Or.inr ⟨i,f,h _ q⟩
theorem qS:∀ {us:j6} {r:Nat} {x:oi},(r,x) ∈ us→(∀ p e l,x ≠ .fro p e l)→r ∈ jX us
 | [],_,_,h,_=>by cases h
 | (s,y)::us,r,x,h,hx=>by
  unfold jX
  rcases List.mem_cons.1 h with q | q
  · cases q
    split
    · rename_i q;cases q
    · rename_i q;cases q;exact absurd rfl (hx _ _ _)
    · rename_i q;cases q;exact List.mem_cons_self ..
  · have:=qS q hx
    split
    · rename_i q;cases q
    · rename_i q;cases q;exact this
    · rename_i q;cases q;exact List.mem_cons_of_mem _ this
section
variable {A B:Hp}
theorem pg {e:Ty} {c:AV} (h:ku (bw [c]) A B):getSl B e c=getSl A e c:=by
 cases c <;> try rfl
 rename_i r
 simp only [getSl]
 rcases h r (by simp [bw]) with q | ⟨p,e',l,q1,q2⟩
 · rw [q]
 · rw [q1,q2]
theorem kP:∀ {t:Ty} {cs:List AV},ku (bw cs) A B→prj B t cs=prj A t cs
 | .bool,_,_=>rfl
 | .int _,_,_=>rfl
 | .str,_,_=>rfl
 | .slice e,cs,h=>by
  simp only [prj,s9]
  split
  · exact pg h
  · rfl
 | .pair a b,cs,h=>by
  simp only [prj]
  rw [kP (t:=a) (h.sub (qY fun c hc=>List.mem_of_mem_take hc)),kP (t:=b) (h.sub (qY fun c hc=>List.mem_of_mem_drop hc))]
 | .unit,_,_=>rfl
 | .opq,_,_=>rfl
theorem Ao {c:AV} (h:ku (bw [c]) A B):taint1 B c=taint1 A c:=by
 cases c <;> try rfl
 rename_i r
 simp only [taint1]
 rcases h r (by simp [bw]) with q | ⟨p,e',l,q1,q2⟩
 · rw [q]
 · rw [q1,q2]
theorem mB:∀ {cs:List AV},ku (bw cs) A B→taint B cs=taint A cs
 | [],_=>rfl
 | c::cs,h=>by
  simp only [taint]
  rw [Ao (h.sub (qY fun d hd=>by simp at hd;subst hd;exact List.mem_cons_self ..)),mB (h.sub (qY fun d hd=>List.mem_cons_of_mem _ hd))]
theorem lT:∀ {cs:List AV},ku (bw cs) A B→freeze B cs=freeze A cs
 | [],_=>rfl
 | c::cs,h=>by
  have ih:=lT (cs:=cs) (h.sub (qY fun d hd=>List.mem_cons_of_mem _ hd))
  cases c <;> try exact ih
  rename_i r
  simp only [freeze,ih]
  rcases h r (by simp [bw]) with q | ⟨p,e',l,q1,q2⟩
  · rw [q]
  · rw [q1,q2]
theorem H1 {R:Type} {t:Ty} {a:AV} {k:AV→Option R} (h:ku (bw (cellsOf a)) A B):ld B t a k=ld A t a k:=by
 cases a <;> try rfl
 rename_i r i off
 simp only [ld]
 rcases h r (by simp [bw,cellsOf]) with q | ⟨p,e',l,q1,q2⟩
 · rw [q]
 · rw [q1,q2]
theorem yU {t:Ty} {a v:AV} {us:j6} (hs:kR A t a v some=some us) (h1:ku (bw (cellsOf a)) A B) (h2:ku (bw (cellsOf v)) A B) (hh:∀ r ∈ jX us,r ∈ bw (cellsOf a)→B r=A r):kR B t a v some=some us:=by
 unfold kR at hs ⊢
 obtain ⟨hc,hs⟩:=aJ hs
 rw [hc,cond_true]
 split at hs
 · rename_i r i off _
   split at hs
   · rename_i cs hr
     obtain ⟨hle,hs⟩:=aJ hs
     cases hs
     rw [hh r (qS (List.mem_singleton.2 rfl) (fun _ _ _ q=>by cases q)) (by simp [bw,cellsOf]),hr]
     simp only [hle,cond_true]
   · rename_i p e l hr
     obtain ⟨hn,hs⟩:=p0 hs
     split at hs
     · rename_i y hy
       split at hs
       · rename_i z hz
         cases hs
         rw [hh r (qS (List.mem_append_right _ (List.mem_singleton.2 rfl)) (fun _ _ _ q=>by cases q)) (by simp [bw,cellsOf]),hr]
         simp only [hn,cond_false,kP h2,hy,hz,lT h2,mB h2]
       · cases hs
     · cases hs
   · cases hs
 · cases hs
theorem vD {R:Type} {tb:lD} {t:Nat} {x i:AV} {k:AV→Option R} (h:ku (bw (cellsOf x)) A B):indexAddr tb B t x i k=indexAddr tb A t x i k:=by
 unfold indexAddr
 split
 · cases x <;> try rfl
   rename_i r
   simp only []
   rcases h r (by simp [bw,cellsOf]) with q | ⟨p,e',l,q1,q2⟩
   · rw [q]
   · rw [q1,q2]
 · rfl
theorem yL {R:Type} {u:Ty} {x:AV} {lo hi:Option AV} {k:AV→j6→Option R} (h:ku (bw (cellsOf x)) A B):kK u B x lo hi k=kK u A x lo hi k:=by
 cases x with
 | ref r =>
  cases u <;> try rfl
  simp only [kK]
  rcases h r (by simp [bw,cellsOf]) with q | ⟨p,e',l,q1,q2⟩
  · rw [q]
  · rw [q1,q2]
 | _=>cases u <;> rfl
theorem Cj {R:Type} {u:Ty} {x:AV} {k:AV→Option R} (h:ku (bw (cellsOf x)) A B):lenOf u B x k=lenOf u A x k:=by
 cases x with
 | ref r =>
  cases u <;> try rfl
  simp only [lenOf]
  rcases h r (by simp [bw,cellsOf]) with q | ⟨p,e',l,q1,q2⟩
  · rw [q]
  · rw [q1,q2]
 | _=>cases u <;> rfl
theorem xz {c:AV}:∀ r ∈ bw [c],r ∈ bw (cellsOf c):=by
 intro r hr
 cases c <;> simp_all [bw,cellsOf]
theorem wM {e:Ty} {id:Nat} {d s v:AV} {us:j6} (hs:jG e A id d s (fun v us=>some (v,us))=some (v,us)) (h1:ku (bw (cellsOf d)) A B) (h2:ku (bw (cellsOf s)) A B) (hh:∀ r ∈ jX us,r ∈ bw (cellsOf d)→B r=A r) :
 jG e B id d s (fun v us=>some (v,us))=some (v,us):=by
 unfold jG at hs ⊢
 have h2':=h2.sub xz
 rw [pg h2']
 split at hs
 · cases hs
 · split at hs
   · rw [mB h2'];exact hs
   · rename_i r
     split at hs
     · rename_i p t l hr
       split at hs
       · rename_i ld hld
         obtain ⟨hle,hs⟩:=aJ hs
         cases hs
         have hB:B r=A r:=hh r (qS (List.mem_cons_self ..) (fun _ _ _ q=>by cases q)) (by simp [bw,cellsOf])
         rw [hB,hr]
         simp only [hld,hle,cond_true,mB h2']
       · cases hs
     · cases hs
   · cases hs
theorem uF {e:Ty} {ρ:Operand→AV}:∀ {ps:List (Nat × Operand)} {l:List e.d} {b:Bool},(∀ p ∈ ps,ku (bw (cellsOf (ρ p.2))) A B)→elems B e ρ ps l b=elems A e ρ ps l b
 | [],_,_,_=>rfl
 | (i,x)::ps,l,b,h=>by
  have h0:ku (bw (cellsOf (ρ x))) A B:=h (i,x) (List.mem_cons_self ..)
  simp only [elems]
  rw [kP h0,mB h0]
  split
  · rw [uF fun p hp=>h p (List.mem_cons_of_mem _ hp)]
  · rfl
theorem BL {v:AV} (h:ku (bw [v]) A B):pS B v=pS A v:=by
 cases v <;> try rfl
 rename_i r i f
 simp only [pS]
 rcases h r (by simp [bw]) with q | ⟨p,e,l,q1,q2⟩
 · rw [q]
 · rw [q1,q2]
theorem lO:∀ {cs:List AV},(∀ r ∈ bw cs,B r=A r)→dx B cs=dx A cs
 | [],_=>rfl
 | c::cs,h=>by
  cases c <;> simp only [dx] <;> first
   | rfl
   | exact lO (cs:=cs) h
   | (rw [h _ (by simp [bw]),lO (cs:=cs) fun r q=>h r (by simp [bw,q])])
theorem th {hp:Hp} {p:Bool}:∀ {t:Ty} {x y:t.d} {cs:List AV},prj hp t cs=some x→dx hp cs=true→(nN p t y cs).map (·.1)=bw cs
 | .bool,x,y,cs,hx,hf=>by
  simp only [prj] at hx
  unfold ss at hx
  split at hx
  · rfl
  · cases hx
 | .int k,x,y,cs,hx,hf=>by
  simp only [prj] at hx
  unfold xF at hx
  split at hx
  · rfl
  · cases hx
 | .str,x,y,cs,hx,hf=>by
  simp only [prj] at hx
  unfold wE at hx
  split at hx
  · rfl
  · cases hx
 | .unit,x,y,cs,hx,hf=>by
  simp only [prj] at hx
  unfold tI at hx
  split at hx
  · rfl
  · cases hx
 | .opq,x,y,cs,hx,hf=>by cases hx
 | .pair s t,x,y,cs,hx,hf=>by
  simp only [prj] at hx
  obtain ⟨h1,h2⟩:=cG hx
  have app:∀ cs ds:List AV,dx hp (cs++ds)=true→dx hp cs=true∧dx hp ds=true:=by
   intro cs ds
   induction cs with
   | nil=>exact fun q=>⟨rfl,q⟩
   | cons c cs ih =>
    intro q
    cases c <;> simp only [List.cons_append,dx,Bool.and_eq_true] at q ⊢ <;> first | (cases q;done) | (exact ih q) | (exact ⟨⟨q.1,(ih q.2).1⟩,(ih q.2).2⟩)
  obtain ⟨f1,f2⟩:=app (cs.take s.size) (cs.drop s.size) (by rw [List.take_append_drop];exact hf)
  show (nN p s y.1 _++nN p t y.2 _).map (·.1)=_
  rw [List.map_append,th h1 f1,th h2 f2,← qB]
 | .slice e,x,y,cs,hx,hf=>by
  simp only [prj] at hx
  unfold s9 at hx
  split at hx
  · rename_i c
    cases c <;> first | rfl | (simp [getSl] at hx;done) | (simp [dx] at hf;done)
  · cases hx
theorem nA {hp:Hp} {al:Bool}:∀ {A:List Pm} {vs:List AV} {x:(tup (nM A)).d} {y:(tup (gC A)).d} {id:Nat},eF hp A vs=some x→∀ r ∈ lg hp A vs,r ∈ (j5 hp al A vs y id).map (·.1)
 | [],_,_,_,_,_,r,hr=>by cases hr
 | .val t::A,vs,x,y,id,hx,r,hr=>by
  cases vs with
  | nil=>simp only [eF] at hx;cases hx
  | cons v vs =>
   simp only [eF] at hx
   exact nA (A:=A) (cG (aJ hx).2).2 r hr
 | .lend t::A,vs,x,y,id,hx,r,hr=>by
  cases vs with
  | nil=>simp only [eF] at hx;cases hx
  | cons v vs =>
   simp only [eF] at hx
   have h1:=aJ hx
   have h2:=cG h1.2
   simp only [lg,List.headD_cons,List.tail_cons,List.mem_append] at hr
   simp only [j5,List.headD_cons,List.tail_cons,List.map_append,List.mem_append]
   rcases hr with q | q
   · left
     rw [th h2.1 (Bool.and_eq_true _ _▸h1.1:_∧_).2]
     exact q
   · exact Or.inr (nA (A:=A) h2.2 r q)
 | .give t::A,vs,x,y,id,hx,r,hr=>by
  cases vs with
  | nil=>simp only [eF] at hx;cases hx
  | cons v vs =>
   simp only [eF] at hx
   have h1:=aJ hx
   have h2:=cG h1.2
   simp only [lg,List.headD_cons,List.tail_cons,List.mem_append] at hr
   simp only [j5,List.headD_cons,List.tail_cons,List.map_append,List.mem_append]
   rcases hr with q | q
   · left;rw [pQ];exact q
   · exact Or.inr (nA (A:=A) h2.2 r q)
 | .fn f n::A,vs,x,y,id,hx,r,hr=>nA (A:=A) hx r hr
 | .io o t::A,vs,x,y,id,hx,r,hr=>by
  cases vs with
  | nil=>simp only [eF] at hx;cases hx
  | cons v vs =>
   simp only [eF] at hx
   split at hx
   · rename_i cs hcs
     obtain ⟨r0,hv,hrow⟩:=pI hcs
     subst hv
     obtain ⟨ho,hx⟩:=aJ hx
     simp only [lg,List.headD_cons,List.tail_cons,hcs,Option.getD_some,bw,List.cons_append,List.nil_append,List.mem_cons,List.mem_append] at hr
     cases o with
     | true =>
      simp only [j5,List.headD_cons,List.tail_cons,hcs,Option.getD_some,cond_true,zN,List.map_append,List.map_cons,List.mem_append,List.mem_cons,pQ]
      rcases hr with q | q | q
      · exact Or.inr (Or.inl q)
      · exact Or.inl q
      · exact Or.inr (Or.inr (Or.inr (nA (A:=A) (cG hx).2 r q)))
     | false =>
      simp only [j5,List.headD_cons,List.tail_cons,hcs,Option.getD_some,cond_false,zN,List.map_cons,List.mem_cons]
      rcases hr with q | q | q
      · exact Or.inl q
      · cases q
      · exact Or.inr (nA (A:=A) (cG hx).2 r q)
   · cases hx
theorem jx:∀ {Q:List Pm} {vs:List AV} {x:(tup (nM Q)).d},eF A Q vs=some x→ku (lg A Q vs++pY A Q vs) A B→(∀ r ∈ lg A Q vs,B r=A r) →
 eF B Q vs=some x∧lg B Q vs=lg A Q vs∧pY B Q vs=pY A Q vs∧∀ al y id,j5 B al Q vs y id=j5 A al Q vs y id
 | [],vs,x,hx,_,_=>⟨hx,rfl,rfl,fun _ _ _=>rfl⟩
 | .val t::Q,vs,x,hx,hf,hh=>by
  cases vs with
  | nil=>simp only [eF] at hx;cases hx
  | cons v vs =>
   simp only [eF] at hx ⊢
   simp only [lg,pY,List.headD_cons,List.tail_cons] at hf hh ⊢
   have h1:=aJ hx
   have h2:=cG h1.2
   obtain ⟨g1,g2,g3,g4⟩:=jx (Q:=Q) h2.2 (hf.sub fun r q=>by
    rcases List.mem_append.1 q with q | q
    · exact List.mem_append_left _ q
    · exact List.mem_append_right _ (List.mem_append_right _ q)) hh
   refine ⟨?_,g2,by rw [g3],fun al y id=>g4 al y id⟩
   rw [kP (hf.sub fun r q=>List.mem_append_right _ (List.mem_append_left _ q)),h2.1,g1,h1.1]
   rfl
 | .lend t::Q,vs,x,hx,hf,hh=>by
  cases vs with
  | nil=>simp only [eF] at hx;cases hx
  | cons v vs =>
   simp only [eF] at hx ⊢
   simp only [lg,pY,List.headD_cons,List.tail_cons] at hf hh ⊢
   have h1:=aJ hx
   have h2:=cG h1.2
   obtain ⟨g1,g2,g3,g4⟩:=jx (Q:=Q) h2.2 (hf.sub fun r q=>by
    rcases List.mem_append.1 q with q | q
    · exact List.mem_append_left _ (List.mem_append_right _ q)
    · exact List.mem_append_right _ q) (fun r q=>hh r (List.mem_append_right _ q))
   refine ⟨?_,by rw [g2],g3,fun al y id=>by simp only [j5,List.headD_cons,List.tail_cons,g4]⟩
   rw [lO fun r q=>hh r (List.mem_append_left _ q),kP (hf.sub fun r q=>List.mem_append_left _ (List.mem_append_left _ q)),h2.1,g1,h1.1]
   rfl
 | .give t::Q,vs,x,hx,hf,hh=>by
  cases vs with
  | nil=>simp only [eF] at hx;cases hx
  | cons v vs =>
   simp only [eF] at hx ⊢
   simp only [lg,pY,List.headD_cons,List.tail_cons] at hf hh ⊢
   have h1:=aJ hx
   have h2:=cG h1.2
   obtain ⟨g1,g2,g3,g4⟩:=jx (Q:=Q) h2.2 (hf.sub fun r q=>by
    rcases List.mem_append.1 q with q | q
    · exact List.mem_append_left _ (List.mem_append_right _ q)
    · exact List.mem_append_right _ q) (fun r q=>hh r (List.mem_append_right _ q))
   refine ⟨?_,by rw [g2],g3,fun al y id=>congrArg (qF (bw (cellsOf v))++·) (g4 al y id)⟩
   rw [lO fun r q=>hh r (List.mem_append_left _ q),kP (hf.sub fun r q=>List.mem_append_left _ (List.mem_append_left _ q)),h2.1,g1,h1.1]
   rfl
 | .fn f n::Q,vs,x,hx,hf,hh=>jx (Q:=Q) hx hf hh
 | .io o t::Q,vs,x,hx,hf,hh=>by
  cases vs with
  | nil=>simp only [eF] at hx;cases hx
  | cons v vs =>
   have hbx:pS B v=pS A v:=BL (hf.sub fun r q=>List.mem_append_left _ (by simp only [lg,List.headD_cons];exact List.mem_append_left _ q))
   simp only [eF,hbx] at hx ⊢
   cases hcs:pS A v with
   | none=>rw [hcs] at hx;cases hx
   | some cs =>
    rw [hcs] at hx
    simp only [] at hx ⊢
    simp only [lg,pY,List.headD_cons,List.tail_cons,hbx,hcs,Option.getD_some] at hf hh ⊢
    have h1:=aJ hx
    have h2:=cG h1.2
    obtain ⟨g1,g2,g3,g4⟩:=jx (Q:=Q) h2.2 (hf.sub fun r q=>by
     rcases List.mem_append.1 q with q | q
     · exact List.mem_append_left _ (List.mem_append_right _ (List.mem_append_right _ q))
     · exact List.mem_append_right _ (List.mem_append_right _ q)) (fun r q=>hh r (List.mem_append_right _ (List.mem_append_right _ q)))
    have hcf:ku (bw cs) A B:=hf.sub fun r q=>by
     cases o with
     | true=>exact List.mem_append_left _ (List.mem_append_right _ (List.mem_append_left _ q))
     | false=>exact List.mem_append_right _ (List.mem_append_left _ q)
    have hfo:(!o||dx B cs)=(!o||dx A cs):=by
     cases o with
     | true=>rw [lO fun r q=>hh r (List.mem_append_right _ (List.mem_append_left _ q))]
     | false=>rfl
    refine ⟨?_,by rw [g2],by rw [g3],fun al y id=>by simp only [j5,List.headD_cons,List.tail_cons,hbx,g4]⟩
    rw [hfo,kP hcf,h2.1,g1,h1.1]
    rfl
theorem Bp {c:Cn} {id nx:Nat} {as:List AV} {v:AV} {us:j6} (hs:qC c A id as (fun v us nx=>some (v,us,nx))=some (v,us,nx))
 (h:∀ vs,gF c.A as=some vs→ku (lg A c.A vs++pY A c.A vs) A B) (hh:∀ vs,gF c.A as=some vs→∀ r ∈ jX us,r ∈ lg A c.A vs→B r=A r) :
 qC c B id as (fun v us nx=>some (v,us,nx))=some (v,us,nx):=by
 have hs0:=hs
 unfold qC at hs ⊢
 cases hf:gF c.A as with
 | none=>rw [hf] at hs;cases hs
 | some vs =>
 rw [hf] at hs
 simp only [] at hs ⊢
 cases hx:eF A c.A vs with
 | none=>rw [hx] at hs;cases hs
 | some x =>
 rw [hx] at hs
 simp only [] at hs
 have h1:=aJ hs
 cases hy:c.fn x with
 | none=>have h2:=h1.2;rw [hy] at h2;cases h2
 | some y =>
 have h2:=h1.2
 rw [hy] at h2
 simp only [Option.some.injEq,Prod.mk.injEq] at h2
 have hgv:∀ r ∈ lg A c.A vs,B r=A r:=fun r q=>by
  refine hh vs hf r ?_ q
  obtain ⟨z,hz,rfl⟩:=List.mem_map.1 (nA (al:=c.al) (y:=A4 (gC c.A) y) (id:=id) hx r q)
  rw [← h2.2.1]
  exact qS (x:=z.2) (List.mem_append_right _ (List.mem_append_left _ hz)) (jQ z.1 z.2 hz)
 obtain ⟨g1,g2,g3,g4⟩:=jx hx (h vs hf) hgv
 have hrefs:∀ l:List Nat,bw (l.map AV.ref)=l:=by
  intro l
  induction l with
  | nil=>rfl
  | cons r l ih=>simp [bw,ih]
 rw [g1,g2,g3]
 simp only [hy]
 rw [g4,lT (A:=A) (B:=B) (by rw [hrefs];exact (h vs hf).sub fun r q=>List.mem_append_right _ q)]
 rw [hy] at hs
 exact hs
theorem Dj {c:Cn} {id nx:Nat} {as:List AV} {v:AV} {us:j6} (hs:xf c A id as (fun v us nx=>some (v,us,nx))=some (v,us,nx))
 (h:∀ vs,gF c.A as=some vs→ku (lg A c.A vs++pY A c.A vs) A B) :
 xf c B id as (fun v us nx=>some (v,us,nx))=some (v,us,nx):=by
 have hs0:=hs
 unfold xf at hs ⊢
 cases hf:gF c.A as with
 | none=>rw [hf] at hs;cases hs
 | some vs =>
 rw [hf] at hs
 simp only [] at hs ⊢
 cases hx:eF A c.A vs with
 | none=>rw [hx] at hs;cases hs
 | some x =>
 rw [hx] at hs
 simp only [] at hs
 have h1:=aJ hs
 have hgv:∀ r ∈ lg A c.A vs,B r=A r:=fun r q=>by
  rw [List.isEmpty_iff.1 h1.1] at q
  cases q
 obtain ⟨g1,g2,g3,g4⟩:=jx hx (h vs hf) hgv
 have hrefs:∀ l:List Nat,bw (l.map AV.ref)=l:=by
  intro l
  induction l with
  | nil=>rfl
  | cons r l ih=>simp [bw,ih]
 rw [g1,g2,g3,lT (A:=A) (B:=B) (by rw [hrefs];exact (h vs hf).sub fun r q=>List.mem_append_right _ q)]
 exact hs
theorem BN {c:Cn} {id nx:Nat} {as:List AV} {v:AV} {us:j6} (hs:q6 c A id as (fun v us nx=>some (v,us,nx))=some (v,us,nx))
 (h:∀ vs,gF c.A as=some vs→ku (lg A c.A vs++pY A c.A vs) A B) (hh:∀ vs,gF c.A as=some vs→∀ r ∈ jX us,r ∈ lg A c.A vs→B r=A r) :
 q6 c B id as (fun v us nx=>some (v,us,nx))=some (v,us,nx):=by
 unfold q6 at hs ⊢
 cases hb:rH c.R with
 | false=>rw [hb] at hs;exact Bp hs h hh
 | true=>rw [hb] at hs;exact Dj hs h
theorem uP:∀ {cs ds:List AV},bw (cs++ds)=bw cs++bw ds
 | [],_=>rfl
 | c::cs,ds=>by cases c <;> simp [bw,uP (cs:=cs)]
theorem sW {α:Type} {f:α→List AV}:∀ {l:List α},bw (l.flatMap f)=l.flatMap fun x=>bw (f x)
 | []=>rfl
 | x::l=>by simp [uP,sW (l:=l)]
theorem mL {tb:lD} {tm:List AV} {t:Nat} {x:Operand}:bw (cellsOf (val tb tm t x))=bw (cellsOf (val tb tm 0 x)):=by
 cases x with
 | tmp i=>rfl
 | func f=>rfl
 | global g=>rfl
 | const v =>
  simp only [val]
  unfold LX
  cases v <;> try rfl
  rename_i a n c
  cases a <;> try rfl
  cases n <;> try rfl
  cases c <;> try rfl
  simp only []
  split <;> (split <;> rfl)
theorem E5 {tb:lD} {ct:List (Nat × Cn)} {o:Oper} {tm:List AV} {id nx:Nat} {v:AV} {us:j6} (hs:eD tb ct o tm A id (fun v us nx=>some (v,us,nx))=some (v,us,nx))
 (h:ku (reads tb ct o tm A) A B) (hh:∀ r ∈ jX us,r ∈ reads tb ct o tm A→B r=A r):eD tb ct o tm B id (fun v us nx=>some (v,us,nx))=some (v,us,nx):=by
 cases hop:o.op with
 | load t x =>
  simp only [eD,hop,reads] at hs h ⊢
  split at hs
  · rename_i u hu
    try simp only [hu]
    rw [H1 h];exact hs
  · cases hs
 | store t x y =>
  simp only [eD,hop,reads] at hs h hh ⊢
  split at hs
  · rename_i u hu
    try simp only [hu]
    rw [kL] at hs
    cases hl:kR A u (val tb tm 0 x) (val tb tm t y) some with
    | none=>rw [hl] at hs;cases hs
    | some us' =>
     rw [hl] at hs
     cases hs
     rw [kL]
     have h1:ku (bw (cellsOf (val tb tm 0 x))) A B:=h.sub fun r hr=>List.mem_append_left _ hr
     have h2:ku (bw (cellsOf (val tb tm t y))) A B:=h.sub fun r hr=>List.mem_append_right _ (by rw [← mL (t:=t)];exact hr)
     rw [yU hl h1 h2 fun r hr hm=>hh r hr (List.mem_append_left _ hm)]
     rfl
  · cases hs
 | indexAddr t x i =>
  simp only [eD,hop,reads] at hs h ⊢
  rw [vD (by rw [mL];exact h)]
  exact hs
 | slice t x lo hi mx =>
  cases mx with
  | some _=>simp only [eD,hop] at hs;cases hs
  | none =>
   simp only [eD,hop,reads] at hs h ⊢
   rw [yL (by rw [mL];exact h)]
   exact hs
 | convert s d x =>
  simp only [eD,hop,reads] at hs h ⊢
  split at hs
  · rename_i h1 h2 h3
    try simp only [h1,h2,h3]
    exact hs
  · rename_i h1 h2 h3
    try simp only [h1,h2,h3]
    exact hs
  · rename_i h1 h2 h3
    rw [pg (A:=A) (B:=B) (ku.sub (by rw [mL];exact h) xz)]
    exact hs
  · cases hs
 | buildSlice t n ps =>
  simp only [eD,hop,reads] at hs h ⊢
  split at hs
  · rename_i e he
    try simp only [he]
    have h1:∀ p ∈ ps.toList,ku (bw (cellsOf (val tb tm 0 p.2))) A B:=fun p hp=>h.sub fun r hr=>List.mem_flatMap.2 ⟨p,hp,hr⟩
    rw [uF h1,lT (A:=A) (B:=B) (by rw [sW];exact h)]
    exact hs
  · cases hs
 | call c =>
  have h1:∀ x ∈ c.args.toList,ku (bw (cellsOf (val tb tm 0 x))) A B:=fun x hx=>h.sub fun r hr=>by
   simp only [reads,hop]
   exact List.mem_append_left _ (List.mem_flatMap.2 ⟨x,hx,hr⟩)
  simp only [eD,hop] at hs ⊢
  split at hs
  · rename_i hc
    try simp only [hc]
    split at hs
    · rename_i x t ha ht
      try simp only [ha,ht]
      rw [Cj (by rw [mL];exact h1 x (by rw [ha];simp))]
      exact hs
    · cases hs
  · rename_i hc
    try simp only [hc]
    split at hs
    · rename_i d s t t' ha ht
      try simp only [ha,ht]
      split at hs
      · rename_i e he
        try simp only [he]
        cases hb:Nat.beq t t' with
        | false=>rw [hb] at hs;cases hs
        | true =>
         rw [hb,cond_true] at hs
         rw [cond_true,iA]
         rw [iA] at hs
         cases hl:jG e A id (val tb tm t d) (val tb tm t s) (fun v us=>some (v,us)) with
         | none=>rw [hl] at hs;cases hs
         | some z =>
          obtain ⟨z1,z2⟩:=z
          rw [hl] at hs
          cases hs
          rw [wM hl (by rw [mL];exact h1 d (by rw [ha];simp)) (by rw [mL];exact h1 s (by rw [ha];simp)) ?_]
          · rfl
          · intro r hr hm
            refine hh r hr ?_
            simp only [reads,hop]
            exact List.mem_append_left _ (List.mem_flatMap.2 ⟨d,by rw [ha];simp,by rw [← mL (t:=t)];exact hm⟩)
      · cases hs
    · cases hs
  · rename_i hc
    try simp only [hc]
    exact hs
  · rename_i hc
    try simp only [hc]
    exact hs
  · rename_i x hc
    try simp only [hc]
    split at hs
    · rename_i q hq
      try simp only [hq]
      have hsub:∀ vs,gF q.1.A q.2=some vs→∀ r ∈ lg A q.1.A vs++pY A q.1.A vs,r ∈ reads tb ct o tm A:=fun vs hvs r hr=>by
       simp only [reads,hop,hc,hq,hvs]
       exact List.mem_append_right _ hr
      exact BN (A:=A) (B:=B) hs (fun vs hvs=>h.sub (hsub vs hvs)) (fun vs hvs r hr hm=>hh r hr (hsub vs hvs r (List.mem_append_left _ hm)))
    · cases hs
  · cases hs
 | makeFunc fn first caps =>
  cases fn with
  | func f=>simp only [eD,hop] at hs ⊢;exact hs
  | _=>unfold eD at hs;rw [hop] at hs;cases hs
 | _=>unfold eD at hs ⊢;rw [hop] at hs ⊢;exact hs
end
end Go.V
end
section
namespace Go.V
open Go.RowKit
section
variable {tb:lD} {ct:List (Nat × Cn)} {tm tm':List AV} {hp:Hp} {id:Nat} {R:Type}
theorem F8 {f g:Operand→AV} {o:Option Operand} (h:∀ x ∈ o.toList,f x=g x):o.map f=o.map g:=by
 cases o with
 | none=>rfl
 | some x=>simp [h x (by simp)]
theorem og {offs:List (Nat × Nat)} {f g:Operand→AV}:∀ {ps:List (Nat × Operand)} {z:List AV},(∀ p ∈ ps,f p.2=g p.2)→k6 z offs f ps=k6 z offs g ps
 | [],_,_=>rfl
 | (i,x)::ps,z,h=>by
  have h0:f x=g x:=h (i,x) (List.mem_cons_self ..)
  simp only [k6,h0]
  split
  · rw [og fun p hp=>h p (List.mem_cons_of_mem _ hp)]
  · rfl
theorem uJ {e:Ty} {f g:Operand→AV}:∀ {ps:List (Nat × Operand)} {l:List e.d} {b:Bool},(∀ p ∈ ps,f p.2=g p.2)→elems hp e f ps l b=elems hp e g ps l b
 | [],_,_,_=>rfl
 | (i,x)::ps,l,b,h=>by
  have h0:f x=g x:=h (i,x) (List.mem_cons_self ..)
  simp only [elems,h0]
  split
  · rw [uJ fun p hp=>h p (List.mem_cons_of_mem _ hp)]
  · rfl
theorem lJ {α β:Type} {f g:α→List β}:∀ {l:List α},(∀ x ∈ l,f x=g x)→l.flatMap f=l.flatMap g
 | [],_=>rfl
 | x::l,h=>by simp [h x (List.mem_cons_self ..),lJ fun y hy=>h y (List.mem_cons_of_mem _ hy)]
theorem Iq {o:Oper} {k:AV→j6→Nat→Option R} (h:∀ x ∈ o.op.operands.toList,∀ T,val tb tm' T x=val tb tm T x) :
 eD tb ct o tm' hp id k=eD tb ct o tm hp id k∧reads tb ct o tm' hp=reads tb ct o tm hp:=by
 cases hop:o.op with
 | buildSlice t n ps =>
  have h0:∀ p ∈ ps.toList,val tb tm' 0 p.2=val tb tm 0 p.2:=fun p hp=>h p.2 (by rw [hop];simp only [Op.operands,List.toList_toArray];exact List.mem_map_of_mem hp) 0
  simp only [eD,reads,hop]
  have e1:ps.toList.flatMap (fun p=>cellsOf (val tb tm' 0 p.2))=ps.toList.flatMap (fun p=>cellsOf (val tb tm 0 p.2)):=lJ fun p hp=>by rw [h0 p hp]
  rw [e1]
  refine ⟨?_,lJ fun p hp=>by rw [h0 p hp]⟩
  split
  · rw [uJ h0]
  · rfl
 | build t ps =>
  have h0:∀ p ∈ ps.toList,val tb tm' 0 p.2=val tb tm 0 p.2:=fun p hp=>h p.2 (by rw [hop];simp only [Op.operands,List.toList_toArray];exact List.mem_map_of_mem hp) 0
  simp only [eD,reads,hop]
  exact ⟨by
   split
   · rw [og h0]
   · rfl,trivial⟩
 | makeFunc fn first caps =>
  have h0:caps.toList.map (val tb tm' 0)=caps.toList.map (val tb tm 0):=List.map_congr_left fun x hx=>h x (by rw [hop];simp only [Op.operands,Array.toList_append];exact List.mem_append_right _ hx) 0
  cases fn <;> simp only [eD,reads,hop]
  · exact ⟨by rw [h0],trivial⟩
  all_goals exact ⟨trivial,trivial⟩
 | call c =>
  have hin:∀ x ∈ c.args.toList,∀ T,val tb tm' T x=val tb tm T x:=fun x hx=>h x (by rw [hop];simp only [Op.operands,Call.operands,Array.toList_append];exact List.mem_append_right _ hx)
  have h0:c.args.toList.map (val tb tm' 0)=c.args.toList.map (val tb tm 0):=List.map_congr_left fun x hx=>hin x hx 0
  have hcal:∀ x,c.callee = .value x→oY tb ct tm' x (c.args.toList.map (val tb tm' 0))=oY tb ct tm x (c.args.toList.map (val tb tm 0)):=fun x hx=>by
   rw [h0]
   unfold oY
   rw [h x (by rw [hop];simp only [Op.operands,Call.operands,Array.toList_append,hx];exact List.mem_append_left _ (by simp)) 0]
  simp only [eD,reads,hop]
  refine ⟨?_,?_⟩
  · split
    · split
      · rename_i x t ha ht
        rw [hin x (by rw [ha];simp)]
      · rfl
    · split
      · rename_i d s t t' ha ht
        split
        · rw [hin d (by rw [ha];simp),hin s (by rw [ha];simp)]
        · rfl
      · rfl
    · rw [h0]
    · rw [h0]
    · rename_i x hc
      rw [hcal x hc]
    · rfl
  · rw [lJ (f:=fun x=>bw (cellsOf (val tb tm' 0 x))) (g:=fun x=>bw (cellsOf (val tb tm 0 x))) fun x hx=>by rw [hin x hx]]
    congr 1
    split
    · rename_i x hc
      rw [hcal x hc]
    · rfl
 | slice t x lo hi mx =>
  have hx:=h x (by rw [hop];simp [Op.operands])
  have hl:lo.map (val tb tm' 0)=lo.map (val tb tm 0):=F8 fun y hy=>h y (by rw [hop];simp [Op.operands] at hy ⊢;simp [hy]) 0
  have hh:hi.map (val tb tm' 0)=hi.map (val tb tm 0):=F8 fun y hy=>h y (by rw [hop];simp [Op.operands] at hy ⊢;simp [hy]) 0
  cases mx <;> simp only [eD,reads,hop,hx,hl,hh] <;> exact ⟨trivial,trivial⟩
 | pick c x y =>
  have h1:=h c (by rw [hop];simp [Op.operands])
  have h2:=h x (by rw [hop];simp [Op.operands])
  have h3:=h y (by rw [hop];simp [Op.operands])
  simp only [eD,reads,hop,h1,h2,h3]
  exact ⟨trivial,trivial⟩
 | store t x y =>
  have h1:=h x (by rw [hop];simp [Op.operands])
  have h2:=h y (by rw [hop];simp [Op.operands])
  simp only [eD,reads,hop,h1,h2]
  exact ⟨trivial,trivial⟩
 | binOp op t x y u =>
  have h1:=h x (by rw [hop];simp [Op.operands])
  have h2:=h y (by rw [hop];simp [Op.operands])
  simp only [eD,reads,hop,h1,h2]
  exact ⟨trivial,trivial⟩
 | makeSlice t x y =>
  have h1:=h x (by rw [hop];simp [Op.operands])
  have h2:=h y (by rw [hop];simp [Op.operands])
  simp only [eD,reads,hop,h1,h2]
  exact ⟨trivial,trivial⟩
 | indexAddr t x y =>
  have h1:=h x (by rw [hop];simp [Op.operands])
  have h2:=h y (by rw [hop];simp [Op.operands])
  simp only [eD,reads,hop,h1,h2]
  exact ⟨trivial,trivial⟩
 | index t x y =>
  have h1:=h x (by rw [hop];simp [Op.operands])
  have h2:=h y (by rw [hop];simp [Op.operands])
  simp only [eD,reads,hop,h1,h2]
  exact ⟨trivial,trivial⟩
 | alloc t=>simp only [eD,reads,hop];exact ⟨trivial,trivial⟩
 | move x=>have h1:=h x (by rw [hop];simp [Op.operands]);simp only [eD,reads,hop,h1];exact ⟨trivial,trivial⟩
 | assign x=>have h1:=h x (by rw [hop];simp [Op.operands]);simp only [eD,reads,hop,h1];exact ⟨trivial,trivial⟩
 | box t x=>have h1:=h x (by rw [hop];simp [Op.operands]);simp only [eD,reads,hop,h1];exact ⟨trivial,trivial⟩
 | load t x=>have h1:=h x (by rw [hop];simp [Op.operands]);simp only [eD,reads,hop,h1];exact ⟨trivial,trivial⟩
 | nilCheck x=>have h1:=h x (by rw [hop];simp [Op.operands]);simp only [eD,reads,hop,h1];exact ⟨trivial,trivial⟩
 | unOp op t x=>have h1:=h x (by rw [hop];simp [Op.operands]);simp only [eD,reads,hop,h1];exact ⟨trivial,trivial⟩
 | convert s d x=>have h1:=h x (by rw [hop];simp [Op.operands]);simp only [eD,reads,hop,h1];exact ⟨trivial,trivial⟩
 | fieldAddr s x f=>have h1:=h x (by rw [hop];simp [Op.operands]);simp only [eD,reads,hop,h1];exact ⟨trivial,trivial⟩
 | field s x f=>have h1:=h x (by rw [hop];simp [Op.operands]);simp only [eD,reads,hop,h1];exact ⟨trivial,trivial⟩
 | extract x i=>have h1:=h x (by rw [hop];simp [Op.operands]);simp only [eD,reads,hop,h1];exact ⟨trivial,trivial⟩
 | _=>unfold eD reads;rw [hop];exact ⟨rfl,rfl⟩
end
def AO:j6→Nat→oi→oi
 | [],_,x=>x
 | u::us,r,x=>AO us r (bif Nat.beq r u.1 then turn u.2 x else x)
theorem jz:∀ {us:j6} {hp:Hp} {r:Nat},applyF hp us r=AO us r (hp r)
 | [],_,_=>rfl
 | u::us,hp,r=>by
  simp only [applyF,AO]
  exact jz (us:=us)
theorem ta (x:oi):A9 (A9 x)=A9 x:=by cases x <;> rfl
theorem D8 (x:oi):(∀ y,turn x y=A9 y)∨(∃ z,∀ y,turn x y=z):=by
 cases x
 · exact Or.inr ⟨_,fun _=>rfl⟩
 · exact Or.inr ⟨_,fun _=>rfl⟩
 · exact Or.inr ⟨_,fun _=>rfl⟩
 · exact Or.inl fun _=>rfl
theorem Ar:∀ (us:j6) (r:Nat) {x y:oi},(y=x∨y=A9 x)→(AO us r y=AO us r x∨AO us r y=A9 (AO us r x))
 | [],_,_,_,h=>h
 | u::us,r,x,y,h=>by
  simp only [AO]
  cases Nat.beq r u.1 with
  | false=>exact Ar us r h
  | true =>
   simp only [cond_true]
   refine Ar us r ?_
   rcases D8 u.2 with q | ⟨z,q⟩
   · rw [q,q]
     rcases h with rfl | rfl
     · exact Or.inl rfl
     · exact Or.inl (ta _)
   · rw [q,q];exact Or.inl rfl
theorem qd:∀ {us:j6} {r:Nat},r ∉ us.map (·.1)→∀ x,AO us r x=x
 | [],_,_,_=>rfl
 | u::us,r,h,x=>by
  simp only [List.map_cons,List.mem_cons,not_or] at h
  simp only [AO]
  have:Nat.beq r u.1=false:=by
   cases hb:Nat.beq r u.1 with
   | false=>rfl
   | true=>exact absurd (Nat.eq_of_beq_eq_true hb) h.1
  rw [this]
  exact qd h.2 x
theorem yS {u:Nat × oi} {us:j6} {r:Nat} (h:r ∉ jX (u::us)):r ∉ jX us∧(r=u.1→∃ p e l,u.2 = .fro p e l):=by
 obtain ⟨s,x⟩:=u
 cases x <;> simp_all [jX]
theorem py:∀ {us:j6} {r:Nat},r ∉ jX us→(∀ x,AO us r x=x)∨(∀ x,AO us r x=A9 x)
 | [],_,_=>Or.inl fun _=>rfl
 | u::us,r,h=>by
  obtain ⟨h1,h2⟩:=yS h
  simp only [AO]
  cases hb:Nat.beq r u.1 with
  | false=>exact py h1
  | true =>
   simp only [cond_true]
   obtain ⟨p,e,l,q⟩:=h2 (Nat.eq_of_beq_eq_true hb)
   rw [q]
   right
   intro x
   rcases py h1 with g | g
   · rw [g];rfl
   · rw [g];exact ta x
theorem I8 {us vs:j6} {r:Nat} (h1:∀ r ∈ jX us,r ∉ vs.map (·.1)) (h2:∀ r ∈ jX vs,r ∉ us.map (·.1)) (x:oi):AO vs r (AO us r x)=AO us r (AO vs r x):=by
 by_cases a:r ∈ jX us
 · rw [qd (h1 r a),qd (h1 r a)]
 · by_cases b:r ∈ jX vs
   · rw [qd (h2 r b),qd (h2 r b)]
   · rcases py a with p | p <;> rcases py b with q | q <;> simp [p,q]
theorem sU:∀ {us:j6} {hp:Hp},pT us→applyF hp us=apply hp us
 | [],_,_=>rfl
 | u::us,hp,h=>by
  simp only [applyF,apply]
  have e:(fun n=>bif Nat.beq n u.1 then turn u.2 (hp n) else hp n)=jb hp u.1 u.2:=by
   funext n
   simp only [jb]
   have h0:=h u.1 u.2 (List.mem_cons_self ..)
   obtain ⟨s,x⟩:=u
   cases x <;> first | rfl | exact absurd rfl (h0 _ _ _)
  rw [e]
  exact sU fun r x hx=>h r x (List.mem_cons_of_mem _ hx)
theorem xi:∀ {us:j6} {hp:Hp},zj hp us→applyF hp us=apply hp us
 | [],_,_=>rfl
 | (r,x)::us,hp,h=>by
  obtain ⟨p,e,l,rfl,hr⟩:=h r x (List.mem_cons_self ..)
  simp only [applyF,apply]
  have e':(fun n=>bif Nat.beq n r then turn (.fro p e l) (hp n) else hp n)=jb hp r (.fro p e l):=by
   funext n
   simp only [jb]
   cases hb:Nat.beq n r with
   | false=>rfl
   | true =>
    simp only [cond_true]
    rw [Nat.eq_of_beq_eq_true hb]
    rcases hr with q | q <;> rw [q] <;> rfl
  rw [e']
  exact xi h.tail
theorem sX:∀ (us0:j6) {hp:Hp} {us1:j6},apply hp (us0++us1)=apply (apply hp us0) us1
 | [],_,_=>rfl
 | u::us,hp,us1=>sX us
theorem rL:∀ (us0:j6) {hp:Hp} {us1:j6},applyF hp (us0++us1)=applyF (applyF hp us0) us1
 | [],_,_=>rfl
 | u::us,hp,us1=>rL us
theorem gK.applyF {hp:Hp} {id nx:Nat} {us:j6} (h:gK hp id us nx):applyF hp us=apply hp us:=by
 obtain ⟨_,us0,us1,rfl,h0,h1⟩:=h
 rw [rL,sX,xi h0,sU h1]
end Go.V
end
section
namespace Go.V
open Go.RowKit
structure G where
 i:Nat
 go:Bool
 us:j6
 rd:List Nat
 A:List Nat
 dst:Option Nat
 v:AV
 nm:List Nat
 id:Nat
 nx:Nat
def rep (hp:Hp) (D:Nat→Bool):List G→Hp
 | []=>hp
 | g::gs=>bif D g.i then applyF (rep hp D gs) g.us else rep hp D gs
def iK (tm:List AV) (D:Nat→Bool):List G→List AV
 | []=>tm
 | g::gs=>bif D g.i then mU (iK tm D gs) g.dst g.v else iK tm D gs
structure Kx (g' g:G):Prop where
 a:∀ r ∈ jX g.us,r ∉ g'.rd
 b:∀ r ∈ jX g'.us,r ∉ g.rd
 c:∀ r ∈ g.us.map (·.1),r ∉ jX g'.us
 d:∀ r ∈ jX g.us,r ∉ g'.us.map (·.1)
structure GD (g' g:G):Prop where
 e:∀ t ∈ g.dst.toList,t ∉ g'.dst.toList++g'.nm
 f:∀ t ∈ g'.dst.toList,t ∉ g.nm
section
variable {hp:Hp} {tm:List AV} {D D':Nat→Bool}
theorem qm {r:Nat}:∀ {gs:List G},(∀ g ∈ gs,r ∈ g.us.map (·.1)→D g.i=D' g.i)→rep hp D gs r=rep hp D' gs r
 | [],_=>rfl
 | g::gs,h=>by
  have ih:=qm (gs:=gs) fun g' hg=>h g' (List.mem_cons_of_mem _ hg)
  simp only [rep]
  by_cases hr:r ∈ g.us.map (·.1)
  · rw [h g (List.mem_cons_self ..) hr]
    cases D' g.i with
    | true=>simp only [cond_true,jz,ih]
    | false=>exact ih
  · have e:∀ (b:Bool) (x:Hp),(bif b then applyF x g.us else x) r=x r:=fun b x=>by
     cases b with
     | true=>simp only [cond_true,jz,qd hr]
     | false=>rfl
    rw [e,e,ih]
theorem EH {r:Nat}:∀ {gs:List G},(∀ g ∈ gs,D g.i=D' g.i∨(D g.i=true∧r ∉ jX g.us))→rep hp D gs r=rep hp D' gs r∨rep hp D gs r=A9 (rep hp D' gs r)
 | [],_=>Or.inl rfl
 | g::gs,h=>by
  have ih:=EH (gs:=gs) fun g' hg=>h g' (List.mem_cons_of_mem _ hg)
  simp only [rep]
  cases h1:D g.i with
  | true =>
   cases h2:D' g.i with
   | true =>
    simp only [cond_true,jz]
    exact Ar _ _ ih
   | false =>
    rcases h g (List.mem_cons_self ..) with q | ⟨_,q⟩
    · rw [h1,h2] at q;cases q
    · simp only [cond_true,cond_false,jz]
      rcases py q with e | e
      · rw [e];exact ih
      · rw [e]
        rcases ih with g1 | g1
        · rw [g1];exact Or.inr rfl
        · rw [g1,ta];exact Or.inr rfl
  | false =>
   cases h2:D' g.i with
   | true =>
    rcases h g (List.mem_cons_self ..) with q | ⟨q,_⟩
    · rw [h1,h2] at q;cases q
    · rw [h1] at q;cases q
   | false=>exact ih
theorem Hr {l:List AV} {d:Option Nat} {v:AV}:(mU l d v).length=l.length:=by cases d <;> simp [mU]
theorem su:∀ {gs:List G},(iK tm D gs).length=tm.length
 | []=>rfl
 | g::gs=>by
  simp only [iK]
  cases D g.i with
  | true=>rw [cond_true,Hr];exact su
  | false=>exact su
theorem Gb {l l':List AV} {d:Option Nat} {v:AV} {t:Nat} (hl:l.length=l'.length) (h:l.getD t .junk=l'.getD t .junk):(mU l d v).getD t .junk=(mU l' d v).getD t .junk:=by
 cases d with
 | none=>exact h
 | some d =>
  simp only [mU,List.getD,List.getElem?_set,hl] at h ⊢
  split
  · split <;> rfl
  · exact h
theorem Cz {l:List AV} {d:Option Nat} {v:AV} {t:Nat} (h:d≠some t):(mU l d v).getD t .junk=l.getD t .junk:=by
 cases d with
 | none=>rfl
 | some d =>
  have:d≠t:=fun q=>h (by rw [q])
  simp [mU,List.getD,List.getElem?_set_ne this]
theorem xW {t:Nat}:∀ {gs:List G},(∀ g ∈ gs,g.dst=some t→D g.i=D' g.i)→(iK tm D gs).getD t .junk=(iK tm D' gs).getD t .junk
 | [],_=>rfl
 | g::gs,h=>by
  have ih:=xW (gs:=gs) fun g' hg=>h g' (List.mem_cons_of_mem _ hg)
  simp only [iK]
  by_cases hr:g.dst=some t
  · rw [h g (List.mem_cons_self ..) hr]
    cases D' g.i with
    | true =>
     simp only [cond_true]
     exact Gb (by rw [su,su]) ih
    | false=>exact ih
  · have e:∀ (b:Bool) (x:List AV),(bif b then mU x g.dst g.v else x).getD t .junk=x.getD t .junk:=fun b x=>by
     cases b with
     | true=>exact Cz hr
     | false=>rfl
    rw [e,e,ih]
def me (D:Nat→Bool) (i:Nat):Nat→Bool:=fun j=>bif Nat.beq j i then true else D j
theorem r_ {i:Nat}:me D i i=true:=by simp [me]
theorem nD {i j:Nat} (h:j≠i):me D i j=D j:=by
 have:Nat.beq j i=false:=by
  cases hb:Nat.beq j i with
  | false=>rfl
  | true=>exact absurd (Nat.eq_of_beq_eq_true hb) h
 simp [me,this]
theorem J6 {gs:List G} (h:∀ g ∈ gs,D g.i=D' g.i):rep hp D gs=rep hp D' gs:=funext fun r=>qm fun g hg _=>h g hg
theorem t7:∀ {gs:List G},(∀ g ∈ gs,D g.i=D' g.i)→iK tm D gs=iK tm D' gs
 | [],_=>rfl
 | g::gs,h=>by
  simp only [iK]
  rw [h g (List.mem_cons_self ..),t7 fun g' hg=>h g' (List.mem_cons_of_mem _ hg)]
theorem Eo {g:G} {r:Nat}:∀ {gs:List G},gs.Pairwise (fun x y=>y.i<x.i)→g ∈ gs→D g.i=false →
 (∀ h ∈ gs,g.i<h.i→D h.i=true→(∀ r ∈ jX g.us,r ∉ h.us.map (·.1))∧(∀ r ∈ jX h.us,r ∉ g.us.map (·.1)))→rep hp (me D g.i) gs r=AO g.us r (rep hp D gs r)
 | [],_,hg,_,_=>by cases hg
 | h::gs,hp',hg,hD,hc=>by
  rw [List.pairwise_cons] at hp'
  simp only [rep]
  rcases List.mem_cons.1 hg with q | q
  · subst q
    rw [r_,hD,cond_true,cond_false,jz]
    congr 1
    exact qm fun g' hg' _=>nD (Nat.ne_of_lt (hp'.1 g' hg'))
  · have hlt:=hp'.1 g q
    rw [nD (Nat.ne_of_gt hlt)]
    have ih:=Eo (r:=r) hp'.2 q hD fun h' hh'=>hc h' (List.mem_cons_of_mem _ hh')
    cases hb:D h.i with
    | false=>exact ih
    | true =>
     simp only [cond_true,jz]
     rw [ih]
     obtain ⟨c1,c2⟩:=hc h (List.mem_cons_self ..) hlt hb
     exact I8 c1 c2 _
theorem Fz {l:List AV} {d e:Option Nat} {u v:AV} (h:∀ t ∈ d.toList,t ∉ e.toList):mU (mU l d u) e v=mU (mU l e v) d u:=by
 cases d with
 | none=>rfl
 | some d =>
  cases e with
  | none=>rfl
  | some e =>
   have:d≠e:=fun q=>h d (by simp) (by simp [q])
   exact List.set_comm _ _ this
theorem BO {g:G}:∀ {gs:List G},gs.Pairwise (fun x y=>y.i<x.i)→g ∈ gs→D g.i=false →
 (∀ h ∈ gs,g.i<h.i→D h.i=true→∀ t ∈ h.dst.toList,t ∉ g.dst.toList)→iK tm (me D g.i) gs=mU (iK tm D gs) g.dst g.v
 | [],_,hg,_,_=>by cases hg
 | h::gs,hp',hg,hD,hc=>by
  rw [List.pairwise_cons] at hp'
  simp only [iK]
  rcases List.mem_cons.1 hg with q | q
  · subst q
    rw [r_,hD,cond_true,cond_false]
    congr 1
    exact t7 fun g' hg'=>nD (Nat.ne_of_lt (hp'.1 g' hg'))
  · have hlt:=hp'.1 g q
    rw [nD (Nat.ne_of_gt hlt)]
    have ih:=BO hp'.2 q hD fun h' hh'=>hc h' (List.mem_cons_of_mem _ hh')
    cases hb:D h.i with
    | false=>exact ih
    | true =>
     simp only [cond_true]
     rw [ih]
     exact (Fz (hc h (List.mem_cons_self ..) hlt hb)).symm
end
def ly:List G→List LM
 | []=>[]
 | g::gs=>bif g.go then ⟨g.i,g.us,g.rd⟩::ly gs else ly gs
theorem rj {hp:Hp} {a:List Nat}:∀ {gs:List G},(∀ g ∈ gs,g.go=false→g.us=[])→p8 hp a (ly gs)=rep hp (jF a) gs
 | [],_=>rfl
 | g::gs,h=>by
  have ih:=rj (hp:=hp) (a:=a) (gs:=gs) fun g' hg=>h g' (List.mem_cons_of_mem _ hg)
  simp only [ly,rep]
  cases hg:g.go with
  | true=>simp only [cond_true,p8,ih]
  | false =>
   rw [h g (List.mem_cons_self ..) hg]
   simp only [cond_false,applyF,ih]
   cases jF a g.i <;> rfl
theorem rK {hp:Hp}:∀ {gs:List G},(∀ g ∈ gs,g.go=false→g.us=[])→qk hp (ly gs)=rep hp (fun _=>true) gs
 | [],_=>rfl
 | g::gs,h=>by
  have ih:=rK (hp:=hp) (gs:=gs) fun g' hg=>h g' (List.mem_cons_of_mem _ hg)
  simp only [ly,rep]
  cases hg:g.go with
  | true=>simp only [cond_true,qk,ih]
  | false =>
   rw [h g (List.mem_cons_self ..) hg]
   simp only [cond_false,cond_true,applyF,ih]
theorem w7 {a:List Nat} {us:j6} {rd:List Nat}:∀ {gs:List G},Il a us rd (ly gs)=true→∀ g' ∈ gs,g'.go=true→jF a g'.i=true ∨
 ((∀ r ∈ jX us,r ∉ g'.rd)∧(∀ r ∈ jX g'.us,r ∉ rd)∧(∀ r ∈ us.map (·.1),r ∉ jX g'.us)∧(∀ r ∈ jX us,r ∉ g'.us.map (·.1)))
 | [],_,_,hg,_=>by cases hg
 | g::gs,h,g',hg,hgo=>by
  simp only [ly] at h
  cases hgg:g.go with
  | false =>
   rw [hgg,cond_false] at h
   rcases List.mem_cons.1 hg with q | q
   · subst q;rw [hgg] at hgo;cases hgo
   · exact w7 h g' q hgo
  | true =>
   rw [hgg,cond_true] at h
   simp only [Il] at h
   cases hc:(jF a g.i||(kV (jX us) g.rd&&kV (jX g.us) rd&&kV (us.map (·.1)) (jX g.us)&&kV (jX us) (g.us.map (·.1)))) with
   | false=>rw [hc] at h;cases h
   | true =>
    rw [hc,cond_true] at h
    rcases List.mem_cons.1 hg with q | q
    · subst q
      simp only [Bool.or_eq_true,Bool.and_eq_true,rz] at hc
      rcases hc with q | ⟨⟨⟨q1,q2⟩,q3⟩,q4⟩
      · exact Or.inl q
      · exact Or.inr ⟨q1,q2,q3,q4⟩
    · exact w7 h g' q hgo
end Go.V
end

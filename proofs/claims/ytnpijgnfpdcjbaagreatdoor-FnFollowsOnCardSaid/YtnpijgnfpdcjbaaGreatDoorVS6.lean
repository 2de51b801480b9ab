/- V: soundness, part 6 of 10. -/
import Derived.Test.YtnpijgnfpdcjbaaGreatDoorVS5
section
namespace Go.V
open Go.RowKit
def kZ (L:List Nat) (A B:Hp):Prop:=∀ r ∈ L,B r=A r∨∃ p e l,A r = .own p e l∧B r = .fro p e l
theorem Bp:∀ {cs:List AV} {r:Nat},r ∈ bp cs↔(AV.ref r ∈ cs∨∃ i f,AV.ptr r i f ∈ cs)
 | [],r=>by simp [bp]
 | c::cs,r=>by
  have ih:=Bp (cs:=cs) (r:=r)
  cases c <;> simp [bp,ih,List.mem_cons] <;> grind
theorem kZ.sub {L M:List Nat} {A B:Hp} (h:kZ L A B) (hs:∀ r ∈ M,r ∈ L):kZ M A B:=fun r hr=>h r (hs r hr)
theorem q_ {cs ds:List AV} (h:∀ c ∈ ds,c ∈ cs):∀ r ∈ bp ds,r ∈ bp cs:=fun r hr=>by
 rw [Bp] at hr ⊢
 rcases hr with q | ⟨i,f,q⟩
 · exact Or.inl (h _ q)
 · exact Or.inr ⟨i,f,h _ q⟩
theorem qI:∀ {us:il} {r:Nat} {x:oP},(r,x) ∈ us→(∀ p e l,x ≠ .fro p e l)→r ∈ jG us
 | [],_,_,h,_=>by cases h
 | (s,y)::us,r,x,h,hx=>by
  unfold jG
  rcases List.mem_cons.1 h with q | q
  · cases q
    split
    · rename_i q;cases q
    · rename_i q;cases q;exact absurd rfl (hx _ _ _)
    · rename_i q;cases q;exact List.mem_cons_self ..
  · have:=qI q hx
    split
    · rename_i q;cases q
    · rename_i q;cases q;exact this
    · rename_i q;cases q;exact List.mem_cons_of_mem _ this
section
variable {A B:Hp}
theorem pr {e:Ty} {c:AV} (h:kZ (bp [c]) A B):getSl B e c=getSl A e c:=by
 cases c <;> try rfl
 rename_i r
 simp only [getSl]
 rcases h r (by simp [bp]) with q | ⟨p,e',l,q1,q2⟩
 · rw [q]
 · rw [q1,q2]
theorem k0:∀ {t:Ty} {cs:List AV},kZ (bp cs) A B→prj B t cs=prj A t cs
 | .bool,_,_=>rfl
 | .int _,_,_=>rfl
 | .str,_,_=>rfl
 | .slice e,cs,h=>by
  simp only [prj,rH]
  split
  · exact pr h
  · rfl
 | .pair a b,cs,h=>by
  simp only [prj]
  rw [k0 (t:=a) (h.sub (q_ fun c hc=>List.mem_of_mem_take hc)),k0 (t:=b) (h.sub (q_ fun c hc=>List.mem_of_mem_drop hc))]
 | .unit,_,_=>rfl
 | .opq,_,_=>rfl
theorem zl {c:AV} (h:kZ (bp [c]) A B):taint1 B c=taint1 A c:=by
 cases c <;> try rfl
 rename_i r
 simp only [taint1]
 rcases h r (by simp [bp]) with q | ⟨p,e',l,q1,q2⟩
 · rw [q]
 · rw [q1,q2]
theorem mH:∀ {cs:List AV},kZ (bp cs) A B→taint B cs=taint A cs
 | [],_=>rfl
 | c::cs,h=>by
  simp only [taint]
  rw [zl (h.sub (q_ fun d hd=>by simp at hd;subst hd;exact List.mem_cons_self ..)),mH (h.sub (q_ fun d hd=>List.mem_cons_of_mem _ hd))]
theorem lB:∀ {cs:List AV},kZ (bp cs) A B→freeze B cs=freeze A cs
 | [],_=>rfl
 | c::cs,h=>by
  have ih:=lB (cs:=cs) (h.sub (q_ fun d hd=>List.mem_cons_of_mem _ hd))
  cases c <;> try exact ih
  rename_i r
  simp only [freeze,ih]
  rcases h r (by simp [bp]) with q | ⟨p,e',l,q1,q2⟩
  · rw [q]
  · rw [q1,q2]
theorem Gk {R:Type} {t:Ty} {a:AV} {k:AV→Option R} (h:kZ (bp (cellsOf a)) A B):ld B t a k=ld A t a k:=by
 cases a <;> try rfl
 rename_i r i off
 simp only [ld]
 rcases h r (by simp [bp,cellsOf]) with q | ⟨p,e',l,q1,q2⟩
 · rw [q]
 · rw [q1,q2]
theorem xh {t:Ty} {a v:AV} {us:il} (hs:kG A t a v some=some us) (h1:kZ (bp (cellsOf a)) A B) (h2:kZ (bp (cellsOf v)) A B) (hh:∀ r ∈ jG us,r ∈ bp (cellsOf a)→B r=A r):kG B t a v some=some us:=by
 unfold kG at hs ⊢
 obtain ⟨hc,hs⟩:=aI hs
 rw [hc,cond_true]
 split at hs
 · rename_i r i off _
   split at hs
   · rename_i cs hr
     obtain ⟨hle,hs⟩:=aI hs
     cases hs
     rw [hh r (qI (List.mem_singleton.2 rfl) (fun _ _ _ q=>by cases q)) (by simp [bp,cellsOf]),hr]
     simp only [hle,cond_true]
   · rename_i p e l hr
     obtain ⟨hn,hs⟩:=p6 hs
     split at hs
     · rename_i y hy
       split at hs
       · rename_i z hz
         cases hs
         rw [hh r (qI (List.mem_append_right _ (List.mem_singleton.2 rfl)) (fun _ _ _ q=>by cases q)) (by simp [bp,cellsOf]),hr]
         simp only [hn,cond_false,k0 h2,hy,hz,lB h2,mH h2]
       · cases hs
     · cases hs
   · cases hs
 · cases hs
theorem uk {R:Type} {tb:kp} {t:Nat} {x i:AV} {k:AV→Option R} (h:kZ (bp (cellsOf x)) A B):indexAddr tb B t x i k=indexAddr tb A t x i k:=by
 unfold indexAddr
 split
 · cases x <;> try rfl
   rename_i r
   simp only []
   rcases h r (by simp [bp,cellsOf]) with q | ⟨p,e',l,q1,q2⟩
   · rw [q]
   · rw [q1,q2]
 · rfl
theorem xm {R:Type} {u:Ty} {x:AV} {lo hi:Option AV} {k:AV→il→Option R} (h:kZ (bp (cellsOf x)) A B):kD u B x lo hi k=kD u A x lo hi k:=by
 cases x with
 | ref r =>
  cases u <;> try rfl
  simp only [kD]
  rcases h r (by simp [bp,cellsOf]) with q | ⟨p,e',l,q1,q2⟩
  · rw [q]
  · rw [q1,q2]
 | _=>cases u <;> rfl
theorem BF {R:Type} {u:Ty} {x:AV} {k:AV→Option R} (h:kZ (bp (cellsOf x)) A B):lenOf u B x k=lenOf u A x k:=by
 cases x with
 | ref r =>
  cases u <;> try rfl
  simp only [lenOf]
  rcases h r (by simp [bp,cellsOf]) with q | ⟨p,e',l,q1,q2⟩
  · rw [q]
  · rw [q1,q2]
 | _=>cases u <;> rfl
theorem wV {c:AV}:∀ r ∈ bp [c],r ∈ bp (cellsOf c):=by
 intro r hr
 cases c <;> simp_all [bp,cellsOf]
theorem xU {e:Ty} {id:Nat} {d s v:AV} {us:il} (hs:j8 e A id d s (fun v us=>some (v,us))=some (v,us)) (h1:kZ (bp (cellsOf d)) A B) (h2:kZ (bp (cellsOf s)) A B) (hh:∀ r ∈ jG us,r ∈ bp (cellsOf d)→B r=A r) :
 j8 e B id d s (fun v us=>some (v,us))=some (v,us):=by
 unfold j8 at hs ⊢
 have h2':=h2.sub wV
 rw [pr h2']
 split at hs
 · cases hs
 · split at hs
   · rw [mH h2'];exact hs
   · rename_i r
     split at hs
     · rename_i p t l hr
       split at hs
       · rename_i ld hld
         obtain ⟨hle,hs⟩:=aI hs
         cases hs
         have hB:B r=A r:=hh r (qI (List.mem_cons_self ..) (fun _ _ _ q=>by cases q)) (by simp [bp,cellsOf])
         rw [hB,hr]
         simp only [hld,hle,cond_true,mH h2']
       · cases hs
     · cases hs
   · cases hs
theorem uV {e:Ty} {ρ:Operand→AV}:∀ {ps:List (Nat × Operand)} {l:List e.d} {b:Bool},(∀ p ∈ ps,kZ (bp (cellsOf (ρ p.2))) A B)→elems B e ρ ps l b=elems A e ρ ps l b
 | [],_,_,_=>rfl
 | (i,x)::ps,l,b,h=>by
  have h0:kZ (bp (cellsOf (ρ x))) A B:=h (i,x) (List.mem_cons_self ..)
  simp only [elems]
  rw [k0 h0,mH h0]
  split
  · rw [uV fun p hp=>h p (List.mem_cons_of_mem _ hp)]
  · rfl
theorem Be {v:AV} (h:kZ (bp [v]) A B):pD B v=pD A v:=by
 cases v <;> try rfl
 rename_i r i f
 simp only [pD]
 rcases h r (by simp [bp]) with q | ⟨p,e,l,q1,q2⟩
 · rw [q]
 · rw [q1,q2]
theorem lF:∀ {cs:List AV},(∀ r ∈ bp cs,B r=A r)→dl B cs=dl A cs
 | [],_=>rfl
 | c::cs,h=>by
  cases c <;> simp only [dl] <;> first
   | rfl
   | exact lF (cs:=cs) h
   | (rw [h _ (by simp [bp]),lF (cs:=cs) fun r q=>h r (by simp [bp,q])])
theorem th {hp:Hp} {p:Bool}:∀ {t:Ty} {x y:t.d} {cs:List AV},prj hp t cs=some x→dl hp cs=true→(nB p t y cs).map (·.1)=bp cs
 | .bool,x,y,cs,hx,hf=>by
  simp only [prj] at hx
  unfold sO at hx
  split at hx
  · rfl
  · cases hx
 | .int k,x,y,cs,hx,hf=>by
  simp only [prj] at hx
  unfold we at hx
  split at hx
  · rfl
  · cases hx
 | .str,x,y,cs,hx,hf=>by
  simp only [prj] at hx
  unfold vQ at hx
  split at hx
  · rfl
  · cases hx
 | .unit,x,y,cs,hx,hf=>by
  simp only [prj] at hx
  unfold s8 at hx
  split at hx
  · rfl
  · cases hx
 | .opq,x,y,cs,hx,hf=>by cases hx
 | .pair s t,x,y,cs,hx,hf=>by
  simp only [prj] at hx
  obtain ⟨h1,h2⟩:=cH hx
  have app:∀ cs ds:List AV,dl hp (cs++ds)=true→dl hp cs=true∧dl hp ds=true:=by
   intro cs ds
   induction cs with
   | nil=>exact fun q=>⟨rfl,q⟩
   | cons c cs ih =>
    intro q
    cases c <;> simp only [List.cons_append,dl,Bool.and_eq_true] at q ⊢ <;> first | (cases q;done) | (exact ih q) | (exact ⟨⟨q.1,(ih q.2).1⟩,(ih q.2).2⟩)
  obtain ⟨f1,f2⟩:=app (cs.take s.size) (cs.drop s.size) (by rw [List.take_append_drop];exact hf)
  show (nB p s y.1 _++nB p t y.2 _).map (·.1)=_
  rw [List.map_append,th h1 f1,th h2 f2,← qA]
 | .slice e,x,y,cs,hx,hf=>by
  simp only [prj] at hx
  unfold rH at hx
  split at hx
  · rename_i c
    cases c <;> first | rfl | (simp [getSl] at hx;done) | (simp [dl] at hf;done)
  · cases hx
theorem mw {hp:Hp} {al:Bool}:∀ {A:List Pm} {vs:List AV} {x:(tup (nA A)).d} {y:(tup (fw A)).d} {id:Nat},eG hp A vs=some x→∀ r ∈ lN hp A vs,r ∈ (ik hp al A vs y id).map (·.1)
 | [],_,_,_,_,_,r,hr=>by cases hr
 | .val t::A,vs,x,y,id,hx,r,hr=>by
  cases vs with
  | nil=>simp only [eG] at hx;cases hx
  | cons v vs =>
   simp only [eG] at hx
   exact mw (A:=A) (cH (aI hx).2).2 r hr
 | .lend t::A,vs,x,y,id,hx,r,hr=>by
  cases vs with
  | nil=>simp only [eG] at hx;cases hx
  | cons v vs =>
   simp only [eG] at hx
   have h1:=aI hx
   have h2:=cH h1.2
   simp only [lN,List.headD_cons,List.tail_cons,List.mem_append] at hr
   simp only [ik,List.headD_cons,List.tail_cons,List.map_append,List.mem_append]
   rcases hr with q | q
   · left
     rw [th h2.1 (Bool.and_eq_true _ _▸h1.1:_∧_).2]
     exact q
   · exact Or.inr (mw (A:=A) h2.2 r q)
 | .give t::A,vs,x,y,id,hx,r,hr=>by
  cases vs with
  | nil=>simp only [eG] at hx;cases hx
  | cons v vs =>
   simp only [eG] at hx
   have h1:=aI hx
   have h2:=cH h1.2
   simp only [lN,List.headD_cons,List.tail_cons,List.mem_append] at hr
   simp only [ik,List.headD_cons,List.tail_cons,List.map_append,List.mem_append]
   rcases hr with q | q
   · left;rw [p_];exact q
   · exact Or.inr (mw (A:=A) h2.2 r q)
 | .fn f n::A,vs,x,y,id,hx,r,hr=>mw (A:=A) hx r hr
 | .io o t::A,vs,x,y,id,hx,r,hr=>by
  cases vs with
  | nil=>simp only [eG] at hx;cases hx
  | cons v vs =>
   simp only [eG] at hx
   split at hx
   · rename_i cs hcs
     obtain ⟨r0,hv,hrow⟩:=ob hcs
     subst hv
     obtain ⟨ho,hx⟩:=aI hx
     simp only [lN,List.headD_cons,List.tail_cons,hcs,Option.getD_some,bp,List.cons_append,List.nil_append,List.mem_cons,List.mem_append] at hr
     cases o with
     | true =>
      simp only [ik,List.headD_cons,List.tail_cons,hcs,Option.getD_some,cond_true,yC,List.map_append,List.map_cons,List.mem_append,List.mem_cons,p_]
      rcases hr with q | q | q
      · exact Or.inr (Or.inl q)
      · exact Or.inl q
      · exact Or.inr (Or.inr (Or.inr (mw (A:=A) (cH hx).2 r q)))
     | false =>
      simp only [ik,List.headD_cons,List.tail_cons,hcs,Option.getD_some,cond_false,yC,List.map_cons,List.mem_cons]
      rcases hr with q | q | q
      · exact Or.inl q
      · cases q
      · exact Or.inr (mw (A:=A) (cH hx).2 r q)
   · cases hx
theorem jl:∀ {Q:List Pm} {vs:List AV} {x:(tup (nA Q)).d},eG A Q vs=some x→kZ (lN A Q vs++pG A Q vs) A B→(∀ r ∈ lN A Q vs,B r=A r) →
 eG B Q vs=some x∧lN B Q vs=lN A Q vs∧pG B Q vs=pG A Q vs∧∀ al y id,ik B al Q vs y id=ik A al Q vs y id
 | [],vs,x,hx,_,_=>⟨hx,rfl,rfl,fun _ _ _=>rfl⟩
 | .val t::Q,vs,x,hx,hf,hh=>by
  cases vs with
  | nil=>simp only [eG] at hx;cases hx
  | cons v vs =>
   simp only [eG] at hx ⊢
   simp only [lN,pG,List.headD_cons,List.tail_cons] at hf hh ⊢
   have h1:=aI hx
   have h2:=cH h1.2
   obtain ⟨g1,g2,g3,g4⟩:=jl (Q:=Q) h2.2 (hf.sub fun r q=>by
    rcases List.mem_append.1 q with q | q
    · exact List.mem_append_left _ q
    · exact List.mem_append_right _ (List.mem_append_right _ q)) hh
   refine ⟨?_,g2,by rw [g3],fun al y id=>g4 al y id⟩
   rw [k0 (hf.sub fun r q=>List.mem_append_right _ (List.mem_append_left _ q)),h2.1,g1,h1.1]
   rfl
 | .lend t::Q,vs,x,hx,hf,hh=>by
  cases vs with
  | nil=>simp only [eG] at hx;cases hx
  | cons v vs =>
   simp only [eG] at hx ⊢
   simp only [lN,pG,List.headD_cons,List.tail_cons] at hf hh ⊢
   have h1:=aI hx
   have h2:=cH h1.2
   obtain ⟨g1,g2,g3,g4⟩:=jl (Q:=Q) h2.2 (hf.sub fun r q=>by
    rcases List.mem_append.1 q with q | q
    · exact List.mem_append_left _ (List.mem_append_right _ q)
    · exact List.mem_append_right _ q) (fun r q=>hh r (List.mem_append_right _ q))
   refine ⟨?_,by rw [g2],g3,fun al y id=>by simp only [ik,List.headD_cons,List.tail_cons,g4]⟩
   rw [lF fun r q=>hh r (List.mem_append_left _ q),k0 (hf.sub fun r q=>List.mem_append_left _ (List.mem_append_left _ q)),h2.1,g1,h1.1]
   rfl
 | .give t::Q,vs,x,hx,hf,hh=>by
  cases vs with
  | nil=>simp only [eG] at hx;cases hx
  | cons v vs =>
   simp only [eG] at hx ⊢
   simp only [lN,pG,List.headD_cons,List.tail_cons] at hf hh ⊢
   have h1:=aI hx
   have h2:=cH h1.2
   obtain ⟨g1,g2,g3,g4⟩:=jl (Q:=Q) h2.2 (hf.sub fun r q=>by
    rcases List.mem_append.1 q with q | q
    · exact List.mem_append_left _ (List.mem_append_right _ q)
    · exact List.mem_append_right _ q) (fun r q=>hh r (List.mem_append_right _ q))
   refine ⟨?_,by rw [g2],g3,fun al y id=>congrArg (pg (bp (cellsOf v))++·) (g4 al y id)⟩
   rw [lF fun r q=>hh r (List.mem_append_left _ q),k0 (hf.sub fun r q=>List.mem_append_left _ (List.mem_append_left _ q)),h2.1,g1,h1.1]
   rfl
 | .fn f n::Q,vs,x,hx,hf,hh=>jl (Q:=Q) hx hf hh
 | .io o t::Q,vs,x,hx,hf,hh=>by
  cases vs with
  | nil=>simp only [eG] at hx;cases hx
  | cons v vs =>
   have hbx:pD B v=pD A v:=Be (hf.sub fun r q=>List.mem_append_left _ (by simp only [lN,List.headD_cons];exact List.mem_append_left _ q))
   simp only [eG,hbx] at hx ⊢
   cases hcs:pD A v with
   | none=>rw [hcs] at hx;cases hx
   | some cs =>
    rw [hcs] at hx
    simp only [] at hx ⊢
    simp only [lN,pG,List.headD_cons,List.tail_cons,hbx,hcs,Option.getD_some] at hf hh ⊢
    have h1:=aI hx
    have h2:=cH h1.2
    obtain ⟨g1,g2,g3,g4⟩:=jl (Q:=Q) h2.2 (hf.sub fun r q=>by
     rcases List.mem_append.1 q with q | q
     · exact List.mem_append_left _ (List.mem_append_right _ (List.mem_append_right _ q))
     · exact List.mem_append_right _ (List.mem_append_right _ q)) (fun r q=>hh r (List.mem_append_right _ (List.mem_append_right _ q)))
    have hcf:kZ (bp cs) A B:=hf.sub fun r q=>by
     cases o with
     | true=>exact List.mem_append_left _ (List.mem_append_right _ (List.mem_append_left _ q))
     | false=>exact List.mem_append_right _ (List.mem_append_left _ q)
    have hfo:(!o||dl B cs)=(!o||dl A cs):=by
     cases o with
     | true=>rw [lF fun r q=>hh r (List.mem_append_right _ (List.mem_append_left _ q))]
     | false=>rfl
    refine ⟨?_,by rw [g2],by rw [g3],fun al y id=>by simp only [ik,List.headD_cons,List.tail_cons,hbx,g4]⟩
    rw [hfo,k0 hcf,h2.1,g1,h1.1]
    rfl
theorem BL {c:Cn} {id nx:Nat} {as:List AV} {v:AV} {us:il} (hs:pX c A id as (fun v us nx=>some (v,us,nx))=some (v,us,nx))
 (h:∀ vs,g8 c.A as=some vs→kZ (lN A c.A vs++pG A c.A vs) A B) (hh:∀ vs,g8 c.A as=some vs→∀ r ∈ jG us,r ∈ lN A c.A vs→B r=A r) :
 pX c B id as (fun v us nx=>some (v,us,nx))=some (v,us,nx):=by
 have hs0:=hs
 unfold pX at hs ⊢
 cases hf:g8 c.A as with
 | none=>rw [hf] at hs;cases hs
 | some vs =>
 rw [hf] at hs
 simp only [] at hs ⊢
 cases hx:eG A c.A vs with
 | none=>rw [hx] at hs;cases hs
 | some x =>
 rw [hx] at hs
 simp only [] at hs
 have h1:=aI hs
 cases hy:c.fn x with
 | none=>have h2:=h1.2;rw [hy] at h2;cases h2
 | some y =>
 have h2:=h1.2
 rw [hy] at h2
 simp only [Option.some.injEq,Prod.mk.injEq] at h2
 have hgv:∀ r ∈ lN A c.A vs,B r=A r:=fun r q=>by
  refine hh vs hf r ?_ q
  obtain ⟨z,hz,rfl⟩:=List.mem_map.1 (mw (al:=c.al) (y:=yx (fw c.A) y) (id:=id) hx r q)
  rw [← h2.2.1]
  exact qI (x:=z.2) (List.mem_append_right _ (List.mem_append_left _ hz)) (jB z.1 z.2 hz)
 obtain ⟨g1,g2,g3,g4⟩:=jl hx (h vs hf) hgv
 have hrefs:∀ l:List Nat,bp (l.map AV.ref)=l:=by
  intro l
  induction l with
  | nil=>rfl
  | cons r l ih=>simp [bp,ih]
 rw [g1,g2,g3]
 simp only [hy]
 rw [g4,lB (A:=A) (B:=B) (by rw [hrefs];exact (h vs hf).sub fun r q=>List.mem_append_right _ q)]
 rw [hy] at hs
 exact hs
theorem CR {c:Cn} {id nx:Nat} {as:List AV} {v:AV} {us:il} (hs:vv c A id as (fun v us nx=>some (v,us,nx))=some (v,us,nx))
 (h:∀ vs,g8 c.A as=some vs→kZ (lN A c.A vs++pG A c.A vs) A B) :
 vv c B id as (fun v us nx=>some (v,us,nx))=some (v,us,nx):=by
 have hs0:=hs
 unfold vv at hs ⊢
 cases hf:g8 c.A as with
 | none=>rw [hf] at hs;cases hs
 | some vs =>
 rw [hf] at hs
 simp only [] at hs ⊢
 cases hx:eG A c.A vs with
 | none=>rw [hx] at hs;cases hs
 | some x =>
 rw [hx] at hs
 simp only [] at hs
 have h1:=aI hs
 have hgv:∀ r ∈ lN A c.A vs,B r=A r:=fun r q=>by
  rw [List.isEmpty_iff.1 h1.1] at q
  cases q
 obtain ⟨g1,g2,g3,g4⟩:=jl hx (h vs hf) hgv
 have hrefs:∀ l:List Nat,bp (l.map AV.ref)=l:=by
  intro l
  induction l with
  | nil=>rfl
  | cons r l ih=>simp [bp,ih]
 rw [g1,g2,g3,lB (A:=A) (B:=B) (by rw [hrefs];exact (h vs hf).sub fun r q=>List.mem_append_right _ q)]
 exact hs
theorem Ao {c:Cn} {id nx:Nat} {as:List AV} {v:AV} {us:il} (hs:qG c A id as (fun v us nx=>some (v,us,nx))=some (v,us,nx))
 (h:∀ vs,g8 c.A as=some vs→kZ (lN A c.A vs++pG A c.A vs) A B) (hh:∀ vs,g8 c.A as=some vs→∀ r ∈ jG us,r ∈ lN A c.A vs→B r=A r) :
 qG c B id as (fun v us nx=>some (v,us,nx))=some (v,us,nx):=by
 unfold qG at hs ⊢
 cases hb:qo c.R with
 | false=>rw [hb] at hs;exact BL hs h hh
 | true=>rw [hb] at hs;exact CR hs h
theorem u_:∀ {cs ds:List AV},bp (cs++ds)=bp cs++bp ds
 | [],_=>rfl
 | c::cs,ds=>by cases c <;> simp [bp,u_ (cs:=cs)]
theorem rx {α:Type} {f:α→List AV}:∀ {l:List α},bp (l.flatMap f)=l.flatMap fun x=>bp (f x)
 | []=>rfl
 | x::l=>by simp [u_,rx (l:=l)]
theorem m_ {tb:kp} {tm:List AV} {t:Nat} {x:Operand}:bp (cellsOf (val tb tm t x))=bp (cellsOf (val tb tm 0 x)):=by
 cases x with
 | tmp i=>rfl
 | func f=>rfl
 | global g=>rfl
 | const v =>
  simp only [val]
  unfold Kx
  cases v <;> try rfl
  rename_i a n c
  cases a <;> try rfl
  cases n <;> try rfl
  cases c <;> try rfl
  simp only []
  split <;> (split <;> rfl)
theorem CZ {tb:kp} {ct:List (Nat × Cn)} {o:Oper} {tm:List AV} {id nx:Nat} {v:AV} {us:il} (hs:e7 tb ct o tm A id (fun v us nx=>some (v,us,nx))=some (v,us,nx))
 (h:kZ (reads tb ct o tm A) A B) (hh:∀ r ∈ jG us,r ∈ reads tb ct o tm A→B r=A r):e7 tb ct o tm B id (fun v us nx=>some (v,us,nx))=some (v,us,nx):=by
 cases hop:o.op with
 | load t x =>
  simp only [e7,hop,reads] at hs h ⊢
  split at hs
  · rename_i u hu
    try simp only [hu]
    rw [Gk h];exact hs
  · cases hs
 | store t x y =>
  simp only [e7,hop,reads] at hs h hh ⊢
  split at hs
  · rename_i u hu
    try simp only [hu]
    rw [k_] at hs
    cases hl:kG A u (val tb tm 0 x) (val tb tm t y) some with
    | none=>rw [hl] at hs;cases hs
    | some us' =>
     rw [hl] at hs
     cases hs
     rw [k_]
     have h1:kZ (bp (cellsOf (val tb tm 0 x))) A B:=h.sub fun r hr=>List.mem_append_left _ hr
     have h2:kZ (bp (cellsOf (val tb tm t y))) A B:=h.sub fun r hr=>List.mem_append_right _ (by rw [← m_ (t:=t)];exact hr)
     rw [xh hl h1 h2 fun r hr hm=>hh r hr (List.mem_append_left _ hm)]
     rfl
  · cases hs
 | indexAddr t x i =>
  simp only [e7,hop,reads] at hs h ⊢
  rw [uk (by rw [m_];exact h)]
  exact hs
 | slice t x lo hi mx =>
  cases mx with
  | some _=>simp only [e7,hop] at hs;cases hs
  | none =>
   simp only [e7,hop,reads] at hs h ⊢
   rw [xm (by rw [m_];exact h)]
   exact hs
 | convert s d x =>
  simp only [e7,hop,reads] at hs h ⊢
  split at hs
  · rename_i h1 h2 h3
    try simp only [h1,h2,h3]
    exact hs
  · rename_i h1 h2 h3
    try simp only [h1,h2,h3]
    exact hs
  · rename_i h1 h2 h3
    rw [pr (A:=A) (B:=B) (kZ.sub (by rw [m_];exact h) wV)]
    exact hs
  · cases hs
 | buildSlice t n ps =>
  simp only [e7,hop,reads] at hs h ⊢
  split at hs
  · rename_i e he
    try simp only [he]
    have h1:∀ p ∈ ps.toList,kZ (bp (cellsOf (val tb tm 0 p.2))) A B:=fun p hp=>h.sub fun r hr=>List.mem_flatMap.2 ⟨p,hp,hr⟩
    rw [uV h1,lB (A:=A) (B:=B) (by rw [rx];exact h)]
    exact hs
  · cases hs
 | call c =>
  have h1:∀ x ∈ c.args.toList,kZ (bp (cellsOf (val tb tm 0 x))) A B:=fun x hx=>h.sub fun r hr=>by
   simp only [reads,hop]
   exact List.mem_append_left _ (List.mem_flatMap.2 ⟨x,hx,hr⟩)
  simp only [e7,hop] at hs ⊢
  split at hs
  · rename_i hc
    try simp only [hc]
    split at hs
    · rename_i x t ha ht
      try simp only [ha,ht]
      rw [BF (by rw [m_];exact h1 x (by rw [ha];simp))]
      exact hs
    · cases hs
  · rename_i hc
    try simp only [hc]
    split at hs
    · rename_i d s t t' ha ht
      try simp only [ha,ht]
      split at hs
      · rename_i e he
        try simp only [he]
        cases hb:Nat.beq t t' with
        | false=>rw [hb] at hs;cases hs
        | true =>
         rw [hb,cond_true] at hs
         rw [cond_true,gw]
         rw [gw] at hs
         cases hl:j8 e A id (val tb tm t d) (val tb tm t s) (fun v us=>some (v,us)) with
         | none=>rw [hl] at hs;cases hs
         | some z =>
          obtain ⟨z1,z2⟩:=z
          rw [hl] at hs
          cases hs
          rw [xU hl (by rw [m_];exact h1 d (by rw [ha];simp)) (by rw [m_];exact h1 s (by rw [ha];simp)) ?_]
          · rfl
          · intro r hr hm
            refine hh r hr ?_
            simp only [reads,hop]
            exact List.mem_append_left _ (List.mem_flatMap.2 ⟨d,by rw [ha];simp,by rw [← m_ (t:=t)];exact hm⟩)
      · cases hs
    · cases hs
  · rename_i hc
    try simp only [hc]
    exact hs
  · rename_i hc
    try simp only [hc]
    exact hs
  · rename_i x hc
    try simp only [hc]
    split at hs
    · rename_i q hq
      try simp only [hq]
      have hsub:∀ vs,g8 q.1.A q.2=some vs→∀ r ∈ lN A q.1.A vs++pG A q.1.A vs,r ∈ reads tb ct o tm A:=fun vs hvs r hr=>by
       simp only [reads,hop,hc,hq,hvs]
       exact List.mem_append_right _ hr
      exact Ao (A:=A) (B:=B) hs (fun vs hvs=>h.sub (hsub vs hvs)) (fun vs hvs r hr hm=>hh r hr (hsub vs hvs r (List.mem_append_left _ hm)))
    · cases hs
  · cases hs
 | makeFunc fn first caps =>
  cases fn with
  | func f=>simp only [e7,hop] at hs ⊢;exact hs
  | _=>unfold e7 at hs;rw [hop] at hs;cases hs
 | _=>unfold e7 at hs ⊢;rw [hop] at hs ⊢;exact hs
end
end Go.V
end
section
namespace Go.V
open Go.RowKit
section
variable {tb:kp} {ct:List (Nat × Cn)} {tm tm':List AV} {hp:Hp} {id:Nat} {R:Type}
theorem Ej {f g:Operand→AV} {o:Option Operand} (h:∀ x ∈ o.toList,f x=g x):o.map f=o.map g:=by
 cases o with
 | none=>rfl
 | some x=>simp [h x (by simp)]
theorem oC {offs:List (Nat × Nat)} {f g:Operand→AV}:∀ {ps:List (Nat × Operand)} {z:List AV},(∀ p ∈ ps,f p.2=g p.2)→jv z offs f ps=jv z offs g ps
 | [],_,_=>rfl
 | (i,x)::ps,z,h=>by
  have h0:f x=g x:=h (i,x) (List.mem_cons_self ..)
  simp only [jv,h0]
  split
  · rw [oC fun p hp=>h p (List.mem_cons_of_mem _ hp)]
  · rfl
theorem u0 {e:Ty} {f g:Operand→AV}:∀ {ps:List (Nat × Operand)} {l:List e.d} {b:Bool},(∀ p ∈ ps,f p.2=g p.2)→elems hp e f ps l b=elems hp e g ps l b
 | [],_,_,_=>rfl
 | (i,x)::ps,l,b,h=>by
  have h0:f x=g x:=h (i,x) (List.mem_cons_self ..)
  simp only [elems,h0]
  split
  · rw [u0 fun p hp=>h p (List.mem_cons_of_mem _ hp)]
  · rfl
theorem kx {α β:Type} {f g:α→List β}:∀ {l:List α},(∀ x ∈ l,f x=g x)→l.flatMap f=l.flatMap g
 | [],_=>rfl
 | x::l,h=>by simp [h x (List.mem_cons_self ..),kx fun y hy=>h y (List.mem_cons_of_mem _ hy)]
theorem Hn {o:Oper} {k:AV→il→Nat→Option R} (h:∀ x ∈ o.op.operands.toList,∀ T,val tb tm' T x=val tb tm T x) :
 e7 tb ct o tm' hp id k=e7 tb ct o tm hp id k∧reads tb ct o tm' hp=reads tb ct o tm hp:=by
 cases hop:o.op with
 | buildSlice t n ps =>
  have h0:∀ p ∈ ps.toList,val tb tm' 0 p.2=val tb tm 0 p.2:=fun p hp=>h p.2 (by rw [hop];simp only [Op.operands,List.toList_toArray];exact List.mem_map_of_mem hp) 0
  simp only [e7,reads,hop]
  have e1:ps.toList.flatMap (fun p=>cellsOf (val tb tm' 0 p.2))=ps.toList.flatMap (fun p=>cellsOf (val tb tm 0 p.2)):=kx fun p hp=>by rw [h0 p hp]
  rw [e1]
  refine ⟨?_,kx fun p hp=>by rw [h0 p hp]⟩
  split
  · rw [u0 h0]
  · rfl
 | build t ps =>
  have h0:∀ p ∈ ps.toList,val tb tm' 0 p.2=val tb tm 0 p.2:=fun p hp=>h p.2 (by rw [hop];simp only [Op.operands,List.toList_toArray];exact List.mem_map_of_mem hp) 0
  simp only [e7,reads,hop]
  exact ⟨by
   split
   · rw [oC h0]
   · rfl,trivial⟩
 | makeFunc fn first caps =>
  have h0:caps.toList.map (val tb tm' 0)=caps.toList.map (val tb tm 0):=List.map_congr_left fun x hx=>h x (by rw [hop];simp only [Op.operands,Array.toList_append];exact List.mem_append_right _ hx) 0
  cases fn <;> simp only [e7,reads,hop]
  · exact ⟨by rw [h0],trivial⟩
  all_goals exact ⟨trivial,trivial⟩
 | call c =>
  have hin:∀ x ∈ c.args.toList,∀ T,val tb tm' T x=val tb tm T x:=fun x hx=>h x (by rw [hop];simp only [Op.operands,Call.operands,Array.toList_append];exact List.mem_append_right _ hx)
  have h0:c.args.toList.map (val tb tm' 0)=c.args.toList.map (val tb tm 0):=List.map_congr_left fun x hx=>hin x hx 0
  have hcal:∀ x,c.callee = .value x→oJ tb ct tm' x (c.args.toList.map (val tb tm' 0))=oJ tb ct tm x (c.args.toList.map (val tb tm 0)):=fun x hx=>by
   rw [h0]
   unfold oJ
   rw [h x (by rw [hop];simp only [Op.operands,Call.operands,Array.toList_append,hx];exact List.mem_append_left _ (by simp)) 0]
  simp only [e7,reads,hop]
  refine ⟨?_,?_⟩
  · split
    · split
      · rename_i x t ha ht
        rw [hin x (by rw [ha];simp)]
      · rfl
    · split
      · rename_i d s t t' ha ht
        split
        · rw [hin d (by rw [ha];simp),hin s (by rw [ha];simp)]
        · rfl
      · rfl
    · rw [h0]
    · rw [h0]
    · rename_i x hc
      rw [hcal x hc]
    · rfl
  · rw [kx (f:=fun x=>bp (cellsOf (val tb tm' 0 x))) (g:=fun x=>bp (cellsOf (val tb tm 0 x))) fun x hx=>by rw [hin x hx]]
    congr 1
    split
    · rename_i x hc
      rw [hcal x hc]
    · rfl
 | slice t x lo hi mx =>
  have hx:=h x (by rw [hop];simp [Op.operands])
  have hl:lo.map (val tb tm' 0)=lo.map (val tb tm 0):=Ej fun y hy=>h y (by rw [hop];simp [Op.operands] at hy ⊢;simp [hy]) 0
  have hh:hi.map (val tb tm' 0)=hi.map (val tb tm 0):=Ej fun y hy=>h y (by rw [hop];simp [Op.operands] at hy ⊢;simp [hy]) 0
  cases mx <;> simp only [e7,reads,hop,hx,hl,hh] <;> exact ⟨trivial,trivial⟩
 | pick c x y =>
  have h1:=h c (by rw [hop];simp [Op.operands])
  have h2:=h x (by rw [hop];simp [Op.operands])
  have h3:=h y (by rw [hop];simp [Op.operands])
  simp only [e7,reads,hop,h1,h2,h3]
  exact ⟨trivial,trivial⟩
 | store t x y =>
  have h1:=h x (by rw [hop];simp [Op.operands])
  have h2:=h y (by rw [hop];simp [Op.operands])
  simp only [e7,reads,hop,h1,h2]
  exact ⟨trivial,trivial⟩
 | binOp op t x y u =>
  have h1:=h x (by rw [hop];simp [Op.operands])
  have h2:=h y (by rw [hop];simp [Op.operands])
  simp only [e7,reads,hop,h1,h2]
  exact ⟨trivial,trivial⟩
 | makeSlice t x y =>
  have h1:=h x (by rw [hop];simp [Op.operands])
  have h2:=h y (by rw [hop];simp [Op.operands])
  simp only [e7,reads,hop,h1,h2]
  exact ⟨trivial,trivial⟩
 | indexAddr t x y =>
  have h1:=h x (by rw [hop];simp [Op.operands])
  have h2:=h y (by rw [hop];simp [Op.operands])
  simp only [e7,reads,hop,h1,h2]
  exact ⟨trivial,trivial⟩
 | index t x y =>
  have h1:=h x (by rw [hop];simp [Op.operands])
  have h2:=h y (by rw [hop];simp [Op.operands])
  simp only [e7,reads,hop,h1,h2]
  exact ⟨trivial,trivial⟩
 | alloc t=>simp only [e7,reads,hop];exact ⟨trivial,trivial⟩
 | move x=>have h1:=h x (by rw [hop];simp [Op.operands]);simp only [e7,reads,hop,h1];exact ⟨trivial,trivial⟩
 | assign x=>have h1:=h x (by rw [hop];simp [Op.operands]);simp only [e7,reads,hop,h1];exact ⟨trivial,trivial⟩
 | box t x=>have h1:=h x (by rw [hop];simp [Op.operands]);simp only [e7,reads,hop,h1];exact ⟨trivial,trivial⟩
 | load t x=>have h1:=h x (by rw [hop];simp [Op.operands]);simp only [e7,reads,hop,h1];exact ⟨trivial,trivial⟩
 | nilCheck x=>have h1:=h x (by rw [hop];simp [Op.operands]);simp only [e7,reads,hop,h1];exact ⟨trivial,trivial⟩
 | unOp op t x=>have h1:=h x (by rw [hop];simp [Op.operands]);simp only [e7,reads,hop,h1];exact ⟨trivial,trivial⟩
 | convert s d x=>have h1:=h x (by rw [hop];simp [Op.operands]);simp only [e7,reads,hop,h1];exact ⟨trivial,trivial⟩
 | fieldAddr s x f=>have h1:=h x (by rw [hop];simp [Op.operands]);simp only [e7,reads,hop,h1];exact ⟨trivial,trivial⟩
 | field s x f=>have h1:=h x (by rw [hop];simp [Op.operands]);simp only [e7,reads,hop,h1];exact ⟨trivial,trivial⟩
 | extract x i=>have h1:=h x (by rw [hop];simp [Op.operands]);simp only [e7,reads,hop,h1];exact ⟨trivial,trivial⟩
 | _=>unfold e7 reads;rw [hop];exact ⟨rfl,rfl⟩
end
def zH:il→Nat→oP→oP
 | [],_,x=>x
 | u::us,r,x=>zH us r (bif Nat.beq r u.1 then turn u.2 x else x)
theorem jg:∀ {us:il} {hp:Hp} {r:Nat},applyF hp us r=zH us r (hp r)
 | [],_,_=>rfl
 | u::us,hp,r=>by
  simp only [applyF,zH]
  exact jg (us:=us)
theorem tk (x:oP):zw (zw x)=zw x:=by cases x <;> rfl
theorem CW (x:oP):(∀ y,turn x y=zw y)∨(∃ z,∀ y,turn x y=z):=by
 cases x
 · exact Or.inr ⟨_,fun _=>rfl⟩
 · exact Or.inr ⟨_,fun _=>rfl⟩
 · exact Or.inr ⟨_,fun _=>rfl⟩
 · exact Or.inl fun _=>rfl
theorem ze:∀ (us:il) (r:Nat) {x y:oP},(y=x∨y=zw x)→(zH us r y=zH us r x∨zH us r y=zw (zH us r x))
 | [],_,_,_,h=>h
 | u::us,r,x,y,h=>by
  simp only [zH]
  cases Nat.beq r u.1 with
  | false=>exact ze us r h
  | true =>
   simp only [cond_true]
   refine ze us r ?_
   rcases CW u.2 with q | ⟨z,q⟩
   · rw [q,q]
     rcases h with rfl | rfl
     · exact Or.inl rfl
     · exact Or.inl (tk _)
   · rw [q,q];exact Or.inl rfl
theorem qL:∀ {us:il} {r:Nat},r ∉ us.map (·.1)→∀ x,zH us r x=x
 | [],_,_,_=>rfl
 | u::us,r,h,x=>by
  simp only [List.map_cons,List.mem_cons,not_or] at h
  simp only [zH]
  have:Nat.beq r u.1=false:=by
   cases hb:Nat.beq r u.1 with
   | false=>rfl
   | true=>exact absurd (Nat.eq_of_beq_eq_true hb) h.1
  rw [this]
  exact qL h.2 x
theorem xe {u:Nat × oP} {us:il} {r:Nat} (h:r ∉ jG (u::us)):r ∉ jG us∧(r=u.1→∃ p e l,u.2 = .fro p e l):=by
 obtain ⟨s,x⟩:=u
 cases x <;> simp_all [jG]
theorem pt:∀ {us:il} {r:Nat},r ∉ jG us→(∀ x,zH us r x=x)∨(∀ x,zH us r x=zw x)
 | [],_,_=>Or.inl fun _=>rfl
 | u::us,r,h=>by
  obtain ⟨h1,h2⟩:=xe h
  simp only [zH]
  cases hb:Nat.beq r u.1 with
  | false=>exact pt h1
  | true =>
   simp only [cond_true]
   obtain ⟨p,e,l,q⟩:=h2 (Nat.eq_of_beq_eq_true hb)
   rw [q]
   right
   intro x
   rcases pt h1 with g | g
   · rw [g];rfl
   · rw [g];exact tk x
theorem HA {us vs:il} {r:Nat} (h1:∀ r ∈ jG us,r ∉ vs.map (·.1)) (h2:∀ r ∈ jG vs,r ∉ us.map (·.1)) (x:oP):zH vs r (zH us r x)=zH us r (zH vs r x):=by
 by_cases a:r ∈ jG us
 · rw [qL (h1 r a),qL (h1 r a)]
 · by_cases b:r ∈ jG vs
   · rw [qL (h2 r b),qL (h2 r b)]
   · rcases pt a with p | p <;> rcases pt b with q | q <;> simp [p,q]
theorem sx:∀ {us:il} {hp:Hp},pC us→applyF hp us=apply hp us
 | [],_,_=>rfl
 | u::us,hp,h=>by
  simp only [applyF,apply]
  have e:(fun n=>bif Nat.beq n u.1 then turn u.2 (hp n) else hp n)=jL hp u.1 u.2:=by
   funext n
   simp only [jL]
   have h0:=h u.1 u.2 (List.mem_cons_self ..)
   obtain ⟨s,x⟩:=u
   cases x <;> first | rfl | exact absurd rfl (h0 _ _ _)
  rw [e]
  exact sx fun r x hx=>h r x (List.mem_cons_of_mem _ hx)
theorem wX:∀ {us:il} {hp:Hp},A8 hp us→applyF hp us=apply hp us
 | [],_,_=>rfl
 | (r,x)::us,hp,h=>by
  obtain ⟨p,e,l,rfl,hr⟩:=h r x (List.mem_cons_self ..)
  simp only [applyF,apply]
  have e':(fun n=>bif Nat.beq n r then turn (.fro p e l) (hp n) else hp n)=jL hp r (.fro p e l):=by
   funext n
   simp only [jL]
   cases hb:Nat.beq n r with
   | false=>rfl
   | true =>
    simp only [cond_true]
    rw [Nat.eq_of_beq_eq_true hb]
    rcases hr with q | q <;> rw [q] <;> rfl
  rw [e']
  exact wX h.tail
theorem sR:∀ (us0:il) {hp:Hp} {us1:il},apply hp (us0++us1)=apply (apply hp us0) us1
 | [],_,_=>rfl
 | u::us,hp,us1=>sR us
theorem qt:∀ (us0:il) {hp:Hp} {us1:il},applyF hp (us0++us1)=applyF (applyF hp us0) us1
 | [],_,_=>rfl
 | u::us,hp,us1=>qt us
theorem gC.applyF {hp:Hp} {id nx:Nat} {us:il} (h:gC hp id us nx):applyF hp us=apply hp us:=by
 obtain ⟨_,us0,us1,rfl,h0,h1⟩:=h
 rw [qt,sR,wX h0,sx h1]
end Go.V
end
section
namespace Go.V
open Go.RowKit
structure G where
 i:Nat
 go:Bool
 us:il
 rd:List Nat
 A:List Nat
 dst:Option Nat
 v:AV
 nm:List Nat
 id:Nat
 nx:Nat
def rep (hp:Hp) (D:Nat→Bool):List G→Hp
 | []=>hp
 | g::gs=>bif D g.i then applyF (rep hp D gs) g.us else rep hp D gs
def i_ (tm:List AV) (D:Nat→Bool):List G→List AV
 | []=>tm
 | g::gs=>bif D g.i then mN (i_ tm D gs) g.dst g.v else i_ tm D gs
structure Kf (g' g:G):Prop where
 a:∀ r ∈ jG g.us,r ∉ g'.rd
 b:∀ r ∈ jG g'.us,r ∉ g.rd
 c:∀ r ∈ g.us.map (·.1),r ∉ jG g'.us
 d:∀ r ∈ jG g.us,r ∉ g'.us.map (·.1)
structure Ek (g' g:G):Prop where
 e:∀ t ∈ g.dst.toList,t ∉ g'.dst.toList++g'.nm
 f:∀ t ∈ g'.dst.toList,t ∉ g.nm
section
variable {hp:Hp} {tm:List AV} {D D':Nat→Bool}
theorem qX {r:Nat}:∀ {gs:List G},(∀ g ∈ gs,r ∈ g.us.map (·.1)→D g.i=D' g.i)→rep hp D gs r=rep hp D' gs r
 | [],_=>rfl
 | g::gs,h=>by
  have ih:=qX (gs:=gs) fun g' hg=>h g' (List.mem_cons_of_mem _ hg)
  simp only [rep]
  by_cases hr:r ∈ g.us.map (·.1)
  · rw [h g (List.mem_cons_self ..) hr]
    cases D' g.i with
    | true=>simp only [cond_true,jg,ih]
    | false=>exact ih
  · have e:∀ (b:Bool) (x:Hp),(bif b then applyF x g.us else x) r=x r:=fun b x=>by
     cases b with
     | true=>simp only [cond_true,jg,qL hr]
     | false=>rfl
    rw [e,e,ih]
theorem Dl {r:Nat}:∀ {gs:List G},(∀ g ∈ gs,D g.i=D' g.i∨(D g.i=true∧r ∉ jG g.us))→rep hp D gs r=rep hp D' gs r∨rep hp D gs r=zw (rep hp D' gs r)
 | [],_=>Or.inl rfl
 | g::gs,h=>by
  have ih:=Dl (gs:=gs) fun g' hg=>h g' (List.mem_cons_of_mem _ hg)
  simp only [rep]
  cases h1:D g.i with
  | true =>
   cases h2:D' g.i with
   | true =>
    simp only [cond_true,jg]
    exact ze _ _ ih
   | false =>
    rcases h g (List.mem_cons_self ..) with q | ⟨_,q⟩
    · rw [h1,h2] at q;cases q
    · simp only [cond_true,cond_false,jg]
      rcases pt q with e | e
      · rw [e];exact ih
      · rw [e]
        rcases ih with g1 | g1
        · rw [g1];exact Or.inr rfl
        · rw [g1,tk];exact Or.inr rfl
  | false =>
   cases h2:D' g.i with
   | true =>
    rcases h g (List.mem_cons_self ..) with q | ⟨q,_⟩
    · rw [h1,h2] at q;cases q
    · rw [h1] at q;cases q
   | false=>exact ih
theorem HJ {l:List AV} {d:Option Nat} {v:AV}:(mN l d v).length=l.length:=by cases d <;> simp [mN]
theorem su:∀ {gs:List G},(i_ tm D gs).length=tm.length
 | []=>rfl
 | g::gs=>by
  simp only [i_]
  cases D g.i with
  | true=>rw [cond_true,HJ];exact su
  | false=>exact su
theorem El {l l':List AV} {d:Option Nat} {v:AV} {t:Nat} (hl:l.length=l'.length) (h:l.getD t .junk=l'.getD t .junk):(mN l d v).getD t .junk=(mN l' d v).getD t .junk:=by
 cases d with
 | none=>exact h
 | some d =>
  simp only [mN,List.getD,List.getElem?_set,hl] at h ⊢
  split
  · split <;> rfl
  · exact h
theorem CG {l:List AV} {d:Option Nat} {v:AV} {t:Nat} (h:d≠some t):(mN l d v).getD t .junk=l.getD t .junk:=by
 cases d with
 | none=>rfl
 | some d =>
  have:d≠t:=fun q=>h (by rw [q])
  simp [mN,List.getD,List.getElem?_set_ne this]
theorem vu {t:Nat}:∀ {gs:List G},(∀ g ∈ gs,g.dst=some t→D g.i=D' g.i)→(i_ tm D gs).getD t .junk=(i_ tm D' gs).getD t .junk
 | [],_=>rfl
 | g::gs,h=>by
  have ih:=vu (gs:=gs) fun g' hg=>h g' (List.mem_cons_of_mem _ hg)
  simp only [i_]
  by_cases hr:g.dst=some t
  · rw [h g (List.mem_cons_self ..) hr]
    cases D' g.i with
    | true =>
     simp only [cond_true]
     exact El (by rw [su,su]) ih
    | false=>exact ih
  · have e:∀ (b:Bool) (x:List AV),(bif b then mN x g.dst g.v else x).getD t .junk=x.getD t .junk:=fun b x=>by
     cases b with
     | true=>exact CG hr
     | false=>rfl
    rw [e,e,ih]
def mO (D:Nat→Bool) (i:Nat):Nat→Bool:=fun j=>bif Nat.beq j i then true else D j
theorem qS {i:Nat}:mO D i i=true:=by simp [mO]
theorem mu {i j:Nat} (h:j≠i):mO D i j=D j:=by
 have:Nat.beq j i=false:=by
  cases hb:Nat.beq j i with
  | false=>rfl
  | true=>exact absurd (Nat.eq_of_beq_eq_true hb) h
 simp [mO,this]
theorem I3 {gs:List G} (h:∀ g ∈ gs,D g.i=D' g.i):rep hp D gs=rep hp D' gs:=funext fun r=>qX fun g hg _=>h g hg
theorem sr:∀ {gs:List G},(∀ g ∈ gs,D g.i=D' g.i)→i_ tm D gs=i_ tm D' gs
 | [],_=>rfl
 | g::gs,h=>by
  simp only [i_]
  rw [h g (List.mem_cons_self ..),sr fun g' hg=>h g' (List.mem_cons_of_mem _ hg)]
theorem EQ {g:G} {r:Nat}:∀ {gs:List G},gs.Pairwise (fun x y=>y.i<x.i)→g ∈ gs→D g.i=false →
 (∀ h ∈ gs,g.i<h.i→D h.i=true→(∀ r ∈ jG g.us,r ∉ h.us.map (·.1))∧(∀ r ∈ jG h.us,r ∉ g.us.map (·.1)))→rep hp (mO D g.i) gs r=zH g.us r (rep hp D gs r)
 | [],_,hg,_,_=>by cases hg
 | h::gs,hp',hg,hD,hc=>by
  rw [List.pairwise_cons] at hp'
  simp only [rep]
  rcases List.mem_cons.1 hg with q | q
  · subst q
    rw [qS,hD,cond_true,cond_false,jg]
    congr 1
    exact qX fun g' hg' _=>mu (Nat.ne_of_lt (hp'.1 g' hg'))
  · have hlt:=hp'.1 g q
    rw [mu (Nat.ne_of_gt hlt)]
    have ih:=EQ (r:=r) hp'.2 q hD fun h' hh'=>hc h' (List.mem_cons_of_mem _ hh')
    cases hb:D h.i with
    | false=>exact ih
    | true =>
     simp only [cond_true,jg]
     rw [ih]
     obtain ⟨c1,c2⟩:=hc h (List.mem_cons_self ..) hlt hb
     exact HA c1 c2 _
theorem FZ {l:List AV} {d e:Option Nat} {u v:AV} (h:∀ t ∈ d.toList,t ∉ e.toList):mN (mN l d u) e v=mN (mN l e v) d u:=by
 cases d with
 | none=>rfl
 | some d =>
  cases e with
  | none=>rfl
  | some e =>
   have:d≠e:=fun q=>h d (by simp) (by simp [q])
   exact List.set_comm _ _ this
theorem BD {g:G}:∀ {gs:List G},gs.Pairwise (fun x y=>y.i<x.i)→g ∈ gs→D g.i=false →
 (∀ h ∈ gs,g.i<h.i→D h.i=true→∀ t ∈ h.dst.toList,t ∉ g.dst.toList)→i_ tm (mO D g.i) gs=mN (i_ tm D gs) g.dst g.v
 | [],_,hg,_,_=>by cases hg
 | h::gs,hp',hg,hD,hc=>by
  rw [List.pairwise_cons] at hp'
  simp only [i_]
  rcases List.mem_cons.1 hg with q | q
  · subst q
    rw [qS,hD,cond_true,cond_false]
    congr 1
    exact sr fun g' hg'=>mu (Nat.ne_of_lt (hp'.1 g' hg'))
  · have hlt:=hp'.1 g q
    rw [mu (Nat.ne_of_gt hlt)]
    have ih:=BD hp'.2 q hD fun h' hh'=>hc h' (List.mem_cons_of_mem _ hh')
    cases hb:D h.i with
    | false=>exact ih
    | true =>
     simp only [cond_true]
     rw [ih]
     exact (FZ (hc h (List.mem_cons_self ..) hlt hb)).symm
end
def lb:List G→List Ka
 | []=>[]
 | g::gs=>bif g.go then ⟨g.i,g.us,g.rd⟩::lb gs else lb gs
theorem rr {hp:Hp} {a:List Nat}:∀ {gs:List G},(∀ g ∈ gs,g.go=false→g.us=[])→p8 hp a (lb gs)=rep hp (iw a) gs
 | [],_=>rfl
 | g::gs,h=>by
  have ih:=rr (hp:=hp) (a:=a) (gs:=gs) fun g' hg=>h g' (List.mem_cons_of_mem _ hg)
  simp only [lb,rep]
  cases hg:g.go with
  | true=>simp only [cond_true,p8,ih]
  | false =>
   rw [h g (List.mem_cons_self ..) hg]
   simp only [cond_false,applyF,ih]
   cases iw a g.i <;> rfl
theorem qz {hp:Hp}:∀ {gs:List G},(∀ g ∈ gs,g.go=false→g.us=[])→qW hp (lb gs)=rep hp (fun _=>true) gs
 | [],_=>rfl
 | g::gs,h=>by
  have ih:=qz (hp:=hp) (gs:=gs) fun g' hg=>h g' (List.mem_cons_of_mem _ hg)
  simp only [lb,rep]
  cases hg:g.go with
  | true=>simp only [cond_true,qW,ih]
  | false =>
   rw [h g (List.mem_cons_self ..) hg]
   simp only [cond_false,cond_true,applyF,ih]
theorem vk {a:List Nat} {us:il} {rd:List Nat}:∀ {gs:List G},Iv a us rd (lb gs)=true→∀ g' ∈ gs,g'.go=true→iw a g'.i=true ∨
 ((∀ r ∈ jG us,r ∉ g'.rd)∧(∀ r ∈ jG g'.us,r ∉ rd)∧(∀ r ∈ us.map (·.1),r ∉ jG g'.us)∧(∀ r ∈ jG us,r ∉ g'.us.map (·.1)))
 | [],_,_,hg,_=>by cases hg
 | g::gs,h,g',hg,hgo=>by
  simp only [lb] at h
  cases hgg:g.go with
  | false =>
   rw [hgg,cond_false] at h
   rcases List.mem_cons.1 hg with q | q
   · subst q;rw [hgg] at hgo;cases hgo
   · exact vk h g' q hgo
  | true =>
   rw [hgg,cond_true] at h
   simp only [Iv] at h
   cases hc:(iw a g.i||(kI (jG us) g.rd&&kI (jG g.us) rd&&kI (us.map (·.1)) (jG g.us)&&kI (jG us) (g.us.map (·.1)))) with
   | false=>rw [hc] at h;cases h
   | true =>
    rw [hc,cond_true] at h
    rcases List.mem_cons.1 hg with q | q
    · subst q
      simp only [Bool.or_eq_true,Bool.and_eq_true,rp] at hc
      rcases hc with q | ⟨⟨⟨q1,q2⟩,q3⟩,q4⟩
      · exact Or.inl q
      · exact Or.inr ⟨q1,q2,q3,q4⟩
    · exact vk h g' q hgo
end Go.V
end

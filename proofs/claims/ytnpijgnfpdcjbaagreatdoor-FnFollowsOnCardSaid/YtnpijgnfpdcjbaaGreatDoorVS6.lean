/- V: soundness, part 6 of 10. -/
import Derived.Test.YtnpijgnfpdcjbaaGreatDoorVS5
section
set_option linter.unusedVariables false
set_option linter.unusedSimpArgs false
namespace Go.V
open Go.RowKit
def kc (L:List Nat) (A B:Hp):Prop:=∀ r ∈ L,B r=A r∨∃ p e l,A r = .own p e l∧B r = .fro p e l
theorem Bm:∀ {cs:List AV} {r:Nat},r ∈ bp cs↔(AV.ref r ∈ cs∨∃ i f,AV.ptr r i f ∈ cs)
 | [],r=>by simp [bp]
 | c::cs,r=>by
  have ih:=Bm (cs:=cs) (r:=r)
  cases c <;> simp [bp,ih,List.mem_cons] <;> grind
theorem kc.sub {L M:List Nat} {A B:Hp} (h:kc L A B) (hs:∀ r ∈ M,r ∈ L):kc M A B:=fun r hr=>h r (hs r hr)
theorem pq {cs ds:List AV} (h:∀ c ∈ ds,c ∈ cs):∀ r ∈ bp ds,r ∈ bp cs:=fun r hr=>by
 rw [Bm] at hr ⊢
 rcases hr with q | ⟨i,f,q⟩
 · exact Or.inl (h _ q)
 · exact Or.inr ⟨i,f,h _ q⟩
theorem pj:∀ {us:il} {r:Nat} {x:oP},(r,x) ∈ us→(∀ p e l,x ≠ .fro p e l)→r ∈ jC us
 | [],_,_,h,_=>by cases h
 | (s,y)::us,r,x,h,hx=>by
  unfold jC
  rcases List.mem_cons.1 h with q | q
  · cases q
    split
    · rename_i q;cases q
    · rename_i q;cases q;exact absurd rfl (hx _ _ _)
    · rename_i q;cases q;exact List.mem_cons_self ..
  · have:=pj q hx
    split
    · rename_i q;cases q
    · rename_i q;cases q;exact this
    · rename_i q;cases q;exact List.mem_cons_of_mem _ this
section
variable {A B:Hp}
theorem pm {e:Ty} {c:AV} (h:kc (bp [c]) A B):getSl B e c=getSl A e c:=by
 cases c <;> try rfl
 rename_i r
 simp only [getSl]
 rcases h r (by simp [bp]) with q | ⟨p,e',l,q1,q2⟩
 · rw [q]
 · rw [q1,q2]
theorem kC:∀ {t:Ty} {cs:List AV},kc (bp cs) A B→prj B t cs=prj A t cs
 | .bool,_,_=>rfl
 | .int _,_,_=>rfl
 | .str,_,_=>rfl
 | .slice e,cs,h=>by
  simp only [prj,rK]
  split
  · exact pm h
  · rfl
 | .pair a b,cs,h=>by
  simp only [prj]
  rw [kC (t:=a) (h.sub (pq fun c hc=>List.mem_of_mem_take hc)),kC (t:=b) (h.sub (pq fun c hc=>List.mem_of_mem_drop hc))]
 | .unit,_,_=>rfl
 | .opq,_,_=>rfl
theorem zx {c:AV} (h:kc (bp [c]) A B):taint1 B c=taint1 A c:=by
 cases c <;> try rfl
 rename_i r
 simp only [taint1]
 rcases h r (by simp [bp]) with q | ⟨p,e',l,q1,q2⟩
 · rw [q]
 · rw [q1,q2]
theorem m3:∀ {cs:List AV},kc (bp cs) A B→taint B cs=taint A cs
 | [],_=>rfl
 | c::cs,h=>by
  simp only [taint]
  rw [zx (h.sub (pq fun d hd=>by simp at hd;subst hd;exact List.mem_cons_self ..)),m3 (h.sub (pq fun d hd=>List.mem_cons_of_mem _ hd))]
theorem kv:∀ {cs:List AV},kc (bp cs) A B→freeze B cs=freeze A cs
 | [],_=>rfl
 | c::cs,h=>by
  have ih:=kv (cs:=cs) (h.sub (pq fun d hd=>List.mem_cons_of_mem _ hd))
  cases c <;> try exact ih
  rename_i r
  simp only [freeze,ih]
  rcases h r (by simp [bp]) with q | ⟨p,e',l,q1,q2⟩
  · rw [q]
  · rw [q1,q2]
theorem HL {R:Type} {t:Ty} {a:AV} {k:AV→Option R} (h:kc (bp (cellsOf a)) A B):ld B t a k=ld A t a k:=by
 cases a <;> try rfl
 rename_i r i off
 simp only [ld]
 rcases h r (by simp [bp,cellsOf]) with q | ⟨p,e',l,q1,q2⟩
 · rw [q]
 · rw [q1,q2]
theorem xk {t:Ty} {a v:AV} {us:il} (hs:k_ A t a v some=some us) (h1:kc (bp (cellsOf a)) A B) (h2:kc (bp (cellsOf v)) A B) (hh:∀ r ∈ jC us,r ∈ bp (cellsOf a)→B r=A r):k_ B t a v some=some us:=by
 unfold k_ at hs ⊢
 obtain ⟨hc,hs⟩:=aI hs
 rw [hc,cond_true]
 split at hs
 · rename_i r i off _
   split at hs
   · rename_i cs hr
     obtain ⟨hle,hs⟩:=aI hs
     cases hs
     rw [hh r (pj (List.mem_singleton.2 rfl) (fun _ _ _ q=>by cases q)) (by simp [bp,cellsOf]),hr]
     simp only [hle,cond_true]
   · rename_i p e l hr
     obtain ⟨hn,hs⟩:=oV hs
     split at hs
     · rename_i y hy
       split at hs
       · rename_i z hz
         cases hs
         rw [hh r (pj (List.mem_append_right _ (List.mem_singleton.2 rfl)) (fun _ _ _ q=>by cases q)) (by simp [bp,cellsOf]),hr]
         simp only [hn,cond_false,kC h2,hy,hz,kv h2,m3 h2]
       · cases hs
     · cases hs
   · cases hs
 · cases hs
theorem ui {R:Type} {tb:kp} {t:Nat} {x i:AV} {k:AV→Option R} (h:kc (bp (cellsOf x)) A B):indexAddr tb B t x i k=indexAddr tb A t x i k:=by
 unfold indexAddr
 split
 · cases x <;> try rfl
   rename_i r
   simp only []
   rcases h r (by simp [bp,cellsOf]) with q | ⟨p,e',l,q1,q2⟩
   · rw [q]
   · rw [q1,q2]
 · rfl
theorem xt {R:Type} {u:Ty} {x:AV} {lo hi:Option AV} {k:AV→il→Option R} (h:kc (bp (cellsOf x)) A B):k8 u B x lo hi k=k8 u A x lo hi k:=by
 cases x with
 | ref r =>
  cases u <;> try rfl
  simp only [k8]
  rcases h r (by simp [bp,cellsOf]) with q | ⟨p,e',l,q1,q2⟩
  · rw [q]
  · rw [q1,q2]
 | _=>cases u <;> rfl
theorem BH {R:Type} {u:Ty} {x:AV} {k:AV→Option R} (h:kc (bp (cellsOf x)) A B):lenOf u B x k=lenOf u A x k:=by
 cases x with
 | ref r =>
  cases u <;> try rfl
  simp only [lenOf]
  rcases h r (by simp [bp,cellsOf]) with q | ⟨p,e',l,q1,q2⟩
  · rw [q]
  · rw [q1,q2]
 | _=>cases u <;> rfl
theorem wS {c:AV}:∀ r ∈ bp [c],r ∈ bp (cellsOf c):=by
 intro r hr
 cases c <;> simp_all [bp,cellsOf]
theorem vW {e:Ty} {id:Nat} {d s v:AV} {us:il} (hs:j7 e A id d s (fun v us=>some (v,us))=some (v,us)) (h1:kc (bp (cellsOf d)) A B) (h2:kc (bp (cellsOf s)) A B) (hh:∀ r ∈ jC us,r ∈ bp (cellsOf d)→B r=A r) :
 j7 e B id d s (fun v us=>some (v,us))=some (v,us):=by
 unfold j7 at hs ⊢
 have h2':=h2.sub wS
 rw [pm h2']
 split at hs
 · cases hs
 · split at hs
   · rw [m3 h2'];exact hs
   · rename_i r
     split at hs
     · rename_i p t l hr
       split at hs
       · rename_i ld hld
         obtain ⟨hle,hs⟩:=aI hs
         cases hs
         have hB:B r=A r:=hh r (pj (List.mem_cons_self ..) (fun _ _ _ q=>by cases q)) (by simp [bp,cellsOf])
         rw [hB,hr]
         simp only [hld,hle,cond_true,m3 h2']
       · cases hs
     · cases hs
   · cases hs
theorem uW {e:Ty} {ρ:Operand→AV}:∀ {ps:List (Nat × Operand)} {l:List e.d} {b:Bool},(∀ p ∈ ps,kc (bp (cellsOf (ρ p.2))) A B)→elems B e ρ ps l b=elems A e ρ ps l b
 | [],_,_,_=>rfl
 | (i,x)::ps,l,b,h=>by
  have h0:kc (bp (cellsOf (ρ x))) A B:=h (i,x) (List.mem_cons_self ..)
  simp only [elems]
  rw [kC h0,m3 h0]
  split
  · rw [uW fun p hp=>h p (List.mem_cons_of_mem _ hp)]
  · rfl
theorem Az {v:AV} (h:kc (bp [v]) A B):pB B v=pB A v:=by
 cases v <;> try rfl
 rename_i r i f
 simp only [pB]
 rcases h r (by simp [bp]) with q | ⟨p,e,l,q1,q2⟩
 · rw [q]
 · rw [q1,q2]
theorem lE:∀ {cs:List AV},(∀ r ∈ bp cs,B r=A r)→dj B cs=dj A cs
 | [],_=>rfl
 | c::cs,h=>by
  cases c <;> simp only [dj] <;> first
   | rfl
   | exact lE (cs:=cs) h
   | (rw [h _ (by simp [bp]),lE (cs:=cs) fun r q=>h r (by simp [bp,q])])
theorem tj {hp:Hp} {p:Bool}:∀ {t:Ty} {x y:t.d} {cs:List AV},prj hp t cs=some x→dj hp cs=true→(n_ p t y cs).map (·.1)=bp cs
 | .bool,x,y,cs,hx,hf=>by
  simp only [prj] at hx
  unfold sj at hx
  split at hx
  · rfl
  · cases hx
 | .int k,x,y,cs,hx,hf=>by
  simp only [prj] at hx
  unfold w7 at hx
  split at hx
  · rfl
  · cases hx
 | .str,x,y,cs,hx,hf=>by
  simp only [prj] at hx
  unfold wL at hx
  split at hx
  · rfl
  · cases hx
 | .unit,x,y,cs,hx,hf=>by
  simp only [prj] at hx
  unfold sZ at hx
  split at hx
  · rfl
  · cases hx
 | .opq,x,y,cs,hx,hf=>by cases hx
 | .pair s t,x,y,cs,hx,hf=>by
  simp only [prj] at hx
  obtain ⟨h1,h2⟩:=cH hx
  have app:∀ cs ds:List AV,dj hp (cs++ds)=true→dj hp cs=true∧dj hp ds=true:=by
   intro cs ds
   induction cs with
   | nil=>exact fun q=>⟨rfl,q⟩
   | cons c cs ih =>
    intro q
    cases c <;> simp only [List.cons_append,dj,Bool.and_eq_true] at q ⊢ <;> first | (cases q;done) | (exact ih q) | (exact ⟨⟨q.1,(ih q.2).1⟩,(ih q.2).2⟩)
  obtain ⟨f1,f2⟩:=app (cs.take s.size) (cs.drop s.size) (by rw [List.take_append_drop];exact hf)
  show (n_ p s y.1 _++n_ p t y.2 _).map (·.1)=_
  rw [List.map_append,tj h1 f1,tj h2 f2,← pz]
 | .slice e,x,y,cs,hx,hf=>by
  simp only [prj] at hx
  unfold rK at hx
  split at hx
  · rename_i c
    cases c <;> first | rfl | (simp [getSl] at hx;done) | (simp [dj] at hf;done)
  · cases hx
theorem n7 {hp:Hp} {al:Bool}:∀ {A:List Pm} {vs:List AV} {x:(tup (nA A)).d} {y:(tup (fw A)).d} {id:Nat},eD hp A vs=some x→∀ r ∈ lM hp A vs,r ∈ (ij hp al A vs y id).map (·.1)
 | [],_,_,_,_,_,r,hr=>by cases hr
 | .val t::A,vs,x,y,id,hx,r,hr=>by
  cases vs with
  | nil=>simp only [eD] at hx;cases hx
  | cons v vs =>
   simp only [eD] at hx
   exact n7 (A:=A) (cH (aI hx).2).2 r hr
 | .lend t::A,vs,x,y,id,hx,r,hr=>by
  cases vs with
  | nil=>simp only [eD] at hx;cases hx
  | cons v vs =>
   simp only [eD] at hx
   have h1:=aI hx
   have h2:=cH h1.2
   simp only [lM,List.headD_cons,List.tail_cons,List.mem_append] at hr
   simp only [ij,List.headD_cons,List.tail_cons,List.map_append,List.mem_append]
   rcases hr with q | q
   · left
     rw [tj h2.1 (Bool.and_eq_true _ _▸h1.1:_∧_).2]
     exact q
   · exact Or.inr (n7 (A:=A) h2.2 r q)
 | .give t::A,vs,x,y,id,hx,r,hr=>by
  cases vs with
  | nil=>simp only [eD] at hx;cases hx
  | cons v vs =>
   simp only [eD] at hx
   have h1:=aI hx
   have h2:=cH h1.2
   simp only [lM,List.headD_cons,List.tail_cons,List.mem_append] at hr
   simp only [ij,List.headD_cons,List.tail_cons,List.map_append,List.mem_append]
   rcases hr with q | q
   · left;rw [od];exact q
   · exact Or.inr (n7 (A:=A) h2.2 r q)
 | .fn f n::A,vs,x,y,id,hx,r,hr=>n7 (A:=A) hx r hr
 | .io o t::A,vs,x,y,id,hx,r,hr=>by
  cases vs with
  | nil=>simp only [eD] at hx;cases hx
  | cons v vs =>
   simp only [eD] at hx
   split at hx
   · rename_i cs hcs
     obtain ⟨r0,hv,hrow⟩:=oY hcs
     subst hv
     obtain ⟨ho,hx⟩:=aI hx
     simp only [lM,List.headD_cons,List.tail_cons,hcs,Option.getD_some,bp,List.cons_append,List.nil_append,List.mem_cons,List.mem_append] at hr
     cases o with
     | true =>
      simp only [ij,List.headD_cons,List.tail_cons,hcs,Option.getD_some,cond_true,y5,List.map_append,List.map_cons,List.mem_append,List.mem_cons,od]
      rcases hr with q | q | q
      · exact Or.inr (Or.inl q)
      · exact Or.inl q
      · exact Or.inr (Or.inr (Or.inr (n7 (A:=A) (cH hx).2 r q)))
     | false =>
      simp only [ij,List.headD_cons,List.tail_cons,hcs,Option.getD_some,cond_false,y5,List.map_cons,List.mem_cons]
      rcases hr with q | q | q
      · exact Or.inl q
      · cases q
      · exact Or.inr (n7 (A:=A) (cH hx).2 r q)
   · cases hx
theorem jh:∀ {Q:List Pm} {vs:List AV} {x:(tup (nA Q)).d},eD A Q vs=some x→kc (lM A Q vs++pH A Q vs) A B→(∀ r ∈ lM A Q vs,B r=A r) →
 eD B Q vs=some x∧lM B Q vs=lM A Q vs∧pH B Q vs=pH A Q vs∧∀ al y id,ij B al Q vs y id=ij A al Q vs y id
 | [],vs,x,hx,_,_=>⟨hx,rfl,rfl,fun _ _ _=>rfl⟩
 | .val t::Q,vs,x,hx,hf,hh=>by
  cases vs with
  | nil=>simp only [eD] at hx;cases hx
  | cons v vs =>
   simp only [eD] at hx ⊢
   simp only [lM,pH,List.headD_cons,List.tail_cons] at hf hh ⊢
   have h1:=aI hx
   have h2:=cH h1.2
   obtain ⟨g1,g2,g3,g4⟩:=jh (Q:=Q) h2.2 (hf.sub fun r q=>by
    rcases List.mem_append.1 q with q | q
    · exact List.mem_append_left _ q
    · exact List.mem_append_right _ (List.mem_append_right _ q)) hh
   refine ⟨?_,g2,by rw [g3],fun al y id=>g4 al y id⟩
   rw [kC (hf.sub fun r q=>List.mem_append_right _ (List.mem_append_left _ q)),h2.1,g1,h1.1]
   rfl
 | .lend t::Q,vs,x,hx,hf,hh=>by
  cases vs with
  | nil=>simp only [eD] at hx;cases hx
  | cons v vs =>
   simp only [eD] at hx ⊢
   simp only [lM,pH,List.headD_cons,List.tail_cons] at hf hh ⊢
   have h1:=aI hx
   have h2:=cH h1.2
   obtain ⟨g1,g2,g3,g4⟩:=jh (Q:=Q) h2.2 (hf.sub fun r q=>by
    rcases List.mem_append.1 q with q | q
    · exact List.mem_append_left _ (List.mem_append_right _ q)
    · exact List.mem_append_right _ q) (fun r q=>hh r (List.mem_append_right _ q))
   refine ⟨?_,by rw [g2],g3,fun al y id=>by simp only [ij,List.headD_cons,List.tail_cons,g4]⟩
   rw [lE fun r q=>hh r (List.mem_append_left _ q),kC (hf.sub fun r q=>List.mem_append_left _ (List.mem_append_left _ q)),h2.1,g1,h1.1]
   rfl
 | .give t::Q,vs,x,hx,hf,hh=>by
  cases vs with
  | nil=>simp only [eD] at hx;cases hx
  | cons v vs =>
   simp only [eD] at hx ⊢
   simp only [lM,pH,List.headD_cons,List.tail_cons] at hf hh ⊢
   have h1:=aI hx
   have h2:=cH h1.2
   obtain ⟨g1,g2,g3,g4⟩:=jh (Q:=Q) h2.2 (hf.sub fun r q=>by
    rcases List.mem_append.1 q with q | q
    · exact List.mem_append_left _ (List.mem_append_right _ q)
    · exact List.mem_append_right _ q) (fun r q=>hh r (List.mem_append_right _ q))
   refine ⟨?_,by rw [g2],g3,fun al y id=>congrArg (qF (bp (cellsOf v))++·) (g4 al y id)⟩
   rw [lE fun r q=>hh r (List.mem_append_left _ q),kC (hf.sub fun r q=>List.mem_append_left _ (List.mem_append_left _ q)),h2.1,g1,h1.1]
   rfl
 | .fn f n::Q,vs,x,hx,hf,hh=>jh (Q:=Q) hx hf hh
 | .io o t::Q,vs,x,hx,hf,hh=>by
  cases vs with
  | nil=>simp only [eD] at hx;cases hx
  | cons v vs =>
   have hbx:pB B v=pB A v:=Az (hf.sub fun r q=>List.mem_append_left _ (by simp only [lM,List.headD_cons];exact List.mem_append_left _ q))
   simp only [eD,hbx] at hx ⊢
   cases hcs:pB A v with
   | none=>rw [hcs] at hx;cases hx
   | some cs =>
    rw [hcs] at hx
    simp only [] at hx ⊢
    simp only [lM,pH,List.headD_cons,List.tail_cons,hbx,hcs,Option.getD_some] at hf hh ⊢
    have h1:=aI hx
    have h2:=cH h1.2
    obtain ⟨g1,g2,g3,g4⟩:=jh (Q:=Q) h2.2 (hf.sub fun r q=>by
     rcases List.mem_append.1 q with q | q
     · exact List.mem_append_left _ (List.mem_append_right _ (List.mem_append_right _ q))
     · exact List.mem_append_right _ (List.mem_append_right _ q)) (fun r q=>hh r (List.mem_append_right _ (List.mem_append_right _ q)))
    have hcf:kc (bp cs) A B:=hf.sub fun r q=>by
     cases o with
     | true=>exact List.mem_append_left _ (List.mem_append_right _ (List.mem_append_left _ q))
     | false=>exact List.mem_append_right _ (List.mem_append_left _ q)
    have hfo:(!o||dj B cs)=(!o||dj A cs):=by
     cases o with
     | true=>rw [lE fun r q=>hh r (List.mem_append_right _ (List.mem_append_left _ q))]
     | false=>rfl
    refine ⟨?_,by rw [g2],by rw [g3],fun al y id=>by simp only [ij,List.headD_cons,List.tail_cons,hbx,g4]⟩
    rw [hfo,kC hcf,h2.1,g1,h1.1]
    rfl
theorem B_ {c:Cn} {id nx:Nat} {as:List AV} {v:AV} {us:il} (hs:pU c A id as (fun v us nx=>some (v,us,nx))=some (v,us,nx))
 (h:∀ vs,g8 c.A as=some vs→kc (lM A c.A vs++pH A c.A vs) A B) (hh:∀ vs,g8 c.A as=some vs→∀ r ∈ jC us,r ∈ lM A c.A vs→B r=A r) :
 pU c B id as (fun v us nx=>some (v,us,nx))=some (v,us,nx):=by
 have hs0:=hs
 unfold pU at hs ⊢
 cases hf:g8 c.A as with
 | none=>rw [hf] at hs;cases hs
 | some vs =>
 rw [hf] at hs
 simp only [] at hs ⊢
 cases hx:eD A c.A vs with
 | none=>rw [hx] at hs;cases hs
 | some x =>
 rw [hx] at hs
 simp only [] at hs
 have h1:=aI hs
 cases hy:c.fn x with
 | none=>have h2:=h1.2;rw [hy] at h2;cases h2
 | some y =>
 have h2:=h1.2
 rw [hy] at h2
 simp only [Option.some.injEq,Prod.mk.injEq] at h2
 have hgv:∀ r ∈ lM A c.A vs,B r=A r:=fun r q=>by
  refine hh vs hf r ?_ q
  obtain ⟨z,hz,rfl⟩:=List.mem_map.1 (n7 (al:=c.al) (y:=zZ (fw c.A) y) (id:=id) hx r q)
  rw [← h2.2.1]
  exact pj (x:=z.2) (List.mem_append_right _ (List.mem_append_left _ hz)) (jA z.1 z.2 hz)
 obtain ⟨g1,g2,g3,g4⟩:=jh hx (h vs hf) hgv
 have hrefs:∀ l:List Nat,bp (l.map AV.ref)=l:=by
  intro l
  induction l with
  | nil=>rfl
  | cons r l ih=>simp [bp,ih]
 rw [g1,g2,g3]
 simp only [hy]
 rw [g4,kv (A:=A) (B:=B) (by rw [hrefs];exact (h vs hf).sub fun r q=>List.mem_append_right _ q)]
 rw [hy] at hs
 exact hs
theorem Cr {c:Cn} {id nx:Nat} {as:List AV} {v:AV} {us:il} (hs:vT c A id as (fun v us nx=>some (v,us,nx))=some (v,us,nx))
 (h:∀ vs,g8 c.A as=some vs→kc (lM A c.A vs++pH A c.A vs) A B) :
 vT c B id as (fun v us nx=>some (v,us,nx))=some (v,us,nx):=by
 have hs0:=hs
 unfold vT at hs ⊢
 cases hf:g8 c.A as with
 | none=>rw [hf] at hs;cases hs
 | some vs =>
 rw [hf] at hs
 simp only [] at hs ⊢
 cases hx:eD A c.A vs with
 | none=>rw [hx] at hs;cases hs
 | some x =>
 rw [hx] at hs
 simp only [] at hs
 have h1:=aI hs
 have hgv:∀ r ∈ lM A c.A vs,B r=A r:=fun r q=>by
  rw [List.isEmpty_iff.1 h1.1] at q
  cases q
 obtain ⟨g1,g2,g3,g4⟩:=jh hx (h vs hf) hgv
 have hrefs:∀ l:List Nat,bp (l.map AV.ref)=l:=by
  intro l
  induction l with
  | nil=>rfl
  | cons r l ih=>simp [bp,ih]
 rw [g1,g2,g3,kv (A:=A) (B:=B) (by rw [hrefs];exact (h vs hf).sub fun r q=>List.mem_append_right _ q)]
 exact hs
theorem AZ {c:Cn} {id nx:Nat} {as:List AV} {v:AV} {us:il} (hs:qE c A id as (fun v us nx=>some (v,us,nx))=some (v,us,nx))
 (h:∀ vs,g8 c.A as=some vs→kc (lM A c.A vs++pH A c.A vs) A B) (hh:∀ vs,g8 c.A as=some vs→∀ r ∈ jC us,r ∈ lM A c.A vs→B r=A r) :
 qE c B id as (fun v us nx=>some (v,us,nx))=some (v,us,nx):=by
 unfold qE at hs ⊢
 cases hb:qp c.R with
 | false=>rw [hb] at hs;exact B_ hs h hh
 | true=>rw [hb] at hs;exact Cr hs h
theorem uX:∀ {cs ds:List AV},bp (cs++ds)=bp cs++bp ds
 | [],_=>rfl
 | c::cs,ds=>by cases c <;> simp [bp,uX (cs:=cs)]
theorem se {α:Type} {f:α→List AV}:∀ {l:List α},bp (l.flatMap f)=l.flatMap fun x=>bp (f x)
 | []=>rfl
 | x::l=>by simp [uX,se (l:=l)]
theorem m5 {tb:kp} {tm:List AV} {t:Nat} {x:Operand}:bp (cellsOf (val tb tm t x))=bp (cellsOf (val tb tm 0 x)):=by
 cases x with
 | tmp i=>rfl
 | func f=>rfl
 | global g=>rfl
 | const v =>
  simp only [val]
  unfold Kx
  cases v <;> try rfl
  rename_i a n c
  cases a <;> try rfl
  cases n <;> try rfl
  cases c <;> try rfl
  simp only []
  split <;> (split <;> rfl)
theorem CP {tb:kp} {ct:List (Nat × Cn)} {o:Oper} {tm:List AV} {id nx:Nat} {v:AV} {us:il} (hs:e9 tb ct o tm A id (fun v us nx=>some (v,us,nx))=some (v,us,nx))
 (h:kc (reads tb ct o tm A) A B) (hh:∀ r ∈ jC us,r ∈ reads tb ct o tm A→B r=A r):e9 tb ct o tm B id (fun v us nx=>some (v,us,nx))=some (v,us,nx):=by
 cases hop:o.op with
 | load t x =>
  simp only [e9,hop,reads] at hs h ⊢
  split at hs
  · rename_i u hu
    try simp only [hu]
    rw [HL h];exact hs
  · cases hs
 | store t x y =>
  simp only [e9,hop,reads] at hs h hh ⊢
  split at hs
  · rename_i u hu
    try simp only [hu]
    rw [k0] at hs
    cases hl:k_ A u (val tb tm 0 x) (val tb tm t y) some with
    | none=>rw [hl] at hs;cases hs
    | some us' =>
     rw [hl] at hs
     cases hs
     rw [k0]
     have h1:kc (bp (cellsOf (val tb tm 0 x))) A B:=h.sub fun r hr=>List.mem_append_left _ hr
     have h2:kc (bp (cellsOf (val tb tm t y))) A B:=h.sub fun r hr=>List.mem_append_right _ (by rw [← m5 (t:=t)];exact hr)
     rw [xk hl h1 h2 fun r hr hm=>hh r hr (List.mem_append_left _ hm)]
     rfl
  · cases hs
 | indexAddr t x i =>
  simp only [e9,hop,reads] at hs h ⊢
  rw [ui (by rw [m5];exact h)]
  exact hs
 | slice t x lo hi mx =>
  cases mx with
  | some _=>simp only [e9,hop] at hs;cases hs
  | none =>
   simp only [e9,hop,reads] at hs h ⊢
   rw [xt (by rw [m5];exact h)]
   exact hs
 | convert s d x =>
  simp only [e9,hop,reads] at hs h ⊢
  split at hs
  · rename_i h1 h2 h3
    try simp only [h1,h2,h3]
    exact hs
  · rename_i h1 h2 h3
    try simp only [h1,h2,h3]
    exact hs
  · rename_i h1 h2 h3
    rw [pm (A:=A) (B:=B) (kc.sub (by rw [m5];exact h) wS)]
    exact hs
  · cases hs
 | buildSlice t n ps =>
  simp only [e9,hop,reads] at hs h ⊢
  split at hs
  · rename_i e he
    try simp only [he]
    have h1:∀ p ∈ ps.toList,kc (bp (cellsOf (val tb tm 0 p.2))) A B:=fun p hp=>h.sub fun r hr=>List.mem_flatMap.2 ⟨p,hp,hr⟩
    rw [uW h1,kv (A:=A) (B:=B) (by rw [se];exact h)]
    exact hs
  · cases hs
 | call c =>
  have h1:∀ x ∈ c.args.toList,kc (bp (cellsOf (val tb tm 0 x))) A B:=fun x hx=>h.sub fun r hr=>by
   simp only [reads,hop]
   exact List.mem_append_left _ (List.mem_flatMap.2 ⟨x,hx,hr⟩)
  simp only [e9,hop] at hs ⊢
  split at hs
  · rename_i hc
    try simp only [hc]
    split at hs
    · rename_i x t ha ht
      try simp only [ha,ht]
      rw [BH (by rw [m5];exact h1 x (by rw [ha];simp))]
      exact hs
    · cases hs
  · rename_i hc
    try simp only [hc]
    split at hs
    · rename_i d s t t' ha ht
      try simp only [ha,ht]
      split at hs
      · rename_i e he
        try simp only [he]
        cases hb:Nat.beq t t' with
        | false=>rw [hb] at hs;cases hs
        | true =>
         rw [hb,cond_true] at hs
         rw [cond_true,gy]
         rw [gy] at hs
         cases hl:j7 e A id (val tb tm t d) (val tb tm t s) (fun v us=>some (v,us)) with
         | none=>rw [hl] at hs;cases hs
         | some z =>
          obtain ⟨z1,z2⟩:=z
          rw [hl] at hs
          cases hs
          rw [vW hl (by rw [m5];exact h1 d (by rw [ha];simp)) (by rw [m5];exact h1 s (by rw [ha];simp)) ?_]
          · rfl
          · intro r hr hm
            refine hh r hr ?_
            simp only [reads,hop]
            exact List.mem_append_left _ (List.mem_flatMap.2 ⟨d,by rw [ha];simp,by rw [← m5 (t:=t)];exact hm⟩)
      · cases hs
    · cases hs
  · rename_i hc
    try simp only [hc]
    exact hs
  · rename_i hc
    try simp only [hc]
    exact hs
  · rename_i x hc
    try simp only [hc]
    split at hs
    · rename_i q hq
      try simp only [hq]
      have hsub:∀ vs,g8 q.1.A q.2=some vs→∀ r ∈ lM A q.1.A vs++pH A q.1.A vs,r ∈ reads tb ct o tm A:=fun vs hvs r hr=>by
       simp only [reads,hop,hc,hq,hvs]
       exact List.mem_append_right _ hr
      exact AZ (A:=A) (B:=B) hs (fun vs hvs=>h.sub (hsub vs hvs)) (fun vs hvs r hr hm=>hh r hr (hsub vs hvs r (List.mem_append_left _ hm)))
    · cases hs
  · cases hs
 | makeFunc fn first caps =>
  cases fn with
  | func f=>simp only [e9,hop] at hs ⊢;exact hs
  | _=>unfold e9 at hs;rw [hop] at hs;cases hs
 | _=>unfold e9 at hs ⊢;rw [hop] at hs ⊢;exact hs
end
end Go.V
end
section
namespace Go.V
open Go.RowKit
section
variable {tb:kp} {ct:List (Nat × Cn)} {tm tm':List AV} {hp:Hp} {id:Nat} {R:Type}
theorem Dk {f g:Operand→AV} {o:Option Operand} (h:∀ x ∈ o.toList,f x=g x):o.map f=o.map g:=by
 cases o with
 | none=>rfl
 | some x=>simp [h x (by simp)]
theorem nw {offs:List (Nat × Nat)} {f g:Operand→AV}:∀ {ps:List (Nat × Operand)} {z:List AV},(∀ p ∈ ps,f p.2=g p.2)→jp z offs f ps=jp z offs g ps
 | [],_,_=>rfl
 | (i,x)::ps,z,h=>by
  have h0:f x=g x:=h (i,x) (List.mem_cons_self ..)
  simp only [jp,h0]
  split
  · rw [nw fun p hp=>h p (List.mem_cons_of_mem _ hp)]
  · rfl
theorem uR {e:Ty} {f g:Operand→AV}:∀ {ps:List (Nat × Operand)} {l:List e.d} {b:Bool},(∀ p ∈ ps,f p.2=g p.2)→elems hp e f ps l b=elems hp e g ps l b
 | [],_,_,_=>rfl
 | (i,x)::ps,l,b,h=>by
  have h0:f x=g x:=h (i,x) (List.mem_cons_self ..)
  simp only [elems,h0]
  split
  · rw [uR fun p hp=>h p (List.mem_cons_of_mem _ hp)]
  · rfl
theorem kr {α β:Type} {f g:α→List β}:∀ {l:List α},(∀ x ∈ l,f x=g x)→l.flatMap f=l.flatMap g
 | [],_=>rfl
 | x::l,h=>by simp [h x (List.mem_cons_self ..),kr fun y hy=>h y (List.mem_cons_of_mem _ hy)]
theorem I5 {o:Oper} {k:AV→il→Nat→Option R} (h:∀ x ∈ o.op.operands.toList,∀ T,val tb tm' T x=val tb tm T x) :
 e9 tb ct o tm' hp id k=e9 tb ct o tm hp id k∧reads tb ct o tm' hp=reads tb ct o tm hp:=by
 cases hop:o.op with
 | buildSlice t n ps =>
  have h0:∀ p ∈ ps.toList,val tb tm' 0 p.2=val tb tm 0 p.2:=fun p hp=>h p.2 (by rw [hop];simp only [Op.operands,List.toList_toArray];exact List.mem_map_of_mem hp) 0
  simp only [e9,reads,hop]
  have e1:ps.toList.flatMap (fun p=>cellsOf (val tb tm' 0 p.2))=ps.toList.flatMap (fun p=>cellsOf (val tb tm 0 p.2)):=kr fun p hp=>by rw [h0 p hp]
  rw [e1]
  refine ⟨?_,kr fun p hp=>by rw [h0 p hp]⟩
  split
  · rw [uR h0]
  · rfl
 | build t ps =>
  have h0:∀ p ∈ ps.toList,val tb tm' 0 p.2=val tb tm 0 p.2:=fun p hp=>h p.2 (by rw [hop];simp only [Op.operands,List.toList_toArray];exact List.mem_map_of_mem hp) 0
  simp only [e9,reads,hop]
  exact ⟨by
   split
   · rw [nw h0]
   · rfl,trivial⟩
 | makeFunc fn first caps =>
  have h0:caps.toList.map (val tb tm' 0)=caps.toList.map (val tb tm 0):=List.map_congr_left fun x hx=>h x (by rw [hop];simp only [Op.operands,Array.toList_append];exact List.mem_append_right _ hx) 0
  cases fn <;> simp only [e9,reads,hop]
  · exact ⟨by rw [h0],trivial⟩
  all_goals exact ⟨trivial,trivial⟩
 | call c =>
  have hin:∀ x ∈ c.args.toList,∀ T,val tb tm' T x=val tb tm T x:=fun x hx=>h x (by rw [hop];simp only [Op.operands,Call.operands,Array.toList_append];exact List.mem_append_right _ hx)
  have h0:c.args.toList.map (val tb tm' 0)=c.args.toList.map (val tb tm 0):=List.map_congr_left fun x hx=>hin x hx 0
  have hcal:∀ x,c.callee = .value x→oF tb ct tm' x (c.args.toList.map (val tb tm' 0))=oF tb ct tm x (c.args.toList.map (val tb tm 0)):=fun x hx=>by
   rw [h0]
   unfold oF
   rw [h x (by rw [hop];simp only [Op.operands,Call.operands,Array.toList_append,hx];exact List.mem_append_left _ (by simp)) 0]
  simp only [e9,reads,hop]
  refine ⟨?_,?_⟩
  · split
    · split
      · rename_i x t ha ht
        rw [hin x (by rw [ha];simp)]
      · rfl
    · split
      · rename_i d s t t' ha ht
        split
        · rw [hin d (by rw [ha];simp),hin s (by rw [ha];simp)]
        · rfl
      · rfl
    · rw [h0]
    · rw [h0]
    · rename_i x hc
      rw [hcal x hc]
    · rfl
  · rw [kr (f:=fun x=>bp (cellsOf (val tb tm' 0 x))) (g:=fun x=>bp (cellsOf (val tb tm 0 x))) fun x hx=>by rw [hin x hx]]
    congr 1
    split
    · rename_i x hc
      rw [hcal x hc]
    · rfl
 | slice t x lo hi mx =>
  have hx:=h x (by rw [hop];simp [Op.operands])
  have hl:lo.map (val tb tm' 0)=lo.map (val tb tm 0):=Dk fun y hy=>h y (by rw [hop];simp [Op.operands] at hy ⊢;simp [hy]) 0
  have hh:hi.map (val tb tm' 0)=hi.map (val tb tm 0):=Dk fun y hy=>h y (by rw [hop];simp [Op.operands] at hy ⊢;simp [hy]) 0
  cases mx <;> simp only [e9,reads,hop,hx,hl,hh] <;> exact ⟨trivial,trivial⟩
 | pick c x y =>
  have h1:=h c (by rw [hop];simp [Op.operands])
  have h2:=h x (by rw [hop];simp [Op.operands])
  have h3:=h y (by rw [hop];simp [Op.operands])
  simp only [e9,reads,hop,h1,h2,h3]
  exact ⟨trivial,trivial⟩
 | store t x y =>
  have h1:=h x (by rw [hop];simp [Op.operands])
  have h2:=h y (by rw [hop];simp [Op.operands])
  simp only [e9,reads,hop,h1,h2]
  exact ⟨trivial,trivial⟩
 | binOp op t x y u =>
  have h1:=h x (by rw [hop];simp [Op.operands])
  have h2:=h y (by rw [hop];simp [Op.operands])
  simp only [e9,reads,hop,h1,h2]
  exact ⟨trivial,trivial⟩
 | makeSlice t x y =>
  have h1:=h x (by rw [hop];simp [Op.operands])
  have h2:=h y (by rw [hop];simp [Op.operands])
  simp only [e9,reads,hop,h1,h2]
  exact ⟨trivial,trivial⟩
 | indexAddr t x y =>
  have h1:=h x (by rw [hop];simp [Op.operands])
  have h2:=h y (by rw [hop];simp [Op.operands])
  simp only [e9,reads,hop,h1,h2]
  exact ⟨trivial,trivial⟩
 | index t x y =>
  have h1:=h x (by rw [hop];simp [Op.operands])
  have h2:=h y (by rw [hop];simp [Op.operands])
  simp only [e9,reads,hop,h1,h2]
  exact ⟨trivial,trivial⟩
 | alloc t=>simp only [e9,reads,hop];exact ⟨trivial,trivial⟩
 | move x=>have h1:=h x (by rw [hop];simp [Op.operands]);simp only [e9,reads,hop,h1];exact ⟨trivial,trivial⟩
 | assign x=>have h1:=h x (by rw [hop];simp [Op.operands]);simp only [e9,reads,hop,h1];exact ⟨trivial,trivial⟩
 | box t x=>have h1:=h x (by rw [hop];simp [Op.operands]);simp only [e9,reads,hop,h1];exact ⟨trivial,trivial⟩
 | load t x=>have h1:=h x (by rw [hop];simp [Op.operands]);simp only [e9,reads,hop,h1];exact ⟨trivial,trivial⟩
 | nilCheck x=>have h1:=h x (by rw [hop];simp [Op.operands]);simp only [e9,reads,hop,h1];exact ⟨trivial,trivial⟩
 | unOp op t x=>have h1:=h x (by rw [hop];simp [Op.operands]);simp only [e9,reads,hop,h1];exact ⟨trivial,trivial⟩
 | convert s d x=>have h1:=h x (by rw [hop];simp [Op.operands]);simp only [e9,reads,hop,h1];exact ⟨trivial,trivial⟩
 | fieldAddr s x f=>have h1:=h x (by rw [hop];simp [Op.operands]);simp only [e9,reads,hop,h1];exact ⟨trivial,trivial⟩
 | field s x f=>have h1:=h x (by rw [hop];simp [Op.operands]);simp only [e9,reads,hop,h1];exact ⟨trivial,trivial⟩
 | extract x i=>have h1:=h x (by rw [hop];simp [Op.operands]);simp only [e9,reads,hop,h1];exact ⟨trivial,trivial⟩
 | _=>unfold e9 reads;rw [hop];exact ⟨rfl,rfl⟩
end
def zL:il→Nat→oP→oP
 | [],_,x=>x
 | u::us,r,x=>zL us r (bif Nat.beq r u.1 then turn u.2 x else x)
theorem jl:∀ {us:il} {hp:Hp} {r:Nat},applyF hp us r=zL us r (hp r)
 | [],_,_=>rfl
 | u::us,hp,r=>by
  simp only [applyF,zL]
  exact jl (us:=us)
theorem tY (x:oP):AD (AD x)=AD x:=by cases x <;> rfl
theorem Ct (x:oP):(∀ y,turn x y=AD y)∨(∃ z,∀ y,turn x y=z):=by
 cases x
 · exact Or.inr ⟨_,fun _=>rfl⟩
 · exact Or.inr ⟨_,fun _=>rfl⟩
 · exact Or.inr ⟨_,fun _=>rfl⟩
 · exact Or.inl fun _=>rfl
theorem zI:∀ (us:il) (r:Nat) {x y:oP},(y=x∨y=AD x)→(zL us r y=zL us r x∨zL us r y=AD (zL us r x))
 | [],_,_,_,h=>h
 | u::us,r,x,y,h=>by
  simp only [zL]
  cases Nat.beq r u.1 with
  | false=>exact zI us r h
  | true =>
   simp only [cond_true]
   refine zI us r ?_
   rcases Ct u.2 with q | ⟨z,q⟩
   · rw [q,q]
     rcases h with rfl | rfl
     · exact Or.inl rfl
     · exact Or.inl (tY _)
   · rw [q,q];exact Or.inl rfl
theorem qk:∀ {us:il} {r:Nat},r ∉ us.map (·.1)→∀ x,zL us r x=x
 | [],_,_,_=>rfl
 | u::us,r,h,x=>by
  simp only [List.map_cons,List.mem_cons,not_or] at h
  simp only [zL]
  have:Nat.beq r u.1=false:=by
   cases hb:Nat.beq r u.1 with
   | false=>rfl
   | true=>exact absurd (Nat.eq_of_beq_eq_true hb) h.1
  rw [this]
  exact qk h.2 x
theorem y4 {u:Nat × oP} {us:il} {r:Nat} (h:r ∉ jC (u::us)):r ∉ jC us∧(r=u.1→∃ p e l,u.2 = .fro p e l):=by
 obtain ⟨s,x⟩:=u
 cases x <;> simp_all [jC]
theorem qK:∀ {us:il} {r:Nat},r ∉ jC us→(∀ x,zL us r x=x)∨(∀ x,zL us r x=AD x)
 | [],_,_=>Or.inl fun _=>rfl
 | u::us,r,h=>by
  obtain ⟨h1,h2⟩:=y4 h
  simp only [zL]
  cases hb:Nat.beq r u.1 with
  | false=>exact qK h1
  | true =>
   simp only [cond_true]
   obtain ⟨p,e,l,q⟩:=h2 (Nat.eq_of_beq_eq_true hb)
   rw [q]
   right
   intro x
   rcases qK h1 with g | g
   · rw [g];rfl
   · rw [g];exact tY x
theorem H9 {us vs:il} {r:Nat} (h1:∀ r ∈ jC us,r ∉ vs.map (·.1)) (h2:∀ r ∈ jC vs,r ∉ us.map (·.1)) (x:oP):zL vs r (zL us r x)=zL us r (zL vs r x):=by
 by_cases a:r ∈ jC us
 · rw [qk (h1 r a),qk (h1 r a)]
 · by_cases b:r ∈ jC vs
   · rw [qk (h2 r b),qk (h2 r b)]
   · rcases qK a with p | p <;> rcases qK b with q | q <;> simp [p,q]
theorem sM:∀ {us:il} {hp:Hp},pD us→applyF hp us=apply hp us
 | [],_,_=>rfl
 | u::us,hp,h=>by
  simp only [applyF,apply]
  have e:(fun n=>bif Nat.beq n u.1 then turn u.2 (hp n) else hp n)=jL hp u.1 u.2:=by
   funext n
   simp only [jL]
   have h0:=h u.1 u.2 (List.mem_cons_self ..)
   obtain ⟨s,x⟩:=u
   cases x <;> first | rfl | exact absurd rfl (h0 _ _ _)
  rw [e]
  exact sM fun r x hx=>h r x (List.mem_cons_of_mem _ hx)
theorem wa:∀ {us:il} {hp:Hp},zK hp us→applyF hp us=apply hp us
 | [],_,_=>rfl
 | (r,x)::us,hp,h=>by
  obtain ⟨p,e,l,rfl,hr⟩:=h r x (List.mem_cons_self ..)
  simp only [applyF,apply]
  have e':(fun n=>bif Nat.beq n r then turn (.fro p e l) (hp n) else hp n)=jL hp r (.fro p e l):=by
   funext n
   simp only [jL]
   cases hb:Nat.beq n r with
   | false=>rfl
   | true =>
    simp only [cond_true]
    rw [Nat.eq_of_beq_eq_true hb]
    rcases hr with q | q <;> rw [q] <;> rfl
  rw [e']
  exact wa h.tail
theorem sU:∀ (us0:il) {hp:Hp} {us1:il},apply hp (us0++us1)=apply (apply hp us0) us1
 | [],_,_=>rfl
 | u::us,hp,us1=>sU us
theorem qv:∀ (us0:il) {hp:Hp} {us1:il},applyF hp (us0++us1)=applyF (applyF hp us0) us1
 | [],_,_=>rfl
 | u::us,hp,us1=>qv us
theorem gC.applyF {hp:Hp} {id nx:Nat} {us:il} (h:gC hp id us nx):applyF hp us=apply hp us:=by
 obtain ⟨_,us0,us1,rfl,h0,h1⟩:=h
 rw [qv,sU,wa h0,sM h1]
end Go.V
end
section
namespace Go.V
open Go.RowKit
structure G where
 i:Nat
 go:Bool
 us:il
 rd:List Nat
 A:List Nat
 dst:Option Nat
 v:AV
 nm:List Nat
 id:Nat
 nx:Nat
def rep (hp:Hp) (D:Nat→Bool):List G→Hp
 | []=>hp
 | g::gs=>bif D g.i then applyF (rep hp D gs) g.us else rep hp D gs
def i8 (tm:List AV) (D:Nat→Bool):List G→List AV
 | []=>tm
 | g::gs=>bif D g.i then mM (i8 tm D gs) g.dst g.v else i8 tm D gs
structure Ko (g' g:G):Prop where
 a:∀ r ∈ jC g.us,r ∉ g'.rd
 b:∀ r ∈ jC g'.us,r ∉ g.rd
 c:∀ r ∈ g.us.map (·.1),r ∉ jC g'.us
 d:∀ r ∈ jC g.us,r ∉ g'.us.map (·.1)
structure FC (g' g:G):Prop where
 e:∀ t ∈ g.dst.toList,t ∉ g'.dst.toList++g'.nm
 f:∀ t ∈ g'.dst.toList,t ∉ g.nm
section
variable {hp:Hp} {tm:List AV} {D D':Nat→Bool}
theorem qm {r:Nat}:∀ {gs:List G},(∀ g ∈ gs,r ∈ g.us.map (·.1)→D g.i=D' g.i)→rep hp D gs r=rep hp D' gs r
 | [],_=>rfl
 | g::gs,h=>by
  have ih:=qm (gs:=gs) fun g' hg=>h g' (List.mem_cons_of_mem _ hg)
  simp only [rep]
  by_cases hr:r ∈ g.us.map (·.1)
  · rw [h g (List.mem_cons_self ..) hr]
    cases D' g.i with
    | true=>simp only [cond_true,jl,ih]
    | false=>exact ih
  · have e:∀ (b:Bool) (x:Hp),(bif b then applyF x g.us else x) r=x r:=fun b x=>by
     cases b with
     | true=>simp only [cond_true,jl,qk hr]
     | false=>rfl
    rw [e,e,ih]
theorem Do {r:Nat}:∀ {gs:List G},(∀ g ∈ gs,D g.i=D' g.i∨(D g.i=true∧r ∉ jC g.us))→rep hp D gs r=rep hp D' gs r∨rep hp D gs r=AD (rep hp D' gs r)
 | [],_=>Or.inl rfl
 | g::gs,h=>by
  have ih:=Do (gs:=gs) fun g' hg=>h g' (List.mem_cons_of_mem _ hg)
  simp only [rep]
  cases h1:D g.i with
  | true =>
   cases h2:D' g.i with
   | true =>
    simp only [cond_true,jl]
    exact zI _ _ ih
   | false =>
    rcases h g (List.mem_cons_self ..) with q | ⟨_,q⟩
    · rw [h1,h2] at q;cases q
    · simp only [cond_true,cond_false,jl]
      rcases qK q with e | e
      · rw [e];exact ih
      · rw [e]
        rcases ih with g1 | g1
        · rw [g1];exact Or.inr rfl
        · rw [g1,tY];exact Or.inr rfl
  | false =>
   cases h2:D' g.i with
   | true =>
    rcases h g (List.mem_cons_self ..) with q | ⟨q,_⟩
    · rw [h1,h2] at q;cases q
    · rw [h1] at q;cases q
   | false=>exact ih
theorem HA {l:List AV} {d:Option Nat} {v:AV}:(mM l d v).length=l.length:=by cases d <;> simp [mM]
theorem sb:∀ {gs:List G},(i8 tm D gs).length=tm.length
 | []=>rfl
 | g::gs=>by
  simp only [i8]
  cases D g.i with
  | true=>rw [cond_true,HA];exact sb
  | false=>exact sb
theorem F6 {l l':List AV} {d:Option Nat} {v:AV} {t:Nat} (hl:l.length=l'.length) (h:l.getD t .junk=l'.getD t .junk):(mM l d v).getD t .junk=(mM l' d v).getD t .junk:=by
 cases d with
 | none=>exact h
 | some d =>
  simp only [mM,List.getD,List.getElem?_set,hl] at h ⊢
  split
  · split <;> rfl
  · exact h
theorem Cw {l:List AV} {d:Option Nat} {v:AV} {t:Nat} (h:d≠some t):(mM l d v).getD t .junk=l.getD t .junk:=by
 cases d with
 | none=>rfl
 | some d =>
  have:d≠t:=fun q=>h (by rw [q])
  simp [mM,List.getD,List.getElem?_set_ne this]
theorem xH {t:Nat}:∀ {gs:List G},(∀ g ∈ gs,g.dst=some t→D g.i=D' g.i)→(i8 tm D gs).getD t .junk=(i8 tm D' gs).getD t .junk
 | [],_=>rfl
 | g::gs,h=>by
  have ih:=xH (gs:=gs) fun g' hg=>h g' (List.mem_cons_of_mem _ hg)
  simp only [i8]
  by_cases hr:g.dst=some t
  · rw [h g (List.mem_cons_self ..) hr]
    cases D' g.i with
    | true =>
     simp only [cond_true]
     exact F6 (by rw [sb,sb]) ih
    | false=>exact ih
  · have e:∀ (b:Bool) (x:List AV),(bif b then mM x g.dst g.v else x).getD t .junk=x.getD t .junk:=fun b x=>by
     cases b with
     | true=>exact Cw hr
     | false=>rfl
    rw [e,e,ih]
def mS (D:Nat→Bool) (i:Nat):Nat→Bool:=fun j=>bif Nat.beq j i then true else D j
theorem qV {i:Nat}:mS D i i=true:=by simp [mS]
theorem mm {i j:Nat} (h:j≠i):mS D i j=D j:=by
 have:Nat.beq j i=false:=by
  cases hb:Nat.beq j i with
  | false=>rfl
  | true=>exact absurd (Nat.eq_of_beq_eq_true hb) h
 simp [mS,this]
theorem IX {gs:List G} (h:∀ g ∈ gs,D g.i=D' g.i):rep hp D gs=rep hp D' gs:=funext fun r=>qm fun g hg _=>h g hg
theorem tB:∀ {gs:List G},(∀ g ∈ gs,D g.i=D' g.i)→i8 tm D gs=i8 tm D' gs
 | [],_=>rfl
 | g::gs,h=>by
  simp only [i8]
  rw [h g (List.mem_cons_self ..),tB fun g' hg=>h g' (List.mem_cons_of_mem _ hg)]
theorem Dp {g:G} {r:Nat}:∀ {gs:List G},gs.Pairwise (fun x y=>y.i<x.i)→g ∈ gs→D g.i=false →
 (∀ h ∈ gs,g.i<h.i→D h.i=true→(∀ r ∈ jC g.us,r ∉ h.us.map (·.1))∧(∀ r ∈ jC h.us,r ∉ g.us.map (·.1)))→rep hp (mS D g.i) gs r=zL g.us r (rep hp D gs r)
 | [],_,hg,_,_=>by cases hg
 | h::gs,hp',hg,hD,hc=>by
  rw [List.pairwise_cons] at hp'
  simp only [rep]
  rcases List.mem_cons.1 hg with q | q
  · subst q
    rw [qV,hD,cond_true,cond_false,jl]
    congr 1
    exact qm fun g' hg' _=>mm (Nat.ne_of_lt (hp'.1 g' hg'))
  · have hlt:=hp'.1 g q
    rw [mm (Nat.ne_of_gt hlt)]
    have ih:=Dp (r:=r) hp'.2 q hD fun h' hh'=>hc h' (List.mem_cons_of_mem _ hh')
    cases hb:D h.i with
    | false=>exact ih
    | true =>
     simp only [cond_true,jl]
     rw [ih]
     obtain ⟨c1,c2⟩:=hc h (List.mem_cons_self ..) hlt hb
     exact H9 c1 c2 _
theorem F5 {l:List AV} {d e:Option Nat} {u v:AV} (h:∀ t ∈ d.toList,t ∉ e.toList):mM (mM l d u) e v=mM (mM l e v) d u:=by
 cases d with
 | none=>rfl
 | some d =>
  cases e with
  | none=>rfl
  | some e =>
   have:d≠e:=fun q=>h d (by simp) (by simp [q])
   exact List.set_comm _ _ this
theorem Ab {g:G}:∀ {gs:List G},gs.Pairwise (fun x y=>y.i<x.i)→g ∈ gs→D g.i=false →
 (∀ h ∈ gs,g.i<h.i→D h.i=true→∀ t ∈ h.dst.toList,t ∉ g.dst.toList)→i8 tm (mS D g.i) gs=mM (i8 tm D gs) g.dst g.v
 | [],_,hg,_,_=>by cases hg
 | h::gs,hp',hg,hD,hc=>by
  rw [List.pairwise_cons] at hp'
  simp only [i8]
  rcases List.mem_cons.1 hg with q | q
  · subst q
    rw [qV,hD,cond_true,cond_false]
    congr 1
    exact tB fun g' hg'=>mm (Nat.ne_of_lt (hp'.1 g' hg'))
  · have hlt:=hp'.1 g q
    rw [mm (Nat.ne_of_gt hlt)]
    have ih:=Ab hp'.2 q hD fun h' hh'=>hc h' (List.mem_cons_of_mem _ hh')
    cases hb:D h.i with
    | false=>exact ih
    | true =>
     simp only [cond_true]
     rw [ih]
     exact (F5 (hc h (List.mem_cons_self ..) hlt hb)).symm
end
def lg:List G→List KU
 | []=>[]
 | g::gs=>bif g.go then ⟨g.i,g.us,g.rd⟩::lg gs else lg gs
theorem rL {hp:Hp} {a:List Nat}:∀ {gs:List G},(∀ g ∈ gs,g.go=false→g.us=[])→p5 hp a (lg gs)=rep hp (iq a) gs
 | [],_=>rfl
 | g::gs,h=>by
  have ih:=rL (hp:=hp) (a:=a) (gs:=gs) fun g' hg=>h g' (List.mem_cons_of_mem _ hg)
  simp only [lg,rep]
  cases hg:g.go with
  | true=>simp only [cond_true,p5,ih]
  | false =>
   rw [h g (List.mem_cons_self ..) hg]
   simp only [cond_false,applyF,ih]
   cases iq a g.i <;> rfl
theorem rC {hp:Hp}:∀ {gs:List G},(∀ g ∈ gs,g.go=false→g.us=[])→qd hp (lg gs)=rep hp (fun _=>true) gs
 | [],_=>rfl
 | g::gs,h=>by
  have ih:=rC (hp:=hp) (gs:=gs) fun g' hg=>h g' (List.mem_cons_of_mem _ hg)
  simp only [lg,rep]
  cases hg:g.go with
  | true=>simp only [cond_true,qd,ih]
  | false =>
   rw [h g (List.mem_cons_self ..) hg]
   simp only [cond_false,cond_true,applyF,ih]
theorem xY {a:List Nat} {us:il} {rd:List Nat}:∀ {gs:List G},I9 a us rd (lg gs)=true→∀ g' ∈ gs,g'.go=true→iq a g'.i=true ∨
 ((∀ r ∈ jC us,r ∉ g'.rd)∧(∀ r ∈ jC g'.us,r ∉ rd)∧(∀ r ∈ us.map (·.1),r ∉ jC g'.us)∧(∀ r ∈ jC us,r ∉ g'.us.map (·.1)))
 | [],_,_,hg,_=>by cases hg
 | g::gs,h,g',hg,hgo=>by
  simp only [lg] at h
  cases hgg:g.go with
  | false =>
   rw [hgg,cond_false] at h
   rcases List.mem_cons.1 hg with q | q
   · subst q;rw [hgg] at hgo;cases hgo
   · exact xY h g' q hgo
  | true =>
   rw [hgg,cond_true] at h
   simp only [I9] at h
   cases hc:(iq a g.i||(kI (jC us) g.rd&&kI (jC g.us) rd&&kI (us.map (·.1)) (jC g.us)&&kI (jC us) (g.us.map (·.1)))) with
   | false=>rw [hc] at h;cases h
   | true =>
    rw [hc,cond_true] at h
    rcases List.mem_cons.1 hg with q | q
    · subst q
      simp only [Bool.or_eq_true,Bool.and_eq_true,rN] at hc
      rcases hc with q | ⟨⟨⟨q1,q2⟩,q3⟩,q4⟩
      · exact Or.inl q
      · exact Or.inr ⟨q1,q2,q3,q4⟩
    · exact xY h g' q hgo
end Go.V
end

/- V: soundness, part 6 of 10. -/
import Derived.Test.YtijlgdoiofdmhaaGreatDoorVS5
section
set_option linter.unusedVariables false
set_option linter.unusedSimpArgs false
namespace Go.V
open Go.RowKit
def mc (L:List Nat) (A B:Hp):Prop:=∀ r ∈ L,B r=A r∨∃ p e l,A r = .own p e l∧B r = .fro p e l
theorem Fo:∀ {cs:List AV} {r:Nat},r ∈ cN cs↔(AV.ref r ∈ cs∨∃ i f,AV.ptr r i f ∈ cs)
 | [],r=>by simp [cN]
 | c::cs,r=>by have ih:=Fo (cs:=cs) (r:=r);cases c <;> simp [cN,ih,List.mem_cons] <;> grind
theorem mc.sub {L M:List Nat} {A B:Hp} (h:mc L A B) (hs:∀ r ∈ M,r ∈ L):mc M A B:=fun r hr=>h r (hs r hr)
theorem tK {cs ds:List AV} (h:∀ c ∈ ds,c ∈ cs):∀ r ∈ cN ds,r ∈ cN cs:=fun r hr=>by
 rw [Fo] at hr ⊢;rcases hr with q | ⟨i,f,q⟩
 · exact Or.inl (h _ q)
 · exact Or.inr ⟨i,f,h _ q⟩
theorem sb:∀ {us:kO} {r:Nat} {x:rF},(r,x) ∈ us→(∀ p e l,x ≠ .fro p e l)→r ∈ ku us
 | [],_,_,h,_=>by cases h
 | (s,y)::us,r,x,h,hx=>by
  unfold ku;rcases List.mem_cons.1 h with q | q
  · cases q;split
    · rename_i q;cases q
    · rename_i q;cases q;exact absurd rfl (hx _ _ _)
    · rename_i q;cases q;exact List.mem_cons_self ..
  · have:=sb q hx;split
    · rename_i q;cases q
    · rename_i q;cases q;exact this
    · rename_i q;cases q;exact List.mem_cons_of_mem _ this
section
variable {A B:Hp}
theorem tO {e:Ty} {c:AV} (h:mc (cN [c]) A B):getSl B e c=getSl A e c:=by
 cases c <;> try rfl
 rename_i r;simp only [getSl];rcases h r (by simp [cN]) with q | ⟨p,e',l,q1,q2⟩
 · rw [q]
 · rw [q1,q2]
theorem lx:∀ {t:Ty} {cs:List AV},mc (cN cs) A B→prj B t cs=prj A t cs
 | .bool,_,_=>rfl
 | .int _,_,_=>rfl
 | .str,_,_=>rfl
 | .slice e,cs,h=>by
  simp only [prj,uj];split
  · exact tO h
  · rfl
 | .pair a b,cs,h=>by simp only [prj];rw [lx (t:=a) (h.sub (tK fun c hc=>List.mem_of_mem_take hc)),lx (t:=b) (h.sub (tK fun c hc=>List.mem_of_mem_drop hc))]
 | .unit,_,_=>rfl
 | .opq,_,_=>rfl
theorem Cx {c:AV} (h:mc (cN [c]) A B):taint1 B c=taint1 A c:=by
 cases c <;> try rfl
 rename_i r;simp only [taint1];rcases h r (by simp [cN]) with q | ⟨p,e',l,q1,q2⟩
 · rw [q]
 · rw [q1,q2]
theorem oK:∀ {cs:List AV},mc (cN cs) A B→taint B cs=taint A cs
 | [],_=>rfl
 | c::cs,h=>by simp only [taint];rw [Cx (h.sub (tK fun d hd=>by simp at hd;subst hd;exact List.mem_cons_self ..)),oK (h.sub (tK fun d hd=>List.mem_cons_of_mem _ hd))]
theorem nQ:∀ {cs:List AV},mc (cN cs) A B→freeze B cs=freeze A cs
 | [],_=>rfl
 | c::cs,h=>by
  have ih:=nQ (cs:=cs) (h.sub (tK fun d hd=>List.mem_cons_of_mem _ hd));cases c <;> try exact ih
  rename_i r;simp only [freeze,ih];rcases h r (by simp [cN]) with q | ⟨p,e',l,q1,q2⟩
  · rw [q]
  · rw [q1,q2]
theorem LJ {R:Type} {t:Ty} {a:AV} {k:AV→Option R} (h:mc (cN (cellsOf a)) A B):ld B t a k=ld A t a k:=by
 cases a <;> try rfl
 rename_i r i off;simp only [ld];rcases h r (by simp [cN,cellsOf]) with q | ⟨p,e',l,q1,q2⟩
 · rw [q]
 · rw [q1,q2]
theorem B4 {t:Ty} {a v:AV} {us:kO} (hs:m_ A t a v some=some us) (h1:mc (cN (cellsOf a)) A B) (h2:mc (cN (cellsOf v)) A B) (hh:∀ r ∈ ku us,r ∈ cN (cellsOf a)→B r=A r):m_ B t a v some=some us:=by
 unfold m_ at hs ⊢;obtain ⟨hc,hs⟩:=aM hs;rw [hc,cond_true];split at hs
 · rename_i r i off _;split at hs
   · rename_i cs hr;obtain ⟨hle,hs⟩:=aM hs;cases hs;rw [hh r (sb (List.mem_singleton.2 rfl) (fun _ _ _ q=>by cases q)) (by simp [cN,cellsOf]),hr];simp only [hle,cond_true]
   · rename_i p e l hr;obtain ⟨hn,hs⟩:=rW hs;split at hs
     · rename_i y hy;split at hs
       · rename_i z hz;cases hs;rw [hh r (sb (List.mem_append_right _ (List.mem_singleton.2 rfl)) (fun _ _ _ q=>by cases q)) (by simp [cN,cellsOf]),hr];simp only [hn,cond_false,lx h2,hy,hz,nQ h2,oK h2]
       · cases hs
     · cases hs
   · cases hs
 · cases hs
theorem yK {R:Type} {tb:mh} {t:Nat} {x i:AV} {k:AV→Option R} (h:mc (cN (cellsOf x)) A B):indexAddr tb B t x i k=indexAddr tb A t x i k:=by
 unfold indexAddr;split
 · cases x <;> try rfl
   rename_i r;simp only [];rcases h r (by simp [cN,cellsOf]) with q | ⟨p,e',l,q1,q2⟩
   · rw [q]
   · rw [q1,q2]
 · rfl
 · rfl
theorem B7 {R:Type} {u:Ty} {x:AV} {lo hi:Option AV} {k:AV→kO→Option R} (h:mc (cN (cellsOf x)) A B):ly u B x lo hi k=ly u A x lo hi k:=by
 cases x with
 | ref r =>
  cases u <;> try rfl
  simp only [ly];rcases h r (by simp [cN,cellsOf]) with q | ⟨p,e',l,q1,q2⟩
  · rw [q]
  · rw [q1,q2]
 | _=>cases u <;> rfl
theorem EP {R:Type} {u:Ty} {x:AV} {k:AV→Option R} (h:mc (cN (cellsOf x)) A B):lenOf u B x k=lenOf u A x k:=by
 cases x with
 | ref r =>
  cases u <;> try rfl
  simp only [lenOf];rcases h r (by simp [cN,cellsOf]) with q | ⟨p,e',l,q1,q2⟩
  · rw [q]
  · rw [q1,q2]
 | _=>cases u <;> rfl
theorem zX {c:AV}:∀ r ∈ cN [c],r ∈ cN (cellsOf c):=by intro r hr;cases c <;> simp_all [cN,cellsOf]
theorem Ap {e:Ty} {id:Nat} {d s v:AV} {us:kO} (hs:kh e A id d s (fun v us=>some (v,us))=some (v,us)) (h1:mc (cN (cellsOf d)) A B) (h2:mc (cN (cellsOf s)) A B) (hh:∀ r ∈ ku us,r ∈ cN (cellsOf d)→B r=A r) :
 kh e B id d s (fun v us=>some (v,us))=some (v,us):=by
 unfold kh at hs ⊢;have h2':=h2.sub zX;rw [tO h2'];split at hs
 · cases hs
 · split at hs
   · rw [oK h2'];exact hs
   · rename_i r;split at hs
     · rename_i p t l hr;split at hs
       · rename_i ld hld;obtain ⟨hle,hs⟩:=aM hs;cases hs;have hB:B r=A r:=hh r (sb (List.mem_cons_self ..) (fun _ _ _ q=>by cases q)) (by simp [cN,cellsOf]);rw [hB,hr];simp only [hld,hle,cond_true,oK h2']
       · cases hs
     · cases hs
   · cases hs
theorem xl {e:Ty} {ρ:Operand→AV}:∀ {ps:List (Nat × Operand)} {l:List e.d} {b:Bool},(∀ p ∈ ps,mc (cN (cellsOf (ρ p.2))) A B)→elems B e ρ ps l b=elems A e ρ ps l b
 | [],_,_,_=>rfl
 | (i,x)::ps,l,b,h=>by
  have h0:mc (cN (cellsOf (ρ x))) A B:=h (i,x) (List.mem_cons_self ..);simp only [elems];rw [lx h0,oK h0];split
  · rw [xl fun p hp=>h p (List.mem_cons_of_mem _ hp)]
  · rfl
theorem Et {v:AV} {f:Nat} (h:mc (cN [v]) A B):s_ B f v=s_ A f v:=by
 cases v <;> try rfl
 rename_i r i f;simp only [s_];rcases h r (by simp [cN]) with q | ⟨p,e,l,q1,q2⟩
 · rw [q]
 · rw [q1,q2]
theorem nI:∀ {cs:List AV},(∀ r ∈ cN cs,B r=A r)→fJ B cs=fJ A cs
 | [],_=>rfl
 | c::cs,h=>by
  cases c <;> simp only [fJ] <;> first
   | rfl
   | exact nI (cs:=cs) h
   | (rw [h _ (by simp [cN]),nI (cs:=cs) fun r q=>h r (by simp [cN,q])])
theorem xA {hp:Hp} {p:Bool}:∀ {t:Ty} {x y:t.d} {cs:List AV},prj hp t cs=some x→fJ hp cs=true→(pm p t y cs).map (·.1)=cN cs
 | .bool,x,y,cs,hx,hf=>by
  simp only [prj] at hx;unfold w9 at hx;split at hx
  · rfl
  · cases hx
 | .int k,x,y,cs,hx,hf=>by
  simp only [prj] at hx;unfold zm at hx;split at hx
  · rfl
  · cases hx
 | .str,x,y,cs,hx,hf=>by
  simp only [prj] at hx;unfold zQ at hx;split at hx
  · rfl
  · cases hx
 | .unit,x,y,cs,hx,hf=>by
  simp only [prj] at hx;unfold w_ at hx;split at hx
  · rfl
  · cases hx
 | .opq,x,y,cs,hx,hf=>by cases hx
 | .pair s t,x,y,cs,hx,hf=>by
  simp only [prj] at hx;obtain ⟨h1,h2⟩:=d7 hx;have app:∀ cs ds:List AV,fJ hp (cs++ds)=true→fJ hp cs=true∧fJ hp ds=true:=by
   intro cs ds
   induction cs with
   | nil=>exact fun q=>⟨rfl,q⟩
   | cons c cs ih =>
    intro q;cases c <;> simp only [List.cons_append,fJ,Bool.and_eq_true] at q ⊢ <;> first | (cases q;done) | (exact ih q) | (exact ⟨⟨q.1,(ih q.2).1⟩,(ih q.2).2⟩)
  obtain ⟨f1,f2⟩:=app (cs.take s.size) (cs.drop s.size) (by rw [List.take_append_drop];exact hf);show (pm p s y.1 _++pm p t y.2 _).map (·.1)=_;rw [List.map_append,xA h1 f1,xA h2 f2,← t_]
 | .slice e,x,y,cs,hx,hf=>by
  simp only [prj] at hx;unfold uj at hx;split at hx
  · rename_i c;cases c <;> first | rfl | (simp [getSl] at hx;done) | (simp [fJ] at hf;done)
  · cases hx
theorem pC {hp:Hp} {al:Bool}:∀ {A:List Pm} {vs:List AV} {x:(tup (pn A)).d} {y:(tup (iG A)).d} {id:Nat},fX hp A vs=some x→∀ r ∈ nY hp A vs,r ∈ (kM hp al A vs y id).map (·.1)
 | [],_,_,_,_,_,r,hr=>by cases hr
 | .val t::A,vs,x,y,id,hx,r,hr=>by
  cases vs with
  | nil=>simp only [fX] at hx;cases hx
  | cons v vs =>simp only [fX] at hx;exact pC (A:=A) (d7 (aM hx).2).2 r hr
 | .lend t::A,vs,x,y,id,hx,r,hr=>by
  cases vs with
  | nil=>simp only [fX] at hx;cases hx
  | cons v vs =>
   simp only [fX] at hx;have h1:=aM hx;have h2:=d7 h1.2;simp only [nY,List.headD_cons,List.tail_cons,List.mem_append] at hr;simp only [kM,List.headD_cons,List.tail_cons,List.map_append,List.mem_append];rcases hr with q | q
   · left;rw [xA h2.1 (Bool.and_eq_true _ _▸h1.1:_∧_).2];exact q
   · exact Or.inr (pC (A:=A) h2.2 r q)
 | .give t::A,vs,x,y,id,hx,r,hr=>by
  cases vs with
  | nil=>simp only [fX] at hx;cases hx
  | cons v vs =>
   simp only [fX] at hx;have h1:=aM hx;have h2:=d7 h1.2;simp only [nY,List.headD_cons,List.tail_cons,List.mem_append] at hr;simp only [kM,List.headD_cons,List.tail_cons,List.map_append,List.mem_append];rcases hr with q | q
   · left;rw [rH];exact q
   · exact Or.inr (pC (A:=A) h2.2 r q)
 | .fn f n::A,vs,x,y,id,hx,r,hr=>pC (A:=A) hx r hr
 | .io o f t::A,vs,x,y,id,hx,r,hr=>by
  cases vs with
  | nil=>simp only [fX] at hx;cases hx
  | cons v vs =>
   simp only [fX] at hx;split at hx
   · rename_i cs hcs;obtain ⟨r0,hv,hrow⟩:=rh hcs;subst hv;obtain ⟨ho,hx⟩:=aM hx;simp only [nY,List.headD_cons,List.tail_cons,hcs,Option.getD_some,cN,List.cons_append,List.nil_append,List.mem_cons,List.mem_append] at hr;cases o with
     | true =>
      simp only [kM,List.headD_cons,List.tail_cons,hcs,Option.getD_some,cond_true,lT,List.map_append,List.map_cons,List.mem_append,List.mem_cons,rH];rcases hr with q | q | q
      · exact Or.inr (Or.inl q)
      · exact Or.inl q
      · exact Or.inr (Or.inr (Or.inr (pC (A:=A) (d7 hx).2 r q)))
     | false =>
      simp only [kM,List.headD_cons,List.tail_cons,hcs,Option.getD_some,cond_false,lT,List.map_cons,List.mem_cons];rcases hr with q | q | q
      · exact Or.inl q
      · cases q
      · exact Or.inr (pC (A:=A) (d7 hx).2 r q)
   · cases hx
theorem lj:∀ {Q:List Pm} {vs:List AV} {x:(tup (pn Q)).d},fX A Q vs=some x→mc (nY A Q vs++sJ A Q vs) A B→(∀ r ∈ nY A Q vs,B r=A r) →
 fX B Q vs=some x∧nY B Q vs=nY A Q vs∧sJ B Q vs=sJ A Q vs∧∀ al y id,kM B al Q vs y id=kM A al Q vs y id
 | [],vs,x,hx,_,_=>⟨hx,rfl,rfl,fun _ _ _=>rfl⟩
 | .val t::Q,vs,x,hx,hf,hh=>by
  cases vs with
  | nil=>simp only [fX] at hx;cases hx
  | cons v vs =>
   simp only [fX] at hx ⊢;simp only [nY,sJ,List.headD_cons,List.tail_cons] at hf hh ⊢;have h1:=aM hx;have h2:=d7 h1.2;obtain ⟨g1,g2,g3,g4⟩:=lj (Q:=Q) h2.2 (hf.sub fun r q=>by
    rcases List.mem_append.1 q with q | q
    · exact List.mem_append_left _ q
    · exact List.mem_append_right _ (List.mem_append_right _ q)) hh
   refine ⟨?_,g2,by rw [g3],fun al y id=>g4 al y id⟩;rw [lx (hf.sub fun r q=>List.mem_append_right _ (List.mem_append_left _ q)),h2.1,g1,h1.1];rfl
 | .lend t::Q,vs,x,hx,hf,hh=>by
  cases vs with
  | nil=>simp only [fX] at hx;cases hx
  | cons v vs =>
   simp only [fX] at hx ⊢;simp only [nY,sJ,List.headD_cons,List.tail_cons] at hf hh ⊢;have h1:=aM hx;have h2:=d7 h1.2;obtain ⟨g1,g2,g3,g4⟩:=lj (Q:=Q) h2.2 (hf.sub fun r q=>by
    rcases List.mem_append.1 q with q | q
    · exact List.mem_append_left _ (List.mem_append_right _ q)
    · exact List.mem_append_right _ q) (fun r q=>hh r (List.mem_append_right _ q))
   refine ⟨?_,by rw [g2],g3,fun al y id=>by simp only [kM,List.headD_cons,List.tail_cons,g4]⟩;rw [nI fun r q=>hh r (List.mem_append_left _ q),lx (hf.sub fun r q=>List.mem_append_left _ (List.mem_append_left _ q)),h2.1,g1,h1.1];rfl
 | .give t::Q,vs,x,hx,hf,hh=>by
  cases vs with
  | nil=>simp only [fX] at hx;cases hx
  | cons v vs =>
   simp only [fX] at hx ⊢;simp only [nY,sJ,List.headD_cons,List.tail_cons] at hf hh ⊢;have h1:=aM hx;have h2:=d7 h1.2;obtain ⟨g1,g2,g3,g4⟩:=lj (Q:=Q) h2.2 (hf.sub fun r q=>by
    rcases List.mem_append.1 q with q | q
    · exact List.mem_append_left _ (List.mem_append_right _ q)
    · exact List.mem_append_right _ q) (fun r q=>hh r (List.mem_append_right _ q))
   refine ⟨?_,by rw [g2],g3,fun al y id=>congrArg (tP (cN (cellsOf v))++·) (g4 al y id)⟩;rw [nI fun r q=>hh r (List.mem_append_left _ q),lx (hf.sub fun r q=>List.mem_append_left _ (List.mem_append_left _ q)),h2.1,g1,h1.1];rfl
 | .fn f n::Q,vs,x,hx,hf,hh=>lj (Q:=Q) hx hf hh
 | .io o f t::Q,vs,x,hx,hf,hh=>by
  cases vs with
  | nil=>simp only [fX] at hx;cases hx
  | cons v vs =>
   have hbx:s_ B f v=s_ A f v:=Et (hf.sub fun r q=>List.mem_append_left _ (by simp only [nY,List.headD_cons];exact List.mem_append_left _ q));simp only [fX,hbx] at hx ⊢;cases hcs:s_ A f v with
   | none=>rw [hcs] at hx;cases hx
   | some cs =>
    rw [hcs] at hx;simp only [] at hx ⊢;simp only [nY,sJ,List.headD_cons,List.tail_cons,hbx,hcs,Option.getD_some] at hf hh ⊢;have h1:=aM hx;have h2:=d7 h1.2;obtain ⟨g1,g2,g3,g4⟩:=lj (Q:=Q) h2.2 (hf.sub fun r q=>by
     rcases List.mem_append.1 q with q | q
     · exact List.mem_append_left _ (List.mem_append_right _ (List.mem_append_right _ q))
     · exact List.mem_append_right _ (List.mem_append_right _ q)) (fun r q=>hh r (List.mem_append_right _ (List.mem_append_right _ q)))
    have hcf:mc (cN cs) A B:=hf.sub fun r q=>by
     cases o with
     | true=>exact List.mem_append_left _ (List.mem_append_right _ (List.mem_append_left _ q))
     | false=>exact List.mem_append_right _ (List.mem_append_left _ q)
    have hfo:(!o||fJ B cs)=(!o||fJ A cs):=by
     cases o with
     | true=>rw [nI fun r q=>hh r (List.mem_append_right _ (List.mem_append_left _ q))]
     | false=>rfl
    refine ⟨?_,by rw [g2],by rw [g3],fun al y id=>by simp only [kM,List.headD_cons,List.tail_cons,hbx,g4]⟩;rw [hfo,lx hcf,h2.1,g1,h1.1];rfl
theorem Em {c:Cn} {id nx:Nat} {as:List AV} {v:AV} {us:kO} (hs:tG c A id as (fun v us nx=>some (v,us,nx))=some (v,us,nx))
 (h:∀ vs,iH c.A as=some vs→mc (nY A c.A vs++sJ A c.A vs) A B) (hh:∀ vs,iH c.A as=some vs→∀ r ∈ ku us,r ∈ nY A c.A vs→B r=A r) :
 tG c B id as (fun v us nx=>some (v,us,nx))=some (v,us,nx):=by
 have hs0:=hs;unfold tG at hs ⊢;cases hf:iH c.A as with
 | none=>rw [hf] at hs;cases hs
 | some vs =>
 rw [hf] at hs;simp only [] at hs ⊢;cases hx:fX A c.A vs with
 | none=>rw [hx] at hs;cases hs
 | some x =>
 rw [hx] at hs;simp only [] at hs;have h1:=aM hs;cases hy:c.fn x with
 | none=>have h2:=h1.2;rw [hy] at h2;cases h2
 | some y =>
 have h2:=h1.2;rw [hy] at h2;simp only [Option.some.injEq,Prod.mk.injEq] at h2;have hgv:∀ r ∈ nY A c.A vs,B r=A r:=fun r q=>by refine hh vs hf r ?_ q;obtain ⟨z,hz,rfl⟩:=List.mem_map.1 (pC (al:=c.al) (y:=Dj (iG c.A) y) (id:=id) hx r q);rw [← h2.2.1];exact sb (x:=z.2) (List.mem_append_right _ (List.mem_append_left _ hz)) (ko z.1 z.2 hz)
 obtain ⟨g1,g2,g3,g4⟩:=lj hx (h vs hf) hgv;have hrefs:∀ l:List Nat,cN (l.map AV.ref)=l:=by
  intro l
  induction l with
  | nil=>rfl
  | cons r l ih=>simp [cN,ih]
 rw [g1,g2,g3];simp only [hy];rw [g4,nQ (A:=A) (B:=B) (by rw [hrefs];exact (h vs hf).sub fun r q=>List.mem_append_right _ q)];rw [hy] at hs;exact hs
theorem Gp {c:Cn} {id nx:Nat} {as:List AV} {v:AV} {us:kO} (hs:zc c A id as (fun v us nx=>some (v,us,nx))=some (v,us,nx))
 (h:∀ vs,iH c.A as=some vs→mc (nY A c.A vs++sJ A c.A vs) A B) :
 zc c B id as (fun v us nx=>some (v,us,nx))=some (v,us,nx):=by
 have hs0:=hs;unfold zc at hs ⊢;cases hf:iH c.A as with
 | none=>rw [hf] at hs;cases hs
 | some vs =>
 rw [hf] at hs;simp only [] at hs ⊢;cases hx:fX A c.A vs with
 | none=>rw [hx] at hs;cases hs
 | some x =>
 rw [hx] at hs;simp only [] at hs;have h1:=aM hs;have hgv:∀ r ∈ nY A c.A vs,B r=A r:=fun r q=>by rw [List.isEmpty_iff.1 h1.1] at q;cases q
 obtain ⟨g1,g2,g3,g4⟩:=lj hx (h vs hf) hgv;have hrefs:∀ l:List Nat,cN (l.map AV.ref)=l:=by
  intro l
  induction l with
  | nil=>rfl
  | cons r l ih=>simp [cN,ih]
 rw [g1,g2,g3,nQ (A:=A) (B:=B) (by rw [hrefs];exact (h vs hf).sub fun r q=>List.mem_append_right _ q)];exact hs
theorem EE {c:Cn} {id nx:Nat} {as:List AV} {v:AV} {us:kO} (hs:se c A id as (fun v us nx=>some (v,us,nx))=some (v,us,nx))
 (h:∀ vs,iH c.A as=some vs→mc (nY A c.A vs++sJ A c.A vs) A B) (hh:∀ vs,iH c.A as=some vs→∀ r ∈ ku us,r ∈ nY A c.A vs→B r=A r) :
 se c B id as (fun v us nx=>some (v,us,nx))=some (v,us,nx):=by
 unfold se at hs ⊢;cases hb:rA c.R with
 | false=>rw [hb] at hs;exact Em hs h hh
 | true=>rw [hb] at hs;exact Gp hs h
theorem xU:∀ {cs ds:List AV},cN (cs++ds)=cN cs++cN ds
 | [],_=>rfl
 | c::cs,ds=>by cases c <;> simp [cN,xU (cs:=cs)]
theorem wF {α:Type} {f:α→List AV}:∀ {l:List α},cN (l.flatMap f)=l.flatMap fun x=>cN (f x)
 | []=>rfl
 | x::l=>by simp [xU,wF (l:=l)]
theorem oM {tb:mh} {tm:List AV} {t:Nat} {x:Operand}:cN (cellsOf (val tb tm t x))=cN (cellsOf (val tb tm 0 x)):=by
 cases x with
 | tmp i=>rfl
 | func f=>rfl
 | global g=>rfl
 | const v =>
  simp only [val];unfold OL;cases v <;> try rfl
  rename_i a n c;cases a <;> try rfl
  cases n <;> try rfl
  cases c <;> try rfl
  simp only [];split <;> (split <;> rfl)
theorem HK {tb:mh} {ct:List (Nat × Cn)} {o:Oper} {tm:List AV} {id nx:Nat} {v:AV} {us:kO} (hs:fW tb ct o tm A id (fun v us nx=>some (v,us,nx))=some (v,us,nx))
 (h:mc (reads tb ct o tm A) A B) (hh:∀ r ∈ ku us,r ∈ reads tb ct o tm A→B r=A r):fW tb ct o tm B id (fun v us nx=>some (v,us,nx))=some (v,us,nx):=by
 cases hop:o.op with
 | load t x =>
  simp only [fW,hop,reads] at hs h ⊢;split at hs
  · rename_i u hu
    try simp only [hu]
    rw [LJ h];exact hs
  · cases hs
 | store t x y =>
  simp only [fW,hop,reads] at hs h hh ⊢;split at hs
  · rename_i u hu
    try simp only [hu]
    rw [lu] at hs;cases hl:m_ A u (val tb tm 0 x) (val tb tm t y) some with
    | none=>rw [hl] at hs;cases hs
    | some us' =>
     rw [hl] at hs;cases hs;rw [lu];have h1:mc (cN (cellsOf (val tb tm 0 x))) A B:=h.sub fun r hr=>List.mem_append_left _ hr
     have h2:mc (cN (cellsOf (val tb tm t y))) A B:=h.sub fun r hr=>List.mem_append_right _ (by rw [← oM (t:=t)];exact hr)
     rw [B4 hl h1 h2 fun r hr hm=>hh r hr (List.mem_append_left _ hm)];rfl
  · cases hs
 | indexAddr t x i =>simp only [fW,hop,reads] at hs h ⊢;rw [yK (by rw [oM];exact h)];exact hs
 | slice t x lo hi mx =>
  cases mx with
  | some _=>simp only [fW,hop] at hs;cases hs
  | none =>simp only [fW,hop,reads] at hs h ⊢;rw [B7 (by rw [oM];exact h)];exact hs
 | convert s d x =>
  simp only [fW,hop,reads] at hs h ⊢;split at hs
  · rename_i h1 h2 h3
    try simp only [h1,h2,h3]
    exact hs
  · rename_i h1 h2 h3
    try simp only [h1,h2,h3]
    exact hs
  · rename_i h1 h2 h3;rw [tO (A:=A) (B:=B) (mc.sub (by rw [oM];exact h) zX)];exact hs
  · cases hs
 | buildSlice t n ps =>
  simp only [fW,hop,reads] at hs h ⊢;split at hs
  · rename_i e he
    try simp only [he]
    have h1:∀ p ∈ ps.toList,mc (cN (cellsOf (val tb tm 0 p.2))) A B:=fun p hp=>h.sub fun r hr=>List.mem_flatMap.2 ⟨p,hp,hr⟩
    rw [xl h1,nQ (A:=A) (B:=B) (by rw [wF];exact h)];exact hs
  · cases hs
 | call c =>
  have h1:∀ x ∈ c.args.toList,mc (cN (cellsOf (val tb tm 0 x))) A B:=fun x hx=>h.sub fun r hr=>by simp only [reads,hop];exact List.mem_append_left _ (List.mem_flatMap.2 ⟨x,hx,hr⟩)
  simp only [fW,hop] at hs ⊢;split at hs
  · rename_i hc
    try simp only [hc]
    split at hs
    · rename_i x t ha ht
      try simp only [ha,ht]
      rw [EP (by rw [oM];exact h1 x (by rw [ha];simp))];exact hs
    · cases hs
  · rename_i hc
    try simp only [hc]
    split at hs
    · rename_i d s t t' ha ht
      try simp only [ha,ht]
      split at hs
      · rename_i e he
        try simp only [he]
        cases hb:Nat.beq t t' with
        | false=>rw [hb] at hs;cases hs
        | true =>
         rw [hb,cond_true] at hs;rw [cond_true,jM];rw [jM] at hs;cases hl:kh e A id (val tb tm t d) (val tb tm t s) (fun v us=>some (v,us)) with
         | none=>rw [hl] at hs;cases hs
         | some z =>
          obtain ⟨z1,z2⟩:=z;rw [hl] at hs;cases hs;rw [Ap hl (by rw [oM];exact h1 d (by rw [ha];simp)) (by rw [oM];exact h1 s (by rw [ha];simp)) ?_]
          · rfl
          · intro r hr hm;refine hh r hr ?_;simp only [reads,hop];exact List.mem_append_left _ (List.mem_flatMap.2 ⟨d,by rw [ha];simp,by rw [← oM (t:=t)];exact hm⟩)
      · cases hs
    · cases hs
  · rename_i hc
    try simp only [hc]
    exact hs
  · rename_i hc
    try simp only [hc]
    exact hs
  · rename_i x hc
    try simp only [hc]
    split at hs
    · rename_i q hq
      try simp only [hq]
      have hsub:∀ vs,iH q.1.A q.2=some vs→∀ r ∈ nY A q.1.A vs++sJ A q.1.A vs,r ∈ reads tb ct o tm A:=fun vs hvs r hr=>by simp only [reads,hop,hc,hq,hvs];exact List.mem_append_right _ hr
      exact EE (A:=A) (B:=B) hs (fun vs hvs=>h.sub (hsub vs hvs)) (fun vs hvs r hr hm=>hh r hr (hsub vs hvs r (List.mem_append_left _ hm)))
    · cases hs
  · cases hs
 | makeFunc fn first caps =>
  cases fn with
  | func f=>simp only [fW,hop] at hs ⊢;exact hs
  | _=>unfold fW at hs;rw [hop] at hs;cases hs
 | _=>unfold fW at hs ⊢;rw [hop] at hs ⊢;exact hs
end
end Go.V
end
section
namespace Go.V
open Go.RowKit
section
variable {tb:mh} {ct:List (Nat × Cn)} {tm tm':List AV} {hp:Hp} {id:Nat} {R:Type}
theorem Hy {f g:Operand→AV} {o:Option Operand} (h:∀ x ∈ o.toList,f x=g x):o.map f=o.map g:=by
 cases o with
 | none=>rfl
 | some x=>simp [h x (by simp)]
theorem qh {offs:List (Nat × Nat)} {f g:Operand→AV}:∀ {ps:List (Nat × Operand)} {z:List AV},(∀ p ∈ ps,f p.2=g p.2)→li z offs f ps=li z offs g ps
 | [],_,_=>rfl
 | (i,x)::ps,z,h=>by
  have h0:f x=g x:=h (i,x) (List.mem_cons_self ..);simp only [li,h0];split
  · rw [qh fun p hp=>h p (List.mem_cons_of_mem _ hp)]
  · rfl
theorem xk {e:Ty} {f g:Operand→AV}:∀ {ps:List (Nat × Operand)} {l:List e.d} {b:Bool},(∀ p ∈ ps,f p.2=g p.2)→elems hp e f ps l b=elems hp e g ps l b
 | [],_,_,_=>rfl
 | (i,x)::ps,l,b,h=>by
  have h0:f x=g x:=h (i,x) (List.mem_cons_self ..);simp only [elems,h0];split
  · rw [xk fun p hp=>h p (List.mem_cons_of_mem _ hp)]
  · rfl
theorem nU {α β:Type} {f g:α→List β}:∀ {l:List α},(∀ x ∈ l,f x=g x)→l.flatMap f=l.flatMap g
 | [],_=>rfl
 | x::l,h=>by simp [h x (List.mem_cons_self ..),nU fun y hy=>h y (List.mem_cons_of_mem _ hy)]
theorem M3 {o:Oper} {k:AV→kO→Nat→Option R} (h:∀ x ∈ o.op.operands.toList,∀ T,val tb tm' T x=val tb tm T x) :
 fW tb ct o tm' hp id k=fW tb ct o tm hp id k∧reads tb ct o tm' hp=reads tb ct o tm hp:=by
 cases hop:o.op with
 | buildSlice t n ps =>
  have h0:∀ p ∈ ps.toList,val tb tm' 0 p.2=val tb tm 0 p.2:=fun p hp=>h p.2 (by rw [hop];simp only [Op.operands,List.toList_toArray];exact List.mem_map_of_mem hp) 0
  simp only [fW,reads,hop];have e1:ps.toList.flatMap (fun p=>cellsOf (val tb tm' 0 p.2))=ps.toList.flatMap (fun p=>cellsOf (val tb tm 0 p.2)):=nU fun p hp=>by rw [h0 p hp]
  rw [e1];refine ⟨?_,nU fun p hp=>by rw [h0 p hp]⟩;split
  · rw [xk h0]
  · rfl
 | build t ps =>
  have h0:∀ p ∈ ps.toList,val tb tm' 0 p.2=val tb tm 0 p.2:=fun p hp=>h p.2 (by rw [hop];simp only [Op.operands,List.toList_toArray];exact List.mem_map_of_mem hp) 0
  simp only [fW,reads,hop];exact ⟨by
   split
   · rw [qh h0]
   · rfl
   · rfl,trivial⟩
 | makeFunc fn first caps =>
  have h0:caps.toList.map (val tb tm' 0)=caps.toList.map (val tb tm 0):=List.map_congr_left fun x hx=>h x (by rw [hop];simp only [Op.operands,Array.toList_append];exact List.mem_append_right _ hx) 0
  cases fn <;> simp only [fW,reads,hop]
  · exact ⟨by rw [h0],trivial⟩
  all_goals exact ⟨trivial,trivial⟩
 | call c =>
  have hin:∀ x ∈ c.args.toList,∀ T,val tb tm' T x=val tb tm T x:=fun x hx=>h x (by rw [hop];simp only [Op.operands,Call.operands,Array.toList_append];exact List.mem_append_right _ hx)
  have h0:c.args.toList.map (val tb tm' 0)=c.args.toList.map (val tb tm 0):=List.map_congr_left fun x hx=>hin x hx 0
  have hcal:∀ x,c.callee = .value x→qx tb ct tm' x (c.args.toList.map (val tb tm' 0))=qx tb ct tm x (c.args.toList.map (val tb tm 0)):=fun x hx=>by rw [h0];unfold qx;rw [h x (by rw [hop];simp only [Op.operands,Call.operands,Array.toList_append,hx];exact List.mem_append_left _ (by simp)) 0]
  simp only [fW,reads,hop];refine ⟨?_,?_⟩
  · split
    · split
      · rename_i x t ha ht;rw [hin x (by rw [ha];simp)]
      · rfl
    · split
      · rename_i d s t t' ha ht;split
        · rw [hin d (by rw [ha];simp),hin s (by rw [ha];simp)]
        · rfl
      · rfl
    · rw [h0]
    · rw [h0]
    · rename_i x hc;rw [hcal x hc]
    · rfl
  · rw [nU (f:=fun x=>cN (cellsOf (val tb tm' 0 x))) (g:=fun x=>cN (cellsOf (val tb tm 0 x))) fun x hx=>by rw [hin x hx]];congr 1;split
    · rename_i x hc;rw [hcal x hc]
    · rfl
 | slice t x lo hi mx =>
  have hx:=h x (by rw [hop];simp [Op.operands]);have hl:lo.map (val tb tm' 0)=lo.map (val tb tm 0):=Hy fun y hy=>h y (by rw [hop];simp [Op.operands] at hy ⊢;simp [hy]) 0
  have hh:hi.map (val tb tm' 0)=hi.map (val tb tm 0):=Hy fun y hy=>h y (by rw [hop];simp [Op.operands] at hy ⊢;simp [hy]) 0
  cases mx <;> simp only [fW,reads,hop,hx,hl,hh] <;> exact ⟨trivial,trivial⟩
 | pick c x y =>have h1:=h c (by rw [hop];simp [Op.operands]);have h2:=h x (by rw [hop];simp [Op.operands]);have h3:=h y (by rw [hop];simp [Op.operands]);simp only [fW,reads,hop,h1,h2,h3];exact ⟨trivial,trivial⟩
 | store t x y =>have h1:=h x (by rw [hop];simp [Op.operands]);have h2:=h y (by rw [hop];simp [Op.operands]);simp only [fW,reads,hop,h1,h2];exact ⟨trivial,trivial⟩
 | binOp op t x y u =>have h1:=h x (by rw [hop];simp [Op.operands]);have h2:=h y (by rw [hop];simp [Op.operands]);simp only [fW,reads,hop,h1,h2];exact ⟨trivial,trivial⟩
 | makeSlice t x y =>have h1:=h x (by rw [hop];simp [Op.operands]);have h2:=h y (by rw [hop];simp [Op.operands]);simp only [fW,reads,hop,h1,h2];exact ⟨trivial,trivial⟩
 | indexAddr t x y =>have h1:=h x (by rw [hop];simp [Op.operands]);have h2:=h y (by rw [hop];simp [Op.operands]);simp only [fW,reads,hop,h1,h2];exact ⟨trivial,trivial⟩
 | index t x y =>have h1:=h x (by rw [hop];simp [Op.operands]);have h2:=h y (by rw [hop];simp [Op.operands]);simp only [fW,reads,hop,h1,h2];exact ⟨trivial,trivial⟩
 | alloc t=>simp only [fW,reads,hop];exact ⟨trivial,trivial⟩
 | move x=>have h1:=h x (by rw [hop];simp [Op.operands]);simp only [fW,reads,hop,h1];exact ⟨trivial,trivial⟩
 | assign x=>have h1:=h x (by rw [hop];simp [Op.operands]);simp only [fW,reads,hop,h1];exact ⟨trivial,trivial⟩
 | box t x=>have h1:=h x (by rw [hop];simp [Op.operands]);simp only [fW,reads,hop,h1];exact ⟨trivial,trivial⟩
 | load t x=>have h1:=h x (by rw [hop];simp [Op.operands]);simp only [fW,reads,hop,h1];exact ⟨trivial,trivial⟩
 | nilCheck x=>have h1:=h x (by rw [hop];simp [Op.operands]);simp only [fW,reads,hop,h1];exact ⟨trivial,trivial⟩
 | unOp op t x=>have h1:=h x (by rw [hop];simp [Op.operands]);simp only [fW,reads,hop,h1];exact ⟨trivial,trivial⟩
 | convert s d x=>have h1:=h x (by rw [hop];simp [Op.operands]);simp only [fW,reads,hop,h1];exact ⟨trivial,trivial⟩
 | fieldAddr s x f=>have h1:=h x (by rw [hop];simp [Op.operands]);simp only [fW,reads,hop,h1];exact ⟨trivial,trivial⟩
 | field s x f=>have h1:=h x (by rw [hop];simp [Op.operands]);simp only [fW,reads,hop,h1];exact ⟨trivial,trivial⟩
 | extract x i=>have h1:=h x (by rw [hop];simp [Op.operands]);simp only [fW,reads,hop,h1];exact ⟨trivial,trivial⟩
 | _=>unfold fW reads;rw [hop];exact ⟨rfl,rfl⟩
end
def Dv:kO→Nat→rF→rF
 | [],_,x=>x
 | u::us,r,x=>Dv us r (bif Nat.beq r u.1 then turn u.2 x else x)
theorem lV:∀ {us:kO} {hp:Hp} {r:Nat},applyF hp us r=Dv us r (hp r)
 | [],_,_=>rfl
 | u::us,hp,r=>by simp only [applyF,Dv];exact lV (us:=us)
theorem wY (x:rF):Di (Di x)=Di x:=by cases x <;> rfl
theorem H0 (x:rF):(∀ y,turn x y=Di y)∨(∃ z,∀ y,turn x y=z):=by
 cases x
 · exact Or.inr ⟨_,fun _=>rfl⟩
 · exact Or.inr ⟨_,fun _=>rfl⟩
 · exact Or.inr ⟨_,fun _=>rfl⟩
 · exact Or.inl fun _=>rfl
theorem Co:∀ (us:kO) (r:Nat) {x y:rF},(y=x∨y=Di x)→(Dv us r y=Dv us r x∨Dv us r y=Di (Dv us r x))
 | [],_,_,_,h=>h
 | u::us,r,x,y,h=>by
  simp only [Dv];cases Nat.beq r u.1 with
  | false=>exact Co us r h
  | true =>
   simp only [cond_true];refine Co us r ?_;rcases H0 u.2 with q | ⟨z,q⟩
   · rw [q,q];rcases h with rfl | rfl
     · exact Or.inl rfl
     · exact Or.inl (wY _)
   · rw [q,q];exact Or.inl rfl
theorem tU:∀ {us:kO} {r:Nat},r ∉ us.map (·.1)→∀ x,Dv us r x=x
 | [],_,_,_=>rfl
 | u::us,r,h,x=>by
  simp only [List.map_cons,List.mem_cons,not_or] at h;simp only [Dv];have:Nat.beq r u.1=false:=by
   cases hb:Nat.beq r u.1 with
   | false=>rfl
   | true=>exact absurd (Nat.eq_of_beq_eq_true hb) h.1
  rw [this];exact tU h.2 x
theorem BL {u:Nat × rF} {us:kO} {r:Nat} (h:r ∉ ku (u::us)):r ∉ ku us∧(r=u.1→∃ p e l,u.2 = .fro p e l):=by obtain ⟨s,x⟩:=u;cases x <;> simp_all [ku]
theorem sv:∀ {us:kO} {r:Nat},r ∉ ku us→(∀ x,Dv us r x=x)∨(∀ x,Dv us r x=Di x)
 | [],_,_=>Or.inl fun _=>rfl
 | u::us,r,h=>by
  obtain ⟨h1,h2⟩:=BL h;simp only [Dv];cases hb:Nat.beq r u.1 with
  | false=>exact sv h1
  | true =>
   simp only [cond_true];obtain ⟨p,e,l,q⟩:=h2 (Nat.eq_of_beq_eq_true hb);rw [q];right;intro x;rcases sv h1 with g | g
   · rw [g];rfl
   · rw [g];exact wY x
theorem K3 {us vs:kO} {r:Nat} (h1:∀ r ∈ ku us,r ∉ vs.map (·.1)) (h2:∀ r ∈ ku vs,r ∉ us.map (·.1)) (x:rF):Dv vs r (Dv us r x)=Dv us r (Dv vs r x):=by
 by_cases a:r ∈ ku us
 · rw [tU (h1 r a),tU (h1 r a)]
 · by_cases b:r ∈ ku vs
   · rw [tU (h2 r b),tU (h2 r b)]
   · rcases sv a with p | p <;> rcases sv b with q | q <;> simp [p,q]
theorem vj:∀ {us:kO} {hp:Hp},s8 us→applyF hp us=apply hp us
 | [],_,_=>rfl
 | u::us,hp,h=>by
  simp only [applyF,apply];have e:(fun n=>bif Nat.beq n u.1 then turn u.2 (hp n) else hp n)=l_ hp u.1 u.2:=by
   funext n;simp only [l_];have h0:=h u.1 u.2 (List.mem_cons_self ..);obtain ⟨s,x⟩:=u;cases x <;> first | rfl | exact absurd rfl (h0 _ _ _)
  rw [e];exact vj fun r x hx=>h r x (List.mem_cons_of_mem _ hx)
theorem zI:∀ {us:kO} {hp:Hp},Dl hp us→applyF hp us=apply hp us
 | [],_,_=>rfl
 | (r,x)::us,hp,h=>by
  obtain ⟨p,e,l,rfl,hr⟩:=h r x (List.mem_cons_self ..);simp only [applyF,apply];have e':(fun n=>bif Nat.beq n r then turn (.fro p e l) (hp n) else hp n)=l_ hp r (.fro p e l):=by
   funext n;simp only [l_];cases hb:Nat.beq n r with
   | false=>rfl
   | true =>
    simp only [cond_true];rw [Nat.eq_of_beq_eq_true hb];rcases hr with q | q <;> rw [q] <;> rfl
  rw [e'];exact zI h.tail
theorem vd:∀ (us0:kO) {hp:Hp} {us1:kO},apply hp (us0++us1)=apply (apply hp us0) us1
 | [],_,_=>rfl
 | u::us,hp,us1=>vd us
theorem uK:∀ (us0:kO) {hp:Hp} {us1:kO},applyF hp (us0++us1)=applyF (applyF hp us0) us1
 | [],_,_=>rfl
 | u::us,hp,us1=>uK us
theorem iP.applyF {hp:Hp} {id nx:Nat} {us:kO} (h:iP hp id us nx):applyF hp us=apply hp us:=by obtain ⟨_,us0,us1,rfl,h0,h1⟩:=h;rw [uK,vd,zI h0,vj h1]
end Go.V
end
section
namespace Go.V
open Go.RowKit
structure G where
 i:Nat
 go:Bool
 us:kO
 rd:List Nat
 A:List Nat
 dst:Option Nat
 v:AV
 nm:List Nat
 id:Nat
 nx:Nat
def rep (hp:Hp) (D:Nat→Bool):List G→Hp
 | []=>hp
 | g::gs=>bif D g.i then applyF (rep hp D gs) g.us else rep hp D gs
def jV (tm:List AV) (D:Nat→Bool):List G→List AV
 | []=>tm
 | g::gs=>bif D g.i then oV (jV tm D gs) g.dst g.v else jV tm D gs
structure O8 (g' g:G):Prop where
 a:∀ r ∈ ku g.us,r ∉ g'.rd
 b:∀ r ∈ ku g'.us,r ∉ g.rd
 c:∀ r ∈ g.us.map (·.1),r ∉ ku g'.us
 d:∀ r ∈ ku g.us,r ∉ g'.us.map (·.1)
structure JY (g' g:G):Prop where
 e:∀ t ∈ g.dst.toList,t ∉ g'.dst.toList++g'.nm
 f:∀ t ∈ g'.dst.toList,t ∉ g.nm
section
variable {hp:Hp} {tm:List AV} {D D':Nat→Bool}
theorem tn {r:Nat}:∀ {gs:List G},(∀ g ∈ gs,r ∈ g.us.map (·.1)→D g.i=D' g.i)→rep hp D gs r=rep hp D' gs r
 | [],_=>rfl
 | g::gs,h=>by
  have ih:=tn (gs:=gs) fun g' hg=>h g' (List.mem_cons_of_mem _ hg)
  simp only [rep];by_cases hr:r ∈ g.us.map (·.1)
  · rw [h g (List.mem_cons_self ..) hr];cases D' g.i with
    | true=>simp only [cond_true,lV,ih]
    | false=>exact ih
  · have e:∀ (b:Bool) (x:Hp),(bif b then applyF x g.us else x) r=x r:=fun b x=>by
     cases b with
     | true=>simp only [cond_true,lV,tU hr]
     | false=>rfl
    rw [e,e,ih]
theorem I4 {r:Nat}:∀ {gs:List G},(∀ g ∈ gs,D g.i=D' g.i∨(D g.i=true∧r ∉ ku g.us))→rep hp D gs r=rep hp D' gs r∨rep hp D gs r=Di (rep hp D' gs r)
 | [],_=>Or.inl rfl
 | g::gs,h=>by
  have ih:=I4 (gs:=gs) fun g' hg=>h g' (List.mem_cons_of_mem _ hg)
  simp only [rep];cases h1:D g.i with
  | true =>
   cases h2:D' g.i with
   | true =>simp only [cond_true,lV];exact Co _ _ ih
   | false =>
    rcases h g (List.mem_cons_self ..) with q | ⟨_,q⟩
    · rw [h1,h2] at q;cases q
    · simp only [cond_true,cond_false,lV];rcases sv q with e | e
      · rw [e];exact ih
      · rw [e];rcases ih with g1 | g1
        · rw [g1];exact Or.inr rfl
        · rw [g1,wY];exact Or.inr rfl
  | false =>
   cases h2:D' g.i with
   | true =>
    rcases h g (List.mem_cons_self ..) with q | ⟨q,_⟩
    · rw [h1,h2] at q;cases q
    · rw [h1] at q;cases q
   | false=>exact ih
theorem KI {l:List AV} {d:Option Nat} {v:AV}:(oV l d v).length=l.length:=by cases d <;> simp [oV]
theorem vT:∀ {gs:List G},(jV tm D gs).length=tm.length
 | []=>rfl
 | g::gs=>by
  simp only [jV];cases D g.i with
  | true=>rw [cond_true,KI];exact vT
  | false=>exact vT
theorem IU {l l':List AV} {d:Option Nat} {v:AV} {t:Nat} (hl:l.length=l'.length) (h:l.getD t .junk=l'.getD t .junk):(oV l d v).getD t .junk=(oV l' d v).getD t .junk:=by
 cases d with
 | none=>exact h
 | some d =>
  simp only [oV,List.getD,List.getElem?_set,hl] at h ⊢;split
  · split <;> rfl
  · exact h
theorem GJ {l:List AV} {d:Option Nat} {v:AV} {t:Nat} (h:d≠some t):(oV l d v).getD t .junk=l.getD t .junk:=by
 cases d with
 | none=>rfl
 | some d =>
  have:d≠t:=fun q=>h (by rw [q])
  simp [oV,List.getD,List.getElem?_set_ne this]
theorem AF {t:Nat}:∀ {gs:List G},(∀ g ∈ gs,g.dst=some t→D g.i=D' g.i)→(jV tm D gs).getD t .junk=(jV tm D' gs).getD t .junk
 | [],_=>rfl
 | g::gs,h=>by
  have ih:=AF (gs:=gs) fun g' hg=>h g' (List.mem_cons_of_mem _ hg)
  simp only [jV];by_cases hr:g.dst=some t
  · rw [h g (List.mem_cons_self ..) hr];cases D' g.i with
    | true =>simp only [cond_true];exact IU (by rw [vT,vT]) ih
    | false=>exact ih
  · have e:∀ (b:Bool) (x:List AV),(bif b then oV x g.dst g.v else x).getD t .junk=x.getD t .junk:=fun b x=>by
     cases b with
     | true=>exact GJ hr
     | false=>rfl
    rw [e,e,ih]
def oo (D:Nat→Bool) (i:Nat):Nat→Bool:=fun j=>bif Nat.beq j i then true else D j
theorem tf {i:Nat}:oo D i i=true:=by simp [oo]
theorem pB {i j:Nat} (h:j≠i):oo D i j=D j:=by
 have:Nat.beq j i=false:=by
  cases hb:Nat.beq j i with
  | false=>rfl
  | true=>exact absurd (Nat.eq_of_beq_eq_true hb) h
 simp [oo,this]
theorem LW {gs:List G} (h:∀ g ∈ gs,D g.i=D' g.i):rep hp D gs=rep hp D' gs:=funext fun r=>tn fun g hg _=>h g hg
theorem vO:∀ {gs:List G},(∀ g ∈ gs,D g.i=D' g.i)→jV tm D gs=jV tm D' gs
 | [],_=>rfl
 | g::gs,h=>by simp only [jV];rw [h g (List.mem_cons_self ..),vO fun g' hg=>h g' (List.mem_cons_of_mem _ hg)]
theorem IH {g:G} {r:Nat}:∀ {gs:List G},gs.Pairwise (fun x y=>y.i<x.i)→g ∈ gs→D g.i=false →
 (∀ h ∈ gs,g.i<h.i→D h.i=true→(∀ r ∈ ku g.us,r ∉ h.us.map (·.1))∧(∀ r ∈ ku h.us,r ∉ g.us.map (·.1)))→rep hp (oo D g.i) gs r=Dv g.us r (rep hp D gs r)
 | [],_,hg,_,_=>by cases hg
 | h::gs,hp',hg,hD,hc=>by
  rw [List.pairwise_cons] at hp';simp only [rep];rcases List.mem_cons.1 hg with q | q
  · subst q;rw [tf,hD,cond_true,cond_false,lV];congr 1;exact tn fun g' hg' _=>pB (Nat.ne_of_lt (hp'.1 g' hg'))
  · have hlt:=hp'.1 g q;rw [pB (Nat.ne_of_gt hlt)];have ih:=IH (r:=r) hp'.2 q hD fun h' hh'=>hc h' (List.mem_cons_of_mem _ hh')
    cases hb:D h.i with
    | false=>exact ih
    | true =>simp only [cond_true,lV];rw [ih];obtain ⟨c1,c2⟩:=hc h (List.mem_cons_self ..) hlt hb;exact K3 c1 c2 _
theorem JS {l:List AV} {d e:Option Nat} {u v:AV} (h:∀ t ∈ d.toList,t ∉ e.toList):oV (oV l d u) e v=oV (oV l e v) d u:=by
 cases d with
 | none=>rfl
 | some d =>
  cases e with
  | none=>rfl
  | some e =>
   have:d≠e:=fun q=>h d (by simp) (by simp [q])
   exact List.set_comm _ _ this
theorem EC {g:G}:∀ {gs:List G},gs.Pairwise (fun x y=>y.i<x.i)→g ∈ gs→D g.i=false →
 (∀ h ∈ gs,g.i<h.i→D h.i=true→∀ t ∈ h.dst.toList,t ∉ g.dst.toList)→jV tm (oo D g.i) gs=oV (jV tm D gs) g.dst g.v
 | [],_,hg,_,_=>by cases hg
 | h::gs,hp',hg,hD,hc=>by
  rw [List.pairwise_cons] at hp';simp only [jV];rcases List.mem_cons.1 hg with q | q
  · subst q;rw [tf,hD,cond_true,cond_false];congr 1;exact vO fun g' hg'=>pB (Nat.ne_of_lt (hp'.1 g' hg'))
  · have hlt:=hp'.1 g q;rw [pB (Nat.ne_of_gt hlt)];have ih:=EC hp'.2 q hD fun h' hh'=>hc h' (List.mem_cons_of_mem _ hh')
    cases hb:D h.i with
    | false=>exact ih
    | true =>simp only [cond_true];rw [ih];exact (JS (hc h (List.mem_cons_self ..) hlt hb)).symm
end
def nZ:List G→List Nw
 | []=>[]
 | g::gs=>bif g.go then ⟨g.i,g.us,g.rd⟩::nZ gs else nZ gs
theorem vA {hp:Hp} {a:List Nat}:∀ {gs:List G},(∀ g ∈ gs,g.go=false→g.us=[])→rY hp a (nZ gs)=rep hp (kW a) gs
 | [],_=>rfl
 | g::gs,h=>by
  have ih:=vA (hp:=hp) (a:=a) (gs:=gs) fun g' hg=>h g' (List.mem_cons_of_mem _ hg)
  simp only [nZ,rep];cases hg:g.go with
  | true=>simp only [cond_true,rY,ih]
  | false =>rw [h g (List.mem_cons_self ..) hg];simp only [cond_false,applyF,ih];cases kW a g.i <;> rfl
theorem uS {hp:Hp}:∀ {gs:List G},(∀ g ∈ gs,g.go=false→g.us=[])→tg hp (nZ gs)=rep hp (fun _=>true) gs
 | [],_=>rfl
 | g::gs,h=>by
  have ih:=uS (hp:=hp) (gs:=gs) fun g' hg=>h g' (List.mem_cons_of_mem _ hg)
  simp only [nZ,rep];cases hg:g.go with
  | true=>simp only [cond_true,tg,ih]
  | false =>rw [h g (List.mem_cons_self ..) hg];simp only [cond_false,cond_true,applyF,ih]
theorem zP {a:List Nat} {us:kO} {rd:List Nat}:∀ {gs:List G},M9 a us rd (nZ gs)=true→∀ g' ∈ gs,g'.go=true→kW a g'.i=true ∨
 ((∀ r ∈ ku us,r ∉ g'.rd)∧(∀ r ∈ ku g'.us,r ∉ rd)∧(∀ r ∈ us.map (·.1),r ∉ ku g'.us)∧(∀ r ∈ ku us,r ∉ g'.us.map (·.1)))
 | [],_,_,hg,_=>by cases hg
 | g::gs,h,g',hg,hgo=>by
  simp only [nZ] at h;cases hgg:g.go with
  | false =>
   rw [hgg,cond_false] at h;rcases List.mem_cons.1 hg with q | q
   · subst q;rw [hgg] at hgo;cases hgo
   · exact zP h g' q hgo
  | true =>
   rw [hgg,cond_true] at h;simp only [M9] at h;cases hc:(kW a g.i||(mG (ku us) g.rd&&mG (ku g.us) rd&&mG (us.map (·.1)) (ku g.us)&&mG (ku us) (g.us.map (·.1)))) with
   | false=>rw [hc] at h;cases h
   | true =>
    rw [hc,cond_true] at h;rcases List.mem_cons.1 hg with q | q
    · subst q;simp only [Bool.or_eq_true,Bool.and_eq_true,v7] at hc;rcases hc with q | ⟨⟨⟨q1,q2⟩,q3⟩,q4⟩
      · exact Or.inl q
      · exact Or.inr ⟨q1,q2,q3,q4⟩
    · exact zP h g' q hgo
end Go.V
end

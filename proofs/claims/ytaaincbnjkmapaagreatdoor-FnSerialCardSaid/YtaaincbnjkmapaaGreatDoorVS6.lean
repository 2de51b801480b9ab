/- V: soundness, part 6 of 10. -/
import Derived.Test.YtaaincbnjkmapaaGreatDoorVS5
section
set_option linter.unusedVariables false
set_option linter.unusedSimpArgs false
namespace Go.V
open Go.RowKit
def mN (L:List Nat) (A B:Hp):Prop:=∀ r ∈ L,B r=A r∨∃ p e l,A r = .own p e l∧B r = .fro p e l
theorem Fj:∀ {cs:List AV} {r:Nat},r ∈ cM cs↔(AV.ref r ∈ cs∨∃ i f,AV.ptr r i f ∈ cs)
 | [],r=>by simp [cM]
 | c::cs,r=>by have ih:=Fj (cs:=cs) (r:=r);cases c <;> simp [cM,ih,List.mem_cons] <;> grind
theorem mN.sub {L M:List Nat} {A B:Hp} (h:mN L A B) (hs:∀ r ∈ M,r ∈ L):mN M A B:=fun r hr=>h r (hs r hr)
theorem sY {cs ds:List AV} (h:∀ c ∈ ds,c ∈ cs):∀ r ∈ cM ds,r ∈ cM cs:=fun r hr=>by
 rw [Fj] at hr ⊢;rcases hr with q | ⟨i,f,q⟩
 · exact Or.inl (h _ q)
 · exact Or.inr ⟨i,f,h _ q⟩
theorem sE:∀ {us:ju} {r:Nat} {x:qm},(r,x) ∈ us→(∀ p e l,x ≠ .fro p e l)→r ∈ kW us
 | [],_,_,h,_=>by cases h
 | (s,y)::us,r,x,h,hx=>by
  unfold kW;rcases List.mem_cons.1 h with q | q
  · cases q;split
    · rename_i q;cases q
    · rename_i q;cases q;exact absurd rfl (hx _ _ _)
    · rename_i q;cases q;exact List.mem_cons_self ..
  · have:=sE q hx;split
    · rename_i q;cases q
    · rename_i q;cases q;exact this
    · rename_i q;cases q;exact List.mem_cons_of_mem _ this
section
variable {A B:Hp}
theorem t8 {e:Ty} {c:AV} (h:mN (cM [c]) A B):getSl B e c=getSl A e c:=by
 cases c <;> try rfl
 rename_i r;simp only [getSl];rcases h r (by simp [cM]) with q | ⟨p,e',l,q1,q2⟩
 · rw [q]
 · rw [q1,q2]
theorem lk:∀ {t:Ty} {cs:List AV},mN (cM cs) A B→prj B t cs=prj A t cs
 | .bool,_,_=>rfl
 | .int _,_,_=>rfl
 | .str,_,_=>rfl
 | .slice e,cs,h=>by
  simp only [prj,v_];split
  · exact t8 h
  · rfl
 | .pair a b,cs,h=>by simp only [prj];rw [lk (t:=a) (h.sub (sY fun c hc=>List.mem_of_mem_take hc)),lk (t:=b) (h.sub (sY fun c hc=>List.mem_of_mem_drop hc))]
 | .unit,_,_=>rfl
 | .opq,_,_=>rfl
theorem Ej {c:AV} (h:mN (cM [c]) A B):taint1 B c=taint1 A c:=by
 cases c <;> try rfl
 rename_i r;simp only [taint1];rcases h r (by simp [cM]) with q | ⟨p,e',l,q1,q2⟩
 · rw [q]
 · rw [q1,q2]
theorem nu:∀ {cs:List AV},mN (cM cs) A B→taint B cs=taint A cs
 | [],_=>rfl
 | c::cs,h=>by simp only [taint];rw [Ej (h.sub (sY fun d hd=>by simp at hd;subst hd;exact List.mem_cons_self ..)),nu (h.sub (sY fun d hd=>List.mem_cons_of_mem _ hd))]
theorem mm:∀ {cs:List AV},mN (cM cs) A B→freeze B cs=freeze A cs
 | [],_=>rfl
 | c::cs,h=>by
  have ih:=mm (cs:=cs) (h.sub (sY fun d hd=>List.mem_cons_of_mem _ hd));cases c <;> try exact ih
  rename_i r;simp only [freeze,ih];rcases h r (by simp [cM]) with q | ⟨p,e',l,q1,q2⟩
  · rw [q]
  · rw [q1,q2]
theorem Kz {R:Type} {t:Ty} {a:AV} {k:AV→Option R} (h:mN (cM (cellsOf a)) A B):ld B t a k=ld A t a k:=by
 cases a <;> try rfl
 rename_i r i off;simp only [ld];rcases h r (by simp [cM,cellsOf]) with q | ⟨p,e',l,q1,q2⟩
 · rw [q]
 · rw [q1,q2]
theorem BV {t:Ty} {a v:AV} {us:ju} (hs:lx A t a v some=some us) (h1:mN (cM (cellsOf a)) A B) (h2:mN (cM (cellsOf v)) A B) (hh:∀ r ∈ kW us,r ∈ cM (cellsOf a)→B r=A r):lx B t a v some=some us:=by
 unfold lx at hs ⊢;obtain ⟨hc,hs⟩:=aO hs;rw [hc,cond_true];split at hs
 · rename_i r i off _;split at hs
   · rename_i cs hr;obtain ⟨hle,hs⟩:=aO hs;cases hs;rw [hh r (sE (List.mem_singleton.2 rfl) (fun _ _ _ q=>by cases q)) (by simp [cM,cellsOf]),hr];simp only [hle,cond_true]
   · rename_i p e l hr;obtain ⟨hn,hs⟩:=qn hs;split at hs
     · rename_i y hy;split at hs
       · rename_i z hz;cases hs;rw [hh r (sE (List.mem_append_right _ (List.mem_singleton.2 rfl)) (fun _ _ _ q=>by cases q)) (by simp [cM,cellsOf]),hr];simp only [hn,cond_false,lk h2,hy,hz,mm h2,nu h2]
       · cases hs
     · cases hs
   · cases hs
 · cases hs
theorem yS {R:Type} {tb:ma} {t:Nat} {x i:AV} {k:AV→Option R} (h:mN (cM (cellsOf x)) A B):indexAddr tb B t x i k=indexAddr tb A t x i k:=by
 unfold indexAddr;split
 · cases x <;> try rfl
   rename_i r;simp only [];rcases h r (by simp [cM,cellsOf]) with q | ⟨p,e',l,q1,q2⟩
   · rw [q]
   · rw [q1,q2]
 · rfl
 · rfl
theorem Ba {R:Type} {u:Ty} {x:AV} {lo hi:Option AV} {k:AV→ju→Option R} (h:mN (cM (cellsOf x)) A B):lu u B x lo hi k=lu u A x lo hi k:=by
 cases x with
 | ref r =>
  cases u <;> try rfl
  simp only [lu];rcases h r (by simp [cM,cellsOf]) with q | ⟨p,e',l,q1,q2⟩
  · rw [q]
  · rw [q1,q2]
 | _=>cases u <;> rfl
theorem Gx {R:Type} {u:Ty} {x:AV} {k:AV→Option R} (h:mN (cM (cellsOf x)) A B):lenOf u B x k=lenOf u A x k:=by
 cases x with
 | ref r =>
  cases u <;> try rfl
  simp only [lenOf];rcases h r (by simp [cM,cellsOf]) with q | ⟨p,e',l,q1,q2⟩
  · rw [q]
  · rw [q1,q2]
 | _=>cases u <;> rfl
theorem BF {c:AV}:∀ r ∈ cM [c],r ∈ cM (cellsOf c):=by intro r hr;cases c <;> simp_all [cM,cellsOf]
theorem BE {e:Ty} {id:Nat} {d s v:AV} {us:ju} (hs:kG e A id d s (fun v us=>some (v,us))=some (v,us)) (h1:mN (cM (cellsOf d)) A B) (h2:mN (cM (cellsOf s)) A B) (hh:∀ r ∈ kW us,r ∈ cM (cellsOf d)→B r=A r) :
 kG e B id d s (fun v us=>some (v,us))=some (v,us):=by
 unfold kG at hs ⊢;have h2':=h2.sub BF;rw [t8 h2'];split at hs
 · cases hs
 · split at hs
   · rw [nu h2'];exact hs
   · rename_i r;split at hs
     · rename_i p t l hr;split at hs
       · rename_i ld hld;obtain ⟨hle,hs⟩:=aO hs;cases hs;have hB:B r=A r:=hh r (sE (List.mem_cons_self ..) (fun _ _ _ q=>by cases q)) (by simp [cM,cellsOf]);rw [hB,hr];simp only [hld,hle,cond_true,nu h2']
       · cases hs
     · cases hs
   · cases hs
theorem xh {e:Ty} {ρ:Operand→AV}:∀ {ps:List (Nat × Operand)} {l:List e.d} {b:Bool},(∀ p ∈ ps,mN (cM (cellsOf (ρ p.2))) A B)→elems B e ρ ps l b=elems A e ρ ps l b
 | [],_,_,_=>rfl
 | (i,x)::ps,l,b,h=>by
  have h0:mN (cM (cellsOf (ρ x))) A B:=h (i,x) (List.mem_cons_self ..);simp only [elems];rw [lk h0,nu h0];split
  · rw [xh fun p hp=>h p (List.mem_cons_of_mem _ hp)]
  · rfl
theorem Gw {v:AV} {f:Nat} (h:mN (cM [v]) A B):rr B f v=rr A f v:=by
 cases v <;> try rfl
 rename_i r i f;simp only [rr];rcases h r (by simp [cM]) with q | ⟨p,e,l,q1,q2⟩
 · rw [q]
 · rw [q1,q2]
theorem n9:∀ {cs:List AV},(∀ r ∈ cM cs,B r=A r)→eX B cs=eX A cs
 | [],_=>rfl
 | c::cs,h=>by
  cases c <;> simp only [eX] <;> first
   | rfl
   | exact n9 (cs:=cs) h
   | (rw [h _ (by simp [cM]),n9 (cs:=cs) fun r q=>h r (by simp [cM,q])])
theorem xO {hp:Hp} {p:Bool}:∀ {t:Ty} {x y:t.d} {cs:List AV},prj hp t cs=some x→eX hp cs=true→(pV p t y cs).map (·.1)=cM cs
 | .bool,x,y,cs,hx,hf=>by
  simp only [prj] at hx;unfold w8 at hx;split at hx
  · rfl
  · cases hx
 | .int k,x,y,cs,hx,hf=>by
  simp only [prj] at hx;unfold zi at hx;split at hx
  · rfl
  · cases hx
 | .str,x,y,cs,hx,hf=>by
  simp only [prj] at hx;unfold zS at hx;split at hx
  · rfl
  · cases hx
 | .unit,x,y,cs,hx,hf=>by
  simp only [prj] at hx;unfold wg at hx;split at hx
  · rfl
  · cases hx
 | .opq,x,y,cs,hx,hf=>by cases hx
 | .pair s t,x,y,cs,hx,hf=>by
  simp only [prj] at hx;obtain ⟨h1,h2⟩:=cz hx;have app:∀ cs ds:List AV,eX hp (cs++ds)=true→eX hp cs=true∧eX hp ds=true:=by
   intro cs ds
   induction cs with
   | nil=>exact fun q=>⟨rfl,q⟩
   | cons c cs ih =>
    intro q;cases c <;> simp only [List.cons_append,eX,Bool.and_eq_true] at q ⊢ <;> first | (cases q;done) | (exact ih q) | (exact ⟨⟨q.1,(ih q.2).1⟩,(ih q.2).2⟩)
  obtain ⟨f1,f2⟩:=app (cs.take s.size) (cs.drop s.size) (by rw [List.take_append_drop];exact hf);show (pV p s y.1 _++pV p t y.2 _).map (·.1)=_;rw [List.map_append,xO h1 f1,xO h2 f2,← sk]
 | .slice e,x,y,cs,hx,hf=>by
  simp only [prj] at hx;unfold v_ at hx;split at hx
  · rename_i c;cases c <;> first | rfl | (simp [getSl] at hx;done) | (simp [eX] at hf;done)
  · cases hx
theorem p6 {hp:Hp} {al:Bool}:∀ {A:List Pm} {vs:List AV} {x:(tup (pT A)).d} {y:(tup (hZ A)).d} {id:Nat},fC hp A vs=some x→∀ r ∈ nG hp A vs,r ∈ (jt hp al A vs y id).map (·.1)
 | [],_,_,_,_,_,r,hr=>by cases hr
 | .val t::A,vs,x,y,id,hx,r,hr=>by
  cases vs with
  | nil=>simp only [fC] at hx;cases hx
  | cons v vs =>simp only [fC] at hx;exact p6 (A:=A) (cz (aO hx).2).2 r hr
 | .lend t::A,vs,x,y,id,hx,r,hr=>by
  cases vs with
  | nil=>simp only [fC] at hx;cases hx
  | cons v vs =>
   simp only [fC] at hx;have h1:=aO hx;have h2:=cz h1.2;simp only [nG,List.headD_cons,List.tail_cons,List.mem_append] at hr;simp only [jt,List.headD_cons,List.tail_cons,List.map_append,List.mem_append];rcases hr with q | q
   · left;rw [xO h2.1 (Bool.and_eq_true _ _▸h1.1:_∧_).2];exact q
   · exact Or.inr (p6 (A:=A) h2.2 r q)
 | .give t::A,vs,x,y,id,hx,r,hr=>by
  cases vs with
  | nil=>simp only [fC] at hx;cases hx
  | cons v vs =>
   simp only [fC] at hx;have h1:=aO hx;have h2:=cz h1.2;simp only [nG,List.headD_cons,List.tail_cons,List.mem_append] at hr;simp only [jt,List.headD_cons,List.tail_cons,List.map_append,List.mem_append];rcases hr with q | q
   · left;rw [rG];exact q
   · exact Or.inr (p6 (A:=A) h2.2 r q)
 | .fn f n::A,vs,x,y,id,hx,r,hr=>p6 (A:=A) hx r hr
 | .io o f t::A,vs,x,y,id,hx,r,hr=>by
  cases vs with
  | nil=>simp only [fC] at hx;cases hx
  | cons v vs =>
   simp only [fC] at hx;split at hx
   · rename_i cs hcs;obtain ⟨r0,hv,hrow⟩:=rP hcs;subst hv;obtain ⟨ho,hx⟩:=aO hx;simp only [nG,List.headD_cons,List.tail_cons,hcs,Option.getD_some,cM,List.cons_append,List.nil_append,List.mem_cons,List.mem_append] at hr;cases o with
     | true =>
      simp only [jt,List.headD_cons,List.tail_cons,hcs,Option.getD_some,cond_true,lN,List.map_append,List.map_cons,List.mem_append,List.mem_cons,rG];rcases hr with q | q | q
      · exact Or.inr (Or.inl q)
      · exact Or.inl q
      · exact Or.inr (Or.inr (Or.inr (p6 (A:=A) (cz hx).2 r q)))
     | false =>
      simp only [jt,List.headD_cons,List.tail_cons,hcs,Option.getD_some,cond_false,lN,List.map_cons,List.mem_cons];rcases hr with q | q | q
      · exact Or.inl q
      · cases q
      · exact Or.inr (p6 (A:=A) (cz hx).2 r q)
   · cases hx
theorem lR:∀ {Q:List Pm} {vs:List AV} {x:(tup (pT Q)).d},fC A Q vs=some x→mN (nG A Q vs++sB A Q vs) A B→(∀ r ∈ nG A Q vs,B r=A r) →
 fC B Q vs=some x∧nG B Q vs=nG A Q vs∧sB B Q vs=sB A Q vs∧∀ al y id,jt B al Q vs y id=jt A al Q vs y id
 | [],vs,x,hx,_,_=>⟨hx,rfl,rfl,fun _ _ _=>rfl⟩
 | .val t::Q,vs,x,hx,hf,hh=>by
  cases vs with
  | nil=>simp only [fC] at hx;cases hx
  | cons v vs =>
   simp only [fC] at hx ⊢;simp only [nG,sB,List.headD_cons,List.tail_cons] at hf hh ⊢;have h1:=aO hx;have h2:=cz h1.2;obtain ⟨g1,g2,g3,g4⟩:=lR (Q:=Q) h2.2 (hf.sub fun r q=>by
    rcases List.mem_append.1 q with q | q
    · exact List.mem_append_left _ q
    · exact List.mem_append_right _ (List.mem_append_right _ q)) hh
   refine ⟨?_,g2,by rw [g3],fun al y id=>g4 al y id⟩;rw [lk (hf.sub fun r q=>List.mem_append_right _ (List.mem_append_left _ q)),h2.1,g1,h1.1];rfl
 | .lend t::Q,vs,x,hx,hf,hh=>by
  cases vs with
  | nil=>simp only [fC] at hx;cases hx
  | cons v vs =>
   simp only [fC] at hx ⊢;simp only [nG,sB,List.headD_cons,List.tail_cons] at hf hh ⊢;have h1:=aO hx;have h2:=cz h1.2;obtain ⟨g1,g2,g3,g4⟩:=lR (Q:=Q) h2.2 (hf.sub fun r q=>by
    rcases List.mem_append.1 q with q | q
    · exact List.mem_append_left _ (List.mem_append_right _ q)
    · exact List.mem_append_right _ q) (fun r q=>hh r (List.mem_append_right _ q))
   refine ⟨?_,by rw [g2],g3,fun al y id=>by simp only [jt,List.headD_cons,List.tail_cons,g4]⟩;rw [n9 fun r q=>hh r (List.mem_append_left _ q),lk (hf.sub fun r q=>List.mem_append_left _ (List.mem_append_left _ q)),h2.1,g1,h1.1];rfl
 | .give t::Q,vs,x,hx,hf,hh=>by
  cases vs with
  | nil=>simp only [fC] at hx;cases hx
  | cons v vs =>
   simp only [fC] at hx ⊢;simp only [nG,sB,List.headD_cons,List.tail_cons] at hf hh ⊢;have h1:=aO hx;have h2:=cz h1.2;obtain ⟨g1,g2,g3,g4⟩:=lR (Q:=Q) h2.2 (hf.sub fun r q=>by
    rcases List.mem_append.1 q with q | q
    · exact List.mem_append_left _ (List.mem_append_right _ q)
    · exact List.mem_append_right _ q) (fun r q=>hh r (List.mem_append_right _ q))
   refine ⟨?_,by rw [g2],g3,fun al y id=>congrArg (sg (cM (cellsOf v))++·) (g4 al y id)⟩;rw [n9 fun r q=>hh r (List.mem_append_left _ q),lk (hf.sub fun r q=>List.mem_append_left _ (List.mem_append_left _ q)),h2.1,g1,h1.1];rfl
 | .fn f n::Q,vs,x,hx,hf,hh=>lR (Q:=Q) hx hf hh
 | .io o f t::Q,vs,x,hx,hf,hh=>by
  cases vs with
  | nil=>simp only [fC] at hx;cases hx
  | cons v vs =>
   have hbx:rr B f v=rr A f v:=Gw (hf.sub fun r q=>List.mem_append_left _ (by simp only [nG,List.headD_cons];exact List.mem_append_left _ q));simp only [fC,hbx] at hx ⊢;cases hcs:rr A f v with
   | none=>rw [hcs] at hx;cases hx
   | some cs =>
    rw [hcs] at hx;simp only [] at hx ⊢;simp only [nG,sB,List.headD_cons,List.tail_cons,hbx,hcs,Option.getD_some] at hf hh ⊢;have h1:=aO hx;have h2:=cz h1.2;obtain ⟨g1,g2,g3,g4⟩:=lR (Q:=Q) h2.2 (hf.sub fun r q=>by
     rcases List.mem_append.1 q with q | q
     · exact List.mem_append_left _ (List.mem_append_right _ (List.mem_append_right _ q))
     · exact List.mem_append_right _ (List.mem_append_right _ q)) (fun r q=>hh r (List.mem_append_right _ (List.mem_append_right _ q)))
    have hcf:mN (cM cs) A B:=hf.sub fun r q=>by
     cases o with
     | true=>exact List.mem_append_left _ (List.mem_append_right _ (List.mem_append_left _ q))
     | false=>exact List.mem_append_right _ (List.mem_append_left _ q)
    have hfo:(!o||eX B cs)=(!o||eX A cs):=by
     cases o with
     | true=>rw [n9 fun r q=>hh r (List.mem_append_right _ (List.mem_append_left _ q))]
     | false=>rfl
    refine ⟨?_,by rw [g2],by rw [g3],fun al y id=>by simp only [jt,List.headD_cons,List.tail_cons,hbx,g4]⟩;rw [hfo,lk hcf,h2.1,g1,h1.1];rfl
theorem G3 {c:Cn} {id nx:Nat} {as:List AV} {v:AV} {us:ju} (hs:sT c A id as (fun v us nx=>some (v,us,nx))=some (v,us,nx))
 (h:∀ vs,iB c.A as=some vs→mN (nG A c.A vs++sB A c.A vs) A B) (hh:∀ vs,iB c.A as=some vs→∀ r ∈ kW us,r ∈ nG A c.A vs→B r=A r) :
 sT c B id as (fun v us nx=>some (v,us,nx))=some (v,us,nx):=by
 have hs0:=hs;unfold sT at hs ⊢;cases hf:iB c.A as with
 | none=>rw [hf] at hs;cases hs
 | some vs =>
 rw [hf] at hs;simp only [] at hs ⊢;cases hx:fC A c.A vs with
 | none=>rw [hx] at hs;cases hs
 | some x =>
 rw [hx] at hs;simp only [] at hs;have h1:=aO hs;cases hy:c.fn x with
 | none=>have h2:=h1.2;rw [hy] at h2;cases h2
 | some y =>
 have h2:=h1.2;rw [hy] at h2;simp only [Option.some.injEq,Prod.mk.injEq] at h2;have hgv:∀ r ∈ nG A c.A vs,B r=A r:=fun r q=>by refine hh vs hf r ?_ q;obtain ⟨z,hz,rfl⟩:=List.mem_map.1 (p6 (al:=c.al) (y:=Eg (hZ c.A) y) (id:=id) hx r q);rw [← h2.2.1];exact sE (x:=z.2) (List.mem_append_right _ (List.mem_append_left _ hz)) (kO z.1 z.2 hz)
 obtain ⟨g1,g2,g3,g4⟩:=lR hx (h vs hf) hgv;have hrefs:∀ l:List Nat,cM (l.map AV.ref)=l:=by
  intro l
  induction l with
  | nil=>rfl
  | cons r l ih=>simp [cM,ih]
 rw [g1,g2,g3];simp only [hy];rw [g4,mm (A:=A) (B:=B) (by rw [hrefs];exact (h vs hf).sub fun r q=>List.mem_append_right _ q)];rw [hy] at hs;exact hs
theorem Hf {c:Cn} {id nx:Nat} {as:List AV} {v:AV} {us:ju} (hs:BC c A id as (fun v us nx=>some (v,us,nx))=some (v,us,nx))
 (h:∀ vs,iB c.A as=some vs→mN (nG A c.A vs++sB A c.A vs) A B) :
 BC c B id as (fun v us nx=>some (v,us,nx))=some (v,us,nx):=by
 have hs0:=hs;unfold BC at hs ⊢;cases hf:iB c.A as with
 | none=>rw [hf] at hs;cases hs
 | some vs =>
 rw [hf] at hs;simp only [] at hs ⊢;cases hx:fC A c.A vs with
 | none=>rw [hx] at hs;cases hs
 | some x =>
 rw [hx] at hs;simp only [] at hs;have h1:=aO hs;have hgv:∀ r ∈ nG A c.A vs,B r=A r:=fun r q=>by rw [List.isEmpty_iff.1 h1.1] at q;cases q
 obtain ⟨g1,g2,g3,g4⟩:=lR hx (h vs hf) hgv;have hrefs:∀ l:List Nat,cM (l.map AV.ref)=l:=by
  intro l
  induction l with
  | nil=>rfl
  | cons r l ih=>simp [cM,ih]
 rw [g1,g2,g3,mm (A:=A) (B:=B) (by rw [hrefs];exact (h vs hf).sub fun r q=>List.mem_append_right _ q)];exact hs
theorem G_ {c:Cn} {id nx:Nat} {as:List AV} {v:AV} {us:ju} (hs:tE c A id as (fun v us nx=>some (v,us,nx))=some (v,us,nx))
 (h:∀ vs,iB c.A as=some vs→mN (nG A c.A vs++sB A c.A vs) A B) (hh:∀ vs,iB c.A as=some vs→∀ r ∈ kW us,r ∈ nG A c.A vs→B r=A r) :
 tE c B id as (fun v us nx=>some (v,us,nx))=some (v,us,nx):=by
 unfold tE at hs ⊢;cases hb:qk c.R with
 | false=>rw [hb] at hs;exact G3 hs h hh
 | true=>rw [hb] at hs;exact Hf hs h
theorem y5:∀ {cs ds:List AV},cM (cs++ds)=cM cs++cM ds
 | [],_=>rfl
 | c::cs,ds=>by cases c <;> simp [cM,y5 (cs:=cs)]
theorem wT {α:Type} {f:α→List AV}:∀ {l:List α},cM (l.flatMap f)=l.flatMap fun x=>cM (f x)
 | []=>rfl
 | x::l=>by simp [y5,wT (l:=l)]
theorem nh {tb:ma} {tm:List AV} {t:Nat} {x:Operand}:cM (cellsOf (val tb tm t x))=cM (cellsOf (val tb tm 0 x)):=by
 cases x with
 | tmp i=>rfl
 | func f=>rfl
 | global g=>rfl
 | const v =>
  simp only [val];unfold RP;cases v <;> try rfl
  rename_i a n c;cases a <;> try rfl
  cases n <;> try rfl
  cases c <;> try rfl
  simp only [];split <;> (split <;> rfl)
theorem Hj {tb:ma} {ct:List (Nat × Cn)} {o:Oper} {tm:List AV} {id nx:Nat} {v:AV} {us:ju} (hs:fB tb ct o tm A id (fun v us nx=>some (v,us,nx))=some (v,us,nx))
 (h:mN (reads tb ct o tm A) A B) (hh:∀ r ∈ kW us,r ∈ reads tb ct o tm A→B r=A r):fB tb ct o tm B id (fun v us nx=>some (v,us,nx))=some (v,us,nx):=by
 cases hop:o.op with
 | load t x =>
  simp only [fB,hop,reads] at hs h ⊢;split at hs
  · rename_i u hu
    try simp only [hu]
    rw [Kz h];exact hs
  · cases hs
 | store t x y =>
  simp only [fB,hop,reads] at hs h hh ⊢;split at hs
  · rename_i u hu
    try simp only [hu]
    rw [lz] at hs;cases hl:lx A u (val tb tm 0 x) (val tb tm t y) some with
    | none=>rw [hl] at hs;cases hs
    | some us' =>
     rw [hl] at hs;cases hs;rw [lz];have h1:mN (cM (cellsOf (val tb tm 0 x))) A B:=h.sub fun r hr=>List.mem_append_left _ hr
     have h2:mN (cM (cellsOf (val tb tm t y))) A B:=h.sub fun r hr=>List.mem_append_right _ (by rw [← nh (t:=t)];exact hr)
     rw [BV hl h1 h2 fun r hr hm=>hh r hr (List.mem_append_left _ hm)];rfl
  · cases hs
 | indexAddr t x i =>simp only [fB,hop,reads] at hs h ⊢;rw [yS (by rw [nh];exact h)];exact hs
 | slice t x lo hi mx =>
  cases mx with
  | some _=>simp only [fB,hop] at hs;cases hs
  | none =>simp only [fB,hop,reads] at hs h ⊢;rw [Ba (by rw [nh];exact h)];exact hs
 | convert s d x =>
  simp only [fB,hop,reads] at hs h ⊢;split at hs
  · rename_i h1 h2 h3
    try simp only [h1,h2,h3]
    exact hs
  · rename_i h1 h2 h3
    try simp only [h1,h2,h3]
    exact hs
  · rename_i h1 h2 h3;rw [t8 (A:=A) (B:=B) (mN.sub (by rw [nh];exact h) BF)];exact hs
  · cases hs
 | buildSlice t n ps =>
  simp only [fB,hop,reads] at hs h ⊢;split at hs
  · rename_i e he
    try simp only [he]
    have h1:∀ p ∈ ps.toList,mN (cM (cellsOf (val tb tm 0 p.2))) A B:=fun p hp=>h.sub fun r hr=>List.mem_flatMap.2 ⟨p,hp,hr⟩
    rw [xh h1,mm (A:=A) (B:=B) (by rw [wT];exact h)];exact hs
  · cases hs
 | call c =>
  have h1:∀ x ∈ c.args.toList,mN (cM (cellsOf (val tb tm 0 x))) A B:=fun x hx=>h.sub fun r hr=>by simp only [reads,hop];exact List.mem_append_left _ (List.mem_flatMap.2 ⟨x,hx,hr⟩)
  simp only [fB,hop] at hs ⊢;split at hs
  · rename_i hc
    try simp only [hc]
    split at hs
    · rename_i x t ha ht
      try simp only [ha,ht]
      rw [Gx (by rw [nh];exact h1 x (by rw [ha];simp))];exact hs
    · cases hs
  · rename_i hc
    try simp only [hc]
    split at hs
    · rename_i d s t t' ha ht
      try simp only [ha,ht]
      split at hs
      · rename_i e he
        try simp only [he]
        cases hb:Nat.beq t t' with
        | false=>rw [hb] at hs;cases hs
        | true =>
         rw [hb,cond_true] at hs;rw [cond_true,iz];rw [iz] at hs;cases hl:kG e A id (val tb tm t d) (val tb tm t s) (fun v us=>some (v,us)) with
         | none=>rw [hl] at hs;cases hs
         | some z =>
          obtain ⟨z1,z2⟩:=z;rw [hl] at hs;cases hs;rw [BE hl (by rw [nh];exact h1 d (by rw [ha];simp)) (by rw [nh];exact h1 s (by rw [ha];simp)) ?_]
          · rfl
          · intro r hr hm;refine hh r hr ?_;simp only [reads,hop];exact List.mem_append_left _ (List.mem_flatMap.2 ⟨d,by rw [ha];simp,by rw [← nh (t:=t)];exact hm⟩)
      · cases hs
    · cases hs
  · rename_i hc
    try simp only [hc]
    exact hs
  · rename_i hc
    try simp only [hc]
    exact hs
  · rename_i x hc
    try simp only [hc]
    split at hs
    · rename_i q hq
      try simp only [hq]
      have hsub:∀ vs,iB q.1.A q.2=some vs→∀ r ∈ nG A q.1.A vs++sB A q.1.A vs,r ∈ reads tb ct o tm A:=fun vs hvs r hr=>by simp only [reads,hop,hc,hq,hvs];exact List.mem_append_right _ hr
      exact G_ (A:=A) (B:=B) hs (fun vs hvs=>h.sub (hsub vs hvs)) (fun vs hvs r hr hm=>hh r hr (hsub vs hvs r (List.mem_append_left _ hm)))
    · cases hs
  · cases hs
 | makeFunc fn first caps =>
  cases fn with
  | func f=>simp only [fB,hop] at hs ⊢;exact hs
  | _=>unfold fB at hs;rw [hop] at hs;cases hs
 | _=>unfold fB at hs ⊢;rw [hop] at hs ⊢;exact hs
end
end Go.V
end
section
namespace Go.V
open Go.RowKit
section
variable {tb:ma} {ct:List (Nat × Cn)} {tm tm':List AV} {hp:Hp} {id:Nat} {R:Type}
theorem JI {f g:Operand→AV} {o:Option Operand} (h:∀ x ∈ o.toList,f x=g x):o.map f=o.map g:=by
 cases o with
 | none=>rfl
 | some x=>simp [h x (by simp)]
theorem qY {offs:List (Nat × Nat)} {f g:Operand→AV}:∀ {ps:List (Nat × Operand)} {z:List AV},(∀ p ∈ ps,f p.2=g p.2)→lZ z offs f ps=lZ z offs g ps
 | [],_,_=>rfl
 | (i,x)::ps,z,h=>by
  have h0:f x=g x:=h (i,x) (List.mem_cons_self ..);simp only [lZ,h0];split
  · rw [qY fun p hp=>h p (List.mem_cons_of_mem _ hp)]
  · rfl
theorem xy {e:Ty} {f g:Operand→AV}:∀ {ps:List (Nat × Operand)} {l:List e.d} {b:Bool},(∀ p ∈ ps,f p.2=g p.2)→elems hp e f ps l b=elems hp e g ps l b
 | [],_,_,_=>rfl
 | (i,x)::ps,l,b,h=>by
  have h0:f x=g x:=h (i,x) (List.mem_cons_self ..);simp only [elems,h0];split
  · rw [xy fun p hp=>h p (List.mem_cons_of_mem _ hp)]
  · rfl
theorem mo {α β:Type} {f g:α→List β}:∀ {l:List α},(∀ x ∈ l,f x=g x)→l.flatMap f=l.flatMap g
 | [],_=>rfl
 | x::l,h=>by simp [h x (List.mem_cons_self ..),mo fun y hy=>h y (List.mem_cons_of_mem _ hy)]
theorem Oe {o:Oper} {k:AV→ju→Nat→Option R} (h:∀ x ∈ o.op.operands.toList,∀ T,val tb tm' T x=val tb tm T x) :
 fB tb ct o tm' hp id k=fB tb ct o tm hp id k∧reads tb ct o tm' hp=reads tb ct o tm hp:=by
 cases hop:o.op with
 | buildSlice t n ps =>
  have h0:∀ p ∈ ps.toList,val tb tm' 0 p.2=val tb tm 0 p.2:=fun p hp=>h p.2 (by rw [hop];simp only [Op.operands,List.toList_toArray];exact List.mem_map_of_mem hp) 0
  simp only [fB,reads,hop];have e1:ps.toList.flatMap (fun p=>cellsOf (val tb tm' 0 p.2))=ps.toList.flatMap (fun p=>cellsOf (val tb tm 0 p.2)):=mo fun p hp=>by rw [h0 p hp]
  rw [e1];refine ⟨?_,mo fun p hp=>by rw [h0 p hp]⟩;split
  · rw [xy h0]
  · rfl
 | build t ps =>
  have h0:∀ p ∈ ps.toList,val tb tm' 0 p.2=val tb tm 0 p.2:=fun p hp=>h p.2 (by rw [hop];simp only [Op.operands,List.toList_toArray];exact List.mem_map_of_mem hp) 0
  simp only [fB,reads,hop];exact ⟨by
   split
   · rw [qY h0]
   · rfl
   · rfl,trivial⟩
 | makeFunc fn first caps =>
  have h0:caps.toList.map (val tb tm' 0)=caps.toList.map (val tb tm 0):=List.map_congr_left fun x hx=>h x (by rw [hop];simp only [Op.operands,Array.toList_append];exact List.mem_append_right _ hx) 0
  cases fn <;> simp only [fB,reads,hop]
  · exact ⟨by rw [h0],trivial⟩
  all_goals exact ⟨trivial,trivial⟩
 | call c =>
  have hin:∀ x ∈ c.args.toList,∀ T,val tb tm' T x=val tb tm T x:=fun x hx=>h x (by rw [hop];simp only [Op.operands,Call.operands,Array.toList_append];exact List.mem_append_right _ hx)
  have h0:c.args.toList.map (val tb tm' 0)=c.args.toList.map (val tb tm 0):=List.map_congr_left fun x hx=>hin x hx 0
  have hcal:∀ x,c.callee = .value x→qO tb ct tm' x (c.args.toList.map (val tb tm' 0))=qO tb ct tm x (c.args.toList.map (val tb tm 0)):=fun x hx=>by rw [h0];unfold qO;rw [h x (by rw [hop];simp only [Op.operands,Call.operands,Array.toList_append,hx];exact List.mem_append_left _ (by simp)) 0]
  simp only [fB,reads,hop];refine ⟨?_,?_⟩
  · split
    · split
      · rename_i x t ha ht;rw [hin x (by rw [ha];simp)]
      · rfl
    · split
      · rename_i d s t t' ha ht;split
        · rw [hin d (by rw [ha];simp),hin s (by rw [ha];simp)]
        · rfl
      · rfl
    · rw [h0]
    · rw [h0]
    · rename_i x hc;rw [hcal x hc]
    · rfl
  · rw [mo (f:=fun x=>cM (cellsOf (val tb tm' 0 x))) (g:=fun x=>cM (cellsOf (val tb tm 0 x))) fun x hx=>by rw [hin x hx]];congr 1;split
    · rename_i x hc;rw [hcal x hc]
    · rfl
 | slice t x lo hi mx =>
  have hx:=h x (by rw [hop];simp [Op.operands]);have hl:lo.map (val tb tm' 0)=lo.map (val tb tm 0):=JI fun y hy=>h y (by rw [hop];simp [Op.operands] at hy ⊢;simp [hy]) 0
  have hh:hi.map (val tb tm' 0)=hi.map (val tb tm 0):=JI fun y hy=>h y (by rw [hop];simp [Op.operands] at hy ⊢;simp [hy]) 0
  cases mx <;> simp only [fB,reads,hop,hx,hl,hh] <;> exact ⟨trivial,trivial⟩
 | pick c x y =>have h1:=h c (by rw [hop];simp [Op.operands]);have h2:=h x (by rw [hop];simp [Op.operands]);have h3:=h y (by rw [hop];simp [Op.operands]);simp only [fB,reads,hop,h1,h2,h3];exact ⟨trivial,trivial⟩
 | store t x y =>have h1:=h x (by rw [hop];simp [Op.operands]);have h2:=h y (by rw [hop];simp [Op.operands]);simp only [fB,reads,hop,h1,h2];exact ⟨trivial,trivial⟩
 | binOp op t x y u =>have h1:=h x (by rw [hop];simp [Op.operands]);have h2:=h y (by rw [hop];simp [Op.operands]);simp only [fB,reads,hop,h1,h2];exact ⟨trivial,trivial⟩
 | makeSlice t x y =>have h1:=h x (by rw [hop];simp [Op.operands]);have h2:=h y (by rw [hop];simp [Op.operands]);simp only [fB,reads,hop,h1,h2];exact ⟨trivial,trivial⟩
 | indexAddr t x y =>have h1:=h x (by rw [hop];simp [Op.operands]);have h2:=h y (by rw [hop];simp [Op.operands]);simp only [fB,reads,hop,h1,h2];exact ⟨trivial,trivial⟩
 | index t x y =>have h1:=h x (by rw [hop];simp [Op.operands]);have h2:=h y (by rw [hop];simp [Op.operands]);simp only [fB,reads,hop,h1,h2];exact ⟨trivial,trivial⟩
 | alloc t=>simp only [fB,reads,hop];exact ⟨trivial,trivial⟩
 | move x=>have h1:=h x (by rw [hop];simp [Op.operands]);simp only [fB,reads,hop,h1];exact ⟨trivial,trivial⟩
 | assign x=>have h1:=h x (by rw [hop];simp [Op.operands]);simp only [fB,reads,hop,h1];exact ⟨trivial,trivial⟩
 | box t x=>have h1:=h x (by rw [hop];simp [Op.operands]);simp only [fB,reads,hop,h1];exact ⟨trivial,trivial⟩
 | load t x=>have h1:=h x (by rw [hop];simp [Op.operands]);simp only [fB,reads,hop,h1];exact ⟨trivial,trivial⟩
 | nilCheck x=>have h1:=h x (by rw [hop];simp [Op.operands]);simp only [fB,reads,hop,h1];exact ⟨trivial,trivial⟩
 | unOp op t x=>have h1:=h x (by rw [hop];simp [Op.operands]);simp only [fB,reads,hop,h1];exact ⟨trivial,trivial⟩
 | convert s d x=>have h1:=h x (by rw [hop];simp [Op.operands]);simp only [fB,reads,hop,h1];exact ⟨trivial,trivial⟩
 | fieldAddr s x f=>have h1:=h x (by rw [hop];simp [Op.operands]);simp only [fB,reads,hop,h1];exact ⟨trivial,trivial⟩
 | field s x f=>have h1:=h x (by rw [hop];simp [Op.operands]);simp only [fB,reads,hop,h1];exact ⟨trivial,trivial⟩
 | extract x i=>have h1:=h x (by rw [hop];simp [Op.operands]);simp only [fB,reads,hop,h1];exact ⟨trivial,trivial⟩
 | _=>unfold fB reads;rw [hop];exact ⟨rfl,rfl⟩
end
def Ey:ju→Nat→qm→qm
 | [],_,x=>x
 | u::us,r,x=>Ey us r (bif Nat.beq r u.1 then turn u.2 x else x)
theorem lV:∀ {us:ju} {hp:Hp} {r:Nat},applyF hp us r=Ey us r (hp r)
 | [],_,_=>rfl
 | u::us,hp,r=>by simp only [applyF,Ey];exact lV (us:=us)
theorem x_ (x:qm):EL (EL x)=EL x:=by cases x <;> rfl
theorem HH (x:qm):(∀ y,turn x y=EL y)∨(∃ z,∀ y,turn x y=z):=by
 cases x
 · exact Or.inr ⟨_,fun _=>rfl⟩
 · exact Or.inr ⟨_,fun _=>rfl⟩
 · exact Or.inr ⟨_,fun _=>rfl⟩
 · exact Or.inl fun _=>rfl
theorem Dh:∀ (us:ju) (r:Nat) {x y:qm},(y=x∨y=EL x)→(Ey us r y=Ey us r x∨Ey us r y=EL (Ey us r x))
 | [],_,_,_,h=>h
 | u::us,r,x,y,h=>by
  simp only [Ey];cases Nat.beq r u.1 with
  | false=>exact Dh us r h
  | true =>
   simp only [cond_true];refine Dh us r ?_;rcases HH u.2 with q | ⟨z,q⟩
   · rw [q,q];rcases h with rfl | rfl
     · exact Or.inl rfl
     · exact Or.inl (x_ _)
   · rw [q,q];exact Or.inl rfl
theorem u_:∀ {us:ju} {r:Nat},r ∉ us.map (·.1)→∀ x,Ey us r x=x
 | [],_,_,_=>rfl
 | u::us,r,h,x=>by
  simp only [List.map_cons,List.mem_cons,not_or] at h;simp only [Ey];have:Nat.beq r u.1=false:=by
   cases hb:Nat.beq r u.1 with
   | false=>rfl
   | true=>exact absurd (Nat.eq_of_beq_eq_true hb) h.1
  rw [this];exact u_ h.2 x
theorem Bf {u:Nat × qm} {us:ju} {r:Nat} (h:r ∉ kW (u::us)):r ∉ kW us∧(r=u.1→∃ p e l,u.2 = .fro p e l):=by obtain ⟨s,x⟩:=u;cases x <;> simp_all [kW]
theorem sG:∀ {us:ju} {r:Nat},r ∉ kW us→(∀ x,Ey us r x=x)∨(∀ x,Ey us r x=EL x)
 | [],_,_=>Or.inl fun _=>rfl
 | u::us,r,h=>by
  obtain ⟨h1,h2⟩:=Bf h;simp only [Ey];cases hb:Nat.beq r u.1 with
  | false=>exact sG h1
  | true =>
   simp only [cond_true];obtain ⟨p,e,l,q⟩:=h2 (Nat.eq_of_beq_eq_true hb);rw [q];right;intro x;rcases sG h1 with g | g
   · rw [g];rfl
   · rw [g];exact x_ x
theorem Lh {us vs:ju} {r:Nat} (h1:∀ r ∈ kW us,r ∉ vs.map (·.1)) (h2:∀ r ∈ kW vs,r ∉ us.map (·.1)) (x:qm):Ey vs r (Ey us r x)=Ey us r (Ey vs r x):=by
 by_cases a:r ∈ kW us
 · rw [u_ (h1 r a),u_ (h1 r a)]
 · by_cases b:r ∈ kW vs
   · rw [u_ (h2 r b),u_ (h2 r b)]
   · rcases sG a with p | p <;> rcases sG b with q | q <;> simp [p,q]
theorem vU:∀ {us:ju} {hp:Hp},rx us→applyF hp us=apply hp us
 | [],_,_=>rfl
 | u::us,hp,h=>by
  simp only [applyF,apply];have e:(fun n=>bif Nat.beq n u.1 then turn u.2 (hp n) else hp n)=ki hp u.1 u.2:=by
   funext n;simp only [ki];have h0:=h u.1 u.2 (List.mem_cons_self ..);obtain ⟨s,x⟩:=u;cases x <;> first | rfl | exact absurd rfl (h0 _ _ _)
  rw [e];exact vU fun r x hx=>h r x (List.mem_cons_of_mem _ hx)
theorem zU:∀ {us:ju} {hp:Hp},E0 hp us→applyF hp us=apply hp us
 | [],_,_=>rfl
 | (r,x)::us,hp,h=>by
  obtain ⟨p,e,l,rfl,hr⟩:=h r x (List.mem_cons_self ..);simp only [applyF,apply];have e':(fun n=>bif Nat.beq n r then turn (.fro p e l) (hp n) else hp n)=ki hp r (.fro p e l):=by
   funext n;simp only [ki];cases hb:Nat.beq n r with
   | false=>rfl
   | true =>
    simp only [cond_true];rw [Nat.eq_of_beq_eq_true hb];rcases hr with q | q <;> rw [q] <;> rfl
  rw [e'];exact zU h.tail
theorem vW:∀ (us0:ju) {hp:Hp} {us1:ju},apply hp (us0++us1)=apply (apply hp us0) us1
 | [],_,_=>rfl
 | u::us,hp,us1=>vW us
theorem uJ:∀ (us0:ju) {hp:Hp} {us1:ju},applyF hp (us0++us1)=applyF (applyF hp us0) us1
 | [],_,_=>rfl
 | u::us,hp,us1=>uJ us
theorem iH.applyF {hp:Hp} {id nx:Nat} {us:ju} (h:iH hp id us nx):applyF hp us=apply hp us:=by obtain ⟨_,us0,us1,rfl,h0,h1⟩:=h;rw [uJ,vW,zU h0,vU h1]
end Go.V
end
section
namespace Go.V
open Go.RowKit
structure G where
 i:Nat
 go:Bool
 us:ju
 rd:List Nat
 A:List Nat
 dst:Option Nat
 v:AV
 nm:List Nat
 id:Nat
 nx:Nat
def rep (hp:Hp) (D:Nat→Bool):List G→Hp
 | []=>hp
 | g::gs=>bif D g.i then applyF (rep hp D gs) g.us else rep hp D gs
def jC (tm:List AV) (D:Nat→Bool):List G→List AV
 | []=>tm
 | g::gs=>bif D g.i then oE (jC tm D gs) g.dst g.v else jC tm D gs
structure R0 (g' g:G):Prop where
 a:∀ r ∈ kW g.us,r ∉ g'.rd
 b:∀ r ∈ kW g'.us,r ∉ g.rd
 c:∀ r ∈ g.us.map (·.1),r ∉ kW g'.us
 d:∀ r ∈ kW g.us,r ∉ g'.us.map (·.1)
structure Jl (g' g:G):Prop where
 e:∀ t ∈ g.dst.toList,t ∉ g'.dst.toList++g'.nm
 f:∀ t ∈ g'.dst.toList,t ∉ g.nm
section
variable {hp:Hp} {tm:List AV} {D D':Nat→Bool}
theorem u6 {r:Nat}:∀ {gs:List G},(∀ g ∈ gs,r ∈ g.us.map (·.1)→D g.i=D' g.i)→rep hp D gs r=rep hp D' gs r
 | [],_=>rfl
 | g::gs,h=>by
  have ih:=u6 (gs:=gs) fun g' hg=>h g' (List.mem_cons_of_mem _ hg)
  simp only [rep];by_cases hr:r ∈ g.us.map (·.1)
  · rw [h g (List.mem_cons_self ..) hr];cases D' g.i with
    | true=>simp only [cond_true,lV,ih]
    | false=>exact ih
  · have e:∀ (b:Bool) (x:Hp),(bif b then applyF x g.us else x) r=x r:=fun b x=>by
     cases b with
     | true=>simp only [cond_true,lV,u_ hr]
     | false=>rfl
    rw [e,e,ih]
theorem Ig {r:Nat}:∀ {gs:List G},(∀ g ∈ gs,D g.i=D' g.i∨(D g.i=true∧r ∉ kW g.us))→rep hp D gs r=rep hp D' gs r∨rep hp D gs r=EL (rep hp D' gs r)
 | [],_=>Or.inl rfl
 | g::gs,h=>by
  have ih:=Ig (gs:=gs) fun g' hg=>h g' (List.mem_cons_of_mem _ hg)
  simp only [rep];cases h1:D g.i with
  | true =>
   cases h2:D' g.i with
   | true =>simp only [cond_true,lV];exact Dh _ _ ih
   | false =>
    rcases h g (List.mem_cons_self ..) with q | ⟨_,q⟩
    · rw [h1,h2] at q;cases q
    · simp only [cond_true,cond_false,lV];rcases sG q with e | e
      · rw [e];exact ih
      · rw [e];rcases ih with g1 | g1
        · rw [g1];exact Or.inr rfl
        · rw [g1,x_];exact Or.inr rfl
  | false =>
   cases h2:D' g.i with
   | true =>
    rcases h g (List.mem_cons_self ..) with q | ⟨q,_⟩
    · rw [h1,h2] at q;cases q
    · rw [h1] at q;cases q
   | false=>exact ih
theorem MP {l:List AV} {d:Option Nat} {v:AV}:(oE l d v).length=l.length:=by cases d <;> simp [oE]
theorem vk:∀ {gs:List G},(jC tm D gs).length=tm.length
 | []=>rfl
 | g::gs=>by
  simp only [jC];cases D g.i with
  | true=>rw [cond_true,MP];exact vk
  | false=>exact vk
theorem KJ {l l':List AV} {d:Option Nat} {v:AV} {t:Nat} (hl:l.length=l'.length) (h:l.getD t .junk=l'.getD t .junk):(oE l d v).getD t .junk=(oE l' d v).getD t .junk:=by
 cases d with
 | none=>exact h
 | some d =>
  simp only [oE,List.getD,List.getElem?_set,hl] at h ⊢;split
  · split <;> rfl
  · exact h
theorem IE {l:List AV} {d:Option Nat} {v:AV} {t:Nat} (h:d≠some t):(oE l d v).getD t .junk=l.getD t .junk:=by
 cases d with
 | none=>rfl
 | some d =>
  have:d≠t:=fun q=>h (by rw [q])
  simp [oE,List.getD,List.getElem?_set_ne this]
theorem AU {t:Nat}:∀ {gs:List G},(∀ g ∈ gs,g.dst=some t→D g.i=D' g.i)→(jC tm D gs).getD t .junk=(jC tm D' gs).getD t .junk
 | [],_=>rfl
 | g::gs,h=>by
  have ih:=AU (gs:=gs) fun g' hg=>h g' (List.mem_cons_of_mem _ hg)
  simp only [jC];by_cases hr:g.dst=some t
  · rw [h g (List.mem_cons_self ..) hr];cases D' g.i with
    | true =>simp only [cond_true];exact KJ (by rw [vk,vk]) ih
    | false=>exact ih
  · have e:∀ (b:Bool) (x:List AV),(bif b then oE x g.dst g.v else x).getD t .junk=x.getD t .junk:=fun b x=>by
     cases b with
     | true=>exact IE hr
     | false=>rfl
    rw [e,e,ih]
def oU (D:Nat→Bool) (i:Nat):Nat→Bool:=fun j=>bif Nat.beq j i then true else D j
theorem tS {i:Nat}:oU D i i=true:=by simp [oU]
theorem p9 {i j:Nat} (h:j≠i):oU D i j=D j:=by
 have:Nat.beq j i=false:=by
  cases hb:Nat.beq j i with
  | false=>rfl
  | true=>exact absurd (Nat.eq_of_beq_eq_true hb) h
 simp [oU,this]
theorem OS {gs:List G} (h:∀ g ∈ gs,D g.i=D' g.i):rep hp D gs=rep hp D' gs:=funext fun r=>u6 fun g hg _=>h g hg
theorem vc:∀ {gs:List G},(∀ g ∈ gs,D g.i=D' g.i)→jC tm D gs=jC tm D' gs
 | [],_=>rfl
 | g::gs,h=>by simp only [jC];rw [h g (List.mem_cons_self ..),vc fun g' hg=>h g' (List.mem_cons_of_mem _ hg)]
theorem J7 {g:G} {r:Nat}:∀ {gs:List G},gs.Pairwise (fun x y=>y.i<x.i)→g ∈ gs→D g.i=false →
 (∀ h ∈ gs,g.i<h.i→D h.i=true→(∀ r ∈ kW g.us,r ∉ h.us.map (·.1))∧(∀ r ∈ kW h.us,r ∉ g.us.map (·.1)))→rep hp (oU D g.i) gs r=Ey g.us r (rep hp D gs r)
 | [],_,hg,_,_=>by cases hg
 | h::gs,hp',hg,hD,hc=>by
  rw [List.pairwise_cons] at hp';simp only [rep];rcases List.mem_cons.1 hg with q | q
  · subst q;rw [tS,hD,cond_true,cond_false,lV];congr 1;exact u6 fun g' hg' _=>p9 (Nat.ne_of_lt (hp'.1 g' hg'))
  · have hlt:=hp'.1 g q;rw [p9 (Nat.ne_of_gt hlt)];have ih:=J7 (r:=r) hp'.2 q hD fun h' hh'=>hc h' (List.mem_cons_of_mem _ hh')
    cases hb:D h.i with
    | false=>exact ih
    | true =>simp only [cond_true,lV];rw [ih];obtain ⟨c1,c2⟩:=hc h (List.mem_cons_self ..) hlt hb;exact Lh c1 c2 _
theorem KY {l:List AV} {d e:Option Nat} {u v:AV} (h:∀ t ∈ d.toList,t ∉ e.toList):oE (oE l d u) e v=oE (oE l e v) d u:=by
 cases d with
 | none=>rfl
 | some d =>
  cases e with
  | none=>rfl
  | some e =>
   have:d≠e:=fun q=>h d (by simp) (by simp [q])
   exact List.set_comm _ _ this
theorem FI {g:G}:∀ {gs:List G},gs.Pairwise (fun x y=>y.i<x.i)→g ∈ gs→D g.i=false →
 (∀ h ∈ gs,g.i<h.i→D h.i=true→∀ t ∈ h.dst.toList,t ∉ g.dst.toList)→jC tm (oU D g.i) gs=oE (jC tm D gs) g.dst g.v
 | [],_,hg,_,_=>by cases hg
 | h::gs,hp',hg,hD,hc=>by
  rw [List.pairwise_cons] at hp';simp only [jC];rcases List.mem_cons.1 hg with q | q
  · subst q;rw [tS,hD,cond_true,cond_false];congr 1;exact vc fun g' hg'=>p9 (Nat.ne_of_lt (hp'.1 g' hg'))
  · have hlt:=hp'.1 g q;rw [p9 (Nat.ne_of_gt hlt)];have ih:=FI hp'.2 q hD fun h' hh'=>hc h' (List.mem_cons_of_mem _ hh')
    cases hb:D h.i with
    | false=>exact ih
    | true =>simp only [cond_true];rw [ih];exact (KY (hc h (List.mem_cons_self ..) hlt hb)).symm
end
def nW:List G→List R7
 | []=>[]
 | g::gs=>bif g.go then ⟨g.i,g.us,g.rd⟩::nW gs else nW gs
theorem uW {hp:Hp} {a:List Nat}:∀ {gs:List G},(∀ g ∈ gs,g.go=false→g.us=[])→rT hp a (nW gs)=rep hp (kB a) gs
 | [],_=>rfl
 | g::gs,h=>by
  have ih:=uW (hp:=hp) (a:=a) (gs:=gs) fun g' hg=>h g' (List.mem_cons_of_mem _ hg)
  simp only [nW,rep];cases hg:g.go with
  | true=>simp only [cond_true,rT,ih]
  | false =>rw [h g (List.mem_cons_self ..) hg];simp only [cond_false,applyF,ih];cases kB a g.i <;> rfl
theorem uT {hp:Hp}:∀ {gs:List G},(∀ g ∈ gs,g.go=false→g.us=[])→tZ hp (nW gs)=rep hp (fun _=>true) gs
 | [],_=>rfl
 | g::gs,h=>by
  have ih:=uT (hp:=hp) (gs:=gs) fun g' hg=>h g' (List.mem_cons_of_mem _ hg)
  simp only [nW,rep];cases hg:g.go with
  | true=>simp only [cond_true,tZ,ih]
  | false =>rw [h g (List.mem_cons_self ..) hg];simp only [cond_false,cond_true,applyF,ih]
theorem AR {a:List Nat} {us:ju} {rd:List Nat}:∀ {gs:List G},Ng a us rd (nW gs)=true→∀ g' ∈ gs,g'.go=true→kB a g'.i=true ∨
 ((∀ r ∈ kW us,r ∉ g'.rd)∧(∀ r ∈ kW g'.us,r ∉ rd)∧(∀ r ∈ us.map (·.1),r ∉ kW g'.us)∧(∀ r ∈ kW us,r ∉ g'.us.map (·.1)))
 | [],_,_,hg,_=>by cases hg
 | g::gs,h,g',hg,hgo=>by
  simp only [nW] at h;cases hgg:g.go with
  | false =>
   rw [hgg,cond_false] at h;rcases List.mem_cons.1 hg with q | q
   · subst q;rw [hgg] at hgo;cases hgo
   · exact AR h g' q hgo
  | true =>
   rw [hgg,cond_true] at h;simp only [Ng] at h;cases hc:(kB a g.i||(m8 (kW us) g.rd&&m8 (kW g.us) rd&&m8 (us.map (·.1)) (kW g.us)&&m8 (kW us) (g.us.map (·.1)))) with
   | false=>rw [hc] at h;cases h
   | true =>
    rw [hc,cond_true] at h;rcases List.mem_cons.1 hg with q | q
    · subst q;simp only [Bool.or_eq_true,Bool.and_eq_true,ud] at hc;rcases hc with q | ⟨⟨⟨q1,q2⟩,q3⟩,q4⟩
      · exact Or.inl q
      · exact Or.inr ⟨q1,q2,q3,q4⟩
    · exact AR h g' q hgo
end Go.V
end

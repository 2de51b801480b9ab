/- V: soundness, part 6 of 10. -/
import Derived.Test.YteejjngdagmofaaGreatDoorVS5
section
set_option linter.unusedVariables false
set_option linter.unusedSimpArgs false
namespace Go.V
open Go.RowKit
def lu (L:List Nat) (A B:Hp):Prop:=∀ r ∈ L,B r=A r∨∃ p e l,A r = .own p e l∧B r = .fro p e l
theorem GJ:∀ {cs:List AV} {r:Nat},r ∈ cA cs↔(AV.ref r ∈ cs∨∃ i f,AV.ptr r i f ∈ cs)
 | [],r=>by simp [cA]
 | c::cs,r=>by have ih:=GJ (cs:=cs) (r:=r);cases c <;> simp [cA,ih,List.mem_cons] <;> grind
theorem lu.sub {L M:List Nat} {A B:Hp} (h:lu L A B) (hs:∀ r ∈ M,r ∈ L):lu M A B:=fun r hr=>h r (hs r hr)
theorem sj {cs ds:List AV} (h:∀ c ∈ ds,c ∈ cs):∀ r ∈ cA ds,r ∈ cA cs:=fun r hr=>by
 rw [GJ] at hr ⊢;rcases hr with q | ⟨i,f,q⟩
 · exact Or.inl (h _ q)
 · exact Or.inr ⟨i,f,h _ q⟩
theorem tA:∀ {us:ji} {r:Nat} {x:qa},(r,x) ∈ us→(∀ p e l,x ≠ .fro p e l)→r ∈ kP us
 | [],_,_,h,_=>by cases h
 | (s,y)::us,r,x,h,hx=>by
  unfold kP;rcases List.mem_cons.1 h with q | q
  · cases q;split
    · rename_i q;cases q
    · rename_i q;cases q;exact absurd rfl (hx _ _ _)
    · rename_i q;cases q;exact List.mem_cons_self ..
  · have:=tA q hx;split
    · rename_i q;cases q
    · rename_i q;cases q;exact this
    · rename_i q;cases q;exact List.mem_cons_of_mem _ this
section
variable {A B:Hp}
theorem sY {e:Ty} {c:AV} (h:lu (cA [c]) A B):getSl B e c=getSl A e c:=by
 cases c <;> try rfl
 rename_i r;simp only [getSl];rcases h r (by simp [cA]) with q | ⟨p,e',l,q1,q2⟩
 · rw [q]
 · rw [q1,q2]
theorem lV:∀ {t:Ty} {cs:List AV},lu (cA cs) A B→prj B t cs=prj A t cs
 | .bool,_,_=>rfl
 | .int _,_,_=>rfl
 | .str,_,_=>rfl
 | .slice e,cs,h=>by
  simp only [prj,uy];split
  · exact sY h
  · rfl
 | .pair a b,cs,h=>by simp only [prj];rw [lV (t:=a) (h.sub (sj fun c hc=>List.mem_of_mem_take hc)),lV (t:=b) (h.sub (sj fun c hc=>List.mem_of_mem_drop hc))]
 | .unit,_,_=>rfl
 | .opq,_,_=>rfl
theorem Ef {c:AV} (h:lu (cA [c]) A B):taint1 B c=taint1 A c:=by
 cases c <;> try rfl
 rename_i r;simp only [taint1];rcases h r (by simp [cA]) with q | ⟨p,e',l,q1,q2⟩
 · rw [q]
 · rw [q1,q2]
theorem nQ:∀ {cs:List AV},lu (cA cs) A B→taint B cs=taint A cs
 | [],_=>rfl
 | c::cs,h=>by simp only [taint];rw [Ef (h.sub (sj fun d hd=>by simp at hd;subst hd;exact List.mem_cons_self ..)),nQ (h.sub (sj fun d hd=>List.mem_cons_of_mem _ hd))]
theorem mZ:∀ {cs:List AV},lu (cA cs) A B→freeze B cs=freeze A cs
 | [],_=>rfl
 | c::cs,h=>by
  have ih:=mZ (cs:=cs) (h.sub (sj fun d hd=>List.mem_cons_of_mem _ hd));cases c <;> try exact ih
  rename_i r;simp only [freeze,ih];rcases h r (by simp [cA]) with q | ⟨p,e',l,q1,q2⟩
  · rw [q]
  · rw [q1,q2]
theorem Of {R:Type} {t:Ty} {a:AV} {k:AV→Option R} (h:lu (cA (cellsOf a)) A B):ld B t a k=ld A t a k:=by
 cases a <;> try rfl
 rename_i r i off;simp only [ld];rcases h r (by simp [cA,cellsOf]) with q | ⟨p,e',l,q1,q2⟩
 · rw [q]
 · rw [q1,q2]
theorem Bc {t:Ty} {a v:AV} {us:ji} (hs:lI A t a v some=some us) (h1:lu (cA (cellsOf a)) A B) (h2:lu (cA (cellsOf v)) A B) (hh:∀ r ∈ kP us,r ∈ cA (cellsOf a)→B r=A r):lI B t a v some=some us:=by
 unfold lI at hs ⊢;obtain ⟨hc,hs⟩:=aL hs;rw [hc,cond_true];split at hs
 · rename_i r i off _;split at hs
   · rename_i cs hr;obtain ⟨hle,hs⟩:=aL hs;cases hs;rw [hh r (tA (List.mem_singleton.2 rfl) (fun _ _ _ q=>by cases q)) (by simp [cA,cellsOf]),hr];simp only [hle,cond_true]
   · rename_i p e l hr;obtain ⟨hn,hs⟩:=qg hs;split at hs
     · rename_i y hy;split at hs
       · rename_i z hz;cases hs;rw [hh r (tA (List.mem_append_right _ (List.mem_singleton.2 rfl)) (fun _ _ _ q=>by cases q)) (by simp [cA,cellsOf]),hr];simp only [hn,cond_false,lV h2,hy,hz,mZ h2,nQ h2]
       · cases hs
     · cases hs
   · cases hs
 · cases hs
theorem ye {R:Type} {tb:mH} {t:Nat} {x i:AV} {k:AV→Option R} (h:lu (cA (cellsOf x)) A B):indexAddr tb B t x i k=indexAddr tb A t x i k:=by
 unfold indexAddr;split
 · cases x <;> try rfl
   rename_i r;simp only [];rcases h r (by simp [cA,cellsOf]) with q | ⟨p,e',l,q1,q2⟩
   · rw [q]
   · rw [q1,q2]
 · rfl
 · rfl
theorem Bt {R:Type} {u:Ty} {x:AV} {lo hi:Option AV} {k:AV→ji→Option R} (h:lu (cA (cellsOf x)) A B):lQ u B x lo hi k=lQ u A x lo hi k:=by
 cases x with
 | ref r =>
  cases u <;> try rfl
  simp only [lQ];rcases h r (by simp [cA,cellsOf]) with q | ⟨p,e',l,q1,q2⟩
  · rw [q]
  · rw [q1,q2]
 | _=>cases u <;> rfl
theorem HE {R:Type} {u:Ty} {x:AV} {k:AV→Option R} (h:lu (cA (cellsOf x)) A B):lenOf u B x k=lenOf u A x k:=by
 cases x with
 | ref r =>
  cases u <;> try rfl
  simp only [lenOf];rcases h r (by simp [cA,cellsOf]) with q | ⟨p,e',l,q1,q2⟩
  · rw [q]
  · rw [q1,q2]
 | _=>cases u <;> rfl
theorem B3 {c:AV}:∀ r ∈ cA [c],r ∈ cA (cellsOf c):=by intro r hr;cases c <;> simp_all [cA,cellsOf]
theorem zE {e:Ty} {id:Nat} {d s v:AV} {us:ji} (hs:jl e A id d s (fun v us=>some (v,us))=some (v,us)) (h1:lu (cA (cellsOf d)) A B) (h2:lu (cA (cellsOf s)) A B) (hh:∀ r ∈ kP us,r ∈ cA (cellsOf d)→B r=A r) :
 jl e B id d s (fun v us=>some (v,us))=some (v,us):=by
 unfold jl at hs ⊢;have h2':=h2.sub B3;rw [sY h2'];split at hs
 · cases hs
 · split at hs
   · rw [nQ h2'];exact hs
   · rename_i r;split at hs
     · rename_i p t l hr;split at hs
       · rename_i ld hld;obtain ⟨hle,hs⟩:=aL hs;cases hs;have hB:B r=A r:=hh r (tA (List.mem_cons_self ..) (fun _ _ _ q=>by cases q)) (by simp [cA,cellsOf]);rw [hB,hr];simp only [hld,hle,cond_true,nQ h2']
       · cases hs
     · cases hs
   · cases hs
theorem xd {e:Ty} {ρ:Operand→AV}:∀ {ps:List (Nat × Operand)} {l:List e.d} {b:Bool},(∀ p ∈ ps,lu (cA (cellsOf (ρ p.2))) A B)→elems B e ρ ps l b=elems A e ρ ps l b
 | [],_,_,_=>rfl
 | (i,x)::ps,l,b,h=>by
  have h0:lu (cA (cellsOf (ρ x))) A B:=h (i,x) (List.mem_cons_self ..);simp only [elems];rw [lV h0,nQ h0];split
  · rw [xd fun p hp=>h p (List.mem_cons_of_mem _ hp)]
  · rfl
theorem Ff {v:AV} {f:Nat} (h:lu (cA [v]) A B):rX B f v=rX A f v:=by
 cases v <;> try rfl
 rename_i r i f;simp only [rX];rcases h r (by simp [cA]) with q | ⟨p,e,l,q1,q2⟩
 · rw [q]
 · rw [q1,q2]
theorem md:∀ {cs:List AV},(∀ r ∈ cA cs,B r=A r)→eG B cs=eG A cs
 | [],_=>rfl
 | c::cs,h=>by
  cases c <;> simp only [eG] <;> first
   | rfl
   | exact md (cs:=cs) h
   | (rw [h _ (by simp [cA]),md (cs:=cs) fun r q=>h r (by simp [cA,q])])
theorem xS {hp:Hp} {p:Bool}:∀ {t:Ty} {x y:t.d} {cs:List AV},prj hp t cs=some x→eG hp cs=true→(p_ p t y cs).map (·.1)=cA cs
 | .bool,x,y,cs,hx,hf=>by
  simp only [prj] at hx;unfold vN at hx;split at hx
  · rfl
  · cases hx
 | .int k,x,y,cs,hx,hf=>by
  simp only [prj] at hx;unfold zy at hx;split at hx
  · rfl
  · cases hx
 | .str,x,y,cs,hx,hf=>by
  simp only [prj] at hx;unfold BE at hx;split at hx
  · rfl
  · cases hx
 | .unit,x,y,cs,hx,hf=>by
  simp only [prj] at hx;unfold wb at hx;split at hx
  · rfl
  · cases hx
 | .opq,x,y,cs,hx,hf=>by cases hx
 | .pair s t,x,y,cs,hx,hf=>by
  simp only [prj] at hx;obtain ⟨h1,h2⟩:=cU hx;have app:∀ cs ds:List AV,eG hp (cs++ds)=true→eG hp cs=true∧eG hp ds=true:=by
   intro cs ds
   induction cs with
   | nil=>exact fun q=>⟨rfl,q⟩
   | cons c cs ih =>
    intro q;cases c <;> simp only [List.cons_append,eG,Bool.and_eq_true] at q ⊢ <;> first | (cases q;done) | (exact ih q) | (exact ⟨⟨q.1,(ih q.2).1⟩,(ih q.2).2⟩)
  obtain ⟨f1,f2⟩:=app (cs.take s.size) (cs.drop s.size) (by rw [List.take_append_drop];exact hf);show (p_ p s y.1 _++p_ p t y.2 _).map (·.1)=_;rw [List.map_append,xS h1 f1,xS h2 f2,← sX]
 | .slice e,x,y,cs,hx,hf=>by
  simp only [prj] at hx;unfold uy at hx;split at hx
  · rename_i c;cases c <;> first | rfl | (simp [getSl] at hx;done) | (simp [eG] at hf;done)
  · cases hx
theorem oZ {hp:Hp} {al:Bool}:∀ {A:List Pm} {vs:List AV} {x:(tup (pE A)).d} {y:(tup (gx A)).d} {id:Nat},eV hp A vs=some x→∀ r ∈ mm hp A vs,r ∈ (jh hp al A vs y id).map (·.1)
 | [],_,_,_,_,_,r,hr=>by cases hr
 | .val t::A,vs,x,y,id,hx,r,hr=>by
  cases vs with
  | nil=>simp only [eV] at hx;cases hx
  | cons v vs =>simp only [eV] at hx;exact oZ (A:=A) (cU (aL hx).2).2 r hr
 | .lend t::A,vs,x,y,id,hx,r,hr=>by
  cases vs with
  | nil=>simp only [eV] at hx;cases hx
  | cons v vs =>
   simp only [eV] at hx;have h1:=aL hx;have h2:=cU h1.2;simp only [mm,List.headD_cons,List.tail_cons,List.mem_append] at hr;simp only [jh,List.headD_cons,List.tail_cons,List.map_append,List.mem_append];rcases hr with q | q
   · left;rw [xS h2.1 (Bool.and_eq_true _ _▸h1.1:_∧_).2];exact q
   · exact Or.inr (oZ (A:=A) h2.2 r q)
 | .give t::A,vs,x,y,id,hx,r,hr=>by
  cases vs with
  | nil=>simp only [eV] at hx;cases hx
  | cons v vs =>
   simp only [eV] at hx;have h1:=aL hx;have h2:=cU h1.2;simp only [mm,List.headD_cons,List.tail_cons,List.mem_append] at hr;simp only [jh,List.headD_cons,List.tail_cons,List.map_append,List.mem_append];rcases hr with q | q
   · left;rw [qu];exact q
   · exact Or.inr (oZ (A:=A) h2.2 r q)
 | .fn f n::A,vs,x,y,id,hx,r,hr=>oZ (A:=A) hx r hr
 | .io o f t::A,vs,x,y,id,hx,r,hr=>by
  cases vs with
  | nil=>simp only [eV] at hx;cases hx
  | cons v vs =>
   simp only [eV] at hx;split at hx
   · rename_i cs hcs;obtain ⟨r0,hv,hrow⟩:=qi hcs;subst hv;obtain ⟨ho,hx⟩:=aL hx;simp only [mm,List.headD_cons,List.tail_cons,hcs,Option.getD_some,cA,List.cons_append,List.nil_append,List.mem_cons,List.mem_append] at hr;cases o with
     | true =>
      simp only [jh,List.headD_cons,List.tail_cons,hcs,Option.getD_some,cond_true,mI,List.map_append,List.map_cons,List.mem_append,List.mem_cons,qu];rcases hr with q | q | q
      · exact Or.inr (Or.inl q)
      · exact Or.inl q
      · exact Or.inr (Or.inr (Or.inr (oZ (A:=A) (cU hx).2 r q)))
     | false =>
      simp only [jh,List.headD_cons,List.tail_cons,hcs,Option.getD_some,cond_false,mI,List.map_cons,List.mem_cons];rcases hr with q | q | q
      · exact Or.inl q
      · cases q
      · exact Or.inr (oZ (A:=A) (cU hx).2 r q)
   · cases hx
theorem lB:∀ {Q:List Pm} {vs:List AV} {x:(tup (pE Q)).d},eV A Q vs=some x→lu (mm A Q vs++rq A Q vs) A B→(∀ r ∈ mm A Q vs,B r=A r) →
 eV B Q vs=some x∧mm B Q vs=mm A Q vs∧rq B Q vs=rq A Q vs∧∀ al y id,jh B al Q vs y id=jh A al Q vs y id
 | [],vs,x,hx,_,_=>⟨hx,rfl,rfl,fun _ _ _=>rfl⟩
 | .val t::Q,vs,x,hx,hf,hh=>by
  cases vs with
  | nil=>simp only [eV] at hx;cases hx
  | cons v vs =>
   simp only [eV] at hx ⊢;simp only [mm,rq,List.headD_cons,List.tail_cons] at hf hh ⊢;have h1:=aL hx;have h2:=cU h1.2;obtain ⟨g1,g2,g3,g4⟩:=lB (Q:=Q) h2.2 (hf.sub fun r q=>by
    rcases List.mem_append.1 q with q | q
    · exact List.mem_append_left _ q
    · exact List.mem_append_right _ (List.mem_append_right _ q)) hh
   refine ⟨?_,g2,by rw [g3],fun al y id=>g4 al y id⟩;rw [lV (hf.sub fun r q=>List.mem_append_right _ (List.mem_append_left _ q)),h2.1,g1,h1.1];rfl
 | .lend t::Q,vs,x,hx,hf,hh=>by
  cases vs with
  | nil=>simp only [eV] at hx;cases hx
  | cons v vs =>
   simp only [eV] at hx ⊢;simp only [mm,rq,List.headD_cons,List.tail_cons] at hf hh ⊢;have h1:=aL hx;have h2:=cU h1.2;obtain ⟨g1,g2,g3,g4⟩:=lB (Q:=Q) h2.2 (hf.sub fun r q=>by
    rcases List.mem_append.1 q with q | q
    · exact List.mem_append_left _ (List.mem_append_right _ q)
    · exact List.mem_append_right _ q) (fun r q=>hh r (List.mem_append_right _ q))
   refine ⟨?_,by rw [g2],g3,fun al y id=>by simp only [jh,List.headD_cons,List.tail_cons,g4]⟩;rw [md fun r q=>hh r (List.mem_append_left _ q),lV (hf.sub fun r q=>List.mem_append_left _ (List.mem_append_left _ q)),h2.1,g1,h1.1];rfl
 | .give t::Q,vs,x,hx,hf,hh=>by
  cases vs with
  | nil=>simp only [eV] at hx;cases hx
  | cons v vs =>
   simp only [eV] at hx ⊢;simp only [mm,rq,List.headD_cons,List.tail_cons] at hf hh ⊢;have h1:=aL hx;have h2:=cU h1.2;obtain ⟨g1,g2,g3,g4⟩:=lB (Q:=Q) h2.2 (hf.sub fun r q=>by
    rcases List.mem_append.1 q with q | q
    · exact List.mem_append_left _ (List.mem_append_right _ q)
    · exact List.mem_append_right _ q) (fun r q=>hh r (List.mem_append_right _ q))
   refine ⟨?_,by rw [g2],g3,fun al y id=>congrArg (sJ (cA (cellsOf v))++·) (g4 al y id)⟩;rw [md fun r q=>hh r (List.mem_append_left _ q),lV (hf.sub fun r q=>List.mem_append_left _ (List.mem_append_left _ q)),h2.1,g1,h1.1];rfl
 | .fn f n::Q,vs,x,hx,hf,hh=>lB (Q:=Q) hx hf hh
 | .io o f t::Q,vs,x,hx,hf,hh=>by
  cases vs with
  | nil=>simp only [eV] at hx;cases hx
  | cons v vs =>
   have hbx:rX B f v=rX A f v:=Ff (hf.sub fun r q=>List.mem_append_left _ (by simp only [mm,List.headD_cons];exact List.mem_append_left _ q));simp only [eV,hbx] at hx ⊢;cases hcs:rX A f v with
   | none=>rw [hcs] at hx;cases hx
   | some cs =>
    rw [hcs] at hx;simp only [] at hx ⊢;simp only [mm,rq,List.headD_cons,List.tail_cons,hbx,hcs,Option.getD_some] at hf hh ⊢;have h1:=aL hx;have h2:=cU h1.2;obtain ⟨g1,g2,g3,g4⟩:=lB (Q:=Q) h2.2 (hf.sub fun r q=>by
     rcases List.mem_append.1 q with q | q
     · exact List.mem_append_left _ (List.mem_append_right _ (List.mem_append_right _ q))
     · exact List.mem_append_right _ (List.mem_append_right _ q)) (fun r q=>hh r (List.mem_append_right _ (List.mem_append_right _ q)))
    have hcf:lu (cA cs) A B:=hf.sub fun r q=>by
     cases o with
     | true=>exact List.mem_append_left _ (List.mem_append_right _ (List.mem_append_left _ q))
     | false=>exact List.mem_append_right _ (List.mem_append_left _ q)
    have hfo:(!o||eG B cs)=(!o||eG A cs):=by
     cases o with
     | true=>rw [md fun r q=>hh r (List.mem_append_right _ (List.mem_append_left _ q))]
     | false=>rfl
    refine ⟨?_,by rw [g2],by rw [g3],fun al y id=>by simp only [jh,List.headD_cons,List.tail_cons,hbx,g4]⟩;rw [hfo,lV hcf,h2.1,g1,h1.1];rfl
theorem Fz {c:Cn} {id nx:Nat} {as:List AV} {v:AV} {us:ji} (hs:sK c A id as (fun v us nx=>some (v,us,nx))=some (v,us,nx))
 (h:∀ vs,gz c.A as=some vs→lu (mm A c.A vs++rq A c.A vs) A B) (hh:∀ vs,gz c.A as=some vs→∀ r ∈ kP us,r ∈ mm A c.A vs→B r=A r) :
 sK c B id as (fun v us nx=>some (v,us,nx))=some (v,us,nx):=by
 have hs0:=hs;unfold sK at hs ⊢;cases hf:gz c.A as with
 | none=>rw [hf] at hs;cases hs
 | some vs =>
 rw [hf] at hs;simp only [] at hs ⊢;cases hx:eV A c.A vs with
 | none=>rw [hx] at hs;cases hs
 | some x =>
 rw [hx] at hs;simp only [] at hs;have h1:=aL hs;cases hy:c.fn x with
 | none=>have h2:=h1.2;rw [hy] at h2;cases h2
 | some y =>
 have h2:=h1.2;rw [hy] at h2;simp only [Option.some.injEq,Prod.mk.injEq] at h2;have hgv:∀ r ∈ mm A c.A vs,B r=A r:=fun r q=>by refine hh vs hf r ?_ q;obtain ⟨z,hz,rfl⟩:=List.mem_map.1 (oZ (al:=c.al) (y:=EZ (gx c.A) y) (id:=id) hx r q);rw [← h2.2.1];exact tA (x:=z.2) (List.mem_append_right _ (List.mem_append_left _ hz)) (kG z.1 z.2 hz)
 obtain ⟨g1,g2,g3,g4⟩:=lB hx (h vs hf) hgv;have hrefs:∀ l:List Nat,cA (l.map AV.ref)=l:=by
  intro l
  induction l with
  | nil=>rfl
  | cons r l ih=>simp [cA,ih]
 rw [g1,g2,g3];simp only [hy];rw [g4,mZ (A:=A) (B:=B) (by rw [hrefs];exact (h vs hf).sub fun r q=>List.mem_append_right _ q)];rw [hy] at hs;exact hs
theorem JN {c:Cn} {id nx:Nat} {as:List AV} {v:AV} {us:ji} (hs:AF c A id as (fun v us nx=>some (v,us,nx))=some (v,us,nx))
 (h:∀ vs,gz c.A as=some vs→lu (mm A c.A vs++rq A c.A vs) A B) :
 AF c B id as (fun v us nx=>some (v,us,nx))=some (v,us,nx):=by
 have hs0:=hs;unfold AF at hs ⊢;cases hf:gz c.A as with
 | none=>rw [hf] at hs;cases hs
 | some vs =>
 rw [hf] at hs;simp only [] at hs ⊢;cases hx:eV A c.A vs with
 | none=>rw [hx] at hs;cases hs
 | some x =>
 rw [hx] at hs;simp only [] at hs;have h1:=aL hs;have hgv:∀ r ∈ mm A c.A vs,B r=A r:=fun r q=>by rw [List.isEmpty_iff.1 h1.1] at q;cases q
 obtain ⟨g1,g2,g3,g4⟩:=lB hx (h vs hf) hgv;have hrefs:∀ l:List Nat,cA (l.map AV.ref)=l:=by
  intro l
  induction l with
  | nil=>rfl
  | cons r l ih=>simp [cA,ih]
 rw [g1,g2,g3,mZ (A:=A) (B:=B) (by rw [hrefs];exact (h vs hf).sub fun r q=>List.mem_append_right _ q)];exact hs
theorem Gq {c:Cn} {id nx:Nat} {as:List AV} {v:AV} {us:ji} (hs:sy c A id as (fun v us nx=>some (v,us,nx))=some (v,us,nx))
 (h:∀ vs,gz c.A as=some vs→lu (mm A c.A vs++rq A c.A vs) A B) (hh:∀ vs,gz c.A as=some vs→∀ r ∈ kP us,r ∈ mm A c.A vs→B r=A r) :
 sy c B id as (fun v us nx=>some (v,us,nx))=some (v,us,nx):=by
 unfold sy at hs ⊢;cases hb:pa c.R with
 | false=>rw [hb] at hs;exact Fz hs h hh
 | true=>rw [hb] at hs;exact JN hs h
theorem xr:∀ {cs ds:List AV},cA (cs++ds)=cA cs++cA ds
 | [],_=>rfl
 | c::cs,ds=>by cases c <;> simp [cA,xr (cs:=cs)]
theorem vf {α:Type} {f:α→List AV}:∀ {l:List α},cA (l.flatMap f)=l.flatMap fun x=>cA (f x)
 | []=>rfl
 | x::l=>by simp [xr,vf (l:=l)]
theorem nJ {tb:mH} {tm:List AV} {t:Nat} {x:Operand}:cA (cellsOf (val tb tm t x))=cA (cellsOf (val tb tm 0 x)):=by
 cases x with
 | tmp i=>rfl
 | func f=>rfl
 | global g=>rfl
 | const v =>
  simp only [val];unfold TU;cases v <;> try rfl
  rename_i a n c;cases a <;> try rfl
  cases n <;> try rfl
  cases c <;> try rfl
  simp only [];split <;> (split <;> rfl)
theorem I5 {tb:mH} {ct:List (Nat × Cn)} {o:Oper} {tm:List AV} {id nx:Nat} {v:AV} {us:ji} (hs:eR tb ct o tm A id (fun v us nx=>some (v,us,nx))=some (v,us,nx))
 (h:lu (reads tb ct o tm A) A B) (hh:∀ r ∈ kP us,r ∈ reads tb ct o tm A→B r=A r):eR tb ct o tm B id (fun v us nx=>some (v,us,nx))=some (v,us,nx):=by
 cases hop:o.op with
 | load t x =>
  simp only [eR,hop,reads] at hs h ⊢;split at hs
  · rename_i u hu
    try simp only [hu]
    rw [Of h];exact hs
  · cases hs
 | store t x y =>
  simp only [eR,hop,reads] at hs h hh ⊢;split at hs
  · rename_i u hu
    try simp only [hu]
    rw [lM] at hs;cases hl:lI A u (val tb tm 0 x) (val tb tm t y) some with
    | none=>rw [hl] at hs;cases hs
    | some us' =>
     rw [hl] at hs;cases hs;rw [lM];have h1:lu (cA (cellsOf (val tb tm 0 x))) A B:=h.sub fun r hr=>List.mem_append_left _ hr
     have h2:lu (cA (cellsOf (val tb tm t y))) A B:=h.sub fun r hr=>List.mem_append_right _ (by rw [← nJ (t:=t)];exact hr)
     rw [Bc hl h1 h2 fun r hr hm=>hh r hr (List.mem_append_left _ hm)];rfl
  · cases hs
 | indexAddr t x i =>simp only [eR,hop,reads] at hs h ⊢;rw [ye (by rw [nJ];exact h)];exact hs
 | slice t x lo hi mx =>
  cases mx with
  | some _=>simp only [eR,hop] at hs;cases hs
  | none =>simp only [eR,hop,reads] at hs h ⊢;rw [Bt (by rw [nJ];exact h)];exact hs
 | convert s d x =>
  simp only [eR,hop,reads] at hs h ⊢;split at hs
  · rename_i h1 h2 h3
    try simp only [h1,h2,h3]
    exact hs
  · rename_i h1 h2 h3
    try simp only [h1,h2,h3]
    exact hs
  · rename_i h1 h2 h3;rw [sY (A:=A) (B:=B) (lu.sub (by rw [nJ];exact h) B3)];exact hs
  · cases hs
 | buildSlice t n ps =>
  simp only [eR,hop,reads] at hs h ⊢;split at hs
  · rename_i e he
    try simp only [he]
    have h1:∀ p ∈ ps.toList,lu (cA (cellsOf (val tb tm 0 p.2))) A B:=fun p hp=>h.sub fun r hr=>List.mem_flatMap.2 ⟨p,hp,hr⟩
    rw [xd h1,mZ (A:=A) (B:=B) (by rw [vf];exact h)];exact hs
  · cases hs
 | call c =>
  have h1:∀ x ∈ c.args.toList,lu (cA (cellsOf (val tb tm 0 x))) A B:=fun x hx=>h.sub fun r hr=>by simp only [reads,hop];exact List.mem_append_left _ (List.mem_flatMap.2 ⟨x,hx,hr⟩)
  simp only [eR,hop] at hs ⊢;split at hs
  · rename_i hc
    try simp only [hc]
    split at hs
    · rename_i x t ha ht
      try simp only [ha,ht]
      rw [HE (by rw [nJ];exact h1 x (by rw [ha];simp))];exact hs
    · cases hs
  · rename_i hc
    try simp only [hc]
    split at hs
    · rename_i d s t t' ha ht
      try simp only [ha,ht]
      split at hs
      · rename_i e he
        try simp only [he]
        cases hb:Nat.beq t t' with
        | false=>rw [hb] at hs;cases hs
        | true =>
         rw [hb,cond_true] at hs;rw [cond_true,il];rw [il] at hs;cases hl:jl e A id (val tb tm t d) (val tb tm t s) (fun v us=>some (v,us)) with
         | none=>rw [hl] at hs;cases hs
         | some z =>
          obtain ⟨z1,z2⟩:=z;rw [hl] at hs;cases hs;rw [zE hl (by rw [nJ];exact h1 d (by rw [ha];simp)) (by rw [nJ];exact h1 s (by rw [ha];simp)) ?_]
          · rfl
          · intro r hr hm;refine hh r hr ?_;simp only [reads,hop];exact List.mem_append_left _ (List.mem_flatMap.2 ⟨d,by rw [ha];simp,by rw [← nJ (t:=t)];exact hm⟩)
      · cases hs
    · cases hs
  · rename_i hc
    try simp only [hc]
    exact hs
  · rename_i hc
    try simp only [hc]
    exact hs
  · rename_i x hc
    try simp only [hc]
    split at hs
    · rename_i q hq
      try simp only [hq]
      have hsub:∀ vs,gz q.1.A q.2=some vs→∀ r ∈ mm A q.1.A vs++rq A q.1.A vs,r ∈ reads tb ct o tm A:=fun vs hvs r hr=>by simp only [reads,hop,hc,hq,hvs];exact List.mem_append_right _ hr
      exact Gq (A:=A) (B:=B) hs (fun vs hvs=>h.sub (hsub vs hvs)) (fun vs hvs r hr hm=>hh r hr (hsub vs hvs r (List.mem_append_left _ hm)))
    · cases hs
  · cases hs
 | makeFunc fn first caps =>
  cases fn with
  | func f=>simp only [eR,hop] at hs ⊢;exact hs
  | _=>unfold eR at hs;rw [hop] at hs;cases hs
 | _=>unfold eR at hs ⊢;rw [hop] at hs ⊢;exact hs
end
end Go.V
end
section
namespace Go.V
open Go.RowKit
section
variable {tb:mH} {ct:List (Nat × Cn)} {tm tm':List AV} {hp:Hp} {id:Nat} {R:Type}
theorem KQ {f g:Operand→AV} {o:Option Operand} (h:∀ x ∈ o.toList,f x=g x):o.map f=o.map g:=by
 cases o with
 | none=>rfl
 | some x=>simp [h x (by simp)]
theorem qD {offs:List (Nat × Nat)} {f g:Operand→AV}:∀ {ps:List (Nat × Operand)} {z:List AV},(∀ p ∈ ps,f p.2=g p.2)→ky z offs f ps=ky z offs g ps
 | [],_,_=>rfl
 | (i,x)::ps,z,h=>by
  have h0:f x=g x:=h (i,x) (List.mem_cons_self ..);simp only [ky,h0];split
  · rw [qD fun p hp=>h p (List.mem_cons_of_mem _ hp)]
  · rfl
theorem yH {e:Ty} {f g:Operand→AV}:∀ {ps:List (Nat × Operand)} {l:List e.d} {b:Bool},(∀ p ∈ ps,f p.2=g p.2)→elems hp e f ps l b=elems hp e g ps l b
 | [],_,_,_=>rfl
 | (i,x)::ps,l,b,h=>by
  have h0:f x=g x:=h (i,x) (List.mem_cons_self ..);simp only [elems,h0];split
  · rw [yH fun p hp=>h p (List.mem_cons_of_mem _ hp)]
  · rfl
theorem mf {α β:Type} {f g:α→List β}:∀ {l:List α},(∀ x ∈ l,f x=g x)→l.flatMap f=l.flatMap g
 | [],_=>rfl
 | x::l,h=>by simp [h x (List.mem_cons_self ..),mf fun y hy=>h y (List.mem_cons_of_mem _ hy)]
theorem P9 {o:Oper} {k:AV→ji→Nat→Option R} (h:∀ x ∈ o.op.operands.toList,∀ T,val tb tm' T x=val tb tm T x) :
 eR tb ct o tm' hp id k=eR tb ct o tm hp id k∧reads tb ct o tm' hp=reads tb ct o tm hp:=by
 cases hop:o.op with
 | buildSlice t n ps =>
  have h0:∀ p ∈ ps.toList,val tb tm' 0 p.2=val tb tm 0 p.2:=fun p hp=>h p.2 (by rw [hop];simp only [Op.operands,List.toList_toArray];exact List.mem_map_of_mem hp) 0
  simp only [eR,reads,hop];have e1:ps.toList.flatMap (fun p=>cellsOf (val tb tm' 0 p.2))=ps.toList.flatMap (fun p=>cellsOf (val tb tm 0 p.2)):=mf fun p hp=>by rw [h0 p hp]
  rw [e1];refine ⟨?_,mf fun p hp=>by rw [h0 p hp]⟩;split
  · rw [yH h0]
  · rfl
 | build t ps =>
  have h0:∀ p ∈ ps.toList,val tb tm' 0 p.2=val tb tm 0 p.2:=fun p hp=>h p.2 (by rw [hop];simp only [Op.operands,List.toList_toArray];exact List.mem_map_of_mem hp) 0
  simp only [eR,reads,hop];exact ⟨by
   split
   · rw [qD h0]
   · rfl
   · rfl,trivial⟩
 | makeFunc fn first caps =>
  have h0:caps.toList.map (val tb tm' 0)=caps.toList.map (val tb tm 0):=List.map_congr_left fun x hx=>h x (by rw [hop];simp only [Op.operands,Array.toList_append];exact List.mem_append_right _ hx) 0
  cases fn <;> simp only [eR,reads,hop]
  · exact ⟨by rw [h0],trivial⟩
  all_goals exact ⟨trivial,trivial⟩
 | call c =>
  have hin:∀ x ∈ c.args.toList,∀ T,val tb tm' T x=val tb tm T x:=fun x hx=>h x (by rw [hop];simp only [Op.operands,Call.operands,Array.toList_append];exact List.mem_append_right _ hx)
  have h0:c.args.toList.map (val tb tm' 0)=c.args.toList.map (val tb tm 0):=List.map_congr_left fun x hx=>hin x hx 0
  have hcal:∀ x,c.callee = .value x→q9 tb ct tm' x (c.args.toList.map (val tb tm' 0))=q9 tb ct tm x (c.args.toList.map (val tb tm 0)):=fun x hx=>by rw [h0];unfold q9;rw [h x (by rw [hop];simp only [Op.operands,Call.operands,Array.toList_append,hx];exact List.mem_append_left _ (by simp)) 0]
  simp only [eR,reads,hop];refine ⟨?_,?_⟩
  · split
    · split
      · rename_i x t ha ht;rw [hin x (by rw [ha];simp)]
      · rfl
    · split
      · rename_i d s t t' ha ht;split
        · rw [hin d (by rw [ha];simp),hin s (by rw [ha];simp)]
        · rfl
      · rfl
    · rw [h0]
    · rw [h0]
    · rename_i x hc;rw [hcal x hc]
    · rfl
  · rw [mf (f:=fun x=>cA (cellsOf (val tb tm' 0 x))) (g:=fun x=>cA (cellsOf (val tb tm 0 x))) fun x hx=>by rw [hin x hx]];congr 1;split
    · rename_i x hc;rw [hcal x hc]
    · rfl
 | slice t x lo hi mx =>
  have hx:=h x (by rw [hop];simp [Op.operands]);have hl:lo.map (val tb tm' 0)=lo.map (val tb tm 0):=KQ fun y hy=>h y (by rw [hop];simp [Op.operands] at hy ⊢;simp [hy]) 0
  have hh:hi.map (val tb tm' 0)=hi.map (val tb tm 0):=KQ fun y hy=>h y (by rw [hop];simp [Op.operands] at hy ⊢;simp [hy]) 0
  cases mx <;> simp only [eR,reads,hop,hx,hl,hh] <;> exact ⟨trivial,trivial⟩
 | pick c x y =>have h1:=h c (by rw [hop];simp [Op.operands]);have h2:=h x (by rw [hop];simp [Op.operands]);have h3:=h y (by rw [hop];simp [Op.operands]);simp only [eR,reads,hop,h1,h2,h3];exact ⟨trivial,trivial⟩
 | store t x y =>have h1:=h x (by rw [hop];simp [Op.operands]);have h2:=h y (by rw [hop];simp [Op.operands]);simp only [eR,reads,hop,h1,h2];exact ⟨trivial,trivial⟩
 | binOp op t x y u =>have h1:=h x (by rw [hop];simp [Op.operands]);have h2:=h y (by rw [hop];simp [Op.operands]);simp only [eR,reads,hop,h1,h2];exact ⟨trivial,trivial⟩
 | makeSlice t x y =>have h1:=h x (by rw [hop];simp [Op.operands]);have h2:=h y (by rw [hop];simp [Op.operands]);simp only [eR,reads,hop,h1,h2];exact ⟨trivial,trivial⟩
 | indexAddr t x y =>have h1:=h x (by rw [hop];simp [Op.operands]);have h2:=h y (by rw [hop];simp [Op.operands]);simp only [eR,reads,hop,h1,h2];exact ⟨trivial,trivial⟩
 | index t x y =>have h1:=h x (by rw [hop];simp [Op.operands]);have h2:=h y (by rw [hop];simp [Op.operands]);simp only [eR,reads,hop,h1,h2];exact ⟨trivial,trivial⟩
 | alloc t=>simp only [eR,reads,hop];exact ⟨trivial,trivial⟩
 | move x=>have h1:=h x (by rw [hop];simp [Op.operands]);simp only [eR,reads,hop,h1];exact ⟨trivial,trivial⟩
 | assign x=>have h1:=h x (by rw [hop];simp [Op.operands]);simp only [eR,reads,hop,h1];exact ⟨trivial,trivial⟩
 | box t x=>have h1:=h x (by rw [hop];simp [Op.operands]);simp only [eR,reads,hop,h1];exact ⟨trivial,trivial⟩
 | load t x=>have h1:=h x (by rw [hop];simp [Op.operands]);simp only [eR,reads,hop,h1];exact ⟨trivial,trivial⟩
 | nilCheck x=>have h1:=h x (by rw [hop];simp [Op.operands]);simp only [eR,reads,hop,h1];exact ⟨trivial,trivial⟩
 | unOp op t x=>have h1:=h x (by rw [hop];simp [Op.operands]);simp only [eR,reads,hop,h1];exact ⟨trivial,trivial⟩
 | convert s d x=>have h1:=h x (by rw [hop];simp [Op.operands]);simp only [eR,reads,hop,h1];exact ⟨trivial,trivial⟩
 | fieldAddr s x f=>have h1:=h x (by rw [hop];simp [Op.operands]);simp only [eR,reads,hop,h1];exact ⟨trivial,trivial⟩
 | field s x f=>have h1:=h x (by rw [hop];simp [Op.operands]);simp only [eR,reads,hop,h1];exact ⟨trivial,trivial⟩
 | extract x i=>have h1:=h x (by rw [hop];simp [Op.operands]);simp only [eR,reads,hop,h1];exact ⟨trivial,trivial⟩
 | _=>unfold eR reads;rw [hop];exact ⟨rfl,rfl⟩
end
def FN:ji→Nat→qa→qa
 | [],_,x=>x
 | u::us,r,x=>FN us r (bif Nat.beq r u.1 then turn u.2 x else x)
theorem kx:∀ {us:ji} {hp:Hp} {r:Nat},applyF hp us r=FN us r (hp r)
 | [],_,_=>rfl
 | u::us,hp,r=>by simp only [applyF,FN];exact kx (us:=us)
theorem xX (x:qa):F3 (F3 x)=F3 x:=by cases x <;> rfl
theorem JQ (x:qa):(∀ y,turn x y=F3 y)∨(∃ z,∀ y,turn x y=z):=by
 cases x
 · exact Or.inr ⟨_,fun _=>rfl⟩
 · exact Or.inr ⟨_,fun _=>rfl⟩
 · exact Or.inr ⟨_,fun _=>rfl⟩
 · exact Or.inl fun _=>rfl
theorem Ep:∀ (us:ji) (r:Nat) {x y:qa},(y=x∨y=F3 x)→(FN us r y=FN us r x∨FN us r y=F3 (FN us r x))
 | [],_,_,_,h=>h
 | u::us,r,x,y,h=>by
  simp only [FN];cases Nat.beq r u.1 with
  | false=>exact Ep us r h
  | true =>
   simp only [cond_true];refine Ep us r ?_;rcases JQ u.2 with q | ⟨z,q⟩
   · rw [q,q];rcases h with rfl | rfl
     · exact Or.inl rfl
     · exact Or.inl (xX _)
   · rw [q,q];exact Or.inl rfl
theorem tw:∀ {us:ji} {r:Nat},r ∉ us.map (·.1)→∀ x,FN us r x=x
 | [],_,_,_=>rfl
 | u::us,r,h,x=>by
  simp only [List.map_cons,List.mem_cons,not_or] at h;simp only [FN];have:Nat.beq r u.1=false:=by
   cases hb:Nat.beq r u.1 with
   | false=>rfl
   | true=>exact absurd (Nat.eq_of_beq_eq_true hb) h.1
  rw [this];exact tw h.2 x
theorem Be {u:Nat × qa} {us:ji} {r:Nat} (h:r ∉ kP (u::us)):r ∉ kP us∧(r=u.1→∃ p e l,u.2 = .fro p e l):=by obtain ⟨s,x⟩:=u;cases x <;> simp_all [kP]
theorem t8:∀ {us:ji} {r:Nat},r ∉ kP us→(∀ x,FN us r x=x)∨(∀ x,FN us r x=F3 x)
 | [],_,_=>Or.inl fun _=>rfl
 | u::us,r,h=>by
  obtain ⟨h1,h2⟩:=Be h;simp only [FN];cases hb:Nat.beq r u.1 with
  | false=>exact t8 h1
  | true =>
   simp only [cond_true];obtain ⟨p,e,l,q⟩:=h2 (Nat.eq_of_beq_eq_true hb);rw [q];right;intro x;rcases t8 h1 with g | g
   · rw [g];rfl
   · rw [g];exact xX x
theorem O2 {us vs:ji} {r:Nat} (h1:∀ r ∈ kP us,r ∉ vs.map (·.1)) (h2:∀ r ∈ kP vs,r ∉ us.map (·.1)) (x:qa):FN vs r (FN us r x)=FN us r (FN vs r x):=by
 by_cases a:r ∈ kP us
 · rw [tw (h1 r a),tw (h1 r a)]
 · by_cases b:r ∈ kP vs
   · rw [tw (h2 r b),tw (h2 r b)]
   · rcases t8 a with p | p <;> rcases t8 b with q | q <;> simp [p,q]
theorem vk:∀ {us:ji} {hp:Hp},ra us→applyF hp us=apply hp us
 | [],_,_=>rfl
 | u::us,hp,h=>by
  simp only [applyF,apply];have e:(fun n=>bif Nat.beq n u.1 then turn u.2 (hp n) else hp n)=kV hp u.1 u.2:=by
   funext n;simp only [kV];have h0:=h u.1 u.2 (List.mem_cons_self ..);obtain ⟨s,x⟩:=u;cases x <;> first | rfl | exact absurd rfl (h0 _ _ _)
  rw [e];exact vk fun r x hx=>h r x (List.mem_cons_of_mem _ hx)
theorem B7:∀ {us:ji} {hp:Hp},EH hp us→applyF hp us=apply hp us
 | [],_,_=>rfl
 | (r,x)::us,hp,h=>by
  obtain ⟨p,e,l,rfl,hr⟩:=h r x (List.mem_cons_self ..);simp only [applyF,apply];have e':(fun n=>bif Nat.beq n r then turn (.fro p e l) (hp n) else hp n)=kV hp r (.fro p e l):=by
   funext n;simp only [kV];cases hb:Nat.beq n r with
   | false=>rfl
   | true =>
    simp only [cond_true];rw [Nat.eq_of_beq_eq_true hb];rcases hr with q | q <;> rw [q] <;> rfl
  rw [e'];exact B7 h.tail
theorem wS:∀ (us0:ji) {hp:Hp} {us1:ji},apply hp (us0++us1)=apply (apply hp us0) us1
 | [],_,_=>rfl
 | u::us,hp,us1=>wS us
theorem uO:∀ (us0:ji) {hp:Hp} {us1:ji},applyF hp (us0++us1)=applyF (applyF hp us0) us1
 | [],_,_=>rfl
 | u::us,hp,us1=>uO us
theorem i8.applyF {hp:Hp} {id nx:Nat} {us:ji} (h:i8 hp id us nx):applyF hp us=apply hp us:=by obtain ⟨_,us0,us1,rfl,h0,h1⟩:=h;rw [uO,wS,B7 h0,vk h1]
end Go.V
end
section
namespace Go.V
open Go.RowKit
structure G where
 i:Nat
 go:Bool
 us:ji
 rd:List Nat
 A:List Nat
 dst:Option Nat
 v:AV
 nm:List Nat
 id:Nat
 nx:Nat
def rep (hp:Hp) (D:Nat→Bool):List G→Hp
 | []=>hp
 | g::gs=>bif D g.i then applyF (rep hp D gs) g.us else rep hp D gs
def iz (tm:List AV) (D:Nat→Bool):List G→List AV
 | []=>tm
 | g::gs=>bif D g.i then ni (iz tm D gs) g.dst g.v else iz tm D gs
structure T_ (g' g:G):Prop where
 a:∀ r ∈ kP g.us,r ∉ g'.rd
 b:∀ r ∈ kP g'.us,r ∉ g.rd
 c:∀ r ∈ g.us.map (·.1),r ∉ kP g'.us
 d:∀ r ∈ kP g.us,r ∉ g'.us.map (·.1)
structure Le (g' g:G):Prop where
 e:∀ t ∈ g.dst.toList,t ∉ g'.dst.toList++g'.nm
 f:∀ t ∈ g'.dst.toList,t ∉ g.nm
section
variable {hp:Hp} {tm:List AV} {D D':Nat→Bool}
theorem tS {r:Nat}:∀ {gs:List G},(∀ g ∈ gs,r ∈ g.us.map (·.1)→D g.i=D' g.i)→rep hp D gs r=rep hp D' gs r
 | [],_=>rfl
 | g::gs,h=>by
  have ih:=tS (gs:=gs) fun g' hg=>h g' (List.mem_cons_of_mem _ hg)
  simp only [rep];by_cases hr:r ∈ g.us.map (·.1)
  · rw [h g (List.mem_cons_self ..) hr];cases D' g.i with
    | true=>simp only [cond_true,kx,ih]
    | false=>exact ih
  · have e:∀ (b:Bool) (x:Hp),(bif b then applyF x g.us else x) r=x r:=fun b x=>by
     cases b with
     | true=>simp only [cond_true,kx,tw hr]
     | false=>rfl
    rw [e,e,ih]
theorem Jq {r:Nat}:∀ {gs:List G},(∀ g ∈ gs,D g.i=D' g.i∨(D g.i=true∧r ∉ kP g.us))→rep hp D gs r=rep hp D' gs r∨rep hp D gs r=F3 (rep hp D' gs r)
 | [],_=>Or.inl rfl
 | g::gs,h=>by
  have ih:=Jq (gs:=gs) fun g' hg=>h g' (List.mem_cons_of_mem _ hg)
  simp only [rep];cases h1:D g.i with
  | true =>
   cases h2:D' g.i with
   | true =>simp only [cond_true,kx];exact Ep _ _ ih
   | false =>
    rcases h g (List.mem_cons_self ..) with q | ⟨_,q⟩
    · rw [h1,h2] at q;cases q
    · simp only [cond_true,cond_false,kx];rcases t8 q with e | e
      · rw [e];exact ih
      · rw [e];rcases ih with g1 | g1
        · rw [g1];exact Or.inr rfl
        · rw [g1,xX];exact Or.inr rfl
  | false =>
   cases h2:D' g.i with
   | true =>
    rcases h g (List.mem_cons_self ..) with q | ⟨q,_⟩
    · rw [h1,h2] at q;cases q
    · rw [h1] at q;cases q
   | false=>exact ih
theorem OJ {l:List AV} {d:Option Nat} {v:AV}:(ni l d v).length=l.length:=by cases d <;> simp [ni]
theorem vn:∀ {gs:List G},(iz tm D gs).length=tm.length
 | []=>rfl
 | g::gs=>by
  simp only [iz];cases D g.i with
  | true=>rw [cond_true,OJ];exact vn
  | false=>exact vn
theorem Lu {l l':List AV} {d:Option Nat} {v:AV} {t:Nat} (hl:l.length=l'.length) (h:l.getD t .junk=l'.getD t .junk):(ni l d v).getD t .junk=(ni l' d v).getD t .junk:=by
 cases d with
 | none=>exact h
 | some d =>
  simp only [ni,List.getD,List.getElem?_set,hl] at h ⊢;split
  · split <;> rfl
  · exact h
theorem J2 {l:List AV} {d:Option Nat} {v:AV} {t:Nat} (h:d≠some t):(ni l d v).getD t .junk=l.getD t .junk:=by
 cases d with
 | none=>rfl
 | some d =>
  have:d≠t:=fun q=>h (by rw [q])
  simp [ni,List.getD,List.getElem?_set_ne this]
theorem ze {t:Nat}:∀ {gs:List G},(∀ g ∈ gs,g.dst=some t→D g.i=D' g.i)→(iz tm D gs).getD t .junk=(iz tm D' gs).getD t .junk
 | [],_=>rfl
 | g::gs,h=>by
  have ih:=ze (gs:=gs) fun g' hg=>h g' (List.mem_cons_of_mem _ hg)
  simp only [iz];by_cases hr:g.dst=some t
  · rw [h g (List.mem_cons_self ..) hr];cases D' g.i with
    | true =>simp only [cond_true];exact Lu (by rw [vn,vn]) ih
    | false=>exact ih
  · have e:∀ (b:Bool) (x:List AV),(bif b then ni x g.dst g.v else x).getD t .junk=x.getD t .junk:=fun b x=>by
     cases b with
     | true=>exact J2 hr
     | false=>rfl
    rw [e,e,ih]
def np (D:Nat→Bool) (i:Nat):Nat→Bool:=fun j=>bif Nat.beq j i then true else D j
theorem tK {i:Nat}:np D i i=true:=by simp [np]
theorem ol {i j:Nat} (h:j≠i):np D i j=D j:=by
 have:Nat.beq j i=false:=by
  cases hb:Nat.beq j i with
  | false=>rfl
  | true=>exact absurd (Nat.eq_of_beq_eq_true hb) h
 simp [np,this]
theorem Q0 {gs:List G} (h:∀ g ∈ gs,D g.i=D' g.i):rep hp D gs=rep hp D' gs:=funext fun r=>tS fun g hg _=>h g hg
theorem wU:∀ {gs:List G},(∀ g ∈ gs,D g.i=D' g.i)→iz tm D gs=iz tm D' gs
 | [],_=>rfl
 | g::gs,h=>by simp only [iz];rw [h g (List.mem_cons_self ..),wU fun g' hg=>h g' (List.mem_cons_of_mem _ hg)]
theorem Jh {g:G} {r:Nat}:∀ {gs:List G},gs.Pairwise (fun x y=>y.i<x.i)→g ∈ gs→D g.i=false →
 (∀ h ∈ gs,g.i<h.i→D h.i=true→(∀ r ∈ kP g.us,r ∉ h.us.map (·.1))∧(∀ r ∈ kP h.us,r ∉ g.us.map (·.1)))→rep hp (np D g.i) gs r=FN g.us r (rep hp D gs r)
 | [],_,hg,_,_=>by cases hg
 | h::gs,hp',hg,hD,hc=>by
  rw [List.pairwise_cons] at hp';simp only [rep];rcases List.mem_cons.1 hg with q | q
  · subst q;rw [tK,hD,cond_true,cond_false,kx];congr 1;exact tS fun g' hg' _=>ol (Nat.ne_of_lt (hp'.1 g' hg'))
  · have hlt:=hp'.1 g q;rw [ol (Nat.ne_of_gt hlt)];have ih:=Jh (r:=r) hp'.2 q hD fun h' hh'=>hc h' (List.mem_cons_of_mem _ hh')
    cases hb:D h.i with
    | false=>exact ih
    | true =>simp only [cond_true,kx];rw [ih];obtain ⟨c1,c2⟩:=hc h (List.mem_cons_self ..) hlt hb;exact O2 c1 c2 _
theorem LW {l:List AV} {d e:Option Nat} {u v:AV} (h:∀ t ∈ d.toList,t ∉ e.toList):ni (ni l d u) e v=ni (ni l e v) d u:=by
 cases d with
 | none=>rfl
 | some d =>
  cases e with
  | none=>rfl
  | some e =>
   have:d≠e:=fun q=>h d (by simp) (by simp [q])
   exact List.set_comm _ _ this
theorem Ft {g:G}:∀ {gs:List G},gs.Pairwise (fun x y=>y.i<x.i)→g ∈ gs→D g.i=false →
 (∀ h ∈ gs,g.i<h.i→D h.i=true→∀ t ∈ h.dst.toList,t ∉ g.dst.toList)→iz tm (np D g.i) gs=ni (iz tm D gs) g.dst g.v
 | [],_,hg,_,_=>by cases hg
 | h::gs,hp',hg,hD,hc=>by
  rw [List.pairwise_cons] at hp';simp only [iz];rcases List.mem_cons.1 hg with q | q
  · subst q;rw [tK,hD,cond_true,cond_false];congr 1;exact wU fun g' hg'=>ol (Nat.ne_of_lt (hp'.1 g' hg'))
  · have hlt:=hp'.1 g q;rw [ol (Nat.ne_of_gt hlt)];have ih:=Ft hp'.2 q hD fun h' hh'=>hc h' (List.mem_cons_of_mem _ hh')
    cases hb:D h.i with
    | false=>exact ih
    | true =>simp only [cond_true];rw [ih];exact (LW (hc h (List.mem_cons_self ..) hlt hb)).symm
end
def nD:List G→List Sj
 | []=>[]
 | g::gs=>bif g.go then ⟨g.i,g.us,g.rd⟩::nD gs else nD gs
theorem vG {hp:Hp} {a:List Nat}:∀ {gs:List G},(∀ g ∈ gs,g.go=false→g.us=[])→rI hp a (nD gs)=rep hp (kC a) gs
 | [],_=>rfl
 | g::gs,h=>by
  have ih:=vG (hp:=hp) (a:=a) (gs:=gs) fun g' hg=>h g' (List.mem_cons_of_mem _ hg)
  simp only [nD,rep];cases hg:g.go with
  | true=>simp only [cond_true,rI,ih]
  | false =>rw [h g (List.mem_cons_self ..) hg];simp only [cond_false,applyF,ih];cases kC a g.i <;> rfl
theorem uL {hp:Hp}:∀ {gs:List G},(∀ g ∈ gs,g.go=false→g.us=[])→ta hp (nD gs)=rep hp (fun _=>true) gs
 | [],_=>rfl
 | g::gs,h=>by
  have ih:=uL (hp:=hp) (gs:=gs) fun g' hg=>h g' (List.mem_cons_of_mem _ hg)
  simp only [nD,rep];cases hg:g.go with
  | true=>simp only [cond_true,ta,ih]
  | false =>rw [h g (List.mem_cons_self ..) hg];simp only [cond_false,cond_true,applyF,ih]
theorem zT {a:List Nat} {us:ji} {rd:List Nat}:∀ {gs:List G},QF a us rd (nD gs)=true→∀ g' ∈ gs,g'.go=true→kC a g'.i=true ∨
 ((∀ r ∈ kP us,r ∉ g'.rd)∧(∀ r ∈ kP g'.us,r ∉ rd)∧(∀ r ∈ us.map (·.1),r ∉ kP g'.us)∧(∀ r ∈ kP us,r ∉ g'.us.map (·.1)))
 | [],_,_,hg,_=>by cases hg
 | g::gs,h,g',hg,hgo=>by
  simp only [nD] at h;cases hgg:g.go with
  | false =>
   rw [hgg,cond_false] at h;rcases List.mem_cons.1 hg with q | q
   · subst q;rw [hgg] at hgo;cases hgo
   · exact zT h g' q hgo
  | true =>
   rw [hgg,cond_true] at h;simp only [QF] at h;cases hc:(kC a g.i||(lX (kP us) g.rd&&lX (kP g.us) rd&&lX (us.map (·.1)) (kP g.us)&&lX (kP us) (g.us.map (·.1)))) with
   | false=>rw [hc] at h;cases h
   | true =>
    rw [hc,cond_true] at h;rcases List.mem_cons.1 hg with q | q
    · subst q;simp only [Bool.or_eq_true,Bool.and_eq_true,uo] at hc;rcases hc with q | ⟨⟨⟨q1,q2⟩,q3⟩,q4⟩
      · exact Or.inl q
      · exact Or.inr ⟨q1,q2,q3,q4⟩
    · exact zT h g' q hgo
end Go.V
end

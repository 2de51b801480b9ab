/- V: soundness, part 8 of 10. -/
import Derived.Test.YtijlgdoiofdmhaaGreatDoorVS7
section
set_option linter.unusedVariables false
set_option linter.unusedSimpArgs false
namespace Go.V
open Go.RowKit
section
variable {w0:Bs} {w:World} {N:Nat→Prop} {φ:Nat→jF} {tm:List AV} {hp:Hp} {a:Act}
theorem Bp {X Y:Bool→Nat→Prop} {N N':Nat→Prop} {φ φ':Nat→jF}:∀ {cs:List AV} {vs:List Value},cV w X N φ cs vs→cV w Y N' φ' (cs.map fun _ => .junk) vs
 | [],_,h=>h
 | c::cs,_,h=>by unfold cV at h;obtain ⟨u,us,e,h1,_,h3⟩:=h;exact ⟨u,us,e,h1,trivial,Bp h3⟩
theorem Bi {X Y:Bool→Nat→Prop} {N N':Nat→Prop} {φ φ':Nat→jF}:∀ {cs:List AV} {vs:List Value},dH w X N φ cs vs→dH w Y N' φ' (cs.map fun _ => .junk) vs
 | [],_,h=>h
 | c::cs,_,h=>by unfold dH at h;obtain ⟨u,us,e,_,h3⟩:=h;exact ⟨u,us,e,trivial,Bi h3⟩
theorem CI.setBox {X:Bool→Nat→Prop} {B:Nat→Prop} {c:Cs} {ψ:Nat→jF} (ci:CI w X N φ hp B c ψ) {r r':Nat} (hm:look c.map r=some r') {cs0 cs:List AV} (hr:hp r = .box cs0) (hrow:lC w X (fun s=>s<c.nx) ψ B r' (.box cs)) :
 CI w X N φ hp B ⟨c.map,l_ c.hp r' (.box cs),c.nx⟩ ψ:=by
 obtain ⟨hlt,he,_⟩:=ci.map r r' hm;refine ⟨fun s=>?_,fun s p e l=>?_,fun s b hs=>?_,ci.map,fun s hs=>?_⟩
 · by_cases q:s=r'
   · subst q;show lC _ _ _ _ _ _ (l_ c.hp s (.box cs) s);rw [cO];exact hrow
   · show lC _ _ _ _ _ _ (l_ c.hp r' (.box cs) s);rw [bx _ _ q];exact ci.rows s
 · by_cases q:s=r'
   · subst q;show l_ c.hp s (.box cs) s≠_;rw [cO];intro q;cases q
   · show l_ c.hp r' (.box cs) s≠_;rw [bx _ _ q];exact ci.nof s p e l
 · by_cases q:s=r'
   · subst q;have hs:bO ψ s (l_ c.hp s (.box cs) s)=some b:=hs;rw [cO] at hs;simp only [bO] at hs;exact ⟨r,hm,by rw [hr];simp only [bO];rw [← he];exact hs⟩
   · have hs:bO ψ s (l_ c.hp r' (.box cs) s)=some b:=hs;rw [bx _ _ q] at hs;exact ci.blk s b hs
 · have hs:c.nx≤s:=hs;show l_ c.hp r' (.box cs) s = .dead;rw [bx _ _ (by omega)];exact ci.fresh s hs
theorem Kc (h:Ok w0 N φ tm hp a w):∀ n,
 (∀ v u c ψ,CI w (XX w0 w φ hp) N φ hp w0.mine c ψ→dC w (XX w0 w φ hp) N φ v u→∃ ψ',CI w (XX w0 w φ hp) N φ hp w0.mine (ke hp n v c).2 ψ'∧Gr c ψ (ke hp n v c).2 ψ' ∧
  dC w (XX w0 w φ hp) (fun s=>s<(ke hp n v c).2.nx) ψ' (ke hp n v c).1 u) ∧
 (∀ cs vs c ψ,CI w (XX w0 w φ hp) N φ hp w0.mine c ψ→cV w (XX w0 w φ hp) N φ cs vs→∃ ψ',CI w (XX w0 w φ hp) N φ hp w0.mine (o6 hp n cs c).2 ψ'∧Gr c ψ (o6 hp n cs c).2 ψ' ∧
  cV w (XX w0 w φ hp) (fun s=>s<(o6 hp n cs c).2.nx) ψ' (o6 hp n cs c).1 vs) ∧
 (∀ cs vs c ψ,CI w (XX w0 w φ hp) N φ hp w0.mine c ψ→dH w (XX w0 w φ hp) N φ cs vs→∃ ψ',CI w (XX w0 w φ hp) N φ hp w0.mine (o6 hp n cs c).2 ψ'∧Gr c ψ (o6 hp n cs c).2 ψ' ∧
  dH w (XX w0 w φ hp) (fun s=>s<(o6 hp n cs c).2.nx) ψ' (o6 hp n cs c).1 vs):=by
 intro n
 induction n with
 | zero =>
  refine ⟨fun v u c ψ ci hv=>⟨ψ,?_⟩,fun cs vs c ψ ci hv=>⟨ψ,?_⟩,fun cs vs c ψ ci hv=>⟨ψ,?_⟩⟩
  · simp only [ke];exact ⟨ci,Gr.refl,trivial⟩
  · simp only [o6];exact ⟨ci,Gr.refl,Bp hv⟩
  · simp only [o6];exact ⟨ci,Gr.refl,Bi hv⟩
 | succ n ih =>
  obtain ⟨ihV,ihL,ihT⟩:=ih;refine ⟨fun v u c ψ ci hv=>?_,fun cs vs c ψ ci hv=>?_,fun cs vs c ψ ci hv=>?_⟩
  · cases v with
    | ref r =>
     obtain ⟨hN,hu,hsl⟩:=hv;have hrow:=h.rows r;simp only [ke];cases hr:hp r with
     | own p e l =>
      rw [hr] at hrow;simp only [];cases hm:look c.map r with
      | some r' =>obtain ⟨m1,m2,_⟩:=ci.map r r' hm;exact ⟨ψ,ci,Gr.refl,m1,by rw [m2];exact hu,hsl⟩
      | none =>
       obtain ⟨ψ',ci',gr,e'⟩:=ci.add h hN hm (row := .own p e l) (fun ψ' e'=>oJ.ren (N':=fun s=>s<c.nx+1) (r':=c.nx) hrow (Nat.lt_succ_self _) e') (fun _ _ _ q=>by cases q) (fun ψ' e' b hb=>by
        rw [hr];simp only [bO,e'] at hb ⊢;exact hb)
       exact ⟨ψ',ci',gr,Nat.lt_succ_self _,by rw [e'];exact hu,hsl⟩
     | fro p e l =>rw [hr] at hrow;refine ⟨ψ,ci,Gr.refl,?_⟩;rw [hu];exact vM hrow.1 (Y:=XX w0 w φ hp p) hrow.2 (fun b q=>q)
     | box cs=>exact ⟨ψ,ci,Gr.refl,trivial⟩
     | dead=>exact ⟨ψ,ci,Gr.refl,trivial⟩
    | ptr r i off =>
     obtain ⟨hN,hi,hu⟩:=hv;have hrow:=h.rows r;simp only [ke];cases hr:hp r with
     | own p e l =>
      rw [hr] at hrow;simp only [];cases hm:look c.map r with
      | some r' =>obtain ⟨m1,m2,_⟩:=ci.map r r' hm;exact ⟨ψ,ci,Gr.refl,m1,by rw [m2];exact hi,by rw [m2];exact hu⟩
      | none =>
       obtain ⟨ψ',ci',gr,e'⟩:=ci.add h hN hm (row := .own p e l) (fun ψ' e'=>oJ.ren (N':=fun s=>s<c.nx+1) (r':=c.nx) hrow (Nat.lt_succ_self _) e') (fun _ _ _ q=>by cases q) (fun ψ' e' b hb=>by
        rw [hr];simp only [bO,e'] at hb ⊢;exact hb)
       exact ⟨ψ',ci',gr,Nat.lt_succ_self _,by rw [e'];exact hi,by rw [e'];exact hu⟩
     | fro p e l =>
      rw [hr] at hrow;obtain ⟨⟨_,hs,hn,hb,te,xs,ho,hl⟩,hX⟩:=hrow;refine ⟨ψ,ci,Gr.refl,?_⟩;have hil:i<l.length:=by rw [← hn];exact hi
      obtain ⟨ad,c',hsl,_,hg⟩:=kc ho;obtain ⟨g,_,hg2⟩:=hg (by omega);refine ⟨hil,(φ r).b,0,xs,by rw [hu,hs,Nat.zero_add],?_,hl,fun j y hj=>?_⟩
      · rw [hb g hg2];exact hX g hg2
      · rw [Nat.zero_add];exact Bz ho (by omega) (fun g hg=>hb g hg) j y hj
     | dead=>exact ⟨ψ,ci,Gr.refl,trivial⟩
     | box cs =>
      rw [hr] at hrow;simp only [];cases hm:look c.map r with
      | some r' =>obtain ⟨m1,m2,_⟩:=ci.map r r' hm;exact ⟨ψ,ci,Gr.refl,m1,by rw [m2];exact hi,by rw [m2];exact hu⟩
      | none =>
       obtain ⟨_,b1,b2,vs,te,b3,b4⟩:=hrow;obtain ⟨ψ1,ci1,gr1,e1⟩:=ci.add h hN hm (row := .dead) (fun _ _=>trivial) (fun _ _ _ q=>by cases q) (fun _ _ b hb=>by cases hb);have e0:l_ c.hp c.nx .dead=c.hp:=by
        funext s;by_cases q:s=c.nx
        · subst q;rw [cO,ci.fresh _ (Nat.le_refl _)]
        · rw [bx _ _ q]
       rw [e0] at ci1 gr1;obtain ⟨ψ2,ci2,gr2,hr2⟩:=ihL cs vs.toList _ ψ1 ci1 b4;have hlk:look (o6 hp n cs ⟨(r,c.nx)::c.map,c.hp,c.nx+1⟩).2.map r=some c.nx:=gr2.map r c.nx (by rw [nf];simp);obtain ⟨m1,m2,_⟩:=ci2.map r c.nx hlk;have ci3:=ci2.setBox hlk hr (cs:=(o6 hp n cs ⟨(r,c.nx)::c.map,c.hp,c.nx+1⟩).1) ⟨m1,by rw [m2];exact b1,by rw [m2];exact b2,vs,te,by rw [m2];exact b3,hr2⟩;have g12:=gr1.trans gr2;exact ⟨ψ2,ci3,⟨g12.nx,g12.psi,g12.map⟩,m1,by rw [m2];exact hi,by rw [m2];exact hu⟩
    | nil e =>simp only [ke];obtain ⟨ψ',ci',gr,e'⟩:=ci.addNil e;have hv:u = .slice none 0 0:=hv;exact ⟨ψ',ci',gr,Nat.lt_succ_self _,by rw [e',hv],none,0,0,hv⟩
    | agg cs =>unfold dC at hv;obtain ⟨vs,hu,hr⟩:=hv;obtain ⟨ψ',ci',gr,hr'⟩:=ihL cs vs c ψ ci hr;simp only [ke];exact ⟨ψ',ci',gr,vs,hu,hr'⟩
    | tup cs =>unfold dC at hv;obtain ⟨vs,hu,hr⟩:=hv;obtain ⟨ψ',ci',gr,hr'⟩:=ihT cs vs c ψ ci hr;simp only [ke];exact ⟨ψ',ci',gr,vs,hu,hr'⟩
    | fn f cs =>unfold dC at hv;obtain ⟨vs,hu,hr⟩:=hv;obtain ⟨ψ',ci',gr,hr'⟩:=ihT cs vs c ψ ci hr;simp only [ke];exact ⟨ψ',ci',gr,vs,hu,hr'⟩
    | junk=>simp only [ke];exact ⟨ψ,ci,Gr.refl,trivial⟩
    | bool b=>simp only [ke];exact ⟨ψ,ci,Gr.refl,hv⟩
    | int k m=>simp only [ke];exact ⟨ψ,ci,Gr.refl,hv⟩
    | str s=>simp only [ke];exact ⟨ψ,ci,Gr.refl,hv⟩
    | sl p e l=>simp only [ke];exact ⟨ψ,ci,Gr.refl,hv⟩
    | sptr p e l i off=>simp only [ke];exact ⟨ψ,ci,Gr.refl,hv⟩
  · cases cs with
    | nil =>unfold cV at hv;simp only [o6];exact ⟨ψ,ci,Gr.refl,hv⟩
    | cons v cs =>unfold cV at hv;obtain ⟨u,us,rfl,h1,h2,h3⟩:=hv;obtain ⟨ψ1,ci1,gr1,r1⟩:=ihV v u c ψ ci h2;obtain ⟨ψ2,ci2,gr2,r2⟩:=ihL cs us _ ψ1 ci1 h3;simp only [o6];exact ⟨ψ2,ci2,gr1.trans gr2,u,us,rfl,h1,gr2.rep r1,r2⟩
  · cases cs with
    | nil =>unfold dH at hv;simp only [o6];exact ⟨ψ,ci,Gr.refl,hv⟩
    | cons v cs =>unfold dH at hv;obtain ⟨u,us,rfl,h2,h3⟩:=hv;obtain ⟨ψ1,ci1,gr1,r1⟩:=ihV v u c ψ ci h2;obtain ⟨ψ2,ci2,gr2,r2⟩:=ihT cs us _ ψ1 ci1 h3;simp only [o6];exact ⟨ψ2,ci2,gr1.trans gr2,u,us,rfl,gr2.rep r1,r2⟩
def S (w0:Bs) (st:St) (a:Act) (w:World):Prop:=∃ N φ,(∀ r,N r→r<st.nx)∧Ok w0 N φ st.tm st.hp a w
theorem Hv {st:St} (h:Ok w0 N φ st.tm st.hp a w):∀ (live:List Nat) (x:List AV × Cs) (ψ:Nat→jF),CI w (XX w0 w φ st.hp) N φ st.hp w0.mine x.2 ψ→x.1.length=st.tm.length →
 (∀ i:Nat,dC w (XX w0 w φ st.hp) (fun s=>s<x.2.nx) ψ (x.1.getD i .junk) (a.tmps.getD i undef)) →
 ∃ ψ',CI w (XX w0 w φ st.hp) N φ st.hp w0.mine (vC st live x).2 ψ'∧(vC st live x).1.length=st.tm.length ∧
  (∀ i:Nat,dC w (XX w0 w φ st.hp) (fun s=>s<(vC st live x).2.nx) ψ' ((vC st live x).1.getD i .junk) (a.tmps.getD i undef))∧Gr x.2 ψ (vC st live x).2 ψ'
 | [],x,ψ,ci,hl,hx=>⟨ψ,ci,hl,hx,Gr.refl⟩
 | i::live,x,ψ,ci,hl,hx=>by
  obtain ⟨ψ1,ci1,gr1,r1⟩:=(Kc h 64).1 (st.tm.getD i .junk) (a.tmps.getD i undef) x.2 ψ ci (h.tms i);simp only [vC]
  suffices hx1:_ from (let ⟨ψ',z1,z2,z3,z4⟩:=Hv h live (x.1.set i (ke st.hp 64 (st.tm.getD i .junk) x.2).1,(ke st.hp 64 (st.tm.getD i .junk) x.2).2) ψ1 ci1 (by simp [hl]) hx1;⟨ψ',z1,z2,z3,gr1.trans z4⟩)
  intro j;by_cases hij:i=j
  · subst hij;by_cases hi:i<x.1.length
    · have e:(x.1.set i (ke st.hp 64 (st.tm.getD i .junk) x.2).1).getD i .junk=(ke st.hp 64 (st.tm.getD i .junk) x.2).1:=by simp [hi]
      show dC _ _ _ _ ((x.1.set i (ke st.hp 64 (st.tm.getD i .junk) x.2).1).getD i .junk) _;rw [e];exact r1
    · show dC _ _ _ _ ((x.1.set i (ke st.hp 64 (st.tm.getD i .junk) x.2).1).getD i .junk) _;rw [List.set_eq_of_length_le (by omega)];exact gr1.rep (hx i)
  · have e:(x.1.set i (ke st.hp 64 (st.tm.getD i .junk) x.2).1).getD j .junk=x.1.getD j .junk:=by simp [List.getD,List.getElem?_set_ne hij]
    show dC _ _ _ _ ((x.1.set i (ke st.hp 64 (st.tm.getD i .junk) x.2).1).getD j .junk) _;rw [e];exact gr1.rep (hx j)
theorem CI.setOwn {X:Bool→Nat→Prop} {B:Nat→Prop} {c:Cs} {ψ:Nat→jF} (ci:CI w X N φ hp B c ψ) {r r':Nat} (hm:look c.map r=some r') {p:Bool} {e:Ty} {l:List e.d} (hr:hp r = .own p e l) (hrow:lC w X (fun s=>s<c.nx) ψ B r' (.own p e l)) :
 CI w X N φ hp B ⟨c.map,l_ c.hp r' (.own p e l),c.nx⟩ ψ:=by
 obtain ⟨hlt,he,_⟩:=ci.map r r' hm;refine ⟨fun s=>?_,fun s p' e' l'=>?_,fun s b hs=>?_,ci.map,fun s hs=>?_⟩
 · by_cases q:s=r'
   · subst q;show lC _ _ _ _ _ _ (l_ c.hp s (.own p e l) s);rw [cO];exact hrow
   · show lC _ _ _ _ _ _ (l_ c.hp r' (.own p e l) s);rw [bx _ _ q];exact ci.rows s
 · by_cases q:s=r'
   · subst q;show l_ c.hp s (.own p e l) s≠_;rw [cO];intro q;cases q
   · show l_ c.hp r' (.own p e l) s≠_;rw [bx _ _ q];exact ci.nof s p' e' l'
 · by_cases q:s=r'
   · subst q;have hs:bO ψ s (l_ c.hp s (.own p e l) s)=some b:=hs;rw [cO] at hs;simp only [bO] at hs;exact ⟨r,hm,by rw [hr];simp only [bO];rw [← he];exact hs⟩
   · have hs:bO ψ s (l_ c.hp r' (.own p e l) s)=some b:=hs;rw [bx _ _ q] at hs;exact ci.blk s b hs
 · have hs:c.nx≤s:=hs;show l_ c.hp r' (.own p e l) s = .dead;rw [bx _ _ (by omega)];exact ci.fresh s hs
theorem sa (h:Ok w0 N φ tm hp a w):∀ (is:List Nat) (c:Cs) (ψ:Nat→jF),CI w (XX w0 w φ hp) N φ hp w0.mine c ψ→(∀ i ∈ is,look c.map i=some i) →
 ∃ ψ',CI w (XX w0 w φ hp) N φ hp w0.mine (xa hp is c) ψ'∧Gr c ψ (xa hp is c) ψ'
 | [],c,ψ,ci,_=>⟨ψ,ci,Gr.refl⟩
 | i::is,c,ψ,ci,hi=>by
  have hm:=hi i (List.mem_cons_self ..);have hrow:=h.rows i;simp only [xa];cases hq:hp i with
  | box cs =>
   rw [hq] at hrow;obtain ⟨_,b1,b2,vs,te,b3,b4⟩:=hrow;obtain ⟨ψ2,ci2,gr2,hr2⟩:=(Kc h 64).2.1 cs vs.toList c ψ ci b4;have hlk:=gr2.map i i hm;obtain ⟨m1,m2,_⟩:=ci2.map i i hlk;have ci3:=ci2.setBox hlk hq (cs:=(o6 hp 64 cs c).1) ⟨m1,by rw [m2];exact b1,by rw [m2];exact b2,vs,te,by rw [m2];exact b3,hr2⟩;obtain ⟨ψ4,ci4,gr4⟩:=sa h is _ ψ2 ci3 fun j hj=>gr2.map j j (hi j (List.mem_cons_of_mem _ hj))
   exact ⟨ψ4,ci4,Gr.trans (c':=⟨(o6 hp 64 cs c).2.map,l_ (o6 hp 64 cs c).2.hp i (.box (o6 hp 64 cs c).1),(o6 hp 64 cs c).2.nx⟩) (ψ':=ψ2) ⟨gr2.nx,gr2.psi,gr2.map⟩ gr4⟩
  | own p e l =>
   rw [hq] at hrow;obtain ⟨m1,m2,_⟩:=ci.map i i hm;have ci3:=ci.setOwn hm hq (oJ.ren (N':=fun s=>s<c.nx) (r':=i) hrow m1 m2);obtain ⟨ψ4,ci4,gr4⟩:=sa h is _ ψ ci3 fun j hj=>hi j (List.mem_cons_of_mem _ hj)
   exact ⟨ψ4,ci4,⟨gr4.nx,gr4.psi,gr4.map⟩⟩
  | fro p e l=>exact sa h is c ψ ci fun j hj=>hi j (List.mem_cons_of_mem _ hj)
  | dead=>exact sa h is c ψ ci fun j hj=>hi j (List.mem_cons_of_mem _ hj)
theorem EL:∀ (l:List Nat) {r r':Nat},look (l.map fun i=>(i,i)) r=some r'→r'=r∧r ∈ l
 | [],_,_,h=>by cases h
 | i::l,r,r',h=>by
  simp only [List.map_cons] at h;rw [nf] at h;split at h
  · rename_i q;subst q;cases h;exact ⟨rfl,List.mem_cons_self ..⟩
  · obtain ⟨h1,h2⟩:=EL l h;exact ⟨h1,List.mem_cons_of_mem _ h2⟩
theorem Bb:∀ (l:List Nat) {r:Nat},r ∈ l→look (l.map fun i=>(i,i)) r=some r
 | [],_,h=>by cases h
 | i::l,r,h=>by
  simp only [List.map_cons];rw [nf];split
  · rename_i q;subst q;rfl
  · rename_i q;rcases List.mem_cons.1 h with q' | q'
    · exact absurd q'.symm q
    · exact Bb l q'
theorem Am {live:List Nat} {st:St} (hS:S w0 st a w):S w0 (ae w0.g live st) a w:=by
 obtain ⟨N,φ,hN,h⟩:=hS;have ci0:CI w (XX w0 w φ st.hp) N φ st.hp w0.mine ⟨(List.range w0.g).map fun i=>(i,i),qD,w0.g⟩ φ :=
  ⟨fun _=>trivial,fun _ _ _ _ q=>(by cases q),fun _ _ q=>(by cases q),fun r r' q=>by
   obtain ⟨rfl,q2⟩:=EL _ q;rw [List.mem_range] at q2;exact ⟨q2,rfl,(h.giv _ q2).1⟩,fun _ _=>rfl⟩
 obtain ⟨ψ0,ciG,grG⟩:=sa h (List.range w0.g) _ φ ci0 fun i hi=>Bb _ hi
 generalize hc0:xa st.hp (List.range w0.g) ⟨(List.range w0.g).map fun i=>(i,i),qD,w0.g⟩=c0 at ciG grG;obtain ⟨ψ,ci,hl,hx,gr⟩:=Hv h live (List.replicate st.tm.length .junk,c0) ψ0 ciG (by simp)
  (fun i=>by
   have:(List.replicate st.tm.length AV.junk).getD i .junk = .junk:=by
    simp only [List.getD];cases hq:(List.replicate st.tm.length AV.junk)[i]? with
    | none=>rfl
    | some v=>exact (List.eq_of_mem_replicate (List.mem_of_getElem? hq))
   show dC _ _ _ _ ((List.replicate st.tm.length AV.junk).getD i .junk) _;rw [this];trivial)
 have hcan:ae w0.g live st=⟨(vC st live (List.replicate st.tm.length .junk,c0)).1,(vC st live (List.replicate st.tm.length .junk,c0)).2.hp,(vC st live (List.replicate st.tm.length .junk,c0)).2.nx⟩:=by unfold ae;rw [hc0]
 rw [hcan];refine ⟨fun s=>s<(vC st live (List.replicate st.tm.length .junk,c0)).2.nx,ψ,fun _ q=>q,?_⟩;show Ok w0 _ ψ (vC st live (List.replicate st.tm.length .junk,c0)).1 (vC st live (List.replicate st.tm.length .junk,c0)).2.hp a w;have hgr:=Gr.trans grG gr;generalize vC st live (List.replicate st.tm.length .junk,c0)=x at ci hl hx hgr;have hX:∀ p b,XX w0 w φ st.hp p b→XX w0 w ψ x.2.hp p b:=fun p b q=>⟨q.1,fun ⟨r',hr'⟩=>by
  obtain ⟨r,_,h2⟩:=ci.blk r' b hr';exact q.2.1 ⟨r,h2⟩,q.2.2⟩
 refine ⟨h.below,h.defers,by rw [h.size,hl],fun i=>dC.mono hX (fun _ _ _=>rfl) (fun _ q=>q) (fun _ _=>rfl) (hx i),fun r=>?_,fun r s b h1 h2=>?_,fun r hr=>?_⟩
 · have hr:=ci.rows r;have hf:=ci.nof r;cases hq:x.2.hp r with
   | dead=>trivial
   | box cs =>rw [hq] at hr;obtain ⟨h1,h2,h3,vs,te,h4,h5⟩:=hr;exact ⟨h1,h2,h3,vs,te,h4,cV.mono hX (fun _ _ _=>rfl) (fun _ q=>q) (fun _ _=>rfl) h5⟩
   | own p e l =>rw [hq] at hr;obtain ⟨h1,h2,h3,h4,te,xs,h5,h6⟩:=hr;exact ⟨h1,h2,h3,h4,te,xs,h5,h6.mono (hX p) (fun _ _=>rfl)⟩
   | fro p e l=>exact absurd hq (hf p e l)
 · obtain ⟨r1,q1,q2⟩:=ci.blk r b h1;obtain ⟨s1,q3,q4⟩:=ci.blk s b h2;have:=h.disj r1 s1 b q2 q4;subst this;rw [q1] at q3;cases q3;rfl
 · exact ⟨Nat.lt_of_lt_of_le hr hgr.nx,(hgr.psi r hr).trans (h.giv r hr).2⟩
end
end Go.V
end
section
namespace Go.V
open Go.RowKit
section
variable {P:Program} {w0:Bs} {w:World} {N:Nat→Prop} {φ:Nat→jF} {tm:List AV} {hp:Hp} {a:Act}
theorem Ok.drew (h:Ok w0 N φ tm hp a w):Ok w0 N φ tm hp a { w with drawn:=w.drawn+1 }:=by
 refine h.step (fun _=>False) (fun _ q=>q) (fun _ _=>rfl) ⟨h.below.os,h.below.tape,h.below.output,h.below.size,h.below.block⟩ (Nat.le_refl _) (fun _ _ _=>rfl) (fun _ q=>q.elim) (fun b _ q=>q) (fun r=>?_) h.disj;have hr:=h.rows r;cases hq:hp r with
 | dead=>right;trivial
 | box cs=>rw [hq] at hr;exact Or.inl ⟨rfl,hr.1,fun _ _ q=>q⟩
 | own p e l=>rw [hq] at hr;exact Or.inl ⟨rfl,hr.1,fun _ _ q=>q⟩
 | fro p e l=>rw [hq] at hr;exact Or.inl ⟨rfl,hr.1.1,fun _ _ q=>q⟩
theorem BX {D:Nat→Bool}:∀ {gs:List G},(∀ g ∈ gs,D g.i=false)→jV tm D gs=tm
 | [],_=>rfl
 | g::gs,h=>by
  simp only [jV];rw [h g (List.mem_cons_self ..),cond_false];exact BX fun g' hg=>h g' (List.mem_cons_of_mem _ hg)
theorem FW {D:Nat→Bool}:∀ {gs:List G},(∀ g ∈ gs,D g.i=false)→rep hp D gs=hp
 | [],_=>rfl
 | g::gs,h=>by
  simp only [rep];rw [h g (List.mem_cons_self ..),cond_false];exact FW fun g' hg=>h g' (List.mem_cons_of_mem _ hg)
theorem HB {R:Type} {tb:mh} {ct:List (Nat × Cn)} (hm:P.follows .mixedOrders=true) (hP:cX P tb=true) (hE:BD P tb) (hC:∀ f c,look ct f=some c→zn w0 P (f % 100000) c) {id:Nat} {os:Array Oper} {st:St} {k:St→Option R} {r:R}
 {Q:Exit→Act→World→Prop} (h:S w0 st a w) (ht:Fv os.toList os.toList 0 []=true) (hs:GY tb ct os.toList st.hp os.toList 0 [] [] st.tm st.nx k=some r)
 (hQ:∀ st' a' w',S w0 st' a' w'→k st'=some r→Q .normal a' w'):(Code.region id os true).wp P Q a w:=by
 obtain ⟨N,φ,hN,h⟩:=h;have hgl0:GL tb ct os.toList st.tm st.hp st.nx 0 st.nx []:=⟨fun _ q=>(by cases q),List.Pairwise.nil,fun _ q=>absurd q (Nat.not_lt_zero _),fun _ q=>(by cases q),Nat.le_refl _⟩;obtain ⟨gs,nx',hgl,hk⟩:=yp os.toList [] 0 [] [] st.tm st.nx rfl rfl rfl (fun _ q=>by cases q) hgl0 ht rfl hs;refine wp_region_any hm ?_;have hf:∀ j,(Array.replicate os.size false).getD j false=false:=fun j=>by by_cases hj:j<os.size <;> simp [hj]
 have:=N4 (Q:=Q) (w0:=w0) hP hE hC hgl (fun N φ a w hN h=>hQ _ a w ⟨N,φ,hN,h⟩ hk) os.size (Array.replicate os.size false) a { w with drawn:=w.drawn+1 } N φ (by simp) (by
  have:=List.length_filter_le (fun j=>!(Array.replicate os.size false).getD j false) (List.range os.toList.length);simpa using this) (fun g hg q=>by rw [hf] at q;cases q) (fun r q=>Or.inl (hN r q)) (by
  rw [BX fun g _=>hf _,FW fun g _=>hf _];exact h.drew)
 simpa using this
theorem KA {R:Type} {tb:mh} {ct:List (Nat × Cn)} (hP:cX P tb=true) (hE:BD P tb) (hC:∀ f c,look ct f=some c→zn w0 P (f % 100000) c) {all:List Oper} {k:St→Option R} {r:R} {Q:Exit→Act→World→Prop}
 (hQ:∀ st' a' w',S w0 st' a' w'→k st'=some r→Q .normal a' w'):∀ (os pre:List Oper) (st:St) (a:Act) (w:World),all=pre++os→S w0 st a w→Nj tb ct all os st k=some r →
  wpOps P all.toArray Q (List.range' pre.length os.length) a w
 | [],pre,st,a,w,hall,h,hs=>hQ st a w h hs
 | o::os,pre,st,a,w,hall,h,hs=>by
  obtain ⟨N,φ,hN,h⟩:=h;have hat:all[pre.length]?=some o:=by rw [hall,List.getElem?_append_right (Nat.le_refl _)];simp
  simp only [List.length_cons,List.range'_succ,wpOps,List.getElem?_toArray,hat];simp only [Nj] at hs;have ih:=KA (all:=all) hP hE hC hQ os (pre++[o]);simp only [List.length_append,List.length_cons,List.length_nil,Nat.zero_add] at ih;rcases uM hs with ⟨hw,hs⟩ | ⟨hw,hs⟩
  · rw [tj h hw,if_pos rfl];left;rw [Ba] at hs;obtain ⟨⟨v,us,nx'⟩,ho,hs⟩:=Option.bind_eq_some_iff.1 hs;have hsh:=(vH ho).1;refine Oper.wp_mono (fun a' w' hA=>?_) (MG h hP hE hC ho (fun r q1 _ q2=>by have:=hN r q2;omega));obtain ⟨φ',_,h'⟩:=hA;exact ih _ a' w' (by rw [hall];simp) ⟨_,φ',fun r q=>by
     show r<nx';rcases q with q | q
     · have:=hN r q;omega
     · exact q.2,h'⟩ hs
  · rw [tj h hw,if_neg (by simp)];exact ih ⟨oV st.tm o.dst (.tup []),st.hp,st.nx⟩ _ w (by rw [hall];simp) ⟨N,φ,hN,h.put o.dst (v := .tup []) ⟨[],rfl,rfl⟩⟩ hs
def Mi:Ex→Exit
 | .normal => .normal
 | .ret => .ret
 | .exit i => .exit i
theorem MY {p:Nat→Prop} (h:∃ n,p n):∃ n,p n∧∀ m,p m→n≤m:=by
 obtain ⟨n,hn⟩:=h
 induction n using Nat.strongRecOn with
 | _ n ih =>
  by_cases q:∃ m,m<n∧p m
  · obtain ⟨m,h1,h2⟩:=q;exact ih m h1 h2
  · exact ⟨n,hn,fun m hm=>Nat.le_of_not_lt fun hlt=>q ⟨m,hlt,hm⟩⟩
open Classical in
noncomputable def Kf (p:Act→World→Nat→Prop) (a:Act) (w:World):Nat:=if h:∃ n,p a w n then (MY h).choose else 0
theorem Hm {p:Act→World→Nat→Prop} {a:Act} {w:World} (h:∃ n,p a w n):p a w (Kf p a w)∧∀ m,p a w m→Kf p a w≤m:=by unfold Kf;rw [dif_pos h];exact (MY h).choose_spec
theorem ot {R:Type} {E:gq} (hm:P.follows .mixedOrders=true) (hP:cX P E.tb=true) (hE:BD P E.tb) (hC:∀ f c,look E.ct f=some c→zn w0 P (f % 100000) c) (hg:E.g=w0.g) :
 ∀ (c:Code) {st:St} {K:Ex→St→Option R} {r:R} {a:Act} {w:World} {Q:Exit→Act→World→Prop},bP E c st K=some r→S w0 st a w →
  (∀ e st' a' w',S w0 st' a' w'→K e st'=some r→Q (Mi e) a' w')→c.wp P Q a w
 | .skip,st,K,r,a,w,Q,hs,h,hQ=>wp_skip (hQ .normal st a w h hs)
 | .label _,st,K,r,a,w,Q,hs,h,hQ=>wp_label (hQ .normal st a w h hs)
 | .ret,st,K,r,a,w,Q,hs,h,hQ=>wp_ret (hQ .ret st a w h hs)
 | .exit i,st,K,r,a,w,Q,hs,h,hQ=>wp_exit (hQ (.exit i) st a w h hs)
 | .region id os draw,st,K,r,a,w,Q,hs,h,hQ=>by
  simp only [bP] at hs;cases draw with
  | true =>
   rw [cond_true] at hs;obtain ⟨ht,hs⟩:=aM hs;exact HB hm hP hE hC h ht hs fun st' a' w' h' hk=>hQ .normal st' a' w' h' hk
  | false =>rw [cond_false] at hs;refine wp_region ?_;have:=KA (Q:=Q) hP hE hC (fun st' a' w' h' hk=>hQ .normal st' a' w' h' hk) os.toList [] st a w rfl h hs;simpa [List.range_eq_range'] using this
 | .seq x y,st,K,r,a,w,Q,hs,h,hQ=>by
  simp only [bP] at hs;refine wp_seq (ot hm hP hE hC hg x hs h fun e st' a' w' h' hk=>?_);cases e with
  | normal =>
   simp only [] at hk;split at hk
   · rename_i live _;cases hf:E.fuel with
     | zero=>rw [hf] at hk;cases hk
     | succ n =>rw [hf] at hk;simp only [LF] at hk;rw [hg] at hk;exact ot hm hP hE hC hg y hk (Am h') hQ
   · exact ot hm hP hE hC hg y hk h' hQ
  | ret=>exact hQ .ret st' a' w' h' hk
  | exit i=>exact hQ (.exit i) st' a' w' h' hk
 | .cond c x y,st,K,r,a,w,Q,hs,h,hQ=>by
  simp only [bP] at hs;split at hs
  · rename_i b hb;have h0:=h;obtain ⟨N,φ,hN,h1⟩:=h0;have hc:=h1.val (tb:=E.tb) 0 c;rw [hb] at hc;have hc:a.eval c = .bool b:=hc;refine wp_cond hc ?_;cases b with
    | true=>exact ot hm hP hE hC hg x hs h hQ
    | false=>exact ot hm hP hE hC hg y hs h hQ
  · cases hs
 | .block id c,st,K,r,a,w,Q,hs,h,hQ=>by
  simp only [bP] at hs;refine wp_block (ot hm hP hE hC hg c hs h fun e st' a' w' h' hk=>?_);cases e with
  | normal=>exact hQ .normal st' a' w' h' hk
  | ret=>exact hQ .ret st' a' w' h' hk
  | exit i =>
   simp only [] at hk;by_cases hi:i=id
   · subst hi;simp at hk;have:=hQ .normal st' a' w' h' hk;simpa [Mi,Exit.inBlock] using this
   · have hb:Nat.beq i id=false:=by
      cases hb:Nat.beq i id with
      | false=>rfl
      | true=>exact absurd (Nat.eq_of_beq_eq_true hb) hi
     rw [hb,cond_false] at hk;have:=hQ (.exit i) st' a' w' h' hk;simpa [Mi,Exit.inBlock,hi] using this
 | .loop c,st,K,r,a,w,Q,hs,h,hQ=>by
  simp only [bP] at hs;rw [hg] at hs;let p:Act→World→Nat→Prop:=fun a w n=>∃ st,S w0 st a w∧an (bP E c) (ae w0.g ((look E.live (k6 c)).getD [])) K n st=some r
  refine wp_loop (fun a w=>∃ n,p a w n) (Kf p) ⟨_,_,Am h,hs⟩ fun a w hI=>?_
  obtain ⟨⟨st,h,hs⟩,hmin⟩:=Hm hI;cases hn:Kf p a w with
  | zero=>rw [hn] at hs;cases hs
  | succ m =>
   rw [hn] at hs;simp only [an] at hs;refine ot hm hP hE hC hg c hs h fun e st' a' w' h' hk=>?_
   cases e with
   | normal =>have hp':p a' w' m:=⟨_,Am h',hk⟩;exact ⟨⟨m,hp'⟩,Nat.lt_succ_of_le ((Hm ⟨m,hp'⟩).2 m hp')⟩
   | ret=>exact hQ .ret st' a' w' h' hk
   | exit i=>exact hQ (.exit i) st' a' w' h' hk
 | .rangeFunc _ _ _ _,_,_,_,_,_,_,hs,_,_=>by cases hs
 | .scope _,_,_,_,_,_,_,hs,_,_=>by cases hs
 | .goto _,_,_,_,_,_,_,hs,_,_=>by cases hs
 | .refuse _,_,_,_,_,_,_,hs,_,_=>by cases hs
end
end Go.V
end
section
namespace Go.V
open Go.RowKit
section
variable {P:Program} {w0:Bs} {w:World} {N:Nat→Prop} {φ:Nat→jF} {tm:List AV} {hp:Hp} {a:Act}
theorem AP {X:Bool→Nat→Prop}:∀ {cs:List AV} {vs us:List Value} {n:Nat},dH w X N φ cs (vs++us)→vs.length=n→dH w X N φ (cs.take n) vs∧dH w X N φ (cs.drop n) us
 | cs,[],us,n,h,hn=>by cases hn;exact ⟨rfl,h⟩
 | [],v::vs,us,n,h,hn=>by unfold dH at h;cases h
 | c::cs,v::vs,us,n,h,hn=>by cases hn;have h':dH w X N φ (c::cs) (v::(vs++us)):=h;unfold dH at h';obtain ⟨u,us',hq,h1,h2⟩:=h';cases hq;obtain ⟨g1,g2⟩:=AP (n:=vs.length) h2 rfl;refine ⟨?_,g2⟩;show dH _ _ _ _ (c::cs.take vs.length) (v::vs);unfold dH;exact ⟨v,vs,rfl,h1,g1⟩
def sd (φ:Nat→jF):(A:List Pm)→(tup (pn A)).d→List Value→Nat→Prop
 | [],_,us,_=>us=[]
 | .val _::A,x,us,i=>∃ u us',us=u::us'∧sd φ A x.2 us' i
 | .io _ f _::A,x,us,i=>∃ us',us = .pointer (some ⟨(φ i).b,f,none⟩)::us'∧sd φ A x.2 us' (i+1)
 | .lend t::A,x,us,i=>∃ u us',us=u::us'∧(∀ (w:World) (Y:Bool→Nat→Prop) (N:Nat→Prop),(∀ k,k<t.rows→N (i+k))→cV w Y N φ (qf true t x.1 i) u.cells.toList)∧sd φ A x.2 us' (i+t.rows)
 | .give _::A,x,us,i=>∃ u us',us=u::us'∧sd φ A x.2 us' i
 | .fn f n::A,x,us,i=>∃ vs us',us = .func (.func f) #[] vs.toArray::us'∧vs.length=n∧sd φ A x (vs++us') i
theorem Fa {t:Ty} {cs:List AV} {c:List Value} {X:Bool→Nat→Prop} (h:cV w X N φ cs c) (hl:cs.length=t.size) (hpl:t.agg=false→t.size=1):(mj t c).cells.toList=c:=by
 have hc:=h.len;unfold mj;cases ha:t.agg with
 | true=>rw [if_pos rfl];simp [Value.cells]
 | false =>
  rw [if_neg (by simp)];have:=hpl ha
  match cs,c,h,hc with
  | [_],[v],h,_ =>obtain ⟨u,us,e,h1,_,_⟩:=h;cases e;show (v.cells).toList=[v];cases v <;> simp [Value.oneCell'] at h1 <;> rfl
  | [],_,_,hc=>simp at hl;omega
  | _::_::_,_,_,_=>simp at hl;omega
  | [_],[],_,hc=>simp at hc
  | [_],_::_::_,_,hc=>simp at hc
theorem JV {t:Ty} (h:t.agg=false):t.size=1:=by cases t <;> simp [Ty.agg] at h <;> rfl
set_option maxHeartbeats 1000000 in
theorem xC {Xa:Nat→Prop}:∀ {A:List Pm} {x:(tup (pn A)).d} {us:List Value} {bs:List Nat},vR w Xa A x us bs →
 ∃ R U:List jF,R.length=cS A∧U.length=qM A∧∀ {i j:Nat} {φ:Nat→jF} {N M:Nat→Prop} {Y:Bool→Nat→Prop},(∀ k (h:k<R.length),φ (i+k)=R[k]∧N (i+k))→(∀ k (h:k<U.length),φ (j+k)=U[k]∧N (j+k)) →
  (∀ b ∈ bs,M b)→(∀ b,Xa b→Y true b) →
  dH w Y N φ (jl A x i j) us∧(∀ r row,(r,row) ∈ mb A x i j→lC w Y N φ M r row)∧lX φ (mb A x i j)=bs∧((mb A x i j).map (·.1)).Perm (List.range' i (cS A)++List.range' j (qM A))∧sd φ A x us i
 | [],x,us,bs,h=>by obtain ⟨rfl,rfl⟩:=h;exact ⟨[],[],rfl,rfl,fun _ _ _ _=>⟨rfl,fun _ _ q=>(by cases q),rfl,List.Perm.refl _,rfl⟩⟩
 | .val t::A,x,us,bs,h=>by obtain ⟨c,us',rfl,h1,h2⟩:=h;obtain ⟨R,U,r1,r2,r3⟩:=xC h2;refine ⟨R,U,r1,r2,fun {i j φ N M Y} hR hU hM hX=>?_⟩;obtain ⟨g1,g2,g3,g4,g5⟩:=r3 hR hU hM hX;have hc:cV w Y N φ (inj true t x.1) c:=(Rd.mono (Y:=Y true) hX (fun _ _=>rfl) h1).inj;refine ⟨?_,g2,g3,g4,_,us',rfl,g5⟩;show dH _ _ _ _ (kR t (inj true t x.1)::jl A x.2 _ _) _;unfold dH;exact ⟨_,us',rfl,m5 hc (by rw [← hc.len,h1.len]),g1⟩
 | .io o f t::A,x,us,bs,h=>by
  obtain ⟨b,vs,te,us',bl,bs',rfl,hh,rfl,h1,h2⟩:=h;obtain ⟨R,U,r1,r2,r3⟩:=xC h2;have hbl:bl.length=bif o then t.rows else 0:=by
   cases o with
   | true=>simp only [if_true] at h1;exact h1.len.2
   | false=>simp only [Bool.false_eq_true,if_false] at h1;rw [h1.1];rfl
  refine ⟨⟨.pointer none,b,0,1⟩::R,bl++U,by simp [r1,cS];omega,by simp [r2,qM,hbl],fun {i j φ N M Y} hR hU hM hX=>?_⟩;have hR0:=hR 0 (by simp);simp only [Nat.add_zero,List.getElem_cons_zero] at hR0;have hR1:∀ k (q:k<R.length),φ (i+1+k)=R[k]∧N (i+1+k):=fun k q=>by have:=hR (k+1) (by simp;omega);rw [show i+1+k=i+(k+1) by omega];simpa using this
  have hU0:∀ k (q:k<bl.length),φ (j+k)=bl[k]∧N (j+k):=fun k q=>by
   have:=hU k (by rw [List.length_append];omega)
   rwa [List.getElem_append_left q] at this
  have hU1:∀ k (q:k<U.length),φ (j+(bif o then t.rows else 0)+k)=U[k]∧N (j+(bif o then t.rows else 0)+k):=fun k q=>by have:=hU (bl.length+k) (by rw [List.length_append];omega);rw [List.getElem_append_right (by omega)] at this;rw [← hbl,Nat.add_assoc];simpa using this
  simp only [List.mem_cons,List.mem_append] at hM;obtain ⟨g1,g2,g3,g4,g5⟩:=r3 hR1 hU1 (fun b hb=>hM b (Or.inr (Or.inr hb))) hX;refine ⟨?_,fun r row hm=>?_,?_,?_,us',by rw [hR0.1],g5⟩
  · show dH _ _ _ _ (.ptr i 0 f::jl A x.2 _ _) _;unfold dH;exact ⟨_,us',rfl,⟨hR0.2,by rw [hR0.1];exact Nat.zero_lt_one,by rw [hR0.1];simp⟩,g1⟩
  · simp only [mb,List.mem_cons,List.mem_append,Prod.mk.injEq] at hm;rcases hm with ⟨rfl,rfl⟩ | hm | hm
    · refine ⟨hR0.2,by rw [hR0.1];exact hM b (Or.inl rfl),by rw [hR0.1],vs,te,by rw [hR0.1];exact hh,?_⟩;cases o with
      | true=>simp only [if_true] at h1;exact h1.cells (fun k q=>(hU0 k q).1) (fun k q=>(hU0 k q).2)
      | false=>simp only [Bool.false_eq_true,if_false] at h1;exact (Rd.mono hX (fun _ _=>rfl) h1.2).inj
    · cases o with
      | true =>simp only [if_true] at h1;exact h1.rowsOk hX (fun k q=>(hU0 k q).1) (fun k q=>(hU0 k q).2) (fun b hb=>hM b (Or.inr (Or.inl hb))) r row hm
      | false=>cases hm
    · exact g2 r row hm
  · simp only [mb];unfold lX;rw [List.filterMap_cons];simp only [bO,hR0.1];show _::lX φ _=_;rw [ii,g3];cases o with
    | true=>simp only [if_true] at h1;rw [cond_true,h1.blks fun k q=>(hU0 k q).1]
    | false=>simp only [Bool.false_eq_true,if_false] at h1;rw [h1.1];rfl
  · simp only [mb,List.map_cons,List.map_append,cS,qM];have hk:((bif o then kg true t x.1 j else []).map (·.1))=List.range' j (bif o then t.rows else 0):=by
     cases o with
     | true=>rw [cond_true,cond_true,nc]
     | false=>rfl
    rw [hk,Nat.add_comm 1 (cS A),List.range'_succ,← List.range'_append_1];rw [List.perm_iff_count];intro z;have:=(List.perm_iff_count.1 g4) z;simp only [List.count_append,List.count_cons] at this ⊢;omega
 | .lend t::A,x,us,bs,h=>by
  obtain ⟨c,us',bl,bs',rfl,rfl,h1,h2⟩:=h;obtain ⟨R,U,r1,r2,r3⟩:=xC h2;have hbl:=h1.len.2;refine ⟨bl++R,U,by rw [List.length_append,hbl,r1];rfl,r2,fun {i j φ N M Y} hR hU hM hX=>?_⟩;have hR0:∀ k (q:k<bl.length),φ (i+k)=bl[k]∧N (i+k):=fun k q=>by
   have:=hR k (by rw [List.length_append];omega)
   rwa [List.getElem_append_left q] at this
  have hR1:∀ k (q:k<R.length),φ (i+t.rows+k)=R[k]∧N (i+t.rows+k):=fun k q=>by have:=hR (bl.length+k) (by rw [List.length_append];omega);rw [List.getElem_append_right (by omega)] at this;rw [← hbl,Nat.add_assoc];simpa using this
  simp only [List.mem_append] at hM;obtain ⟨g1,g2,g3,g4,g5⟩:=r3 hR1 hU (fun b hb=>hM b (Or.inr hb)) hX;have hcells:∀ (w2:World) (Y:Bool→Nat→Prop) (N:Nat→Prop),(∀ k,k<t.rows→N (i+k))→cV w2 Y N φ (qf true t x.1 i) c:=fun w2 Y N hN=>h1.cells (fun k q=>(hR0 k q).1) (fun k q=>hN k (by omega))
  have hc:=hcells w Y N fun k q=>(hR0 k (by omega)).2
  have hcl:(qf true t x.1 i).length=t.size:=by rw [← hc.len,h1.len.1]
  refine ⟨?_,fun r row hm=>?_,?_,?_,_,us',rfl,fun w2 Y2 N2 hN2=>by rw [Fa hc hcl JV];exact hcells w2 Y2 N2 hN2,g5⟩
  · show dH _ _ _ _ (kR t (qf true t x.1 i)::jl A x.2 _ _) _;unfold dH;exact ⟨_,us',rfl,m5 hc hcl,g1⟩
  · simp only [mb,List.mem_append] at hm;rcases hm with hm | hm
    · exact h1.rowsOk hX (fun k q=>(hR0 k q).1) (fun k q=>(hR0 k q).2) (fun b hb=>hM b (Or.inl hb)) r row hm
    · exact g2 r row hm
  · simp only [mb];rw [ii,g3,h1.blks fun k q=>(hR0 k q).1]
  · simp only [mb,List.map_append,cS,qM];rw [nc,← List.range'_append_1,List.append_assoc];exact g4.append_left _
 | .give t::A,x,us,bs,h=>by
  obtain ⟨c,us',bl,bs',rfl,rfl,h1,h2⟩:=h;obtain ⟨R,U,r1,r2,r3⟩:=xC h2;have hbl:=h1.len.2;refine ⟨R,bl++U,r1,by rw [List.length_append,hbl,r2];rfl,fun {i j φ N M Y} hR hU hM hX=>?_⟩;have hU0:∀ k (q:k<bl.length),φ (j+k)=bl[k]∧N (j+k):=fun k q=>by
   have:=hU k (by rw [List.length_append];omega)
   rwa [List.getElem_append_left q] at this
  have hU1:∀ k (q:k<U.length),φ (j+t.rows+k)=U[k]∧N (j+t.rows+k):=fun k q=>by have:=hU (bl.length+k) (by rw [List.length_append];omega);rw [List.getElem_append_right (by omega)] at this;rw [← hbl,Nat.add_assoc];simpa using this
  simp only [List.mem_append] at hM;obtain ⟨g1,g2,g3,g4,g5⟩:=r3 hR hU1 (fun b hb=>hM b (Or.inr hb)) hX;have hc:cV w Y N φ (qf true t x.1 j) c:=h1.cells (fun k q=>(hU0 k q).1) (fun k q=>(hU0 k q).2);have hcl:(qf true t x.1 j).length=t.size:=by rw [← hc.len,h1.len.1]
  refine ⟨?_,fun r row hm=>?_,?_,?_,_,us',rfl,g5⟩
  · show dH _ _ _ _ (kR t (qf true t x.1 j)::jl A x.2 _ _) _;unfold dH;exact ⟨_,us',rfl,m5 hc hcl,g1⟩
  · simp only [mb,List.mem_append] at hm;rcases hm with hm | hm
    · exact h1.rowsOk hX (fun k q=>(hU0 k q).1) (fun k q=>(hU0 k q).2) (fun b hb=>hM b (Or.inl hb)) r row hm
    · exact g2 r row hm
  · simp only [mb];rw [ii,g3,h1.blks fun k q=>(hU0 k q).1]
  · simp only [mb,List.map_append,cS,qM];rw [nc,← List.range'_append_1];rw [List.perm_iff_count];intro z;have:=(List.perm_iff_count.1 g4) z;simp only [List.count_append] at this ⊢;omega
 | .fn f n::A,x,us,bs,h=>by obtain ⟨vs,us',rfl,hn,h2⟩:=h;obtain ⟨R,U,r1,r2,r3⟩:=xC (A:=A) h2;refine ⟨R,U,r1,r2,fun {i j φ N M Y} hR hU hM hX=>?_⟩;obtain ⟨g1,g2,g3,g4,g5⟩:=r3 hR hU hM hX;obtain ⟨k1,k2⟩:=AP g1 hn;refine ⟨?_,g2,g3,g4,vs,us',rfl,hn,g5⟩;show dH _ _ _ _ (.fn f ((jl A x i j).take n)::(jl A x i j).drop n) _;unfold dH;refine ⟨_,us',rfl,?_,k2⟩;unfold dC;exact ⟨vs,rfl,k1⟩
theorem S.enter {A:List Pm} {x:(tup (pn A)).d} {as:List Value} {bs:List Nat} {Xa:Nat→Prop} (h:vR w Xa A x as bs) (hXa:∀ b,Xa b→b<w.heap.size∧b ∉ bs) (hnd:bs.Nodup) (n:Nat) :
 ∃ φ,S ⟨w,(· ∈ bs),cS A,φ,Xa⟩ (start A n x) { tmps:=as.toArray++Array.replicate (n-as.toArray.size) undef,defers:=[] } w∧sd φ A x as 0:=by
 obtain ⟨R,U,r1,r2,r3⟩:=xC h;have hR:∀ k (q:k<R.length),(fun r=>(R++U).getD r default) (0+k)=R[k]∧0+k<cS A+qM A:=fun k q=>by refine ⟨?_,by omega⟩;show (R++U).getD (0+k) default=_;rw [Nat.zero_add,List.getD,List.getElem?_append_left q,List.getElem?_eq_getElem q];rfl
 have hU:∀ k (q:k<U.length),(fun r=>(R++U).getD r default) (cS A+k)=U[k]∧cS A+k<cS A+qM A:=fun k q=>by refine ⟨?_,by omega⟩;show (R++U).getD (cS A+k) default=_;rw [← r1,List.getD,List.getElem?_append_right (by omega),Nat.add_sub_cancel_left,List.getElem?_eq_getElem q];rfl
 generalize hφ:(fun r=>(R++U).getD r default)=φ at hR hU;refine ⟨φ,⟨fun r=>r<cS A+qM A,φ,fun _ q=>q,?_⟩,?_⟩
 rotate_left
 · exact (r3 (Y:=fun _ _=>True) (M:=fun _=>True) (N:=fun r=>r<cS A+qM A) hR hU (fun _ _=>trivial) (fun _ _=>trivial)).2.2.2.2
 obtain ⟨_,_,hbl,hperm,_⟩:=r3 (Y:=fun _ _=>True) (M:=fun _=>True) (N:=fun r=>r<cS A+qM A) hR hU (fun _ _=>trivial) (fun _ _=>trivial);have hkn:((mb A x 0 (cS A)).map (·.1)).Nodup:=hperm.nodup_iff.2 (by
  have:List.range' 0 (cS A)++List.range' (cS A) (qM A)=List.range' 0 (cS A+qM A):=by
   have:=List.range'_append_1 (s:=0) (m:=cS A) (n:=qM A)
   rwa [Nat.zero_add] at this
  rw [this];exact List.nodup_range')
 let w0:Bs:=⟨w,(· ∈ bs),cS A,φ,Xa⟩;have hin:∀ r row,apply qD (mb A x 0 (cS A)) r=row→row ≠ .dead→(r,row) ∈ mb A x 0 (cS A):=fun r row e hne=>by
  by_cases q:r ∈ (mb A x 0 (cS A)).map (·.1)
  · obtain ⟨z,hz,rfl⟩:=List.mem_map.1 q;rw [wx _ hkn hz] at e;rw [← e];exact hz
  · rw [nj _ q] at e;exact absurd e.symm hne
 have hblk:∀ r b,bO φ r (apply qD (mb A x 0 (cS A)) r)=some b→(r,apply qD (mb A x 0 (cS A)) r) ∈ mb A x 0 (cS A)∧b ∈ bs:=fun r b hb=>by have hm:=hin r _ rfl (fun e=>by rw [e] at hb;cases hb);exact ⟨hm,by rw [← hbl];exact List.mem_filterMap.2 ⟨_,hm,hb⟩⟩
 have hX:∀ b,Xa b→XX w0 w φ (apply qD (mb A x 0 (cS A))) true b:=fun b hb=>⟨(hXa b hb).1,fun ⟨r,hr⟩=>(hXa b hb).2 (hblk r b hr).2,Or.inr ⟨rfl,hb⟩⟩
 obtain ⟨g1,g2,_,_,_⟩:=r3 (Y:=XX w0 w φ (apply qD (mb A x 0 (cS A)))) (M:=w0.mine) (N:=fun r=>r<cS A+qM A) hR hU (fun b hb=>Or.inr hb) hX;have hl:=g1.len;refine ⟨kU.refl w0,rfl,by simp [start,hl],fun i=>?_,fun r=>?_,fun r s b h1 h2=>?_,fun r hr=>⟨Nat.lt_of_lt_of_le hr (Nat.le_add_right _ _),rfl⟩⟩
 · show dC _ _ _ _ ((jl A x 0 (cS A)++List.replicate (n-(jl A x 0 (cS A)).length) AV.junk).getD i AV.junk) _;by_cases hi:i<(jl A x 0 (cS A)).length
   · have h1:(jl A x 0 (cS A))[i]?=some ((jl A x 0 (cS A))[i]'hi):=List.getElem?_eq_getElem _;obtain ⟨u,h2,h3⟩:=rT g1 h1;have e1:(jl A x 0 (cS A)++List.replicate (n-(jl A x 0 (cS A)).length) AV.junk).getD i AV.junk=(jl A x 0 (cS A))[i]'hi:=by
      simp only [List.getD,List.getElem?_append_left hi,h1,Option.getD_some]
     have hlt:i<as.length:=by rw [hl];exact hi
     have h2':as[i]=u:=by have:=h2;rw [List.getElem?_eq_getElem hlt] at this;exact Option.some.inj this
     have e2:(as.toArray++Array.replicate (n-as.toArray.size) undef).getD i undef=u:=by
      have hb:i<(as.toArray++Array.replicate (n-as.toArray.size) undef).size:=by simp;omega
      rw [← Array.getElem_eq_getD (h:=hb)];rw [Array.getElem_append_left (by simpa using hlt)];simpa using h2'
     show dC _ _ _ _ _ ((as.toArray++Array.replicate (n-as.toArray.size) undef).getD i undef);rw [e1,e2];exact h3
   · have e1:(jl A x 0 (cS A)++List.replicate (n-(jl A x 0 (cS A)).length) AV.junk).getD i AV.junk = .junk:=by
      simp only [List.getD];rw [List.getElem?_append_right (by omega)];cases hq:(List.replicate (n-(jl A x 0 (cS A)).length) AV.junk)[i-(jl A x 0 (cS A)).length]? with
      | none=>rfl
      | some v=>exact (List.eq_of_mem_replicate (List.mem_of_getElem? hq))
     rw [e1];trivial
 · show lC _ _ _ _ _ _ (apply qD (mb A x 0 (cS A)) r);cases hq:apply qD (mb A x 0 (cS A)) r with
   | dead=>trivial
   | box cs=>exact g2 r _ (hin r _ hq (fun q=>by cases q))
   | own p e l=>exact g2 r _ (hin r _ hq (fun q=>by cases q))
   | fro p e l=>exact g2 r _ (hin r _ hq (fun q=>by cases q))
 · have h1:bO φ r (apply qD (mb A x 0 (cS A)) r)=some b:=h1;have h2:bO φ s (apply qD (mb A x 0 (cS A)) s)=some b:=h2;obtain ⟨m1,_⟩:=hblk r b h1;obtain ⟨m2,_⟩:=hblk s b h2;have:=qX (f:=fun u:Nat × rF=>bO φ u.1 u.2) (by
    have:=hnd;rw [← hbl] at this;exact this) m1 m2 h1 h2
   exact (Prod.mk.inj this).1
theorem NI {X:Bool→Nat→Prop} {u:Ty} {av v:AV} {p:Value} (hs:ld hp u av some=some v) (h:dC w X N φ av p):∃ b o,p = .pointer (some ⟨b,o,none⟩):=by
 cases av <;> try (cases hs;done)
 · obtain ⟨_,_,e⟩:=h;exact ⟨_,_,e⟩
 · obtain ⟨_,b,o,xs,e,_⟩:=h;exact ⟨_,_,e⟩
theorem D7 {tb:mh} {st:St} (hP:cX P tb=true) (h:Ok w0 N φ st.tm st.hp a w) {f:ResultVar→Sem Value} (hf1:∀ t,f (.tmp t)=pure (a.tmps.getD t undef))
 (hf2:∀ x t,f (.cell x t)=(do loadVar t (← asAddr (a.tmps.getD x undef)))):∀ {rv:List ResultVar} {cells:List AV},lf tb st rv=some cells →
 ∃ vs,(rv.mapM f).run P w = .ok vs w∧dH w (XX w0 w φ st.hp) N φ cells vs
 | [],cells,hs=>by cases hs;exact ⟨[],by simp,rfl⟩
 | .tmp t::rv,cells,hs=>by
  simp only [lf] at hs;split at hs
  · rename_i l hl;cases hs;obtain ⟨vs,h1,h2⟩:=D7 hP h hf1 hf2 hl;refine ⟨a.tmps.getD t undef::vs,?_,_,_,rfl,h.tms t,h2⟩;rw [List.mapM_cons,Sem.run_bind,hf1,Sem.run_pure,Result.andThen_ok,Sem.run_bind,h1,Result.andThen_ok,Sem.run_pure]
  · cases hs
 | .cell x t::rv,cells,hs=>by
  simp only [lf] at hs;split at hs
  · rename_i u hu;split at hs
    · rename_i v l hv hl;cases hs;obtain ⟨i,d,z,ht⟩:=jd hP hu;obtain ⟨vs,h1,h2⟩:=D7 hP h hf1 hf2 hl;obtain ⟨y,g1,g2⟩:=ME h ht hv (h.tms x);refine ⟨y::vs,?_,_,_,rfl,g2,h2⟩;have g3:(f (.cell x t)).run P w = .ok y w:=by
       rw [hf2];obtain ⟨b,o,hq⟩:=NI hv (h.tms x);rw [hq] at g1 ⊢;have g1':(loadVar t ⟨b,o,none⟩).run P w = .ok y w:=by
        have e:(Instr.loadAt t (.pointer (some ⟨b,o,none⟩)))=(loadVar t ⟨b,o,none⟩):=by simp [Instr.loadAt,Instr.sureAddr,asAddr]
        rw [e] at g1;exact g1
       simpa [asAddr] using g1'
      rw [List.mapM_cons,Sem.run_bind,g3,Result.andThen_ok,Sem.run_bind,h1,Result.andThen_ok,Sem.run_pure]
    · cases hs
  · cases hs
end
end Go.V
end

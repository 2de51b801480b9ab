/- V: soundness, part 5 of 10. -/
import Derived.Test.YtijlgdoiofdmhaaGreatDoorVS4
section
set_option linter.unusedVariables false
set_option linter.unusedSimpArgs false
namespace Go.V
open Go.RowKit
section
variable {P:Program} {tb:mh} {ct:List (Nat × Cn)} {w0:Bs} {w:World} {N:Nat→Prop} {φ:Nat→jF} {tm:List AV} {hp:Hp} {a:Act} {Q:Exit→Act→World→Prop}
theorem Np {X:Bool→Nat→Prop} {t u:TypeId} {cs:List AV} {v:AV} {vs:Array Value} (h:Kb cs=some v) (hr:dH w X N φ cs vs.toList) (at_:Array TypeId):∃ y,(Builtin.max_ at_ u vs).run P w = .ok y w∧dC w X N φ v y:=by
 unfold Kb at h;split at h
 · cases h;unfold dH at hr;obtain ⟨x1,us,e1,h1,hr⟩:=hr;unfold dH at hr;obtain ⟨x2,us,e2,h2,hr⟩:=hr;unfold dH at hr;subst hr;subst e2;cases h1;cases h2;refine ⟨_,?_,rfl⟩;unfold Builtin.max_;rw [e1];rfl
 · cases h
theorem Ny {X:Bool→Nat→Prop} {t u:TypeId} {cs:List AV} {v:AV} {vs:Array Value} (h:Ki cs=some v) (hr:dH w X N φ cs vs.toList) (at_:Array TypeId):∃ y,(Builtin.min_ at_ u vs).run P w = .ok y w∧dC w X N φ v y:=by
 unfold Ki at h;split at h
 · cases h;unfold dH at hr;obtain ⟨x1,us,e1,h1,hr⟩:=hr;unfold dH at hr;obtain ⟨x2,us,e2,h2,hr⟩:=hr;unfold dH at hr;subst hr;subst e2;cases h1;cases h2;refine ⟨_,?_,rfl⟩;unfold Builtin.min_;rw [e1];rfl
 · cases h
theorem tD {X:Bool→Nat→Prop} {α:Type} {f:α→AV} {g:α→Value} (h:∀ x,dC w X N φ (f x) (g x)):∀ l:List α,dH w X N φ (l.map f) (l.map g)
 | []=>rfl
 | x::l=>⟨_,_,rfl,h x,tD h l⟩
theorem Io (h:Ok w0 N φ tm hp a w) {o:Oper} {v:AV} {u:Value} {id:Nat} {us:kO} (hf:Dl hp us) (hr:(execOp a.eval o).run P w = .ok (.value u) w)
 (hv:dC w (XX w0 w φ (apply hp us)) N φ v u):o.wp P a w (pZ w0 N φ tm hp o.dst v us id id) Q:=by
 have h1:=h.freeze us hf;refine pN hr ⟨φ,fun _ _=>rfl,?_⟩;have e:(fun r=>N r∨(id≤r∧r<id))=N:=funext fun r=>propext ⟨fun q=>q.elim (fun q=>q) (fun q=>by omega),Or.inl⟩
 rw [e];exact h1.put o.dst hv
theorem LG (h:Ok w0 N φ tm hp a w) (hP:cX P tb=true) {t:Nat} {x v:AV} {p:Value} {us:kO} {lo hi:Option AV} {vlo vhi:Option Value}
 (hs:ly ((look tb.ty t).getD .opq) hp x lo hi (fun v us=>some (v,us))=some (v,us)) (hx:dC w (XX w0 w φ hp) N φ x p) (hlo:kH w (XX w0 w φ hp) N φ lo vlo) (hhi:kH w (XX w0 w φ hp) N φ hi vhi) :
 Dl hp us∧∃ u,(Instr.sliceAt t p vlo vhi none).run P w = .ok u w∧dC w (XX w0 w φ (apply hp us)) N φ v u:=by
 have hnil:Dl hp []:=fun r x q=>by cases q
 cases hl:look tb.ty t with
 | none=>rw [hl] at hs;simp [ly] at hs
 | some T =>
  rw [hl] at hs;simp only [Option.getD_some] at hs;obtain ⟨i,d,z,ht⟩:=jd hP hl;unfold ly at hs;split at hs
  · rename_i s;rw [tk] at hs;cases hc:Ep s lo hi some with
    | none=>rw [hc] at hs;cases hs
    | some s' =>rw [hc] at hs;cases hs;cases hx;exact ⟨hnil,_,EZ ht.strU hc hlo hhi,rfl⟩
  · rename_i e e';obtain ⟨te,hu,_,_,_,i',d',z',hte⟩:=ht.slice hP;rw [kf] at hs;cases hc:ut ([]:List Unit) lo hi some with
    | none=>rw [hc] at hs;cases hs
    | some l' =>rw [hc] at hs;cases hs;cases hx;exact ⟨hnil,_,F1 hu hte.info hc hlo hhi,rfl⟩
  · rename_i e pp e' l;obtain ⟨te,hu,_,_,_,i',d',z',hte⟩:=ht.slice hP;obtain ⟨he,hs1⟩:=aM hs;have he:=of_decide_eq_true he;subst he;rw [kf] at hs1;cases hc:ut l lo hi some with
    | none=>rw [hc] at hs1;cases hs1
    | some l' =>rw [hc] at hs1;cases hs1;obtain ⟨u,h1,h2⟩:=EI hu hte hx hc hlo hhi;exact ⟨hnil,u,h1,h2⟩
  · rename_i e r;obtain ⟨te,hu,_,_,_,i',d',z',hte⟩:=ht.slice hP;have key:∀ pp e' (l:List e'.d),(hp r = .own pp e' l∨hp r = .fro pp e' l)→(bif decide (e=e') then ut l lo hi fun l'=>some (AV.sl pp e' l',[(r,rF.fro pp e' l)]) else none)=some (v,us) →
     Dl hp us∧∃ u,(Instr.sliceAt t p vlo vhi none).run P w = .ok u w∧dC w (XX w0 w φ (apply hp us)) N φ v u:=by
     intro pp e' l hrow hs;obtain ⟨he,hs1⟩:=aM hs;have he:=of_decide_eq_true he;subst he;rw [kf] at hs1;cases hc:ut l lo hi some with
     | none=>rw [hc] at hs1;cases hs1
     | some l' =>
      rw [hc] at hs1;cases hs1;have hf:Dl hp [(r,rF.fro pp e l)]:=fun s x q=>by simp only [List.mem_singleton,Prod.mk.injEq] at q;obtain ⟨rfl,rfl⟩:=q;exact ⟨pp,e,l,rfl,hrow⟩
      refine ⟨hf,?_⟩;have h1:=h.freeze _ hf;have hr:=h1.rows r;rw [show apply hp [(r,rF.fro pp e l)] r = .fro pp e l from cO ..] at hr;obtain ⟨hN,rfl,_⟩:=hx;have hrd:=vM hr.1 (Y:=XX w0 w φ (apply hp [(r,rF.fro pp e l)]) pp) (fun b hb=>hr.2 b hb) (fun b hb=>hb);obtain ⟨u,g1,g2⟩:=EI hu hte hrd hc hlo hhi;exact ⟨u,g1,g2⟩
    split at hs
    · rename_i pp e' l hrow;exact key pp e' l (Or.inl hrow) hs
    · rename_i pp e' l hrow;exact key pp e' l (Or.inr hrow) hs
    · cases hs
  · cases hs
theorem Mx (h:Ok w0 N φ tm hp a w) (hP:cX P tb=true) {t ty:Nat} {x v:AV} {p:Value} (hs:lenOf ((look tb.ty t).getD .opq) hp x some=some v) (hx:dC w (XX w0 w φ hp) N φ x p) :
 ∃ u,(Builtin.len_ #[t] ty #[p]).run P w = .ok u w∧dC w (XX w0 w φ hp) N φ v u:=by
 cases hl:look tb.ty t with
 | none=>rw [hl] at hs;simp [lenOf] at hs
 | some T =>
  rw [hl] at hs;simp only [Option.getD_some] at hs;obtain ⟨i,d,z,ht⟩:=jd hP hl;unfold lenOf at hs;split at hs
  · cases hs;cases hx;exact ⟨_,EG ht.strU _,rfl⟩
  · obtain ⟨te,hu,_⟩:=ht.slice hP;cases hs;cases hx;exact ⟨_,o8 hu _ _ _,rfl⟩
  · obtain ⟨te,hu,_⟩:=ht.slice hP;cases hs;obtain ⟨ad,c,rfl,_⟩:=Ad (X:=XX w0 w φ hp) hx;exact ⟨_,o8 hu _ _ _,rfl⟩
  · rename_i e r;obtain ⟨te,hu,_⟩:=ht.slice hP;have hr:=h.rows r;obtain ⟨hN,rfl,_⟩:=hx;split at hs
    · rename_i pp e' l hrow;rw [hrow] at hr;cases hs;obtain ⟨_,_,_,_,te',xs,ho,_⟩:=hr;obtain ⟨ad,c,hsl,_⟩:=kc ho;rw [hsl];exact ⟨_,o8 hu _ _ _,rfl⟩
    · rename_i pp e' l hrow;rw [hrow] at hr;cases hs;obtain ⟨_,_,_,_,te',xs,ho,_⟩:=hr.1;obtain ⟨ad,c,hsl,_⟩:=kc ho;rw [hsl];exact ⟨_,o8 hu _ _ _,rfl⟩
    · cases hs
  · cases hs
theorem Jn {X:Nat→Prop} {e:Ty} {l:List e.d} {v:Value} (h:Rd w X (.slice e) l [v]) :
 ∃ ad c xs,v = .slice ad l.length c∧n9 (Rd w X e) l xs∧(0<l.length→∃ x,ad=some x∧∀ j u,xs[j]?=some u→w.cell? (x.add j)=some u):=by
 obtain ⟨ad,n,c,xs,hc,hn,hle,hl,hr⟩:=h;cases hc;subst hn;refine ⟨ad,c,xs,rfl,hl,fun h0=>?_⟩;obtain ⟨b,o,rfl,_,hcell⟩:=hr (by intro q;subst q;simp at h0);exact ⟨_,rfl,fun j u hj=>by rw [lG];exact hcell j u hj⟩
theorem XX.le {p q:Bool} (hpq:p=true→q=true) (b:Nat) (hx:XX w0 w φ hp p b):XX w0 w φ hp q b :=
 ⟨hx.1,hx.2.1,Bs.see_up hpq hx.2.2⟩
theorem Mj (h:Ok w0 N φ tm hp a w) {e:Ty} {s:AV} {ps:Value} {ls:List e.d} {q:Bool} (hq:taint1 hp s=true→q=true) (hg:getSl hp e s=some ls) (hsv:dC w (XX w0 w φ hp) N φ s ps) :
 ∃ ad c ys,ps = .slice ad ls.length c∧n9 (Rd w (XX w0 w φ hp q) e) ls ys∧(0<ls.length→∃ x,ad=some x∧∀ j u,ys[j]?=some u→w.cell? (x.add j)=some u):=by
 have own:∀ r p (l:List e.d),oJ w (XX w0 w φ hp) N φ w0.mine r p e l→(p=true→q=true) →
  ∃ ad c ys,(φ r).v = .slice ad l.length c∧n9 (Rd w (XX w0 w φ hp q) e) l ys∧(0<l.length→∃ x,ad=some x∧∀ j u,ys[j]?=some u→w.cell? (x.add j)=some u):=by
  intro r p l hr hpq;obtain ⟨_,_,_,_,te,xs,ho,hl⟩:=hr;obtain ⟨ad,c,hsl,_,hgb⟩:=kc ho;refine ⟨ad,c,xs,hsl,hl.mono (XX.le hpq) (fun _ _=>rfl),fun h0=>?_⟩;obtain ⟨g,rfl,hg2⟩:=hgb h0;exact ⟨_,rfl,ho.row.cells hg2⟩
 unfold getSl at hg;split at hg
 · cases hg;cases hsv;exact ⟨none,0,[],rfl,rfl,fun h0=>absurd h0 (by simp)⟩
 · rename_i p t l';obtain ⟨he,rfl⟩:=nK hg;subst he;obtain ⟨ad,c,xs,h1,h2,h3⟩:=Jn hsv;exact ⟨ad,c,xs,h1,h2.mono (XX.le fun e=>hq e) (fun _ _=>rfl),h3⟩
 · rename_i r;have hr:=h.rows r;obtain ⟨hN,rfl,_⟩:=hsv;split at hg
   · rename_i p t l' hrow;rw [hrow] at hr;obtain ⟨he,rfl⟩:=nK hg;subst he;exact own r p l' hr fun e=>hq (by simp [taint1,hrow,e])
   · rename_i p t l' hrow;rw [hrow] at hr;obtain ⟨he,rfl⟩:=nK hg;subst he;exact own r p l' hr.1 fun e=>hq (by simp [taint1,hrow,e])
   · cases hg
 · cases hg
theorem J1 (h:Ok w0 N φ tm hp a w) (hP:cX P tb=true) {t ty:Nat} {e:Ty} {d s v:AV} {pd ps:Value} {us:kO} {id:Nat} {dst:Option Nat} (he:sW tb t=some e) (hid:¬ N id)
 (hs:kh e hp id d s (fun v us=>some (v,us))=some (v,us)) (hd:dC w (XX w0 w φ hp) N φ d pd) (hsv:dC w (XX w0 w φ hp) N φ s ps) :
 ∃ u w',(Builtin.append_ #[t,t] ty #[pd,ps]).run P w = .ok u w'∧pZ w0 N φ tm hp dst v us id (id+1) (a.put dst u) w':=by
 obtain ⟨te,hu,hsz,hpl,i,dd,z,ht⟩:=ve hP he;have hzl:z.cells.size=e.size:=by have:=(nR (w:=w) (X:=fun _=>True) ht.zeroOk hpl).len;simpa using this
 have hB:=h.below.size;unfold kh at hs;cases hg:getSl hp e s with
 | none=>rw [hg] at hs;cases hs
 | some ls =>
  rw [hg] at hs;simp only [] at hs;have key:∀ (kill:Option Nat) (p:Bool) (ld:List e.d) (te0:TypeId) (xs:List Value),mF w w0.mine te0 e.size pd ld.length xs→n9 (Rd w (XX w0 w φ hp p) e) ld xs →
   (∀ b,pd.ownBlock=some b→∃ r,kill=some r∧bO φ r (hp r)=some b)→(∀ r,kill=some r→N r)→B2 e.bytes (ld.length+ls.length)=true →
   ∃ u w' φ',(Builtin.append_ #[t,t] ty #[pd,ps]).run P w = .ok u w'∧(∀ r,N r→φ' r=φ r)∧(φ' id).v=u∧(∃ ad n c,u = .slice ad n c) ∧
    Ok w0 (fun r=>N r∨(id≤r∧r<id+1)) φ' tm (l_ (qO hp kill) id (.own (p||(Dk e&&taint hp [s])) e (ld++ls))) a w':=by
   intro kill p ld te0 xs ho hl hkill hkN hroom;have hq:∀ b,XX w0 w φ hp p b→XX w0 w φ hp (p||(Dk e&&taint hp [s])) b:=XX.le fun e=>by rw [e];rfl
   obtain ⟨ad,c,ys,rfl,hel,hcell⟩:=Mj h (q:=p||taint hp [s]) (fun e=>by simp [taint,e]) hg hsv;have hel:n9 (Rd w (XX w0 w φ hp (p||(Dk e&&taint hp [s]))) e) ls ys:=by
    cases ht:Dk e with
    | true=>rw [Bool.true_and];exact hel
    | false=>exact hel.imp fun _ _ _ q=>q.anyX (u9 ht)
   have hyl:=hel.length (fun x d q=>q.len);have h1:=hel.all (p:=fun u=>u.oneCell'=true) (fun x d q=>q.flat);simp only [B2,Bool.and_eq_true,decide_eq_true_eq] at hroom;have hm:ld.length+ls.length≤maxLen:=by unfold maxLen;omega
   have hby:(ld.length+ls.length)*i.bytes≤140737488355328:=Nat.le_trans (Nat.mul_le_mul_left _ (Nat.le_of_eq ht.bytes)) hroom.1;obtain ⟨u,w',te',g1,g2,g3,g4⟩:=Ae (P:=P) (w:=w) 0 t ty te te0 i z e.size i.bytes hu ht.info ht.zero ht.size rfl hzl hsz pd ld.length xs ho.row ad ls.length c ys hyl hcell h1 hm hby (Nat.zero_le _);have g2':mF w' w0.mine te' e.size u (ld++ls).length (xs++ys):=by
    rw [List.length_append];refine mF.of g2 fun b hb=>?_
    rcases g4 b hb with q | q
    · exact (ho.lt b q).1
    · exact Or.inl (Nat.le_trans hB q)
   obtain ⟨φ',e1,e2,e3⟩:=h.grow hid kill pd u w' (p||(Dk e&&taint hp [s])) e (ld++ls) te' (xs++ys) hkill hkN g3 g2' (n9.append (hl.mono hq (fun _ _=>rfl)) hel) g4;obtain ⟨ad',c',hsl,_⟩:=kc g2';exact ⟨u,w',φ',g1,e2,e1,⟨_,_,_,hsl⟩,e3⟩
  split at hs
  · rename_i e';obtain ⟨hroom,hs1⟩:=aM hs;cases hs1;cases hd;obtain ⟨u,w',φ',g1,g2,g3,g4,g5⟩:=key none false [] te [] (mF.nil) rfl (fun b hb=>by cases hb) (fun r hr=>by cases hr) (by simpa using hroom);refine ⟨u,w',g1,φ',g2,?_⟩;have:=g5.put dst (v := .ref id) (u:=u) ⟨Or.inr ⟨Nat.le_refl _,Nat.lt_succ_self _⟩,g3.symm,g4⟩;exact this
  · rename_i r;split at hs
    · rename_i p t' l hrow;cases hc:zA t' e l with
      | none=>rw [hc] at hs;cases hs
      | some ld =>rw [hc] at hs;obtain ⟨hroom,hs1⟩:=aM hs;cases hs1;obtain ⟨hte,rfl⟩:=nK hc;subst hte;have hr:=h.rows r;rw [hrow] at hr;obtain ⟨hN,rfl,_⟩:=hd;obtain ⟨_,_,_,_,te0,xs,ho,hl⟩:=hr;obtain ⟨u,w',φ',g1,g2,g3,g4,g5⟩:=key (some r) p l te0 xs ho hl (fun b hb=>⟨r,rfl,by rw [hrow];exact hb⟩) (fun r' hr'=>by cases hr';exact hN) hroom;refine ⟨u,w',g1,φ',g2,?_⟩;exact g5.put dst (v := .ref id) (u:=u) ⟨Or.inr ⟨Nat.le_refl _,Nat.lt_succ_self _⟩,g3.symm,g4⟩
    · cases hs
  · cases hs
theorem vD {u:Ty} {y:u.d}:∀ (t:Ty) {x z:t.d} {off:Nat},oQ u y t x off=some z→u.rows≤t.rows
 | .bool,x,z,off,h=>by simp only [oQ] at h;obtain ⟨_,h⟩:=aM h;obtain ⟨he,_⟩:=oN h;subst he;exact Nat.le_refl _
 | .int _,x,z,off,h=>by simp only [oQ] at h;obtain ⟨_,h⟩:=aM h;obtain ⟨he,_⟩:=oN h;subst he;exact Nat.le_refl _
 | .str,x,z,off,h=>by simp only [oQ] at h;obtain ⟨_,h⟩:=aM h;obtain ⟨he,_⟩:=oN h;subst he;exact Nat.le_refl _
 | .slice _,x,z,off,h=>by simp only [oQ] at h;obtain ⟨_,h⟩:=aM h;obtain ⟨he,_⟩:=oN h;subst he;exact Nat.le_refl _
 | .unit,x,z,off,h=>by simp only [oQ] at h;obtain ⟨_,h⟩:=aM h;obtain ⟨he,_⟩:=oN h;subst he;exact Nat.le_refl _
 | .opq,x,z,off,h=>by simp only [oQ] at h;obtain ⟨_,h⟩:=aM h;obtain ⟨he,_⟩:=oN h;subst he;exact Nat.le_refl _
 | .pair a b,x,z,off,h=>by
  simp only [oQ] at h;split at h
  · rename_i he;subst he;exact Nat.le_refl _
  · cases hb:Nat.blt off a.size with
    | true =>
     rw [hb,cond_true] at h;split at h
     · rename_i z' hz;have:=vD a hz;simp only [Ty.rows];omega
     · cases h
    | false =>
     rw [hb,cond_false] at h;split at h
     · rename_i z' hz;have:=vD b hz;simp only [Ty.rows];omega
     · cases h
theorem LH (h:Ok w0 N φ tm hp a w) {t:Nat} {u:Ty} {i:TypeInfo} {d:TypeDesc} {z:Value} (ht:j4 P tb t u i d z) {x v:AV} {px pv:Value} {us:kO}
 (hs:m_ hp u x v some=some us) (hx:dC w (XX w0 w φ hp) N φ x px) (hv:dC w (XX w0 w φ hp) N φ v pv) :
 ∃ w',(Instr.storeAt t px pv).run P w = .ok () w'∧Ok w0 N φ tm (apply hp us) a w':=by
 unfold m_ at hs;obtain ⟨hc,hs1⟩:=aM hs;simp only [Bool.and_eq_true] at hc;obtain ⟨htold,hlen⟩:=hc;have hlen:=Nat.eq_of_beq_eq_true hlen;split at hs1
 · rename_i r i' off;split at hs1
   · rename_i cs hrow;obtain ⟨hle,hs2⟩:=aM hs1;cases hs2;exact J8 h ht hrow hx hv htold hlen (Nat.le_of_ble_eq_true hle)
   · rename_i p e l hrow;obtain ⟨hnr,hs2⟩:=rW hs1;cases hp1:prj hp u (cellsOf v) with
     | none=>rw [hp1] at hs2;cases hs2
     | some y =>
      rw [hp1] at hs2;simp only [] at hs2;cases hz:oQ u y e (l.getD i' e.z) off with
      | none=>rw [hz] at hs2;cases hs2
      | some zz =>
       rw [hz] at hs2;cases hs2;have hf:=ji hp (cellsOf v);obtain ⟨heq,hmem⟩:=hf.eq;have h1:=h.freeze _ hf;have hrow1:apply hp (freeze hp (cellsOf v)) r = .own p e l:=by
        rw [nj _ ?_]
        · exact hrow
        · intro q;obtain ⟨y',hy',rfl⟩:=List.mem_map.1 q;have:=lh hp (r:=y'.1) (x:=y'.2) hy';have hm:kW (cN (cellsOf v)) y'.1=true:=by
           have:∀ (l:List Nat) (n:Nat),n ∈ l→kW l n=true:=by
            intro l n
            induction l with
            | nil=>intro q;cases q
            | cons m l ih =>
             intro q;simp only [kW];rcases List.mem_cons.1 q with q | q
             · subst q;simp
             · cases Nat.beq m n <;> simp [ih q]
           exact this _ _ (lh hp hy')
          rw [hm] at hnr;cases hnr
       have hrep:∀ {av:AV} {pv:Value},dC w (XX w0 w φ hp) N φ av pv→dC w (XX w0 w φ (apply hp (freeze hp (cellsOf v)))) N φ av pv:=fun hq=>by
        refine dC.mono (fun p b hx=>hx.mono (Nat.le_refl _) (fun b _ ⟨s,hs⟩=>⟨s,?_⟩)) (fun _ _ _=>rfl) (fun _ q=>q) (fun _ _=>rfl) hq;rcases heq s with g | ⟨p',e',l',g1,g2⟩
        · rw [g] at hs;exact hs
        · rw [g2] at hs;cases hs
       have hpr:prj (apply hp (freeze hp (cellsOf v))) u (cellsOf v)=some y:=by rw [heq.prj];exact hp1
       have hy:=nA h1 u (rK h1 (q:=taint hp (cellsOf v)) (fun c hc e=>by rw [← heq.taint];exact we hc e) (fun r' p' e' l' hc hq=>by
        rcases heq r' with g | ⟨p2,e2,l2,g1,g2⟩
        · have:=hmem r' _ (nu hp hc (by rw [← g];exact hq));rw [this] at hq;cases hq
        · rw [g2] at hq;cases hq)) hpr (hrep hv |> fun q=>kZ q htold)
       have hy:Rd w (XX w0 w φ (apply hp (freeze hp (cellsOf v))) (Dk e&&taint hp (cellsOf v))) u y pv.cells.toList:=by
        cases ht:Dk e with
        | true=>rw [Bool.true_and];exact hy
        | false=>exact hy.anyX (Nat.le_zero.1 (Nat.le_trans (vD e hz) (Nat.le_of_eq (u9 ht))))
       obtain ⟨w',g1,g2⟩:=JH h1 ht hrow1 (hrep hx) hy hz;refine ⟨w',g1,?_⟩;have happ:∀ (us0:kO) (hp:Hp) (us1:kO),apply hp (us0++us1)=apply (apply hp us0) us1:=by
        intro us0
        induction us0 with
        | nil=>intro hp us1;rfl
        | cons u us0 ih=>intro hp us1;exact ih _ _
       rw [happ];exact g2
   · cases hs1
 · cases hs1
end
end Go.V
end
section
namespace Go.V
open Go.RowKit
section
variable {P:Program} {tb:mh} {ct:List (Nat × Cn)} {w0:Bs} {w:World} {N:Nat→Prop} {φ:Nat→jF} {tm:List AV} {hp:Hp} {a:Act} {Q:Exit→Act→World→Prop}
theorem Iq (hP:cX P tb=true) {X:Bool→Nat→Prop} {s f n:Nat} {u:Ty} (hn:Bm tb s f=some n) (hf:CQ tb s f=some u) {cs:List AV} {v:Value} (hv:dC w X N φ (.agg cs) v) (hle:n+u.size≤cs.length) :
 ∃ y,(Instr.field s v f).run P w = .ok y w∧dC w X N φ (kR u ((cs.drop n).take u.size)) y:=by
 unfold Bm at hn;unfold CQ at hf;cases h1:look tb.off s with
 | none=>rw [h1] at hn;cases hn
 | some offs =>
  cases h2:look tb.fty s with
  | none=>rw [h2] at hf;cases hf
  | some ts =>
   rw [h1] at hn;rw [h2] at hf;simp only [] at hn hf;cases h3:offs[f]? with
   | none=>rw [h3] at hn;cases hn
   | some p =>
    cases h4:ts[f]? with
    | none=>rw [h4] at hf;cases hf
    | some t =>
     rw [h3] at hn;rw [h4] at hf;simp only [Option.some.injEq] at hn hf;obtain ⟨fs,e1,_,e2⟩:=tv hP h1;obtain ⟨fs',e3,e4⟩:=Cw hP h2;rw [e1] at e3;cases e3;obtain ⟨_,fd,i,g1,g2,g3,g4⟩:=e2 f p h3;have ht:fd.type=t:=by have:=congrArg (fun l=>l[f]?) e4;simp only [List.getElem?_map] at this;rw [h4,show fs.toList[f]?=some fd by simpa using g1] at this;simpa using this
     obtain ⟨i',d,z,htf⟩:=jd hP hf;unfold dC at hv;obtain ⟨vs,rfl,hr⟩:=hv;have hl:=hr.len;have hsub:cV w X N φ ((cs.drop n).take u.size) ((vs.drop n).take u.size):=(hr.drop n).take u.size;have hsl:((cs.drop n).take u.size).length=u.size:=by simp;omega
     have key:=m5 hsub hsl;refine ⟨_,?_,key⟩;have e5:(Instr.field s (.agg vs.toArray) f).run P w=(part t vs.toArray n).run P w:=by simp [Instr.field,run_underlying e1,g1,asAgg,ht,g2,hn]
     rw [e5];unfold part;rw [Sem.run_bind,htf.run_isAgg,Result.andThen_ok];unfold mj;cases ha:u.agg with
     | true =>simp only [if_true];rw [Sem.run_bind,htf.run_sizeOf,Result.andThen_ok,Sem.run_pure];congr 2;apply Array.ext';simp [List.drop_take,Nat.add_sub_cancel_left,List.extract_eq_take_drop]
     | false =>
      have h1':u.size=1:=by cases u <;> simp_all [Ty.agg,Ty.size]
      simp only [Bool.false_eq_true,if_false];have hlt:n<vs.length:=by omega
      have:vs.toArray[n]?=some vs[n]:=by simp [hlt]
      rw [this];simp only [Sem.run_pure];congr 1;rw [h1'];have:vs.drop n=vs[n]::vs.drop (n+1):=List.drop_eq_getElem_cons hlt;rw [this];rfl
theorem yb (h:Ok w0 N φ tm hp a w) {hp0:Hp} (hf:BF hp0 hp) {e:Ty} {b:Bool} {ρ:Operand→AV} {ρv:Operand→Value} (hρ:∀ x,dC w (XX w0 w φ hp) N φ (ρ x) (ρv x)) (h0:0<e.size) :
 ∀ (ps:List (Nat × Operand)) {l0 l:List e.d} {b0:Bool},elems hp0 e ρ ps l0 b0=some (l,b)→(∀ p ∈ ps,∀ r p' e' l',AV.ref r ∈ cellsOf (ρ p.2)→hp r ≠ .own p' e' l') →
  (b0=true→b=true)∧l.length=l0.length∧∀ cells:Array Value,n9 (Rd w (XX w0 w φ hp b) e) l0 cells.toList→∃ cells',Instr.fill (fun i=>some (i*e.size,e.size)) cells (ps.map fun p=>(p.1,ρv p.2))=some cells'∧n9 (Rd w (XX w0 w φ hp b) e) l cells'.toList
 | [],l0,l,b0,hs,_=>by simp only [elems,Option.some.injEq,Prod.mk.injEq] at hs;obtain ⟨rfl,rfl⟩:=hs;exact ⟨fun q=>q,rfl,fun cells hc=>⟨cells,rfl,hc⟩⟩
 | (i,x)::ps,l0,l,b0,hs,hno=>by
  simp only [elems] at hs;cases hp1:prj hp0 e (cellsOf (ρ x)) with
  | none=>rw [hp1] at hs;cases hs
  | some y =>
   rw [hp1] at hs;obtain ⟨hc,hs⟩:=aM hs;simp only [Bool.and_eq_true] at hc;obtain ⟨htold,hlt⟩:=hc;have hlt:i<l0.length:=Nat.lt_of_succ_le (Nat.le_of_ble_eq_true hlt);obtain ⟨ih1,ih2,ih3⟩:=yb h hf hρ h0 ps hs (fun p hp'=>hno p (List.mem_cons_of_mem _ hp'));have hb0:b0=true→b=true:=fun q=>ih1 (by rw [q];rfl)
   have hbt:Dk e=true→taint hp0 (cellsOf (ρ x))=true→b=true:=fun qe q=>ih1 (by rw [q,qe];cases b0 <;> rfl)
   refine ⟨hb0,by rw [ih2,List.length_set],fun cells hcell=>?_⟩;have hcr:=kZ (hρ x) htold;have hrd:Rd w (XX w0 w φ hp b) e y (ρv x).cells.toList:=by
    cases hte:Dk e with
    | true=>exact nA h e (rK h (q:=b) (fun c hc' ht=>hbt hte (by rw [← hf.taint];exact we hc' ht)) (fun r p' e' l' hm=>hno (i,x) (List.mem_cons_self ..) r p' e' l' hm)) (by rw [hf.prj];exact hp1) hcr
    | false=>exact (nA h e (rK h (q:=true) (fun _ _ _=>rfl) (fun r p' e' l' hm=>hno (i,x) (List.mem_cons_self ..) r p' e' l' hm)) (by rw [hf.prj];exact hp1) hcr).anyX (u9 hte)
   have hl:=hrd.len;have hcl:=hcell.length (fun x d q=>q.len);have hmul:i*e.size+e.size≤l0.length*e.size:=by rw [← Nat.succ_mul];exact Nat.mul_le_mul_right _ hlt
   have hle:i*e.size+(ρv x).cells.size≤cells.size:=by
    have h1:(ρv x).cells.size=e.size:=by simpa using hl
    have h2:cells.size=l0.length*e.size:=by simpa using hcl
    omega
   have hset:=n9.set (R:=Rd w (XX w0 w φ hp b) e) (fun x d q=>q.len) i y _ hlt hcell hrd;obtain ⟨cells',g1,g2⟩:=ih3 (((ρv x).cells.zipIdx.foldl (fun cs (c,j)=>cs.setIfInBounds (i*e.size+j) c) cells)) (by
    rw [BS _ _ _ hle];have h1:(ρv x).cells.size=e.size:=by simpa using hl
    rw [h1];exact hset)
   refine ⟨cells',?_,g2⟩;simp only [List.map_cons,Instr.fill];rw [if_neg]
   · exact g1
   · have h1:(ρv x).cells.size=e.size:=by simpa using hl
     simp [h1];have h2:cells.size=l0.length*e.size:=by simpa using hcl
     omega
theorem vk (h:Ok w0 N φ tm hp a w) (hP:cX P tb=true) {t n:Nat} {e:Ty} {l:List e.d} {b:Bool} {id:Nat} {dst:Option Nat} {ps:Array (Nat × Operand)} (he:sW tb t=some e) (hid:¬ N id)
 (hs:elems hp e (val tb tm 0) ps.toList (List.replicate n e.z) false=some (l,b)) (hn:n≤100000) (hmul:n*e.size≤16777216) :
 ∃ u w',(Instr.buildSlice t n (ps.map fun (i,x)=>(i,a.eval x))).run P w = .ok u w'∧pZ w0 N φ tm hp dst (.ref id) (freeze hp (ps.toList.flatMap fun p=>cellsOf (val tb tm 0 p.2))++[(id,.own b e l)]) id (id+1) (a.put dst u) w':=by
 obtain ⟨te,hu,hsz,hpl,i,dd,z,ht⟩:=ve hP he;have hzr:=fun X=>nR (w:=w) (X:=X) ht.zeroOk hpl
 have hzl:z.cells.size=e.size:=by simpa using (hzr (fun _=>True)).len
 have hf:=ji hp (ps.toList.flatMap fun p=>cellsOf (val tb tm 0 p.2));obtain ⟨heq,hmem⟩:=hf.eq;have h1:=h.freeze _ hf;have hno:∀ p ∈ ps.toList,∀ r p' e' l',AV.ref r ∈ cellsOf (val tb tm 0 p.2)→apply hp (freeze hp (ps.toList.flatMap fun p=>cellsOf (val tb tm 0 p.2))) r ≠ .own p' e' l':=by
  intro p hp' r p' e' l' hm hq;rcases heq r with g | ⟨p2,e2,l2,g1,g2⟩
  · rw [g] at hq;have:=hmem r _ (nu hp (List.mem_flatMap.2 ⟨p,hp',hm⟩) hq);rw [g,hq] at this;cases this
  · rw [g2] at hq;cases hq
 obtain ⟨_,e1,e2⟩:=yb h1 heq (fun x=>h1.val (tb:=tb) 0 x) hsz ps.toList hs hno;have hsz':i.size=e.size:=ht.size;obtain ⟨cells,g1,g2⟩:=e2 (madeCells z.cells (n*e.size)) (DX (e:=e) (z:=z.cells) (hzr _) hsz n);have hlen:l.length=n:=by rw [e1,List.length_replicate]
 have hrun:(Instr.buildSlice t n (ps.map fun (i,x)=>(i,a.eval x))).run P w = .ok (.slice (some ⟨w.heap.size,0,none⟩) n n) (w.alloc (.cells cells te)):=by
  have hmade:(Array.range (n*e.size)).map (z.cells[· % z.cells.size]!)=madeCells z.cells (n*e.size):=rfl;have hbig:¬ (16777216<n*e.size):=by omega
  have hfill:Instr.fill (fun i=>some (i*e.size,e.size)) (madeCells z.cells (n*e.size)) (List.map (fun x=>(x.fst,a.eval x.snd)) ps.toList)=some cells:=g1;by_cases hn0:n*e.size=0
  · have hm0:madeCells z.cells (n*e.size)=#[]:=by rw [hn0];simp [madeCells,Array.range_zero']
    rw [hm0] at hfill;simp [Instr.buildSlice,run_underlying hu,sizeOf,typeInfo,ht.info,hsz',hn0,newRow,Array.range_zero',hfill]
  · simp [Instr.buildSlice,run_underlying hu,sizeOf,typeInfo,ht.info,hsz',hbig,hn0,zeroValue,ht.zero,newRow,hmade,hfill]
 refine ⟨_,_,hrun,?_⟩;refine pZ.weaken _ rfl ?_;exact BV h1 hid te n hlen.symm (by unfold maxLen;omega) g2
theorem M6 (h:Ok w0 N φ tm hp a w) (hP:cX P tb=true) (hC:∀ f c,look ct f=some c→zn w0 P (f % 100000) c) {o:Oper} {v:AV} {us:kO} {id nx:Nat}
 (hs:fW tb ct o tm hp id (fun v us nx=>some (v,us,nx))=some (v,us,nx)) (hid:∀ r,id≤r→r<nx→¬ N r) {c:Call} (hop:o.op = .call c):o.wp P a w (pZ w0 N φ tm hp o.dst v us id nx) Q:=by
 have V:=fun t x=>h.val (tb:=tb) t x
 simp only [fW,hop] at hs;split at hs
 · rename_i hc;split at hs
   · rename_i x t ha ht;rw [rV] at hs;cases hl:lenOf ((look tb.ty t).getD .opq) hp (val tb tm t x) some with
     | none=>rw [hl] at hs;cases hs
     | some z =>rw [hl] at hs;cases hs;obtain ⟨q,g1,g2⟩:=Mx h hP (ty:=o.type) hl (V t x);have ha:c.args=#[x]:=Array.ext' (by simpa using ha);have ht:c.argTypes=#[t]:=Array.ext' (by simpa using ht);exact iC h (fD (s:=Builtin.len_ #[t] o.type #[a.eval x]) (by simp [execOp,hop,resolve,hc,invoke,builtin,ha,ht]) g1) g2
   · cases hs
 · rename_i hc;split at hs
   · rename_i d s t t' ha ht;split at hs
     · rename_i e he;cases hb:Nat.beq t t' with
       | false=>rw [hb] at hs;cases hs
       | true =>
       rw [hb,cond_true] at hs;have htt:=Nat.eq_of_beq_eq_true hb;subst htt;rw [jM] at hs;cases hl:kh e hp id (val tb tm t d) (val tb tm t s) (fun v us=>some (v,us)) with
       | none=>rw [hl] at hs;cases hs
       | some z =>obtain ⟨z1,z2⟩:=z;rw [hl] at hs;cases hs;obtain ⟨u,w',g1,g2⟩:=J1 h hP (ty:=o.type) (dst:=o.dst) he (hid _ (Nat.le_refl _) (Nat.lt_succ_self _)) hl (V t d) (V t s);have ha:c.args=#[d,s]:=Array.ext' (by simpa using ha);have ht:c.argTypes=#[t,t]:=Array.ext' (by simpa using ht);exact pN (fD (s:=Builtin.append_ #[t,t] o.type #[a.eval d,a.eval s]) (by simp [execOp,hop,resolve,hc,invoke,builtin,ha,ht]) g1) g2
     · cases hs
   · cases hs
 · rename_i hc;split at hs
   · rename_i z hz;cases hs;have hr:=tD (w:=w) (X:=XX w0 w φ hp) (N:=N) (φ:=φ) (f:=val tb tm 0) (g:=a.eval) (V 0) c.args.toList;obtain ⟨y,g1,g2⟩:=Np (P:=P) (t:=0) (u:=o.type) hz (vs:=c.args.map a.eval) (by rw [Array.toList_map];exact hr) c.argTypes;exact iC h (fD (s:=Builtin.max_ c.argTypes o.type (c.args.map a.eval)) (by simp [execOp,hop,resolve,hc,invoke,builtin]) g1) g2
   · cases hs
 · rename_i hc;split at hs
   · rename_i z hz;cases hs;have hr:=tD (w:=w) (X:=XX w0 w φ hp) (N:=N) (φ:=φ) (f:=val tb tm 0) (g:=a.eval) (V 0) c.args.toList;obtain ⟨y,g1,g2⟩:=Ny (P:=P) (t:=0) (u:=o.type) hz (vs:=c.args.map a.eval) (by rw [Array.toList_map];exact hr) c.argTypes;exact iC h (fD (s:=Builtin.min_ c.argTypes o.type (c.args.map a.eval)) (by simp [execOp,hop,resolve,hc,invoke,builtin]) g1) g2
   · cases hs
 · rename_i x hc;split at hs
   · rename_i q hq;unfold qx at hq;split at hq
     · rename_i f cs hfv;obtain ⟨hlt,hq⟩:=aM hq;split at hq
       · rename_i cn hcn;cases hq;have hlt:f<100000:=by simpa using hlt
         have hctr:=hC _ cn hcn;rw [show ∀ o,(f+100000*o) % 100000=f from fun o=>by omega] at hctr;have hfn:=V 0 x;rw [hfv] at hfn;unfold dC at hfn;obtain ⟨ws,hw,hws⟩:=hfn;have hrep:=tD (w:=w) (X:=XX w0 w φ hp) (N:=N) (φ:=φ) (f:=val tb tm 0) (g:=a.eval) (V 0) c.args.toList;have hcalls:=Jp h hctr hs (hrep.append hws) hid;have hrun:(execOp a.eval o).run P w = .ok (.enter f (c.args.map a.eval++ws.toArray)) w:=by have:=hctr.enters w (c.args.map a.eval++ws.toArray);simp only [execOp,hop,resolve,hc,hw,Deferred.ofValue,pure_bind,invoke,Array.empty_append];exact this
         unfold Oper.wp;rw [hrun,Oper.upon_enter];rw [show (c.args.toList.map a.eval++ws).toArray=c.args.map a.eval++ws.toArray from Array.ext' (by simp)] at hcalls;refine hcalls.mono fun e w' he=>?_
         obtain ⟨u,rfl,φ',e1,hok,hu⟩:=he;exact ⟨φ',e1,hok.put o.dst hu⟩
       · cases hq
     · cases hq
   · cases hs
 · cases hs
set_option maxHeartbeats 4000000 in
theorem MG (h:Ok w0 N φ tm hp a w) (hP:cX P tb=true) (hE:BD P tb) (hC:∀ f c,look ct f=some c→zn w0 P (f % 100000) c) {o:Oper} {v:AV} {us:kO} {id nx:Nat}
 (hs:fW tb ct o tm hp id (fun v us nx=>some (v,us,nx))=some (v,us,nx)) (hid:∀ r,id≤r→r<nx→¬ N r):o.wp P a w (pZ w0 N φ tm hp o.dst v us id nx) Q:=by
 have V:=fun t x=>h.val (tb:=tb) t x
 cases hop:o.op with
 | move x =>simp only [fW,hop] at hs;cases hs;exact iC h (by simp [execOp,hop]) (V _ x)
 | assign x =>simp only [fW,hop] at hs;cases hs;exact iC h (by simp [execOp,hop]) (V _ x)
 | pick c x y =>
  simp only [fW,hop] at hs;split at hs
  · rename_i b hb;have hc:=V o.type c;rw [hb] at hc;have hc:a.eval c = .bool b:=hc;cases b with
    | true =>cases hs;exact iC h (by simp [execOp,hop,hc,asBool]) (V _ x)
    | false =>cases hs;exact iC h (by simp [execOp,hop,hc,asBool]) (V _ y)
  · cases hs
 | box t x =>
  simp only [fW,hop] at hs;split at hs
  · rename_i u hu;obtain ⟨hc,hs⟩:=aM hs;cases hs;simp only [Bool.and_eq_true] at hc;have hx:=kZ (V t x) hc.1;exact pN (fD (s:=Instr.box t (a.eval x)) (by simp only [execOp,hop]) (by simp [Instr.box,zU])) (Bw h (hid _ (Nat.le_refl _) (Nat.lt_succ_self _)) t hx)
  · cases hs
 | alloc t =>
  simp only [fW,hop] at hs;split at hs
  · rename_i u hu;cases hs;obtain ⟨i,d,z,ht⟩:=jd hP hu;exact pN (fD (s:=Instr.alloc t true (.tuple #[])) (by simp only [execOp,hop]) (by simp [Instr.alloc,zeroValue,typeInfo,ht.info,ht.zero,zU])) (Bw h (hid _ (Nat.le_refl _) (Nat.lt_succ_self _)) t (mN ht.zeroOk))
  · cases hs
 | build t ps =>
  simp only [fW,hop] at hs;split at hs
  · rename_i u offs hu ho;split at hs
    · rename_i cs hcs;cases hs;obtain ⟨y,g1,g2⟩:=HE hP (V 0) hu ho hcs;exact iC h (fD (s:=Instr.build t (ps.map fun (i,x)=>(i,a.eval x))) (by simp only [execOp,hop]) g1) g2
    · cases hs
  · rename_i u hu ho;split at hs
    · rename_i m hm;obtain ⟨c1,hs⟩:=aM hs;cases hs;obtain ⟨y,g1,g2⟩:=H7 (X:=XX w0 w φ hp) (ρv:=a.eval) hP hu hm c1;exact iC h (fD (s:=Instr.build t (ps.map fun (i,x)=>(i,a.eval x))) (by simp only [execOp,hop]) g1) g2
    · cases hs
  · cases hs
 | buildSlice t n ps =>
  simp only [fW,hop] at hs;split at hs
  · rename_i e he;split at hs
    · rename_i l b hl;obtain ⟨hc,hs⟩:=aM hs;simp only [Bool.and_eq_true] at hc;cases hs;obtain ⟨u,w',g1,g2⟩:=vk h hP he (hid _ (Nat.le_refl _) (Nat.lt_succ_self _)) hl (Nat.le_of_ble_eq_true hc.1) (Nat.le_of_ble_eq_true hc.2);exact pN (fD (s:=Instr.buildSlice t n (ps.map fun (i,x)=>(i,a.eval x))) (by simp only [execOp,hop]) g1) g2
    · cases hs
  · cases hs
 | load t x =>
  simp only [fW,hop] at hs;split at hs
  · rename_i u hu;obtain ⟨i,d,z,ht⟩:=jd hP hu;rw [yM] at hs;cases hl:ld hp u (val tb tm 0 x) some with
    | none=>rw [hl] at hs;cases hs
    | some y =>rw [hl] at hs;cases hs;obtain ⟨q,g1,g2⟩:=ME h ht hl (V 0 x);exact iC h (fD (s:=Instr.loadAt t (a.eval x)) (by simp only [execOp,hop]) g1) g2
  · cases hs
 | store t x y =>
  simp only [fW,hop] at hs;split at hs
  · rename_i u hu;obtain ⟨i,d,z,ht⟩:=jd hP hu;rw [lu] at hs;cases hl:m_ hp u (val tb tm 0 x) (val tb tm t y) some with
    | none=>rw [hl] at hs;cases hs
    | some us' =>
     rw [hl] at hs;cases hs;obtain ⟨w',g1,g2⟩:=LH h ht hl (V 0 x) (V t y);refine Jt (w':=w') (by simp [execOp,hop,g1]) ⟨φ,fun _ _=>rfl,?_⟩;have e:(fun r=>N r∨(id≤r∧r<id))=N:=funext fun r=>propext ⟨fun q=>q.elim (fun q=>q) (fun q=>by omega),Or.inl⟩
     rw [e];exact g2.put o.dst (v := .junk) trivial
  · cases hs
 | nilCheck x =>
  simp only [fW,hop] at hs;have hx:=V 0 x;split at hs
  · rename_i r i f hv;rw [hv] at hx;cases hs;have hx':=hx;obtain ⟨_,_,e⟩:=hx';exact iC h (u:=a.eval x) (by simp [execOp,hop,e]) hx
  · rename_i p e l i f hv;rw [hv] at hx;cases hs;have hx':=hx;obtain ⟨_,b,o',xs,e',_⟩:=hx';exact iC h (u:=a.eval x) (by simp [execOp,hop,e']) hx
  · cases hs
 | binOp op t x y u =>
  simp only [fW,hop] at hs;rw [rr] at hs;cases hl:qK (DF (look tb.ty t)) (look tb.eqs t) op (val tb tm t x) (val tb tm u y) some with
  | none=>rw [hl] at hs;cases hs
  | some z =>rw [hl] at hs;cases hs;obtain ⟨q,g1,g2⟩:=Jw hP hE hl (V t x) (V u y) x y;exact iC h (fD (s:=do eqGuard op t x y (a.eval x) (a.eval y);binOp op t (a.eval x) (a.eval y)) (by simp only [execOp,hop]) g1) g2
 | unOp op t x =>
  simp only [fW,hop] at hs;rw [tu] at hs;cases hl:HL op (val tb tm t x) some with
  | none=>rw [hl] at hs;cases hs
  | some z =>rw [hl] at hs;cases hs;obtain ⟨q,g1,g2⟩:=Ll hl (V t x);exact iC h (fD (s:=Op.unary op (a.eval x)) (by simp only [execOp,hop]) g1) g2
 | convert s d x =>
  simp only [fW,hop] at hs;have hx:=V s x;split at hs
  · rename_i kd T k n hd hsT hv;obtain ⟨_,_,_,h1⟩:=jd hP hd;obtain ⟨_,_,_,h2⟩:=jd hP hsT;rw [hv] at hx;have hx:a.eval x = .int k n:=hx;cases hs;exact iC h (fD (s:=convert s d (a.eval x)) (by simp only [execOp,hop]) (by rw [hx];exact yD h2.under h1.intU)) rfl
  · rename_i T y hd hsT hv;obtain ⟨_,_,_,h1⟩:=jd hP hd;obtain ⟨_,_,_,h2⟩:=jd hP hsT;rw [hv] at hx;have hx:a.eval x = .string y:=hx;cases hs;exact iC h (fD (s:=convert s d (a.eval x)) (by simp only [execOp,hop]) (by rw [hx];exact yB h2.under h1.strU)) rfl
  · rename_i hd hsT _;obtain ⟨_,_,_,h1⟩:=jd hP hd;obtain ⟨_,_,_,h2⟩:=jd hP hsT;obtain ⟨te,hu,_,_,_,_,_,_,h3⟩:=h2.slice hP;split at hs
    · rename_i l hl;cases hs;have hrd:=FY h (Y:=fun _=>True) ⟨fun _ _ _ _=>trivial,fun _ _ _ _ _ _ _ _=>trivial⟩ hl hx;exact iC h (fD (s:=convert s d (a.eval x)) (by simp only [execOp,hop]) (wH hu h1.strU h3.intU hrd)) rfl
    · cases hs
  · cases hs
 | makeSlice t l c =>
  simp only [fW,hop] at hs;split at hs
  · rename_i e n m he hl hc;obtain ⟨c1,hs⟩:=aM hs;obtain ⟨c2,hs⟩:=aM hs;obtain ⟨c3,hs⟩:=aM hs;cases hs;have c1:=of_decide_eq_true c1;have c2:=of_decide_eq_true c2;simp only [B2,Bool.and_eq_true,decide_eq_true_eq] at c3;obtain ⟨c3,c4⟩:=c3;subst c1;obtain ⟨te,hu,hsz,hpl,i,dd,z,ht⟩:=ve hP he;have hlv:=V 0 l;have hcv:=V 0 c;rw [hl] at hlv;rw [hc] at hcv;have hlv:a.eval l = .int .i64 n:=hlv;have hcv:a.eval c = .int .i64 n:=hcv;have hby:=ht.bytes;have hb:(i.bytes:Int)*n≤281474976710656:=by
     have h1:n.toNat*i.bytes≤140737488355328:=Nat.le_trans (Nat.mul_le_mul_left _ (Nat.le_of_eq hby)) c3;have h2:((n.toNat*i.bytes:Nat):Int)=n*(i.bytes:Int):=by rw [Int.natCast_mul,Int.toNat_of_nonneg c2]
     rw [Int.mul_comm];omega
    have hr:=run_make (P:=P) w t te i z hu ht.info ht.zero .i64 .i64 n n c2 (Int.le_refl _) hb (by omega);have hzr:=fun X=>nR (w:=w) (X:=X) ht.zeroOk hpl
    have hrd:=DX (hzr (XX w0 w φ hp false)) hsz n.toNat;rw [← ht.size] at hrd;refine pN (fD (s:=Instr.makeSlice t (a.eval l) (a.eval c)) (by simp only [execOp,hop]) (by rw [hlv,hcv];exact hr)) ?_;have:=BV h (hid _ (Nat.le_refl _) (Nat.lt_succ_self _)) te n.toNat (by simp) (by unfold maxLen;omega) hrd (dst:=o.dst);exact this
  · cases hs
 | slice t x lo hi mx =>
  cases mx with
  | some _=>simp only [fW,hop] at hs;cases hs
  | none =>
   simp only [fW,hop] at hs;rw [ov] at hs;cases hl:ly ((look tb.ty t).getD .opq) hp (val tb tm t x) (lo.map (val tb tm 0)) (hi.map (val tb tm 0)) (fun v us=>some (v,us)) with
   | none=>rw [hl] at hs;cases hs
   | some z =>obtain ⟨z1,z2⟩:=z;rw [hl] at hs;cases hs;obtain ⟨hf,q,g1,g2⟩:=LG h hP hl (V t x) (yq (V 0) lo) (yq (V 0) hi);exact Io h hf (fD (s:=Instr.sliceAt t (a.eval x) (lo.map a.eval) (hi.map a.eval) (Option.map a.eval none)) (by simp only [execOp,hop]) g1) g2
 | fieldAddr s x f =>
  simp only [fW,hop] at hs;split at hs
  · rename_i n hn;rw [pu] at hs;cases hl:uk (val tb tm 0 x) n some with
    | none=>rw [hl] at hs;cases hs
    | some z =>rw [hl] at hs;cases hs;obtain ⟨b,o',e,g⟩:=IX hl (V 0 x);exact iC h (fD (s:=Instr.fieldAt s (a.eval x) f) (by simp only [execOp,hop]) (by rw [e];exact F6 hP hn b o')) g
  · cases hs
 | field s x f =>
  simp only [fW,hop] at hs;split at hs
  · rename_i n cs u hn hv hu;obtain ⟨c1,hs⟩:=aM hs;cases hs;have hx:=V s x;rw [hv] at hx;obtain ⟨q,g1,g2⟩:=Iq hP hn hu hx (Nat.le_of_ble_eq_true c1);exact iC h (fD (s:=Instr.field s (a.eval x) f) (by simp only [execOp,hop]) g1) g2
  · cases hs
 | indexAddr t x i =>
  simp only [fW,hop] at hs;rw [nL] at hs;cases hl:indexAddr tb hp t (val tb tm t x) (val tb tm 0 i) some with
  | none=>rw [hl] at hs;cases hs
  | some z =>rw [hl] at hs;cases hs;obtain ⟨q,g1,g2⟩:=E5 h hP hl (V t x) (V 0 i);exact iC h (fD (s:=Instr.indexAt t (a.eval x) (a.eval i)) (by simp only [execOp,hop]) g1) g2
 | index t x i =>
  simp only [fW,hop] at hs;split at hs
  · rename_i s k n ht hx hi;obtain ⟨c1,hs⟩:=aM hs;obtain ⟨c2,hs⟩:=aM hs;cases hs;obtain ⟨_,_,_,htf⟩:=jd hP ht;have h1:=V t x;have h2:=V 0 i;rw [hx] at h1;rw [hi] at h2;have h1:a.eval x = .string s:=h1;have h2:a.eval i = .int k n:=h2;exact iC h (fD (s:=Instr.index t (a.eval x) (a.eval i)) (by simp only [execOp,hop]) (by rw [h1,h2];exact BC htf.strU (of_decide_eq_true c1) (of_decide_eq_true c2))) rfl
  · cases hs
 | extract x i =>
  simp only [fW,hop] at hs;split at hs
  · rename_i vs hv;split at hs
    · rename_i y hy;cases hs;have hx:=V 0 x;rw [hv] at hx;unfold dC at hx;obtain ⟨us,e,hr⟩:=hx;obtain ⟨q,g1,g2⟩:=rT hr hy;exact iC h (fD (s:=Instr.extract (a.eval x) i) (by simp only [execOp,hop]) (by rw [e];simp [Instr.extract,g1])) g2
    · cases hs
  · cases hs
 | makeFunc fn first caps =>
  cases fn with
  | func f =>
   simp only [fW,hop] at hs;split at hs
   · rename_i hfst;cases hs;have hfst:first=#[]:=by simpa using hfst
     refine iC h (u := .func (.func f) #[] (caps.map a.eval)) (by simp [execOp,hop,Instr.makeFunc,hfst]) ?_;exact ⟨caps.toList.map a.eval,by rw [show (caps.toList.map a.eval).toArray=caps.map a.eval from Array.ext' (by simp)],tD (V 0) _⟩
   · cases hs
  | _=>unfold fW at hs;rw [hop] at hs;cases hs
 | call c=>exact M6 h hP hC hs hid hop
 | _=>unfold fW at hs;rw [hop] at hs;cases hs
end
end Go.V
end
section
namespace Go.V
open Go.RowKit
def s8 (us:kO):Prop:=∀ r x,(r,x) ∈ us→∀ p e l,x ≠ .fro p e l
theorem jt:s8 []:=fun r x h=>by cases h
theorem q7 {hp:Hp}:Dl hp []:=fun r x h=>by cases h
theorem q6 {p:Bool}:∀ {t:Ty} {x:t.d} {id:Nat},s8 (kg p t x id)
 | .slice _,_,id=>fun r y h p' e' l' q=>by simp only [kg,List.mem_singleton,Prod.mk.injEq] at h;rw [h.2] at q;cases q
 | .pair a b,x,id=>fun r y h=>by
  simp only [kg] at h;rcases List.mem_append.1 h with h | h
  · exact q6 r y h
  · exact q6 r y h
 | .bool,_,_=>fun r y h=>by cases h
 | .int _,_,_=>fun r y h=>by cases h
 | .str,_,_=>fun r y h=>by cases h
 | .unit,_,_=>fun r y h=>by cases h
 | .opq,_,_=>fun r y h=>by cases h
def iP (hp:Hp) (id:Nat) (us:kO) (nx:Nat):Prop:=id≤nx∧∃ us0 us1,us=us0++us1∧Dl hp us0∧s8 us1
section
variable {tb:mh} {ct:List (Nat × Cn)} {tm:List AV} {hp:Hp} {id nx:Nat} {us:kO} {v:AV}
theorem iP.nil:iP hp id [] id:=⟨Nat.le_refl _,[],[],rfl,q7,jt⟩
theorem iP.frz (h:Dl hp us):iP hp id us id:=⟨Nat.le_refl _,us,[],by simp,h,jt⟩
theorem iP.one {us0:kO} {r:Nat} {x:rF} (h:Dl hp us0) (hx:∀ p e l,x ≠ .fro p e l) (hn:id≤nx):iP hp id (us0++[(r,x)]) nx :=
 ⟨hn,us0,_,rfl,h,fun r' y hy p e l q=>by
  simp only [List.mem_singleton,Prod.mk.injEq] at hy;rw [hy.2] at q;exact hx p e l q⟩
theorem B8 {t:Ty} {x y:AV} (h:m_ hp t x y some=some us):iP hp id us id:=by
 unfold m_ at h;obtain ⟨_,h⟩:=aM h;split at h
 · split at h
   · obtain ⟨_,h⟩:=aM h;cases h;exact iP.one (us0:=[]) q7 (fun _ _ _ q=>by cases q) (Nat.le_refl _)
   · obtain ⟨_,h⟩:=rW h;split at h
     · split at h
       · cases h;exact iP.one (ji _ _) (fun _ _ _ q=>by cases q) (Nat.le_refl _)
       · cases h
     · cases h
   · cases h
 · cases h
theorem BG {u:Ty} {x:AV} {lo hi:Option AV} (h:ly u hp x lo hi (fun v us=>some (v,us))=some (v,us)):iP hp id us id:=by
 have one:∀ r p e (l:List e.d),(hp r = .own p e l∨hp r = .fro p e l)→iP hp id [(r,rF.fro p e l)] id:=fun r p e l hr=>iP.frz fun s y hy=>by simp only [List.mem_singleton,Prod.mk.injEq] at hy;obtain ⟨rfl,rfl⟩:=hy;exact ⟨p,e,l,rfl,hr⟩
 unfold ly at h;split at h
 · rw [tk] at h;obtain ⟨_,_,h⟩:=Option.bind_eq_some_iff.1 h;cases h;exact iP.nil
 · rw [kf] at h;obtain ⟨_,_,h⟩:=Option.bind_eq_some_iff.1 h;cases h;exact iP.nil
 · obtain ⟨_,h⟩:=aM h;rw [kf] at h;obtain ⟨_,_,h⟩:=Option.bind_eq_some_iff.1 h;cases h;exact iP.nil
 · split at h
   · rename_i hr;obtain ⟨_,h⟩:=aM h;rw [kf] at h;obtain ⟨_,_,h⟩:=Option.bind_eq_some_iff.1 h;cases h;exact one _ _ _ _ (Or.inl hr)
   · rename_i hr;obtain ⟨_,h⟩:=aM h;rw [kf] at h;obtain ⟨_,_,h⟩:=Option.bind_eq_some_iff.1 h;cases h;exact one _ _ _ _ (Or.inr hr)
   · cases h
 · cases h
theorem Ab {e:Ty} {d s:AV} (h:kh e hp id d s (fun v us=>some (v,us))=some (v,us)):iP hp id us (id+1):=by
 unfold kh at h;split at h
 · cases h
 · split at h
   · obtain ⟨_,h⟩:=aM h;cases h;exact iP.one (us0:=[]) q7 (fun _ _ _ q=>by cases q) (Nat.le_succ _)
   · split at h
     · split at h
       · obtain ⟨_,h⟩:=aM h;cases h;refine ⟨Nat.le_succ _,[],[_,_],rfl,q7,fun r y hy p e l q=>?_⟩;simp only [List.mem_cons,Prod.mk.injEq,List.not_mem_nil,or_false] at hy;subst q;rcases hy with hy | hy
         · cases hy.2
         · cases hy.2
       · cases h
     · cases h
   · cases h
theorem mC {us vs:kO} (h:s8 us) (h':s8 vs):s8 (us++vs):=fun r x hm=>by
 rcases List.mem_append.1 hm with q | q
 · exact h r x q
 · exact h' r x q
theorem rU {us:kO} {r:Nat} {x:rF} (hx:∀ p e l,x ≠ .fro p e l) (h:s8 us):s8 ((r,x)::us):=fun r' y hm=>by
 rcases List.mem_cons.1 hm with q | q
 · cases q;exact hx
 · exact h r' y q
theorem xT {l:List Nat}:s8 (tP l):=fun r x hm p e l' q=>by simp only [tP,List.mem_map,Prod.mk.injEq] at hm;obtain ⟨_,_,_,rfl⟩:=hm;cases q
theorem uc {p:Bool}:∀ {t:Ty} {x:t.d} {cs:List AV},s8 (pm p t x cs)
 | .slice e,l,cs=>by
  simp only [pm];unfold w6;split
  · exact rU (fun _ _ _ q=>by cases q) jt
  · exact jt
 | .pair a b,x,cs=>mC uc uc
 | .bool,_,_=>jt
 | .int _,_,_=>jt
 | .str,_,_=>jt
 | .unit,_,_=>jt
 | .opq,_,_=>jt
theorem ko {al:Bool}:∀ {A:List Pm} {as:List AV} {y:(tup (iG A)).d} {id:Nat},s8 (kM hp al A as y id)
 | [],_,_,_=>jt
 | .val _::A,as,y,id=>ko (A:=A)
 | .io o f t::A,as,y,id=>by
  cases o with
  | true=>exact mC xT (rU (fun _ _ _ q=>by cases q) (mC q6 (ko (A:=A))))
  | false=>exact rU (fun _ _ _ q=>by cases q) (ko (A:=A))
 | .lend t::A,as,y,id=>mC uc (ko (A:=A))
 | .give _::A,as,y,id=>mC xT (ko (A:=A))
 | .fn _ _::A,as,y,id=>ko (A:=A)
theorem F2 {c:Cn} {as:List AV} (h:tG c hp id as (fun v us nx=>some (v,us,nx))=some (v,us,nx)):iP hp id us nx:=by
 unfold tG at h;split at h
 · cases h
 · split at h
   · cases h
   · obtain ⟨_,h⟩:=aM h;split at h
     · cases h
     · simp only [Option.some.injEq,Prod.mk.injEq] at h;obtain ⟨_,h2,h3⟩:=h;refine ⟨?_,_,_,h2.symm,?_,mC ko ?_⟩
       · rw [← h3];cases c.fresh <;> simp <;> omega
       · cases c.al with
         | true=>exact ji _ _
         | false=>exact q7
       · unfold qJ;cases c.fresh with
         | true=>exact q6
         | false=>exact jt
theorem Gj {c:Cn} {as:List AV} (h:zc c hp id as (fun v us nx=>some (v,us,nx))=some (v,us,nx)):iP hp id us nx:=by
 unfold zc at h;split at h
 · cases h
 · split at h
   · cases h
   · obtain ⟨_,h⟩:=aM h;split at h
     · cases h
     · simp only [Option.some.injEq,Prod.mk.injEq] at h;obtain ⟨_,h2,h3⟩:=h;refine ⟨by omega,_,_,h2.symm,ji _ _,rU (fun _ _ _ q=>by cases q) jt⟩
theorem F4 {c:Cn} {as:List AV} (h:se c hp id as (fun v us nx=>some (v,us,nx))=some (v,us,nx)):iP hp id us nx:=by
 unfold se at h;cases hb:rA c.R with
 | false=>rw [hb] at h;exact F2 h
 | true=>rw [hb] at h;exact Gj h
theorem vH {o:Oper} (hs:fW tb ct o tm hp id (fun v us nx=>some (v,us,nx))=some (v,us,nx)):iP hp id us nx:=by
 unfold fW at hs;split at hs
 all_goals (try (repeat' split at hs))
 all_goals first
  | (cases hs;exact iP.nil)
  | (cases hs;done)
  | (rw [yM] at hs;obtain ⟨_,_,hs⟩:=Option.bind_eq_some_iff.1 hs;cases hs;exact iP.nil)
  | (rw [rr] at hs;obtain ⟨_,_,hs⟩:=Option.bind_eq_some_iff.1 hs;cases hs;exact iP.nil)
  | (rw [tu] at hs;obtain ⟨_,_,hs⟩:=Option.bind_eq_some_iff.1 hs;cases hs;exact iP.nil)
  | (rw [pu] at hs;obtain ⟨_,_,hs⟩:=Option.bind_eq_some_iff.1 hs;cases hs;exact iP.nil)
  | (rw [nL] at hs;obtain ⟨_,_,hs⟩:=Option.bind_eq_some_iff.1 hs;cases hs;exact iP.nil)
  | (rw [rV] at hs;obtain ⟨_,_,hs⟩:=Option.bind_eq_some_iff.1 hs;cases hs;exact iP.nil)
  | (rw [lu] at hs;obtain ⟨_,h,hs⟩:=Option.bind_eq_some_iff.1 hs;cases hs;exact B8 h)
  | (rw [ov] at hs;obtain ⟨_,h,hs⟩:=Option.bind_eq_some_iff.1 hs;cases hs;exact BG h)
  | exact F4 hs
  | (simp only [cond_eq_ite] at hs;split at hs <;> (cases hs;exact iP.nil))
  | (simp only [cond_eq_ite] at hs;split at hs <;> first | (cases hs;done) | (rw [jM] at hs;obtain ⟨_,h,hs⟩:=Option.bind_eq_some_iff.1 hs;cases hs;exact Ab h))
  | (obtain ⟨_,hs⟩:=aM hs;cases hs;exact iP.one (us0:=[]) q7 (fun _ _ _ q=>by cases q) (Nat.le_succ _))
  | (obtain ⟨_,hs⟩:=aM hs;cases hs;exact iP.one (ji _ _) (fun _ _ _ q=>by cases q) (Nat.le_succ _))
  | (obtain ⟨_,hs⟩:=aM hs;cases hs;exact iP.nil)
  | (obtain ⟨_,hs⟩:=aM hs;obtain ⟨_,hs⟩:=aM hs;cases hs;exact iP.nil)
  | (obtain ⟨_,hs⟩:=aM hs;obtain ⟨_,hs⟩:=aM hs;obtain ⟨_,hs⟩:=aM hs;cases hs;exact iP.one (us0:=[]) q7 (fun _ _ _ q=>by cases q) (Nat.le_succ _))
  | (cases hs;exact iP.one (us0:=[]) q7 (fun _ _ _ q=>by cases q) (Nat.le_succ _))
end
end Go.V
end

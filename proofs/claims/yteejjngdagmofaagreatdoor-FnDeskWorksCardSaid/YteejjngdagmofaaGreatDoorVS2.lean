/- V: soundness, part 2 of 10. -/
import Derived.Test.YteejjngdagmofaaGreatDoorVS1
section
set_option linter.unusedVariables false
set_option linter.unusedSimpArgs false
namespace Go.V
open Go.RowKit
section
variable {P:Program} {tb:mH} {w0:Bs} {w:World} {N:Nat→Prop} {φ:Nat→ig} {tm:List AV} {hp:Hp} {a:Act}
abbrev XX (w0:Bs) (w:World) (φ:Nat→ig) (hp:Hp):Bool→Nat→Prop:=Xs w φ hp w0.see
theorem qg {α:Type} {c:Bool} {x:Option α} {y:α} (h:(bif c then none else x)=some y):c=false∧x=some y:=by
 cases c with
 | true=>cases h
 | false=>exact ⟨rfl,h⟩
theorem aL {α:Type} {c:Bool} {x:Option α} {y:α} (h:(bif c then x else none)=some y):c=true∧x=some y:=by
 cases c with
 | true=>exact ⟨rfl,h⟩
 | false=>cases h
theorem yQ (op:BinOp) (t:TypeId) (x y:Operand) (k k':IntKind) (m n:Int):(eqGuard op t x y (.int k m) (.int k' n)).run P w = .ok () w:=by unfold eqGuard;cases op <;> simp
theorem yX (op:BinOp) (t:TypeId) (x y:Operand) (m n:ByteArray):(eqGuard op t x y (.string m) (.string n)).run P w = .ok () w:=by unfold eqGuard;cases op <;> simp
theorem xD (op:BinOp) (t:TypeId) (x y:Operand) (m n:Bool):(eqGuard op t x y (.bool m) (.bool n)).run P w = .ok () w:=by unfold eqGuard;cases op <;> simp
theorem M9 {op:BinOp} {bt:Bool} {eq:Option (List Ty)} {ka kb:IntKind} {m n:Int} {v:AV} {X:Bool→Nat→Prop} (h:pL bt eq op (.int ka m) (.int kb n) some=some v) (t:TypeId) (x y:Operand) :
 ∃ u,(do eqGuard op t x y (.int ka m) (.int kb n);binOp op t (.int ka m) (.int kb n):Sem Value).run P w = .ok u w∧cW w X N φ v u:=by
 rw [Sem.run_bind,yQ,Result.andThen_ok];cases op <;> simp only [pL,binOp] at h ⊢
 case shl =>obtain ⟨hn,h⟩:=qg h;cases h;exact ⟨_,by simp [Op.shift,of_decide_eq_false hn],rfl⟩
 case shr =>obtain ⟨hn,h⟩:=qg h;cases h;exact ⟨_,by simp [Op.shift,of_decide_eq_false hn],rfl⟩
 all_goals
  obtain ⟨hk,h⟩:=qg h;have hk:=of_decide_eq_false hk;simp only [ne_eq,Decidable.not_not] at hk;subst hk;simp only [ne_eq,not_true_eq_false,if_false] at h ⊢
 case quo =>
  by_cases hn:n=0
  · simp [hn] at h
  · simp [hn] at h;subst h;exact ⟨_,by simp only [Op.intDiv,if_neg hn];rfl,rfl⟩
 case rem =>
  by_cases hn:n=0
  · simp [hn] at h
  · simp [hn] at h;subst h;exact ⟨_,by simp only [Op.intDiv,if_neg hn];rfl,rfl⟩
 case add=>cases h;exact ⟨_,rfl,rfl⟩
 case sub=>cases h;exact ⟨_,rfl,rfl⟩
 case mul=>cases h;exact ⟨_,rfl,rfl⟩
 case and=>cases h;exact ⟨_,rfl,rfl⟩
 case or=>cases h;exact ⟨_,rfl,rfl⟩
 case xor=>cases h;exact ⟨_,rfl,rfl⟩
 all_goals first
  | (simp only [Dt] at h;cases h;exact ⟨_,rfl,rfl⟩)
  | cases h
theorem Li {op:BinOp} {bt:Bool} {eq:Option (List Ty)} {m n:ByteArray} {v:AV} {X:Bool→Nat→Prop} (h:pL bt eq op (.str m) (.str n) some=some v) (t:TypeId) (x y:Operand) :
 ∃ u,(do eqGuard op t x y (.string m) (.string n);binOp op t (.string m) (.string n):Sem Value).run P w = .ok u w∧cW w X N φ v u:=by
 rw [Sem.run_bind,yX,Result.andThen_ok];cases op <;> simp only [pL,binOp] at h ⊢
 all_goals first
  | (cases h;exact ⟨_,by simp [Op.stringOp] <;> rfl,rfl⟩)
  | (obtain ⟨hn,h⟩:=qg h
     cases h;exact ⟨_,by simp only [Op.stringOp];rw [if_neg (of_decide_eq_false hn)];rfl,rfl⟩)
  | cases h
theorem IG {t:TypeId} (ht:P.underlying t=some .bool) (m n:Bool):(Op.equal t (.bool m) (.bool n)).run P w = .ok (m==n) w:=by show (Op.equalIn (9999+1) t (.bool m) (.bool n)).run P w=_;rw [Op.equalIn,Sem.run_bind,run_underlying ht w,Result.andThen_ok];rfl
theorem J6 {t:TypeId} {op:BinOp} {eq:Option (List Ty)} {m n:Bool} {v:AV} {X:Bool→Nat→Prop} (ht:P.underlying t=some .bool) (h:pL true eq op (.bool m) (.bool n) some=some v) (x y:Operand) :
 ∃ u,(do eqGuard op t x y (.bool m) (.bool n);binOp op t (.bool m) (.bool n):Sem Value).run P w = .ok u w∧cW w X N φ v u:=by
 rw [Sem.run_bind,xD,Result.andThen_ok];cases op <;> simp only [pL,binOp,cond_true] at h ⊢
 all_goals first
  | (cases h;exact ⟨_,by rw [Sem.run_bind,IG ht];rfl,rfl⟩)
  | cases h
theorem Q_ {op:UnOp} {x v:AV} {u:Value} {X:Bool→Nat→Prop} (h:ID op x some=some v) (hx:cW w X N φ x u) :
 ∃ z,(Op.unary op u).run P w = .ok z w∧cW w X N φ v z:=by
 unfold ID at h;split at h
 · cases h;cases hx;exact ⟨_,rfl,rfl⟩
 · cases h;cases hx;exact ⟨_,rfl,rfl⟩
 · cases h;cases hx;exact ⟨_,rfl,rfl⟩
 · cases h
theorem rB {X:Bool→Nat→Prop}:∀ {cs:List AV} {vs:List Value} {i:Nat} {v:AV},ck w X N φ cs vs→cs[i]?=some v→∃ u,vs[i]?=some u∧cW w X N φ v u
 | [],_,i,v,_,h=>by simp at h
 | c::cs,_,0,v,h,hi=>by unfold ck at h;obtain ⟨u,us,e,h2,h3⟩:=h;subst e;simp at hi;subst hi;exact ⟨u,rfl,h2⟩
 | c::cs,_,i+1,v,h,hi=>by unfold ck at h;obtain ⟨u,us,e,h2,h3⟩:=h;subst e;exact rB (cs:=cs) (i:=i) h3 (by simpa using hi)
theorem HF {X:Bool→Nat→Prop} {t:Ty} {cs:List AV} {vs:List Value} (h:cL w X N φ cs vs) (hl:cs.length=t.size) (hv:Value) (he:if t.agg then hv = .agg vs.toArray else vs=[hv]) :
 cW w X N φ (jk t cs) hv:=by
 cases t with
 | pair s u=>simp [Ty.agg] at he;exact ⟨vs,he,h⟩
 | unit=>simp [Ty.agg] at he;exact ⟨vs,he,h⟩
 | _ =>
  simp [Ty.agg] at he;subst he;cases cs with
  | nil=>simp [cL] at h
  | cons c cs =>unfold cL at h;obtain ⟨u,us,e,h1,h2,h3⟩:=h;cases e;exact h2
end
end Go.V
end
section
namespace Go.V
open Go.RowKit
theorem kZ (b o n:Nat):(⟨b,o,none⟩:Addr).add n=⟨b,o+n,none⟩:=by
 unfold Addr.add;split
 · rename_i h;subst h;rfl
 · rfl
section
variable {P:Program} {tb:mH} {w0:Bs} {w:World} {N:Nat→Prop} {φ:Nat→ig} {tm:List AV} {hp:Hp} {a:Act}
def mE (t:Ty) (vs:List Value):Value:=if t.agg then .agg vs.toArray else vs.headD undef
theorem lK {X:Bool→Nat→Prop} {t:Ty} {cs:List AV} {vs:List Value} (h:cL w X N φ cs vs) (hl:cs.length=t.size):cW w X N φ (jk t cs) (mE t vs):=by
 refine HF h hl _ ?_;unfold mE;split
 · rfl
 · rename_i ha;have h1:t.size=1:=by cases t <;> simp_all [Ty.agg,Ty.size]
   have:=h.len
   match vs,this with
   | [u],_=>rfl
   | [],e=>simp at e;omega
   | _::_::_,e=>simp at e;omega
theorem GH {t:Nat} {u:Ty} {i:TypeInfo} {d:TypeDesc} {z:Value} (ht:iW P tb t u i d z) (b o:Nat) (vs:List Value) (hl:vs.length=u.size)
 (hc:∀ j x,vs[j]?=some x→w.cell? ⟨b,o+j,none⟩=some x):(loadVar t ⟨b,o,none⟩).run P w = .ok (mE u vs) w:=by
 unfold loadVar;rw [Sem.run_bind,ht.run_isAgg w,Result.andThen_ok];unfold mE;cases ha:u.agg with
 | true =>simp only [if_true,Sem.run_bind,ht.run_sizeOf w,Result.andThen_ok];rw [← hl,run_loadCells_list (P:=P) w ⟨b,o,none⟩ vs (fun j v hj=>by rw [kZ];exact hc j v hj)];rfl
 | false =>
  have h1:u.size=1:=by cases u <;> simp_all [Ty.agg,Ty.size]
  rw [h1] at hl
  match vs,hl with
  | [x],_ =>have:=hc 0 x rfl;simp only [Nat.add_zero] at this;simp [this]
theorem ua {t:Nat} {u:Ty} {i:TypeInfo} {d:TypeDesc} {z:Value} (ht:iW P tb t u i d z) (b o:Nat) (vs:List Value) (hl:vs.length=u.size)
 (hc:∀ j x,vs[j]?=some x→w.cell? ⟨b,o+j,none⟩=some x):(Instr.loadAt t (.pointer (some ⟨b,o,none⟩))).run P w = .ok (mE u vs) w:=by
 unfold Instr.loadAt Instr.sureAddr;rw [Sem.run_bind];simp only [Sem.run_pure,Result.andThen_ok];exact GH ht b o vs hl hc
theorem DD {M:Nat→Prop} {te size:Nat} {v:Value} {n:Nat} {xs:List Value} {b:Nat} (h:lA w M te size v n xs) (hn:0<n) (hb:∀ g,v.ownBlock=some g→b=g) :
 ∀ j u,xs[j]?=some u→w.cell? ⟨b,j,none⟩=some u:=by
 intro j u hj;rcases h.2 with ⟨rfl,rfl⟩ | ⟨g,cap,cur,rfl,h1,h2,h3,h4,h5,h6⟩
 · exact absurd hn (by omega)
 · have:=h.row.cells (g:=g) rfl j u hj;rw [kZ,Nat.zero_add] at this;rw [hb g rfl];exact this
theorem zP {b o off size:Nat} {xs d:List Value} {i n:Nat} (hd:∀ j,j<n→xs[i*n+j]?=d[j]?) (hdl:d.length=n) (hc:∀ j u,xs[j]?=some u→w.cell? ⟨b,o+j,none⟩=some u) :
 ∀ j x,((d.drop off).take size)[j]?=some x→w.cell? ⟨b,o+(i*n+off)+j,none⟩=some x:=by
 intro j x hj;rw [List.getElem?_take] at hj;split at hj
 · rw [List.getElem?_drop] at hj;have hlt:off+j<n:=by
    have:=(List.getElem?_eq_some_iff.1 hj).1;omega
   have:=hc (i*n+(off+j)) x ((hd _ hlt).trans hj);rw [← this];congr 2;omega
 · cases hj
theorem NG {X:Bool→Nat→Prop} {t:Nat} {u:Ty} {i:TypeInfo} {d:TypeDesc} {z:Value} (ht:iW P tb t u i d z) {B:Nat→Prop} {r i' off:Nat} {p:Bool} {e:Ty} {l:List e.d} {x:u.d}
 (hr:nW w X N φ B r p e l) (hi:i'<(φ r).n) (hx:xf u e (l.getD i' e.z) off=some x) :
 ∃ y,(Instr.loadAt t (.pointer (some ⟨(φ r).b,i'*(φ r).sz+off,none⟩))).run P w = .ok y w∧cW w X N φ (jk u (inj p u x)) y:=by
 obtain ⟨_,hsz,hn,hb,te,xs,ho,hl⟩:=hr;rw [hn] at hi;obtain ⟨ds,hds,hdj⟩:=hl.get (fun x d hh=>hh.len) i' e.z hi;obtain ⟨g1,g2⟩:=vp e hx hds;refine ⟨_,?_,lK (g1.inj (p:=p)) (by have:=(g1.inj (φ:=φ) (N:=N) (p:=p)).len;rw [← this];exact g1.len)⟩;rw [hsz];have hc:=DD ho (by omega) hb;have:=zP (o:=0) (off:=off) (size:=u.size) hdj hds.len (by simpa using hc);rw [Nat.zero_add] at this;exact ua ht _ _ _ g1.len this
theorem Qa (h:Ok w0 N φ tm hp a w) {t:Nat} {u:Ty} {i:TypeInfo} {d:TypeDesc} {z:Value} (ht:iW P tb t u i d z) {av v:AV} {p:Value}
 (hv:ld hp u av some=some v) (hp':cW w (XX w0 w φ hp) N φ av p):∃ x,(Instr.loadAt t p).run P w = .ok x w∧cW w (XX w0 w φ hp) N φ v x:=by
 unfold ld at hv;split at hv
 · rename_i r i' off;obtain ⟨hN,hi,he⟩:=hp';subst he;have hr:=h.rows r;split at hv
   · rename_i cs hrow;rw [hrow] at hr;obtain ⟨_,hB,hn,vs,te,hh,hcs⟩:=hr;obtain ⟨hle,hv⟩:=aL hv;cases hv;have hle:=Nat.le_of_ble_eq_true hle;rw [hn] at hi;have hi0:i'=0:=by omega
     subst hi0;have hlen:=hcs.len;refine ⟨mE u ((vs.toList.drop off).take u.size),?_,lK ((hcs.drop off).take u.size) (by rw [List.length_take,List.length_drop];omega)⟩;rw [Nat.zero_mul,Nat.zero_add];refine ua ht _ _ _ (by rw [List.length_take,List.length_drop];omega) (fun j x hj=>?_);rw [cell_of_row w _ _ vs te (0,0) hh];rw [List.getElem?_take] at hj;split at hj
     · rw [List.getElem?_drop] at hj;simpa using hj
     · cases hj
   · rename_i p e l hrow;rw [hrow] at hr;split at hv
     · rename_i x hx;cases hv;exact NG ht hr hi hx
     · cases hv
   · rename_i p e l hrow;rw [hrow] at hr;split at hv
     · rename_i x hx;cases hv;exact NG ht hr.1 hi hx
     · cases hv
   · cases hv
 · rename_i p e l i' off;obtain ⟨hi,b,o,xs,hv',hb,hl,hc⟩:=hp';subst hv';split at hv
   · rename_i x hx;cases hv;obtain ⟨ds,hds,hdj⟩:=hl.get (fun x d hh=>hh.len) i' e.z hi;obtain ⟨g1,g2⟩:=vp e hx hds;refine ⟨_,?_,lK (g1.inj (p:=p)) (by have:=(g1.inj (φ:=φ) (N:=N) (p:=p)).len;rw [← this];exact g1.len)⟩;exact ua ht _ _ _ g1.len (zP (off:=off) (size:=u.size) hdj hds.len hc)
   · cases hv
 · cases hv
theorem Lc {X:Bool→Nat→Prop} {av v:AV} {p:Value} {n:Nat} (hv:uY av n some=some v) (hp':cW w X N φ av p) :
 ∃ b o,p = .pointer (some ⟨b,o,none⟩)∧cW w X N φ v (.pointer (some ⟨b,o+n,none⟩)):=by
 unfold uY at hv;split at hv
 · rename_i r i off;cases hv;obtain ⟨h1,h2,h3⟩:=hp';exact ⟨_,_,h3,h1,h2,by rw [Nat.add_assoc]⟩
 · rename_i q e l i off;cases hv;obtain ⟨h1,b,o,xs,h2,h3,h4,h5⟩:=hp';exact ⟨_,_,h2,h1,b,o,xs,by rw [Nat.add_assoc,Nat.add_assoc],h3,h4,h5⟩
 · cases hv
theorem H6 (hP:cM P tb=true) {s f n:Nat} (hn:C1 tb s f=some n) (b o:Nat) :
 (Instr.fieldAt s (.pointer (some ⟨b,o,none⟩)) f).run P w = .ok (.pointer (some ⟨b,o+n,none⟩)) w:=by
 unfold C1 at hn;split at hn
 · rename_i offs ho;split at hn
   · rename_i p hp';cases hn;obtain ⟨fs,hu,_,hall⟩:=tX hP ho;obtain ⟨h0,fd,i,hf,hoff,hi,hsz⟩:=hall f p hp';have hz:(sizeOf fd.type).run P w = .ok p.2 w:=by simp [sizeOf,typeInfo,hi,hsz]
     have hne:¬ p.2=0:=by omega
     unfold Instr.fieldAt;simp only [Sem.run_bind,run_underlying hu w,Result.andThen_ok,hf,Instr.sureAddr,Sem.run_pure,fieldPlace,hz,if_neg hne,kZ,hoff]
   · cases hn
 · cases hn
theorem AH {X:Bool→Nat→Prop} {p:Bool} {e:Ty} {l:List e.d} {v:Value} (h:Rd w (X p) (.slice e) l [v]) :
 ∃ a c,v = .slice a l.length c∧l.length≤c∧∃ xs,mO (Rd w (X p) e) l xs∧(l≠[]→∃ b o,a=some ⟨b,o,none⟩∧X p b∧∀ j u,xs[j]?=some u→w.cell? ⟨b,o+j,none⟩=some u):=by
 obtain ⟨a,n,c,xs,hc,hn,hle,hl,hr⟩:=h;cases hc;subst hn;exact ⟨a,c,rfl,hle,xs,hl,hr⟩
theorem k8 {M:Nat→Prop} {te size:Nat} {v:Value} {n:Nat} {xs:List Value} (h:lA w M te size v n xs):∃ a c,v = .slice a n c∧n≤c∧(0<n→∃ g,a=some ⟨g,0,none⟩∧v.ownBlock=some g):=by
 rcases h.2 with ⟨rfl,rfl⟩ | ⟨g,cap,cur,rfl,h1,h2,h3,h4,h5,h6⟩
 · exact ⟨none,0,rfl,Nat.le_refl _,fun h=>absurd h (by omega)⟩
 · exact ⟨_,cap,rfl,h3,fun _=>⟨g,rfl,rfl⟩⟩
theorem iW.slice {t:Nat} {e:Ty} {i:TypeInfo} {d:TypeDesc} {z:Value} (hP:cM P tb=true) (ht:iW P tb t (.slice e) i d z) :
 ∃ te,P.underlying t=some (.slice te)∧look tb.ty te=some e∧0<e.size∧plain e=true∧∃ i' d' z',iW P tb te e i' d' z':=by
 have hk:=ht.kind;have hu:=ht.under;cases d <;> simp [eJ] at hk;rename_i te;obtain ⟨⟨h1,h2⟩,h3⟩:=hk;exact ⟨te,hu,h1,h2,h3,j_ hP h1⟩
theorem wc (hP:cM P tb=true) {t:Nat} {e:Ty} (h:sO tb t=some e) :
 ∃ te,P.underlying t=some (.slice te)∧0<e.size∧plain e=true∧∃ i' d' z',iW P tb te e i' d' z':=by
 unfold sO at h;split at h
 · rename_i e' hl;cases h;obtain ⟨i,d,z,ht⟩:=j_ hP hl;obtain ⟨te,h1,_,h2,h3,h4⟩:=ht.slice hP;exact ⟨te,h1,h2,h3,h4⟩
 · cases h
theorem xm {t te:TypeId} {i:TypeInfo} (hu:P.underlying t=some (.slice te)) (hi:P.info? te=some i) (b o n len c:Nat) (k:IntKind) (hn:n<len) :
 (Instr.indexAt t (.slice (some ⟨b,o,none⟩) len c) (.int k n)).run P w = .ok (.pointer (some ⟨b,o+n*i.size,none⟩)) w:=by
 unfold Instr.indexAt;have h1:(0:Int)≤(n:Int)∧(n:Int)<(len:Int):=by omega
 simp [asIntOf,run_underlying hu,h1,hn,sizeOf,typeInfo,hi,kZ]
theorem DW {X:Bool→Nat→Prop} {t te:TypeId} {k:IntKind} (hu:P.underlying t=some (.slice te)) {B:Nat→Prop} {r:Nat} {n:Int} {p:Bool} {e:Ty} {l:List e.d} {i:TypeInfo} {d:TypeDesc} {z y:Value} (htf:iW P tb te e i d z)
 (hr:nW w X N φ B r p e l) (h2:0≤n) (h3:n<(l.length:Int)) (hx:cW w X N φ (.ref r) y) :
 ∃ q,(Instr.indexAt t y (.int k n)).run P w = .ok q w∧cW w X N φ (.ptr r n.toNat 0) q:=by
 obtain ⟨hN,he',_⟩:=hx;obtain ⟨_,hs,hn,hb,te',xs,ho,hl⟩:=hr;obtain ⟨m,rfl⟩:=Int.eq_ofNat_of_zero_le h2;obtain ⟨ad,c,hsl,hc,hg⟩:=k8 ho;obtain ⟨g,rfl,hg2⟩:=hg (by omega);rw [hsl] at he';subst he';refine ⟨_,xm hu htf.info g 0 m _ c _ (by omega),hN,by rw [hn];simp;omega,?_⟩;rw [hb g (by rw [hsl];rfl),hs,htf.size];simp
theorem xz {R:Type} {k:Nat→Option R} {n:Int} {y:R}:∀ {m i:Nat},vB k n m i=some y→∃ j,i≤j∧j<i+m∧n=(j:Int)∧k j=some y
 | 0,_,h=>by cases h
 | m+1,i,h=>by
  unfold vB at h;cases c:Tp n i with
  | true =>rw [c] at h;exact ⟨i,Nat.le_refl _,by omega,of_decide_eq_true c,h⟩
  | false =>rw [c] at h;obtain ⟨j,h1,h2,h3,h4⟩:=xz (m:=m) h;exact ⟨j,by omega,by omega,h3,h4⟩
theorem Eb {t te:TypeId} {m:Nat} {i:TypeInfo} (hu:P.underlying t=some (.array m te)) (hi:P.info? te=some i) (b o n:Nat) (k:IntKind) (hn:n<m) :
 (Instr.indexAt t (.pointer (some ⟨b,o,none⟩)) (.int k n)).run P w = .ok (.pointer (some ⟨b,o+n*i.size,none⟩)) w:=by
 unfold Instr.indexAt;have h1:(0:Int)≤(n:Int)∧(n:Int)<(m:Int):=by omega
 simp [asIntOf,run_underlying hu,Instr.sureAddr,h1,hn,sizeOf,typeInfo,hi,kZ]
theorem FC (h:Ok w0 N φ tm hp a w) (hP:cM P tb=true) {t:Nat} {x i v:AV} {p q:Value} (hv:indexAddr tb hp t x i some=some v)
 (hx:cW w (XX w0 w φ hp) N φ x p) (hi:cW w (XX w0 w φ hp) N φ i q):∃ y,(Instr.indexAt t p q).run P w = .ok y w∧cW w (XX w0 w φ hp) N φ v y:=by
 unfold indexAddr at hv;split at hv
 · rename_i e k n he;obtain ⟨te,hu,hsz,hpl,ti,td,tz,htf⟩:=wc hP he;cases hi;split at hv
   · rename_i r;have hr:=h.rows r;split at hv
     · rename_i pp t' l hrow;rw [hrow] at hr;obtain ⟨h1,hw1⟩:=aL hv;obtain ⟨h2,hw2⟩:=aL hw1;obtain ⟨h3,hw3⟩:=aL hw2;have h1:=of_decide_eq_true h1;subst h1;cases hw3;exact DW hu htf hr (of_decide_eq_true h2) (of_decide_eq_true h3) hx
     · rename_i pp t' l hrow;rw [hrow] at hr;obtain ⟨h1,hw1⟩:=aL hv;obtain ⟨h2,hw2⟩:=aL hw1;obtain ⟨h3,hw3⟩:=aL hw2;have h1:=of_decide_eq_true h1;subst h1;cases hw3;exact DW hu htf hr.1 (of_decide_eq_true h2) (of_decide_eq_true h3) hx
     · cases hv
   · rename_i pp t' l;obtain ⟨h1,hw1⟩:=aL hv;obtain ⟨h2,hw2⟩:=aL hw1;obtain ⟨h3,hw3⟩:=aL hw2;have h1:=of_decide_eq_true h1;have h2:=of_decide_eq_true h2;have h3:=of_decide_eq_true h3;subst h1;cases hw3;obtain ⟨ad,c,hsl,hc,xs,hl,hne⟩:=AH (X:=XX w0 w φ hp) hx;obtain ⟨m,rfl⟩:=Int.eq_ofNat_of_zero_le h2;obtain ⟨b,o,rfl,hX,hcell⟩:=hne (by intro q;subst q;simp at h3;omega);subst hsl;refine ⟨_,xm hu htf.info b o m _ c _ (by omega),by simp;omega,b,o,xs,?_,hX,hl,hcell⟩;rw [htf.size];simp
   · cases hv
 · rename_i k n he;cases hi;split at hv
   · rename_i m sz r j off harr;obtain ⟨te,ti,hu,hti,hsz⟩:=K5 hP harr;obtain ⟨jx,_,g2,rfl,g4⟩:=xz hv;cases g4;obtain ⟨hN,hlt,rfl⟩:=hx;refine ⟨_,Eb hu hti _ _ jx k (by omega),hN,hlt,?_⟩;rw [hsz,Nat.add_assoc]
   · cases hv
 · cases hv
end
end Go.V
end
section
namespace Go.V
open Go.RowKit
section
variable {P:Program} {tb:mH} {w0:Bs} {w:World} {N:Nat→Prop} {φ:Nat→ig} {tm:List AV} {hp:Hp} {a:Act}
theorem vS {X Y:_} {B:Nat→Prop} {r:Nat} {p:Bool} {e:Ty} {l:List e.d} (hr:nW w X N φ B r p e l) (hY:∀ b,(φ r).v.ownBlock=some b→Y b) (hX:∀ b,X p b→Y b) :
 Rd w Y (.slice e) l [(φ r).v]:=by
 obtain ⟨_,hs,hn,hb,te,xs,ho,hl⟩:=hr;obtain ⟨ad,c,hsl,hc,hg⟩:=k8 ho;refine ⟨ad,l.length,c,xs,by rw [hsl],rfl,hc,hl.mono hX (fun _ _=>rfl),fun hne=>?_⟩;obtain ⟨g,rfl,hg2⟩:=hg (by cases l;exact absurd rfl hne;simp);refine ⟨g,0,rfl,hY g hg2,fun j u hj=>?_⟩;have:=ho.row.cells hg2 j u hj
 rwa [kZ] at this
def CC (w0:Bs) (w:World) (φ:Nat→ig) (hp:Hp) (Y:Nat→Prop) (c:AV):Prop :=
 (∀ p b,(p=true→taint1 hp c=true)→XX w0 w φ hp p b→Y b) ∧
 (∀ r p e l b,c = .ref r→(hp r = .own p e l∨hp r = .fro p e l)→(φ r).v.ownBlock=some b→Y b)
theorem Fo (h:Ok w0 N φ tm hp a w) {Y:Nat→Prop} {c:AV} {v:Value} {e:Ty} {l:List e.d} (hY:CC w0 w φ hp Y c) (hg:getSl hp e c=some l)
 (hv:cW w (XX w0 w φ hp) N φ c v):Rd w Y (.slice e) l [v]:=by
 unfold getSl at hg;split at hg
 · cases hg;cases hv;exact ⟨none,0,0,[],rfl,rfl,Nat.le_refl _,rfl,fun h=>absurd rfl h⟩
 · rename_i p t l';obtain ⟨he,rfl⟩:=mW hg;subst he;exact Rd.mono (fun b hb=>hY.1 p b (fun q=>q) hb) (fun _ _=>rfl) hv
 · rename_i r;have hr:=h.rows r;obtain ⟨hN,rfl,_⟩:=hv;split at hg
   · rename_i p t l' hrow;rw [hrow] at hr;obtain ⟨he,rfl⟩:=mW hg;subst he;exact vS hr (fun b hb=>hY.2 r p t l' b rfl (Or.inl hrow) hb) (fun b hb=>hY.1 p b (fun q=>by simp [taint1,hrow,q]) hb)
   · rename_i p t l' hrow;rw [hrow] at hr;obtain ⟨he,rfl⟩:=mW hg;subst he;exact vS hr.1 (fun b hb=>hY.2 r p t l' b rfl (Or.inr hrow) hb) (fun b hb=>hY.1 p b (fun q=>by simp [taint1,hrow,q]) hb)
   · cases hg
 · cases hg
theorem cU {α β:Type} {x:Option α} {y:Option β} {z:α × β} (h:vL x y=some z):x=some z.1∧y=some z.2:=by cases x <;> cases y <;> simp [vL] at h;subst h;exact ⟨rfl,rfl⟩
theorem qJ {X:Bool→Nat→Prop} {c:AV} {vs:List Value} (h:cL w X N φ [c] vs):∃ v,vs=[v]∧v.oneCell'=true∧cW w X N φ c v:=by unfold cL at h;obtain ⟨u,us,e,h1,h2,h3⟩:=h;unfold cL at h3;subst h3;exact ⟨u,e,h1,h2⟩
theorem me (h:Ok w0 N φ tm hp a w) {Y:Nat→Prop}:∀ (t:Ty) {cs:List AV} {vs:List Value} {x:t.d},(∀ c ∈ cs,CC w0 w φ hp Y c)→prj hp t cs=some x →
 cL w (XX w0 w φ hp) N φ cs vs→Rd w Y t x vs
 | .bool,cs,vs,x,hY,hx,hr=>by
  simp only [prj] at hx;unfold vN at hx;split at hx
  · cases hx;obtain ⟨v,rfl,_,hv⟩:=qJ hr;cases hv;rfl
  · cases hx
 | .int k,cs,vs,x,hY,hx,hr=>by
  simp only [prj] at hx;unfold zy at hx;split at hx
  · split at hx
    · rename_i k' n hk;subst hk;cases hx;obtain ⟨v,rfl,_,hv⟩:=qJ hr;cases hv;rfl
    · cases hx
  · cases hx
 | .str,cs,vs,x,hY,hx,hr=>by
  simp only [prj] at hx;unfold BE at hx;split at hx
  · cases hx;obtain ⟨v,rfl,_,hv⟩:=qJ hr;cases hv;rfl
  · cases hx
 | .slice e,cs,vs,x,hY,hx,hr=>by
  simp only [prj] at hx;unfold uy at hx;split at hx
  · obtain ⟨v,rfl,_,hv⟩:=qJ hr;exact Fo h (hY _ (List.mem_cons_self ..)) hx hv
  · cases hx
 | .pair a b,cs,vs,x,hY,hx,hr=>by
  simp only [prj] at hx;obtain ⟨h1,h2⟩:=cU hx;exact ⟨vs.take a.size,vs.drop a.size,(List.take_append_drop ..).symm,
   me h a (fun c hc=>hY c (List.mem_of_mem_take hc)) h1 (hr.take a.size),
   me h b (fun c hc=>hY c (List.mem_of_mem_drop hc)) h2 (hr.drop a.size)⟩
 | .unit,cs,vs,x,hY,hx,hr=>by
  simp only [prj] at hx;unfold wb at hx;split at hx
  · unfold cL at hr;exact hr
  · cases hx
 | .opq,cs,vs,x,hY,hx,hr=>by cases hx
theorem kB {X:Bool→Nat→Prop} {v:AV} {u:Value} (h:cW w X N φ v u) (hn:Fl v=true):cL w X N φ (cellsOf v) u.cells.toList:=by
 cases v with
 | agg cs =>obtain ⟨vs,rfl,h⟩:=h;exact h
 | tup vs=>cases hn
 | junk=>cases hn
 | bool b=>cases h;exact ⟨_,_,rfl,rfl,rfl,rfl⟩
 | int k n=>cases h;exact ⟨_,_,rfl,rfl,rfl,rfl⟩
 | str s=>cases h;exact ⟨_,_,rfl,rfl,rfl,rfl⟩
 | nil e=>cases h;exact ⟨_,_,rfl,rfl,rfl,rfl⟩
 | sl p e l =>obtain ⟨ad,n,c,xs,hc,hr⟩:=h;cases hc;exact ⟨_,_,rfl,rfl,⟨ad,n,c,xs,rfl,hr⟩,rfl⟩
 | ref r=>obtain ⟨h1,h2,ad,n,c,rfl⟩:=h;exact ⟨_,_,rfl,rfl,⟨h1,h2,ad,n,c,rfl⟩,rfl⟩
 | ptr r i off=>obtain ⟨h1,h2,rfl⟩:=h;exact ⟨_,_,rfl,rfl,⟨h1,h2,rfl⟩,rfl⟩
 | sptr p e l i off=>obtain ⟨h1,b,o,xs,rfl,h3⟩:=h;exact ⟨_,_,rfl,rfl,⟨h1,b,o,xs,rfl,h3⟩,rfl⟩
 | fn f cs=>obtain ⟨vs,rfl,h⟩:=h;exact ⟨_,_,rfl,rfl,⟨vs,rfl,h⟩,rfl⟩
end
end Go.V
end
section
namespace Go.V
open Go.RowKit
theorem mO.take {α:Type} {R:α→List Value→Prop} {n:Nat} (hR:∀ x d,R x d→d.length=n):∀ {l:List α} {xs:List Value} (k:Nat),mO R l xs→mO R (l.take k) (xs.take (k*n))
 | _,_,0,_=>by simp [mO]
 | [],_,k+1,h=>by cases h;simp [mO]
 | x::l,_,k+1,⟨d,r,e,h1,h2⟩=>by subst e;have hl:=hR x d h1;refine ⟨d,r.take (k*n),?_,h1,mO.take hR k h2⟩;rw [show (k+1)*n=d.length+k*n by rw [Nat.succ_mul,hl];omega,List.take_length_add_append]
theorem mO.drop {α:Type} {R:α→List Value→Prop} {n:Nat} (hR:∀ x d,R x d→d.length=n):∀ {l:List α} {xs:List Value} (k:Nat),mO R l xs→mO R (l.drop k) (xs.drop (k*n))
 | _,_,0,h=>by simpa using h
 | [],_,k+1,h=>by cases h;simp [mO]
 | x::l,_,k+1,⟨d,r,e,h1,h2⟩=>by subst e;have hl:=hR x d h1;rw [show (k+1)*n=d.length+k*n by rw [Nat.succ_mul,hl];omega,List.drop_length_add_append];exact mO.drop hR k h2
section
variable {P:Program} {tb:mH} {w0:Bs} {w:World} {N:Nat→Prop} {φ:Nat→ig} {tm:List AV} {hp:Hp} {a:Act}
theorem mC {k:IntKind} {n:Int} {y:Nat} {code:BoundsCode} (h0:0≤n) (h1:n≤(y:Int)):(Instr.sliceBound (.int k n) y code).run P w = .ok n.toNat w:=by simp [Instr.sliceBound,asIntOf,h0,h1]
def jb (w:World) (X:Bool→Nat→Prop) (N:Nat→Prop) (φ:Nat→ig):Option AV→Option Value→Prop
 | none,none=>True
 | some a,some v=>cW w X N φ a v
 | _,_=>False
theorem Ay {X:Bool→Nat→Prop} {f:Operand→AV} {g:Operand→Value} (h:∀ x,cW w X N φ (f x) (g x)) (o:Option Operand):jb w X N φ (o.map f) (o.map g):=by
 cases o with
 | none=>trivial
 | some x=>exact h x
theorem Jc {α:Type} {X:Bool→Nat→Prop} {l l':List α} {lo hi:Option AV} {vlo vhi:Option Value} {c:Nat} {isSl:Bool} (hc:uf l lo hi some=some l') (hlo:jb w X N φ lo vlo) (hhi:jb w X N φ hi vhi) (hlen:l.length≤c) :
 ∃ L H,L≤H∧H≤l.length∧l'=(l.take H).drop L∧(Instr.sliceBounds isSl l.length c vlo vhi none).run P w = .ok (L,H,c) w:=by
 unfold uf at hc;split at hc
 · cases hc;cases vlo <;> cases vhi <;> simp [jb] at hlo hhi;exact ⟨0,l.length,by omega,by omega,by simp,by simp [Instr.sliceBounds]⟩
 · rename_i k h;cases vlo <;> cases vhi <;> simp [jb] at hlo hhi;obtain ⟨h1,hw1⟩:=aL hc;obtain ⟨h2,hw2⟩:=aL hw1;have h1:=of_decide_eq_true h1;have h2:=of_decide_eq_true h2;cases hw2;cases hhi;refine ⟨0,h.toNat,by omega,by omega,by simp,?_⟩;simp only [Instr.sliceBounds,Sem.run_bind,Sem.run_pure,Result.andThen_ok,mC h1 (show h≤(c:Int) by omega)]
 · rename_i k n;cases vlo <;> cases vhi <;> simp [jb] at hlo hhi;obtain ⟨h1,hw1⟩:=aL hc;obtain ⟨h2,hw2⟩:=aL hw1;have h1:=of_decide_eq_true h1;have h2:=of_decide_eq_true h2;cases hw2;cases hlo;refine ⟨n.toNat,l.length,by omega,by omega,by simp,?_⟩;simp only [Instr.sliceBounds,Sem.run_bind,Sem.run_pure,Result.andThen_ok,mC h1 h2]
 · rename_i k n k' h;cases vlo <;> cases vhi <;> simp [jb] at hlo hhi;obtain ⟨h1,hw1⟩:=aL hc;obtain ⟨h2,hw2⟩:=aL hw1;obtain ⟨h3,hw3⟩:=aL hw2;have h1:=of_decide_eq_true h1;have h2:=of_decide_eq_true h2;have h3:=of_decide_eq_true h3;cases hw3;cases hlo;cases hhi;refine ⟨n.toNat,h.toNat,by omega,by omega,rfl,?_⟩;simp only [Instr.sliceBounds,Sem.run_bind,Sem.run_pure,Result.andThen_ok,mC (show (0:Int)≤h by omega) (show h≤(c:Int) by omega),
    mC h1 (show n≤(h.toNat:Int) by omega)]
 · cases hc
theorem Q5 {X:Bool→Nat→Prop} {s s':ByteArray} {lo hi:Option AV} {vlo vhi:Option Value} (hc:HO s lo hi some=some s') (hlo:jb w X N φ lo vlo) (hhi:jb w X N φ hi vhi) :
 ∃ L H,s'=s.extract L H∧(Instr.sliceBounds false s.size s.size vlo vhi none).run P w = .ok (L,H,s.size) w:=by
 unfold HO at hc;split at hc
 · cases hc;cases vlo <;> cases vhi <;> simp [jb] at hlo hhi;exact ⟨0,s.size,by simp,by simp [Instr.sliceBounds]⟩
 · rename_i k h;cases vlo <;> cases vhi <;> simp [jb] at hlo hhi;obtain ⟨h1,hw1⟩:=aL hc;obtain ⟨h2,hw2⟩:=aL hw1;have h1:=of_decide_eq_true h1;have h2:=of_decide_eq_true h2;cases hw2;cases hhi;refine ⟨0,h.toNat,rfl,?_⟩;simp only [Instr.sliceBounds,Sem.run_bind,Sem.run_pure,Result.andThen_ok,mC h1 h2]
 · rename_i k n;cases vlo <;> cases vhi <;> simp [jb] at hlo hhi;obtain ⟨h1,hw1⟩:=aL hc;obtain ⟨h2,hw2⟩:=aL hw1;have h1:=of_decide_eq_true h1;have h2:=of_decide_eq_true h2;cases hw2;cases hlo;refine ⟨n.toNat,s.size,rfl,?_⟩;simp only [Instr.sliceBounds,Sem.run_bind,Sem.run_pure,Result.andThen_ok,mC h1 h2]
 · rename_i k n k' h;cases vlo <;> cases vhi <;> simp [jb] at hlo hhi;obtain ⟨h1,hw1⟩:=aL hc;obtain ⟨h2,hw2⟩:=aL hw1;obtain ⟨h3,hw3⟩:=aL hw2;have h1:=of_decide_eq_true h1;have h2:=of_decide_eq_true h2;have h3:=of_decide_eq_true h3;cases hw3;cases hlo;cases hhi;refine ⟨n.toNat,h.toNat,rfl,?_⟩;simp only [Instr.sliceBounds,Sem.run_bind,Sem.run_pure,Result.andThen_ok,mC (show (0:Int)≤h by omega) h3,mC h1 (show n≤(h.toNat:Int) by omega)]
 · cases hc
theorem HM {X:Nat→Prop} {Y:Bool→Nat→Prop} {t te:TypeId} {ti:TypeInfo} {td:TypeDesc} {tz:Value} {e:Ty} {l l':List e.d} {v:Value} {lo hi:Option AV} {vlo vhi:Option Value}
 (hu:P.underlying t=some (.slice te)) (htf:iW P tb te e ti td tz) (h:Rd w X (.slice e) l [v]) (hc:uf l lo hi some=some l') (hlo:jb w Y N φ lo vlo) (hhi:jb w Y N φ hi vhi) :
 ∃ u,(Instr.sliceAt t v vlo vhi none).run P w = .ok u w∧Rd w X (.slice e) l' [u]:=by
 obtain ⟨ad,n,c,xs,hv,hn,hle,hl,hr⟩:=h;cases hv;subst hn;obtain ⟨L,H,hLH,hH,rfl,hb⟩:=Jc (P:=P) (isSl:=true) hc hlo hhi hle;refine ⟨.slice (if c=L then ad else ad.map (·.add (L*e.size))) (H-L) (c-L),?_,?_⟩
 · unfold Instr.sliceAt;rw [Sem.run_bind,run_underlying hu w,Result.andThen_ok];show (Instr.slice t _ vlo vhi none).run P w=_;unfold Instr.slice;rw [Sem.run_bind,run_underlying hu w,Result.andThen_ok];simp only [Sem.run_bind,hb,Result.andThen_ok,htf.run_sizeOf w];rfl
 · refine ⟨_,_,_,(xs.take (H*e.size)).drop (L*e.size),rfl,by rw [List.length_drop,List.length_take];omega,by omega,
    (hl.take (fun x d q=>q.len) H).drop (fun x d q=>q.len) L,fun hne=>?_⟩
   have hlt:L<H:=by
    rcases Nat.lt_or_ge L H with q | q
    · exact q
    · exact absurd (List.drop_eq_nil_of_le (by rw [List.length_take];omega)) hne
   obtain ⟨b,o,rfl,hX,hcell⟩:=hr (by intro q;subst q;simp at hne);rw [if_neg (by omega)];refine ⟨b,o+L*e.size,by simp [kZ],hX,fun j u hj=>?_⟩;rw [List.getElem?_drop,List.getElem?_take] at hj;split at hj
   · rw [Nat.add_assoc];exact hcell _ u hj
   · cases hj
theorem Hf {t:TypeId} (hu:P.underlying t=some .string) {X:Bool→Nat→Prop} {s s':ByteArray} {lo hi:Option AV} {vlo vhi:Option Value} (hc:HO s lo hi some=some s') (hlo:jb w X N φ lo vlo) (hhi:jb w X N φ hi vhi) :
 (Instr.sliceAt t (.string s) vlo vhi none).run P w = .ok (.string s') w:=by
 obtain ⟨L,H,rfl,hb⟩:=Q5 (P:=P) hc hlo hhi;unfold Instr.sliceAt;rw [Sem.run_bind,run_underlying hu w,Result.andThen_ok];show (Instr.slice t _ vlo vhi none).run P w=_;unfold Instr.slice;rw [Sem.run_bind,run_underlying hu w,Result.andThen_ok];simp [hb]
theorem Gz {t te:TypeId} {ti:TypeInfo} (hu:P.underlying t=some (.slice te)) (hti:P.info? te=some ti) {X:Bool→Nat→Prop} {l':List Unit} {lo hi:Option AV} {vlo vhi:Option Value} (hc:uf ([]:List Unit) lo hi some=some l') (hlo:jb w X N φ lo vlo) (hhi:jb w X N φ hi vhi) :
 (Instr.sliceAt t (.slice none 0 0) vlo vhi none).run P w = .ok (.slice none 0 0) w:=by
 obtain ⟨L,H,hLH,hH,_,hb⟩:=Jc (P:=P) (isSl:=true) (c:=0) hc hlo hhi (by simp);have hH0:H=0:=by simpa using hH
 have hL0:L=0:=by omega
 subst hH0;subst hL0;unfold Instr.sliceAt;rw [Sem.run_bind,run_underlying hu w,Result.andThen_ok];show (Instr.slice t _ vlo vhi none).run P w=_;unfold Instr.slice;rw [Sem.run_bind,run_underlying hu w,Result.andThen_ok];simp only [List.length_nil] at hb;simp [hb,sizeOf,typeInfo,hti]
theorem HR {t ty:TypeId} (hu:P.underlying t=some .string) (s:ByteArray):(Builtin.len_ #[t] ty #[.string s]).run P w = .ok (.int .i64 (s.size:Int)) w:=by simp [Builtin.len_,run_underlying hu,goInt]
theorem nE {t te ty:TypeId} (hu:P.underlying t=some (.slice te)) (ad:Option Addr) (n c:Nat):(Builtin.len_ #[t] ty #[.slice ad n c]).run P w = .ok (.int .i64 (n:Int)) w:=by simp [Builtin.len_,run_underlying hu,goInt]
end
end Go.V
end

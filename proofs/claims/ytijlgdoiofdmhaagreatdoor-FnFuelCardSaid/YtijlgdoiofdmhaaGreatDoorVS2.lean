/- V: soundness, part 2 of 10. -/
import Derived.Test.YtijlgdoiofdmhaaGreatDoorVS1
section
set_option linter.unusedVariables false
set_option linter.unusedSimpArgs false
namespace Go.V
open Go.RowKit
section
variable {P:Program} {tb:mh} {w0:Bs} {w:World} {N:Nat→Prop} {φ:Nat→jF} {tm:List AV} {hp:Hp} {a:Act}
abbrev XX (w0:Bs) (w:World) (φ:Nat→jF) (hp:Hp):Bool→Nat→Prop:=Xs w φ hp w0.see
theorem rW {α:Type} {c:Bool} {x:Option α} {y:α} (h:(bif c then none else x)=some y):c=false∧x=some y:=by
 cases c with
 | true=>cases h
 | false=>exact ⟨rfl,h⟩
theorem aM {α:Type} {c:Bool} {x:Option α} {y:α} (h:(bif c then x else none)=some y):c=true∧x=some y:=by
 cases c with
 | true=>exact ⟨rfl,h⟩
 | false=>cases h
theorem yE (op:BinOp) (t:TypeId) (x y:Operand) (k k':IntKind) (m n:Int):(eqGuard op t x y (.int k m) (.int k' n)).run P w = .ok () w:=by unfold eqGuard;cases op <;> simp
theorem y5 (op:BinOp) (t:TypeId) (x y:Operand) (m n:ByteArray):(eqGuard op t x y (.string m) (.string n)).run P w = .ok () w:=by unfold eqGuard;cases op <;> simp
theorem wZ (op:BinOp) (t:TypeId) (x y:Operand) (m n:Bool):(eqGuard op t x y (.bool m) (.bool n)).run P w = .ok () w:=by unfold eqGuard;cases op <;> simp
theorem JP {op:BinOp} {bt:Bool} {eq:Option (List Ty)} {ka kb:IntKind} {m n:Int} {v:AV} {X:Bool→Nat→Prop} (h:qK bt eq op (.int ka m) (.int kb n) some=some v) (t:TypeId) (x y:Operand) :
 ∃ u,(do eqGuard op t x y (.int ka m) (.int kb n);binOp op t (.int ka m) (.int kb n):Sem Value).run P w = .ok u w∧dC w X N φ v u:=by
 rw [Sem.run_bind,yE,Result.andThen_ok];cases op <;> simp only [qK,binOp] at h ⊢
 case shl =>obtain ⟨hn,h⟩:=rW h;cases h;exact ⟨_,by simp [Op.shift,of_decide_eq_false hn],rfl⟩
 case shr =>obtain ⟨hn,h⟩:=rW h;cases h;exact ⟨_,by simp [Op.shift,of_decide_eq_false hn],rfl⟩
 all_goals
  obtain ⟨hk,h⟩:=rW h;have hk:=of_decide_eq_false hk;simp only [ne_eq,Decidable.not_not] at hk;subst hk;simp only [ne_eq,not_true_eq_false,if_false] at h ⊢
 case quo =>
  by_cases hn:n=0
  · simp [hn] at h
  · simp [hn] at h;subst h;exact ⟨_,by simp only [Op.intDiv,if_neg hn];rfl,rfl⟩
 case rem =>
  by_cases hn:n=0
  · simp [hn] at h
  · simp [hn] at h;subst h;exact ⟨_,by simp only [Op.intDiv,if_neg hn];rfl,rfl⟩
 case add=>cases h;exact ⟨_,rfl,rfl⟩
 case sub=>cases h;exact ⟨_,rfl,rfl⟩
 case mul=>cases h;exact ⟨_,rfl,rfl⟩
 case and=>cases h;exact ⟨_,rfl,rfl⟩
 case or=>cases h;exact ⟨_,rfl,rfl⟩
 case xor=>cases h;exact ⟨_,rfl,rfl⟩
 all_goals first
  | (simp only [Cg] at h;cases h;exact ⟨_,rfl,rfl⟩)
  | cases h
theorem JQ {op:BinOp} {bt:Bool} {eq:Option (List Ty)} {m n:ByteArray} {v:AV} {X:Bool→Nat→Prop} (h:qK bt eq op (.str m) (.str n) some=some v) (t:TypeId) (x y:Operand) :
 ∃ u,(do eqGuard op t x y (.string m) (.string n);binOp op t (.string m) (.string n):Sem Value).run P w = .ok u w∧dC w X N φ v u:=by
 rw [Sem.run_bind,y5,Result.andThen_ok];cases op <;> simp only [qK,binOp] at h ⊢
 all_goals first
  | (cases h;exact ⟨_,by simp [Op.stringOp] <;> rfl,rfl⟩)
  | (obtain ⟨hn,h⟩:=rW h
     cases h;exact ⟨_,by simp only [Op.stringOp];rw [if_neg (of_decide_eq_false hn)];rfl,rfl⟩)
  | cases h
theorem Gz {t:TypeId} (ht:P.underlying t=some .bool) (m n:Bool):(Op.equal t (.bool m) (.bool n)).run P w = .ok (m==n) w:=by show (Op.equalIn (9999+1) t (.bool m) (.bool n)).run P w=_;rw [Op.equalIn,Sem.run_bind,run_underlying ht w,Result.andThen_ok];rfl
theorem H6 {t:TypeId} {op:BinOp} {eq:Option (List Ty)} {m n:Bool} {v:AV} {X:Bool→Nat→Prop} (ht:P.underlying t=some .bool) (h:qK true eq op (.bool m) (.bool n) some=some v) (x y:Operand) :
 ∃ u,(do eqGuard op t x y (.bool m) (.bool n);binOp op t (.bool m) (.bool n):Sem Value).run P w = .ok u w∧dC w X N φ v u:=by
 rw [Sem.run_bind,wZ,Result.andThen_ok];cases op <;> simp only [qK,binOp,cond_true] at h ⊢
 all_goals first
  | (cases h;exact ⟨_,by rw [Sem.run_bind,Gz ht];rfl,rfl⟩)
  | cases h
theorem Ll {op:UnOp} {x v:AV} {u:Value} {X:Bool→Nat→Prop} (h:HL op x some=some v) (hx:dC w X N φ x u) :
 ∃ z,(Op.unary op u).run P w = .ok z w∧dC w X N φ v z:=by
 unfold HL at h;split at h
 · cases h;cases hx;exact ⟨_,rfl,rfl⟩
 · cases h;cases hx;exact ⟨_,rfl,rfl⟩
 · cases h;cases hx;exact ⟨_,rfl,rfl⟩
 · cases h
theorem rT {X:Bool→Nat→Prop}:∀ {cs:List AV} {vs:List Value} {i:Nat} {v:AV},dH w X N φ cs vs→cs[i]?=some v→∃ u,vs[i]?=some u∧dC w X N φ v u
 | [],_,i,v,_,h=>by simp at h
 | c::cs,_,0,v,h,hi=>by unfold dH at h;obtain ⟨u,us,e,h2,h3⟩:=h;subst e;simp at hi;subst hi;exact ⟨u,rfl,h2⟩
 | c::cs,_,i+1,v,h,hi=>by unfold dH at h;obtain ⟨u,us,e,h2,h3⟩:=h;subst e;exact rT (cs:=cs) (i:=i) h3 (by simpa using hi)
theorem F0 {X:Bool→Nat→Prop} {t:Ty} {cs:List AV} {vs:List Value} (h:cV w X N φ cs vs) (hl:cs.length=t.size) (hv:Value) (he:if t.agg then hv = .agg vs.toArray else vs=[hv]) :
 dC w X N φ (kR t cs) hv:=by
 cases t with
 | pair s u=>simp [Ty.agg] at he;exact ⟨vs,he,h⟩
 | unit=>simp [Ty.agg] at he;exact ⟨vs,he,h⟩
 | _ =>
  simp [Ty.agg] at he;subst he;cases cs with
  | nil=>simp [cV] at h
  | cons c cs =>unfold cV at h;obtain ⟨u,us,e,h1,h2,h3⟩:=h;cases e;exact h2
end
end Go.V
end
section
namespace Go.V
open Go.RowKit
theorem lG (b o n:Nat):(⟨b,o,none⟩:Addr).add n=⟨b,o+n,none⟩:=by
 unfold Addr.add;split
 · rename_i h;subst h;rfl
 · rfl
section
variable {P:Program} {tb:mh} {w0:Bs} {w:World} {N:Nat→Prop} {φ:Nat→jF} {tm:List AV} {hp:Hp} {a:Act}
def mj (t:Ty) (vs:List Value):Value:=if t.agg then .agg vs.toArray else vs.headD undef
theorem m5 {X:Bool→Nat→Prop} {t:Ty} {cs:List AV} {vs:List Value} (h:cV w X N φ cs vs) (hl:cs.length=t.size):dC w X N φ (kR t cs) (mj t vs):=by
 refine F0 h hl _ ?_;unfold mj;split
 · rfl
 · rename_i ha;have h1:t.size=1:=by cases t <;> simp_all [Ty.agg,Ty.size]
   have:=h.len
   match vs,this with
   | [u],_=>rfl
   | [],e=>simp at e;omega
   | _::_::_,e=>simp at e;omega
theorem Fq {t:Nat} {u:Ty} {i:TypeInfo} {d:TypeDesc} {z:Value} (ht:j4 P tb t u i d z) (b o:Nat) (vs:List Value) (hl:vs.length=u.size)
 (hc:∀ j x,vs[j]?=some x→w.cell? ⟨b,o+j,none⟩=some x):(loadVar t ⟨b,o,none⟩).run P w = .ok (mj u vs) w:=by
 unfold loadVar;rw [Sem.run_bind,ht.run_isAgg w,Result.andThen_ok];unfold mj;cases ha:u.agg with
 | true =>simp only [if_true,Sem.run_bind,ht.run_sizeOf w,Result.andThen_ok];rw [← hl,run_loadCells_list (P:=P) w ⟨b,o,none⟩ vs (fun j v hj=>by rw [lG];exact hc j v hj)];rfl
 | false =>
  have h1:u.size=1:=by cases u <;> simp_all [Ty.agg,Ty.size]
  rw [h1] at hl
  match vs,hl with
  | [x],_ =>have:=hc 0 x rfl;simp only [Nat.add_zero] at this;simp [this]
theorem uf {t:Nat} {u:Ty} {i:TypeInfo} {d:TypeDesc} {z:Value} (ht:j4 P tb t u i d z) (b o:Nat) (vs:List Value) (hl:vs.length=u.size)
 (hc:∀ j x,vs[j]?=some x→w.cell? ⟨b,o+j,none⟩=some x):(Instr.loadAt t (.pointer (some ⟨b,o,none⟩))).run P w = .ok (mj u vs) w:=by
 unfold Instr.loadAt Instr.sureAddr;rw [Sem.run_bind];simp only [Sem.run_pure,Result.andThen_ok];exact Fq ht b o vs hl hc
theorem Bz {M:Nat→Prop} {te size:Nat} {v:Value} {n:Nat} {xs:List Value} {b:Nat} (h:mF w M te size v n xs) (hn:0<n) (hb:∀ g,v.ownBlock=some g→b=g) :
 ∀ j u,xs[j]?=some u→w.cell? ⟨b,j,none⟩=some u:=by
 intro j u hj;rcases h.2 with ⟨rfl,rfl⟩ | ⟨g,cap,cur,rfl,h1,h2,h3,h4,h5,h6⟩
 · exact absurd hn (by omega)
 · have:=h.row.cells (g:=g) rfl j u hj;rw [lG,Nat.zero_add] at this;rw [hb g rfl];exact this
theorem zS {b o off size:Nat} {xs d:List Value} {i n:Nat} (hd:∀ j,j<n→xs[i*n+j]?=d[j]?) (hdl:d.length=n) (hc:∀ j u,xs[j]?=some u→w.cell? ⟨b,o+j,none⟩=some u) :
 ∀ j x,((d.drop off).take size)[j]?=some x→w.cell? ⟨b,o+(i*n+off)+j,none⟩=some x:=by
 intro j x hj;rw [List.getElem?_take] at hj;split at hj
 · rw [List.getElem?_drop] at hj;have hlt:off+j<n:=by
    have:=(List.getElem?_eq_some_iff.1 hj).1;omega
   have:=hc (i*n+(off+j)) x ((hd _ hlt).trans hj);rw [← this];congr 2;omega
 · cases hj
theorem L5 {X:Bool→Nat→Prop} {t:Nat} {u:Ty} {i:TypeInfo} {d:TypeDesc} {z:Value} (ht:j4 P tb t u i d z) {B:Nat→Prop} {r i' off:Nat} {p:Bool} {e:Ty} {l:List e.d} {x:u.d}
 (hr:oJ w X N φ B r p e l) (hi:i'<(φ r).n) (hx:xX u e (l.getD i' e.z) off=some x) :
 ∃ y,(Instr.loadAt t (.pointer (some ⟨(φ r).b,i'*(φ r).sz+off,none⟩))).run P w = .ok y w∧dC w X N φ (kR u (inj p u x)) y:=by
 obtain ⟨_,hsz,hn,hb,te,xs,ho,hl⟩:=hr;rw [hn] at hi;obtain ⟨ds,hds,hdj⟩:=hl.get (fun x d hh=>hh.len) i' e.z hi;obtain ⟨g1,g2⟩:=wR e hx hds;refine ⟨_,?_,m5 (g1.inj (p:=p)) (by have:=(g1.inj (φ:=φ) (N:=N) (p:=p)).len;rw [← this];exact g1.len)⟩;rw [hsz];have hc:=Bz ho (by omega) hb;have:=zS (o:=0) (off:=off) (size:=u.size) hdj hds.len (by simpa using hc);rw [Nat.zero_add] at this;exact uf ht _ _ _ g1.len this
theorem ME (h:Ok w0 N φ tm hp a w) {t:Nat} {u:Ty} {i:TypeInfo} {d:TypeDesc} {z:Value} (ht:j4 P tb t u i d z) {av v:AV} {p:Value}
 (hv:ld hp u av some=some v) (hp':dC w (XX w0 w φ hp) N φ av p):∃ x,(Instr.loadAt t p).run P w = .ok x w∧dC w (XX w0 w φ hp) N φ v x:=by
 unfold ld at hv;split at hv
 · rename_i r i' off;obtain ⟨hN,hi,he⟩:=hp';subst he;have hr:=h.rows r;split at hv
   · rename_i cs hrow;rw [hrow] at hr;obtain ⟨_,hB,hn,vs,te,hh,hcs⟩:=hr;obtain ⟨hle,hv⟩:=aM hv;cases hv;have hle:=Nat.le_of_ble_eq_true hle;rw [hn] at hi;have hi0:i'=0:=by omega
     subst hi0;have hlen:=hcs.len;refine ⟨mj u ((vs.toList.drop off).take u.size),?_,m5 ((hcs.drop off).take u.size) (by rw [List.length_take,List.length_drop];omega)⟩;rw [Nat.zero_mul,Nat.zero_add];refine uf ht _ _ _ (by rw [List.length_take,List.length_drop];omega) (fun j x hj=>?_);rw [cell_of_row w _ _ vs te (0,0) hh];rw [List.getElem?_take] at hj;split at hj
     · rw [List.getElem?_drop] at hj;simpa using hj
     · cases hj
   · rename_i p e l hrow;rw [hrow] at hr;split at hv
     · rename_i x hx;cases hv;exact L5 ht hr hi hx
     · cases hv
   · rename_i p e l hrow;rw [hrow] at hr;split at hv
     · rename_i x hx;cases hv;exact L5 ht hr.1 hi hx
     · cases hv
   · cases hv
 · rename_i p e l i' off;obtain ⟨hi,b,o,xs,hv',hb,hl,hc⟩:=hp';subst hv';split at hv
   · rename_i x hx;cases hv;obtain ⟨ds,hds,hdj⟩:=hl.get (fun x d hh=>hh.len) i' e.z hi;obtain ⟨g1,g2⟩:=wR e hx hds;refine ⟨_,?_,m5 (g1.inj (p:=p)) (by have:=(g1.inj (φ:=φ) (N:=N) (p:=p)).len;rw [← this];exact g1.len)⟩;exact uf ht _ _ _ g1.len (zS (off:=off) (size:=u.size) hdj hds.len hc)
   · cases hv
 · cases hv
theorem IX {X:Bool→Nat→Prop} {av v:AV} {p:Value} {n:Nat} (hv:uk av n some=some v) (hp':dC w X N φ av p) :
 ∃ b o,p = .pointer (some ⟨b,o,none⟩)∧dC w X N φ v (.pointer (some ⟨b,o+n,none⟩)):=by
 unfold uk at hv;split at hv
 · rename_i r i off;cases hv;obtain ⟨h1,h2,h3⟩:=hp';exact ⟨_,_,h3,h1,h2,by rw [Nat.add_assoc]⟩
 · rename_i q e l i off;cases hv;obtain ⟨h1,b,o,xs,h2,h3,h4,h5⟩:=hp';exact ⟨_,_,h2,h1,b,o,xs,by rw [Nat.add_assoc,Nat.add_assoc],h3,h4,h5⟩
 · cases hv
theorem F6 (hP:cX P tb=true) {s f n:Nat} (hn:Bm tb s f=some n) (b o:Nat) :
 (Instr.fieldAt s (.pointer (some ⟨b,o,none⟩)) f).run P w = .ok (.pointer (some ⟨b,o+n,none⟩)) w:=by
 unfold Bm at hn;split at hn
 · rename_i offs ho;split at hn
   · rename_i p hp';cases hn;obtain ⟨fs,hu,_,hall⟩:=tv hP ho;obtain ⟨h0,fd,i,hf,hoff,hi,hsz⟩:=hall f p hp';have hz:(sizeOf fd.type).run P w = .ok p.2 w:=by simp [sizeOf,typeInfo,hi,hsz]
     have hne:¬ p.2=0:=by omega
     unfold Instr.fieldAt;simp only [Sem.run_bind,run_underlying hu w,Result.andThen_ok,hf,Instr.sureAddr,Sem.run_pure,fieldPlace,hz,if_neg hne,lG,hoff]
   · cases hn
 · cases hn
theorem Ad {X:Bool→Nat→Prop} {p:Bool} {e:Ty} {l:List e.d} {v:Value} (h:Rd w (X p) (.slice e) l [v]) :
 ∃ a c,v = .slice a l.length c∧l.length≤c∧∃ xs,n9 (Rd w (X p) e) l xs∧(l≠[]→∃ b o,a=some ⟨b,o,none⟩∧X p b∧∀ j u,xs[j]?=some u→w.cell? ⟨b,o+j,none⟩=some u):=by
 obtain ⟨a,n,c,xs,hc,hn,hle,hl,hr⟩:=h;cases hc;subst hn;exact ⟨a,c,rfl,hle,xs,hl,hr⟩
theorem kc {M:Nat→Prop} {te size:Nat} {v:Value} {n:Nat} {xs:List Value} (h:mF w M te size v n xs):∃ a c,v = .slice a n c∧n≤c∧(0<n→∃ g,a=some ⟨g,0,none⟩∧v.ownBlock=some g):=by
 rcases h.2 with ⟨rfl,rfl⟩ | ⟨g,cap,cur,rfl,h1,h2,h3,h4,h5,h6⟩
 · exact ⟨none,0,rfl,Nat.le_refl _,fun h=>absurd h (by omega)⟩
 · exact ⟨_,cap,rfl,h3,fun _=>⟨g,rfl,rfl⟩⟩
theorem j4.slice {t:Nat} {e:Ty} {i:TypeInfo} {d:TypeDesc} {z:Value} (hP:cX P tb=true) (ht:j4 P tb t (.slice e) i d z) :
 ∃ te,P.underlying t=some (.slice te)∧look tb.ty te=some e∧0<e.size∧plain e=true∧∃ i' d' z',j4 P tb te e i' d' z':=by
 have hk:=ht.kind;have hu:=ht.under;cases d <;> simp [fL] at hk;rename_i te;obtain ⟨⟨h1,h2⟩,h3⟩:=hk;exact ⟨te,hu,h1,h2,h3,jd hP h1⟩
theorem ve (hP:cX P tb=true) {t:Nat} {e:Ty} (h:sW tb t=some e) :
 ∃ te,P.underlying t=some (.slice te)∧0<e.size∧plain e=true∧∃ i' d' z',j4 P tb te e i' d' z':=by
 unfold sW at h;split at h
 · rename_i e' hl;cases h;obtain ⟨i,d,z,ht⟩:=jd hP hl;obtain ⟨te,h1,_,h2,h3,h4⟩:=ht.slice hP;exact ⟨te,h1,h2,h3,h4⟩
 · cases h
theorem xi {t te:TypeId} {i:TypeInfo} (hu:P.underlying t=some (.slice te)) (hi:P.info? te=some i) (b o n len c:Nat) (k:IntKind) (hn:n<len) :
 (Instr.indexAt t (.slice (some ⟨b,o,none⟩) len c) (.int k n)).run P w = .ok (.pointer (some ⟨b,o+n*i.size,none⟩)) w:=by
 unfold Instr.indexAt;have h1:(0:Int)≤(n:Int)∧(n:Int)<(len:Int):=by omega
 simp [asIntOf,run_underlying hu,h1,hn,sizeOf,typeInfo,hi,lG]
theorem C9 {X:Bool→Nat→Prop} {t te:TypeId} {k:IntKind} (hu:P.underlying t=some (.slice te)) {B:Nat→Prop} {r:Nat} {n:Int} {p:Bool} {e:Ty} {l:List e.d} {i:TypeInfo} {d:TypeDesc} {z y:Value} (htf:j4 P tb te e i d z)
 (hr:oJ w X N φ B r p e l) (h2:0≤n) (h3:n<(l.length:Int)) (hx:dC w X N φ (.ref r) y) :
 ∃ q,(Instr.indexAt t y (.int k n)).run P w = .ok q w∧dC w X N φ (.ptr r n.toNat 0) q:=by
 obtain ⟨hN,he',_⟩:=hx;obtain ⟨_,hs,hn,hb,te',xs,ho,hl⟩:=hr;obtain ⟨m,rfl⟩:=Int.eq_ofNat_of_zero_le h2;obtain ⟨ad,c,hsl,hc,hg⟩:=kc ho;obtain ⟨g,rfl,hg2⟩:=hg (by omega);rw [hsl] at he';subst he';refine ⟨_,xi hu htf.info g 0 m _ c _ (by omega),hN,by rw [hn];simp;omega,?_⟩;rw [hb g (by rw [hsl];rfl),hs,htf.size];simp
theorem xb {R:Type} {k:Nat→Option R} {n:Int} {y:R}:∀ {m i:Nat},ug k n m i=some y→∃ j,i≤j∧j<i+m∧n=(j:Int)∧k j=some y
 | 0,_,h=>by cases h
 | m+1,i,h=>by
  unfold ug at h;cases c:OV n i with
  | true =>rw [c] at h;exact ⟨i,Nat.le_refl _,by omega,of_decide_eq_true c,h⟩
  | false =>rw [c] at h;obtain ⟨j,h1,h2,h3,h4⟩:=xb (m:=m) h;exact ⟨j,by omega,by omega,h3,h4⟩
theorem E0 {t te:TypeId} {m:Nat} {i:TypeInfo} (hu:P.underlying t=some (.array m te)) (hi:P.info? te=some i) (b o n:Nat) (k:IntKind) (hn:n<m) :
 (Instr.indexAt t (.pointer (some ⟨b,o,none⟩)) (.int k n)).run P w = .ok (.pointer (some ⟨b,o+n*i.size,none⟩)) w:=by
 unfold Instr.indexAt;have h1:(0:Int)≤(n:Int)∧(n:Int)<(m:Int):=by omega
 simp [asIntOf,run_underlying hu,Instr.sureAddr,h1,hn,sizeOf,typeInfo,hi,lG]
theorem E5 (h:Ok w0 N φ tm hp a w) (hP:cX P tb=true) {t:Nat} {x i v:AV} {p q:Value} (hv:indexAddr tb hp t x i some=some v)
 (hx:dC w (XX w0 w φ hp) N φ x p) (hi:dC w (XX w0 w φ hp) N φ i q):∃ y,(Instr.indexAt t p q).run P w = .ok y w∧dC w (XX w0 w φ hp) N φ v y:=by
 unfold indexAddr at hv;split at hv
 · rename_i e k n he;obtain ⟨te,hu,hsz,hpl,ti,td,tz,htf⟩:=ve hP he;cases hi;split at hv
   · rename_i r;have hr:=h.rows r;split at hv
     · rename_i pp t' l hrow;rw [hrow] at hr;obtain ⟨h1,hw1⟩:=aM hv;obtain ⟨h2,hw2⟩:=aM hw1;obtain ⟨h3,hw3⟩:=aM hw2;have h1:=of_decide_eq_true h1;subst h1;cases hw3;exact C9 hu htf hr (of_decide_eq_true h2) (of_decide_eq_true h3) hx
     · rename_i pp t' l hrow;rw [hrow] at hr;obtain ⟨h1,hw1⟩:=aM hv;obtain ⟨h2,hw2⟩:=aM hw1;obtain ⟨h3,hw3⟩:=aM hw2;have h1:=of_decide_eq_true h1;subst h1;cases hw3;exact C9 hu htf hr.1 (of_decide_eq_true h2) (of_decide_eq_true h3) hx
     · cases hv
   · rename_i pp t' l;obtain ⟨h1,hw1⟩:=aM hv;obtain ⟨h2,hw2⟩:=aM hw1;obtain ⟨h3,hw3⟩:=aM hw2;have h1:=of_decide_eq_true h1;have h2:=of_decide_eq_true h2;have h3:=of_decide_eq_true h3;subst h1;cases hw3;obtain ⟨ad,c,hsl,hc,xs,hl,hne⟩:=Ad (X:=XX w0 w φ hp) hx;obtain ⟨m,rfl⟩:=Int.eq_ofNat_of_zero_le h2;obtain ⟨b,o,rfl,hX,hcell⟩:=hne (by intro q;subst q;simp at h3;omega);subst hsl;refine ⟨_,xi hu htf.info b o m _ c _ (by omega),by simp;omega,b,o,xs,?_,hX,hl,hcell⟩;rw [htf.size];simp
   · cases hv
 · rename_i k n he;cases hi;split at hv
   · rename_i m sz r j off harr;obtain ⟨te,ti,hu,hti,hsz⟩:=Hj hP harr;obtain ⟨jx,_,g2,rfl,g4⟩:=xb hv;cases g4;obtain ⟨hN,hlt,rfl⟩:=hx;refine ⟨_,E0 hu hti _ _ jx k (by omega),hN,hlt,?_⟩;rw [hsz,Nat.add_assoc]
   · cases hv
 · cases hv
end
end Go.V
end
section
namespace Go.V
open Go.RowKit
section
variable {P:Program} {tb:mh} {w0:Bs} {w:World} {N:Nat→Prop} {φ:Nat→jF} {tm:List AV} {hp:Hp} {a:Act}
theorem vM {X Y:_} {B:Nat→Prop} {r:Nat} {p:Bool} {e:Ty} {l:List e.d} (hr:oJ w X N φ B r p e l) (hY:∀ b,(φ r).v.ownBlock=some b→Y b) (hX:∀ b,X p b→Y b) :
 Rd w Y (.slice e) l [(φ r).v]:=by
 obtain ⟨_,hs,hn,hb,te,xs,ho,hl⟩:=hr;obtain ⟨ad,c,hsl,hc,hg⟩:=kc ho;refine ⟨ad,l.length,c,xs,by rw [hsl],rfl,hc,hl.mono hX (fun _ _=>rfl),fun hne=>?_⟩;obtain ⟨g,rfl,hg2⟩:=hg (by cases l;exact absurd rfl hne;simp);refine ⟨g,0,rfl,hY g hg2,fun j u hj=>?_⟩;have:=ho.row.cells hg2 j u hj
 rwa [lG] at this
def CH (w0:Bs) (w:World) (φ:Nat→jF) (hp:Hp) (Y:Nat→Prop) (c:AV):Prop :=
 (∀ p b,(p=true→taint1 hp c=true)→XX w0 w φ hp p b→Y b) ∧
 (∀ r p e l b,c = .ref r→(hp r = .own p e l∨hp r = .fro p e l)→(φ r).v.ownBlock=some b→Y b)
theorem FY (h:Ok w0 N φ tm hp a w) {Y:Nat→Prop} {c:AV} {v:Value} {e:Ty} {l:List e.d} (hY:CH w0 w φ hp Y c) (hg:getSl hp e c=some l)
 (hv:dC w (XX w0 w φ hp) N φ c v):Rd w Y (.slice e) l [v]:=by
 unfold getSl at hg;split at hg
 · cases hg;cases hv;exact ⟨none,0,0,[],rfl,rfl,Nat.le_refl _,rfl,fun h=>absurd rfl h⟩
 · rename_i p t l';obtain ⟨he,rfl⟩:=nK hg;subst he;exact Rd.mono (fun b hb=>hY.1 p b (fun q=>q) hb) (fun _ _=>rfl) hv
 · rename_i r;have hr:=h.rows r;obtain ⟨hN,rfl,_⟩:=hv;split at hg
   · rename_i p t l' hrow;rw [hrow] at hr;obtain ⟨he,rfl⟩:=nK hg;subst he;exact vM hr (fun b hb=>hY.2 r p t l' b rfl (Or.inl hrow) hb) (fun b hb=>hY.1 p b (fun q=>by simp [taint1,hrow,q]) hb)
   · rename_i p t l' hrow;rw [hrow] at hr;obtain ⟨he,rfl⟩:=nK hg;subst he;exact vM hr.1 (fun b hb=>hY.2 r p t l' b rfl (Or.inr hrow) hb) (fun b hb=>hY.1 p b (fun q=>by simp [taint1,hrow,q]) hb)
   · cases hg
 · cases hg
theorem d7 {α β:Type} {x:Option α} {y:Option β} {z:α × β} (h:vY x y=some z):x=some z.1∧y=some z.2:=by cases x <;> cases y <;> simp [vY] at h;subst h;exact ⟨rfl,rfl⟩
theorem qm {X:Bool→Nat→Prop} {c:AV} {vs:List Value} (h:cV w X N φ [c] vs):∃ v,vs=[v]∧v.oneCell'=true∧dC w X N φ c v:=by unfold cV at h;obtain ⟨u,us,e,h1,h2,h3⟩:=h;unfold cV at h3;subst h3;exact ⟨u,e,h1,h2⟩
theorem nA (h:Ok w0 N φ tm hp a w) {Y:Nat→Prop}:∀ (t:Ty) {cs:List AV} {vs:List Value} {x:t.d},(∀ c ∈ cs,CH w0 w φ hp Y c)→prj hp t cs=some x →
 cV w (XX w0 w φ hp) N φ cs vs→Rd w Y t x vs
 | .bool,cs,vs,x,hY,hx,hr=>by
  simp only [prj] at hx;unfold w9 at hx;split at hx
  · cases hx;obtain ⟨v,rfl,_,hv⟩:=qm hr;cases hv;rfl
  · cases hx
 | .int k,cs,vs,x,hY,hx,hr=>by
  simp only [prj] at hx;unfold zm at hx;split at hx
  · split at hx
    · rename_i k' n hk;subst hk;cases hx;obtain ⟨v,rfl,_,hv⟩:=qm hr;cases hv;rfl
    · cases hx
  · cases hx
 | .str,cs,vs,x,hY,hx,hr=>by
  simp only [prj] at hx;unfold zQ at hx;split at hx
  · cases hx;obtain ⟨v,rfl,_,hv⟩:=qm hr;cases hv;rfl
  · cases hx
 | .slice e,cs,vs,x,hY,hx,hr=>by
  simp only [prj] at hx;unfold uj at hx;split at hx
  · obtain ⟨v,rfl,_,hv⟩:=qm hr;exact FY h (hY _ (List.mem_cons_self ..)) hx hv
  · cases hx
 | .pair a b,cs,vs,x,hY,hx,hr=>by
  simp only [prj] at hx;obtain ⟨h1,h2⟩:=d7 hx;exact ⟨vs.take a.size,vs.drop a.size,(List.take_append_drop ..).symm,
   nA h a (fun c hc=>hY c (List.mem_of_mem_take hc)) h1 (hr.take a.size),
   nA h b (fun c hc=>hY c (List.mem_of_mem_drop hc)) h2 (hr.drop a.size)⟩
 | .unit,cs,vs,x,hY,hx,hr=>by
  simp only [prj] at hx;unfold w_ at hx;split at hx
  · unfold cV at hr;exact hr
  · cases hx
 | .opq,cs,vs,x,hY,hx,hr=>by cases hx
theorem kZ {X:Bool→Nat→Prop} {v:AV} {u:Value} (h:dC w X N φ v u) (hn:Ej v=true):cV w X N φ (cellsOf v) u.cells.toList:=by
 cases v with
 | agg cs =>obtain ⟨vs,rfl,h⟩:=h;exact h
 | tup vs=>cases hn
 | junk=>cases hn
 | bool b=>cases h;exact ⟨_,_,rfl,rfl,rfl,rfl⟩
 | int k n=>cases h;exact ⟨_,_,rfl,rfl,rfl,rfl⟩
 | str s=>cases h;exact ⟨_,_,rfl,rfl,rfl,rfl⟩
 | nil e=>cases h;exact ⟨_,_,rfl,rfl,rfl,rfl⟩
 | sl p e l =>obtain ⟨ad,n,c,xs,hc,hr⟩:=h;cases hc;exact ⟨_,_,rfl,rfl,⟨ad,n,c,xs,rfl,hr⟩,rfl⟩
 | ref r=>obtain ⟨h1,h2,ad,n,c,rfl⟩:=h;exact ⟨_,_,rfl,rfl,⟨h1,h2,ad,n,c,rfl⟩,rfl⟩
 | ptr r i off=>obtain ⟨h1,h2,rfl⟩:=h;exact ⟨_,_,rfl,rfl,⟨h1,h2,rfl⟩,rfl⟩
 | sptr p e l i off=>obtain ⟨h1,b,o,xs,rfl,h3⟩:=h;exact ⟨_,_,rfl,rfl,⟨h1,b,o,xs,rfl,h3⟩,rfl⟩
 | fn f cs=>obtain ⟨vs,rfl,h⟩:=h;exact ⟨_,_,rfl,rfl,⟨vs,rfl,h⟩,rfl⟩
end
end Go.V
end
section
namespace Go.V
open Go.RowKit
theorem n9.take {α:Type} {R:α→List Value→Prop} {n:Nat} (hR:∀ x d,R x d→d.length=n):∀ {l:List α} {xs:List Value} (k:Nat),n9 R l xs→n9 R (l.take k) (xs.take (k*n))
 | _,_,0,_=>by simp [n9]
 | [],_,k+1,h=>by cases h;simp [n9]
 | x::l,_,k+1,⟨d,r,e,h1,h2⟩=>by subst e;have hl:=hR x d h1;refine ⟨d,r.take (k*n),?_,h1,n9.take hR k h2⟩;rw [show (k+1)*n=d.length+k*n by rw [Nat.succ_mul,hl];omega,List.take_length_add_append]
theorem n9.drop {α:Type} {R:α→List Value→Prop} {n:Nat} (hR:∀ x d,R x d→d.length=n):∀ {l:List α} {xs:List Value} (k:Nat),n9 R l xs→n9 R (l.drop k) (xs.drop (k*n))
 | _,_,0,h=>by simpa using h
 | [],_,k+1,h=>by cases h;simp [n9]
 | x::l,_,k+1,⟨d,r,e,h1,h2⟩=>by subst e;have hl:=hR x d h1;rw [show (k+1)*n=d.length+k*n by rw [Nat.succ_mul,hl];omega,List.drop_length_add_append];exact n9.drop hR k h2
section
variable {P:Program} {tb:mh} {w0:Bs} {w:World} {N:Nat→Prop} {φ:Nat→jF} {tm:List AV} {hp:Hp} {a:Act}
theorem ml {k:IntKind} {n:Int} {y:Nat} {code:BoundsCode} (h0:0≤n) (h1:n≤(y:Int)):(Instr.sliceBound (.int k n) y code).run P w = .ok n.toNat w:=by simp [Instr.sliceBound,asIntOf,h0,h1]
def kH (w:World) (X:Bool→Nat→Prop) (N:Nat→Prop) (φ:Nat→jF):Option AV→Option Value→Prop
 | none,none=>True
 | some a,some v=>dC w X N φ a v
 | _,_=>False
theorem yq {X:Bool→Nat→Prop} {f:Operand→AV} {g:Operand→Value} (h:∀ x,dC w X N φ (f x) (g x)) (o:Option Operand):kH w X N φ (o.map f) (o.map g):=by
 cases o with
 | none=>trivial
 | some x=>exact h x
theorem I6 {α:Type} {X:Bool→Nat→Prop} {l l':List α} {lo hi:Option AV} {vlo vhi:Option Value} {c:Nat} {isSl:Bool} (hc:ut l lo hi some=some l') (hlo:kH w X N φ lo vlo) (hhi:kH w X N φ hi vhi) (hlen:l.length≤c) :
 ∃ L H,L≤H∧H≤l.length∧l'=(l.take H).drop L∧(Instr.sliceBounds isSl l.length c vlo vhi none).run P w = .ok (L,H,c) w:=by
 unfold ut at hc;split at hc
 · cases hc;cases vlo <;> cases vhi <;> simp [kH] at hlo hhi;exact ⟨0,l.length,by omega,by omega,by simp,by simp [Instr.sliceBounds]⟩
 · rename_i k h;cases vlo <;> cases vhi <;> simp [kH] at hlo hhi;obtain ⟨h1,hw1⟩:=aM hc;obtain ⟨h2,hw2⟩:=aM hw1;have h1:=of_decide_eq_true h1;have h2:=of_decide_eq_true h2;cases hw2;cases hhi;refine ⟨0,h.toNat,by omega,by omega,by simp,?_⟩;simp only [Instr.sliceBounds,Sem.run_bind,Sem.run_pure,Result.andThen_ok,ml h1 (show h≤(c:Int) by omega)]
 · rename_i k n;cases vlo <;> cases vhi <;> simp [kH] at hlo hhi;obtain ⟨h1,hw1⟩:=aM hc;obtain ⟨h2,hw2⟩:=aM hw1;have h1:=of_decide_eq_true h1;have h2:=of_decide_eq_true h2;cases hw2;cases hlo;refine ⟨n.toNat,l.length,by omega,by omega,by simp,?_⟩;simp only [Instr.sliceBounds,Sem.run_bind,Sem.run_pure,Result.andThen_ok,ml h1 h2]
 · rename_i k n k' h;cases vlo <;> cases vhi <;> simp [kH] at hlo hhi;obtain ⟨h1,hw1⟩:=aM hc;obtain ⟨h2,hw2⟩:=aM hw1;obtain ⟨h3,hw3⟩:=aM hw2;have h1:=of_decide_eq_true h1;have h2:=of_decide_eq_true h2;have h3:=of_decide_eq_true h3;cases hw3;cases hlo;cases hhi;refine ⟨n.toNat,h.toNat,by omega,by omega,rfl,?_⟩;simp only [Instr.sliceBounds,Sem.run_bind,Sem.run_pure,Result.andThen_ok,ml (show (0:Int)≤h by omega) (show h≤(c:Int) by omega),
    ml h1 (show n≤(h.toNat:Int) by omega)]
 · cases hc
theorem M4 {X:Bool→Nat→Prop} {s s':ByteArray} {lo hi:Option AV} {vlo vhi:Option Value} (hc:Ep s lo hi some=some s') (hlo:kH w X N φ lo vlo) (hhi:kH w X N φ hi vhi) :
 ∃ L H,s'=s.extract L H∧(Instr.sliceBounds false s.size s.size vlo vhi none).run P w = .ok (L,H,s.size) w:=by
 unfold Ep at hc;split at hc
 · cases hc;cases vlo <;> cases vhi <;> simp [kH] at hlo hhi;exact ⟨0,s.size,by simp,by simp [Instr.sliceBounds]⟩
 · rename_i k h;cases vlo <;> cases vhi <;> simp [kH] at hlo hhi;obtain ⟨h1,hw1⟩:=aM hc;obtain ⟨h2,hw2⟩:=aM hw1;have h1:=of_decide_eq_true h1;have h2:=of_decide_eq_true h2;cases hw2;cases hhi;refine ⟨0,h.toNat,rfl,?_⟩;simp only [Instr.sliceBounds,Sem.run_bind,Sem.run_pure,Result.andThen_ok,ml h1 h2]
 · rename_i k n;cases vlo <;> cases vhi <;> simp [kH] at hlo hhi;obtain ⟨h1,hw1⟩:=aM hc;obtain ⟨h2,hw2⟩:=aM hw1;have h1:=of_decide_eq_true h1;have h2:=of_decide_eq_true h2;cases hw2;cases hlo;refine ⟨n.toNat,s.size,rfl,?_⟩;simp only [Instr.sliceBounds,Sem.run_bind,Sem.run_pure,Result.andThen_ok,ml h1 h2]
 · rename_i k n k' h;cases vlo <;> cases vhi <;> simp [kH] at hlo hhi;obtain ⟨h1,hw1⟩:=aM hc;obtain ⟨h2,hw2⟩:=aM hw1;obtain ⟨h3,hw3⟩:=aM hw2;have h1:=of_decide_eq_true h1;have h2:=of_decide_eq_true h2;have h3:=of_decide_eq_true h3;cases hw3;cases hlo;cases hhi;refine ⟨n.toNat,h.toNat,rfl,?_⟩;simp only [Instr.sliceBounds,Sem.run_bind,Sem.run_pure,Result.andThen_ok,ml (show (0:Int)≤h by omega) h3,ml h1 (show n≤(h.toNat:Int) by omega)]
 · cases hc
theorem EI {X:Nat→Prop} {Y:Bool→Nat→Prop} {t te:TypeId} {ti:TypeInfo} {td:TypeDesc} {tz:Value} {e:Ty} {l l':List e.d} {v:Value} {lo hi:Option AV} {vlo vhi:Option Value}
 (hu:P.underlying t=some (.slice te)) (htf:j4 P tb te e ti td tz) (h:Rd w X (.slice e) l [v]) (hc:ut l lo hi some=some l') (hlo:kH w Y N φ lo vlo) (hhi:kH w Y N φ hi vhi) :
 ∃ u,(Instr.sliceAt t v vlo vhi none).run P w = .ok u w∧Rd w X (.slice e) l' [u]:=by
 obtain ⟨ad,n,c,xs,hv,hn,hle,hl,hr⟩:=h;cases hv;subst hn;obtain ⟨L,H,hLH,hH,rfl,hb⟩:=I6 (P:=P) (isSl:=true) hc hlo hhi hle;refine ⟨.slice (if c=L then ad else ad.map (·.add (L*e.size))) (H-L) (c-L),?_,?_⟩
 · unfold Instr.sliceAt;rw [Sem.run_bind,run_underlying hu w,Result.andThen_ok];show (Instr.slice t _ vlo vhi none).run P w=_;unfold Instr.slice;rw [Sem.run_bind,run_underlying hu w,Result.andThen_ok];simp only [Sem.run_bind,hb,Result.andThen_ok,htf.run_sizeOf w];rfl
 · refine ⟨_,_,_,(xs.take (H*e.size)).drop (L*e.size),rfl,by rw [List.length_drop,List.length_take];omega,by omega,
    (hl.take (fun x d q=>q.len) H).drop (fun x d q=>q.len) L,fun hne=>?_⟩
   have hlt:L<H:=by
    rcases Nat.lt_or_ge L H with q | q
    · exact q
    · exact absurd (List.drop_eq_nil_of_le (by rw [List.length_take];omega)) hne
   obtain ⟨b,o,rfl,hX,hcell⟩:=hr (by intro q;subst q;simp at hne);rw [if_neg (by omega)];refine ⟨b,o+L*e.size,by simp [lG],hX,fun j u hj=>?_⟩;rw [List.getElem?_drop,List.getElem?_take] at hj;split at hj
   · rw [Nat.add_assoc];exact hcell _ u hj
   · cases hj
theorem EZ {t:TypeId} (hu:P.underlying t=some .string) {X:Bool→Nat→Prop} {s s':ByteArray} {lo hi:Option AV} {vlo vhi:Option Value} (hc:Ep s lo hi some=some s') (hlo:kH w X N φ lo vlo) (hhi:kH w X N φ hi vhi) :
 (Instr.sliceAt t (.string s) vlo vhi none).run P w = .ok (.string s') w:=by
 obtain ⟨L,H,rfl,hb⟩:=M4 (P:=P) hc hlo hhi;unfold Instr.sliceAt;rw [Sem.run_bind,run_underlying hu w,Result.andThen_ok];show (Instr.slice t _ vlo vhi none).run P w=_;unfold Instr.slice;rw [Sem.run_bind,run_underlying hu w,Result.andThen_ok];simp [hb]
theorem F1 {t te:TypeId} {ti:TypeInfo} (hu:P.underlying t=some (.slice te)) (hti:P.info? te=some ti) {X:Bool→Nat→Prop} {l':List Unit} {lo hi:Option AV} {vlo vhi:Option Value} (hc:ut ([]:List Unit) lo hi some=some l') (hlo:kH w X N φ lo vlo) (hhi:kH w X N φ hi vhi) :
 (Instr.sliceAt t (.slice none 0 0) vlo vhi none).run P w = .ok (.slice none 0 0) w:=by
 obtain ⟨L,H,hLH,hH,_,hb⟩:=I6 (P:=P) (isSl:=true) (c:=0) hc hlo hhi (by simp);have hH0:H=0:=by simpa using hH
 have hL0:L=0:=by omega
 subst hH0;subst hL0;unfold Instr.sliceAt;rw [Sem.run_bind,run_underlying hu w,Result.andThen_ok];show (Instr.slice t _ vlo vhi none).run P w=_;unfold Instr.slice;rw [Sem.run_bind,run_underlying hu w,Result.andThen_ok];simp only [List.length_nil] at hb;simp [hb,sizeOf,typeInfo,hti]
theorem EG {t ty:TypeId} (hu:P.underlying t=some .string) (s:ByteArray):(Builtin.len_ #[t] ty #[.string s]).run P w = .ok (.int .i64 (s.size:Int)) w:=by simp [Builtin.len_,run_underlying hu,goInt]
theorem o8 {t te ty:TypeId} (hu:P.underlying t=some (.slice te)) (ad:Option Addr) (n c:Nat):(Builtin.len_ #[t] ty #[.slice ad n c]).run P w = .ok (.int .i64 (n:Int)) w:=by simp [Builtin.len_,run_underlying hu,goInt]
end
end Go.V
end

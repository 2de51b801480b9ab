/- V: soundness, part 10 of 10. -/
import Derived.Test.YtijlgdoiofdmhaaGreatDoorVS9
import Derived.DataReads
import Derived.SizedLaws
import Derived.ChangeShapes
import Derived.ChangeReads
import Derived.ChangeOld
import Derived.OpenShut
import Derived.DataShut
section
set_option linter.unusedVariables false
set_option linter.unusedSimpArgs false
namespace Go.V
open Go.RowKit
def sC (tb:mh):Nat→List (Nat × Nat)→List Nat→Ty→Bool
 | _,[],[],.unit=>true
 | n,(o,s)::offs,t::ts,.pair a b=>Nat.beq o n&&Nat.beq s a.size&&decide (look tb.ty t=some a)&&sC tb (n+s) offs ts b
 | _,_,_,_=>false
def wJ (tb:mh) (t:Nat) (u:Ty):Bool :=
 match u with
 | .pair _ _ | .unit=>(match look tb.off t,look tb.fty t with | some offs,some ts=>sC tb 0 offs ts u | _,_=>false)
 | _=>true
def ni (tb:mh):Bool:=tb.ty.all fun p=>wJ tb p.1 p.2
section
variable {H:Type} {enc:TypeId × Value→H} {P:Program} {w:World} {base:Nat} {spare:Nat→Bool} {held:Bool} {tb:mh}
theorem qv {t:Nat} {u:Ty} (h:ni tb=true) (hl:look tb.ty t=some u):wJ tb t u=true:=List.all_eq_true.1 h _ (pj hl)
theorem C4 {a:Addr} {v:Value} (h:w.cell? a=some v):a.spot=none∧a.block<w.heap.size:=by
 unfold World.cell? at h;split at h
 · rename_i c _ _ hb;refine ⟨?_,?_⟩
   · cases hs:a.spot with
     | none=>rfl
     | some s=>rw [hs] at h;simp at h
   · by_cases q:a.block<w.heap.size
     · exact q
     · rw [Array.getElem?_eq_none (by omega)] at hb;cases hb
 · cases h
theorem o5 {t:Nat} {u:Ty} {i:TypeInfo} {d:TypeDesc} {z:Value} (ht:j4 P tb t u i d z):P.cellsOf t=u.size:=by simp [Program.cellsOf,ht.info,ht.size]
theorem Gw {t:Nat} {u:Ty} {i:TypeInfo} {d:TypeDesc} {z:Value} (ht:j4 P tb t u i d z):P.bytesOf t=u.bytes:=by simp [Program.bytesOf,ht.info,ht.bytes]
theorem A9 {e:Ty} {te:TypeId} {a:Addr} {fuel:Nat} (ha:a.spot=none) (hsz:P.cellsOf te=e.size)
 (ih:∀ cs d ps,DataW.trod enc P w base spare held fuel te cs=some (d,ps)→(DataW.weights P te d).all (·≤reachBytes)=true→∃ x:e.d,Rd w (fun b=>b<w.heap.size) e x cs∧Wf e x) :
 ∀ (n s:Nat) (elems:List (DataW H × List MemPlace)),(List.range' s n).mapM (fun i=>(w.cells? base (a.add (i*P.cellsOf te)) (P.cellsOf te)).bind (DataW.trod enc P w base spare held fuel te))=some elems →
  (DataW.weightsAll P te (elems.map (·.1))).all (·≤reachBytes)=true →
  elems.length=n∧∃ (l:List e.d) (xs:List Value),l.length=n∧n9 (Rd w (fun b=>b<w.heap.size) e) l xs∧(∀ x ∈ l,Wf e x)∧∀ j u,xs[j]?=some u→w.cell? ((a.add (s*e.size)).add j)=some u
 | 0,s,elems,h,_=>by simp at h;subst h;exact ⟨rfl,[],[],rfl,rfl,fun x q=>(by cases q),fun j u q=>by simp at q⟩
 | n+1,s,elems,h,hw=>by
  rw [List.range'_succ,List.mapM_cons] at h;simp only [Option.bind_eq_bind,Option.bind_eq_some_iff,Option.pure_def,Option.some.injEq] at h;obtain ⟨⟨d,ps⟩,⟨cs,h1,h2⟩,rest,h3,rfl⟩:=h;simp only [List.map_cons,DataW.weightsAll,List.all_append,Bool.and_eq_true] at hw;obtain ⟨x,r1,r2⟩:=ih cs d ps h2 hw.1;obtain ⟨k1,l,xs,k2,k3,k4,k5⟩:=A9 ha hsz ih n (s+1) rest h3 hw.2;obtain ⟨_,c1,c2⟩:=World.cells?_some h1;rw [hsz] at c1 c2;refine ⟨by simp [k1],x::l,cs++xs,by simp [k2],⟨cs,xs,rfl,r1,k3⟩,fun y hy=>?_,fun j u hj=>?_⟩
  · rcases List.mem_cons.1 hy with q | q
    · subst q;exact r2
    · exact k4 y q
  · by_cases q:j<cs.length
    · rw [List.getElem?_append_left q] at hj;rw [c2 j (by omega)];exact hj
    · rw [List.getElem?_append_right (by omega)] at hj;have:=k5 _ u hj;have e1:(a.add ((s+1)*e.size)).add (j-cs.length)=(a.add (s*e.size)).add j:=by
       cases a with
       | mk b o sp =>simp only at ha;subst ha;simp only [lG];congr 1;rw [Nat.succ_mul];omega
      rw [← e1];exact this
theorem DL (hP:cX P tb=true) (hR:ni tb=true):∀ (fuel:Nat) (t:Nat) (u:Ty) (cs:List Value) (d:DataW H) (ps:List MemPlace),look tb.ty t=some u→plain u=true →
 DataW.trod enc P w base spare held fuel t cs=some (d,ps)→(DataW.weights P t d).all (·≤reachBytes)=true→∃ x:u.d,Rd w (fun b=>b<w.heap.size) u x cs∧Wf u x
 | 0,t,u,cs,d,ps,hl,hp,h,hw=>by simp [DataW.trod] at h
 | fuel+1,t,u,cs,d,ps,hl,hp,h,hw=>by
  obtain ⟨i,td,z,ht⟩:=jd hP hl;have hu:=ht.under;have hk:=ht.kind;unfold DataW.trod at h;rw [hu] at h;have agg:∀ fs,td = .struct fs→wJ tb t u=true→(∃ a b,u = .pair a b)∨u = .unit→∃ x:u.d,Rd w (fun b=>b<w.heap.size) u x cs∧Wf u x:=by
   intro fs htd hrow hshape;subst htd;simp only [] at h;split at h
   · rename_i hlen;rw [o5 ht] at hlen;obtain ⟨xs,hxs,he⟩:=Option.map_eq_some_iff.1 h;simp only [Prod.mk.injEq] at he;obtain ⟨rfl,_⟩:=he;have hrow':∃ offs ts,look tb.off t=some offs∧look tb.fty t=some ts∧sC tb 0 offs ts u=true:=by
      unfold wJ at hrow;rcases hshape with ⟨a,b,rfl⟩ | rfl
      · simp only [] at hrow;split at hrow
        · rename_i offs ts h1 h2;exact ⟨offs,ts,h1,h2,hrow⟩
        · cases hrow
      · simp only [] at hrow;split at hrow
        · rename_i offs ts h1 h2;exact ⟨offs,ts,h1,h2,hrow⟩
        · cases hrow
     obtain ⟨offs,ts,h1,h2,h3⟩:=hrow';obtain ⟨fs1,q1,q2,_⟩:=tv hP h1;rw [hu] at q1;cases q1;obtain ⟨fs2,q3,q4⟩:=Cw hP h2;rw [hu] at q3;cases q3;simp only [DataW.weights,hu] at hw;have key:∀ (fl:List Field) (n:Nat) (offs:List (Nat × Nat)) (ts:List Nat) (u:Ty) (xs:List (DataW H × List MemPlace)),plain u=true→sC tb n offs ts u=true →
      fl.mapM (fun f=>(P.info? f.type).map fun i=>(f.offset,i.size))=some offs→fl.map (·.type)=ts →
      fl.mapM (fun f=>DataW.trod enc P w base spare held fuel f.type ((cs.drop f.offset).take (P.cellsOf f.type)))=some xs →
      (DataW.weightsEach P (fl.map (·.type)) (xs.map (·.1))).all (·≤reachBytes)=true→n+u.size=cs.length→∃ x:u.d,Rd w (fun b=>b<w.heap.size) u x (cs.drop n)∧Wf u x:=by
      intro fl
      induction fl with
      | nil =>intro n offs ts u xs hp h3 ho hts hx hw hn;simp at ho hts;subst ho;subst hts;cases u <;> simp [sC] at h3;refine ⟨(),?_,trivial⟩;show cs.drop n=[];simp only [Ty.size] at hn;exact List.drop_eq_nil_of_le (by omega)
      | cons f fl ih =>
       intro n offs ts u xs hp h3 ho hts hx hw hn;rw [List.mapM_cons] at ho hx;simp only [Option.bind_eq_bind,Option.bind_eq_some_iff,Option.pure_def,Option.some.injEq,Option.map_eq_some_iff] at ho hx;obtain ⟨_,⟨i1,hi1,rfl⟩,offs',ho',rfl⟩:=ho;obtain ⟨⟨d1,p1⟩,hd1,xs',hx',rfl⟩:=hx;simp only [List.map_cons] at hts;subst hts;cases u with
       | pair a b =>simp only [sC,Bool.and_eq_true,decide_eq_true_eq] at h3;obtain ⟨⟨⟨z1,z2⟩,z3⟩,z4⟩:=h3;have z1:=Nat.eq_of_beq_eq_true z1;have z2:=Nat.eq_of_beq_eq_true z2;simp only [plain,Bool.and_eq_true] at hp;simp only [List.map_cons,DataW.weightsEach,List.all_append,Bool.and_eq_true] at hw;obtain ⟨i2,td2,z',ht2⟩:=jd hP z3;rw [o5 ht2,z1] at hd1;obtain ⟨x1,r1,r2⟩:=DL hP hR fuel f.type a _ d1 p1 z3 hp.1 hd1 hw.1;simp only [Ty.size] at hn;obtain ⟨x2,r3,r4⟩:=ih (n+a.size) offs' _ b xs' hp.2 (by rw [← z2];exact z4) ho' rfl hx' hw.2 (by omega);refine ⟨(x1,x2),⟨_,_,?_,r1,r3⟩,r2,r4⟩;rw [← List.drop_drop];exact (List.take_append_drop _ _).symm
       | _=>simp [sC] at h3
     obtain ⟨x,r1,r2⟩:=key fs.toList 0 offs ts u xs hp h3 q2 q4 hxs hw (by omega);exact ⟨x,by simpa using r1,r2⟩
   · cases h
  cases u with
  | bool =>
   cases td <;> simp [fL] at hk;cases cs with
   | nil=>simp at h
   | cons v cs =>
    cases cs with
    | cons v2 cs=>cases v <;> simp at h
    | nil =>cases v <;> simp at h;exact ⟨_,rfl,trivial⟩
  | int k =>
   cases td <;> simp [fL] at hk;cases cs with
   | nil=>simp at h
   | cons v cs =>
    cases cs with
    | cons v2 cs=>cases v <;> simp at h
    | nil =>cases v <;> simp at h;subst hk;obtain ⟨⟨rfl,hwf⟩,_⟩:=h;exact ⟨_,rfl,hwf⟩
  | str =>
   cases td <;> simp [fL] at hk;cases cs with
   | nil=>simp at h
   | cons v cs =>
    cases cs with
    | cons v2 cs=>cases v <;> simp at h
    | nil =>cases v <;> simp at h;obtain ⟨_,rfl,_⟩:=h;simp [DataW.weights] at hw;exact ⟨_,rfl,hw⟩
  | slice e =>
   obtain ⟨te,hu2,hle,hsz,hpe,i2,d2,z2,ht2⟩:=ht.slice hP;rw [hu] at hu2;cases hu2;cases cs with
   | nil=>simp at h
   | cons v cs =>
    cases cs with
    | cons v2 cs=>cases v <;> simp at h
    | nil =>
     cases v <;> simp at h;rename_i ad len cap;cases ad with
     | none =>cases len <;> cases cap <;> simp at h;exact ⟨[],⟨none,0,0,[],rfl,rfl,Nat.le_refl _,rfl,fun q=>absurd rfl q⟩,by simp,fun x q=>by cases q⟩
     | some ad =>
      simp only [] at h;split at h
      · rename_i hc;obtain ⟨hb,hlc,hcm⟩:=hc;obtain ⟨elems,he,h⟩:=Option.bind_eq_some_iff.1 h;obtain ⟨rest,hr,heq⟩:=Option.map_eq_some_iff.1 h;simp only [Prod.mk.injEq] at heq;obtain ⟨rfl,_⟩:=heq;simp only [DataW.weights,hu,List.all_cons,List.all_append,Bool.and_eq_true,decide_eq_true_eq,List.length_map] at hw;obtain ⟨w1,w2,w3⟩:=hw;have ih:=fun cs d ps h hw=>DL hP hR fuel te e cs d ps hle hpe h hw
        by_cases hn:len=0
        · subst hn;exact ⟨[],⟨some ad,0,cap,[],rfl,rfl,Nat.zero_le _,rfl,fun q=>absurd rfl q⟩,by simp,fun x q=>by cases q⟩
        · have hlen:=mapM_some_length he;rw [List.length_range] at hlen;have h0:=mapM_some_get he 0 0 (by rw [List.getElem?_range (by omega)]);rw [List.getElem?_eq_getElem (show 0<elems.length by omega)] at h0;obtain ⟨cs0,c1,_⟩:=Option.bind_eq_some_iff.1 h0;obtain ⟨_,c2,c3⟩:=World.cells?_some c1;have c4:=c3 0 (by rw [o5 ht2];exact hsz);rw [List.getElem?_eq_getElem (show 0<cs0.length by rw [c2,o5 ht2];exact hsz)] at c4;obtain ⟨c5,c6⟩:=C4 c4;have e0:(ad.add (0*P.cellsOf te)).add 0=ad:=by simp [Addr.add]
          rw [e0] at c5 c6;obtain ⟨k1,l,xs,k2,k3,k4,k5⟩:=A9 (fuel:=fuel) c5 (o5 ht2) ih len 0 elems (by rw [← List.range_eq_range'];exact he) w2;cases ad with
          | mk b o sp =>
           simp only at c5;subst c5;refine ⟨l,⟨some ⟨b,o,none⟩,len,cap,xs,rfl,k2.symm,hlc,k3,fun _=>⟨b,o,rfl,c6,fun j u hj=>?_⟩⟩,?_,k4⟩
           · have:=k5 j u hj;rw [Nat.zero_mul,lG,lG,Nat.add_zero] at this;exact this
           · rw [k2,← hlen,← Gw ht2];exact Nat.le_trans (Nat.mul_le_mul_right _ (Nat.le_add_right _ _)) w1
      · cases h
  | pair a b =>
   cases td <;> simp [fL] at hk
   · have hrow:=qv hR hl;unfold wJ at hrow;simp only [] at hrow;split at hrow
     · rename_i offs ts h1 h2;obtain ⟨fs1,q1,_⟩:=tv hP h1;rw [hu] at q1;cases q1
     · cases hrow
   · exact agg _ rfl (qv hR hl) (Or.inl ⟨a,b,rfl⟩)
  | unit =>cases td <;> simp [fL] at hk;exact agg _ rfl (qv hR hl) (Or.inr rfl)
  | opq=>cases hp
end
end Go.V
end
section
namespace Go.V
open Go.RowKit
section
variable {H:Type} {enc:TypeId × Value→H} {P:Program} {w:World} {base:Nat} {spare:Nat→Bool} {held:Bool} {tb:mh}
theorem H_ (hP:cX P tb=true) {t:Nat} {u:Ty} {r:Reach} {b0:Nat} {v:Value} (hl:look tb.ty t=some u) (hp:plain u=true) (h:Value.okWide P w r b0 t v):v=mj u v.cells.toList:=by
 obtain ⟨i,d,z,ht⟩:=jd hP hl;have hu:=ht.under;have hk:=ht.kind;cases u with
 | bool =>cases d <;> simp [fL] at hk;obtain ⟨b,rfl⟩:=WideShapes.okWide_bool hu h;rfl
 | int k =>cases d <;> simp [fL] at hk;obtain ⟨b,rfl⟩:=WideShapes.okWide_int hu h;rfl
 | str =>cases d <;> simp [fL] at hk;obtain ⟨b,rfl⟩:=WideShapes.okWide_string hu h;rfl
 | slice e =>obtain ⟨te,hu2,_⟩:=ht.slice hP;obtain ⟨a,len,cap,rfl⟩:=WideShapes.okWide_slice hu2 h;rfl
 | pair a b =>unfold Value.okWide at h;cases d <;> simp [fL] at hk <;> rw [hu] at h <;> obtain ⟨cs,rfl,_⟩:=h <;> rfl
 | unit =>unfold Value.okWide at h;cases d <;> simp [fL] at hk;rw [hu] at h;obtain ⟨cs,rfl,_⟩:=h;rfl
 | opq=>cases hp
def yV (w:World) (X:Nat→Prop) (ts:List Ty) (x:(tup ts).d) (as:List Value):Prop:=∃ cs,Rd w X (tup ts) x cs∧as=kA ts cs
def Ji:Pm→Bool
 | .val _=>true
 | _=>false
theorem yV.argR {X:Nat→Prop}:∀ {A:List Pm} {x:(tup (pn A)).d} {as:List Value},A.all Ji=true→yV w X (pn A) x as→vR w X A x as []
 | [],x,as,_,⟨cs,h1,h2⟩=>⟨h2,rfl⟩
 | p::A,x,as,hv,h=>by
  simp only [List.all_cons,Bool.and_eq_true] at hv;cases p with
  | val t =>obtain ⟨cs,⟨c,d,e,h1,h2⟩,h3⟩:=h;subst e;have hl:=h1.len;refine ⟨c,kA (pn A) d,?_,h1,yV.argR hv.2 ⟨d,h2,rfl⟩⟩;rw [h3];show mj t ((c++d).take t.size)::kA (pn A) ((c++d).drop t.size)=_;rw [List.take_left' hl,List.drop_left' hl]
  | _=>simp [Ji] at hv
theorem Bu (hP:cX P tb=true) (hR:ni tb=true) {r:Reach} {b0:Nat}:∀ {ts:List TypeId} {us:List Ty} {vs:List Value} {ds:List (DataW H)} {p:List MemPlace},ts.map (look tb.ty)=us.map some→us.all plain=true →
 DataW.TrodAll enc P w base spare held ts vs ds p→(DataW.weightsEach P ts ds).all (·≤reachBytes)=true→(∀ (j:Nat) t v,ts[j]?=some t→vs[j]?=some v→Value.okWide P w r b0 t v) →
 ∃ x:(tup us).d,yV w (fun b=>b<w.heap.size) us x vs∧Wf (tup us) x
 | [],[],vs,ds,p,hl,hp,h,hw,hv=>by cases vs <;> cases ds <;> simp [DataW.TrodAll] at h;exact ⟨(),⟨[],rfl,rfl⟩,trivial⟩
 | [],_::_,vs,ds,p,hl,hp,h,hw,hv=>by cases hl
 | _::_,[],vs,ds,p,hl,hp,h,hw,hv=>by cases hl
 | t::ts,u::us,vs,ds,p,hl,hp,h,hw,hv=>by
  obtain ⟨v,vs',d,ds',p1,q1,rfl,rfl,rfl,h1,h2⟩:=ChangeShapes.trodAll_cons h;simp only [List.map_cons,List.cons.injEq] at hl;simp only [List.all_cons,Bool.and_eq_true] at hp;simp only [DataW.weightsEach,List.all_append,Bool.and_eq_true] at hw;obtain ⟨fuel,hf⟩:=h1;obtain ⟨x,r1,r2⟩:=DL hP hR fuel t u _ d p1 hl.1 hp.1 hf hw.1;obtain ⟨y,⟨cs,r3,r5⟩,r4⟩:=Bu hP hR hl.2 hp.2 h2 hw.2 fun j t v h1 h2=>hv (j+1) t v (by simpa using h1) (by simpa using h2)
  have hval:=H_ hP hl.1 hp.1 (hv 0 t v rfl rfl);have hlen:=r1.len;refine ⟨(x,y),⟨v.cells.toList++cs,⟨_,_,rfl,r1,r3⟩,?_⟩,r2,r4⟩;show v::vs'=mj u ((v.cells.toList++cs).take u.size)::kA us ((v.cells.toList++cs).drop u.size);rw [List.take_left' hlen,List.drop_left' hlen,← hval,← r5]
end
end Go.V
end
section
namespace Go.V
open Go.RowKit
section
variable {H:Type} {enc:TypeId × Value→H} {P:Program} {w w':World} {held:Bool} {tb:mh}
theorem Eg (hb:Below w.heap.size w w') {base:Nat} {a:Addr} {n:Nat} {cs:List Value} (h:w.cells? base a n=some cs):w'.cells? base a n=some cs:=by
 obtain ⟨h1,h2,h3⟩:=World.cells?_some h;refine World.cells?_of_each h1 h2 fun i hi=>?_
 have h4:=h3 i hi;rw [List.getElem?_eq_getElem (by omega)] at h4;obtain ⟨_,h5⟩:=C4 h4;rw [List.getElem?_eq_getElem (by omega),← h4];unfold World.cell?;rw [hb.block _ h5]
theorem G_ (hb:Below w.heap.size w w') {base:Nat} {a:Addr} {n:Nat} {f g:List Value→Option (DataW H × List MemPlace)} (hfg:∀ cs y,f cs=some y→g cs=some y) {y:DataW H × List MemPlace}
 (h:(w.cells? base a n).bind f=some y):(w'.cells? base a n).bind g=some y:=by
 obtain ⟨cs,h1,h2⟩:=Option.bind_eq_some_iff.1 h;exact Option.bind_eq_some_iff.2 ⟨cs,Eg hb h1,hfg cs y h2⟩
theorem ud (hP:cX P tb=true) (hR:ni tb=true) (hb:Below w.heap.size w w') {base:Nat}:∀ (fuel:Nat) (t:Nat) (u:Ty) (cs:List Value) (d:DataW H × List MemPlace),look tb.ty t=some u→plain u=true →
 DataW.trod enc P w base (fun _=>true) held fuel t cs=some d→DataW.trod enc P w' base (fun b=>decide (b<w.heap.size)) held fuel t cs=some d
 | 0,t,u,cs,d,hl,hp,h=>by simp [DataW.trod] at h
 | fuel+1,t,u,cs,d,hl,hp,h=>by
  obtain ⟨i,td,z,ht⟩:=jd hP hl;have hu:=ht.under;have hk:=ht.kind;unfold DataW.trod at h ⊢;rw [hu] at h ⊢;have agg:∀ fs,td = .struct fs→wJ tb t u=true→((∃ a b,u = .pair a b)∨u = .unit)→∀ f ∈ fs.toList,∃ u',look tb.ty f.type=some u'∧plain u'=true:=by
   intro fs htd hrow hshape f hf;subst htd;have hrow':∃ offs ts,look tb.fty t=some ts∧sC tb 0 offs ts u=true:=by
    unfold wJ at hrow;rcases hshape with ⟨a,b,rfl⟩ | rfl <;> simp only [] at hrow <;> split at hrow
    · rename_i offs ts h1 h2;exact ⟨offs,ts,h2,hrow⟩
    · cases hrow
    · rename_i offs ts h1 h2;exact ⟨offs,ts,h2,hrow⟩
    · cases hrow
   obtain ⟨offs,ts,h2,h3⟩:=hrow';obtain ⟨fs2,q3,q4⟩:=Cw hP h2;rw [hu] at q3;cases q3;have hmem:f.type ∈ ts:=by rw [← q4];exact List.mem_map_of_mem hf
   have key:∀ (ts:List Nat) (n:Nat) (offs:List (Nat × Nat)) (u:Ty),sC tb n offs ts u=true→plain u=true→∀ t ∈ ts,∃ u',look tb.ty t=some u'∧plain u'=true:=by
    intro ts
    induction ts with
    | nil=>intro n offs u _ _ t ht;cases ht
    | cons t ts ih =>
     intro n offs u h3 hp t' ht';cases offs with
     | nil=>cases u <;> simp [sC] at h3
     | cons p offs =>
      cases u with
      | pair a b =>
       simp only [sC,Bool.and_eq_true,decide_eq_true_eq] at h3;simp only [plain,Bool.and_eq_true] at hp;rcases List.mem_cons.1 ht' with q | q
       · subst q;exact ⟨a,h3.1.2,hp.1⟩
       · exact ih _ _ _ h3.2 hp.2 t' q
      | _=>simp [sC] at h3
   exact key ts 0 offs u h3 hp f.type hmem
  have str:∀ fs,td = .struct fs→wJ tb t u=true→((∃ a b,u = .pair a b)∨u = .unit) →
   (if cs.length=P.cellsOf t then (fs.toList.mapM fun f=>DataW.trod enc P w base (fun _=>true) held fuel f.type ((cs.drop f.offset).take (P.cellsOf f.type))).map fun xs=>(DataW.agg (xs.map (·.1)),xs.flatMap (·.2)) else none)=some d →
   (if cs.length=P.cellsOf t then (fs.toList.mapM fun f=>DataW.trod enc P w' base (fun b=>decide (b<w.heap.size)) held fuel f.type ((cs.drop f.offset).take (P.cellsOf f.type))).map fun xs=>(DataW.agg (xs.map (·.1)),xs.flatMap (·.2)) else none)=some d:=by
   intro fs htd hrow hshape h;have ha:=agg fs htd hrow hshape;split at h
   · rename_i hlen;rw [if_pos hlen];obtain ⟨xs,h1,h2⟩:=Option.map_eq_some_iff.1 h;refine Option.map_eq_some_iff.2 ⟨xs,?_,h2⟩;refine mapM_carry h1 fun f y hf _ hy=>?_
     obtain ⟨u',q1,q2⟩:=ha f hf;exact ud hP hR hb fuel f.type u' _ y q1 q2 hy
   · cases h
  cases u with
  | bool =>
   cases td <;> simp [fL] at hk;cases cs with
   | nil=>simp at h
   | cons v cs =>
    cases cs with
    | cons v2 cs=>cases v <;> simp at h
    | nil =>cases v <;> simp at h ⊢;exact h
  | int k =>
   cases td <;> simp [fL] at hk;cases cs with
   | nil=>simp at h
   | cons v cs =>
    cases cs with
    | cons v2 cs=>cases v <;> simp at h
    | nil =>cases v <;> simp at h ⊢;exact h
  | str =>
   cases td <;> simp [fL] at hk;cases cs with
   | nil=>simp at h
   | cons v cs =>
    cases cs with
    | cons v2 cs=>cases v <;> simp at h
    | nil =>cases v <;> simp at h ⊢;exact h
  | slice e =>
   obtain ⟨te,hu2,hle,hsz,hpe,i2,d2,z2,ht2⟩:=ht.slice hP;rw [hu] at hu2;cases hu2;cases cs with
   | nil=>simp at h
   | cons v cs =>
    cases cs with
    | cons v2 cs=>cases v <;> simp at h
    | nil =>
     cases v with
     | slice ad len cap =>
      cases ad with
      | none =>cases len <;> cases cap <;> simp at h ⊢;exact h
      | some ad =>
       simp only [] at h ⊢;split at h
       · rename_i hc;rw [if_pos hc];obtain ⟨elems,he,h⟩:=Option.bind_eq_some_iff.1 h;obtain ⟨rest,hr,heq⟩:=Option.map_eq_some_iff.1 h;rw [if_pos trivial] at hr;have hel:∀ (i:Nat) (y:DataW H × List MemPlace),((w.cells? base (ad.add (i*P.cellsOf te)) (P.cellsOf te)).bind (DataW.trod enc P w base (fun _=>true) held fuel te))=some y →
          ((w'.cells? base (ad.add (i*P.cellsOf te)) (P.cellsOf te)).bind (DataW.trod enc P w' base (fun b=>decide (b<w.heap.size)) held fuel te))=some y:=fun i y hy =>
          G_ hb (fun cs y hcs=>ud hP hR hb fuel te e cs y hle hpe hcs) hy
         refine Option.bind_eq_some_iff.2 ⟨elems,mapM_carry he fun i y _ _ hy=>hel i y hy,?_⟩;refine Option.map_eq_some_iff.2 ⟨rest,?_,heq⟩;by_cases hlt:ad.block<w.heap.size
         · rw [if_pos (by simpa using hlt)];exact mapM_carry hr fun i y _ _ hy=>hel (len+i) y hy
         · rw [if_neg (by simpa using hlt)];have h0:cap-len=0:=by
            cases hq:cap-len with
            | zero=>rfl
            | succ m =>
             exfalso;rw [hq] at hr;have hl2:=mapM_some_length hr;rw [List.length_range] at hl2;have g0:=mapM_some_get hr 0 0 (by rw [List.getElem?_range (by omega)]);rw [List.getElem?_eq_getElem (show 0<rest.length by omega)] at g0;obtain ⟨cs0,c1,_⟩:=Option.bind_eq_some_iff.1 g0;have:=World.cells?_block c1 (by rw [o5 ht2];exact hsz);apply hlt;have e1:∀ n,(ad.add n).block=ad.block:=fun n=>by unfold Addr.add;split <;> rfl
             rw [e1] at this;exact this
           rw [h0] at hr;simp at hr;rw [hr]
       · cases h
     | _=>simp at h
  | pair a b =>
   cases td <;> simp [fL] at hk
   · have hrow:=qv hR hl;unfold wJ at hrow;simp only [] at hrow;split at hrow
     · rename_i offs ts h1 h2;obtain ⟨fs1,q1,_⟩:=tv hP h1;rw [hu] at q1;cases q1
     · cases hrow
   · exact str _ rfl (qv hR hl) (Or.inl ⟨a,b,rfl⟩) h
  | unit =>cases td <;> simp [fL] at hk;exact str _ rfl (qv hR hl) (Or.inr rfl) h
  | opq=>cases hp
theorem uY (hP:cX P tb=true) (hR:ni tb=true) (hb:Below w.heap.size w w') {base:Nat}:∀ {ts:List TypeId} {us:List Ty} {vs:List Value} {ds:List (DataW H)} {p:List MemPlace},ts.map (look tb.ty)=us.map some→us.all plain=true →
 DataW.TrodAll enc P w base (fun _=>true) held ts vs ds p→DataW.TrodAll enc P w' base (fun b=>decide (b<w.heap.size)) held ts vs ds p
 | [],[],vs,ds,p,hl,hp,h=>by cases vs <;> cases ds <;> simp [DataW.TrodAll] at h ⊢;exact h
 | [],_::_,vs,ds,p,hl,hp,h=>by cases hl
 | _::_,[],vs,ds,p,hl,hp,h=>by cases hl
 | t::ts,u::us,vs,ds,p,hl,hp,h=>by obtain ⟨v,vs',d,ds',p1,q1,rfl,rfl,rfl,h1,h2⟩:=ChangeShapes.trodAll_cons h;simp only [List.map_cons,List.cons.injEq] at hl;simp only [List.all_cons,Bool.and_eq_true] at hp;obtain ⟨fuel,hf⟩:=h1;exact ⟨p1,q1,⟨fuel,ud hP hR hb fuel t u _ _ hl.1 hp.1 hf⟩,uY hP hR hb hl.2 hp.2 h2,rfl⟩
theorem Cm {f:FuncId} {fn:Func} {s:ChangeSpec} {A:List Pm} {al:Bool} {tbool:TypeId} (hAv:A.all Ji=true) (hP:cX P tb=true) (hR:ni tb=true) (hus:fn.params.toList.map (look tb.ty)=(pn A).map some) (hpl:(pn A).all plain=true)
 (hres:fn.resultTypes=#[tbool]) (hbool:P.underlying tbool=some .bool) (hvars:s.vars=[]) (hfn:∀ ds:List (DataW H),ds.length=(pn A).length→s.fn H ds={ results:=[.lit (.bool true)],args:=ds })
 {g:Nat→(tup (pn A)).d→Option (tup (iG A++[.bool])).d} {J:Gl} (hg:∀ k,G3 J P f ⟨A,[.bool],true,al,g k⟩) (Jq:∀ x,Wf (tup (pn A)) x→∃ k r,g k x=some r∧pg (iG A) r=(true,()))
 (W:World) (hJ:J.ok W) (base:Nat) (args:Array Value) (ds gs:List (DataW H)) (before:List MemPlace) (hval:∀ (j:Nat) t v,fn.params[j]?=some t→args[j]?=some v→Value.okWide P W .any base t v)
 (hW:DataW.Whole enc P fn.params.toList s.vars false W args.toList ds gs before) (hsz:(DataW.weightsEach P (fn.params.toList++s.plain.varTypes P) (ds++gs)).all (·≤reachBytes)=true) :
 Calls P f args W fun e W'=>∃ v,e = .returned v∧s.post enc P fn false true false false W args v W':=by
 have hW':=hW;obtain ⟨p,q,hA,hV,rfl,hfz,hnd⟩:=hW;rw [hvars] at hV;obtain ⟨rfl,rfl⟩:gs=[]∧q=[]:=by cases gs <;> simp [DataW.TrodVars] at hV;exact ⟨rfl,hV⟩
 have hlen:∀ {ts:List TypeId} {vs:List Value} {ds:List (DataW H)} {p:List MemPlace},DataW.TrodAll enc P W 0 (fun _=>true) true ts vs ds p→ds.length=ts.length:=by
  intro ts
  induction ts with
  | nil=>intro vs ds p h;cases vs <;> cases ds <;> simp [DataW.TrodAll] at h ⊢
  | cons t ts ih =>intro vs ds p h;obtain ⟨v,vs',d,ds',p1,q1,rfl,rfl,rfl,h1,h2⟩:=ChangeShapes.trodAll_cons h;simp [ih h2]
 have hdl:ds.length=(pn A).length:=by rw [hlen hA];have:=congrArg List.length hus;simpa using this
 have hw:(DataW.weightsEach P fn.params.toList ds).all (·≤reachBytes)=true:=by
  have key:∀ (ts ts':List TypeId) (ds:List (DataW H)),ds.length=ts.length→DataW.weightsEach P (ts++ts') (ds++[])=DataW.weightsEach P ts ds:=by
   intro ts
   induction ts with
   | nil =>
    intro ts' ds h;cases ds with
    | nil=>cases ts' <;> simp [DataW.weightsEach]
    | cons d ds=>simp at h
   | cons t ts ih =>
    intro ts' ds h;cases ds with
    | nil=>simp at h
    | cons d ds =>simp only [List.cons_append,DataW.weightsEach];rw [ih ts' ds (by simpa using h)]
  rw [key _ _ ds (hlen hA)] at hsz;exact hsz
 obtain ⟨x,hx,hwf⟩:=Bu hP hR hus hpl hA hw (r := .any) (b0:=base) (fun j t v h1 h2=>hval j t v (by simpa using h1) (by simpa using h2));obtain ⟨k,r,hk,hr⟩:=Jq x hwf;have hc:=(hg k).calls rfl x r hk W args.toList [] (fun b=>b<W.heap.size) hJ (by simp) (fun b hb=>⟨hb,by simp⟩) (hx.argR hAv) List.nodup_nil;refine hc.mono fun e W' he=>?_
 obtain ⟨bs',cs,bl,rfl,hk',_,_,X',_,_,hres'⟩:=he;have hb:Below W.heap.size W W':=⟨hk'.os,hk'.tape,hk'.output,hk'.size,fun k h=>hk'.block k h (by simp)⟩;simp only [if_true] at hres';rw [hr] at hres';obtain ⟨c1,c2,b1,b2,rfl,rfl,⟨rfl,rfl⟩,⟨rfl,rfl⟩⟩:=hres';refine ⟨.bool true,rfl,ds,[],p++[],[],p,[],hW',?_,?_,?_,hb.frame _,fun h=>by cases h⟩
 · rw [List.append_nil,hfn ds hdl,hres];exact ChangeShapes.trodAll_mk1 (RowKit.shut_bool hbool _)
 · rw [List.append_nil,hfn ds hdl];exact uY hP hR hb hus hpl hA
 · rw [List.append_nil,hfn ds hdl,hvars];rfl
end
end Go.V
end

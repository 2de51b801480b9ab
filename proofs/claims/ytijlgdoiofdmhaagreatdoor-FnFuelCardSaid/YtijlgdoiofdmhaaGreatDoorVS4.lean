/- V: soundness, part 4 of 10. -/
import Derived.Test.YtijlgdoiofdmhaaGreatDoorVS3
section
set_option linter.unusedVariables false
set_option linter.unusedSimpArgs false
namespace Go.V
open Go.RowKit
def BD (P:Program) (tb:mh):Prop:=∀ t tys,look tb.eqs t=some tys→∀ (w:World) (X:Bool→Nat→Prop) (N:Nat→Prop) (φ:Nat→jF) (cs ds:List AV) (vs us:List Value) (c:Bool) (x y:Operand),
 cV w X N φ cs vs→cV w X N φ ds us→mY tys cs ds=some c →
  (do eqGuard .eql t x y (.agg vs.toArray) (.agg us.toArray);binOp .eql t (.agg vs.toArray) (.agg us.toArray):Sem Value).run P w = .ok (.bool c) w ∧
  (do eqGuard .neq t x y (.agg vs.toArray) (.agg us.toArray);binOp .neq t (.agg vs.toArray) (.agg us.toArray):Sem Value).run P w = .ok (.bool (!c)) w
section
variable {P:Program} {tb:mh} {w0:Bs} {w w':World} {N:Nat→Prop} {φ:Nat→jF} {tm:List AV} {hp:Hp} {a:Act} {Q:Exit→Act→World→Prop}
theorem Jw (hP:cX P tb=true) (hE:BD P tb) {X:Bool→Nat→Prop} {op:BinOp} {t:Nat} {x y v:AV} {p q:Value} (h:qK (DF (look tb.ty t)) (look tb.eqs t) op x y some=some v)
 (hx:dC w X N φ x p) (hy:dC w X N φ y q) (xo yo:Operand):∃ u,(do eqGuard op t xo yo p q;binOp op t p q:Sem Value).run P w = .ok u w∧dC w X N φ v u:=by
 cases x <;> cases y <;> first
  | (cases h;done)
  | skip
 · cases hx;cases hy;cases hb:DF (look tb.ty t) with
   | false=>rw [hb] at h;simp [qK] at h
   | true =>
    rw [hb] at h;cases hl:look tb.ty t with
    | none=>rw [hl] at hb;cases hb
    | some u =>
     rw [hl] at hb;obtain ⟨i,d,z,ht⟩:=jd hP hl;have hk:=ht.kind;have hu:=ht.under;cases u <;> first | (cases hb;done) | skip
     cases d <;> simp [fL] at hk;exact H6 hu h xo yo
 · cases hx;cases hy;exact JP h t xo yo
 · cases hx;cases hy;exact JQ h t xo yo
 · rename_i cs ds;obtain ⟨vs,rfl,hx⟩:=hx;obtain ⟨us,rfl,hy⟩:=hy;simp only [qK] at h;cases he:look tb.eqs t with
   | none=>rw [he] at h;cases h
   | some tys =>
   rw [he] at h;have h1:=h;simp only [] at h1;cases hq:mY tys cs ds with
   | none=>rw [hq] at h1;cases op <;> cases h1
   | some c =>
    rw [hq] at h1;have:=hE t tys he w X N φ cs ds vs us c xo yo hx hy hq;cases op <;> first
     | (cases h1;exact ⟨_,this.1,rfl⟩)
     | (cases h1;exact ⟨_,this.2,rfl⟩)
     | cases h1
theorem zU (t:TypeId) (v:Value):(newVar t v).run P w = .ok ⟨w.heap.size,0,none⟩ (w.alloc (.cells v.cells t)):=by simp [newVar,newRow]
theorem Bw (h:Ok w0 N φ tm hp a w) {id:Nat} (hid:¬ N id) {cs:List AV} {v:Value} (te:TypeId) (hc:cV w (XX w0 w φ hp) N φ cs v.cells.toList) {dst:Option Nat} :
 pZ w0 N φ tm hp dst (.ptr id 0 0) [(id,.box cs)] id (id+1) (a.put dst (.pointer (some ⟨w.heap.size,0,none⟩))) (w.alloc (.cells v.cells te)):=by
 obtain ⟨φ',e1,e2,hok⟩:=h.alloc hid v.cells te (.box cs) ⟨.pointer none,w.heap.size,0,1⟩ (fun φ' e1 e2 hX=>by
  refine ⟨Or.inr ⟨Nat.le_refl _,Nat.lt_succ_self _⟩,by rw [e1];exact Or.inl h.below.size,by rw [e1],v.cells,te,by rw [e1];exact heap_alloc_new w _,?_⟩;exact hc.mono hX (fun p b hx=>heap_alloc_old w _ b hx.1) (fun r hr=>Or.inl hr) e2) (fun φ' e1 b hb=>by cases hb;rw [e1])
 refine ⟨φ',e2,hok.put dst ?_⟩;exact ⟨Or.inr ⟨Nat.le_refl _,Nat.lt_succ_self _⟩,by rw [e1];exact Nat.zero_lt_one,by rw [e1];simp⟩
theorem BV (h:Ok w0 N φ tm hp a w) {id:Nat} (hid:¬ N id) {p:Bool} {e:Ty} {l:List e.d} {vs:List Value} (te:TypeId) (n:Nat) (hn:n=l.length) (hm:n≤maxLen) (hl:n9 (Rd w (XX w0 w φ hp p) e) l vs) {dst:Option Nat} :
 pZ w0 N φ tm hp dst (.ref id) [(id,.own p e l)] id (id+1) (a.put dst (.slice (some ⟨w.heap.size,0,none⟩) n n)) (w.alloc (.cells vs.toArray te)):=by
 subst hn;have hlen:=hl.length (fun x d q=>q.len);obtain ⟨φ',e1,e2,hok⟩:=h.alloc hid vs.toArray te (.own p e l) ⟨.slice (some ⟨w.heap.size,0,none⟩) l.length l.length,w.heap.size,e.size,l.length⟩ (fun φ' e1 e2 hX=>by
  refine ⟨Or.inr ⟨Nat.le_refl _,Nat.lt_succ_self _⟩,by rw [e1],by rw [e1],fun b hb=>by rw [e1] at hb ⊢;simpa [Value.ownBlock] using hb,te,vs,?_,?_⟩
  · rw [e1];refine ⟨hlen,Or.inr ⟨w.heap.size,l.length,vs.toArray,rfl,Or.inl h.below.size,heap_alloc_new w _,Nat.le_refl _,hm,by simpa using hlen,?_⟩⟩;rw [List.take_of_length_le];simp [hlen]
  · exact hl.mono (fun b hx=>hX p b hx) (fun b hx=>heap_alloc_old w _ b hx.1)) (fun φ' e1 b hb=>by simp only [bO,e1,Value.ownBlock,Option.some.injEq] at hb;exact hb.symm)
 refine ⟨φ',e2,hok.put dst ?_⟩;exact ⟨Or.inr ⟨Nat.le_refl _,Nat.lt_succ_self _⟩,by rw [e1],_,_,_,rfl⟩
theorem pZ.weaken {dst:Option Nat} {v:AV} {us:kO} {id nx:Nat} {a':Act} {hp1:Hp} (us0:kO) (e:apply hp us0=hp1) (h:pZ w0 N φ tm hp1 dst v us id nx a' w'):pZ w0 N φ tm hp dst v (us0++us) id nx a' w':=by
 obtain ⟨φ',h1,h2⟩:=h;refine ⟨φ',h1,?_⟩;have:∀ (us0:kO) (hp:Hp),apply hp (us0++us)=apply (apply hp us0) us:=by
  intro us0
  induction us0 with
  | nil=>intro hp;rfl
  | cons u us0 ih=>intro hp;exact ih _
 rw [this,e];exact h2
end
end Go.V
end
section
namespace Go.V
open Go.RowKit
theorem CL (off:Nat):∀ (l:List Value) (k:Nat) (cells:Array Value),off+k+l.length≤cells.size →
 (l.zipIdx k).foldl (fun (cs:Array Value) (p:Value × Nat)=>cs.setIfInBounds (off+p.2) p.1) cells=(cells.toList.take (off+k)++l++cells.toList.drop (off+k+l.length)).toArray
 | [],k,cells,h=>by simp
 | v::l,k,cells,h=>by simp only [List.length_cons] at h;simp only [List.zipIdx_cons,List.foldl_cons];rw [CL off l (k+1) _ (by simp;omega)];simp only [Array.toList_setIfInBounds];have e:=list_seg_step cells.toList (off+k) v l (by simp;omega);simp only [← Nat.add_assoc] at e ⊢;rw [e,List.length_cons,← Nat.add_assoc]
theorem BS (off:Nat) (vs cells:Array Value) (h:off+vs.size≤cells.size) :
 vs.zipIdx.foldl (fun cs (c,j)=>cs.setIfInBounds (off+j) c) cells=(cells.toList.take off++vs.toList++cells.toList.drop (off+vs.size)).toArray:=by
 have:=CL off vs.toList 0 cells (by simpa using h);rw [← Array.foldl_toList,Array.toList_zipIdx];simpa using this
section
variable {P:Program} {tb:mh} {w0:Bs} {w w':World} {N:Nat→Prop} {φ:Nat→jF} {tm:List AV} {hp:Hp} {a:Act}
theorem zk {X:Bool→Nat→Prop} {offs:List (Nat × Nat)} {ρ:Operand→AV} {ρv:Operand→Value} (hρ:∀ x,dC w X N φ (ρ x) (ρv x)):∀ (ps:List (Nat × Operand)) {z cs:List AV} {cells:Array Value},
 li z offs ρ ps=some cs→cV w X N φ z cells.toList→∃ cells',Instr.fill (offs.toArray[·]?) cells (ps.map fun p=>(p.1,ρv p.2))=some cells'∧cV w X N φ cs cells'.toList
 | [],z,cs,cells,h,hz=>by cases h;exact ⟨cells,rfl,hz⟩
 | (f,x)::ps,z,cs,cells,h,hz=>by
  simp only [li] at h;split at h
  · rename_i p hp';obtain ⟨hc,h⟩:=aM h;simp only [Bool.and_eq_true] at hc;obtain ⟨⟨h1,h2⟩,h3⟩:=hc;have h2:=Nat.eq_of_beq_eq_true h2;have h3:=Nat.le_of_ble_eq_true h3;have hx:=kZ (hρ x) h1;have hxl:=hx.len;have hzl:=hz.len;simp only [Array.length_toList] at hxl hzl;have hnew:cV w X N φ (setCells z p.1 (cellsOf (ρ x))) (cells.toList.take p.1++(ρv x).cells.toList++cells.toList.drop (p.1+(ρv x).cells.size)):=by
     rw [sr _ _ _ (by omega),← hxl];exact ((hz.take p.1).append hx).append (hz.drop _)
    obtain ⟨cells',g1,g2⟩:=zk hρ ps (cells:=(cells.toList.take p.1++(ρv x).cells.toList++cells.toList.drop (p.1+(ρv x).cells.size)).toArray) h hnew;refine ⟨cells',?_,g2⟩;simp only [List.map_cons,Instr.fill];have hp2:offs.toArray[f]?=some p:=by simpa using hp'
    rw [hp2];simp only [];rw [if_neg (by simp;omega),BS _ _ _ (by omega)];exact g1
  · cases h
theorem HE (hP:cX P tb=true) {t:Nat} {u:Ty} {offs:List (Nat × Nat)} {X:Bool→Nat→Prop} {ρ:Operand→AV} {ρv:Operand→Value} {ps:Array (Nat × Operand)} {cs:List AV} (hρ:∀ x,dC w X N φ (ρ x) (ρv x))
 (ht:look tb.ty t=some u) (ho:look tb.off t=some offs) (h:li (zero u) offs ρ ps.toList=some cs) :
 ∃ v,(Instr.build t (ps.map fun (i,x)=>(i,ρv x))).run P w = .ok v w∧dC w X N φ (.agg cs) v:=by
 obtain ⟨i,d,z,hf⟩:=jd hP ht;obtain ⟨fs,hu,hm,_⟩:=tv hP ho;obtain ⟨cells,g1,g2⟩:=zk hρ ps.toList h (mN hf.zeroOk);refine ⟨.agg cells,run_build w t _ cells ?_,cells.toList,by simp,g2⟩;unfold Program.built;simp only [hf.info,hu,hf.zero,hm];have:(ps.map fun (i,x)=>(i,ρv x)).toList=ps.toList.map fun p=>(p.1,ρv p.2):=by simp
 rw [this];exact g1
theorem H7 (hP:cX P tb=true) {t:Nat} {u:Ty} {X:Bool→Nat→Prop} {m:Nat × Nat} {ρv:Operand→Value} {ps:Array (Nat × Operand)} (ht:look tb.ty t=some u) (ha:look tb.arr t=some m) (h:ps.toList.isEmpty=true) :
 ∃ v,(Instr.build t (ps.map fun (i,x)=>(i,ρv x))).run P w = .ok v w∧dC w X N φ (.agg (zero u)) v:=by
 obtain ⟨i,d,z,hf⟩:=jd hP ht;obtain ⟨te,ie,hu,hi,_⟩:=Hj hP (show look tb.arr t=some (m.1,m.2) from ha);refine ⟨.agg z.cells,run_build w t _ z.cells ?_,z.cells.toList,by simp,mN hf.zeroOk⟩;have e:ps=#[]:=by have:=List.isEmpty_iff.1 h;exact Array.toList_eq_nil_iff.1 this
 subst e;unfold Program.built;simp only [hf.info,hu,hf.zero,hi];simp [Instr.fill]
theorem JE (z:Array Value) (n:Nat) (hz:0<z.size):(madeCells z ((n+1)*z.size)).toList=z.toList++(madeCells z (n*z.size)).toList:=by
 apply List.ext_getElem?;intro j;rw [List.getElem?_append];simp only [madeCells,Array.toList_map,Array.toList_range,List.getElem?_map,List.getElem?_range',Array.length_toList];by_cases h1:j<z.size
 · have:j<(n+1)*z.size:=by rw [Nat.succ_mul];omega
   simp [h1,this,List.getElem?_range,Nat.mod_eq_of_lt h1,getElem!_pos]
 · by_cases h2:j<(n+1)*z.size
   · have h3:j-z.size<n*z.size:=by rw [Nat.succ_mul] at h2;omega
     have h4:(j-z.size) % z.size=j % z.size:=by rw [← Nat.mod_eq_sub_mod (by omega)]
     simp [h1,h2,h3,h4,List.getElem?_range]
   · have h3:¬ j-z.size<n*z.size:=by rw [Nat.succ_mul] at h2;omega
     simp [h1,h2,h3,List.getElem?_range]
theorem DX {X:Nat→Prop} {e:Ty} {z:Array Value} (hz:Rd w X e e.z z.toList) (h0:0<e.size):∀ n,n9 (Rd w X e) (List.replicate n e.z) (madeCells z (n*e.size)).toList
 | 0=>by simp [madeCells,n9,Array.range_zero']
 | n+1=>by
  have hl:z.size=e.size:=by simpa using hz.len
  refine ⟨z.toList,(madeCells z (n*e.size)).toList,?_,hz,DX hz h0 n⟩;rw [← hl];exact JE z n (by omega)
end
end Go.V
end
section
namespace Go.V
open Go.RowKit
def BF (hp hp1:Hp):Prop:=∀ r,hp1 r=hp r∨∃ p e l,hp r = .own p e l∧hp1 r = .fro p e l
theorem Dl.eq (us:kO):∀ {hp:Hp},Dl hp us→BF hp (apply hp us)∧∀ r x,(r,x) ∈ us→apply hp us r=x:=by
 induction us with
 | nil=>exact fun h=>⟨fun r=>Or.inl rfl,fun r x q=>by cases q⟩
 | cons u us ih =>
  intro hp h;obtain ⟨r,x⟩:=u;obtain ⟨h1,h2⟩:=ih h.tail;obtain ⟨p,e,l,rfl,hr⟩:=h r x (List.mem_cons_self ..);refine ⟨fun s=>?_,fun s y hs=>?_⟩
  · by_cases q:s=r
    · subst q;have:=h1 s;rw [cO] at this;rcases this with g | ⟨p',e',l',g,_⟩
      · rcases hr with hr | hr
        · exact Or.inr ⟨p,e,l,hr,g⟩
        · exact Or.inl (by rw [hr];exact g)
      · cases g
    · have:=h1 s
      rwa [bx hp _ q] at this
  · rcases List.mem_cons.1 hs with q | q
    · obtain ⟨q1,q2⟩:=Prod.mk.inj q;subst q1;subst q2;have:=h1 s;rw [cO] at this;rcases this with g | ⟨p',e',l',g,_⟩
      · exact g
      · cases g
    · exact h2 s y q
theorem nu (hp:Hp):∀ {cs:List AV} {r:Nat} {p:Bool} {e:Ty} {l:List e.d},AV.ref r ∈ cs→hp r = .own p e l→(r,rF.fro p e l) ∈ freeze hp cs
 | [],_,_,_,_,h,_=>by cases h
 | c::cs,r,p,e,l,h,hr=>by
  unfold Go.V.freeze;split
  · rename_i heq;cases heq
  · rename_i r' cs' heq;cases heq;rcases List.mem_cons.1 h with q | q
    · cases q;rw [hr];exact List.mem_cons_self ..
    · have:=nu hp q hr;split
      · exact List.mem_cons_of_mem _ this
      · exact List.mem_cons_of_mem _ this
      · exact this
  · rename_i c' cs' hne heq;cases heq;rcases List.mem_cons.1 h with q | q
    · exact absurd q.symm (hne r)
    · exact nu hp q hr
theorem lh (hp:Hp):∀ {cs:List AV} {r:Nat} {x:rF},(r,x) ∈ freeze hp cs→r ∈ cN cs
 | [],_,_,h=>by cases h
 | c::cs,r,x,h=>by
  unfold Go.V.freeze at h;split at h
  · cases h
  · rename_i r' cs' heq;cases heq;simp only [cN];split at h
    · rcases List.mem_cons.1 h with q | q
      · cases q;exact List.mem_cons_self ..
      · exact List.mem_cons_of_mem _ (lh hp q)
    · rcases List.mem_cons.1 h with q | q
      · cases q;exact List.mem_cons_self ..
      · exact List.mem_cons_of_mem _ (lh hp q)
    · exact List.mem_cons_of_mem _ (lh hp h)
  · rename_i c' cs' hne heq;cases heq;have:=lh hp h;unfold cN;split
    · rename_i q;cases q
    · rename_i q;cases q;exact List.mem_cons_of_mem _ this
    · rename_i q;cases q;exact List.mem_cons_of_mem _ this
    · rename_i q;cases q;exact this
section
variable {hp hp1:Hp}
theorem BF.getSl (h:BF hp hp1) (e:Ty) (c:AV):getSl hp1 e c=getSl hp e c:=by
 cases c <;> try rfl
 rename_i r;rcases h r with q | ⟨p,e',l,q1,q2⟩
 · simp only [Go.V.getSl,q]
 · simp only [Go.V.getSl,q1,q2]
theorem BF.prj (h:BF hp hp1):∀ (t:Ty) (cs:List AV),prj hp1 t cs=prj hp t cs
 | .bool,_=>rfl
 | .int _,_=>rfl
 | .str,_=>rfl
 | .slice e,cs=>by
  simp only [Go.V.prj,uj];split
  · exact h.getSl e _
  · rfl
 | .pair a b,cs=>by simp only [Go.V.prj,h.prj a,h.prj b]
 | .unit,_=>rfl
 | .opq,_=>rfl
theorem BF.taint1 (h:BF hp hp1) (c:AV):taint1 hp1 c=taint1 hp c:=by
 cases c <;> try rfl
 rename_i r;rcases h r with q | ⟨p,e',l,q1,q2⟩
 · simp only [Go.V.taint1,q]
 · simp only [Go.V.taint1,q1,q2]
theorem BF.taint (h:BF hp hp1):∀ cs:List AV,taint hp1 cs=taint hp cs
 | []=>rfl
 | c::cs=>by simp only [Go.V.taint,h.taint1 c,h.taint cs]
end
theorem we {hp:Hp}:∀ {cs:List AV} {c:AV},c ∈ cs→taint1 hp c=true→taint hp cs=true
 | [],_,h,_=>by cases h
 | d::cs,c,h,ht=>by
  simp only [taint];rcases List.mem_cons.1 h with q | q
  · subst q;rw [ht];rfl
  · cases hd:taint1 hp d with
    | true=>rfl
    | false=>exact we q ht
theorem AY (hp:Hp):∀ (t:Ty),prj hp t [.junk]=none
 | .bool=>rfl
 | .int _=>rfl
 | .str=>rfl
 | .slice _=>rfl
 | .pair a b=>by
  simp only [prj];cases ha:a.size with
  | zero=>simp [AY hp b,vY]
  | succ n=>simp [AY hp a,vY]
 | .unit=>rfl
 | .opq=>rfl
theorem DI (hp:Hp) (vs:List AV):∀ (t:Ty),prj hp t [.tup vs]=none
 | .bool=>rfl
 | .int _=>rfl
 | .str=>rfl
 | .slice _=>rfl
 | .pair a b=>by
  simp only [prj];cases ha:a.size with
  | zero=>simp [DI hp vs b,vY]
  | succ n=>simp [DI hp vs a,vY]
 | .unit=>rfl
 | .opq=>rfl
theorem ql {hp:Hp} {t:Ty} {v:AV} {x:t.d} (h:prj hp t (cellsOf v)=some x):Ej v=true:=by
 cases v <;> try rfl
 · rw [show cellsOf AV.junk=[.junk] from rfl,AY] at h;cases h
 · rename_i vs;rw [show cellsOf (AV.tup vs)=[.tup vs] from rfl,DI] at h;cases h
section
variable {P:Program} {tb:mh} {w0:Bs} {w w':World} {N:Nat→Prop} {φ:Nat→jF} {tm:List AV} {hp:Hp} {a:Act}
theorem rK (h:Ok w0 N φ tm hp a w) {cs:List AV} {q:Bool} (hq:∀ c ∈ cs,taint1 hp c=true→q=true) (hno:∀ r p e l,AV.ref r ∈ cs→hp r ≠ .own p e l) :
 ∀ c ∈ cs,CH w0 w φ hp (XX w0 w φ hp q) c:=by
 intro c hc;have hXp:∀ p',(p'=true→q=true)→∀ b,XX w0 w φ hp p' b→XX w0 w φ hp q b:=by intro p' hpq b hx;exact ⟨hx.1,hx.2.1,Bs.see_up hpq hx.2.2⟩
 refine ⟨fun p b hp' hx=>hXp p (fun e=>hq c hc (hp' e)) b hx,fun r p e l b e1 e2 hb=>?_⟩;subst e1;rcases e2 with e2 | e2
 · exact absurd e2 (hno r p e l hc)
 · have hr:=h.rows r;rw [e2] at hr;exact hXp p (fun e=>hq _ hc (by simp [taint1,e2,e])) b (hr.2 b hb)
theorem Fc (h:Ok w0 N φ tm hp a w) {Xa:Nat→Prop} (hX:∀ p b,XX w0 w φ hp p b→Xa b) {c:AV} (hc:∀ r ∈ cN [c],∀ p e l b,hp r = .own p e l→(φ r).v.ownBlock=some b→Xa b):CH w0 w φ hp Xa c:=by
 refine ⟨fun p b _ hx=>hX p b hx,fun r p e l b e1 e2 hb=>?_⟩;subst e1;have hr:=h.rows r;rcases e2 with e2 | e2
 · exact hc r (by simp [cN]) p e l b e2 hb
 · rw [e2] at hr;exact hX p b (hr.2 b hb)
theorem wE {X:Bool→Nat→Prop} {v:AV} {u:Value} {t:Ty} (h:dC w X N φ v u) (ht:Ej v=true) (ha:CJ t v=true):u=mj t u.cells.toList:=by
 unfold mj;cases v <;> simp only [CJ] at ha <;> try (cases ht;done)
 all_goals (try (have ha':t.agg=false:=by simpa using ha))
 case agg cs=>obtain ⟨vs,rfl,_⟩:=h;rw [if_pos ha];simp [Value.cells]
 case bool=>cases h;rw [ha'];rfl
 case int=>cases h;rw [ha'];rfl
 case str=>cases h;rw [ha'];rfl
 case nil=>cases h;rw [ha'];rfl
 case sl p e l=>obtain ⟨ad,n,c,xs,hc,_⟩:=h;cases hc;rw [ha'];rfl
 case ref=>obtain ⟨_,_,ad,n,c,rfl⟩:=h;rw [ha'];rfl
 case ptr=>obtain ⟨_,_,rfl⟩:=h;rw [ha'];rfl
 case sptr=>obtain ⟨_,b,o,xs,rfl,_⟩:=h;rw [ha'];rfl
 case fn=>obtain ⟨vs,rfl,_⟩:=h;rw [ha'];rfl
theorem mX {al:Bool} {hp:Hp}:∀ {cs ds:List AV} {seen:List Nat},iB al hp (cs++ds) seen=(iB al hp cs seen).bind (iB al hp ds)
 | [],ds,seen=>rfl
 | c::cs,ds,seen=>by
  cases c <;> simp only [List.cons_append,iB] <;> try rfl
  all_goals first
   | exact mX
   | (split
      · rename_i p e l hr;cases hb:((p&&!al)||seen.contains _) with
        | true=>simp
        | false=>simp only [cond_false];exact mX
      · rfl)
theorem xK {al:Bool} (h:Ok w0 N φ tm hp a w):∀ (t:Ty) {cs:List AV} {vs:List Value} {x:t.d} {seen seen':List Nat},prj hp t cs=some x→cV w (XX w0 w φ hp) N φ cs vs→iB al hp cs seen=some seen' →
 ∃ bl,(∀ b ∈ ay bl,∃ r,r ∈ seen'∧r ∉ seen∧bO φ r (hp r)=some b)∧(ay bl).Nodup∧(∀ r ∈ seen,r ∈ seen') ∧
  ∀ X:Nat→Prop,(∀ p b,(p&&!al)=false→XX w0 w φ hp p b→X b)→nX w X w0.mine t x vs bl
 | .bool,cs,vs,x,seen,seen',hx,hr,hd=>by
  have:=nA h .bool (Y:=fun _=>True) (fun c _=>⟨fun _ _ _ _=>trivial,fun _ _ _ _ _ _ _ _=>trivial⟩) hx hr;simp only [prj] at hx;unfold w9 at hx;split at hx
  · cases hd;exact ⟨[],fun b q=>(by cases q),List.nodup_nil,fun r q=>q,fun X _=>⟨this,rfl⟩⟩
  · cases hx
 | .int k,cs,vs,x,seen,seen',hx,hr,hd=>by
  have:=nA h (.int k) (Y:=fun _=>True) (fun c _=>⟨fun _ _ _ _=>trivial,fun _ _ _ _ _ _ _ _=>trivial⟩) hx hr;simp only [prj] at hx;unfold zm at hx;split at hx
  · cases hd;exact ⟨[],fun b q=>(by cases q),List.nodup_nil,fun r q=>q,fun X _=>⟨this,rfl⟩⟩
  · cases hx
 | .str,cs,vs,x,seen,seen',hx,hr,hd=>by
  have:=nA h .str (Y:=fun _=>True) (fun c _=>⟨fun _ _ _ _=>trivial,fun _ _ _ _ _ _ _ _=>trivial⟩) hx hr;simp only [prj] at hx;unfold zQ at hx;split at hx
  · cases hd;exact ⟨[],fun b q=>(by cases q),List.nodup_nil,fun r q=>q,fun X _=>⟨this,rfl⟩⟩
  · cases hx
 | .unit,cs,vs,x,seen,seen',hx,hr,hd=>by
  have:=nA h .unit (Y:=fun _=>True) (fun c _=>⟨fun _ _ _ _=>trivial,fun _ _ _ _ _ _ _ _=>trivial⟩) hx hr;simp only [prj] at hx;unfold w_ at hx;split at hx
  · cases hd;exact ⟨[],fun b q=>(by cases q),List.nodup_nil,fun r q=>q,fun X _=>⟨this,rfl⟩⟩
  · cases hx
 | .opq,cs,vs,x,seen,seen',hx,hr,hd=>by cases hx
 | .pair s t,cs,vs,x,seen,seen',hx,hr,hd=>by
  simp only [prj] at hx;obtain ⟨h1,h2⟩:=d7 hx;rw [← List.take_append_drop s.size cs,mX] at hd;obtain ⟨OM,hd1,hd2⟩:=Option.bind_eq_some_iff.1 hd;obtain ⟨b1,p1,p2,p3,p4⟩:=xK h s h1 (hr.take s.size) hd1;obtain ⟨b2,q1,q2,q3,q4⟩:=xK h t h2 (hr.drop s.size) hd2;refine ⟨b1++b2,fun b hb=>?_,?_,fun r q=>q3 r (p3 r q),fun X hX=>⟨_,_,b1,b2,(List.take_append_drop s.size vs).symm,rfl,p4 X hX,q4 X hX⟩⟩
  · simp only [ay,List.filterMap_append,List.mem_append] at hb;rcases hb with hb | hb
    · obtain ⟨r,z1,z2,z3⟩:=p1 b hb;exact ⟨r,q3 r z1,z2,z3⟩
    · obtain ⟨r,z1,z2,z3⟩:=q1 b hb;exact ⟨r,z1,fun q=>z2 (p3 r q),z3⟩
  · simp only [ay,List.filterMap_append];rw [List.nodup_append];refine ⟨p2,q2,fun b hb b' hb' e=>?_⟩;subst e;obtain ⟨r,z1,z2,z3⟩:=p1 b hb;obtain ⟨r',z1',z2',z3'⟩:=q1 b hb';have:=h.disj r r' b z3 z3';subst this;exact z2' z1
 | .slice e,cs,vs,x,seen,seen',hx,hr,hd=>by
  simp only [prj] at hx;unfold uj at hx;split at hx
  · rename_i c;obtain ⟨v,rfl,_,hv⟩:=qm hr;unfold getSl at hx;split at hx
    · cases hx;cases hd;cases hv;exact ⟨[⟨.slice none 0 0,0,e.size,0⟩],fun b q=>by simp [ay,Value.ownBlock] at q,by simp [ay,Value.ownBlock],fun r q=>q,
       fun X _=>⟨_,0,[],rfl,mF.nil,rfl,rfl⟩⟩
    · cases hd
    · rename_i r;simp only [iB] at hd;split at hd
      · rename_i p' e' l' hrow;rw [hrow] at hx;obtain ⟨he,hx⟩:=nK hx;subst he;subst hx;cases hb:((p'&&!al)||seen.contains r) with
        | true=>rw [hb] at hd;cases hd
        | false =>
         rw [hb,cond_false] at hd;cases hd;simp only [Bool.or_eq_false_iff] at hb;obtain ⟨hb1,hb2⟩:=hb;have hrk:=h.rows r;rw [hrow] at hrk;obtain ⟨hN,rfl,ad,n',c',hsl⟩:=hv;obtain ⟨_,k1,k2,k3,te,xs,ho,hl⟩:=hrk;refine ⟨[⟨(φ r).v,((φ r).v.ownBlock).getD 0,e'.size,List.length (α:=e'.d) x⟩],fun b q=>?_,?_,fun r' q=>List.mem_cons_of_mem _ q,fun X hX=>⟨_,te,xs,rfl,ho,hl.mono (hX p' · hb1) (fun _ _=>rfl),rfl⟩⟩
         · simp only [ay,List.filterMap_cons,List.filterMap_nil] at q;refine ⟨r,List.mem_cons_self ..,by simpa using hb2,?_⟩;rw [hrow];simp only [bO];split at q
           · cases q
           · rename_i b' hb';simp only [List.mem_singleton] at q;rw [q,hb']
         · simp only [ay,List.filterMap_cons,List.filterMap_nil];split <;> simp
      · cases hd
    · cases hx
  · cases hx
theorem zq:∀ {cs:List AV} {c:AV},c ∈ cs→∀ r ∈ cN [c],r ∈ cN cs
 | [],_,h,_,_=>by cases h
 | d::cs,c,h,r,hr=>by
  rcases List.mem_cons.1 h with q | q
  · subst q;cases c <;> simp [cN] at hr ⊢ <;> exact Or.inl hr
  · have:=zq q r hr;cases d <;> simp [cN,this]
theorem t_ (n:Nat):∀ cs:List AV,cN cs=cN (cs.take n)++cN (cs.drop n):=by
 have app:∀ cs ds:List AV,cN (cs++ds)=cN cs++cN ds:=by
  intro cs ds
  induction cs with
  | nil=>rfl
  | cons c cs ih=>cases c <;> simp [cN,ih]
 intro cs;rw [← app,List.take_append_drop]
theorem jX {hp:Hp}:∀ {cs:List AV} {seen:List Nat},fJ hp cs=true→(cN cs).Nodup→(∀ r ∈ cN cs,r ∉ seen)→∃ seen',iB true hp cs seen=some seen'∧∀ r ∈ seen',r ∈ seen∨r ∈ cN cs
 | [],seen,_,_,_=>⟨seen,rfl,fun r q=>Or.inl q⟩
 | c::cs,seen,hf,hn,hs=>by
  cases c with
  | ref r =>
   simp only [fJ,Bool.and_eq_true] at hf;simp only [cN,List.nodup_cons] at hn;simp only [cN,List.mem_cons,forall_eq_or_imp] at hs;obtain ⟨hf1,hf2⟩:=hf;split at hf1
   · rename_i p e l hr;obtain ⟨seen',h1,h2⟩:=jX (seen:=r::seen) hf2 hn.2 fun r' hr' q=>by
      rcases List.mem_cons.1 q with q | q
      · subst q;exact hn.1 hr'
      · exact hs.2 r' hr' q
     refine ⟨seen',?_,fun r' hr'=>?_⟩
     · simp only [iB,hr];have:((p&&!true)||seen.contains r)=false:=by simp [hs.1]
       rw [this];exact h1
     · simp only [cN,List.mem_cons];rcases h2 r' hr' with q | q
       · rcases List.mem_cons.1 q with q | q
         · exact Or.inr (Or.inl q)
         · exact Or.inl q
       · exact Or.inr (Or.inr q)
   · cases hf1
  | nil e=>simp only [fJ] at hf;exact jX (cs:=cs) hf hn hs
  | bool b=>simp only [fJ] at hf;exact jX (cs:=cs) hf hn hs
  | int k n=>simp only [fJ] at hf;exact jX (cs:=cs) hf hn hs
  | str b=>simp only [fJ] at hf;exact jX (cs:=cs) hf hn hs
  | _=>simp [fJ] at hf
theorem dH.append {X:Bool→Nat→Prop}:∀ {cs ds:List AV} {vs us:List Value},dH w X N φ cs vs→dH w X N φ ds us→dH w X N φ (cs++ds) (vs++us)
 | [],_,_,_,h,h'=>by unfold dH at h;subst h;exact h'
 | c::cs,ds,_,us,h,h'=>by unfold dH at h;obtain ⟨u,vs,rfl,h1,h2⟩:=h;have:=dH.append h2 h';show dH _ _ _ _ (c::(cs++ds)) (u::(vs++us));unfold dH;exact ⟨u,_,rfl,h1,this⟩
theorem dH.len {X:Bool→Nat→Prop}:∀ {cs:List AV} {vs:List Value},dH w X N φ cs vs→vs.length=cs.length
 | [],_,h=>by unfold dH at h;subst h;rfl
 | c::cs,_,h=>by unfold dH at h;obtain ⟨u,vs,rfl,h1,h2⟩:=h;simp [dH.len h2]
theorem rh {hp:Hp} {f:Nat} {v:AV} {cs:List AV} (h:s_ hp f v=some cs):∃ r,v = .ptr r 0 f∧hp r = .box cs:=by
 unfold s_ at h;split at h
 · rename_i r i off;obtain ⟨hb,h2⟩:=aM h;clear h;simp only [Bool.and_eq_true] at hb;have e1:=Nat.eq_of_beq_eq_true hb.1;have e2:=Nat.eq_of_beq_eq_true hb.2;subst e1;subst e2;split at h2
   · rename_i cs' hr;cases h2;exact ⟨r,rfl,hr⟩
   · cases h2
 · cases h
theorem nF {l:List Nat} {n:Nat}:kW l n=true↔n ∈ l:=by
 induction l with
 | nil=>simp [kW]
 | cons m l ih =>
  simp only [kW,List.mem_cons];cases hb:Nat.beq m n with
  | true=>simp [Nat.eq_of_beq_eq_true hb]
  | false =>
   have:n≠m:=fun q=>by subst q;simp at hb
   simp [ih,this]
theorem v7 {a b:List Nat}:mG a b=true↔∀ m ∈ a,m ∉ b:=by
 induction a with
 | nil=>simp [mG]
 | cons m a ih =>
  simp only [mG,List.forall_mem_cons];cases hb:kW b m with
  | true=>simp [nF.1 hb]
  | false =>
   have:m ∉ b:=fun q=>by rw [nF.2 q] at hb;cases hb
   simp [ih,this]
theorem xS:∀ {l:List Nat},FK l=true→l.Nodup
 | [],_=>List.nodup_nil
 | r::l,h=>by simp only [FK,Bool.and_eq_true,Bool.not_eq_true'] at h;rw [List.nodup_cons];refine ⟨fun q=>?_,xS h.2⟩;rw [nF.2 q] at h;cases h.1
theorem pY {hp:Hp}:∀ {cs:List AV},fJ hp cs=true→∀ r ∈ cN cs,∃ p e l,hp r = .own p e l
 | [],_,_,h=>by cases h
 | c::cs,hf,r,hr=>by
  cases c <;> simp only [fJ,Bool.and_eq_true] at hf <;> try (cases hf;done)
  all_goals (first | exact pY hf r hr | skip)
  simp only [cN,List.mem_cons] at hr;rcases hr with q | q
  · subst q;have:=hf.1;split at this
    · rename_i p e l hq;exact ⟨p,e,l,hq⟩
    · cases this
  · exact pY hf.2 r q
theorem tY {hp:Hp}:∀ {A:List Pm} {vs:List AV} {x:(tup (pn A)).d},fX hp A vs=some x→∀ r ∈ nY hp A vs,(∃ cs,hp r = .box cs)∨∃ p e l,hp r = .own p e l
 | [],_,_,_,r,hr=>by cases hr
 | .val t::A,vs,x,hx,r,hr=>by
  cases vs with
  | nil=>simp only [fX] at hx;cases hx
  | cons v vs =>simp only [fX] at hx;exact tY (d7 (aM hx).2).2 r hr
 | .lend t::A,vs,x,hx,r,hr=>by
  cases vs with
  | nil=>simp only [fX] at hx;cases hx
  | cons v vs =>
   simp only [fX] at hx;simp only [nY,List.headD_cons,List.tail_cons,List.mem_append] at hr;rcases hr with q | q
   · exact Or.inr (pY ((Bool.and_eq_true _ _▸(aM hx).1:_∧_).2) r q)
   · exact tY (d7 (aM hx).2).2 r q
 | .give t::A,vs,x,hx,r,hr=>by
  cases vs with
  | nil=>simp only [fX] at hx;cases hx
  | cons v vs =>
   simp only [fX] at hx;simp only [nY,List.headD_cons,List.tail_cons,List.mem_append] at hr;rcases hr with q | q
   · exact Or.inr (pY ((Bool.and_eq_true _ _▸(aM hx).1:_∧_).2) r q)
   · exact tY (d7 (aM hx).2).2 r q
 | .fn f n::A,vs,x,hx,r,hr=>tY (A:=A) hx r hr
 | .io o f t::A,vs,x,hx,r,hr=>by
  cases vs with
  | nil=>simp only [fX] at hx;cases hx
  | cons v vs =>
   simp only [fX] at hx;split at hx
   · rename_i cs hcs;obtain ⟨r0,hv,hrow⟩:=rh hcs;subst hv;obtain ⟨ho,hx⟩:=aM hx;simp only [nY,List.headD_cons,List.tail_cons,hcs,Option.getD_some,cN,List.cons_append,List.nil_append,List.mem_cons,List.mem_append] at hr;rcases hr with q | q | q
     · subst q;exact Or.inl ⟨cs,hrow⟩
     · cases o with
       | true=>exact Or.inr (pY (by simpa using ho) r q)
       | false=>cases q
     · exact tY (d7 hx).2 r q
   · cases hx
theorem lL {p:Pm} {A:List Pm}:iH (p::A) []=none:=rfl
theorem AA {v:AV} {as:List AV}:iH [] (v::as)=none:=rfl
theorem BQ {t:Ty} {A:List Pm} {v:AV} {as vs:List AV} (h:iH (.val t::A) (v::as)=some vs):∃ l,iH A as=some l∧vs=v::l:=by
 simp only [iH] at h;cases hq:iH A as with
 | none=>rw [hq] at h;cases h
 | some l=>rw [hq] at h;exact ⟨l,rfl,(Option.some.inj h).symm⟩
theorem F_ {o:Bool} {f:Nat} {t:Ty} {A:List Pm} {v:AV} {as vs:List AV} (h:iH (.io o f t::A) (v::as)=some vs):∃ l,iH A as=some l∧vs=v::l:=by
 simp only [iH] at h;cases hq:iH A as with
 | none=>rw [hq] at h;cases h
 | some l=>rw [hq] at h;exact ⟨l,rfl,(Option.some.inj h).symm⟩
theorem Aq {t:Ty} {A:List Pm} {v:AV} {as vs:List AV} (h:iH (.lend t::A) (v::as)=some vs):∃ l,iH A as=some l∧vs=v::l:=by
 simp only [iH] at h;cases hq:iH A as with
 | none=>rw [hq] at h;cases h
 | some l=>rw [hq] at h;exact ⟨l,rfl,(Option.some.inj h).symm⟩
theorem zN {t:Ty} {A:List Pm} {v:AV} {as vs:List AV} (h:iH (.give t::A) (v::as)=some vs):∃ l,iH A as=some l∧vs=v::l:=by
 simp only [iH] at h;cases hq:iH A as with
 | none=>rw [hq] at h;cases h
 | some l=>rw [hq] at h;exact ⟨l,rfl,(Option.some.inj h).symm⟩
theorem Eh {f n:Nat} {A:List Pm} {v:AV} {as vs:List AV} (h:iH (.fn f n::A) (v::as)=some vs):∃ cs,v = .fn f cs∧cs.length=n∧iH A (cs++as)=some vs:=by
 cases v <;> simp only [iH] at h <;> try (cases h;done)
 rename_i f' cs;have hb:=(aM h).1;have h':=(aM h).2;simp only [Bool.and_eq_true] at hb;have e1:=Nat.eq_of_beq_eq_true hb.1;subst e1;exact ⟨cs,rfl,Nat.eq_of_beq_eq_true hb.2,h'⟩
theorem Dy (h:Ok w0 N φ tm hp a w) {Xa:Nat→Prop} (hX:∀ p b,XX w0 w φ hp p b→Xa b) {t:Ty} {cs:List AV} {us:List Value} {x:t.d} (hx:prj hp t cs=some x) (hr:cV w (XX w0 w φ hp) N φ cs us)
 (hf:fJ hp cs=true) (hn:(cN cs).Nodup):∃ bl,nX w Xa (fun _=>True) t x us bl∧(ay bl).Nodup∧∀ b ∈ ay bl,∃ r ∈ cN cs,bO φ r (hp r)=some b:=by
 obtain ⟨seen',hd,hs⟩:=jX (seen:=[]) hf hn (fun _ _ q=>by cases q);obtain ⟨bl,h1,h2,_,h4⟩:=xK h t hx hr hd;refine ⟨bl,(h4 Xa fun p b _ hb=>hX p b hb).any (fun _ q=>q) (fun _ _=>trivial),h2,fun b hb=>?_⟩;obtain ⟨r,q1,q2,q3⟩:=h1 b hb;rcases hs r q1 with q | q
 · cases q
 · exact ⟨r,q,q3⟩
set_option maxHeartbeats 4000000 in
theorem pU (h:Ok w0 N φ tm hp a w) {Xa:Nat→Prop} (hX:∀ p b,XX w0 w φ hp p b→Xa b) {D:List Nat} (hD:∀ r ∈ D,∀ p e l b,hp r = .own p e l→(φ r).v.ownBlock=some b→Xa b) :
 ∀ {A:List Pm} {as vs:List AV} {us:List Value} {x:(tup (pn A)).d},iH A as=some vs→fX hp A vs=some x→dH w (XX w0 w φ hp) N φ as us→(∀ r ∈ sJ hp A vs,r ∈ D)→(nY hp A vs).Nodup →
 ∃ bs,vR w Xa A x us bs∧bs.Nodup∧∀ b ∈ bs,∃ r ∈ nY hp A vs,bO φ r (hp r)=some b
 | [],as,vs,us,x,hf,hx,hr,hrd,hn=>by
  cases as with
  | nil =>unfold dH at hr;subst hr;exact ⟨[],⟨rfl,rfl⟩,List.nodup_nil,fun b q=>by cases q⟩
  | cons v as=>rw [AA] at hf;cases hf
 | .val t::A,as,vs,us,x,hf,hx,hr,hrd,hn=>by
  cases as with
  | nil=>rw [lL] at hf;cases hf
  | cons v as =>obtain ⟨l,hl,hvs⟩:=BQ hf;subst hvs;simp only [fX] at hx;obtain ⟨ha,hx⟩:=aM hx;obtain ⟨h1,h2⟩:=d7 hx;unfold dH at hr;obtain ⟨u,us',rfl,hu,hus⟩:=hr;simp only [sJ,List.headD_cons,List.tail_cons,List.mem_append] at hrd;obtain ⟨bs,g1,g2,g3⟩:=pU h hX hD hl h2 hus (fun r q=>hrd r (Or.inr q)) hn;have ht:=ql h1;have hp1:=nA h t (fun c hc=>Fc h hX fun r q=>hD r (hrd r (Or.inl (zq hc r q)))) h1 (kZ hu ht);exact ⟨bs,⟨_,us',by rw [← wE hu ht ha],hp1,g1⟩,g2,g3⟩
 | .io o f t::A,as,vs,us,x,hf,hx,hr,hrd,hn=>by
  cases as with
  | nil=>rw [lL] at hf;cases hf
  | cons v as =>
   obtain ⟨l,hl,hvs⟩:=F_ hf;subst hvs;simp only [fX] at hx;split at hx
   · rename_i cs hcs;obtain ⟨ho,hx⟩:=aM hx;obtain ⟨h1,h2⟩:=d7 hx;unfold dH at hr;obtain ⟨u,us',rfl,hu,hus⟩:=hr;obtain ⟨r,rfl,hrow⟩:=rh hcs;have hrk:=h.rows r;rw [hrow] at hrk;obtain ⟨hN,hB,hn1,vs,te,hh,hcr⟩:=hrk;obtain ⟨_,_,rfl⟩:=hu;simp only [nY,List.headD_cons,List.tail_cons,hcs,Option.getD_some,cN,List.cons_append,List.nil_append,List.nodup_cons] at hn;simp only [sJ,List.headD_cons,List.tail_cons,hcs,Option.getD_some,List.mem_append] at hrd;obtain ⟨hn0,hn2⟩:=hn;obtain ⟨hnA,hnB,hnC⟩:=List.nodup_append.1 hn2;obtain ⟨bs,g1,g2,g3⟩:=pU h hX hD hl h2 hus (fun r q=>hrd r (Or.inr q)) hnB;have hbr:bO φ r (hp r)=some (φ r).b:=by rw [hrow];rfl
     have key:∃ bl,(if o then nX w Xa (fun _=>True) t x.1 vs.toList bl else bl=[]∧Rd w Xa t x.1 vs.toList)∧(ay bl).Nodup∧∀ b ∈ ay bl,∃ r' ∈ (bif o then cN cs else []),bO φ r' (hp r')=some b:=by
      cases o with
      | true =>obtain ⟨bl,k1,k2,k3⟩:=Dy h hX h1 hcr (by simpa using ho) (by simpa using hnA);exact ⟨bl,k1,k2,k3⟩
      | false =>refine ⟨[],⟨rfl,nA h t (fun c hc=>Fc h hX fun r' q=>hD r' (hrd r' (Or.inl ?_))) h1 hcr⟩,List.nodup_nil,fun b q=>by cases q⟩;exact zq hc r' q
     obtain ⟨bl,k1,k2,k3⟩:=key;refine ⟨(φ r).b::(ay bl++bs),⟨(φ r).b,vs,te,us',bl,bs,by simp,hh,rfl,k1,g1⟩,?_,fun b hb=>?_⟩
     · rw [List.nodup_cons,List.nodup_append,List.mem_append];refine ⟨fun q=>?_,k2,g2,fun b hb b' hb' e=>?_⟩
       · rcases q with q | q
         · obtain ⟨r',q1,q2⟩:=k3 _ q;have:=h.disj r r' _ hbr q2;subst this;exact hn0 (List.mem_append_left _ q1)
         · obtain ⟨r',q1,q2⟩:=g3 _ q;have:=h.disj r r' _ hbr q2;subst this;exact hn0 (List.mem_append_right _ q1)
       · subst e;obtain ⟨r1,q1,q2⟩:=k3 _ hb;obtain ⟨r2,q3,q4⟩:=g3 _ hb';exact hnC r1 q1 r2 q3 (h.disj r1 r2 _ q2 q4)
     · simp only [nY,List.headD_cons,List.tail_cons,hcs,Option.getD_some,cN,List.cons_append,List.nil_append,List.mem_cons,List.mem_append] at hb ⊢;rcases hb with q | q | q
       · subst q;exact ⟨r,Or.inl rfl,hbr⟩
       · obtain ⟨r',q1,q2⟩:=k3 _ q;exact ⟨r',Or.inr (Or.inl q1),q2⟩
       · obtain ⟨r',q1,q2⟩:=g3 _ q;exact ⟨r',Or.inr (Or.inr q1),q2⟩
   · cases hx
 | .lend t::A,as,vs,us,x,hf,hx,hr,hrd,hn=>by
  cases as with
  | nil=>rw [lL] at hf;cases hf
  | cons v as =>
   obtain ⟨l,hl,hvs⟩:=Aq hf;subst hvs;simp only [fX] at hx;obtain ⟨ha,hx⟩:=aM hx;obtain ⟨h1,h2⟩:=d7 hx;simp only [Bool.and_eq_true] at ha;unfold dH at hr;obtain ⟨u,us',rfl,hu,hus⟩:=hr;simp only [nY,List.headD_cons,List.tail_cons] at hn;simp only [sJ,List.tail_cons] at hrd;obtain ⟨hnA,hnB,hnC⟩:=List.nodup_append.1 hn;obtain ⟨bs,g1,g2,g3⟩:=pU h hX hD hl h2 hus hrd hnB;have ht:=ql h1;obtain ⟨bl,k1,k2,k3⟩:=Dy h hX h1 (kZ hu ht) ha.2 hnA;refine ⟨ay bl++bs,⟨_,us',bl,bs,by rw [← wE hu ht ha.1],rfl,k1,g1⟩,?_,fun b hb=>?_⟩
   · rw [List.nodup_append];refine ⟨k2,g2,fun b hb b' hb' e=>?_⟩;subst e;obtain ⟨r1,q1,q2⟩:=k3 _ hb;obtain ⟨r2,q3,q4⟩:=g3 _ hb';exact hnC r1 q1 r2 q3 (h.disj r1 r2 _ q2 q4)
   · simp only [nY,List.headD_cons,List.tail_cons,List.mem_append] at hb ⊢;rcases hb with q | q
     · obtain ⟨r',q1,q2⟩:=k3 _ q;exact ⟨r',Or.inl q1,q2⟩
     · obtain ⟨r',q1,q2⟩:=g3 _ q;exact ⟨r',Or.inr q1,q2⟩
 | .give t::A,as,vs,us,x,hf,hx,hr,hrd,hn=>by
  cases as with
  | nil=>rw [lL] at hf;cases hf
  | cons v as =>
   obtain ⟨l,hl,hvs⟩:=zN hf;subst hvs;simp only [fX] at hx;obtain ⟨ha,hx⟩:=aM hx;obtain ⟨h1,h2⟩:=d7 hx;simp only [Bool.and_eq_true] at ha;unfold dH at hr;obtain ⟨u,us',rfl,hu,hus⟩:=hr;simp only [nY,List.headD_cons,List.tail_cons] at hn;simp only [sJ,List.tail_cons] at hrd;obtain ⟨hnA,hnB,hnC⟩:=List.nodup_append.1 hn;obtain ⟨bs,g1,g2,g3⟩:=pU h hX hD hl h2 hus hrd hnB;have ht:=ql h1;obtain ⟨bl,k1,k2,k3⟩:=Dy h hX h1 (kZ hu ht) ha.2 hnA;refine ⟨ay bl++bs,⟨_,us',bl,bs,by rw [← wE hu ht ha.1],rfl,k1,g1⟩,?_,fun b hb=>?_⟩
   · rw [List.nodup_append];refine ⟨k2,g2,fun b hb b' hb' e=>?_⟩;subst e;obtain ⟨r1,q1,q2⟩:=k3 _ hb;obtain ⟨r2,q3,q4⟩:=g3 _ hb';exact hnC r1 q1 r2 q3 (h.disj r1 r2 _ q2 q4)
   · simp only [nY,List.headD_cons,List.tail_cons,List.mem_append] at hb ⊢;rcases hb with q | q
     · obtain ⟨r',q1,q2⟩:=k3 _ q;exact ⟨r',Or.inl q1,q2⟩
     · obtain ⟨r',q1,q2⟩:=g3 _ q;exact ⟨r',Or.inr q1,q2⟩
 | .fn f n::A,as,vs,us,x,hf,hx,hr,hrd,hn=>by
  cases as with
  | nil=>rw [lL] at hf;cases hf
  | cons v as =>obtain ⟨cs,rfl,hlen,hf⟩:=Eh hf;unfold dH at hr;obtain ⟨u,us',rfl,hu,hus⟩:=hr;unfold dC at hu;obtain ⟨ws,rfl,hws⟩:=hu;obtain ⟨bs,g1,g2,g3⟩:=pU h hX hD hf hx (hws.append hus) hrd hn;exact ⟨bs,⟨ws,us',rfl,by rw [hws.len,hlen],g1⟩,g2,g3⟩
theorem CS (h:Ok w0 N φ tm hp a w) {X':Nat→Prop} {M M':Nat→Prop} {p:Bool} {Y:Bool→Nat→Prop} {N':Nat→Prop} {φ':Nat→jF} (hX:∀ b,X' b→Y p b) (he:∀ r,N r→φ' r=φ r∧N' r) :
 ∀ {t:Ty} {x y:t.d} {cs:List AV} {us:List Value} {bl:List jF},prj hp t cs=some x→fJ hp cs=true→cV w (XX w0 w φ hp) N φ cs us→nX w' X' M t y us bl→(∀ b ∈ ay bl,M' b) →
 (∀ r row,(r,row) ∈ pm p t y cs→lC w' Y N' φ' M' r row)∧lX φ' (pm p t y cs)=ay bl∧(pm p t y cs).map (·.1)=cN cs
 | .bool,x,y,cs,us,bl,hx,hf,hr,ho,hM=>by
  simp only [prj] at hx;unfold w9 at hx;split at hx
  · obtain ⟨_,rfl⟩:=ho;exact ⟨fun _ _ q=>(by simp [pm,w6] at q),rfl,rfl⟩
  · cases hx
 | .int k,x,y,cs,us,bl,hx,hf,hr,ho,hM=>by
  simp only [prj] at hx;unfold zm at hx;split at hx
  · obtain ⟨_,rfl⟩:=ho;exact ⟨fun _ _ q=>(by simp [pm,w6] at q),rfl,rfl⟩
  · cases hx
 | .str,x,y,cs,us,bl,hx,hf,hr,ho,hM=>by
  simp only [prj] at hx;unfold zQ at hx;split at hx
  · obtain ⟨_,rfl⟩:=ho;exact ⟨fun _ _ q=>(by simp [pm,w6] at q),rfl,rfl⟩
  · cases hx
 | .unit,x,y,cs,us,bl,hx,hf,hr,ho,hM=>by
  simp only [prj] at hx;unfold w_ at hx;split at hx
  · obtain ⟨_,rfl⟩:=ho;exact ⟨fun _ _ q=>(by simp [pm,w6] at q),rfl,rfl⟩
  · cases hx
 | .opq,x,y,cs,us,bl,hx,hf,hr,ho,hM=>by cases hx
 | .pair s t,x,y,cs,us,bl,hx,hf,hr,ho,hM=>by
  simp only [prj] at hx;obtain ⟨h1,h2⟩:=d7 hx;obtain ⟨c,d,b1,b2,rfl,rfl,o1,o2⟩:=ho;have hl:=o1.len.1;have hfl:fJ hp (cs.take s.size)=true∧fJ hp (cs.drop s.size)=true:=by
   have app:∀ cs ds:List AV,fJ hp (cs++ds)=true→fJ hp cs=true∧fJ hp ds=true:=by
    intro cs ds
    induction cs with
    | nil=>exact fun q=>⟨rfl,q⟩
    | cons c cs ih =>
     intro q;cases c <;> simp only [List.cons_append,fJ,Bool.and_eq_true] at q ⊢ <;> first | (cases q;done) | (exact ih q) | (exact ⟨⟨q.1,(ih q.2).1⟩,(ih q.2).2⟩)
   exact app _ _ (by rw [List.take_append_drop];exact hf)
  simp only [mS,List.mem_append] at hM;have r1:=hr.take s.size;have r2:=hr.drop s.size;rw [← hl,List.take_left,hl] at r1;rw [← hl,List.drop_left,hl] at r2;obtain ⟨a1,a2,a3⟩:=CS h hX he h1 hfl.1 r1 o1 fun b hb=>hM b (Or.inl hb)
  obtain ⟨c1,c2,c3⟩:=CS h hX he h2 hfl.2 r2 o2 fun b hb=>hM b (Or.inr hb)
  refine ⟨fun r row q=>?_,?_,?_⟩
  · rcases List.mem_append.1 q with q | q
    · exact a1 r row q
    · exact c1 r row q
  · show lX φ' (pm p s y.1 _++pm p t y.2 _)=_;rw [ii,a2,c2,mS]
  · show (pm p s y.1 _++pm p t y.2 _).map (·.1)=_;rw [List.map_append,a3,c3,← t_]
 | .slice e,x,y,cs,us,bl,hx,hf,hr,ho,hM=>by
  simp only [prj] at hx;unfold uj at hx;split at hx
  · rename_i c;obtain ⟨v,rfl,_,hv⟩:=qm hr;obtain ⟨v',te,xs,hvv,o1,o2,rfl⟩:=ho;cases hvv;unfold getSl at hx;split at hx
    · cases hv;exact ⟨fun _ _ q=>(by simp [pm,w6] at q),rfl,rfl⟩
    · simp [fJ] at hf
    · rename_i r;simp only [fJ,Bool.and_true] at hf;split at hf
      · rename_i p' e' l' hrow;rw [hrow] at hx;obtain ⟨rfl,rfl⟩:=nK hx;have hrk:=h.rows r;rw [hrow] at hrk;obtain ⟨hN,k1,k2,k3,te',xs',k4,k5⟩:=hrk;obtain ⟨_,rfl,_⟩:=hv;obtain ⟨e1,e2⟩:=he r hN;obtain ⟨ad,c,q1,q2,_⟩:=kc k4;obtain ⟨ad',c',q3,q4,_⟩:=kc o1;rw [q1] at q3;simp only [Value.slice.injEq] at q3;have hlen:=q3.2.1;refine ⟨fun r' row q=>?_,?_,rfl⟩
        · simp only [pm,w6,List.mem_singleton,Prod.mk.injEq] at q;obtain ⟨rfl,rfl⟩:=q;refine ⟨e2,by rw [e1];exact k1,by rw [e1,k2];exact hlen,by rw [e1];exact k3,te,xs,?_,IP o2 hX⟩;rw [e1];exact mF.of o1.row fun b hb=>hM b (List.mem_filterMap.2 ⟨_,List.mem_singleton.2 rfl,hb⟩)
        · simp only [lX,pm,w6,ay,List.filterMap_cons,List.filterMap_nil,bO,e1]
      · cases hf
    · cases hx
  · cases hx
set_option maxHeartbeats 4000000 in
theorem qk (h:Ok w0 N φ tm hp a w) {al:Bool} {X':Nat→Prop} :
 ∀ {A:List Pm} {as vs:List AV} {us:List Value} {x:(tup (pn A)).d} {y:(tup (iG A)).d} {bs':List Nat},iH A as=some vs→fX hp A vs=some x→dH w (XX w0 w φ hp) N φ as us→yz w' X' A us y bs' →
 ∃ bls:List jF,bls.length=jo A∧∀ {id:Nat} {φ':Nat→jF} {N' M':Nat→Prop} {Y:Bool→Nat→Prop},(∀ r,N r→φ' r=φ r∧N' r)→(∀ k (hk:k<bls.length),φ' (id+k)=bls[k]∧N' (id+k)) →
  (∀ b,X' b→Y al b)→(∀ b ∈ bs',M' b) →
  (∀ r row,(r,row) ∈ kM hp al A vs y id→lC w' Y N' φ' M' r row)∧lX φ' (kM hp al A vs y id)=bs'∧((kM hp al A vs y id).map (·.1)).Perm (nY hp A vs++List.range' id (jo A))
 | [],as,vs,us,x,y,bs',hf,hx,hr,ho=>by
  cases as with
  | nil =>cases hf;obtain ⟨_,rfl⟩:=ho;exact ⟨[],rfl,fun _ _ _ _=>⟨fun _ _ q=>(by simp [kM] at q),rfl,by simp [kM,nY,jo]⟩⟩
  | cons v as=>rw [AA] at hf;cases hf
 | .val t::A,as,vs,us,x,y,bs',hf,hx,hr,ho=>by
  cases as with
  | nil=>rw [lL] at hf;cases hf
  | cons v as =>obtain ⟨l,hl,hvs⟩:=BQ hf;subst hvs;simp only [fX] at hx;obtain ⟨ha,hx⟩:=aM hx;obtain ⟨h1,h2⟩:=d7 hx;unfold dH at hr;obtain ⟨u,us',rfl,hu,hus⟩:=hr;obtain ⟨u',us'',hq,ho⟩:=ho;cases hq;exact qk h (A:=A) hl h2 hus ho
 | .give t::A,as,vs,us,x,y,bs',hf,hx,hr,ho=>by
  cases as with
  | nil=>rw [lL] at hf;cases hf
  | cons v as =>
   obtain ⟨l,hl,hvs⟩:=zN hf;subst hvs;simp only [fX] at hx;obtain ⟨ha,hx⟩:=aM hx;obtain ⟨h1,h2⟩:=d7 hx;unfold dH at hr;obtain ⟨u,us',rfl,hu,hus⟩:=hr;obtain ⟨u',us'',hq,ho⟩:=ho;cases hq;obtain ⟨bls,b1,b2⟩:=qk h (A:=A) (al:=al) hl h2 hus ho;refine ⟨bls,b1,fun he hk hX hM=>?_⟩;obtain ⟨c1,c2,c3⟩:=b2 he hk hX hM;simp only [kM,List.headD_cons,List.tail_cons];refine ⟨fun r row q=>?_,by rw [ii,xg,List.nil_append,c2],?_⟩
   · rcases List.mem_append.1 q with q | q
     · simp only [tP,List.mem_map,Prod.mk.injEq] at q;obtain ⟨_,_,_,rfl⟩:=q;trivial
     · exact c1 r row q
   · rw [List.map_append,rH];simp only [nY,List.headD_cons,List.tail_cons,jo,List.append_assoc];exact c3.append_left _
 | .lend t::A,as,vs,us,x,y,bs',hf,hx,hr,ho=>by
  cases as with
  | nil=>rw [lL] at hf;cases hf
  | cons v as =>
   obtain ⟨l,hl,hvs⟩:=Aq hf;subst hvs;simp only [fX] at hx;obtain ⟨ha,hx⟩:=aM hx;obtain ⟨h1,h2⟩:=d7 hx;simp only [Bool.and_eq_true] at ha;unfold dH at hr;obtain ⟨u,us',rfl,hu,hus⟩:=hr;obtain ⟨u',us'',bl,bs'',hq,rfl,o1,ho⟩:=ho;cases hq;obtain ⟨bls,b1,b2⟩:=qk h (A:=A) (al:=al) hl h2 hus ho;refine ⟨bls,b1,fun he hk hX hM=>?_⟩;simp only [List.mem_append] at hM;obtain ⟨c1,c2,c3⟩:=b2 he hk hX fun b hb=>hM b (Or.inr hb)
   obtain ⟨d1,d2,d3⟩:=CS h hX he h1 ha.2 (kZ hu (ql h1)) o1 fun b hb=>hM b (Or.inl hb)
   simp only [kM,List.headD_cons,List.tail_cons];refine ⟨fun r row q=>?_,by rw [ii,d2,c2],?_⟩
   · rcases List.mem_append.1 q with q | q
     · exact d1 r row q
     · exact c1 r row q
   · rw [List.map_append,d3];simp only [nY,List.headD_cons,List.tail_cons,jo,List.append_assoc];exact c3.append_left _
 | .fn f n::A,as,vs,us,x,y,bs',hf,hx,hr,ho=>by
  cases as with
  | nil=>rw [lL] at hf;cases hf
  | cons v as =>obtain ⟨cs,rfl,hlen,hf⟩:=Eh hf;unfold dH at hr;obtain ⟨u,us',rfl,hu,hus⟩:=hr;unfold dC at hu;obtain ⟨ws,rfl,hws⟩:=hu;obtain ⟨vs',us'',hq,hl',ho⟩:=ho;simp only [List.cons.injEq,Value.func.injEq,true_and,Array.mk.injEq] at hq;obtain ⟨rfl,rfl⟩:=hq;exact qk h (A:=A) hf hx (hws.append hus) ho
 | .io o f t::A,as,vs,us,x,y,bs',hf,hx,hr,ho=>by
  cases as with
  | nil=>rw [lL] at hf;cases hf
  | cons v as =>
   obtain ⟨l,hl,hvs⟩:=F_ hf;subst hvs;simp only [fX] at hx;split at hx
   · rename_i cs hcs;obtain ⟨hof,hx⟩:=aM hx;obtain ⟨h1,h2⟩:=d7 hx;unfold dH at hr;obtain ⟨u,us',rfl,hu,hus⟩:=hr;obtain ⟨r,rfl,hrow⟩:=rh hcs;have hrk:=h.rows r;rw [hrow] at hrk;obtain ⟨hN,hB,hn1,vs0,te0,hh0,hcr⟩:=hrk;obtain ⟨_,_,rfl⟩:=hu;obtain ⟨b,vs,te,us'',bl,bs'',hq,hh,rfl,o1,ho⟩:=ho;simp only [List.cons.injEq,Value.pointer.injEq,Option.some.injEq,Addr.mk.injEq] at hq;obtain ⟨⟨hb,_⟩,rfl⟩:=hq;subst hb;obtain ⟨bls,b1,b2⟩:=qk h (A:=A) (al:=al) hl h2 hus ho;cases o with
     | true =>
      simp only [if_true] at o1;have hlen:=o1.len.2;refine ⟨bl++bls,by simp only [List.length_append,hlen,b1,jo,cond_true],fun {id φ' N' M' Y} he hk hX hM=>?_⟩;have hk1:∀ k (q:k<bl.length),φ' (id+k)=bl[k]:=fun k q=>by rw [(hk k (by rw [List.length_append];omega)).1,List.getElem_append_left q]
      have hk2:∀ k,k<bl.length→N' (id+k):=fun k q=>(hk k (by rw [List.length_append];omega)).2
      have hk3:∀ k (q:k<bls.length),φ' (id+t.rows+k)=bls[k]∧N' (id+t.rows+k):=fun k q=>by have:=hk (bl.length+k) (by rw [List.length_append];omega);rw [List.getElem_append_right (by omega)] at this;rw [Nat.add_assoc,← hlen];simpa using this
      simp only [List.mem_cons,List.mem_append] at hM;obtain ⟨c1,c2,c3⟩:=b2 he hk3 hX fun b hb=>hM b (Or.inr (Or.inr hb))
      simp only [kM,List.headD_cons,List.tail_cons,lT,hcs,Option.getD_some,cond_true];refine ⟨fun r' row q=>?_,?_,?_⟩
      · simp only [List.mem_append,List.mem_cons,Prod.mk.injEq] at q;rcases q with q | ⟨rfl,rfl⟩ | q | q
        · simp only [tP,List.mem_map,Prod.mk.injEq] at q;obtain ⟨_,_,_,rfl⟩:=q;trivial
        · obtain ⟨e1,e2⟩:=he r' hN;exact ⟨e2,by rw [e1];exact hM _ (Or.inl rfl),by rw [e1];exact hn1,vs,te,by rw [e1];exact hh,o1.cells hk1 hk2⟩
        · exact o1.rowsOk hX hk1 hk2 (fun b hb=>hM b (Or.inr (Or.inl hb))) r' row q
        · exact c1 r' row q
      · have e1:=(he r hN).1;rw [ii,xg,List.nil_append];show lX φ' ((r,rF.box (qf false t y.1 id))::(kg al t y.1 id++kM hp al A l y.2 (id+t.rows)))=_;unfold lX;rw [List.filterMap_cons];simp only [bO];show _::lX φ' _=_;rw [ii,o1.blks hk1,c2,e1]
      · rw [List.map_append,rH,List.map_cons,List.map_append,nc];simp only [nY,List.headD_cons,List.tail_cons,hcs,Option.getD_some,cond_true,cN,jo,List.cons_append,List.nil_append];rw [← List.range'_append_1];rw [List.perm_iff_count];intro z;have:=(List.perm_iff_count.1 c3) z;simp only [List.count_append,List.count_cons] at this ⊢;omega
     | false =>
      obtain ⟨rfl,o1⟩:=o1;refine ⟨bls,by rw [b1];simp [jo],fun {id φ' N' M' Y} he hk hX hM=>?_⟩;simp only [ay,List.filterMap_nil,List.nil_append,List.mem_cons] at hM;obtain ⟨c1,c2,c3⟩:=b2 he hk hX fun b hb=>hM b (Or.inr hb)
      simp only [kM,List.headD_cons,List.tail_cons,lT,hcs,Option.getD_some,cond_false];refine ⟨fun r' row q=>?_,?_,?_⟩
      · simp only [List.mem_cons,Prod.mk.injEq] at q;rcases q with ⟨rfl,rfl⟩ | q
        · obtain ⟨e1,e2⟩:=he r' hN;exact ⟨e2,by rw [e1];exact hM _ (Or.inl rfl),by rw [e1];exact hn1,vs,te,by rw [e1];exact hh,(Rd.mono (Y:=Y al) hX (fun _ _=>rfl) o1).inj⟩
        · exact c1 r' row q
      · have e1:=(he r hN).1;unfold lX;rw [List.filterMap_cons];simp only [bO];show _::lX φ' _=_;rw [c2,e1];rfl
      · rw [List.map_cons];simp only [nY,List.headD_cons,List.tail_cons,hcs,Option.getD_some,cond_false,cN,jo,List.cons_append,List.nil_append];rw [Nat.zero_add];exact c3.cons _
   · cases hx
theorem I5 {X:Nat→Prop} {B:Nat→Prop} {al:Bool} {Y:Bool→Nat→Prop} {N':Nat→Prop} {φ':Nat→jF}:∀ {ts:List Ty} {x:(tup ts).d} {cs:List Value} {bl:List jF} {id:Nat},nX w X B (tup ts) x cs bl →
 (∀ k (h:k<bl.length),φ' (id+k)=bl[k])→(∀ k,k<bl.length→N' (id+k))→dH w Y N' φ' (JG true al ts x id) (kA ts cs)
 | [],_,cs,_,_,hr,_,_=>rfl
 | t::ts,x,_,_,id,⟨c,d,b1,b2,h1,h2,h3,h4⟩,hφ,hN=>by
  subst h1;subst h2;have l1:=h3.len;have hc:=h3.cells (w2:=w) (p:=false) (Y:=Y) (N':=N') (φ':=φ') (id:=id) (fun k hk=>by rw [hφ k (by rw [List.length_append];omega),List.getElem_append_left hk]) (fun k hk=>hN k (by rw [List.length_append];omega));have ih:=I5 (al:=al) (Y:=Y) (N':=N') (φ':=φ') (id:=id+t.rows) h4 (fun k hk=>by
   rw [Nat.add_assoc,hφ (t.rows+k) (by rw [List.length_append];omega),List.getElem_append_right (by omega)];congr 1;omega) (fun k hk=>by rw [Nat.add_assoc];exact hN _ (by rw [List.length_append];omega))
  unfold JG kA;rw [← l1.1,List.take_left,List.drop_left];unfold dH;refine ⟨_,_,rfl,m5 hc (hc.len.symm.trans l1.1),ih⟩
theorem I_ {al:Bool} {Y:Bool→Nat→Prop} {N':Nat→Prop} {φ':Nat→jF}:∀ {ts:List Ty} {x:(tup ts).d} {cs:List Value} {id:Nat},Rd w (Y al) (tup ts) x cs→dH w Y N' φ' (JG false al ts x id) (kA ts cs)
 | [],_,cs,_,hr=>rfl
 | t::ts,x,_,id,⟨c,d,h1,h3,h4⟩=>by subst h1;have l1:=h3.len;have hc:cV w Y N' φ' (inj al t x.1) c:=h3.inj;have ih:=I_ (N':=N') (φ':=φ') (id:=id) h4;unfold JG kA;rw [← l1,List.take_left,List.drop_left];unfold dH;exact ⟨_,_,rfl,m5 hc (hc.len.symm.trans l1),ih⟩
theorem NU {X:Bool→Nat→Prop}:∀ {vs:List AV} {us:List Value},dH w X N φ vs us→dC w X N φ (one vs) (GP us)
 | [],us,h=>by unfold dH at h;subst h;exact ⟨[],rfl,rfl⟩
 | [v],us,h=>by unfold dH at h;obtain ⟨u,us',rfl,hu,h2⟩:=h;unfold dH at h2;subst h2;exact hu
 | v::v'::vs,us,h=>by have h':=h;unfold dH at h;obtain ⟨u,us',rfl,hu,h2⟩:=h;unfold dH at h2;obtain ⟨u',us'',rfl,hu',h3⟩:=h2;exact ⟨_,rfl,h'⟩
theorem CE:∀ (us0:kO) {hp:Hp} {us1:kO},apply hp (us0++us1)=apply (apply hp us0) us1:=by
 intro us0
 induction us0 with
 | nil=>intro hp us1;rfl
 | cons u us0 ih=>intro hp us1;exact ih
set_option maxHeartbeats 1000000 in
theorem KO (h:Ok w0 N φ tm hp a w) {f:Nat} {c:Cn} (hctr:zn w0 P f c) (hbx:rA c.R=false) {as:List AV} {us:List Value} {v:AV} {ups:kO} {id nx:Nat}
 (hs:tG c hp id as (fun v us nx=>some (v,us,nx))=some (v,ups,nx)) (hr:dH w (XX w0 w φ hp) N φ as us) (hid:∀ r,id≤r→r<nx→¬ N r) :
 Calls P f us.toArray w fun e w'=>∃ u,e = .returned u∧∃ φ':Nat→jF,(∀ r,N r→φ' r=φ r)∧Ok w0 (fun r=>N r∨(id≤r∧r<nx)) φ' tm (apply hp ups) a w' ∧
  dC w' (XX w0 w' φ' (apply hp ups)) (fun r=>N r∨(id≤r∧r<nx)) φ' v u:=by
 unfold tG at hs;cases hf:iH c.A as with
 | none=>rw [hf] at hs;cases hs
 | some vs =>
 rw [hf] at hs;simp only [] at hs;cases hx:fX hp c.A vs with
 | none=>rw [hx] at hs;cases hs
 | some x =>
 rw [hx] at hs;simp only [] at hs;obtain ⟨hg,hs⟩:=aM hs;simp only [Bool.and_eq_true] at hg;have hGn:=xS hg.1;have hap:=v7.1 hg.2;cases hy:c.fn x with
 | none=>rw [hy] at hs;cases hs
 | some y =>
 rw [hy] at hs;simp only [Option.some.injEq,Prod.mk.injEq] at hs;obtain ⟨hv,hups,hnx⟩:=hs;have hGrow:=tY hx;have hGN:∀ r ∈ nY hp c.A vs,N r:=fun r q=>by
  have:=h.rows r;rcases hGrow r q with ⟨cs,e⟩ | ⟨p,e',l,e⟩ <;> rw [e] at this <;> exact this.1
 obtain ⟨Xa,hXdef⟩:∃ Xa:Nat→Prop,Xa=fun b=>XX w0 w φ hp true b∨∃ r ∈ sJ hp c.A vs,∃ p e l,hp r = .own p e l∧(φ r).v.ownBlock=some b:=⟨_,rfl⟩
 have hX1:∀ p b,XX w0 w φ hp p b→Xa b:=fun p b q=>by subst hXdef;exact Or.inl ⟨q.1,q.2.1,Bs.see_up (fun _=>rfl) q.2.2⟩
 obtain ⟨bs,A1,A2,A3⟩:=pU h hX1 (D:=sJ hp c.A vs) (fun r hr p e l b e1 e2=>by subst hXdef;exact Or.inr ⟨r,hr,p,e,l,e1,e2⟩) hf hx hr (fun _ q=>q) hGn;have hXa:∀ b,Xa b→b<w.heap.size∧b ∉ bs:=fun b q=>by
  subst hXdef;rcases q with q | ⟨r,q1,p,e,l,q2,q3⟩
  · exact ⟨q.1,fun hb=>by
     obtain ⟨r,_,hr2⟩:=A3 b hb;exact q.2.1 ⟨r,hr2⟩⟩
  · have hb1:bO φ r (hp r)=some b:=by rw [q2];exact q3
    exact ⟨(h.blk_lt hb1).2,fun hb=>by
     obtain ⟨r',g1,g2⟩:=A3 b hb;have:=h.disj r r' b hb1 g2;subst this;exact hap r q1 g1⟩
 refine (hctr.calls hbx x y hy w us bs Xa h.below (fun b q=>by obtain ⟨r,_,z⟩:=A3 b q;exact (h.blk_lt z).1) hXa A1 A2).mono fun e w' he=>?_
 obtain ⟨bs',cs,bl,rfl,hk,hnd,hown,X',hX',hout,hres⟩:=he;refine ⟨_,rfl,?_⟩;have hfz:Dl hp (bif c.al then freeze hp ((sJ hp c.A vs).map AV.ref) else []):=by
  cases c.al with
  | true=>exact ji hp _
  | false=>exact fun r x q=>by cases q
 obtain ⟨hfe,hfm⟩:=hfz.eq;have hrefs:∀ l:List Nat,cN (l.map AV.ref)=l:=by
  intro l
  induction l with
  | nil=>rfl
  | cons r l ih=>simp [cN,ih]
 have hG1:∀ r ∈ nY hp c.A vs,apply hp (bif c.al then freeze hp ((sJ hp c.A vs).map AV.ref) else []) r=hp r:=fun r q=>by
  refine nj _ fun q2=>?_
  cases hal:c.al with
  | true =>rw [hal,cond_true] at q2;obtain ⟨y',hy',rfl⟩:=List.mem_map.1 q2;have:=lh hp (r:=y'.1) (x:=y'.2) hy';rw [hrefs] at this;exact hap _ this q
  | false=>rw [hal,cond_false] at q2;cases q2
 have h1:=h.freeze _ hfz;obtain ⟨bls,b1,b2⟩:=qk h (al:=c.al) hf hx hr hout;have hbl:bl.length=if c.fresh then (tup c.R).rows else 0:=by
  cases hfr:c.fresh with
  | true=>rw [hfr] at hres;simp only [if_true] at hres ⊢;exact hres.len.2
  | false=>rw [hfr] at hres;simp only [Bool.false_eq_true,if_false] at hres ⊢;rw [hres.1];rfl
 have hn:nx=id+(jo c.A+bl.length):=by rw [← hnx,hbl];cases c.fresh <;> simp [Nat.add_assoc]
 generalize hφ':(fun r=>if id≤r∧r<id+(bls++bl).length then (bls++bl).getD (r-id) default else φ r)=φ';have hlen:(bls++bl).length=jo c.A+bl.length:=by rw [List.length_append,b1]
 have e1:∀ k (q:k<(bls++bl).length),φ' (id+k)=(bls++bl)[k]:=by
  intro k q;subst hφ';have:id≤id+k∧id+k<id+(bls++bl).length:=by omega
  simp only [this,and_self,if_true];rw [show id+k-id=k by omega,List.getD,List.getElem?_eq_getElem q];rfl
 have e3:∀ r,N r→φ' r=φ r:=fun r q=>by
  subst hφ';have:¬ (id≤r∧r<id+(bls++bl).length):=fun g=>hid r g.1 (by omega) q
  exact if_neg this
 subst hn;have eb:∀ k (q:k<bls.length),φ' (id+k)=bls[k]:=fun k q=>by rw [e1 k (by rw [List.length_append];omega),List.getElem_append_left q]
 have el:∀ k (q:k<bl.length),φ' (id+jo c.A+k)=bl[k]:=fun k q=>by have:=e1 (jo c.A+k) (by omega);rw [List.getElem_append_right (by omega)] at this;rw [Nat.add_assoc,this];congr 1;omega
 generalize hrest:kM hp c.al c.A vs (Dj (iG c.A) y) id++qJ c.fresh c.al c.R (pg (iG c.A) y) (id+jo c.A)=rest at hups;have hupsa:apply hp ups=apply (apply hp (bif c.al then freeze hp ((sJ hp c.A vs).map AV.ref) else [])) rest:=by rw [← hups,CE]
 generalize hp1def:apply hp (bif c.al then freeze hp ((sJ hp c.A vs).map AV.ref) else [])=hp1 at h1 hG1 hupsa hfe hfm;have keyB:=fun Y hX hM=>b2 (id:=id) (φ':=φ') (N':=fun r=>N r∨(id≤r∧r<id+(jo c.A+bl.length))) (M':=w0.mine) (Y:=Y) (fun r q=>⟨e3 r q,Or.inl q⟩) (fun k q=>⟨eb k q,Or.inr (by omega)⟩) hX hM
 have hblksR:lX φ' (qJ c.fresh c.al c.R (pg (iG c.A) y) (id+jo c.A))=ay bl:=by
  unfold qJ;cases hfr:c.fresh with
  | true=>rw [hfr] at hres;simp only [if_true] at hres;rw [cond_true];exact hres.blks el
  | false=>rw [hfr] at hres;simp only [Bool.false_eq_true,if_false] at hres;rw [hres.1];rfl
 have hkeysR:(qJ c.fresh c.al c.R (pg (iG c.A) y) (id+jo c.A)).map (·.1)=List.range' (id+jo c.A) bl.length:=by
  unfold qJ;rw [hbl];cases hfr:c.fresh with
  | true=>rw [cond_true,nc];rfl
  | false=>rfl
 have hmine:∀ b ∈ bs'++ay bl,w0.mine b:=fun b q=>by
  rcases hown b q with g | g
  · exact Or.inl (Nat.le_trans h.below.size g)
  · obtain ⟨r,_,hr2⟩:=A3 b g;exact (h.blk_lt hr2).1
 have hkB:=keyB (fun _ _=>True) (fun _ _=>trivial) (fun b q=>hmine b (List.mem_append_left _ q));have hperm:(rest.map (·.1)).Perm (nY hp c.A vs++List.range' id (jo c.A+bl.length)):=by rw [← hrest,List.map_append,hkeysR,← List.range'_append_1,← List.append_assoc];exact hkB.2.2.append_right _
 have hblks:lX φ' rest=bs'++ay bl:=by rw [← hrest,ii,hkB.2.1,hblksR]
 have hkey:∀ r,r ∈ rest.map (·.1)↔r ∈ nY hp c.A vs∨(id≤r∧r<id+(jo c.A+bl.length)):=fun r=>by rw [hperm.mem_iff,List.mem_append,List.mem_range'_1]
 have hX:∀ b,X' b→XX w0 w' φ' (apply hp1 rest) c.al b:=by
  intro b hb;obtain ⟨g1,g2,g3⟩:=hX' b hb;refine ⟨g1,?_,?_⟩
  · rintro ⟨s,hs⟩
    by_cases q:s ∈ rest.map (·.1)
    · have hkn:(rest.map (·.1)).Nodup:=hperm.nodup_iff.2 (List.nodup_append.2 ⟨hGn,List.nodup_range',fun x hx y hy e=>by
       subst e;rw [List.mem_range'_1] at hy;exact hid x hy.1 hy.2 (hGN x hx)⟩)
      obtain ⟨z,hz,rfl⟩:=List.mem_map.1 q;rw [wx _ hkn hz] at hs;exact g2 (by rw [← hblks];exact List.mem_filterMap.2 ⟨z,hz,hs⟩)
    · rw [nj _ q] at hs;have hs0:bO φ s (hp s)=some b∧(hp1 s=hp s):=by
       have hrs:=h1.rows s;rcases hfe s with e | ⟨p,e',l,q1,q2⟩
       · rw [e] at hs hrs;refine ⟨?_,e⟩;cases hq:hp s with
         | dead=>rw [hq] at hs;cases hs
         | fro p e l=>rw [hq] at hs;cases hs
         | box cs=>rw [hq] at hs hrs;simp only [bO] at hs ⊢;rw [← e3 s hrs.1];exact hs
         | own p e l=>rw [hq] at hs hrs;simp only [bO] at hs ⊢;rw [← e3 s hrs.1];exact hs
       · rw [q2] at hs;cases hs
      have hlt:=(h.blk_lt hs0.1).2;rcases g3 with g | g | ⟨hal,g⟩
      · omega
      · obtain ⟨r,k1,k2⟩:=A3 b g;exact q ((hkey s).2 (Or.inl (by rw [h.disj s r b hs0.1 k2];exact k1)))
      · subst hXdef;rcases g with g | ⟨r,k1,p,e,l,k2,k3⟩
        · exact g.2.1 ⟨s,hs0.1⟩
        · have:s=r:=h.disj s r b hs0.1 (by rw [k2];exact k3);subst this;have hm:=hfm s _ (by rw [hal,cond_true];exact nu hp (List.mem_map.2 ⟨s,k1,rfl⟩) k2);rw [hs0.2,k2] at hm;cases hm
  · rcases g3 with g | g | ⟨hal,g⟩
    · exact Or.inl (Or.inl (Nat.le_trans h.below.size g))
    · obtain ⟨r,_,k2⟩:=A3 b g;exact Or.inl (h.blk_lt k2).1
    · subst hXdef;rw [hal];rcases g with g | ⟨r,k1,p,e,l,k2,k3⟩
      · exact g.2.2
      · exact Or.inl (h.blk_lt (r:=r) (by rw [k2];exact k3)).1
 have hok:=h1.call (us:=rest) (gv:=nY hp c.A vs) (bs:=bs) (own':=bs'++ay bl) (id:=id) (n:=jo c.A+bl.length) (φ':=φ') hGN hid hperm hGn hk
  (fun b q=>by
   obtain ⟨r,k1,k2⟩:=A3 b q;exact ⟨r,k1,by rw [hG1 r k1];exact k2⟩)
  (fun r row q=>by
   rw [← hrest] at q;rcases List.mem_append.1 q with q | q
   · exact (keyB (XX w0 w' φ' (apply hp1 rest)) hX (fun b q=>hmine b (List.mem_append_left _ q))).1 r row q
   · unfold qJ at q;cases hfr:c.fresh with
     | true =>rw [hfr] at hres q;simp only [if_true] at hres;rw [cond_true] at q;exact hres.rowsOk hX el (fun k q=>Or.inr (by omega)) (fun b q=>hmine b (List.mem_append_right _ q)) r row q
     | false=>rw [hfr,cond_false] at q;cases q) hblks hnd hown e3
 rw [hupsa];refine ⟨φ',e3,hok,?_⟩;rw [← hv];refine NU ?_;cases hfr:c.fresh with
 | true =>
  rw [hfr] at hres;simp only [if_true] at hres;exact I5 hres el fun k q=>Or.inr (by omega)
 | false =>rw [hfr] at hres;simp only [Bool.false_eq_true,if_false] at hres;exact I_ (Rd.mono (Y:=XX w0 w' φ' (apply hp1 rest) c.al) hX (fun _ _=>rfl) hres.2)
theorem Lf {w:World} {X:Bool→Nat→Prop} {N:Nat→Prop} {φ:Nat→jF} {Xa:Nat→Prop} (hX:∀ b,Xa b→X true b) {rs:List Ty} {y:(tup rs).d} {vs:List Value} (h:Ft w Xa rs y vs):cV w X N φ (wV rs y) vs:=by
 unfold Ft at h;split at h
 · exact (Rd.mono (Y:=X true) hX (fun _ _=>rfl) h).inj
 · exact h.elim
set_option maxHeartbeats 1000000 in
theorem Lc (h:Ok w0 N φ tm hp a w) {f:Nat} {c:Cn} (hctr:zn w0 P f c) (hbx:rA c.R=true) {as:List AV} {us:List Value} {v:AV} {ups:kO} {id nx:Nat}
 (hs:zc c hp id as (fun v us nx=>some (v,us,nx))=some (v,ups,nx)) (hr:dH w (XX w0 w φ hp) N φ as us) (hid:∀ r,id≤r→r<nx→¬ N r) :
 Calls P f us.toArray w fun e w'=>∃ u,e = .returned u∧∃ φ':Nat→jF,(∀ r,N r→φ' r=φ r)∧Ok w0 (fun r=>N r∨(id≤r∧r<nx)) φ' tm (apply hp ups) a w' ∧
  dC w' (XX w0 w' φ' (apply hp ups)) (fun r=>N r∨(id≤r∧r<nx)) φ' v u:=by
 unfold zc at hs;cases hf:iH c.A as with
 | none=>rw [hf] at hs;cases hs
 | some vs =>
 rw [hf] at hs;simp only [] at hs;cases hx:fX hp c.A vs with
 | none=>rw [hx] at hs;cases hs
 | some x =>
 rw [hx] at hs;simp only [] at hs;obtain ⟨hg,hs⟩:=aM hs;have hg:=List.isEmpty_iff.1 hg;cases hy:c.fn x with
 | none=>rw [hy] at hs;cases hs
 | some y =>
 rw [hy] at hs;simp only [Option.some.injEq,Prod.mk.injEq] at hs;obtain ⟨hv,hups,hnx⟩:=hs;subst hv;subst hnx;obtain ⟨Xa,hXdef⟩:∃ Xa:Nat→Prop,Xa=fun b=>XX w0 w φ hp true b∨∃ r ∈ sJ hp c.A vs,∃ p e l,hp r = .own p e l∧(φ r).v.ownBlock=some b:=⟨_,rfl⟩
 have hX1:∀ p b,XX w0 w φ hp p b→Xa b:=fun p b q=>by subst hXdef;exact Or.inl ⟨q.1,q.2.1,Bs.see_up (fun _=>rfl) q.2.2⟩
 obtain ⟨bs,A1,A2,A3⟩:=pU h hX1 (D:=sJ hp c.A vs) (fun r hr p e l b e1 e2=>by subst hXdef;exact Or.inr ⟨r,hr,p,e,l,e1,e2⟩) hf hx hr (fun _ q=>q) (by rw [hg];exact List.nodup_nil);have hbs:bs=[]:=List.eq_nil_iff_forall_not_mem.2 fun b q=>by obtain ⟨r,k,_⟩:=A3 b q;rw [hg] at k;cases k
 subst hbs;have hXa:∀ b,Xa b→b<w.heap.size:=fun b q=>by
  subst hXdef;rcases q with q | ⟨r,q1,p,e,l,q2,q3⟩
  · exact q.1
  · exact (h.blk_lt (r:=r) (by rw [q2];exact q3)).2
 refine (hctr.boxes hbx x y hy w us Xa h.below hXa A1).mono fun e w' he=>?_
 obtain ⟨b,cs,te,rfl,hk,hsz,hcell,X',hX',hrd⟩:=he;have hfz:Dl hp (freeze hp ((sJ hp c.A vs).map AV.ref)):=ji hp _;obtain ⟨hfe,hfm⟩:=hfz.eq;have h1:=h.freeze _ hfz;have hupsa:apply hp ups=apply (apply hp (freeze hp ((sJ hp c.A vs).map AV.ref))) [(id,.box (wV c.R (pg (iG c.A) y)))]:=by rw [← hups,CE]
 generalize hp1def:apply hp (freeze hp ((sJ hp c.A vs).map AV.ref))=hp1 at h1 hfe hfm hupsa;generalize hbc:wV c.R (pg (iG c.A) y)=bc at hupsa;have hidN:¬ N id:=hid id (Nat.le_refl _) (Nat.lt_succ_self _);generalize hφ':(fun r=>if r=id then (⟨.pointer none,b,0,1⟩:jF) else φ r)=φ';have e1:φ' id=⟨.pointer none,b,0,1⟩:=by subst hφ';exact if_pos rfl
 have e3:∀ r,N r→φ' r=φ r:=fun r q=>by subst hφ';exact if_neg (fun e:r=id=>hidN (by rw [← e];exact q))
 have hin:apply hp1 [(id,rF.box bc)] id = .box bc:=cO hp1 id _;have hout:∀ r,r≠id→apply hp1 [(id,rF.box bc)] r=hp1 r:=fun r q=>nj _ (by simpa using q)
 have hX:∀ d,X' d→XX w0 w' φ' (apply hp1 [(id,.box bc)]) true d:=by
  intro d hd;obtain ⟨g1,g2,g3⟩:=hX' d hd;refine ⟨g1,?_,?_⟩
  · rintro ⟨s,hs⟩
    by_cases q:s=id
    · subst q;rw [hin] at hs;simp only [bO,e1,Option.some.injEq] at hs;exact g2 hs.symm
    · rw [hout s q] at hs;have hs0:bO φ s (hp s)=some d∧hp1 s=hp s:=by
       have hrs:=h1.rows s;rcases hfe s with e | ⟨p,e',l,q1,q2⟩
       · rw [e] at hs hrs;refine ⟨?_,e⟩;cases hq:hp s with
         | dead=>rw [hq] at hs;cases hs
         | fro p e l=>rw [hq] at hs;cases hs
         | box cs=>rw [hq] at hs hrs;simp only [bO] at hs ⊢;rw [← e3 s hrs.1];exact hs
         | own p e l=>rw [hq] at hs hrs;simp only [bO] at hs ⊢;rw [← e3 s hrs.1];exact hs
       · rw [q2] at hs;cases hs
      have hlt:=(h.blk_lt hs0.1).2;rcases g3 with g | g
      · omega
      · subst hXdef;rcases g with g | ⟨r,k1,p,e,l,k2,k3⟩
        · exact g.2.1 ⟨s,hs0.1⟩
        · have:s=r:=h.disj s r d hs0.1 (by rw [k2];exact k3);subst this;have hm:=hfm s _ (nu hp (List.mem_map.2 ⟨s,k1,rfl⟩) k2);rw [hs0.2,k2] at hm;cases hm
  · rcases g3 with g | g
    · exact Or.inl (Or.inl (Nat.le_trans h.below.size g))
    · subst hXdef;rcases g with g | ⟨r,k1,p,e,l,k2,k3⟩
      · exact g.2.2
      · exact Or.inl (h.blk_lt (r:=r) (by rw [k2];exact k3)).1
 have hok:=h1.call (us:=[(id,.box bc)]) (gv:=[]) (bs:=[]) (own':=[b]) (id:=id) (n:=1) (φ':=φ') (fun r q=>by cases q) hid (List.Perm.refl _) List.nodup_nil hk (fun b q=>by cases q)
  (fun r row q=>by
   rw [List.mem_singleton] at q;cases q;refine ⟨Or.inr ⟨Nat.le_refl _,Nat.lt_succ_self _⟩,by rw [e1];exact Or.inl (Nat.le_trans h.below.size hsz),by rw [e1],cs,te,by rw [e1];exact hcell,?_⟩;rw [← hbc];exact Lf (fun d q=>by rw [hbc];exact hX d q) hrd)
  (by simp [lX,bO,e1]) (by simp) (fun d q=>by rw [List.mem_singleton] at q;subst q;exact Or.inl hsz) e3
 rw [hupsa];refine ⟨_,rfl,φ',e3,hok,?_⟩;exact ⟨Or.inr ⟨Nat.le_refl _,Nat.lt_succ_self _⟩,by rw [e1];exact Nat.zero_lt_one,by rw [e1];simp⟩
theorem Jp (h:Ok w0 N φ tm hp a w) {f:Nat} {c:Cn} (hctr:zn w0 P f c) {as:List AV} {us:List Value} {v:AV} {ups:kO} {id nx:Nat}
 (hs:se c hp id as (fun v us nx=>some (v,us,nx))=some (v,ups,nx)) (hr:dH w (XX w0 w φ hp) N φ as us) (hid:∀ r,id≤r→r<nx→¬ N r) :
 Calls P f us.toArray w fun e w'=>∃ u,e = .returned u∧∃ φ':Nat→jF,(∀ r,N r→φ' r=φ r)∧Ok w0 (fun r=>N r∨(id≤r∧r<nx)) φ' tm (apply hp ups) a w' ∧
  dC w' (XX w0 w' φ' (apply hp ups)) (fun r=>N r∨(id≤r∧r<nx)) φ' v u:=by
 unfold se at hs;cases hb:rA c.R with
 | false=>rw [hb] at hs;exact KO h hctr hb hs hr hid
 | true=>rw [hb] at hs;exact Lc h hctr hb hs hr hid
end
end Go.V
end
section
namespace Go.V
open Go.RowKit
section
variable {P:Program} {tb:mh} {ct:List (Nat × Cn)} {w0:Bs} {w:World} {N:Nat→Prop} {φ:Nat→jF} {tm:List AV} {hp:Hp} {a:Act} {Q:Exit→Act→World→Prop}
theorem fD {o:Oper} {s:Sem Value} {v:Value} {w':World} (he:execOp a.eval o=(do pure (Next.value (← s)))) (h:s.run P w = .ok v w'):(execOp a.eval o).run P w = .ok (.value v) w':=by rw [he];simp [h]
theorem yD {s d:TypeId} {k k':IntKind} {n:Int} {td:TypeDesc} (hs:P.underlying s=some td) (hd:P.underlying d=some (.int k)):(convert s d (.int k' n)).run P w = .ok (.int k (k.wrap n)) w:=by unfold convert;simp [run_underlying hs,run_underlying hd,Conv.intToInt]
theorem yB {s d:TypeId} {x:ByteArray} {td:TypeDesc} (hs:P.underlying s=some td) (hd:P.underlying d=some .string):(convert s d (.string x)).run P w = .ok (.string x) w:=by unfold convert;simp [run_underlying hs,run_underlying hd]
theorem zu (f:Value→ByteArray→Sem (ForInStep ByteArray)) (hf:∀ n s,f (.int .u8 n) s=pure (ForInStep.yield (s.push (UInt8.ofNat n.toNat)))):∀ (l:List Int) (acc:ByteArray),
 (forIn (m:=Sem) (l.map fun n=>Value.int .u8 n) acc f).run P w = .ok (acc++bytesOf l) w
 | [],acc=>by simp only [List.map_nil,List.forIn_nil,Sem.run_pure];congr 1;apply ByteArray.ext;simp [bytesOf]
 | n::l,acc=>by have ih:=zu f hf l (acc.push (UInt8.ofNat n.toNat));simp only [List.map_cons,List.forIn_cons,Sem.run_bind,hf,Sem.run_pure,Result.andThen_ok];rw [ih];congr 1;apply ByteArray.ext;simp [bytesOf]
theorem Ic {X:Nat→Prop} {l:List Int} {v:Value} (h:Rd w X (.slice (.int .u8)) l [v]):(Conv.bytesToString v).run P w = .ok (.string (bytesOf l)) w:=by
 obtain ⟨ad,n,c,xs,hc,hn,hle,hl,hr⟩:=h;cases hc;have hx:xs=l.map fun n=>Value.int .u8 n:=by
  clear hn hle hr
  induction l generalizing xs with
  | nil=>cases hl;rfl
  | cons m l ih =>obtain ⟨d,r,e,h1,h2⟩:=hl;cases h1;rw [e,ih r h2];rfl
 cases ad with
 | none =>
  have:l=[]:=by
   cases l with
   | nil=>rfl
   | cons m l=>obtain ⟨b,o,hq,_⟩:=hr (by simp);cases hq
  subst this;simp [Conv.bytesToString,bytesOf];rfl
 | some ad =>
  have hc:(loadCells ad n).run P w = .ok xs.toArray w:=by
   have hxl:xs.length=n:=by rw [hx,List.length_map,hn]
   rw [← hxl];refine run_loadCells_list (P:=P) w ad xs fun j u hj=>?_
   obtain ⟨b,o,hq,_,hcell⟩:=hr (by intro q;subst q;cases hl;simp at hj);cases hq;rw [lG];exact hcell j u hj
  unfold Conv.bytesToString;simp only [Sem.run_bind,hc,Result.andThen_ok];simp only [List.forIn_toArray];rw [hx,zu (P:=P) (w:=w) _ (fun n s=>rfl) l ByteArray.empty];simp
theorem wH {X:Nat→Prop} {s d te:TypeId} {l:List Int} {v:Value} (hs:P.underlying s=some (.slice te)) (hd:P.underlying d=some .string) (he:P.underlying te=some (.int .u8)) (h:Rd w X (.slice (.int .u8)) l [v]) :
 (convert s d v).run P w = .ok (.string (bytesOf l)) w:=by
 have hb:=Ic (P:=P) h;obtain ⟨ad,n,c,xs,hc,_⟩:=h;cases hc;unfold convert;cases ad <;> simp [run_underlying hs,run_underlying hd,run_underlying he,hb]
theorem j4.strU {t:Nat} {i:TypeInfo} {d:TypeDesc} {z:Value} (ht:j4 P tb t .str i d z):P.underlying t=some .string:=by have hk:=ht.kind;have hu:=ht.under;cases d <;> simp [fL] at hk;exact hu
theorem j4.intU {t:Nat} {k:IntKind} {i:TypeInfo} {d:TypeDesc} {z:Value} (ht:j4 P tb t (.int k) i d z):P.underlying t=some (.int k):=by have hk:=ht.kind;have hu:=ht.under;cases d <;> simp [fL] at hk;subst hk;exact hu
theorem BC {t:TypeId} {k:IntKind} {s:ByteArray} {n:Int} (hu:P.underlying t=some .string) (h0:0≤n) (h1:n<(s.size:Int)):(Instr.index t (.string s) (.int k n)).run P w = .ok (.int .u8 (fG s n)) w:=by
 obtain ⟨m,rfl⟩:=Int.eq_ofNat_of_zero_le h0;have hm:m<s.size:=by omega
 have hm':m<s.data.size:=hm;have e:s[m]?=some s[m]:=by simp [hm]
 simp [Instr.index,asIntOf,run_underlying hu,fG,e];rw [Array.getElem?_eq_getElem hm'];rfl
end
end Go.V
end

/- V: soundness, part 3 of 10. -/
import Derived.Test.YtijlgdoiofdmhaaGreatDoorVS2
import Derived.Laws.CopyOwn
section
set_option linter.unusedVariables false
set_option linter.unusedSimpArgs false
namespace Go.V
open Go.RowKit
theorem cO (hp:Hp) (r:Nat) (x:rF):l_ hp r x r=x:=by simp [l_]
theorem bx (hp:Hp) {r s:Nat} (x:rF) (h:s≠r):l_ hp r x s=hp s:=by
 unfold l_;have:Nat.beq s r=false:=by
  cases q:Nat.beq s r with
  | false=>rfl
  | true=>exact absurd (Nat.eq_of_beq_eq_true q) h
 rw [this];rfl
section
variable {P:Program} {tb:mh} {w0:Bs} {w:World} {N:Nat→Prop} {φ:Nat→jF} {tm:List AV} {hp:Hp} {a:Act}
theorem Ok.freeze1 (h:Ok w0 N φ tm hp a w) {r:Nat} {p:Bool} {e:Ty} {l:List e.d} (hr:hp r = .own p e l∨hp r = .fro p e l):Ok w0 N φ tm (l_ hp r (.fro p e l)) a w:=by
 have hW:∀ b,Wr φ (l_ hp r (.fro p e l)) b→Wr φ hp b:=by
  rintro b ⟨s,hs⟩
  by_cases q:s=r
  · subst q;rw [cO] at hs;cases hs
  · rw [bx hp _ q] at hs;exact ⟨s,hs⟩
 have hrow:=h.rows r;have hnW:∀ b,(φ r).v.ownBlock=some b→¬ Wr φ (l_ hp r (.fro p e l)) b:=by
  rintro b hb ⟨s,hs⟩
  by_cases q:s=r
  · subst q;rw [cO] at hs;cases hs
  · rw [bx hp _ q] at hs;rcases hr with hr | hr
    · exact q (h.disj s r b hs (by rw [hr];exact hb))
    · rw [hr] at hrow;exact (hrow.2 b hb).2.1 ⟨s,hs⟩
 have hown:oJ w (XX w0 w φ hp) N φ w0.mine r p e l:=by
  rcases hr with hr | hr <;> rw [hr] at hrow
  · exact hrow
  · exact hrow.1
 refine h.step (fun _=>False) (fun _ q=>q) (fun _ _=>rfl) h.below (Nat.le_refl _) (fun _ _ _=>rfl) (fun _ q=>q.elim) (fun b _ q=>hW b q) (fun s=>?_) (fun s s' b hs hs'=>?_)
 · by_cases q:s=r
   · subst q;right;rw [cO];obtain ⟨te,xs,ho,hl⟩:=hown.2.2.2.2;refine ⟨hown.mono h (fun _ q=>q) (fun _ _=>rfl) (fun p b hx=>hx.mono (Nat.le_refl _) (fun b _ q=>hW b q)) (fun _ _ _=>rfl) (fun _ _=>rfl),fun b hb=>?_⟩;exact ⟨(ho.lt b hb).2,hnW b hb,Or.inl (ho.lt b hb).1⟩
   · rw [bx hp _ q];cases hs:hp s with
     | dead=>right;trivial
     | box cs=>have:=h.rows s;rw [hs] at this;exact Or.inl ⟨rfl,this.1,fun _ _ q=>q⟩
     | own p' e' l'=>have:=h.rows s;rw [hs] at this;exact Or.inl ⟨rfl,this.1,fun _ _ q=>q⟩
     | fro p' e' l'=>have:=h.rows s;rw [hs] at this;exact Or.inl ⟨rfl,this.1.1,fun _ _ q=>q⟩
 · have hs2:bO φ s (hp s)=some b:=by
    by_cases q:s=r
    · subst q;rw [cO] at hs;cases hs
    · rwa [bx hp _ q] at hs
   have hs3:bO φ s' (hp s')=some b:=by
    by_cases q:s'=r
    · subst q;rw [cO] at hs';cases hs'
    · rwa [bx hp _ q] at hs'
   exact h.disj s s' b hs2 hs3
def Dl (hp:Hp) (us:kO):Prop:=∀ r x,(r,x) ∈ us→∃ p e l,x = .fro p e l∧(hp r = .own p e l∨hp r = .fro p e l)
theorem Dl.tail {us:kO} {r:Nat} {x:rF} (h:Dl hp ((r,x)::us)):Dl (l_ hp r x) us:=by
 obtain ⟨p,e,l,rfl,hr⟩:=h r x (List.mem_cons_self ..);intro s y hs;obtain ⟨p',e',l',rfl,hs'⟩:=h s y (List.mem_cons_of_mem _ hs);refine ⟨p',e',l',rfl,?_⟩;by_cases q:s=r
 · subst q;rw [cO];right;rcases hr with hr | hr <;> rcases hs' with hs' | hs' <;> rw [hr] at hs' <;> cases hs' <;> rfl
 · rw [bx hp _ q];exact hs'
theorem Ok.freeze (us:kO):∀ {hp:Hp},Ok w0 N φ tm hp a w→Dl hp us→Ok w0 N φ tm (apply hp us) a w:=by
 induction us with
 | nil=>exact fun h _=>h
 | cons u us ih =>intro hp h hf;obtain ⟨r,x⟩:=u;have ht:=hf.tail;obtain ⟨p,e,l,rfl,hr⟩:=hf r x (List.mem_cons_self ..);exact ih (h.freeze1 hr) ht
theorem ji (hp:Hp):∀ cs:List AV,Dl hp (freeze hp cs)
 | []=>fun r x h=>by cases h
 | c::cs=>by
  have ih:=ji hp cs;unfold Go.V.freeze;split
  · rename_i heq;cases heq
  rotate_left
  · rename_i heq;cases heq;exact ih
  rename_i r cs' heq;cases heq;split
  · rename_i p t l hr;intro s x hs;rcases List.mem_cons.1 hs with q | q
    · cases q;exact ⟨p,t,l,rfl,Or.inl hr⟩
    · exact ih s x q
  · rename_i p t l hr;intro s x hs;rcases List.mem_cons.1 hs with q | q
    · cases q;exact ⟨p,t,l,rfl,Or.inr hr⟩
    · exact ih s x q
  · exact ih
theorem Ok.alloc (h:Ok w0 N φ tm hp a w) {id:Nat} (hid:¬ N id) (vs:Array Value) (te:TypeId) (row:rF) (bk:jF)
 (hrow:∀ φ':Nat→jF,φ' id=bk→(∀ r,N r→φ' r=φ r) →
  (∀ p b,XX w0 w φ hp p b→XX w0 (w.alloc (.cells vs te)) φ' (l_ hp id row) p b) →
  lC (w.alloc (.cells vs te)) (XX w0 (w.alloc (.cells vs te)) φ' (l_ hp id row)) (fun r=>N r∨(id≤r∧r<id+1)) φ' w0.mine id row)
 (hblk:∀ φ':Nat→jF,φ' id=bk→∀ b,bO φ' id row=some b→b=w.heap.size) :
 ∃ φ':Nat→jF,φ' id=bk∧(∀ r,N r→φ' r=φ r)∧Ok w0 (fun r=>N r∨(id≤r∧r<id+1)) φ' tm (l_ hp id row) a (w.alloc (.cells vs te)):=by
 have hdead:hp id = .dead:=by
  have:=h.rows id;cases hq:hp id with
  | dead=>rfl
  | box cs=>rw [hq] at this;exact absurd this.1 hid
  | own p e l=>rw [hq] at this;exact absurd this.1 hid
  | fro p e l=>rw [hq] at this;exact absurd this.1.1 hid
 refine ⟨fun r=>if r=id then bk else φ r,by simp,fun r hr=>by
  have:r≠id:=fun q=>hid (q▸hr)
  simp [this],?_⟩
 generalize hφ':(fun r=>if r=id then bk else φ r)=φ';have e1:φ' id=bk:=by subst hφ';simp
 have e2:∀ r,r≠id→φ' r=φ r:=by intro r q;subst hφ';simp [q]
 have e3:∀ r,N r→φ' r=φ r:=fun r hr=>e2 r fun q=>hid (q▸hr)
 have hWn:∀ b,Wr φ' (l_ hp id row) b→Wr φ hp b∨b=w.heap.size:=by
  rintro b ⟨s,hs⟩
  by_cases q:s=id
  · subst q;rw [cO] at hs;exact Or.inr (hblk φ' e1 b hs)
  · rw [bx hp _ q] at hs;left;refine ⟨s,?_⟩;have e:=e2 s q;cases hq:hp s <;> rw [hq] at hs <;> simp only [bO] at hs ⊢ <;> first | (cases hs;done) | (rw [e] at hs;exact hs)
 have hsz:w.heap.size≤(w.alloc (.cells vs te)).heap.size:=by simp
 have hW:∀ b,b<w.heap.size→Wr φ' (l_ hp id row) b→Wr φ hp b:=fun b hb q=>(hWn b q).elim (fun q=>q) (fun q=>absurd q (by omega))
 have hX:∀ p b,XX w0 w φ hp p b→XX w0 (w.alloc (.cells vs te)) φ' (l_ hp id row) p b:=fun p b hx=>hx.mono hsz hW
 refine h.step (fun _=>False) (fun _ q=>Or.inl q) e3 (h.below.alloc _) hsz (fun b hb _=>heap_alloc_old w _ b hb) (fun _ q=>q.elim) hW (fun s=>?_) (fun s s' b hs hs'=>?_)
 · by_cases q:s=id
   · subst q;right;rw [cO];exact hrow φ' e1 e3 hX
   · rw [bx hp _ q];cases hs:hp s with
     | dead=>right;trivial
     | box cs=>have:=h.rows s;rw [hs] at this;exact Or.inl ⟨rfl,this.1,fun _ _ q=>q⟩
     | own p' e' l'=>have:=h.rows s;rw [hs] at this;exact Or.inl ⟨rfl,this.1,fun _ _ q=>q⟩
     | fro p' e' l'=>have:=h.rows s;rw [hs] at this;exact Or.inl ⟨rfl,this.1.1,fun _ _ q=>q⟩
 · have key:∀ s,bO φ' s (l_ hp id row s)=some b→s≠id→bO φ s (hp s)=some b:=by
    intro s hs q;rw [bx hp _ q] at hs;have e:=e2 s q;cases hq:hp s <;> rw [hq] at hs <;> simp only [bO] at hs ⊢ <;> first | (cases hs;done) | (rw [e] at hs;exact hs)
   by_cases q:s=id
   · by_cases q':s'=id
     · rw [q,q']
     · have h1:=key s' hs' q';have h2:=(h.blk_lt h1).2;subst q;rw [cO] at hs;have:=hblk φ' e1 b hs;omega
   · have h1:=key s hs q;by_cases q':s'=id
     · have h2:=(h.blk_lt h1).2;subst q';rw [cO] at hs';have:=hblk φ' e1 b hs';omega
     · exact h.disj s s' b h1 (key s' hs' q')
end
end Go.V
end
section
namespace Go.V
open Go.RowKit
theorem sr:∀ (ds cs:List AV) (off:Nat),off+ds.length≤cs.length→setCells cs off ds=cs.take off++ds++cs.drop (off+ds.length)
 | [],cs,off,h=>by simp [setCells]
 | d::ds,cs,off,h=>by simp only [List.length_cons] at h;simp only [setCells];rw [sr ds (cs.set off d) (off+1) (by rw [List.length_set];omega)];rw [List.take_succ_eq_append_getElem (by rw [List.length_set];omega)];rw [List.take_set_of_le (Nat.le_refl _),List.drop_set_of_lt (by omega)];simp [Nat.add_assoc,Nat.add_comm 1]
theorem M1 {xs d us:List Value} {i n off:Nat} (hd:∀ j,j<n→xs[i*n+j]?=d[j]?) (hdl:d.length=n) (ho:off+us.length≤n) (hx:i*n+n≤xs.length) :
 xs.take (i*n)++(d.take off++us++d.drop (off+us.length))++xs.drop (i*n+n)=xs.take (i*n+off)++us++xs.drop (i*n+off+us.length):=by
 apply List.ext_getElem?;intro j;simp only [List.getElem?_append,List.getElem?_take,List.getElem?_drop,List.length_append,List.length_take,List.length_drop];have e1:min (i*n) xs.length=i*n:=by omega
 have e2:min off d.length=off:=by omega
 have e3:min (i*n+off) xs.length=i*n+off:=by omega
 rw [e1,e2,e3];by_cases c1:j<i*n
 · have q1:j<i*n+(off+us.length+(d.length-(off+us.length))):=by omega
   have q2:j<i*n+off+us.length:=by omega
   have q3:j<i*n+off:=by omega
   simp [c1,q1,q2,q3]
 · by_cases c2:j<i*n+off
   · have q1:j<i*n+(off+us.length+(d.length-(off+us.length))):=by omega
     have q2:j<i*n+off+us.length:=by omega
     have q3:j-i*n<off+us.length:=by omega
     have q4:j-i*n<off:=by omega
     have:=hd (j-i*n) (by omega);rw [show i*n+(j-i*n)=j by omega] at this;simp [c1,c2,q1,q2,q3,q4,this]
   · by_cases c3:j<i*n+off+us.length
     · have q1:j<i*n+(off+us.length+(d.length-(off+us.length))):=by omega
       have q3:j-i*n<off+us.length:=by omega
       have q4:¬ j-i*n<off:=by omega
       simp [c1,c2,c3,q1,q3,q4];congr 1;omega
     · by_cases c4:j<i*n+n
       · have q1:j<i*n+(off+us.length+(d.length-(off+us.length))):=by omega
         have q3:¬ j-i*n<off+us.length:=by omega
         have:=hd (j-i*n) (by omega);rw [show i*n+(j-i*n)=j by omega] at this;simp [c1,c2,c3,q1,q3];rw [show off+us.length+(j-i*n-(off+us.length))=j-i*n by omega,← this];congr 1;omega
       · have q1:¬ j<i*n+(off+us.length+(d.length-(off+us.length))):=by omega
         simp [c1,c2,c3,q1];congr 1;omega
section
variable {P:Program} {tb:mh} {w0:Bs} {w:World} {N:Nat→Prop} {φ:Nat→jF} {tm:List AV} {hp:Hp} {a:Act}
theorem Ok.write (h:Ok w0 N φ tm hp a w) {r b:Nat} (hb:bO φ r (hp r)=some b) (cur:Array Value) (row:rF) (hk:∀ b',bO φ r row=some b'→b'=b)
 (hrow:(∀ p b',XX w0 w φ hp p b'→XX w0 (w.setRow b cur) φ (l_ hp r row) p b')→(∀ b',b'≠b→(w.setRow b cur).heap[b']?=w.heap[b']?) →
  lC (w.setRow b cur) (XX w0 (w.setRow b cur) φ (l_ hp r row)) N φ w0.mine r row) :
 Ok w0 N φ tm (l_ hp r row) a (w.setRow b cur):=by
 have hsz:w.heap.size≤(w.setRow b cur).heap.size:=by simp
 have hother:∀ b',b'≠b→(w.setRow b cur).heap[b']?=w.heap[b']?:=fun b' q=>setRow_other w b b' cur q
 have hW:∀ b',b'<w.heap.size→Wr φ (l_ hp r row) b'→Wr φ hp b':=by
  rintro b' _ ⟨s,hs⟩
  by_cases q:s=r
  · subst q;rw [cO] at hs;rw [hk b' hs];exact ⟨_,hb⟩
  · rw [bx hp _ q] at hs;exact ⟨s,hs⟩
 have hB:=(h.blk_lt hb).1;refine h.step (fun b'=>b'=b) (fun _ q=>q) (fun _ _=>rfl) (h.below.setRow hB cur) hsz (fun b' _ q=>hother b' q) (fun b' q=>by subst q;exact ⟨r,hb⟩) hW (fun s=>?_) (fun s s' b' hs hs'=>?_)
 · by_cases q:s=r
   · subst q;right;rw [cO];exact hrow (fun p b' hx=>hx.mono hsz hW) hother
   · rw [bx hp _ q];have hno:∀ b',bO φ s (hp s)=some b'→¬ b'=b:=fun b' hs' e=>q (h.disj s r b' hs' (by rw [e];exact hb))
     cases hs:hp s with
     | dead=>right;trivial
     | box cs=>have:=h.rows s;rw [hs] at this hno;exact Or.inl ⟨rfl,this.1,hno⟩
     | own p' e' l'=>have:=h.rows s;rw [hs] at this hno;exact Or.inl ⟨rfl,this.1,hno⟩
     | fro p' e' l'=>have:=h.rows s;rw [hs] at this hno;exact Or.inl ⟨rfl,this.1.1,hno⟩
 · have key:∀ s,bO φ s (l_ hp r row s)=some b'→bO φ s (hp s)=some b':=by
    intro s hs;by_cases q:s=r
    · subst q;rw [cO] at hs;rw [hk b' hs];exact hb
    · rwa [bx hp _ q] at hs
   exact h.disj s s' b' (key s hs) (key s' hs')
theorem w5 {t:Nat} {u:Ty} {i:TypeInfo} {d:TypeDesc} {z:Value} (ht:j4 P tb t u i d z) (b o:Nat) (v:Value) (hl:v.cells.size=u.size) (hf:∀ x ∈ v.cells.toList,x.oneCell'=true)
 (cur:Array Value) (te:TypeId) (hg:w.heap[b]?=some (.cells cur te (0,0))) (hle:o+u.size≤cur.size) :
 (Instr.storeAt t (.pointer (some ⟨b,o,none⟩)) v).run P w = .ok () (w.setRow b (cur.toList.take o++v.cells.toList++cur.toList.drop (o+u.size)).toArray):=by
 have hs:=run_storeCells_at P b o te v.cells.toList 0 cur w hg (by simpa [hl] using hle) hf;simp only [Nat.add_zero,Array.length_toList,hl] at hs;unfold Instr.storeAt Instr.sureAddr storeVar;simp only [Sem.run_bind,Sem.run_pure,Result.andThen_ok,ht.run_sizeOf w,hl,ne_eq,not_true_eq_false,if_false,hs]
theorem J8 (h:Ok w0 N φ tm hp a w) {t:Nat} {u:Ty} {i:TypeInfo} {d:TypeDesc} {z:Value} (ht:j4 P tb t u i d z) {r i' off:Nat} {cs:List AV} {p v:Value} {av:AV}
 (hrow:hp r = .box cs) (hp':dC w (XX w0 w φ hp) N φ (.ptr r i' off) p) (hv:dC w (XX w0 w φ hp) N φ av v) (htold:Ej av=true) (hlen:(cellsOf av).length=u.size) (hle:off+u.size≤cs.length) :
 ∃ w',(Instr.storeAt t p v).run P w = .ok () w'∧Ok w0 N φ tm (l_ hp r (.box (setCells cs off (cellsOf av)))) a w':=by
 obtain ⟨hN,hi,rfl⟩:=hp';have hr:=h.rows r;rw [hrow] at hr;obtain ⟨_,hB,hn,vs,te,hh,hcs⟩:=hr;rw [hn] at hi;have hi0:i'=0:=by omega
 subst hi0;have hc:=kZ hv htold;have hcl:=hc.len;have hvl:=hcs.len;simp only [Array.length_toList] at hcl hvl;rw [Nat.zero_mul,Nat.zero_add];refine ⟨_,w5 ht _ _ _ (by omega) hc.flat vs te hh (by omega),?_⟩;refine h.write (by rw [hrow];rfl) _ _ (fun b' hb'=>by cases hb';rfl) (fun hX hw=>?_);have hcs':=hcs.mono (w':=w.setRow (φ r).b (vs.toList.take off++v.cells.toList++vs.toList.drop (off+u.size)).toArray) hX (fun p b hx=>hw b fun q=>hx.2.1 ⟨r,by rw [hrow,q];rfl⟩) (fun _ q=>q) (fun _ _=>rfl);have hc':=hc.mono (w':=w.setRow (φ r).b (vs.toList.take off++v.cells.toList++vs.toList.drop (off+u.size)).toArray) hX (fun p b hx=>hw b fun q=>hx.2.1 ⟨r,by rw [hrow,q];rfl⟩) (fun _ q=>q) (fun _ _=>rfl);refine ⟨hN,hB,hn,_,te,setRow_heap w _ _ _ _ _ hh,?_⟩;have e:=sr (cellsOf av) cs off (by omega);rw [hlen] at e;exact cast (congrArg (fun q=>cV _ _ _ _ q _) e.symm) (((hcs'.take off).append hc').append (hcs'.drop (off+u.size)))
theorem JH (h:Ok w0 N φ tm hp a w) {t:Nat} {u:Ty} {i:TypeInfo} {d:TypeDesc} {z:Value} (ht:j4 P tb t u i d z) {r i' off:Nat} {p q:Bool} {e:Ty} {l:List e.d} {pv v:Value} {y:u.d} {zz:e.d}
 (hrow:hp r = .own p e l) (hp':dC w (XX w0 w φ hp) N φ (.ptr r i' off) pv) (hy:Rd w (XX w0 w φ hp q) u y v.cells.toList) (hs:oQ u y e (l.getD i' e.z) off=some zz) :
 ∃ w',(Instr.storeAt t pv v).run P w = .ok () w'∧Ok w0 N φ tm (l_ hp r (.own (p||q) e (l.set i' zz))) a w':=by
 obtain ⟨hN,hi,rfl⟩:=hp';have hr:=h.rows r;rw [hrow] at hr;obtain ⟨_,hsz,hn,hb,te,xs,ho,hl⟩:=hr;rw [hn] at hi;have hXp:∀ p',(p'=true→(p||q)=true)→∀ b,XX w0 w φ hp p' b→XX w0 w φ hp (p||q) b:=by intro p' hpq b hx;exact ⟨hx.1,hx.2.1,Bs.see_up hpq hx.2.2⟩
 have hl':n9 (Rd w (XX w0 w φ hp (p||q)) e) l xs:=hl.mono (hXp p (fun q'=>by rw [q'];rfl)) (fun _ _=>rfl);have hy':Rd w (XX w0 w φ hp (p||q)) u y v.cells.toList:=hy.mono (hXp q (fun q'=>by rw [q'];cases p <;> rfl)) (fun _ _=>rfl);obtain ⟨ds,hds,hdj⟩:=hl'.get (fun x d hh=>hh.len) i' e.z hi;obtain ⟨g1,g2⟩:=zj hy' e hs hds;have hset:=hl'.set (fun x d hh=>hh.len) i' zz _ hi g1;have hyl:=hy.len;have hxl:xs.length=l.length*e.size:=ho.1;have hle:i'*e.size+e.size≤xs.length:=by rw [hxl,← Nat.succ_mul];exact Nat.mul_le_mul_right _ hi
 rw [← hyl] at g1;have hset':n9 (Rd w (XX w0 w φ hp (p||q)) e) (l.set i' zz) (xs.take (i'*e.size+off)++v.cells.toList++xs.drop (i'*e.size+off+u.size)):=by have:=M1 (us:=v.cells.toList) (off:=off) hdj hds.len (by omega) hle;rw [hyl] at this;rw [← this];exact hset
 rcases ho.2 with ⟨hnil,h0⟩ | ⟨g,cap,cur,hv,hBg,hg,hnc,hcm,hcs,htake⟩
 · omega
 · have hbg:(φ r).b=g:=hb g (by rw [hv];rfl);have hblk:bO φ r (hp r)=some g:=by rw [hrow];simp [bO,hv,Value.ownBlock]
   have hcurl:l.length*e.size≤cur.size:=by rw [hcs];exact Nat.mul_le_mul_right _ hnc
   rw [hbg,hsz];refine ⟨_,w5 ht _ _ _ (by simpa using hyl) hy.flat cur te hg (by omega),?_⟩;refine h.write hblk _ _ (fun b' hb'=>?_) (fun hX hw=>?_)
   · simp only [bO,hv,Value.ownBlock,Option.some.injEq] at hb';exact hb'.symm
   · have hyl':v.cells.size=u.size:=by simpa using hyl
     refine ⟨hN,hsz,by rw [hn,List.length_set],hb,te,_,⟨?_,Or.inr ⟨g,cap,_,by rw [List.length_set];exact hv,hBg,setRow_heap w g _ _ _ _ hg,by rw [List.length_set];exact hnc,hcm,?_,?_⟩⟩,hset'.mono (hX (p||q)) (fun b hx=>hw b fun qq=>hx.2.1 ⟨r,by rw [hblk,qq]⟩)⟩
     · simp only [List.length_append,List.length_take,List.length_drop,List.length_set];omega
     · simp only [List.size_toArray,List.length_append,List.length_take,List.length_drop,Array.length_toList];omega
     · rw [List.length_set];show List.take _ (List.toArray _).toList=_;rw [← htake];simp only [List.take_append,List.length_append,List.length_take,Array.length_toList,List.drop_take,List.take_take];rw [show min (l.length*e.size) (i'*e.size+off)=i'*e.size+off by omega,show min (i'*e.size+off) (l.length*e.size)=i'*e.size+off by omega];rw [show min (i'*e.size+off) cur.size=i'*e.size+off by omega];rw [List.take_of_length_le (l:=v.cells.toList) (by simp;omega),hyl']
end
end Go.V
end
section
namespace Go.V
open Go.RowKit
section
variable {P:Program} {tb:mh} {w0:Bs} {w:World} {N:Nat→Prop} {φ:Nat→jF} {tm:List AV} {hp:Hp} {a:Act}
theorem xH (t ty e te:TypeId) (i:TypeInfo) (ht:P.underlying t=some (.slice e)) (hi:P.info? e=some i)
 (g sLen sCap:Nat) (cur:Array Value) (hg:w.heap[g]?=some (.cells cur te (0,0)))
 (a:Addr) (m c:Nat) (news:List Value) (hl:news.length=m*i.size) (hnews:∀ j u,news[j]?=some u→w.cell? (a.add j)=some u) (h1:∀ u ∈ news,u.oneCell'=true)
 (hroom:sLen+m≤sCap) (hfit:sLen*i.size+news.length≤cur.size) :
 (Builtin.append_ #[t,t] ty #[.slice (some ⟨g,0,none⟩) sLen sCap,.slice (some a) m c]).run P w =
  .ok (.slice (some ⟨g,0,none⟩) (sLen+m) sCap) (w.setRow g (cur.toList.take (sLen*i.size)++news++cur.toList.drop (sLen*i.size+news.length)).toArray):=by
 have hf:=run_firstCells_some (P:=P) w i.size m a m c news hl hnews;have hst:=run_storeCells_at P g (sLen*i.size) te news 0 cur w hg (by simpa using hfit) h1;simp only [Nat.add_zero] at hst;simp [Builtin.append_,run_underlying ht,sizeOf,typeInfo,hi,Builtin.lenOf,hroom,hf,Addr.add_lit,hst]
theorem yJ (t ty e:TypeId) (i:TypeInfo) (ht:P.underlying t=some (.slice e)) (hi:P.info? e=some i) (ad:Option Addr) (n c:Nat) (hnc:n≤c) (c':Nat) :
 (Builtin.append_ #[t,t] ty #[.slice ad n c,.slice none 0 c']).run P w = .ok (.slice ad n c) w:=by
 cases ad <;> simp [Builtin.append_,run_underlying ht,sizeOf,typeInfo,hi,Builtin.lenOf,hnc,Builtin.firstCells,storeCells]
theorem Ae (base:Nat) (t ty e te:TypeId) (i:TypeInfo) (z:Value) (size bytes:Nat) (ht:P.underlying t=some (.slice e)) (hi:P.info? e=some i) (hz:i.zero=some z)
 (hsize:i.size=size) (hby:i.bytes=bytes) (hzs:z.cells.size=size) (hsz:0<size)
 (v:Value) (n:Nat) (xs:List Value) (hown:w.ownsRow base te size v n xs)
 (ad:Option Addr) (m c:Nat) (news:List Value) (hl:news.length=m*size) (hnews:0<m→∃ a,ad=some a∧∀ j u,news[j]?=some u→w.cell? (a.add j)=some u) (h1:∀ u ∈ news,u.oneCell'=true)
 (h63:n+m≤maxLen) (hbytes:(n+m)*bytes≤140737488355328) (hbase:base≤w.heap.size) :
 ∃ v' w' te',(Builtin.append_ #[t,t] ty #[v,.slice ad m c]).run P w = .ok v' w'∧w'.ownsRow base te' size v' (n+m) (xs++news)∧w.grownBy w' v.ownBlock ∧
  (∀ k,v'.ownBlock=some k→v.ownBlock=some k∨w.heap.size≤k):=by
 subst hsize;subst hby;have hsmall:n+m≤9223372036854775807:=by simp only [maxLen] at h63;omega
 have hlen:(xs++news).length=(n+m)*i.size:=by rw [List.length_append,hown.1,hl,Nat.add_mul]
 by_cases hm:m=0
 · subst hm;have hn:news=[]:=List.eq_nil_of_length_eq_zero (by simpa using hl);subst hn;obtain ⟨ad',c',hv,hc',_⟩:=kc hown;refine ⟨v,w,te,?_,by simpa using hown,⟨rfl,rfl,rfl,Nat.le_refl _,fun _ _ _=>rfl⟩,fun k hk=>Or.inl hk⟩;subst hv;cases ad with
   | none=>exact yJ t ty e i ht hi ad' n c' hc' c
   | some a =>cases ad' <;> simp [Builtin.append_,run_underlying ht,sizeOf,typeInfo,hi,Builtin.lenOf,hc',Builtin.firstCells,loadCells,loadCellsFrom,storeCells]
 obtain ⟨a,rfl,hnews2⟩:=hnews (by omega);replace hnews:=hnews2;have grown:∀ (old:Nat),old<n+m→∀ (row:Option Nat),
  (w.drew.alloc (.cells (xs.toArray++news.toArray++Builtin.zeroCells z.cells (grownCap w (n+m) old e-(n+m))) e)).ownsRow base e i.size
   (.slice (some ⟨w.heap.size,0,none⟩) (n+m) (grownCap w (n+m) old e)) (n+m) (xs++news) ∧
  w.grownBy (w.drew.alloc (.cells (xs.toArray++news.toArray++Builtin.zeroCells z.cells (grownCap w (n+m) old e-(n+m))) e)) row:=by
  intro old ho row;have hge:=grownCap_ge w (n+m) old e;have hcm:grownCap w (n+m) old e≤maxLen:=grownCap_le_maxLen w (n+m) old e h63;refine ⟨⟨hlen,.inr ⟨w.heap.size,_,_,rfl,hbase,heap_alloc_new w.drew _,hge,hcm,?_,?_⟩⟩,⟨rfl,rfl,rfl,by simp,fun k hk _=>heap_alloc_old w.drew _ k hk⟩⟩
  · simp only [Array.size_append,List.size_toArray,size_zeroCells,hzs,hown.1,hl,← Nat.add_mul];congr 1;omega
  · simp only [Array.toList_append,List.append_assoc];rw [← List.append_assoc,← hlen];exact List.take_left
 rcases hown.2 with ⟨rfl,rfl⟩ | ⟨g,cap,cur,rfl,hbg,hg,hnc,hcm,hcs,htake⟩
 · have hx:xs=[]:=List.eq_nil_of_length_eq_zero (by simpa using hown.1);subst hx;have hr:=run_append_nil (P:=P) w t ty e i z ht hi hz a m c news hl hnews (by omega) (by omega) (by have hb:=hbytes;simp only [Nat.zero_add] at hb;omega);have hgr:=grown 0 (by omega) (Value.ownBlock (.slice none 0 0));simp only [Nat.zero_add,List.nil_append,Array.empty_append] at hgr ⊢;exact ⟨_,_,e,hr,hgr.1,hgr.2,fun k hk=>by simp [Value.ownBlock] at hk;omega⟩
 · by_cases hroom:n+m≤cap
   · have hfit:n*i.size+news.length≤cur.size:=by rw [hl,hcs,← Nat.add_mul];exact Nat.mul_le_mul_right _ hroom
     have hr:=xH (P:=P) (w:=w) t ty e te i ht hi g n cap cur hg a m c news hl hnews h1 hroom hfit;refine ⟨_,_,te,hr,⟨hlen,.inr ⟨g,cap,_,rfl,hbg,setRow_heap w g cur _ te _ hg,hroom,hcm,?_,?_⟩⟩,⟨rfl,rfl,rfl,by simp,fun k _ hk=>setRow_other w g k _ (fun e=>hk (by simp [Value.ownBlock,e]))⟩,fun k hk=>Or.inl hk⟩
     · simp only [List.size_toArray,List.length_append,List.length_take,List.length_drop,Array.length_toList];omega
     · rw [htake,← hlen];exact List.take_left
   · have holds:∀ j u,xs[j]?=some u→w.cell? ((⟨g,0,none⟩:Addr).add j)=some u:=hown.cells (g:=g) rfl;have hr:=run_append_grow (P:=P) w t ty e i z ht hi hz ⟨g,0,none⟩ n cap xs hown.1 holds a m c news hl hnews (by omega) (by omega) (growslice_fits (by omega) hbytes);have hgr:=grown cap (by omega) (Value.ownBlock (.slice (some ⟨g,0,none⟩) n cap));exact ⟨_,_,e,hr,hgr.1,hgr.2,fun k hk=>by simp [Value.ownBlock] at hk;omega⟩
def qO (hp:Hp):Option Nat→Hp
 | none=>hp
 | some r=>l_ hp r .dead
theorem Ac (hp:Hp) {kill:Option Nat} {s:Nat} (h:kill≠some s):qO hp kill s=hp s:=by
 cases kill with
 | none=>rfl
 | some r=>exact bx hp _ fun q=>h (by rw [q])
theorem Ok.grow (h:Ok w0 N φ tm hp a w) {id:Nat} (hid:¬ N id) (kill:Option Nat) (v v':Value) (w':World) (p:Bool) (e:Ty) (l:List e.d) (te:TypeId) (xs:List Value)
 (hkill:∀ b,v.ownBlock=some b→∃ r,kill=some r∧bO φ r (hp r)=some b) (hkN:∀ r,kill=some r→N r)
 (hg:w.grownBy w' v.ownBlock) (ho:mF w' w0.mine te e.size v' l.length xs) (hl:n9 (Rd w (XX w0 w φ hp p) e) l xs)
 (hb:∀ k,v'.ownBlock=some k→v.ownBlock=some k∨w.heap.size≤k) :
 ∃ φ':Nat→jF,(φ' id).v=v'∧(∀ r,N r→φ' r=φ r)∧Ok w0 (fun r=>N r∨(id≤r∧r<id+1)) φ' tm (l_ (qO hp kill) id (.own p e l)) a w':=by
 refine ⟨fun r=>if r=id then ⟨v',(v'.ownBlock).getD 0,e.size,l.length⟩ else φ r,by simp,fun r hr=>by
  have:r≠id:=fun q=>hid (q▸hr)
  simp [this],?_⟩
 generalize hφ':(fun r=>if r=id then (⟨v',(v'.ownBlock).getD 0,e.size,l.length⟩:jF) else φ r)=φ';have e1:φ' id=⟨v',(v'.ownBlock).getD 0,e.size,l.length⟩:=by subst hφ';simp
 have e2:∀ r,r≠id→φ' r=φ r:=by intro r q;subst hφ';simp [q]
 have e3:∀ r,N r→φ' r=φ r:=fun r hr=>e2 r fun q=>hid (q▸hr)
 have hsz:w.heap.size≤w'.heap.size:=hg.size;have hblkold:∀ s b,s≠id→bO φ' s (l_ (qO hp kill) id (.own p e l) s)=some b→kill≠some s∧bO φ s (hp s)=some b:=by
  intro s b q hs;rw [bx _ _ q] at hs;by_cases q':kill=some s
  · subst q';simp only [qO,cO] at hs;cases hs
  · refine ⟨q',?_⟩;rw [Ac hp q'] at hs;have ee:=e2 s q;cases hq:hp s <;> rw [hq] at hs <;> simp only [bO] at hs ⊢ <;> first | (cases hs;done) | (rw [ee] at hs;exact hs)
 have hWn:∀ b,b<w.heap.size→Wr φ' (l_ (qO hp kill) id (.own p e l)) b→Wr φ hp b:=by
  rintro b hlt ⟨s,hs⟩
  by_cases q:s=id
  · subst q;rw [cO] at hs;simp only [bO,e1] at hs;rcases hb b hs with q | q
    · obtain ⟨r,_,hr⟩:=hkill b q;exact ⟨r,hr⟩
    · omega
  · exact ⟨s,(hblkold s b q hs).2⟩
 have hTW:∀ b,v.ownBlock=some b→Wr φ hp b:=fun b hb'=>by obtain ⟨r,_,hr⟩:=hkill b hb';exact ⟨r,hr⟩
 have hTB:∀ k,v.ownBlock=some k→w0.mine k:=fun k hk=>by obtain ⟨r,_,hr⟩:=hkill k hk;exact (h.blk_lt hr).1
 have hX:∀ p b,XX w0 w φ hp p b→XX w0 w' φ' (l_ (qO hp kill) id (.own p e l)) p b:=by
  intro p' b hx;exact ⟨Nat.lt_of_lt_of_le hx.1 hsz,fun q=>hx.2.1 (by
   rcases q with ⟨s,hs⟩;by_cases q:s=id
   · subst q;rw [cO] at hs;simp only [bO,e1] at hs;rcases hb b hs with q | q
     · exact hTW b q
     · have:=hx.1;omega
   · exact ⟨s,(hblkold s b q (by rw [bx _ _ q] at hs ⊢;exact hs)).2⟩),hx.2.2⟩
 refine h.step (fun b=>v.ownBlock=some b) (fun _ q=>Or.inl q) e3
  (h.below.grown hg hTB) hsz (fun b hlt hT=>hg.block b hlt (fun q=>hT q.symm)) hTW hWn (fun s=>?_) (fun s s' b hs hs'=>?_)
 · by_cases q:s=id
   · subst q;right;rw [cO];refine ⟨Or.inr ⟨Nat.le_refl _,Nat.lt_succ_self _⟩,by rw [e1],by rw [e1],fun b hb'=>by rw [e1] at hb' ⊢;simp only at hb' ⊢;rw [hb'];rfl,te,xs,by rw [e1];exact ho,?_⟩;refine hl.mono (fun b hx=>?_) (fun b hx=>hg.block b hx.1 fun q=>hx.2.1 (hTW b q.symm));exact hx.mono hsz hWn
   · rw [bx _ _ q];by_cases q':kill=some s
     · right;subst q';simp only [qO,cO];trivial
     · rw [Ac hp q'];have hno:∀ b,bO φ s (hp s)=some b→¬ v.ownBlock=some b:=fun b hb' e=>by
        obtain ⟨r,hr,hr2⟩:=hkill b e;exact q' (by rw [hr,h.disj s r b hb' hr2])
       cases hs:hp s with
       | dead=>right;trivial
       | box cs=>have:=h.rows s;rw [hs] at this hno;exact Or.inl ⟨rfl,this.1,hno⟩
       | own p' e' l'=>have:=h.rows s;rw [hs] at this hno;exact Or.inl ⟨rfl,this.1,hno⟩
       | fro p' e' l'=>have:=h.rows s;rw [hs] at this hno;exact Or.inl ⟨rfl,this.1.1,hno⟩
 · have key:∀ s s',s=id→s'≠id→bO φ' s (l_ (qO hp kill) id (.own p e l) s)=some b→bO φ' s' (l_ (qO hp kill) id (.own p e l) s')=some b→False:=by
    intro s s' q q' hs hs';obtain ⟨k1,k2⟩:=hblkold s' b q' hs';subst q;rw [cO] at hs;simp only [bO,e1] at hs;rcases hb b hs with q | q
    · obtain ⟨r,hr,hr2⟩:=hkill b q;exact k1 (by rw [hr,h.disj s' r b k2 hr2])
    · have:=(h.blk_lt k2).2;omega
   by_cases q:s=id
   · by_cases q':s'=id
     · rw [q,q']
     · exact (key s s' q q' hs hs').elim
   · by_cases q':s'=id
     · exact (key s' s q' q hs' hs).elim
     · exact h.disj s s' b (hblkold s b q hs).2 (hblkold s' b q' hs').2
end
end Go.V
end
section
namespace Go.V
open Go.RowKit
theorem nj (us:kO):∀ {hp:Hp} {r:Nat},r ∉ us.map (·.1)→apply hp us r=hp r:=by
 induction us with
 | nil=>intro hp r _;rfl
 | cons u us ih =>intro hp r h;simp only [List.map_cons,List.mem_cons,not_or] at h;simp only [apply];rw [ih h.2,bx hp _ h.1]
theorem wx (us:kO):∀ {hp:Hp} {r:Nat} {x:rF},(us.map (·.1)).Nodup→(r,x) ∈ us→apply hp us r=x:=by
 induction us with
 | nil=>intro hp r x _ h;cases h
 | cons u us ih =>
  intro hp r x hn h;simp only [List.map_cons,List.nodup_cons] at hn;simp only [apply];rcases List.mem_cons.1 h with q | q
  · subst q;rw [nj us hn.1,cO]
  · exact ih hn.2 q
theorem nc {p:Bool}:∀ {t:Ty} {x:t.d} {id:Nat},(kg p t x id).map (·.1)=List.range' id t.rows
 | .slice _,_,id=>by simp [kg,Ty.rows]
 | .pair a b,x,id=>by simp only [kg,List.map_append,nc,Ty.rows];rw [List.range'_append_1]
 | .bool,_,_=>rfl
 | .int _,_,_=>rfl
 | .str,_,_=>rfl
 | .unit,_,_=>rfl
 | .opq,_,_=>rfl
def nX (w:World) (X:Nat→Prop) (M:Nat→Prop):(t:Ty)→t.d→List Value→List jF→Prop
 | .slice e,l,cs,bl=>∃ v te xs,cs=[v]∧mF w M te e.size v l.length xs∧n9 (Rd w X e) l xs∧bl=[⟨v,(v.ownBlock).getD 0,e.size,l.length⟩]
 | .pair a b,x,cs,bl=>∃ c d b1 b2,cs=c++d∧bl=b1++b2∧nX w X M a x.1 c b1∧nX w X M b x.2 d b2
 | .bool,x,cs,bl=>cs=[.bool x]∧bl=[]
 | .int k,x,cs,bl=>cs=[.int k x]∧bl=[]
 | .str,x,cs,bl=>cs=[.string x]∧bl=[]
 | .unit,_,cs,bl=>cs=[]∧bl=[]
 | .opq,_,_,_=>False
def ay (bl:List jF):List Nat:=bl.filterMap (·.v.ownBlock)
def kA (ts:List Ty) (cs:List Value):List Value :=
 match ts with
 | []=>[]
 | t::ts=>mj t (cs.take t.size)::kA ts (cs.drop t.size)
def GP:List Value→Value
 | [v]=>v
 | vs => .tuple vs.toArray
def vR (w:World) (X:Nat→Prop):(A:List Pm)→(tup (pn A)).d→List Value→List Nat→Prop
 | [],_,us,bs=>us=[]∧bs=[]
 | .val t::A,x,us,bs=>∃ c us',us=mj t c::us'∧Rd w X t x.1 c∧vR w X A x.2 us' bs
 | .io o f t::A,x,us,bs=>∃ b vs te us' bl bs',us = .pointer (some ⟨b,f,none⟩)::us'∧w.heap[b]?=some (.cells vs te (0,0))∧bs=b::(ay bl++bs') ∧
  (if o then nX w X (fun _=>True) t x.1 vs.toList bl else bl=[]∧Rd w X t x.1 vs.toList)∧vR w X A x.2 us' bs'
 | .lend t::A,x,us,bs=>∃ c us' bl bs',us=mj t c::us'∧bs=ay bl++bs'∧nX w X (fun _=>True) t x.1 c bl∧vR w X A x.2 us' bs'
 | .give t::A,x,us,bs=>∃ c us' bl bs',us=mj t c::us'∧bs=ay bl++bs'∧nX w X (fun _=>True) t x.1 c bl∧vR w X A x.2 us' bs'
 | .fn f n::A,x,us,bs=>∃ vs us',us = .func (.func f) #[] vs.toArray::us'∧vs.length=n∧vR w X A x (vs++us') bs
def yz (w:World) (X:Nat→Prop):(A:List Pm)→List Value→(tup (iG A)).d→List Nat→Prop
 | [],us,_,bs=>us=[]∧bs=[]
 | .val _::A,us,y,bs=>∃ u us',us=u::us'∧yz w X A us' y bs
 | .io o f t::A,us,y,bs=>∃ b vs te us' bl bs',us = .pointer (some ⟨b,f,none⟩)::us'∧w.heap[b]?=some (.cells vs te (0,0))∧bs=b::(ay bl++bs') ∧
  (if o then nX w X (fun _=>True) t y.1 vs.toList bl else bl=[]∧Rd w X t y.1 vs.toList)∧yz w X A us' y.2 bs'
 | .lend t::A,us,y,bs=>∃ u us' bl bs',us=u::us'∧bs=ay bl++bs'∧nX w X (fun _=>True) t y.1 u.cells.toList bl∧yz w X A us' y.2 bs'
 | .give _::A,us,y,bs=>∃ u us',us=u::us'∧yz w X A us' y bs
 | .fn f n::A,us,y,bs=>∃ vs us',us = .func (.func f) #[] vs.toArray::us'∧vs.length=n∧yz w X A (vs++us') y bs
structure B_ (bs:List Nat) (w w':World):Prop where
 os:w'.os=w.os
 tape:w'.tape=w.tape
 output:w'.output=w.output
 size:w.heap.size≤w'.heap.size
 block:∀ k,k<w.heap.size→k ∉ bs→w'.heap[k]?=w.heap[k]?
structure Gl where
 n:Nat
 ok:World→Prop
 lt:∀ w,ok w→n≤w.heap.size
 frame:∀ w w',ok w→(∀ k,k<n→w'.heap[k]?=w.heap[k]?)→w.heap.size≤w'.heap.size→ok w'
def Ft (w:World) (X:Nat→Prop):(rs:List Ty)→(tup rs).d→List Value→Prop
 | [.opq,t],y,vs=>Rd w X t y.2.1 vs
 | _,_,_=>False
structure G3 (J:Gl) (P:Program) (f:Nat) (c:Cn):Prop where
 enters:∀ (w:World) (as:Array Value),(callFunc f as).run P w = .ok (.enter f as) w
 boxes:rA c.R=true→∀ x y,c.fn x=some y→∀ (w:World) (as:List Value) (Xa:Nat→Prop),J.ok w→(∀ b,Xa b→b<w.heap.size)→vR w Xa c.A x as [] →
  Calls P f as.toArray w fun e w'=>∃ b vs te,e = .returned (.pointer (some ⟨b,0,none⟩))∧B_ [] w w'∧w.heap.size≤b∧w'.heap[b]?=some (.cells vs te (0,0)) ∧
   ∃ X':Nat→Prop,(∀ d,X' d→d<w'.heap.size∧d≠b∧(w.heap.size≤d∨Xa d))∧Ft w' X' c.R (pg (iG c.A) y) vs.toList
 calls:rA c.R=false→∀ x y,c.fn x=some y→∀ (w:World) (as:List Value) (bs:List Nat) (Xa:Nat→Prop),J.ok w→(∀ b ∈ bs,J.n≤b)→(∀ b,Xa b→b<w.heap.size∧b ∉ bs)→vR w Xa c.A x as bs→bs.Nodup →
  Calls P f as.toArray w fun e w'=>∃ bs' cs bl,e = .returned (GP (kA c.R cs))∧B_ bs w w'∧(bs'++ay bl).Nodup∧(∀ b ∈ bs'++ay bl,w.heap.size≤b∨b ∈ bs) ∧
   ∃ X':Nat→Prop,(∀ b,X' b→b<w'.heap.size∧b ∉ bs'++ay bl∧(w.heap.size≤b∨b ∈ bs∨(c.al=true∧Xa b))) ∧
   yz w' X' c.A as (Dj (iG c.A) y) bs' ∧
   (if c.fresh then nX w' X' (fun _=>True) (tup c.R) (pg (iG c.A) y) cs bl else bl=[]∧Rd w' X' (tup c.R) (pg (iG c.A) y) cs)
structure zn (w0:Bs) (P:Program) (f:Nat) (c:Cn):Prop where
 enters:∀ (w:World) (as:Array Value),(callFunc f as).run P w = .ok (.enter f as) w
 boxes:rA c.R=true→∀ x y,c.fn x=some y→∀ (w:World) (as:List Value) (Xa:Nat→Prop),kU w0 w→(∀ b,Xa b→b<w.heap.size)→vR w Xa c.A x as [] →
  Calls P f as.toArray w fun e w'=>∃ b vs te,e = .returned (.pointer (some ⟨b,0,none⟩))∧B_ [] w w'∧w.heap.size≤b∧w'.heap[b]?=some (.cells vs te (0,0)) ∧
   ∃ X':Nat→Prop,(∀ d,X' d→d<w'.heap.size∧d≠b∧(w.heap.size≤d∨Xa d))∧Ft w' X' c.R (pg (iG c.A) y) vs.toList
 calls:rA c.R=false→∀ x y,c.fn x=some y→∀ (w:World) (as:List Value) (bs:List Nat) (Xa:Nat→Prop),kU w0 w→(∀ b ∈ bs,w0.mine b)→(∀ b,Xa b→b<w.heap.size∧b ∉ bs)→vR w Xa c.A x as bs→bs.Nodup →
  Calls P f as.toArray w fun e w'=>∃ bs' cs bl,e = .returned (GP (kA c.R cs))∧B_ bs w w'∧(bs'++ay bl).Nodup∧(∀ b ∈ bs'++ay bl,w.heap.size≤b∨b ∈ bs) ∧
   ∃ X':Nat→Prop,(∀ b,X' b→b<w'.heap.size∧b ∉ bs'++ay bl∧(w.heap.size≤b∨b ∈ bs∨(c.al=true∧Xa b))) ∧
   yz w' X' c.A as (Dj (iG c.A) y) bs' ∧
   (if c.fresh then nX w' X' (fun _=>True) (tup c.R) (pg (iG c.A) y) cs bl else bl=[]∧Rd w' X' (tup c.R) (pg (iG c.A) y) cs)
theorem G3.at {J:Gl} {P:Program} {f:Nat} {c:Cn} (h:G3 J P f c) {w0:Bs} (hJ:J.ok w0.w) (hB:∀ b,w0.G b→J.n≤b):zn w0 P f c :=
 have hf:∀ w,kU w0 w→J.ok w:=fun w hb=>J.frame _ _ hJ (fun k hk=>hb.block k (Nat.lt_of_lt_of_le hk (J.lt _ hJ)) fun q=>absurd (hB k q) (Nat.not_le.2 hk)) hb.size
 ⟨h.enters,fun hx x y hy w as Xa hb h1 h2=>h.boxes hx x y hy w as Xa (hf w hb) h1 h2,
  fun hx x y hy w as bs Xa hb hm h1 h2 h3=>h.calls hx x y hy w as bs Xa (hf w hb) (fun b q=>(hm b q).elim (fun q=>Nat.le_trans (J.lt _ hJ) q) (hB b)) h1 h2 h3⟩
theorem Rd.anyX {w:World} {X Y:Nat→Prop}:∀ {t:Ty} {x:t.d} {cs:List Value},t.rows=0→Rd w X t x cs→Rd w Y t x cs
 | .bool,_,_,_,h=>h
 | .int _,_,_,_,h=>h
 | .str,_,_,_,h=>h
 | .slice _,_,_,h,_=>by cases h
 | .pair a b,_,_,h,⟨c,d,e,h1,h2⟩=>by simp only [Ty.rows] at h;exact ⟨c,d,e,h1.anyX (by omega),h2.anyX (by omega)⟩
 | .unit,_,_,_,h=>h
 | .opq,_,_,_,h=>h
theorem u9 {e:Ty} (h:Dk e=false):e.rows=0:=by
 unfold Dk at h;rcases Nat.eq_zero_or_pos e.rows with q | q
 · exact q
 · have:Nat.blt 0 e.rows=true:=by simp [Nat.blt,Nat.ble_eq];omega
   rw [this] at h;cases h
theorem IP {w:World} {X:Nat→Prop} {Y:Bool→Nat→Prop} {p:Bool} {e:Ty} {l:List e.d} {xs:List Value} (h:n9 (Rd w X e) l xs) (hX:∀ b,X b→Y p b):n9 (Rd w (Y (p&&Dk e)) e) l xs:=by
 cases ht:Dk e with
 | true=>rw [Bool.and_true];exact h.mono hX (fun _ _=>rfl)
 | false=>rw [Bool.and_false];exact h.imp fun _ _ _ q=>q.anyX (u9 ht)
section
variable {P:Program} {tb:mh} {w0:Bs} {w w':World} {N:Nat→Prop} {φ:Nat→jF} {tm:List AV} {hp:Hp} {a:Act}
theorem nX.len {X:Nat→Prop} {B:Nat→Prop}:∀ {t:Ty} {x:t.d} {cs:List Value} {bl:List jF},nX w X B t x cs bl→cs.length=t.size∧bl.length=t.rows
 | .slice e,_,_,_,⟨v,te,xs,h1,h2,h3,h4⟩=>by subst h1;subst h4;exact ⟨rfl,rfl⟩
 | .pair a b,_,_,_,⟨c,d,b1,b2,h1,h2,h3,h4⟩=>by subst h1;subst h2;simp only [List.length_append,h3.len.1,h3.len.2,h4.len.1,h4.len.2,Ty.size,Ty.rows];exact ⟨trivial,trivial⟩
 | .bool,_,_,_,⟨h1,h2⟩=>by subst h1;subst h2;exact ⟨rfl,rfl⟩
 | .int _,_,_,_,⟨h1,h2⟩=>by subst h1;subst h2;exact ⟨rfl,rfl⟩
 | .str,_,_,_,⟨h1,h2⟩=>by subst h1;subst h2;exact ⟨rfl,rfl⟩
 | .unit,_,_,_,⟨h1,h2⟩=>by subst h1;subst h2;exact ⟨rfl,rfl⟩
 | .opq,_,_,_,h=>h.elim
theorem nX.cells {w2:World} {X:Nat→Prop} {B:Nat→Prop} {p:Bool} {Y:Bool→Nat→Prop} {N':Nat→Prop} {φ':Nat→jF}:∀ {t:Ty} {x:t.d} {cs:List Value} {bl:List jF} {id:Nat},nX w X B t x cs bl →
 (∀ k (h:k<bl.length),φ' (id+k)=bl[k])→(∀ k,k<bl.length→N' (id+k))→cV w2 Y N' φ' (qf p t x id) cs
 | .slice e,_,_,_,id,⟨v,te,xs,h1,h2,h3,h4⟩,hφ,hN=>by subst h1;subst h4;obtain ⟨ad,c,hs,_⟩:=kc h2;have e0:=hφ 0 (by simp);simp only [Nat.add_zero,List.getElem_cons_zero] at e0;refine ⟨v,[],rfl,by rw [hs];rfl,⟨by simpa using hN 0 (by simp),by rw [e0],ad,_,c,hs⟩,rfl⟩
 | .pair a b,x,_,_,id,⟨c,d,b1,b2,h1,h2,h3,h4⟩,hφ,hN=>by
  subst h1;subst h2;have l1:=h3.len;refine cV.append (h3.cells (fun k hk=>?_) (fun k hk=>hN k (by rw [List.length_append];omega))) (h4.cells (fun k hk=>?_) (fun k hk=>?_))
  · rw [hφ k (by rw [List.length_append];omega),List.getElem_append_left hk]
  · rw [Nat.add_assoc,hφ (a.rows+k) (by rw [List.length_append];omega),List.getElem_append_right (by omega)];congr 1;omega
  · rw [Nat.add_assoc];exact hN _ (by rw [List.length_append];omega)
 | .bool,_,_,_,_,⟨h1,h2⟩,_,_=>by subst h1;exact ⟨_,_,rfl,rfl,rfl,rfl⟩
 | .int _,_,_,_,_,⟨h1,h2⟩,_,_=>by subst h1;exact ⟨_,_,rfl,rfl,rfl,rfl⟩
 | .str,_,_,_,_,⟨h1,h2⟩,_,_=>by subst h1;exact ⟨_,_,rfl,rfl,rfl,rfl⟩
 | .unit,_,_,_,_,⟨h1,h2⟩,_,_=>by subst h1;rfl
 | .opq,_,_,_,_,h,_,_=>h.elim
theorem nX.any {X Y:Nat→Prop} {M M':Nat→Prop} (hX:∀ b,X b→Y b):∀ {t:Ty} {x:t.d} {cs:List Value} {bl:List jF},nX w X M t x cs bl→(∀ b ∈ ay bl,M' b)→nX w Y M' t x cs bl
 | .slice e,l,cs,bl,⟨v,te,xs,h1,h2,h3,h4⟩,hM=>by refine ⟨v,te,xs,h1,mF.of h2.row fun b hb=>hM b ?_,h3.mono hX (fun _ _=>rfl),h4⟩;rw [h4];exact List.mem_filterMap.2 ⟨_,List.mem_singleton.2 rfl,hb⟩
 | .pair a b,x,_,_,⟨c,d,b1,b2,h1,h2,h3,h4⟩,hM=>by subst h2;simp only [ay,List.filterMap_append,List.mem_append] at hM;exact ⟨c,d,b1,b2,h1,rfl,h3.any hX fun b hb=>hM b (Or.inl hb),h4.any hX fun b hb=>hM b (Or.inr hb)⟩
 | .bool,x,_,_,h,_=>h
 | .int _,x,_,_,h,_=>h
 | .str,x,_,_,h,_=>h
 | .unit,_,_,_,h,_=>h
 | .opq,_,_,_,h,_=>h.elim
def lX (φ:Nat→jF) (us:kO):List Nat:=us.filterMap fun u=>bO φ u.1 u.2
theorem ii {us vs:kO}:lX φ (us++vs)=lX φ us++lX φ vs:=List.filterMap_append
theorem mS {b1 b2:List jF}:ay (b1++b2)=ay b1++ay b2:=List.filterMap_append
theorem xg {l:List Nat}:lX φ (tP l)=[]:=by
 induction l with
 | nil=>rfl
 | cons r l ih=>simp [lX,tP,bO]
theorem rH {l:List Nat}:(tP l).map (·.1)=l:=by simp [tP,Function.comp_def]
theorem nX.blks {X M:Nat→Prop} {p:Bool}:∀ {t:Ty} {x:t.d} {cs:List Value} {bl:List jF} {id:Nat},nX w X M t x cs bl→(∀ k (h:k<bl.length),φ (id+k)=bl[k])→lX φ (kg p t x id)=ay bl
 | .slice e,l,_,_,id,⟨v,te,xs,h1,h2,h3,h4⟩,hφ=>by subst h4;have e0:=hφ 0 (by simp);simp only [Nat.add_zero,List.getElem_cons_zero] at e0;simp only [lX,kg,ay,List.filterMap_cons,List.filterMap_nil,bO,e0]
 | .pair a b,x,_,_,id,⟨c,d,b1,b2,h1,h2,h3,h4⟩,hφ=>by
  subst h2;have l1:=h3.len;rw [show kg p (.pair a b) x id=kg p a x.1 id++kg p b x.2 (id+a.rows) from rfl,ii,mS,
   h3.blks fun k hk=>by rw [hφ k (by rw [List.length_append];omega),List.getElem_append_left hk],
   h4.blks fun k hk=>by
    rw [Nat.add_assoc,hφ (a.rows+k) (by rw [List.length_append];omega),List.getElem_append_right (by omega)];congr 1;omega]
 | .bool,x,_,_,_,⟨_,h⟩,_=>by subst h;rfl
 | .int _,x,_,_,_,⟨_,h⟩,_=>by subst h;rfl
 | .str,x,_,_,_,⟨_,h⟩,_=>by subst h;rfl
 | .unit,_,_,_,_,⟨_,h⟩,_=>by subst h;rfl
 | .opq,_,_,_,_,h,_=>h.elim
theorem nX.rowsOk {X M M':Nat→Prop} {p:Bool} {Y:Bool→Nat→Prop} (hX:∀ b,X b→Y p b):∀ {t:Ty} {x:t.d} {cs:List Value} {bl:List jF} {id:Nat},nX w X M t x cs bl →
 (∀ k (h:k<bl.length),φ (id+k)=bl[k])→(∀ k,k<bl.length→N (id+k))→(∀ b ∈ ay bl,M' b)→∀ r row,(r,row) ∈ kg p t x id→lC w Y N φ M' r row
 | .slice e,l,_,_,id,⟨v,te,xs,h1,h2,h3,h4⟩,hφ,hN,hM,r,row,hm=>by
  subst h4;have e0:=hφ 0 (by simp);simp only [Nat.add_zero,List.getElem_cons_zero] at e0;simp only [kg,List.mem_singleton,Prod.mk.injEq] at hm;obtain ⟨rfl,rfl⟩:=hm;refine ⟨by simpa using hN 0 (by simp),by rw [e0],by rw [e0],fun b hb=>?_,te,xs,?_,IP h3 hX⟩
  · rw [e0] at hb ⊢;simp only at hb ⊢;rw [hb];rfl
  · rw [e0];exact mF.of h2.row fun b hb=>hM b (List.mem_filterMap.2 ⟨_,List.mem_singleton.2 rfl,hb⟩)
 | .pair a b,x,_,_,id,⟨c,d,b1,b2,h1,h2,h3,h4⟩,hφ,hN,hM,r,row,hm=>by
  subst h2;have l1:=h3.len;simp only [mS,List.mem_append] at hM;simp only [kg] at hm;rcases List.mem_append.1 hm with hm | hm
  · exact h3.rowsOk hX (fun k hk=>by rw [hφ k (by rw [List.length_append];omega),List.getElem_append_left hk]) (fun k hk=>hN k (by rw [List.length_append];omega)) (fun b hb=>hM b (Or.inl hb)) r row hm
  · refine h4.rowsOk hX (fun k hk=>?_) (fun k hk=>?_) (fun b hb=>hM b (Or.inr hb)) r row hm
    · rw [Nat.add_assoc,hφ (a.rows+k) (by rw [List.length_append];omega),List.getElem_append_right (by omega)];congr 1;omega
    · rw [Nat.add_assoc];exact hN _ (by rw [List.length_append];omega)
 | .bool,_,_,_,_,_,_,_,_,_,_,hm=>by simp [kg] at hm
 | .int _,_,_,_,_,_,_,_,_,_,_,hm=>by simp [kg] at hm
 | .str,_,_,_,_,_,_,_,_,_,_,hm=>by simp [kg] at hm
 | .unit,_,_,_,_,_,_,_,_,_,_,hm=>by simp [kg] at hm
 | .opq,_,_,_,_,h,_,_,_,_,_,_=>h.elim
theorem qX {α β:Type} {f:α→Option β}:∀ {l:List α} {x y:α} {b:β},(l.filterMap f).Nodup→x ∈ l→y ∈ l→f x=some b→f y=some b→x=y
 | [],_,_,_,_,h,_,_,_=>by cases h
 | z::l,x,y,b,hn,hx,hy,h1,h2=>by
  rw [List.filterMap_cons] at hn;have hn':(l.filterMap f).Nodup:=by
   split at hn
   · exact hn
   · exact (List.nodup_cons.1 hn).2
  have key:∀ v,v ∈ l→f v=some b→f z≠some b:=fun v hv h1 h2=>by rw [h2] at hn;exact (List.nodup_cons.1 hn).1 (List.mem_filterMap.2 ⟨v,hv,h1⟩)
  rcases List.mem_cons.1 hx with q | q
  · rcases List.mem_cons.1 hy with q' | q'
    · rw [q,q']
    · subst q;exact absurd h1 (key y q' h2)
  · rcases List.mem_cons.1 hy with q' | q'
    · subst q';exact absurd h2 (key x q h1)
    · exact qX hn' q q' h1 h2
theorem Ok.call (h:Ok w0 N φ tm hp a w) {us:kO} {gv bs own':List Nat} {id n:Nat} {φ':Nat→jF} (hgv:∀ r ∈ gv,N r) (hid:∀ r,id≤r→r<id+n→¬ N r)
 (hperm:(us.map (·.1)).Perm (gv++List.range' id n)) (hgn:gv.Nodup) (hk:B_ bs w w') (hbs:∀ b ∈ bs,∃ r ∈ gv,bO φ r (hp r)=some b)
 (hrows:∀ r row,(r,row) ∈ us→lC w' (XX w0 w' φ' (apply hp us)) (fun r=>N r∨(id≤r∧r<id+n)) φ' w0.mine r row) (hblks:lX φ' us=own') (hnd:own'.Nodup)
 (hown:∀ b ∈ own',w.heap.size≤b∨b ∈ bs) (e3:∀ r,N r→φ' r=φ r):Ok w0 (fun r=>N r∨(id≤r∧r<id+n)) φ' tm (apply hp us) a w':=by
 have hkn:(us.map (·.1)).Nodup:=hperm.nodup_iff.2 (List.nodup_append.2 ⟨hgn,List.nodup_range',fun x hx y hy e=>by
  subst e;rw [List.mem_range'_1] at hy;exact hid x hy.1 hy.2 (hgv x hx)⟩)
 have hkey:∀ r,r ∈ us.map (·.1)↔r ∈ gv∨(id≤r∧r<id+n):=fun r=>by rw [hperm.mem_iff,List.mem_append,List.mem_range'_1]
 have hout:∀ r,r ∉ us.map (·.1)→apply hp us r=hp r:=fun r q=>nj _ q
 have hin:∀ r,r ∈ us.map (·.1)→∃ row,(r,row) ∈ us∧apply hp us r=row:=fun r q=>by obtain ⟨y,hy,rfl⟩:=List.mem_map.1 q;exact ⟨y.2,hy,wx _ hkn hy⟩
 have hold:∀ s b,s ∉ us.map (·.1)→bO φ' s (apply hp us s)=some b→bO φ s (hp s)=some b:=fun s b q hs=>by
  rw [hout s q] at hs;have hr:=h.rows s;cases hq:hp s with
  | dead=>rw [hq] at hs;cases hs
  | fro p e l=>rw [hq] at hs;cases hs
  | box cs=>rw [hq] at hs hr;simp only [bO] at hs ⊢;rw [← e3 s hr.1];exact hs
  | own p e l=>rw [hq] at hs hr;simp only [bO] at hs ⊢;rw [← e3 s hr.1];exact hs
 have hnew:∀ s b,s ∈ us.map (·.1)→bO φ' s (apply hp us s)=some b→b ∈ own'∧∃ row,(s,row) ∈ us∧bO φ' s row=some b:=fun s b q hs=>by obtain ⟨row,hm,e⟩:=hin s q;rw [e] at hs;exact ⟨by rw [← hblks];exact List.mem_filterMap.2 ⟨_,hm,hs⟩,row,hm,hs⟩
 have hno:∀ s b,s ∉ us.map (·.1)→bO φ s (hp s)=some b→b ∉ bs:=fun s b q hs hb=>by obtain ⟨r,hr,hr2⟩:=hbs b hb;exact q ((hkey s).2 (Or.inl (by rw [h.disj s r b hs hr2];exact hr)))
 have hWbs:∀ b,b ∈ bs→Wr φ hp b:=fun b hb=>by obtain ⟨r,_,hr2⟩:=hbs b hb;exact ⟨r,hr2⟩
 refine h.step (fun b=>b ∈ bs) (fun _ q=>Or.inl q) e3 ?_ hk.size (fun b hlt hb=>hk.block b hlt hb) hWbs ?_ (fun s=>?_) (fun s s' b hs hs'=>?_)
 · refine h.below.next (fun b=>b ∈ bs) (fun b hb=>?_) hk.os hk.tape hk.output hk.size fun k h1 h2=>hk.block k h1 h2
   obtain ⟨r,_,hr2⟩:=hbs b hb;exact (h.blk_lt hr2).1
 · rintro b hlt ⟨s,hs⟩
   by_cases q:s ∈ us.map (·.1)
   · rcases hown b (hnew s b q hs).1 with g | g
     · omega
     · exact hWbs b g
   · exact ⟨s,hold s b q hs⟩
 · by_cases q:s ∈ us.map (·.1)
   · right;obtain ⟨row,hm,e⟩:=hin s q;rw [e];exact hrows s row hm
   · rw [hout s q];have hr:=h.rows s;cases hs:hp s with
     | dead=>right;trivial
     | box cs=>rw [hs] at hr;exact Or.inl ⟨rfl,hr.1,fun b hb=>hno s b q (by rw [hs];exact hb)⟩
     | own p' e' l'=>rw [hs] at hr;exact Or.inl ⟨rfl,hr.1,fun b hb=>hno s b q (by rw [hs];exact hb)⟩
     | fro p' e' l'=>rw [hs] at hr;exact Or.inl ⟨rfl,hr.1.1,fun b hb=>hno s b q (by rw [hs];exact hb)⟩
 · by_cases q:s ∈ us.map (·.1)
   · obtain ⟨b1,row,m1,k1⟩:=hnew s b q hs;by_cases q':s' ∈ us.map (·.1)
     · obtain ⟨_,row',m2,k2⟩:=hnew s' b q' hs';have:=qX (f:=fun u:Nat × rF=>bO φ' u.1 u.2) (by rw [← hblks] at hnd;exact hnd) m1 m2 k1 k2;exact (Prod.mk.inj this).1
     · have h1:=hold s' b q' hs';rcases hown b b1 with g | g
       · have:=(h.blk_lt h1).2;omega
       · exact absurd g (hno s' b q' h1)
   · have h1:=hold s b q hs;by_cases q':s' ∈ us.map (·.1)
     · obtain ⟨b1,_⟩:=hnew s' b q' hs';rcases hown b b1 with g | g
       · have:=(h.blk_lt h1).2;omega
       · exact absurd g (hno s b q h1)
     · exact h.disj s s' b h1 (hold s' b q' hs')
end
end Go.V
end

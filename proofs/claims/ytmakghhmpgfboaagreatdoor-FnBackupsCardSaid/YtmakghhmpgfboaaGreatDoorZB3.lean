/- Plain laws, merged; what is proved here is told ahead of each part. -/
import Derived.Test.YtmakghhmpgfboaaGreatDoorZB2
set_option linter.unusedVariables false
set_option linter.unusedSimpArgs false
namespace Go.Proofs.YtmakghhmpgfboaaGreatDoor.G
open Go.V
def leP (key:ByteArray) (x:Ty.den TPair):Bool:=sls x.1 key||seq x.1 key
def withoutV (l:PairL) (key:ByteArray):PairL:=l.filter fun x=>!(seq x.1 key)
def insV (l:PairL) (p:Ty.den TPair):PairL:=l.takeWhile (leP p.1)++p::l.dropWhile (leP p.1)
def setV (l:PairL) (p:Ty.den TPair) (del:Bool):PairL:=bif del then withoutV l p.1 else insV (withoutV l p.1) p
def foldV (l:PairL) (puts:PutL) (b:Int):PairL:=puts.foldl (fun l q=>setV l (q.1,(q.2.2.1,(b,()))) q.2.1) l
theorem insV_len (l:PairL) (p:Ty.den TPair):(insV l p).length=l.length+1:=by
 unfold insV
 rw [l_a,l_c]
 have:=congrArg List.length (List.takeWhile_append_dropWhile (p:=leP p.1) (l:=l))
 rw [l_a] at this
 omega
theorem withoutV_len (l:PairL) (key:ByteArray):(withoutV l key).length≤l.length:=List.length_filter_le ..
theorem setV_len (l:PairL) (p:Ty.den TPair) (del:Bool):(setV l p del).length≤l.length+1:=by
 unfold setV
 have:=withoutV_len l p.1
 cases del
 · rw [c_f,insV_len];omega
 · rw [c_t];omega
def getV:PairL→ByteArray→Option ByteArray
 | [],_=>none
 | x::l,k=>bif seq x.1 k then some x.2.1 else getV l k
def SortP (l:PairL):Prop:=KeysOk (l.map (·.1))
theorem getV_app (k:ByteArray):∀ a b:PairL,getV (a++b) k=match getV a k with | some e=>some e | none=>getV b k
 | [],b=>rfl
 | e::a,b=>by
  rw [List.cons_append,getV.eq_2,getV.eq_2]
  cases seq e.1 k with
  | true=>rfl
  | false=>exact getV_app k a b
theorem getV_without {key k:ByteArray} (h:k≠key):∀ l:PairL,getV (withoutV l key) k=getV l k
 | []=>rfl
 | e::l=>by
  have ih:=getV_without h l
  unfold withoutV at ih ⊢
  rw [List.filter_cons,getV.eq_2 k e l]
  cases c:seq e.1 key with
  | false=>rw [n_f,if_pos rfl,getV.eq_2,ih]
  | true =>
   rw [n_t,if_neg (by decide),ih,seqF (fun q=>h (by rw [← q];exact seq_iff.1 c))]
   rfl
theorem getV_no {k:ByteArray}:∀ {l:PairL},(∀ x ∈ l,x.1≠k)→getV l k=none
 | [],_=>rfl
 | x::l,h=>by
  rw [getV.eq_2,seqF (h x m_s),c_f]
  exact getV_no fun y hy=>h y (m_m _ hy)
theorem without_ne {l:PairL} {key:ByteArray}:∀ g ∈ withoutV l key,g.1≠key:=fun g hg q=>by
 unfold withoutV at hg
 rw [List.mem_filter] at hg
 have:=hg.2
 rw [q,seq_refl] at this
 cases this
theorem getV_ins {l:PairL} {p:Ty.den TPair} (hn:∀ x ∈ l,x.1≠p.1) (k:ByteArray):getV (insV l p) k=bif seq p.1 k then some p.2.1 else getV l k:=by
 have q:=getV_app k (l.takeWhile (leP p.1)) (l.dropWhile (leP p.1))
 rw [List.takeWhile_append_dropWhile] at q
 unfold insV
 rw [getV_app,getV.eq_2]
 cases c:seq p.1 k with
 | false=>rw [c_f,c_f,q]
 | true =>
  have:getV (l.takeWhile (leP p.1)) k=none:=getV_no fun x hx w=>hn x (List.takeWhile_subset _ hx) (by rw [w,seq_iff.1 c])
  rw [this]
  rfl
theorem getV_set (l:PairL) (p:Ty.den TPair) (del:Bool) (k:ByteArray):getV (setV l p del) k=bif seq p.1 k then (bif del then none else some p.2.1) else getV l k:=by
 unfold setV
 cases c:seq p.1 k with
 | false =>
  have hne:k≠p.1:=fun q=>by rw [q,seq_refl] at c;cases c
  cases del with
  | true=>exact getV_without hne l
  | false =>
   rw [c_f,getV_ins without_ne,c]
   exact getV_without hne l
 | true =>
  have e:=seq_iff.1 c
  cases del with
  | true=>exact getV_no fun x hx w=>without_ne x hx (by rw [w,e])
  | false=>rw [c_f,getV_ins without_ne,c];rfl
theorem set_sort {l:PairL} (h:SortP l) (p:Ty.den TPair) (del:Bool):SortP (setV l p del):=by
 have hw:SortP (withoutV l p.1):=List.Pairwise.sublist (List.Sublist.map _ List.filter_sublist) h
 unfold setV
 cases del with
 | true=>exact hw
 | false=>exact ins_keysG (fun x:Ty.den TPair=>x.1) hw without_ne
theorem fold_sort:∀ (puts:PutL) {l:PairL} (b:Int),SortP l→SortP (foldV l puts b)
 | [],_,_,h=>h
 | q::puts,l,b,h=>fold_sort puts (l:=setV l (q.1,(q.2.2.1,(b,()))) q.2.1) b (set_sort h _ _)
theorem same_vals:∀ {l m:PairL},SortP l→SortP m→(∀ k,getV l k=getV m k)→l.map valP=m.map valP
 | [],[],_,_,_=>rfl
 | [],y::m,_,_,h=>by
  have:=h y.1
  rw [getV.eq_2,seq_refl] at this
  cases this
 | x::l,[],_,_,h=>by
  have:=h x.1
  rw [getV.eq_2,seq_refl] at this
  cases this
 | x::l,y::m,hl,hm,h=>by
  unfold SortP KeysOk at hl hm
  rw [List.map_cons,List.pairwise_cons] at hl hm
  have gtL:∀ k,sls k x.1=true→getV (x::l) k=none:=fun k q=>getV_no fun z hz w=>by
   rcases List.mem_cons.1 hz with e | e
   · rw [e] at w;rw [w,sls_irrefl] at q;cases q
   · have:=sls_trans q (hl.1 z.1 (List.mem_map.2 ⟨z,e,rfl⟩))
     rw [w,sls_irrefl] at this;cases this
  have gtM:∀ k,sls k y.1=true→getV (y::m) k=none:=fun k q=>getV_no fun z hz w=>by
   rcases List.mem_cons.1 hz with e | e
   · rw [e] at w;rw [w,sls_irrefl] at q;cases q
   · have:=sls_trans q (hm.1 z.1 (List.mem_map.2 ⟨z,e,rfl⟩))
     rw [w,sls_irrefl] at this;cases this
  have hxl:getV (x::l) x.1=some x.2.1:=by rw [getV.eq_2,seq_refl];rfl
  have hym:getV (y::m) y.1=some y.2.1:=by rw [getV.eq_2,seq_refl];rfl
  have exy:x.1=y.1:=by
   cases c1:sls x.1 y.1 with
   | true=>have:=h x.1;rw [hxl,gtM _ c1] at this;cases this
   | false =>
    cases c2:sls y.1 x.1 with
    | true=>have:=h y.1;rw [hym,gtL _ c2] at this;cases this
    | false =>
     have:=sls_total x.1 y.1
     rw [c1,c2] at this
     exact seq_iff.1 (by simpa using this)
  have hv:x.2.1=y.2.1:=by
   have:=h x.1
   rw [hxl,exy,hym] at this
   exact Option.some.inj this
  have nl:getV l x.1=none:=getV_no fun z hz w=>by
   have:=hl.1 z.1 (List.mem_map.2 ⟨z,hz,rfl⟩)
   rw [w,sls_irrefl] at this;cases this
  have nm:getV m x.1=none:=getV_no fun z hz w=>by
   have:=hm.1 z.1 (List.mem_map.2 ⟨z,hz,rfl⟩)
   rw [w,exy,sls_irrefl] at this;cases this
  rw [List.map_cons,List.map_cons,same_vals hl.2 hm.2 fun k=>?_]
  · unfold valP
    rw [exy,hv]
  · by_cases q:x.1=k
    · rw [← q,nl,nm]
    · have:=h k
      rw [getV.eq_2,getV.eq_2,← exy,seqF q] at this
      exact this
def delsV (a b:PairL):PutL:=(a.filter fun x=>(getV b x.1).isNone).map fun x=>(x.1,(true,(ByteArray.empty,())))
def eqV (o:Option ByteArray) (v:ByteArray):Bool:=match o with | some u=>seq u v | none=>false
def setsV (a b:PairL):PutL:=(b.filter fun x=>!(eqV (getV a x.1) x.2.1)).map fun x=>(x.1,(false,(x.2.1,())))
def diffV (a b:PairL):PutL:=delsV a b++setsV a b
theorem fold_app (l:PairL) (p q:PutL) (b:Int):foldV l (p++q) b=foldV (foldV l p b) q b:=by
 unfold foldV
 rw [List.foldl_append]
theorem fold_dels (b:Int) (k:ByteArray):∀ (D:PairL) (l:PairL),getV (foldV l (D.map fun x=>(x.1,(true,(ByteArray.empty,())))) b) k=bif (getV D k).isSome then none else getV l k
 | [],l=>rfl
 | x::D,l=>by
  rw [List.map_cons]
  show getV (foldV (setV l (x.1,(ByteArray.empty,(b,()))) true) (D.map _) b) k=_
  rw [fold_dels b k D,getV_set,getV.eq_2]
  cases seq x.1 k with
  | false=>rfl
  | true =>
   cases (getV D k).isSome <;> rfl
theorem fold_sets (b:Int) (k:ByteArray):∀ (S:PairL) (l:PairL),SortP S→getV (foldV l (S.map fun x=>(x.1,(false,(x.2.1,())))) b) k=match getV S k with | some v=>some v | none=>getV l k
 | [],l,_=>rfl
 | x::S,l,h=>by
  have h':=h
  unfold SortP KeysOk at h'
  rw [List.map_cons,List.pairwise_cons] at h'
  rw [List.map_cons]
  show getV (foldV (setV l (x.1,(x.2.1,(b,()))) false) (S.map _) b) k=_
  rw [fold_sets b k S _ h'.2,getV_set,getV.eq_2]
  cases c:seq x.1 k with
  | false=>rfl
  | true =>
   have:getV S k=none:=getV_no fun z hz w=>by
    have:=h'.1 z.1 (List.mem_map.2 ⟨z,hz,rfl⟩)
    rw [w,← seq_iff.1 c,sls_irrefl] at this
    cases this
   rw [this]
   rfl
theorem getV_filter {p:Ty.den TPair→Bool} {k:ByteArray}:∀ {l:PairL},SortP l→getV (l.filter p) k=match getV l k with | some v=>(match l.find? (fun x=>seq x.1 k) with | some x=>bif p x then some v else none | none=>none) | none=>none
 | [],_=>rfl
 | x::l,h=>by
  unfold SortP KeysOk at h
  rw [List.map_cons,List.pairwise_cons] at h
  have ih:=getV_filter (p:=p) (k:=k) (l:=l) h.2
  rw [List.filter_cons,getV.eq_2 k x l,List.find?_cons]
  cases c:seq x.1 k with
  | false =>
   simp only [c_f]
   cases p x with
   | false=>rw [if_neg (by decide)];exact ih
   | true=>rw [if_pos rfl,getV.eq_2,c];exact ih
  | true =>
   have no:getV (l.filter p) k=none:=getV_no fun z hz w=>by
    have:=h.1 z.1 (List.mem_map.2 ⟨z,(List.mem_filter.1 hz).1,rfl⟩)
    rw [w,← seq_iff.1 c,sls_irrefl] at this
    cases this
   simp only [c_t]
   cases p x with
   | false=>rw [if_neg (by decide),no];rfl
   | true=>rw [if_pos rfl,getV.eq_2,c];rfl
theorem getV_find {k:ByteArray}:∀ {l:PairL} {v:ByteArray},getV l k=some v→∃ x,l.find? (fun x=>seq x.1 k)=some x∧x.1=k∧x.2.1=v
 | [],v,h=>by cases h
 | x::l,v,h=>by
  rw [getV.eq_2] at h
  rw [List.find?_cons]
  cases c:seq x.1 k with
  | true =>
   rw [c] at h
   exact ⟨x,rfl,seq_iff.1 c,Option.some.inj h⟩
  | false =>
   rw [c] at h
   exact getV_find h
theorem diff_fold {a b:PairL} (ha:SortP a) (hb:SortP b) (n:Int):(foldV a (diffV a b) n).map valP=b.map valP:=by
 refine same_vals (fold_sort _ _ ha) hb fun k=>?_
 have hS:SortP (b.filter fun x=>!(eqV (getV a x.1) x.2.1)):=List.Pairwise.sublist (List.Sublist.map _ List.filter_sublist) hb
 unfold diffV
 rw [fold_app]
 unfold setsV delsV
 rw [fold_sets n k _ _ hS,fold_dels n k,getV_filter hb,getV_filter ha]
 cases cb:getV b k with
 | some v =>
  obtain ⟨x,x1,x2,x3⟩:=getV_find cb
  simp only [x1]
  rw [x2,x3]
  cases ca:getV a k with
  | none=>rfl
  | some u =>
   obtain ⟨y,y1,y2,y3⟩:=getV_find ca
   simp only [y1]
   rw [y2,cb]
   by_cases q:u=v
   · rw [q,show eqV (some v) v=true from seq_refl v]
     rfl
   · rw [show eqV (some u) v=false from seqF q]
     rfl
 | none =>
  simp only []
  cases ca:getV a k with
  | none=>rfl
  | some u =>
   obtain ⟨y,y1,y2,y3⟩:=getV_find ca
   simp only [y1]
   rw [y2,cb]
   rfl
theorem getV_self:∀ {l:PairL},SortP l→∀ x ∈ l,getV l x.1=some x.2.1
 | [],_,x,h=>by cases h
 | y::l,hk,x,h=>by
  unfold SortP KeysOk at hk
  rw [List.map_cons,List.pairwise_cons] at hk
  rw [getV.eq_2]
  rcases List.mem_cons.1 h with w | w
  · rw [w,seq_refl]
    rfl
  · have hlt:=hk.1 x.1 (List.mem_map.2 ⟨x,w,rfl⟩)
    rw [seqF (fun q=>by rw [q,sls_irrefl] at hlt;cases hlt),c_f]
    exact getV_self hk.2 x w
theorem diff_self {b:PairL} (hb:SortP b):diffV b b=[]:=by
 unfold diffV delsV setsV
 rw [List.filter_eq_nil_iff.2 fun x hx=>by rw [getV_self hb x hx];exact Bool.false_ne_true,List.filter_eq_nil_iff.2 fun x hx=>by rw [getV_self hb x hx,show eqV (some x.2.1) x.2.1=true from seq_refl _];exact Bool.false_ne_true]
 rfl
end Go.Proofs.YtmakghhmpgfboaaGreatDoor.G
namespace Go.Proofs.YtmakghhmpgfboaaGreatDoor.G
open Go.V
theorem without_cons (x:Ty.den TPair) (l:PairL) (key:ByteArray):withoutV (x::l) key=bif seq x.1 key then withoutV l key else x::withoutV l key:=by
 unfold withoutV
 rw [List.filter_cons]
 cases seq x.1 key <;> rfl
theorem ins_cons (x:Ty.den TPair) (l:PairL) (p:Ty.den TPair):insV (x::l) p=bif leP p.1 x then x::insV l p else p::x::l:=by
 unfold insV
 rw [List.takeWhile_cons,List.dropWhile_cons]
 cases leP p.1 x <;> rfl
theorem specSetV_eq {k:Nat} (hk:2 ^ 50≤k) {l:PairL} (hl:l.length≤1048576) (p:Ty.den TPair) (del:Bool):spec_l13Set.f k l p del=some (setV l p del,()):=by
 unfold spec_l13Set.f spec_l13Set.t
 refine (forL0 (L:=fun n i (s:Bool × PairL)=>spec_l13Set.l0 k n l s.1 i p.1 p.2.1 p.2.2.1 s.2) (R:=fun r s=>some (s.2++(bif s.1 then withoutV r p.1 else insV (withoutV r p.1) (p.1,(p.2.1,(p.2.2.1,())))),())) (Ty.dflt TPair) l (fun i s=>(s.2.length:Int)≤2*i+1) (fun n s hs=>?_) (fun n i s x rest h0 h1 hx hr hp ih=>?_) (n:=k) (s:=(del,[])) (by omega) (by show ((0:Nat):Int)≤2*0+1;decide)).trans (by rw [List.nil_append];rfl)
 · obtain ⟨dn,out⟩:=s
   simp only [] at hs ⊢
   simp only [spec_l13Set.l0,spec_l13Set.b0]
   rw [decF (by omega),c_f,rm_ok (by omega) (by decide)]
   cases dn with
   | true=>rw [show withoutV [] p.1=[] from rfl,c_t,List.append_nil];rfl
   | false=>rfl
 · obtain ⟨dn,out⟩:=s
   simp only [] at hp ih ⊢
   have hz:(out++[((p.1,(p.2.1,(p.2.2.1,()))):Ty.den TPair)]).length=out.length+1:=len_snoc ..
   simp (disch:=first | omega | decide) only [spec_l13Set.l0,spec_l13Set.b0,decT h1,c_t,inb_eq,hx,rm_ok,w64_eq]
   have i1:=ih (dn,out) (by simp only [];omega)
   have i2:=ih (dn,out++[x]) (by simp only [];rw [l_a,List.length_singleton];omega)
   have i3:=ih (true,(out++[(p.1,(p.2.1,(p.2.2.1,())))])++[x]) (by simp only [];rw [l_a,l_a,List.length_singleton,List.length_singleton];omega)
   simp only [] at i1 i2 i3
   rw [without_cons]
   cases c1:seq x.1 p.1 with
   | true=>simp only [c_t];exact i1
   | false =>
    simp only [c_f]
    cases dn with
    | true =>
     simp only [n_t,c_f,c_t] at i2 ⊢
     rw [i2,a_a]
     rfl
    | false =>
     simp only [n_f,c_f,c_t] at i2 i3 ⊢
     rw [ins_cons]
     unfold leP
     rw [c1,Bool.or_false]
     cases sls x.1 p.1 with
     | true =>
      simp only [n_t,c_f,c_t]
      rw [i2,a_a]
      rfl
     | false =>
      simp only [n_f,c_f,c_t]
      rw [i3,a_a,a_a]
      rfl
theorem specFoldV_eq {k:Nat} (hk:2 ^ 50≤k) {l:PairL} (hl:l.length≤1000) {puts:PutL} (hp:puts.length≤1000) (b:Int):spec_Fold.f k l puts b=some (foldV l puts b,()):=by
 unfold spec_Fold.f spec_Fold.t
 rw [rm_ok (by omega) (by decide),List.nil_append]
 refine forL0 (L:=fun n i (s:PairL)=>spec_Fold.l0 k n puts b i s) (R:=fun r s=>some (foldV s r b,())) (Ty.dflt TPut) puts (fun i s=>(s.length:Int)≤1000+i) (fun n s hs=>?_) (fun n i s x rest h0 h1 hx hr hp' ih=>?_) (n:=k) (s:=l) (by omega) (by omega)
 · simp only [spec_Fold.l0,spec_Fold.b0]
   rw [decF (by omega),c_f]
   rfl
 · have hz:=setV_len s (x.1,(x.2.2.1,(b,()))) x.2.1
   simp only [spec_Fold.l0,spec_Fold.b0]
   rw [decT h1,c_t]
   repeat rw [inb_eq h0 h1]
   rw [hx,specSetV_eq hk (by omega),o_s,w64_eq (n:=i+1) (by omega) (by omega)]
   exact ih (setV s (x.1,(x.2.2.1,(b,()))) x.2.1) (by omega)
theorem implWithoutV_eq {k:Nat} (hk:2 ^ 50≤k) {l:PairL} (hl:l.length≤1048576) (key:ByteArray):impl_without.f k l key=some (withoutV l key,()):=by
 unfold impl_without.f impl_without.t
 refine (forL0 (L:=fun n i (s:PairL)=>impl_without.l0 k n key l l.length i s) (R:=fun r s=>some (s++withoutV r key,())) (Ty.dflt TPair) l (fun i s=>(s.length:Int)≤i) (fun n s hs=>?_) (fun n i s x rest h0 h1 hx hr hp ih=>?_) (n:=k) (s:=[]) (by omega) (by decide)).trans (by rw [List.nil_append])
 · simp only [impl_without.l0,impl_without.b0]
   rw [decF (by omega),c_f,show withoutV [] key=[] from rfl,List.append_nil]
 · simp only [impl_without.l0,impl_without.b0]
   rw [decT h1,c_t,inb_eq h0 h1,hx,w64_eq (n:=i+1) (by omega) (by omega),rm_ok (by omega) (by decide),without_cons]
   cases seq x.1 key with
   | true=>exact ih s (by omega)
   | false =>
    simp only [n_f,c_t,c_f]
    rw [ih (s++[x]) (by rw [l_a,List.length_singleton];omega),a_a]
    rfl
theorem implCopyP_eq (k:Nat) {l:PairL} (hl:l.length≤1048576):impl_copyPairs.f k l=some (l,()):=by
 unfold impl_copyPairs.f impl_copyPairs.t
 rw [rm_ok (by omega) (by decide)]
theorem insV_at {p:Ty.den TPair}:∀ {l:PairL} (i:Nat),i≤l.length→(∀ j,j<i→leP p.1 (l.getD j (Ty.dflt TPair))=true)→(i<l.length→leP p.1 (l.getD i (Ty.dflt TPair))=false)→insV l p=l.take i++p::l.drop i
 | [],i,hi,_,_=>by
  have:i=0:=by simpa using hi
  subst this
  rfl
 | x::l,0,hi,_,h2=>by
  have:=h2 (by simp)
  rw [ins_cons,show leP p.1 x=false from this]
  rfl
 | x::l,i+1,hi,h1,h2=>by
  have hx:=h1 0 (by omega)
  have:=insV_at (l:=l) i (by rw [l_c] at hi;omega) (fun j hj=>h1 (j+1) (by omega)) (fun h=>h2 (by rw [l_c];omega))
  rw [ins_cons,show leP p.1 x=true from hx,c_t,this]
  rfl
theorem implInsL {k:Nat} {L0:impl_Fold.T0} {l:PairL} {puts:PutL} {n i:Int} {key val:ByteArray} {del:Bool} {b:Int} (hl:l.length≤1000000) (hi:0≤i) (hi':i≤1000000) :
 ∀ (d j m:Nat),l.length-j=d→j≤l.length→d<m→(∀ q,q<j→leP key (l.getD q (Ty.dflt TPair))=true) →
 impl_Fold.l1 k L0 m b (j:Int) puts n i l key del val=L0 b puts n (i+1) (insV l (key,(val,(b,())))):=by
 have fin:∀ j:Nat,j≤l.length→(inc (j:Int) (l.length:Int) ((impl_copyPairs.f k (List.take (Int.toNat (j:Int)) l)).bind fun r3=>(rm (Ty.bytes TPair) (List.length r3.1+1) (inc (j:Int) (l.length:Int) (rm (Ty.bytes TPair) (List.length (r3.1++[(key,(val,(b,())))])+List.length (List.drop (Int.toNat (j:Int)) l)) (L0 b puts n (w64 (i+1)) ((r3.1++[(key,(val,(b,())))])++(List.drop (Int.toNat (j:Int)) l))))))):impl_Fold.Rs) =
  L0 b puts n (i+1) (l.take j++(key,(val,(b,())))::l.drop j):=fun j hj=>by
  have e1:(l.take j).length=j:=List.length_take_of_le hj
  have e2:(l.drop j).length=l.length-j:=List.length_drop
  rw [inc_eq (by omega) (by omega),Int.toNat_natCast,implCopyP_eq k (by omega),o_s]
  simp only []
  rw [rm_ok (by omega) (by decide),inc_eq (by omega) (by omega),rm_ok (by rw [l_a,List.length_singleton];omega) (by decide),w64_eq (n:=i+1) (by omega) (by omega),a_a]
  rfl
 intro d
 induction d with
 | zero =>
  intro j m hd hj hm hq
  obtain ⟨m,rfl⟩:∃ q,m=q+1:=⟨m-1,by omega⟩
  simp only [impl_Fold.l1,impl_Fold.b1]
  rw [decF (by omega),c_f,insV_at (p:=(key,(val,(b,())))) j hj hq (fun h=>by omega)]
  exact fin j hj
 | succ d ih =>
  intro j m hd hj hm hq
  obtain ⟨m,rfl⟩:∃ q,m=q+1:=⟨m-1,by omega⟩
  simp only [impl_Fold.l1,impl_Fold.b1]
  rw [decT (by omega),c_t,inb_eq (by omega) (by omega),Int.toNat_natCast]
  cases c:leP key (l.getD j (Ty.dflt TPair)) with
  | false =>
   rw [insV_at (p:=(key,(val,(b,())))) j hj hq (fun h=>c)]
   unfold leP at c
   rw [c,c_f]
   exact fin j hj
  | true =>
   have ih:=ih (j+1) m (by omega) (by omega) (by omega) (fun q h=>by
    rcases Nat.lt_or_ge q j with h3 | h3
    · exact hq q h3
    · rw [show q=j by omega];exact c)
   unfold leP at c
   rw [c,c_t,w64_eq (n:=(j:Int)+1) (by omega) (by omega)]
   exact ih
theorem implFoldV_eq {k:Nat} (hk:2 ^ 50≤k) {l:PairL} (hl:l.length≤1000) {puts:PutL} (hp:puts.length≤1000) (b:Int):impl_Fold.f k l puts b=some (foldV l puts b,()):=by
 unfold impl_Fold.f impl_Fold.t
 rw [implCopyP_eq k (by omega),o_s]
 refine forL0 (L:=fun n i (s:PairL)=>impl_Fold.l0 k n b puts puts.length i s) (R:=fun r s=>some (foldV s r b,())) (Ty.dflt TPut) puts (fun i s=>(s.length:Int)≤1000+i) (fun n s hs=>?_) (fun n i s x rest h0 h1 hx hr hp' ih=>?_) (n:=k) (s:=l) (by omega) (by omega)
 · simp only [impl_Fold.l0,impl_Fold.b0]
   rw [decF (by omega),c_f]
   rfl
 · have hz:=setV_len s (x.1,(x.2.2.1,(b,()))) x.2.1
   have hw:=withoutV_len s x.1
   have ih:=ih (setV s (x.1,(x.2.2.1,(b,()))) x.2.1) (by omega)
   simp only [impl_Fold.l0,impl_Fold.b0]
   rw [decT h1,c_t,inb_eq h0 h1,hx,implWithoutV_eq hk (by omega),o_s]
   simp only []
   show _=some (foldV (setV s (x.1,(x.2.2.1,(b,()))) x.2.1) rest b,())
   rw [← ih]
   unfold setV
   cases x.2.1 with
   | true=>rw [w64_eq (n:=i+1) (by omega) (by omega)];rfl
   | false=>exact implInsL (by omega) h0 (by omega) (withoutV s x.1).length 0 k (by omega) (by omega) (by omega) (fun q h=>by omega)
end Go.Proofs.YtmakghhmpgfboaaGreatDoor.G
namespace Go.Proofs.YtmakghhmpgfboaaGreatDoor.G
open Go.V
abbrev CurD:=Ty.den Tl1Cur
def CI (c:CurD):Prop:=(0:Int)≤c.2.1∧c.2.1≤(c.1.length:Int)∧c.1.length≤1048576
theorem and255 (y:Int):0≤w64 (((BitVec.ofInt (IntKind.bits .i64) y &&& BitVec.ofInt (IntKind.bits .i64) 255).toNat:Int))∧w64 (((BitVec.ofInt (IntKind.bits .i64) y &&& BitVec.ofInt (IntKind.bits .i64) 255).toNat:Int))≤255:=by
 have h:(BitVec.ofInt (IntKind.bits .i64) y &&& BitVec.ofInt (IntKind.bits .i64) 255).toNat≤255:=by
  rw [BitVec.toNat_and]
  exact Nat.le_trans Nat.and_le_right (by decide)
 rw [w64_eq (by omega) (by omega)]
 omega
theorem l1New_ok {k:Nat} (hk:2 ^ 50≤k) {l:List Int} (hl:l.length≤1048576):∃ c:CurD,spec_l1New.f k l=some ((),(c,()))∧CI c:=by
 unfold spec_l1New.f spec_l1New.t
 have key:∀ (d n:Nat) (i h:Int),(l.length:Int)-i=d→0≤i→d<n→∃ c:CurD,spec_l1New.l0 k n l h i=some ((),(c,()))∧CI c:=by
  intro d
  induction d with
  | zero =>
   intro n i h h1 h2 hn
   obtain ⟨n,rfl⟩:∃ q,n=q+1:=⟨n-1,by omega⟩
   simp only [spec_l1New.l0,spec_l1New.b0]
   rw [decF (show ¬ i<(l.length:Int) by omega),c_f]
   exact ⟨_,rfl,Int.le_refl _,by show (0:Int)≤(l.length:Int);omega,hl⟩
  | succ d ih =>
   intro n i h h1 h2 hn
   obtain ⟨n,rfl⟩:∃ q,n=q+1:=⟨n-1,by omega⟩
   simp only [spec_l1New.l0,spec_l1New.b0]
   rw [decT (show i<(l.length:Int) by omega),c_t]
   by_cases c:i<4000
   · rw [decT c,c_t,inb_eq h2 (by omega),w64_eq (n:=i+1) (by omega) (by omega)]
     exact ih n (i+1) _ (by omega) (by omega) (by omega)
   · rw [decF c,c_f]
     exact ⟨_,rfl,Int.le_refl _,by show (0:Int)≤(l.length:Int);omega,hl⟩
 exact key l.length k 0 _ (by omega) (by omega) (by omega)
theorem l1Byte_ok (k:Nat) {c:CurD} (h:CI c):∃ (c':CurD) (x:Int),spec_l1Byte.f k c=some (c',(x,()))∧CI c'∧0≤x∧x≤255:=by
 obtain ⟨b,i,hh,_⟩:=c
 change Int at i
 change Int at hh
 obtain ⟨h1,h2,h3⟩:=h
 have h1:0≤i:=h1
 have h2:i≤(b.length:Int):=h2
 have h3:b.length≤1048576:=h3
 unfold spec_l1Byte.f spec_l1Byte.t
 simp only []
 by_cases q:i<(b.length:Int)
 · rw [decT q,c_t,inb_eq h1 q,w64_eq (n:=i+1) (by omega) (by omega)]
   refine ⟨_,_,rfl,⟨by show (0:Int)≤i+1;omega,by show i+1≤(b.length:Int);omega,h3⟩,(and255 _).1,(and255 _).2⟩
 · rw [decF q,c_f]
   exact ⟨_,_,rfl,⟨h1,h2,h3⟩,(and255 _).1,(and255 _).2⟩
theorem l1Below_ok (k:Nat) {c:CurD} (h:CI c) {n:Int} (h0:0<n) (h1:n≤256):∃ (c':CurD) (x:Int),spec_l1Below.f k c n=some (c',(x,()))∧CI c'∧0≤x∧x<n:=by
 obtain ⟨c',x,e,hc,hx0,hx1⟩:=l1Byte_ok k h
 unfold spec_l1Below.f spec_l1Below.t
 rw [decF (show ¬ n≤0 by omega),c_f,decT h1,c_t,e,o_s]
 simp only []
 rw [decF (show ¬ n=0 by omega),c_f]
 have e2:Int.tmod x n=x % n:=Int.tmod_eq_emod_of_nonneg hx0
 refine ⟨_,_,rfl,hc,?_,?_⟩
 · rw [e2];exact Int.emod_nonneg _ (by omega)
 · rw [e2];exact Int.emod_lt_of_pos _ h0
theorem l1Once_ok (k:Nat) {c:CurD} (h:CI c) {n:Int} (h0:0<n) (h1:n≤256):∃ (c':CurD) (x:Bool),spec_l1Once.f k c n=some (c',(x,()))∧CI c':=by
 obtain ⟨c',x,e,hc,_,_⟩:=l1Below_ok k h h0 h1
 unfold spec_l1Once.f spec_l1Once.t
 rw [e,o_s]
 exact ⟨_,_,rfl,hc⟩
end Go.Proofs.YtmakghhmpgfboaaGreatDoor.G
namespace Go.Proofs.YtmakghhmpgfboaaGreatDoor.G
open Go.V
theorem l1New_t {k:Nat} (hk:2 ^ 50≤k) {l:List Int} (hl:l.length≤1048576):Tot (spec_l1New.f k l) (fun r=>CI r.2.1):=by
 obtain ⟨c,e,h⟩:=l1New_ok hk hl
 exact ⟨_,e,h⟩
theorem l1Byte_t (k:Nat) {c:CurD} (h:CI c):Tot (spec_l1Byte.f k c) (fun r=>CI r.1∧0≤r.2.1∧r.2.1≤255):=by
 obtain ⟨c',x,e,h1,h2,h3⟩:=l1Byte_ok k h
 exact ⟨_,e,h1,h2,h3⟩
theorem l1Below_t (k:Nat) {c:CurD} (h:CI c) {n:Int} (h0:0<n) (h1:n≤256):Tot (spec_l1Below.f k c n) (fun r=>CI r.1∧0≤r.2.1∧r.2.1<n):=by
 obtain ⟨c',x,e,q1,q2,q3⟩:=l1Below_ok k h h0 h1
 exact ⟨_,e,q1,q2,q3⟩
theorem l1Once_t (k:Nat) {c:CurD} (h:CI c) {n:Int} (h0:0<n) (h1:n≤256):Tot (spec_l1Once.f k c n) (fun r=>CI r.1):=by
 obtain ⟨c',x,e,q1⟩:=l1Once_ok k h h0 h1
 exact ⟨_,e,q1⟩
end Go.Proofs.YtmakghhmpgfboaaGreatDoor.G
namespace Go.Proofs.YtmakghhmpgfboaaGreatDoor.G
open Go.V
theorem l1Pick_t (k:Nat) {c:CurD} (h:CI c) {l:List ByteArray} (h0:0<l.length) (h1:l.length≤256):Tot (spec_l1Pick.f k c l) (fun r=>CI r.1∧r.2.1 ∈ l):=by
 unfold spec_l1Pick.f spec_l1Pick.t
 refine tot_bind (l1Below_t k h (by omega) (by omega)) fun r q=>?_
 refine tot_inb q.2.1 q.2.2 (tot_some ⟨q.1,getD_mem ?_⟩)
 have:=q.2.1
 have:=q.2.2
 omega
end Go.Proofs.YtmakghhmpgfboaaGreatDoor.G
namespace Go.Proofs.YtmakghhmpgfboaaGreatDoor.G
open Go.V
theorem l1PickInt_t (k:Nat) {c:CurD} (h:CI c) {l:List Int} (h0:0<l.length) (h1:l.length≤256):Tot (spec_l1PickInt.f k c l) (fun r=>CI r.1∧r.2.1 ∈ l):=by
 unfold spec_l1PickInt.f spec_l1PickInt.t
 refine tot_bind (l1Below_t k h (by omega) (by omega)) fun r q=>?_
 refine tot_inb q.2.1 q.2.2 (tot_some ⟨q.1,getD_mem ?_⟩)
 have:=q.2.1
 have:=q.2.2
 omega
end Go.Proofs.YtmakghhmpgfboaaGreatDoor.G
namespace Go.Proofs.YtmakghhmpgfboaaGreatDoor.G
open Go.V
theorem bytes_len (l:List Int):(bytesOf l).size=l.length:=by simp [bytesOf,ByteArray.size]
theorem l1TextL {k:Nat} (hk:2 ^ 50≤k) (st:Int) (m:Nat) (hm:m≤200):∀ (d n:Nat) (c:CurD) (out:List Int),d<n→CI c→out.length+d≤m→Tot (spec_l1Text.l0 k n st (d:Int) c.1 c.2.1 c.2.2.1 out) (fun r=>CI r.1∧r.2.1.size≤m):=by
 intro d
 induction d with
 | zero =>
  intro n c out hn hc ho
  obtain ⟨n,rfl⟩:∃ q,n=q+1:=⟨n-1,by omega⟩
  simp only [spec_l1Text.l0,spec_l1Text.b0]
  refine tot_no (decF (by omega)) (tot_some ⟨hc,?_⟩)
  show (bytesOf out).size≤m
  rw [bytes_len]
  omega
 | succ d ih =>
  intro n c out hn hc ho
  obtain ⟨n,rfl⟩:∃ q,n=q+1:=⟨n-1,by omega⟩
  have hw:w64 (((d+1:Nat):Int)-1)=(d:Int):=by rw [w64_eq (by omega) (by omega)];omega
  simp only [spec_l1Text.l0,spec_l1Text.b0,hw]
  refine tot_yes (decT (by omega)) ?_
  refine tot_bind (l1Byte_t k hc) fun r hr=>?_
  refine tot_bif (fun _=>tot_bif (fun _=>?_) (fun _=>?_)) (fun _=>tot_bif (fun _=>?_) (fun _=>?_))
  all_goals exact tot_rm (by omega) (by decide) (ih n r.1 _ (by omega) hr.1 (by rw [len_snoc];omega))
theorem l1Text_t {k:Nat} (hk:2 ^ 50≤k) {c:CurD} (h:CI c) {m:Int} (h0:0≤m) (h1:m≤200):Tot (spec_l1Text.f k c m) (fun r=>CI r.1∧(r.2.1.size:Int)≤m):=by
 unfold spec_l1Text.f spec_l1Text.t
 rw [w64_eq (n:=m+1) (by omega) (by omega)]
 refine tot_bind (l1Below_t k h (by omega) (by omega)) fun r1 q1=>?_
 refine tot_bind (l1Below_t k q1.1 (by omega) (by omega)) fun r2 q2=>?_
 obtain ⟨c2,a,b⟩:=q2
 have:=l1TextL hk r1.2.1 m.toNat (by omega) r2.2.1.toNat k r2.1 [] (by omega) c2 (by simp only [List.length_nil];omega)
 rw [show ((r2.2.1.toNat:Nat):Int)=r2.2.1 by omega] at this
 exact tot_mono this fun r hr=>⟨hr.1,by have:=hr.2;omega⟩
end Go.Proofs.YtmakghhmpgfboaaGreatDoor.G
namespace Go.Proofs.YtmakghhmpgfboaaGreatDoor.G
open Go.V
theorem l5Key_t (k:Nat) {c:CurD} (h:CI c):Tot (spec_l5Key.f k c) (fun r=>CI r.1):=by
 unfold spec_l5Key.f spec_l5Key.t
 exact tot_bind (l1Pick_t k h (by decide) (by decide)) fun r q=>tot_some q.1
theorem l12PutsL {k:Nat} (hk:2 ^ 50≤k):∀ (d n:Nat) (c:CurD) (out:PutL),d<n→CI c→out.length+d≤100→Tot (spec_l12Puts.l0 k n (d:Int) c.1 c.2.1 c.2.2.1 out) (fun r=>CI r.1∧r.2.1.length≤100):=by
 intro d
 induction d with
 | zero =>
  intro n c out hn hc ho
  obtain ⟨n,rfl⟩:∃ q,n=q+1:=⟨n-1,by omega⟩
  simp only [spec_l12Puts.l0,spec_l12Puts.b0]
  exact tot_no (decF (by omega)) (tot_some ⟨hc,by show out.length≤100;omega⟩)
 | succ d ih =>
  intro n c out hn hc ho
  obtain ⟨n,rfl⟩:∃ q,n=q+1:=⟨n-1,by omega⟩
  have hw:w64 (((d+1:Nat):Int)-1)=(d:Int):=by rw [w64_eq (by omega) (by omega)];omega
  simp only [spec_l12Puts.l0,spec_l12Puts.b0,hw]
  refine tot_yes (decT (by omega)) ?_
  refine tot_bind (l5Key_t k hc) fun r2 q2=>?_
  refine tot_bind (l1Text_t hk q2 (by omega) (by omega)) fun r3 q3=>?_
  refine tot_bind (l1Once_t k q3.1 (by omega) (by omega)) fun r4 q4=>?_
  refine tot_bif (fun _=>?_) (fun _=>?_)
  all_goals exact tot_rm (by omega) (by decide) (ih n r4.1 _ (by omega) q4 (by rw [len_snoc];omega))
theorem l12Puts_t {k:Nat} (hk:2 ^ 50≤k) {c:CurD} (h:CI c):Tot (spec_l12Puts.f k c) (fun r=>CI r.1∧r.2.1.length≤100):=by
 unfold spec_l12Puts.f spec_l12Puts.t
 refine tot_bind (l1Below_t k h (by omega) (by omega)) fun r q=>?_
 obtain ⟨hc,a,b⟩:=q
 have:=l12PutsL hk r.2.1.toNat k r.1 [] (by omega) hc (by simp only [List.length_nil];omega)
 rw [show ((r.2.1.toNat:Nat):Int)=r.2.1 by omega] at this
 exact this
end Go.Proofs.YtmakghhmpgfboaaGreatDoor.G
namespace Go.Proofs.YtmakghhmpgfboaaGreatDoor.G
open Go.V
def pairR:PairL→ByteArray→Ty.den TPair × Bool × Unit
 | [],_=>((ByteArray.empty,(ByteArray.empty,(0,()))),(false,()))
 | x::l,k=>bif seq x.1 k then (x,(true,())) else pairR l k
theorem pairR_get (k:ByteArray):∀ l:PairL,((pairR l k).2.1=false∧getV l k=none)∨((pairR l k).2.1=true∧getV l k=some (pairR l k).1.2.1)
 | [] => .inl ⟨rfl,rfl⟩
 | x::l=>by
  unfold pairR getV
  cases seq x.1 k with
  | true=>exact .inr ⟨rfl,rfl⟩
  | false=>exact pairR_get k l
theorem implPairAt_eq {k:Nat} (hk:2 ^ 50≤k) {l:PairL} (hl:l.length≤1048576) (key:ByteArray):impl_pairAt.f k l key=some (pairR l key):=by
 unfold impl_pairAt.f impl_pairAt.t
 refine forL0 (L:=fun n i (_:Unit)=>impl_pairAt.l0 k n key l l.length i ByteArray.empty ByteArray.empty 0) (R:=fun r _=>some (pairR r key)) (Ty.dflt TPair) l (fun _ _=>True) (fun n _ _=>?_) (fun n i _ x rest h0 h1 hx hr hp ih=>?_) (n:=k) (s:=()) (by omega) trivial
 · simp only [impl_pairAt.l0,impl_pairAt.b0]
   rw [decF (by omega),c_f]
   rfl
 · simp only [impl_pairAt.l0,impl_pairAt.b0]
   rw [decT h1,c_t,inb_eq h0 h1,hx,w64_eq (n:=i+1) (by omega) (by omega),pairR]
   cases seq x.1 key with
   | true=>rfl
   | false=>exact ih () trivial
theorem implDiffV_eq {k:Nat} (hk:2 ^ 50≤k) {a b:PairL} (ha:a.length≤1000) (hb:b.length≤1000):impl_Diff.f k a b=some (diffV a b,()):=by
 have inner:∀ s:PutL,(s.length:Int)≤1000→impl_Diff.l1 k k a b b.length 0 s=some (s++setsV a b,()):=fun s hs=>by
  refine forL0 (L:=fun n i (s:PutL)=>impl_Diff.l1 k n a b b.length i s) (R:=fun r s=>some (s++setsV a r,())) (Ty.dflt TPair) b (fun i s=>(s.length:Int)≤1000+i) (fun n s hs=>?_) (fun n i s x rest h0 h1 hx hr hp ih=>?_) (n:=k) (s:=s) (by omega) (by omega)
  · simp only [impl_Diff.l1,impl_Diff.b1]
    rw [decF (by omega),c_f,show setsV a []=[] from rfl,List.append_nil]
  · have i1:=ih s (by omega)
    have i2:=ih (s++[(x.1,(false,(x.2.1,())))]) (by rw [l_a,List.length_singleton];omega)
    simp only [impl_Diff.l1,impl_Diff.b1]
    rw [decT h1,c_t,inb_eq h0 h1,hx,implPairAt_eq hk (by omega),o_s,w64_eq (n:=i+1) (by omega) (by omega),rm_ok (by omega) (by decide),i1,i2]
    unfold setsV
    rw [List.filter_cons]
    rcases pairR_get x.1 a with ⟨g1,g2⟩ | ⟨g1,g2⟩
    · rw [g1,g2]
      simp only [n_f,c_t]
      rw [if_pos (show (!eqV none x.2.1)=true from rfl),List.map_cons,a_a]
      rfl
    · rw [g1,g2]
      simp only [n_t,c_f]
      by_cases q:(pairR a x.1).1.2.1=x.2.1
      · rw [q,show eqV (some x.2.1) x.2.1=true from seq_refl _,seq_refl,if_neg (by decide)]
        rfl
      · rw [show eqV (some (pairR a x.1).1.2.1) x.2.1=false from seqF q,seqF q,n_f,if_pos rfl,List.map_cons]
        simp only [c_t]
        rw [a_a]
        rfl
 unfold impl_Diff.f impl_Diff.t
 refine (forL0 (L:=fun n i (s:PutL)=>impl_Diff.l0 k n a b a a.length i s) (R:=fun r s=>some (s++delsV r b++setsV a b,())) (Ty.dflt TPair) a (fun i s=>(s.length:Int)≤i) (fun n s hs=>?_) (fun n i s x rest h0 h1 hx hr hp ih=>?_) (n:=k) (s:=[]) (by omega) (by decide)).trans (by rw [List.nil_append];rfl)
 · simp only [impl_Diff.l0,impl_Diff.b0]
   rw [decF (by omega),c_f,inner s (by omega),show delsV [] b=[] from rfl,List.append_nil]
 · have i1:=ih s (by omega)
   have i2:=ih (s++[(x.1,(true,(ByteArray.empty,())))]) (by rw [l_a,List.length_singleton];omega)
   simp only [impl_Diff.l0,impl_Diff.b0]
   rw [decT h1,c_t,inb_eq h0 h1,hx,implPairAt_eq hk (by omega),o_s,w64_eq (n:=i+1) (by omega) (by omega),rm_ok (by omega) (by decide),i1,i2]
   unfold delsV
   rw [List.filter_cons]
   rcases pairR_get x.1 b with ⟨g1,g2⟩ | ⟨g1,g2⟩
   · rw [g1,g2]
     simp only [n_f,c_t]
     rw [if_pos (show (none:Option ByteArray).isNone=true from rfl),List.map_cons,a_a s]
     rfl
   · rw [g1,g2]
     simp only [n_t,c_f]
     rw [if_neg (show ¬ (some (pairR b x.1).1.2.1).isNone=true from Bool.false_ne_true)]
theorem values_eq {k:Nat} (hk:2 ^ 50≤k) {l:PairL} (hl:l.length≤1048576):laws_values.f k l=some (l.map valP,()):=by
 unfold laws_values.f laws_values.t
 refine (forL0 (L:=fun n i (s:PairL)=>laws_values.l0 k n l i s) (R:=fun r s=>some (s++r.map valP,())) (Ty.dflt TPair) l (fun i s=>(s.length:Int)≤i) (fun n s hs=>?_) (fun n i s x rest h0 h1 hx hr hp ih=>?_) (n:=k) (s:=[]) (by omega) (by decide)).trans (by rw [List.nil_append])
 · simp only [laws_values.l0,laws_values.b0]
   rw [decF (by omega),c_f,List.map_nil,List.append_nil]
 · simp only [laws_values.l0,laws_values.b0]
   rw [decT h1,c_t]
   repeat rw [inb_eq h0 h1]
   rw [hx,w64_eq (n:=i+1) (by omega) (by omega),rm_ok (by omega) (by decide)]
   refine (ih (s++[valP x]) (by rw [l_a,List.length_singleton];omega)).trans ?_
   rw [List.map_cons,a_a]
   rfl
theorem samePairs_self {k:Nat} (hk:2 ^ 50≤k) {l:PairL} (hl:l.length≤1048576):spec_SamePairs.f k l l=some (true,()):=by
 unfold spec_SamePairs.f spec_SamePairs.t
 rw [bne_self_eq_false,c_f]
 refine forL0 (L:=fun n i (_:Unit)=>spec_SamePairs.l0 k n l l i) (R:=fun r _=>some (true,())) (Ty.dflt TPair) l (fun _ _=>True) (fun n _ _=>?_) (fun n i _ x rest h0 h1 hx hr hp ih=>?_) (n:=k) (s:=()) (by omega) trivial
 · simp only [spec_SamePairs.l0,spec_SamePairs.b0]
   rw [decF (by omega),c_f]
 · simp only [spec_SamePairs.l0,spec_SamePairs.b0]
   rw [decT h1,c_t]
   repeat rw [inb_eq h0 h1]
   rw [hx,w64_eq (n:=i+1) (by omega) (by omega),seq_refl,seq_refl,beq_self_eq_true]
   exact ih () trivial
theorem l13PairsL {k:Nat} (hk:2 ^ 50≤k):∀ (d n:Nat) (c:CurD) (out:PairL),d<n→CI c→SortP out→out.length+d≤100→Tot (spec_l13Pairs.l0 k n (d:Int) c.1 c.2.1 c.2.2.1 out) (fun r=>CI r.1∧SortP r.2.1∧r.2.1.length≤100):=by
 intro d
 induction d with
 | zero =>
  intro n c out hn hc hs ho
  obtain ⟨n,rfl⟩:∃ q,n=q+1:=⟨n-1,by omega⟩
  simp only [spec_l13Pairs.l0,spec_l13Pairs.b0]
  exact tot_no (decF (by omega)) (tot_some ⟨hc,hs,by show out.length≤100;omega⟩)
 | succ d ih =>
  intro n c out hn hc hs ho
  obtain ⟨n,rfl⟩:∃ q,n=q+1:=⟨n-1,by omega⟩
  have hw:w64 (((d+1:Nat):Int)-1)=(d:Int):=by rw [w64_eq (by omega) (by omega)];omega
  simp only [spec_l13Pairs.l0,spec_l13Pairs.b0,hw]
  refine tot_yes (decT (by omega)) ?_
  refine tot_bind (l5Key_t k hc) fun r2 q2=>?_
  refine tot_bind (l1Text_t hk q2 (by omega) (by omega)) fun r3 q3=>?_
  refine tot_bind (l1Below_t k q3.1 (by omega) (by omega)) fun r4 q4=>?_
  have hz:=setV_len out (r2.2.1,(r3.2.1,((w64 (1+r4.2.1)),()))) false
  refine tot_bindE (specSetV_eq hk (by omega) _ _) ?_
  exact ih n r4.1 (setV out (r2.2.1,(r3.2.1,((w64 (1+r4.2.1)),()))) false) (by omega) q4.1 (set_sort hs _ _) (by omega)
theorem l13Pairs_t {k:Nat} (hk:2 ^ 50≤k) {c:CurD} (h:CI c):Tot (spec_l13Pairs.f k c) (fun r=>CI r.1∧SortP r.2.1∧r.2.1.length≤100):=by
 unfold spec_l13Pairs.f spec_l13Pairs.t
 refine tot_bind (l1Below_t k h (by omega) (by omega)) fun r q=>?_
 obtain ⟨hc,a,b⟩:=q
 have:=l13PairsL hk r.2.1.toNat k r.1 [] (by omega) hc List.Pairwise.nil (by simp only [List.length_nil];omega)
 rw [show ((r.2.1.toNat:Nat):Int)=r.2.1 by omega] at this
 exact this
theorem l24AnyL {k:Nat} (hk:2 ^ 50≤k):∀ (d n:Nat) (i:Int) (c:CurD) (out:PairL),0≤i→i+(d:Int)=40→d<n→CI c→(out.length:Int)≤100+i→Tot (spec_l24Any.l0 k n i c.1 c.2.1 c.2.2.1 out) (fun r=>CI r.1∧r.2.1.length≤1000):=by
 intro d
 induction d with
 | zero =>
  intro n i c out h0 h1 hn hc ho
  obtain ⟨n,rfl⟩:∃ q,n=q+1:=⟨n-1,by omega⟩
  simp only [spec_l24Any.l0,spec_l24Any.b0]
  refine tot_bind (l1Below_t k hc (by omega) (by omega)) fun r q=>?_
  refine tot_bif (fun _=>tot_no (decF (by omega)) (tot_some ⟨q.1,?_⟩)) (fun _=>tot_some ⟨q.1,?_⟩)
  all_goals (show out.length≤1000;omega)
 | succ d ih =>
  intro n i c out h0 h1 hn hc ho
  obtain ⟨n,rfl⟩:∃ q,n=q+1:=⟨n-1,by omega⟩
  simp only [spec_l24Any.l0,spec_l24Any.b0]
  refine tot_bind (l1Below_t k hc (by omega) (by omega)) fun r q=>?_
  refine tot_bif (fun _=>tot_yes (decT (by omega)) ?_) (fun _=>tot_some ⟨q.1,by show out.length≤1000;omega⟩)
  have hz:=decB_small (n:=100+i) (by omega) (by omega)
  have hy:(⟨#[122]⟩:ByteArray).size=1:=rfl
  rw [w64_eq (n:=100+i) (by omega) (by omega),w64_eq (n:=i+1) (by omega) (by omega)]
  refine tot_bindE (specDec_eq hk (by omega) (by omega)) ?_
  simp only []
  refine tot_cat (by omega) (tot_rm (by omega) (by decide) ?_)
  exact ih n (i+1) r.1 _ (by omega) (by omega) (by omega) q.1 (by rw [len_snoc];omega)
theorem l24Any_t {k:Nat} (hk:2 ^ 50≤k) {c:CurD} (h:CI c):Tot (spec_l24Any.f k c) (fun r=>CI r.1∧r.2.1.length≤1000):=by
 unfold spec_l24Any.f spec_l24Any.t
 refine tot_bind (l13Pairs_t hk h) fun r1 q1=>?_
 obtain ⟨hc1,_,hl⟩:=q1
 refine tot_bind (l1Below_t k hc1 (by omega) (by omega)) fun r2 q2=>?_
 refine tot_bif (fun _=>?_) (fun _=>tot_bif (fun _=>?_) (fun _=>tot_bif (fun _=>tot_bif (fun hb=>?_) (fun _=>?_)) (fun _=>?_)))
 · refine tot_bind (l1Pick_t k q2.1 (by decide) (by decide)) fun r3 q3=>tot_rm (by omega) (by decide) (tot_some ⟨q3.1,?_⟩)
   show (_++[_]).length≤1000
   rw [len_snoc]
   omega
 · exact l24AnyL hk 40 k 0 r2.1 r1.2.1 (by omega) (by omega) (by omega) q2.1 (by omega)
 · have hb:=of_decide_eq_true hb
   refine tot_bind (l1PickInt_t k q2.1 (by decide) (by decide)) fun r3 q3=>tot_inb (by omega) (by omega) (tot_some ⟨q3.1,?_⟩)
   show (List.set _ _ _).length≤1000
   rw [List.length_set]
   omega
 · exact tot_some ⟨q2.1,by show r1.2.1.length≤1000;omega⟩
 · exact tot_some ⟨q2.1,by show r1.2.1.length≤1000;omega⟩
theorem drawShowPairs_t {k:Nat} (hk:2 ^ 50≤k) {code:List Int} (hl:code.length≤1048576):Tot (spec_DrawShowPairs.f k code) (fun r=>r.1.length≤1000):=by
 unfold spec_DrawShowPairs.f spec_DrawShowPairs.t
 refine tot_bind (l1New_t hk hl) fun r1 q1=>?_
 exact tot_bind (l24Any_t hk q1) fun r2 q2=>tot_some q2.2
theorem foldV_len (b:Int):∀ (puts:PutL) (l:PairL),(foldV l puts b).length≤l.length+puts.length
 | [],l=>Nat.le_refl _
 | q::puts,l=>by
  have:=foldV_len b puts (setV l (q.1,(q.2.2.1,(b,()))) q.2.1)
  have h2:=setV_len l (q.1,(q.2.2.1,(b,()))) q.2.1
  show (foldV (setV l (q.1,(q.2.2.1,(b,()))) q.2.1) puts b).length≤_
  rw [l_c]
  omega
theorem drawDiff_t {k:Nat} (hk:2 ^ 50≤k) {code:List Int} (hl:code.length≤1048576):Tot (spec_DrawDiff.f k code) (fun r=>(SortP r.1∧r.1.length≤100)∧SortP r.2.1∧r.2.1.length≤200):=by
 unfold spec_DrawDiff.f spec_DrawDiff.t
 refine tot_bind (l1New_t hk hl) fun r1 q1=>?_
 refine tot_bind (l13Pairs_t hk q1) fun r2 q2=>?_
 obtain ⟨c2,s2,z2⟩:=q2
 refine tot_bind (l1Once_t k c2 (by omega) (by omega)) fun r3 q3=>tot_bif (fun _=>?_) (fun _=>?_)
 · refine tot_bind (l12Puts_t hk q3) fun r4 q4=>?_
   have hz:=foldV_len 30 r4.2.1 r2.2.1
   have h4:=q4.2
   refine tot_bindE (specFoldV_eq hk (by omega) (puts:=r4.2.1) (by omega) _) (tot_some ⟨⟨s2,z2⟩,fold_sort _ _ s2,?_⟩)
   show (foldV r2.2.1 r4.2.1 30).length≤200
   omega
 · refine tot_bind (l13Pairs_t hk q3) fun r6 q6=>tot_some ⟨⟨s2,z2⟩,q6.2.1,?_⟩
   have:=q6.2.2
   show r6.2.1.length≤200
   omega
theorem showPairs_inj {l m:PairL} (hl:pairsOk l=true) (hm:pairsOk m=true) (h:showPairsM l=showPairsM m):l=m:=by
 have e1:(scanM (showPairsM l)).1.dropLast.map spotPair=l:=by rw [List.map_dropLast,(spots_keeps hl).1,List.dropLast_concat]
 have e2:(scanM (showPairsM m)).1.dropLast.map spotPair=m:=by rw [List.map_dropLast,(spots_keeps hm).1,List.dropLast_concat]
 rw [← e1,h,e2]
theorem readPairs_show {l:PairL} (h:pairsOk l=true):readPairsM (showPairsM l)=(l,true):=undo_eq (fun _ _ ha hb e=>showPairs_inj ha hb e) h
theorem readPairs_empty:(readPairsM ⟨#[]⟩).2=false:=by
 unfold readPairsM
 rcases undo_cases (fun l=>pairsOk l=true) showPairsM [] ⟨#[]⟩ with ⟨l,h1,h2,_⟩ | e
 · exact absurd h2 (showPairs_ne h1)
 · rw [e]
theorem showPairs_size (l:PairL):(showPairsM l).size≤10000:=by
 unfold showPairsM
 split
 · rename_i h
   have h1:=framesM_size (keepsM l 0)
   have h2:=pairsOk_len h
   have h3:(keepsM l 0).length=l.length+1:=by unfold keepsM;rw [len_snoc,List.length_map]
   omega
 · exact Nat.zero_le _
theorem diff_end {k:Nat} (hk:2 ^ 50≤k) {code:List Int} (hl:code.length≤1048576) :
 Tot ((spec_DrawDiff.f k code).bind fun r19=>((impl_Diff.f k r19.1 r19.2.1).bind fun r20=>((impl_Fold.f k r19.1 r20.1 99).bind fun r21=>((laws_values.f k r21.1).bind fun r22=>((laws_values.f k r19.2.1).bind fun r23=>((spec_SamePairs.f k r22.1 r23.1).bind fun r24 =>
  (bif r24.1 then ((impl_Diff.f k r19.2.1 r19.2.1).bind fun r25=>(some (((List.length r25.1:Int)==0),()))) else (some (false,()))))))))) (fun x:Bool × Unit=>x=(true,())):=by
 refine tot_bind (drawDiff_t hk hl) fun r q=>?_
 obtain ⟨⟨s1,z1⟩,s2,z2⟩:=q
 have hd:(diffV r.1 r.2.1).length≤300:=by
  unfold diffV delsV setsV
  rw [l_a,List.length_map,List.length_map]
  have h1:=List.length_filter_le (fun x:Ty.den TPair=>(getV r.2.1 x.1).isNone) r.1
  have h2:=List.length_filter_le (fun x:Ty.den TPair=>!(eqV (getV r.1 x.1) x.2.1)) r.2.1
  omega
 have hf:=foldV_len 99 (diffV r.1 r.2.1) r.1
 refine tot_bindE (implDiffV_eq hk (by omega) (by omega)) ?_
 refine tot_bindE (implFoldV_eq hk (puts:=diffV r.1 r.2.1) (by omega) (by omega) _) ?_
 refine tot_bindE (values_eq hk (l:=foldV r.1 (diffV r.1 r.2.1) 99) (by omega)) ?_
 refine tot_bindE (values_eq hk (by omega)) ?_
 simp only []
 rw [diff_fold s1 s2]
 refine tot_bindE (samePairs_self hk (by rw [List.length_map];omega)) ?_
 simp only [c_t]
 refine tot_bindE (implDiffV_eq hk (by omega) (by omega)) ?_
 rw [diff_self s2]
 exact tot_some rfl
theorem backups_all {k:Nat} (hk:2 ^ 50≤k) (code:List Int):laws_FnBackups.f k code=some (true,()):=by
 refine tot_eq ?_
 unfold laws_FnBackups.f laws_FnBackups.t
 have hbig:laws_big.f k code=some (decide ((code.length:Int) > 1048576),()):=rfl
 refine tot_bindE hbig ?_
 refine tot_bif (fun _=>tot_some rfl) fun hb=>?_
 have hl:code.length≤1048576:=by have:=of_decide_eq_false hb;omega
 refine tot_bind (drawShowPairs_t hk hl) fun r2 q2=>?_
 refine tot_bindE (implShowPairs_eq hk (by omega)) ?_
 have hsz:=showPairs_size r2.1
 refine tot_bindE (implReadPairs_eq hk (by simp only [];omega)) ?_
 refine tot_bindE (specPairsOk_eq hk _) ?_
 simp only []
 cases c:pairsOk r2.1 with
 | true =>
  have ne:seq (showPairsM r2.1) ⟨#[]⟩=false:=seqF (showPairs_ne c)
  have h20:=pairsOk_len c
  obtain ⟨v1,v2,v3⟩:=restore_vals c
  simp only [readPairs_show c,ne,n_f,beq_self_eq_true,n_t,c_f,c_t]
  refine tot_bindE (samePairs_self hk (by omega)) ?_
  simp only [n_t,c_f]
  refine tot_bindE (implRestore_eq hk 100000 (by omega)) ?_
  have rr:RR (restoreM 100000 r2.1):=by
   unfold restoreM
   rw [c]
   exact rest_keep 3 r2.1 _ (open_new (by omega) (by omega))
  have rz:=rr.disk.sz
  have rd:=rr.dir
  refine tot_bindE (implDump_eq hk (st:=(restoreM 100000 r2.1).1) (d:=(restoreM 100000 r2.1).2.1) rz (by omega)) ?_
  have dl:=dumpM_len (restoreM 100000 r2.1).1.2.1 (restoreM 100000 r2.1).2.1
  have dl2:(dumpM (restoreM 100000 r2.1).1.2.1 (restoreM 100000 r2.1).2.1).1.length=r2.1.length:=by
   have:=congrArg List.length v3
   rw [List.length_map,List.length_map] at this
   exact this
  refine tot_no (by show ((restoreM 100000 r2.1).2.2 != 0)=false;rw [v1];rfl) (tot_no (by show ((dumpM (restoreM 100000 r2.1).1.2.1 (restoreM 100000 r2.1).2.1).2 != 0)=false;rw [v2];rfl) ?_)
  refine tot_bindE (values_eq hk (l:=(dumpM (restoreM 100000 r2.1).1.2.1 (restoreM 100000 r2.1).2.1).1) (by omega)) ?_
  refine tot_bindE (values_eq hk (by omega)) ?_
  simp only []
  rw [v3]
  refine tot_bindE (samePairs_self hk (by rw [List.length_map];omega)) ?_
  simp only [n_t,c_f]
  exact diff_end hk hl
 | false =>
  have e:showPairsM r2.1=⟨#[]⟩:=by unfold showPairsM;rw [c];rfl
  simp only [e,readPairs_empty,seq_refl,n_t,beq_self_eq_true,c_f]
  exact diff_end hk hl
theorem fnBackups_pure:∀ x,Wf (tup [.slice (.int .u8)]) x→∃ k r,laws_FnBackups.f k x.1=some r∧sndT (B:=[.bool]) (outT ([.val (.slice (.int .u8))])) r=(true,()):=by
 rintro ⟨a0,_⟩ ⟨f0,_⟩
 suffices Ev (fun k=>laws_FnBackups.f k a0) (true,()) by
  obtain ⟨k,h⟩:=this.some
  exact ⟨k,(true,()),h,rfl⟩
 exact ev_big fun k hk=>backups_all hk a0
end Go.Proofs.YtmakghhmpgfboaaGreatDoor.G

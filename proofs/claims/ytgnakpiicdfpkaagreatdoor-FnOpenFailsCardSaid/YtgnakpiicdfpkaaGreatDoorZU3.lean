/- Plain laws, merged; what is proved here is told ahead of each part. -/
import Derived.Test.YtgnakpiicdfpkaaGreatDoorZU2
set_option linter.unusedVariables false
set_option linter.unusedSimpArgs false
namespace Go.Proofs.YtgnakpiicdfpkaaGreatDoor.G
open Go.V
noncomputable def uu (d:Ty.d a_):Int→List Int→Int
 | e,[]=>e
 | _,x::l=>uu d (aw (dh d x)).2 l
theorem yD (d:Ty.d a_):∀ (l:List Int) (e:Int),l≠[]→uu d e l=(aw (dh d (l.getD (l.length-1) 0))).2
 | [],e,h=>absurd rfl h
 | [x],e,_=>rfl
 | x::y::l,e,_=>by
  show uu d (aw (dh d x)).2 (y::l)=_
  rw [yD d (y::l) _ (by simp)]
  rfl
def uO:List bB→bB
 | []=>[]
 | a::l=>a++uO l
theorem sB (d:Ty.d a_):∀ l:List Int,uO (l.map (mS d))=jx d l
 | []=>rfl
 | x::l=>by show mS d x++uO (l.map (mS d))=mS d x++jx d l;rw [sB d l]
theorem oQ {d x:Ty.d a_} (h:∀ s,aw (ae x s).1=aw (ae d s).1):∀ l:List Int,jx x l=jx d l
 | []=>rfl
 | y::l=>by
  unfold jx mS dh
  rw [h,oQ h l]
theorem ra {k:Nat} (hk:2 ^ 50≤k) (r:RD) (h:DR r.1) {v:Ty.d ay} (hv:v.2.1.length≤60):bN.f k (wO r) v =
 some (wO r,(bif eL r.1 v.2.1 then (v.2.1.map (mS r.1),(uu r.1 0 v.2.1,(true,()))) else ([],(0,(false,()))))):=by
 have hl:=h.sz.l
 have hu:=h.sz.u
 have hn:=h.sz.n
 unfold bN.f bN.t
 refine (eV (L:=fun n i (s:Int × List bB)=>bN.l0 k n s.1 v.2.1 v.2.1.length i r.1.1 r.1.2.1 r.1.2.2.1 r.1.2.2.2.1 r.2 v.1 v.2.1 s.2) (R:=fun q s=>some (wO r,(bif eL r.1 q then (s.2++q.map (mS r.1),(uu r.1 s.1 q,(true,()))) else ([],(0,(false,())))))) (Ty.z (.int .i64)) v.2.1 (fun i s=>(s.2.length:Int)≤i) (fun n s hs=>?_) (fun n i s y rest h0 h1 hy hr hs ih=>?_) (n:=k) (s:=(0,[])) (by omega) (by simp)).trans (by rw [List.nil_append])
 · simp only [bN.l0,bN.b0]
   rw [aP (by omega),aK,show eL r.1 []=true from rfl,List.map_nil,List.append_nil]
   rfl
 · have hsy:=lx h y
   have hsc:=gz (dh r.1 y)
   have hlast:=Cr h0 hr
   have ih:=ih ((aw (dh r.1 y)).2,s.2++[mS r.1 y]) (by simp only [bK];omega)
   simp only [] at ih hs
   simp only [bN.l0,bN.b0]
   rw [aO h1,aY,aH h0 h1,hy,kv k,aQ]
   simp only []
   rw [show (r.1.1,(r.1.2.1,(r.1.2.2.1,(r.1.2.2.2.1,()))))=r.1 from rfl,ly hk (by omega) (by omega) (by omega),aQ]
   simp only [show (ae r.1 (aC aL y)).1=dh r.1 y from rfl]
   rw [vp hk (by omega),aQ]
   simp only []
   rw [sn hk y (by omega),aQ]
   simp only []
   rw [bO (by omega) (by decide),aE (n:=i+1) (by omega) (by omega),aE (n:=(v.2.1.length:Int)-1) (by omega) (by omega)]
   rw [show gj y (aw (dh r.1 y)).1=mS r.1 y from rfl,ih]
   rw [show eL r.1 (y::rest)=(na r.1 y rest.isEmpty&&eL r.1 rest) from rfl]
   unfold na
   rw [hlast]
   have e1:((aw (dh r.1 y)).2 != ((dh r.1 y).size:Int))=decide ((aw (dh r.1 y)).2<((dh r.1 y).size:Int)):=by
    by_cases q:(aw (dh r.1 y)).2<((dh r.1 y).size:Int)
    · rw [aO q];exact bne_iff_ne.2 (by omega)
    · rw [aP q]
      have:(aw (dh r.1 y)).2=((dh r.1 y).size:Int):=by omega
      rw [this]
      simp
   rw [e1]
   have e2:decide (i<(v.2.1.length:Int)-1)=!decide (i+1=(v.2.1.length:Int)):=by
    by_cases q:i+1=(v.2.1.length:Int)
    · rw [aO q,aP (by omega)];rfl
    · rw [aP q,aO (by omega)];rfl
   rw [e2]
   have e3:s.2++[mS r.1 y]++rest.map (mS r.1)=s.2++(y::rest).map (mS r.1):=by rw [s7];rfl
   rw [e3]
   cases (ae r.1 (aC aL y)).2 with
   | false=>rfl
   | true =>
    cases decide (i+1=(v.2.1.length:Int)) with
    | true=>rfl
    | false=>cases decide ((aw (dh r.1 y)).2<((dh r.1 y).size:Int)) <;> rfl
theorem zh {k:Nat} (hk:2 ^ 50≤k) (r:RD) (h:DR r.1) (id:Int):ck.f k (wO r) id =
 some (wO r,((bif km r.1 id then ((lT r.1 id).2.2.1,((lT r.1 id).2.1,(0,()))) else ([],(0,(0,())))),(km r.1 id,()))):=by
 have hl:=h.sz.l
 have hu:=h.sz.u
 have hn:=h.sz.n
 have ht:=iS r.1 (aC bp id)
 have hs:=lx h id
 unfold ck.f ck.t km lT
 rw [wq,aQ]
 simp only [show (wO r).1=r.1 from rfl]
 rw [ly hk (by omega) (by omega) (by omega),aQ]
 simp only []
 rw [wS hk (by omega),aQ,kv,aQ]
 simp only []
 rw [ly hk (by omega) (by omega) (by omega),aQ]
 simp only [show (ae r.1 (aC aL id)).1=dh r.1 id from rfl]
 rw [wu hk _ (by omega),aQ]
 simp only []
 cases (ae r.1 (aC bp id)).2 with
 | false=>rfl
 | true =>
  cases (fq (ae r.1 (aC bp id)).1).2 with
  | false=>rfl
  | true=>cases lu id (dh r.1 id) (fq (ae r.1 (aC bp id)).1).1 <;> rfl
def HP (k:Nat) (v:Ty.d ay) (en:Int) (x:Ty.d a_) (hi:Int) (dir:ab) (la:Int) (pl:bB):Option (Ty.d bA × Ty.d aG × Unit) :=
 (Option.bind (dN.f k (dir,(la,(0,()))) pl) fun r9=>(bif (r9.1.2.2.1 != 0) then (some ((x,(3,())),(iV,()))) else
 (Option.bind (af.f k (x,(0,())) v) fun r10=>(some (r10.1,((v,(r9.1.1,((aF (r9.1.2.1+1)),(en,(hi,()))))),()))))))
def MP (q:Ty.d aG × RD) (o:Option (Ty.d bA × Ty.d aG × Unit)):Prop:=∃ st,o=some (wO q.2,(st,()))∧(q.2.2=0→st=q.1)∧(q.2.2≠0→q.1=iV)
theorem uw {c:Int} (h:(c==0)=false):fj c≠0:=fun q=>by
 have:=j7 c
 rw [q,h] at this
 cases this
theorem GW {k:Nat} (hk:2 ^ 50≤k) {v:Ty.d ay} (hv:v.2.1.length≤60) (en:Int) {x:Ty.d a_} (h:DR x) (hi:Int) {dir:ab} (hd:dir.length≤1000) (la:Int) {pl:bB} (hp:pl.length≤100000000) :
 MP (sd v en x (kq (dir,(la,(0,()))) pl) hi) (HP k v en x hi dir la pl):=by
 unfold HP sd
 rw [zR hk _ (by omega) (by show dir.length≤_;omega),aQ]
 simp only [bne]
 cases (kq (dir,(la,(0,()))) pl).2.2.1==0 with
 | false=>exact ⟨iV,rfl,fun q=>(by cases q),fun _=>rfl⟩
 | true =>
  simp only [ff,aK]
  rw [show af.f k (x,(0,())) v=_ from xj hk (x,0) h (by omega),aQ]
  cases c:(iO v.2.1 x).2==0 with
  | true =>
   refine ⟨Fz v en (kq (dir,(la,(0,()))) pl) hi,?_,fun _=>rfl,fun q=>absurd rfl q⟩
   show some (wO (wk (iO v.2.1) (x,0)),_)=some (wO ((iO v.2.1 x).1,0),_)
   unfold wk
   simp only [beq_self_eq_true,aY]
   rw [Gj c]
   rfl
  | false=>exact ⟨_,rfl,fun q=>absurd q (uw c),fun _=>rfl⟩
theorem Lq {k:Nat} (hk:2 ^ 50≤k) {v:Ty.d ay} (en:Int) (x:Ty.d a_) (hi:Int) (dir:ab) (la:Int) {al:List bB} (hal:∀ a ∈ al,a.length≤100000) (hz:al.length≤60) :
 aR.l0 k k al al.length 0 x.1 x.2.1 x.2.2.1 x.2.2.2.1 0 [] [] 0 0 0 0 v.2.1 v.1 [] v.1 0 en hi dir la 0 []=HP k v en x hi dir la (uO al):=by
 refine (eV (L:=fun n i pl=>aR.l0 k n al al.length i x.1 x.2.1 x.2.2.1 x.2.2.2.1 0 [] [] 0 0 0 0 v.2.1 v.1 [] v.1 0 en hi dir la 0 pl) (R:=fun r pl=>HP k v en x hi dir la (pl++uO r)) (Ty.z (.slice aD)) al (fun i pl=>(pl.length:Int)≤100000*i) (fun n pl hp=>?_) (fun n i pl y rest h0 h1 hy hr hp ih=>?_) (n:=k) (s:=[]) (by omega) (by simp)).trans (by rw [List.nil_append])
 · simp only [aR.l0,aR.b0]
   rw [aP (by omega),aK,show uO []=[] from rfl,List.append_nil]
   rfl
 · have hy2:y.length≤100000:=hal y (by rw [← hy];exact dx (by omega))
   have ih:=ih (pl++y) (by rw [xF];omega)
   simp only [aR.l0,aR.b0]
   rw [aO h1,aY,aH h0 h1,hy,bO (by omega) (by decide),aE (n:=i+1) (by omega) (by omega)]
   refine ih.trans ?_
   rw [s7]
   rfl
theorem L9 {k:Nat} (hk:2 ^ 50≤k) {v:Ty.d ay} (en:Int) (x:Ty.d a_) (hi:Int) (dir:ab) (la:Int) {al:List bB} (hal:∀ a ∈ al,a.length≤100000) (hz:al.length≤60) :
 aR.l1 k k al.length 0 x.1 x.2.1 x.2.2.1 x.2.2.2.1 0 [] [] 0 0 0 0 v.2.1 v.1 [] v.1 0 en hi dir la 0 [] al=HP k v en x hi dir la (uO al):=by
 refine (eV (L:=fun n i pl=>aR.l1 k n al.length i x.1 x.2.1 x.2.2.1 x.2.2.2.1 0 [] [] 0 0 0 0 v.2.1 v.1 [] v.1 0 en hi dir la 0 pl al) (R:=fun r pl=>HP k v en x hi dir la (pl++uO r)) (Ty.z (.slice aD)) al (fun i pl=>(pl.length:Int)≤100000*i) (fun n pl hp=>?_) (fun n i pl y rest h0 h1 hy hr hp ih=>?_) (n:=k) (s:=[]) (by omega) (by simp)).trans (by rw [List.nil_append])
 · simp only [aR.l1,aR.b1]
   rw [aP (by omega),aK,show uO []=[] from rfl,List.append_nil]
   rfl
 · have hy2:y.length≤100000:=hal y (by rw [← hy];exact dx (by omega))
   have ih:=ih (pl++y) (by rw [xF];omega)
   simp only [aR.l1,aR.b1]
   rw [aO h1,aY,aH h0 h1,hy,bO (by omega) (by decide),aE (n:=i+1) (by omega) (by omega)]
   refine ih.trans ?_
   rw [s7]
   rfl
theorem Ft (k:Nat):∀ n,aR.l2 k n=aR.l0 k n
 | 0=>rfl
 | n+1=>by show aR.b2 k (aR.l2 k n)=aR.b0 k (aR.l0 k n);rw [Ft k n];rfl
theorem GV (k:Nat):∀ n,aR.l3 k n=aR.l1 k n
 | 0=>rfl
 | n+1=>by show aR.b3 k (aR.l3 k n)=aR.b1 k (aR.l1 k n);rw [GV k n];rfl
theorem Ci {k:Nat} (hk:2 ^ 50≤k) {v:Ty.d ay} (hv:dG v=true) {d:Ty.d a_} (h:DR d) (en:Int) {x:Ty.d a_} (hx:DR x) (hsame:∀ s,aw (ae x s).1=aw (ae d s).1) :
 MP (sd v en x (ll x v.2.1) (bif km x (v.2.1.getD 0 0) then v.2.1.getD 0 0 else 0))
  (bW 0 (List.length v.2.1:Int) (Option.bind (ck.f k (x,(0,())) (List.getD v.2.1 0 (Ty.z (.int .i64)))) fun r8 =>
   (bif r8.2.2.1 then (bW 0 (List.length v.2.1:Int) (mR 1 (List.length (v.2.1.map (mS d)):Int)
    (aR.l0 k k (List.drop 1 (v.2.1.map (mS d))) (List.length (List.drop 1 (v.2.1.map (mS d))):Int) 0 r8.1.1.1 r8.1.1.2.1 r8.1.1.2.2.1 r8.1.1.2.2.2.1 r8.1.2.1 [] [] 0 0 0 0 v.2.1 v.1 [] v.1 0 en (List.getD v.2.1 0 (Ty.z (.int .i64))) r8.2.1.1 r8.2.1.2.1 r8.2.1.2.2.1 [])))
   else (aR.l1 k k (List.length (v.2.1.map (mS d)):Int) 0 r8.1.1.1 r8.1.1.2.1 r8.1.1.2.2.1 r8.1.1.2.2.2.1 r8.1.2.1 [] [] 0 0 0 0 v.2.1 v.1 [] v.1 0 en 0 r8.2.1.1 r8.2.1.2.1 r8.2.1.2.2.1 [] (v.2.1.map (mS d)))))):=by
 obtain ⟨_,_,hv1,hv2,_⟩:=dY (nx:=v.1) (ids:=v.2.1) hv
 have hpa:=mg hx (v.2.1.drop 1)
 have hpb:=mg hx v.2.1
 rw [List.length_drop] at hpa
 have hh:=qN (s:=(ae x (aC bp (v.2.1.getD 0 0))).1)
 have hal:∀ a ∈ v.2.1.map (mS d),a.length≤100000:=fun a ha=>by
  obtain ⟨y,_,rfl⟩:=List.mem_map.1 ha
  exact rY h y
 rw [aH (by omega) (by omega),show List.getD v.2.1 0 (Ty.z (.int .i64))=v.2.1.getD 0 0 from rfl,show ck.f k (x,(0,())) (v.2.1.getD 0 0)=_ from zh hk (x,0) hx (v.2.1.getD 0 0),aQ]
 unfold ll
 cases km x (v.2.1.getD 0 0) with
 | true =>
  simp only [aY]
  rw [aH (by omega) (by omega),bq (by omega) (by rw [List.length_map];omega)]
  have:=GW hk hv2 en hx (v.2.1.getD 0 0) (dir:=(lT x (v.2.1.getD 0 0)).2.2.1) (by show (fq _).1.2.2.1.length≤_;omega) (lT x (v.2.1.getD 0 0)).2.1 (pl:=jx x (v.2.1.drop 1)) (by omega)
  rw [← List.map_drop]
  rw [oQ hsame,← sB] at this
  have e:=Lq hk (v:=v) en x (v.2.1.getD 0 0) (lT x (v.2.1.getD 0 0)).2.2.1 (lT x (v.2.1.getD 0 0)).2.1 (al:=(v.2.1.drop 1).map (mS d)) (fun a ha=>by
   obtain ⟨y,_,rfl⟩:=List.mem_map.1 ha
   exact rY h y) (by rw [List.length_map,List.length_drop];omega)
  rw [← e] at this
  rw [oQ hsame,← sB]
  exact this
 | false =>
  simp only [aK]
  have:=GW hk hv2 en hx 0 (dir:=[]) (by simp) 0 (pl:=jx x v.2.1) (by omega)
  rw [oQ hsame,← sB] at this
  have e:=L9 hk (v:=v) en x 0 [] 0 (al:=v.2.1.map (mS d)) hal (by rw [List.length_map];omega)
  rw [← e] at this
  rw [oQ hsame,← sB]
  exact this
theorem BG {k:Nat} (hk:2 ^ 50≤k) {d:Ty.d a_} (h:DR d) {t:ByteArray} (ht:t.size≤1099511627776) :
 MP (bif !(cr t).2 then (iV,(d,3)) else js (cr t).1 d) (aR.f k (d,(0,())) t):=by
 have hl:=h.sz.l
 have hu:=h.sz.u
 have hn:=h.sz.n
 unfold aR.f aR.t
 rw [wt hk ht,aQ]
 rcases iU (fun v=>dG v=true) ap ((0,([],())):Ty.d ay) t with ⟨v,h1,_,e⟩ | e
 · rw [show cr t=(v,true) from e]
   obtain ⟨_,_,hv1,hv2,_⟩:=dY (nx:=v.1) (ids:=v.2.1) h1
   simp only [ff,aK]
   rw [show bN.f k (d,(0,())) v=_ from ra hk (d,0) h hv2,aQ]
   simp only []
   unfold js
   cases eL d v.2.1 with
   | false=>exact ⟨iV,rfl,fun q=>(by cases q),fun _=>rfl⟩
   | true =>
    have hs:=lx h (aa v.2.1)
    have hsc:=gz (dh d (aa v.2.1))
    have w:aF ((v.2.1.length:Int)-1)=((v.2.1.length-1:Nat):Int):=by rw [aE (by omega) (by omega)];omega
    simp only [ff,aK,aY]
    rw [yD d v.2.1 0 (by intro q;rw [q] at hv1;exact absurd hv1 (by decide)),w,nU,aH (by omega) (by omega),show List.getD v.2.1 (v.2.1.length-1) (Ty.z (.int .i64))=aa v.2.1 from rfl,show v.2.1.getD (v.2.1.length-1) 0=aa v.2.1 from rfl,kv,aQ]
    simp only [show (wO (d,0)).1=d from rfl]
    rw [ly hk (by omega) (by omega) (by omega),aQ,Ft,GV]
    simp only [show (ae d (aC aL (aa v.2.1))).1=dh d (aa v.2.1) from rfl]
    have fx:=yJ (aa v.2.1) h
    have ft:=fun c s=>(Im h (x:=aa v.2.1) c s).2
    generalize hen:(aw (dh d (aa v.2.1))).2=en at *
    by_cases q:en<((dh d (aa v.2.1)).size:Int)
    · have ef:gn (aa v.2.1) d=gD (mN d (aC aL (aa v.2.1)) en) fun y=>iv y (aC aL (aa v.2.1)):=by
       unfold gn
       rw [hen,aO q]
       rfl
      rw [show (((dh d (aa v.2.1)).size:Int) != en)=true from bne_iff_ne.2 (by omega),aY,Ez hk h.sz,aQ]
      simp only []
      rw [sL,aQ]
      simp only []
      have h2:=vL h (aC aL (aa v.2.1)) en
      rw [show d7.f k ((mN d (aC aL (aa v.2.1)) en).1,(fj (mN d (aC aL (aa v.2.1)) en).2,())) (aC aL (aa v.2.1))=_ from vc hk ((mN d (aC aL (aa v.2.1)) en).1,fj (mN d (aC aL (aa v.2.1)) en).2) h2 _,aQ]
      have e2:wk (fun x=>iv x (aC aL (aa v.2.1))) ((mN d (aC aL (aa v.2.1)) en).1,fj (mN d (aC aL (aa v.2.1)) en).2)=((gn (aa v.2.1) d).1,fj (gn (aa v.2.1) d).2):=by
       have:=rx (fun x=>mN x (aC aL (aa v.2.1)) en) (fun x=>iv x (aC aL (aa v.2.1))) (d,0)
       rw [show wk (fun x=>mN x (aC aL (aa v.2.1)) en) (d,0)=((mN d (aC aL (aa v.2.1)) en).1,fj (mN d (aC aL (aa v.2.1)) en).2) from rfl] at this
       rw [← this,ef]
       rfl
      rw [e2]
      simp only [bne,show (wO ((gn (aa v.2.1) d).1,fj (gn (aa v.2.1) d).2)).2.1=fj (gn (aa v.2.1) d).2 from rfl,j7]
      cases c:(gn (aa v.2.1) d).2==0 with
      | false=>exact ⟨iV,rfl,fun q=>absurd q (uw c),fun _=>rfl⟩
      | true =>
       simp only [ff,aK]
       have c0:=Gj c
       rw [c0]
       exact Ci hk h1 h en fx (ft c0)
    · have ef:gn (aa v.2.1) d=iv d (aC aL (aa v.2.1)):=by
       unfold gn
       rw [hen,aP q]
       rfl
      rw [show (((dh d (aa v.2.1)).size:Int) != en)=false by rw [show ((dh d (aa v.2.1)).size:Int)=en by omega];simp,aK,vc hk (d,0) h,aQ]
      have e2:wk (fun x=>iv x (aC aL (aa v.2.1))) (d,0)=((gn (aa v.2.1) d).1,fj (gn (aa v.2.1) d).2):=by rw [ef];rfl
      rw [e2]
      simp only [bne,show (wO ((gn (aa v.2.1) d).1,fj (gn (aa v.2.1) d).2)).2.1=fj (gn (aa v.2.1) d).2 from rfl,j7]
      cases c:(gn (aa v.2.1) d).2==0 with
      | false=>exact ⟨iV,rfl,fun q=>absurd q (uw c),fun _=>rfl⟩
      | true =>
       simp only [ff,aK]
       have c0:=Gj c
       rw [c0]
       exact Ci hk h1 h en fx (ft c0)
 · rw [show cr t=((0,([],())),false) from e]
   simp only [qj,aY]
   rw [show bN.f k (d,(0,())) ((0,([],())):Ty.d ay)=_ from ra hk (d,0) h (by decide),aQ]
   exact ⟨iV,rfl,fun q=>(by cases q),fun _=>rfl⟩
theorem B8 {k:Nat} (hk:2 ^ 50≤k) {d:Ty.d a_} (h:DR d):MP (kY d) (fU.f k (d,(0,()))):=by
 have h1:=xP (r:=((d,0):RD)) h (ut [])
 have hn:=ro (.inl rfl:aL=aL∨aL=bp) 1
 have h2:=xP h1 fun x hx=>tA hx (aC aL 1)
 unfold fU.f fU.t
 rw [show af.f k (d,(0,())) ((0,([],())):Ty.d ay)=_ from xj hk (d,0) h (v:=(0,([],()))) (by decide),aQ,kv,aQ]
 simp only [show ((0,(([]:List Int),())):Ty.d ay).2.1=[] from rfl]
 rw [AE hk _ h1 (by omega),aQ]
 simp only []
 rw [show ((2,([1],())):Ty.d ay)=sy from rfl,zt hk _ h2 (by decide),aQ,← rx (iO []) (fun x=>pQ x (aC aL 1)),← rx]
 unfold kY
 refine ⟨(sy,([],(1,(0,(0,()))))),?_,?_,?_⟩
 · cases c:(ib d).2==0 with
   | true =>
    show some (wO ((ib d).1,fj (ib d).2),_)=some (wO ((ib d).1,0),_)
    rw [Gj c]
    rfl
   | false=>rfl
 · cases c:(ib d).2==0 with
   | true=>intro _;rfl
   | false=>intro q;exact absurd q (uw c)
 · cases c:(ib d).2==0 with
   | true=>intro q;exact absurd rfl q
   | false=>intro _;rfl
theorem rN {k:Nat} (hk:2 ^ 50≤k) {d:Ty.d a_} (hd:p6 d):jK.f k d=some (oS (fD d)):=by
 have hl:=hd.l
 have hu:=hd.u
 have hn:=hd.n
 unfold jK.f jK.t fD
 rw [ie k hl,aQ,iE hk (by omega) (by omega),aQ]
 cases c:fJ d with
 | false=>rfl
 | true =>
  have h:=dO.1 c
  have fin:∀ (q:Ty.d aG × RD) (o:Option (Ty.d bA × Ty.d aG × Unit)),MP q o→(Option.bind o fun r4=>(bif (r4.1.2.1 != 0) then (some (iV,r4.1)) else (some (r4.2.1,(r4.1.1,(0,()))))))=some (oS q):=fun q o hq=>by
   obtain ⟨st,e,a,b⟩:=hq
   rw [e,aQ]
   simp only [bne,show (wO q.2).2.1=q.2.2 from rfl]
   cases cq:q.2.2==0 with
   | true =>
    have z:=Gj cq
    rw [a z]
    show some (q.1,(q.2.1,(0,())))=some (q.1,(q.2.1,(q.2.2,())))
    rw [z]
   | false =>
    rw [qj,aY]
    show some (iV,(q.2.1,(q.2.2,())))=some (q.1,(q.2.1,(q.2.2,())))
    rw [b (fun z=>by rw [z] at cq;cases cq)]
  simp only [ff,aK]
  cases cdn:d.2.2.2.1 with
  | true=>rfl
  | false =>
   simp only [aK]
   rw [show (⟨#[108,105,118,101]⟩:ByteArray)=d_ from rfl,ly hk (by omega) (by omega) (by omega),aQ]
   simp only []
   cases (ae d d_).2 with
   | false =>
    simp only [qj,aY,aK]
    exact fin _ _ (B8 hk h)
   | true =>
    have hz:=iS d d_
    simp only [ff,aK,aY]
    exact fin _ _ (BG hk h (by omega))
def nY (tears:List Int) (i:Nat) (mn:Int):Int :=
 bif decide (tears.length=0) then 0 else bif decide (0≤tears.getD (i % tears.length) 0) then (tears.getD (i % tears.length) 0) % (mn+1) else 0
def sf (tears:List Int) (i:Nat) (f:Ty.d aB):Ty.d aB :=
 (f.1,(ByteArray.extract f.2.1 0 (f.2.2.1+nY tears i ((f.2.1.size:Int)-f.2.2.1)).toNat,(f.2.2.1+nY tears i ((f.2.1.size:Int)-f.2.2.1),())))
def kf (tears:List Int):aW→Nat→aW
 | [],_=>[]
 | f::l,i=>sf tears i f::kf tears l (i+1)
def df (d:Ty.d a_) (tears:List Int):Ty.d a_:=bif !fJ d then d else (kf tears d.1 0,(d.2.1,(-1,(false,()))))
theorem xH (tears:List Int) (i:Nat) {mn:Int} (h:0≤mn):0≤nY tears i mn∧nY tears i mn≤mn:=by
 unfold nY
 cases decide (tears.length=0) with
 | true=>exact ⟨Int.le_refl _,h⟩
 | false =>
  cases decide (0≤tears.getD (i % tears.length) 0) with
  | false=>exact ⟨Int.le_refl _,h⟩
  | true =>
   have h1:=Int.emod_nonneg (tears.getD (i % tears.length) 0) (show mn+1≠0 by omega)
   have h2:=Int.emod_lt_of_pos (tears.getD (i % tears.length) 0) (show 0<mn+1 by omega)
   exact ⟨h1,by show _ % _≤mn;omega⟩
theorem D5 (tears:List Int):∀ (l:aW) (i:Nat),(kf tears l i).length=l.length
 | [],i=>rfl
 | f::l,i=>by unfold kf;rw [lQ,lQ,D5 tears l]
theorem D6 (tears:List Int):∀ (l:aW) (i:Nat),jr (kf tears l i)=jr l
 | [],i=>rfl
 | f::l,i=>by
  show f.1::jr (kf tears l (i+1))=f.1::jr l
  rw [D6 tears l]
theorem Bl (tears:List Int) (i:Nat) {f:Ty.d aB} (h:FO f):FO (sf tears i f)∧(sf tears i f).2.1.size≤f.2.1.size∧((sf tears i f).2.1.size:Int)=(sf tears i f).2.2.1:=by
 obtain ⟨h1,h2,h3⟩:=h
 have hl:=xH tears i (mn:=(f.2.1.size:Int)-f.2.2.1) (by omega)
 have hz:=nt f.2.1 (n:=(f.2.2.1+nY tears i ((f.2.1.size:Int)-f.2.2.1)).toNat) (by omega)
 refine ⟨⟨h1,?_,?_⟩,?_,?_⟩
 · show (0:Int)≤f.2.2.1+nY tears i ((f.2.1.size:Int)-f.2.2.1)
   omega
 · show LE.le (α:=Int) (f.2.2.1+nY tears i ((f.2.1.size:Int)-f.2.2.1)) ((ByteArray.extract f.2.1 0 _).size:Int)
   rw [hz]
   omega
 · show (ByteArray.extract f.2.1 0 _).size≤f.2.1.size
   rw [hz]
   omega
 · show ((ByteArray.extract f.2.1 0 _).size:Int)=f.2.2.1+nY tears i ((f.2.1.size:Int)-f.2.2.1)
   rw [hz]
   omega
theorem Dw (tears:List Int):∀ (l:aW) (i:Nat),(∀ f ∈ l,FO f)→(∀ f ∈ kf tears l i,FO f)∧cO (kf tears l i)≤cO l
 | [],i,h=>⟨fun f hf=>(by cases hf),Nat.le_refl _⟩
 | f::l,i,h=>by
  have h1:=Bl tears i (h f (oh ..))
  have h2:=Dw tears l (i+1) fun g hg=>h g (qu _ hg)
  refine ⟨fun g hg=>?_,?_⟩
  · rcases List.mem_cons.1 hg with e | e
    · rw [e];exact h1.1
    · exact h2.1 g e
  · show cO (sf tears i f::kf tears l (i+1))≤_
    rw [dL,dL]
    have:=h1.2.1
    omega
theorem ur (tears:List Int) {d:Ty.d a_} (h:DR d):DR (df d tears):=by
 have h1:=Dw tears d.1 0 h.all
 have h2:=h.use
 unfold df
 rw [dO.2 h]
 refine ⟨?_,h.cap0,h.cap1,by show (-1:Int) ≤ -1;omega,by show (-1:Int)≤100000;omega,?_,h1.1,?_⟩
 · show (kf tears d.1 0).length≤130
   rw [D5]
   exact h.len
 · show ((cO (kf tears d.1 0):Nat):Int)≤d.2.1
   omega
 · show iI (jr (kf tears d.1 0))
   rw [D6]
   exact h.keys
theorem uI (tears:List Int) {d:Ty.d a_} (h:p6 d):p6 (df d tears):=by
 cases c:fJ d with
 | true=>exact (ur tears (dO.1 c)).sz
 | false=>unfold df;rw [c];exact h
theorem Cq {l:aW} {i:Nat} (h:i<l.length) (x:Ty.d aB):(l.set i x).take (i+1)=l.take i++[x]:=by
 rw [j3 (z:=Ty.z aB) (by rw [List.length_set];exact h)]
 congr 1
 · rw [List.take_set_of_le (by omega)]
 · simp [List.getD,h]
theorem CZ {l:aW} {i:Nat} (x:Ty.d aB):(l.set i x).drop (i+1)=l.drop (i+1):=by
 rw [List.drop_set_of_lt (by omega)]
theorem E3 {tears:List Int} (i:Nat) (mn:Int) (h:0<tears.length):nY tears i mn=bif decide (0≤tears.getD (i % tears.length) 0) then (tears.getD (i % tears.length) 0) % (mn+1) else 0:=by
 unfold nY
 rw [aP (by omega)]
 rfl
theorem mH {l:aW} {i:Nat} (h:i<l.length):l.drop i=l.getD i (Ty.z aB)::l.drop (i+1):=by
 rw [List.drop_eq_getElem_cons h]
 simp [List.getD,h]
theorem yf {tears:List Int} {l:aW} {i:Nat} (h:i<l.length):kf tears (l.drop i) i=sf tears i (l.getD i (Ty.z aB))::kf tears (l.drop (i+1)) (i+1):=by
 rw [mH h]
 rfl
theorem G7 {i m:Nat} (hm:0<m):0≤Int.tmod (i:Int) (m:Int)∧Int.tmod (i:Int) (m:Int)<(m:Int)∧(Int.tmod (i:Int) (m:Int)).toNat=i % m:=by
 have e:Int.tmod (i:Int) (m:Int)=((i % m:Nat):Int):=rfl
 have:=Nat.mod_lt i hm
 rw [e,nU]
 exact ⟨by omega,by omega,rfl⟩
theorem uk {k:Nat} (hk:2 ^ 50≤k) {d:Ty.d a_} (hd:p6 d) {tears:List Int} (ht:tears.length≤1073741824):fP.f k d tears=some (df d tears,()):=by
 have hl:=hd.l
 have hu:=hd.u
 have hn:=hd.n
 unfold fP.f fP.t df
 rw [kD k hd,aQ,kw hk (by omega) (by omega),aQ]
 cases c:fJ d with
 | false=>rfl
 | true =>
  have h:=dO.1 c
  have hlen:=h.len
  simp only [ff,aK]
  have key:=FY (L:=fun n i (s:aW)=>fP.l0 k n tears i [] 0 0 false s d.2.1 d.2.2.1 d.2.2.2.1) (R:=fun i s=>some ((s.take i.toNat++kf tears (d.1.drop i.toNat) i.toNat,(d.2.1,(-1,(false,())))),())) d.1.length (fun i s=>s.length=d.1.length∧s.drop i.toNat=d.1.drop i.toNat) (fun n s hs=>?_) (fun n i s h0 h1 hs ih=>?_) k 0 d.1 (by omega) (by omega) (by omega) ⟨rfl,rfl⟩
  · rw [show (0:Int).toNat=0 from rfl,List.take_zero,List.nil_append,List.drop_zero] at key
    exact key
  · obtain ⟨hs1,hs2⟩:=hs
    simp only [fP.l0,fP.b0]
    rw [aP (by omega),aK,nU,← hs1,List.take_length,hs1,List.drop_length]
    rw [show kf tears [] d.1.length=[] from rfl,List.append_nil]
  · obtain ⟨hs1,hs2⟩:=hs
    have c1:i.toNat<d.1.length:=by omega
    have hg:s.getD i.toNat (Ty.z aB)=d.1.getD i.toNat (Ty.z aB):=by
     have a:=mH (l:=s) (i:=i.toNat) (by omega)
     have b:=mH (l:=d.1) (i:=i.toNat) c1
     rw [hs2,b] at a
     exact (List.cons.inj a).1.symm
    have hf:=h.all _ (dx (z:=Ty.z aB) c1)
    have hu1:=mE (dx (z:=Ty.z aB) c1)
    have hcut:=Bl tears i.toNat hf
    have hli:=xH tears i.toNat (mn:=((d.1.getD i.toNat (Ty.z aB)).2.1.size:Int)-(d.1.getD i.toNat (Ty.z aB)).2.2.1) (by have:=hf.2.2;omega)
    have fin:∀ z:Ty.d aB,z=sf tears i.toNat (d.1.getD i.toNat (Ty.z aB))→fP.l0 k n tears (i+1) [] 0 0 false (s.set i.toNat z) d.2.1 d.2.2.1 d.2.2.2.1=some ((s.take i.toNat++kf tears (d.1.drop i.toNat) i.toNat,(d.2.1,(-1,(false,())))),()):=fun z hz=>by
     have:=ih (s.set i.toNat z) ⟨by rw [List.length_set];exact hs1,by
      rw [show (i+1).toNat=i.toNat+1 by omega,CZ]
      have:=congrArg (List.drop 1) hs2
      rw [List.drop_drop,List.drop_drop] at this
      exact this⟩
     rw [show (i+1).toNat=i.toNat+1 by omega] at this
     rw [this,Cq (by omega),yf c1,hz,s7]
     rfl
    simp only [fP.l0,fP.b0]
    rw [aO (show i<(s.length:Int) by omega),aY,aH h0 (by omega),hg,aE (n:=i+1) (by omega) (by omega)]
    generalize d.1.getD i.toNat (Ty.z aB)=f at *
    obtain ⟨hf1,hf2,hf3⟩:=hf
    have w1:aF ((f.2.1.size:Int)-f.2.2.1)=(f.2.1.size:Int)-f.2.2.1:=aE (by omega) (by omega)
    have w2:aF ((f.2.1.size:Int)-f.2.2.1+1)=(f.2.1.size:Int)-f.2.2.1+1:=aE (by omega) (by omega)
    have w0:aF (f.2.2.1+0)=f.2.2.1+0:=aE (by omega) (by omega)
    have fin2:∀ x:Int,x=nY tears i.toNat ((f.2.1.size:Int)-f.2.2.1)→mR (aF (f.2.2.1+x)) (f.2.1.size:Int) (bW i (s.length:Int) (fP.l0 k n tears (i+1) [] 0 0 false (s.set i.toNat (f.1,(ByteArray.extract f.2.1 0 (aF (f.2.2.1+x)).toNat,(((ByteArray.extract f.2.1 0 (aF (f.2.2.1+x)).toNat).size:Int),())))) d.2.1 d.2.2.1 d.2.2.2.1))=some ((s.take i.toNat++kf tears (d.1.drop i.toNat) i.toNat,(d.2.1,(-1,(false,())))),()):=fun x hx=>by
     rw [hx,aE (n:=f.2.2.1+_) (by omega) (by omega),bq (by omega) (by omega),aH h0 (by omega)]
     refine fin _ ?_
     have:=hcut.2.2
     unfold sf at this ⊢
     simp only [] at this
     rw [this]
    by_cases ct:(tears.length:Int) > 0
    · obtain ⟨t1,t2,t3⟩:=G7 (i:=i.toNat) (m:=tears.length) (by omega)
      rw [show ((i.toNat:Nat):Int)=i by omega] at t1 t2 t3
      rw [aO ct,aY,aP (by omega),aK,aH t1 t2,aH t1 t2,t3,w1,w2]
      rw [show List.getD tears (i.toNat % tears.length) (Ty.z (.int .i64))=tears.getD (i.toNat % tears.length) 0 from rfl]
      have hlf:=E3 (tears:=tears) i.toNat ((f.2.1.size:Int)-f.2.2.1) (by omega)
      by_cases cg:tears.getD (i.toNat % tears.length) 0≥0
      · rw [aO cg,aY]
        rw [aO (show 0≤tears.getD (i.toNat % tears.length) 0 from cg),aY] at hlf
        rw [aP (by omega),aK,Int.tmod_eq_emod_of_nonneg cg]
        exact fin2 _ hlf.symm
      · rw [aP cg,aK]
        rw [aP (show ¬ 0≤tears.getD (i.toNat % tears.length) 0 from cg),aK] at hlf
        exact fin2 0 hlf.symm
    · rw [aP ct,aK]
      have:tears=[]:=by cases tears with
       | nil=>rfl
       | cons a b=>rw [lQ] at ct;omega
      exact fin2 0 (by rw [this];rfl)
theorem tk {k:Nat} (hk:2 ^ 50≤k) {d:Ty.d a_} (hd:p6 d) {tears:List Int} (ht:tears.length≤1073741824):ez.f k d tears=some (df d tears,()):=by
 have hl:=hd.l
 have hu:=hd.u
 have hn:=hd.n
 unfold ez.f ez.t df
 rw [ie k hl,aQ,iE hk (by omega) (by omega),aQ]
 cases c:fJ d with
 | false=>rfl
 | true =>
  have h:=dO.1 c
  have hlen:=h.len
  simp only [ff,aK]
  have key:=FY (L:=fun n i (s:aW)=>ez.l0 k n tears d.1.length i [] 0 0 false s d.2.1 d.2.2.1 d.2.2.2.1) (R:=fun i s=>some ((s.take i.toNat++kf tears (d.1.drop i.toNat) i.toNat,(d.2.1,(-1,(false,())))),())) d.1.length (fun i s=>s.length=d.1.length∧s.drop i.toNat=d.1.drop i.toNat) (fun n s hs=>?_) (fun n i s h0 h1 hs ih=>?_) k 0 d.1 (by omega) (by omega) (by omega) ⟨rfl,rfl⟩
  · rw [show (0:Int).toNat=0 from rfl,List.take_zero,List.nil_append,List.drop_zero] at key
    exact key
  · obtain ⟨hs1,hs2⟩:=hs
    simp only [ez.l0,ez.b0]
    rw [aP (by omega),aK,nU,← hs1,List.take_length,hs1,List.drop_length]
    rw [show kf tears [] d.1.length=[] from rfl,List.append_nil]
  · obtain ⟨hs1,hs2⟩:=hs
    have c1:i.toNat<d.1.length:=by omega
    have hg:s.getD i.toNat (Ty.z aB)=d.1.getD i.toNat (Ty.z aB):=by
     have a:=mH (l:=s) (i:=i.toNat) (by omega)
     have b:=mH (l:=d.1) (i:=i.toNat) c1
     rw [hs2,b] at a
     exact (List.cons.inj a).1.symm
    have hf:=h.all _ (dx (z:=Ty.z aB) c1)
    have hu1:=mE (dx (z:=Ty.z aB) c1)
    have hcut:=Bl tears i.toNat hf
    have hli:=xH tears i.toNat (mn:=((d.1.getD i.toNat (Ty.z aB)).2.1.size:Int)-(d.1.getD i.toNat (Ty.z aB)).2.2.1) (by have:=hf.2.2;omega)
    have gs:∀ x z:Ty.d aB,(s.set i.toNat x).getD i.toNat z=x:=fun x z=>by simp [List.getD,show i.toNat<s.length by omega]
    have fin:∀ z:Ty.d aB,z=sf tears i.toNat (d.1.getD i.toNat (Ty.z aB))→ez.l0 k n tears d.1.length (i+1) [] 0 0 false (s.set i.toNat z) d.2.1 d.2.2.1 d.2.2.2.1=some ((s.take i.toNat++kf tears (d.1.drop i.toNat) i.toNat,(d.2.1,(-1,(false,())))),()):=fun z hz=>by
     have:=ih (s.set i.toNat z) ⟨by rw [List.length_set];exact hs1,by
      rw [show (i+1).toNat=i.toNat+1 by omega,CZ]
      have:=congrArg (List.drop 1) hs2
      rw [List.drop_drop,List.drop_drop] at this
      exact this⟩
     rw [show (i+1).toNat=i.toNat+1 by omega] at this
     rw [this,Cq (by omega),yf c1,hz,s7]
     rfl
    simp only [ez.l0,ez.b0]
    rw [aO h1,aY,aH h0 (by omega),hg,aE (n:=i+1) (by omega) (by omega)]
    simp only [gs,List.set_set]
    generalize d.1.getD i.toNat (Ty.z aB)=f at *
    obtain ⟨hf1,hf2,hf3⟩:=hf
    have w1:aF ((f.2.1.size:Int)-f.2.2.1)=(f.2.1.size:Int)-f.2.2.1:=aE (by omega) (by omega)
    have w2:aF ((f.2.1.size:Int)-f.2.2.1+1)=(f.2.1.size:Int)-f.2.2.1+1:=aE (by omega) (by omega)
    have fin2:∀ x:Int,x=nY tears i.toNat ((f.2.1.size:Int)-f.2.2.1)→mR (aF (f.2.2.1+x)) (f.2.1.size:Int) (ez.l0 k n tears d.1.length (i+1) [] 0 0 false (s.set i.toNat (f.1,(ByteArray.extract f.2.1 0 (aF (f.2.2.1+x)).toNat,(aF (f.2.2.1+x),f.2.2.2)))) d.2.1 d.2.2.1 d.2.2.2.1)=some ((s.take i.toNat++kf tears (d.1.drop i.toNat) i.toNat,(d.2.1,(-1,(false,())))),()):=fun x hx=>by
     rw [hx,aE (n:=f.2.2.1+_) (by omega) (by omega),bq (by omega) (by omega)]
     exact fin _ rfl
    by_cases ct:(tears.length:Int) > 0
    · obtain ⟨t1,t2,t3⟩:=G7 (i:=i.toNat) (m:=tears.length) (by omega)
      rw [show ((i.toNat:Nat):Int)=i by omega] at t1 t2 t3
      rw [aO ct,aY,aP (by omega),aK,aH t1 t2,t3,w1,w2]
      rw [show List.getD tears (i.toNat % tears.length) (Ty.z (.int .i64))=tears.getD (i.toNat % tears.length) 0 from rfl]
      have hlf:=E3 (tears:=tears) i.toNat ((f.2.1.size:Int)-f.2.2.1) (by omega)
      rw [aP (by omega),aK]
      by_cases cg:0≤tears.getD (i.toNat % tears.length) 0
      · rw [aO cg,aY] at hlf
        rw [if_neg (by omega),Int.tmod_eq_emod_of_nonneg cg]
        exact fin2 _ hlf.symm
      · rw [aP cg,aK] at hlf
        rw [if_pos (by omega),Int.zero_tmod]
        exact fin2 0 hlf.symm
    · rw [aP ct,aK]
      have:tears=[]:=by cases tears with
       | nil=>rfl
       | cons a b=>rw [lQ] at ct;omega
      exact fin2 0 (by rw [this];rfl)
theorem HG (v:Ty.d ay) (en:Int) {x:Ty.d a_} (h:DR x) {g:Ty.d gB} (hg:g.1.length≤268435456) (hi:Int):DR (sd v en x g hi).2.1∧(sd v en x g hi).1.2.1.length≤268435456:=by
 have hs:=ut v.2.1 x h
 unfold sd
 cases g.2.2.1 != 0 with
 | true=>exact ⟨h,Nat.zero_le _⟩
 | false =>
  cases (iO v.2.1 x).2 != 0 with
  | true=>exact ⟨hs,Nat.zero_le _⟩
  | false=>exact ⟨hs,hg⟩
theorem HC {x:Ty.d a_} (h:DR x) {ids:List Int} (hl:ids.length≤60):(ll x ids).1.length≤268435456:=by
 have hpa:=mg h (ids.drop 1)
 have hpb:=mg h ids
 rw [List.length_drop] at hpa
 have hh:=qN (s:=(ae x (aC bp (ids.getD 0 0))).1)
 unfold ll
 cases km x (ids.getD 0 0)
 · exact uJ (by omega) (by simp)
 · exact uJ (by omega) (by show (lT x (ids.getD 0 0)).2.2.1.length≤_;unfold lT;omega)
theorem tN {d:Ty.d a_} (h:DR d):DR (fD d).2.1∧(fD d).1.2.1.length≤268435456:=by
 unfold fD
 rw [dO.2 h]
 simp only [ff,aK]
 cases d.2.2.2.1 with
 | true=>exact ⟨h,Nat.zero_le _⟩
 | false =>
  simp only [aK]
  cases (ae d d_).2 with
  | false =>
   simp only [qj,aY]
   have hf:DR (ib d).1:=lN (lN (ut [] d h) fun x hx=>tA hx _) (oC sy)
   unfold kY
   cases (ib d).2==0 with
   | true=>exact ⟨hf,Nat.zero_le _⟩
   | false=>exact ⟨hf,Nat.zero_le _⟩
  | true =>
   simp only [ff,aK]
   rcases iU (fun v=>dG v=true) ap ((0,([],())):Ty.d ay) (ae d d_).1 with ⟨v,h1,_,e⟩ | e
   · rw [show cr (ae d d_).1=(v,true) from e]
     obtain ⟨_,_,hv1,hv2,_⟩:=dY (nx:=v.1) (ids:=v.2.1) h1
     simp only [ff,aK]
     have fx:=yJ (aa v.2.1) h
     unfold js
     cases eL d v.2.1 with
     | false=>exact ⟨h,Nat.zero_le _⟩
     | true =>
      simp only [ff,aK]
      cases (gn (aa v.2.1) d).2 != 0 with
      | true=>exact ⟨fx,Nat.zero_le _⟩
      | false=>exact HG v _ fx (HC fx hv2) _
   · rw [show cr (ae d d_).1=((0,([],())),false) from e]
     exact ⟨h,Nat.zero_le _⟩
theorem DY {d:Ty.d a_} (h:fJ d=false):fD d=(iV,(d,4)):=by
 unfold fD
 rw [h]
 rfl
theorem tv {d:Ty.d a_} (h:p6 d):p6 (fD d).2.1∧(fD d).1.2.1.length≤268435456:=by
 cases c:fJ d with
 | true=>exact ⟨(tN (dO.1 c)).1.sz,(tN (dO.1 c)).2⟩
 | false=>rw [DY c];exact ⟨h,Nat.zero_le _⟩
noncomputable def fv (d:Ty.d a_) (tears:List Int):lP × Int :=
 bif (fD (df d tears)).2.2 != 0 then ([],(fD (df d tears)).2.2) else mU (fD (df d tears)).1.2.1 (fD (df d tears)).2.1
noncomputable def GN (q:Ty.d aG × RD):Ty.d mL:=((q.2.2==0),(q.1,(q.2.1,(List.replicate 3 (Ty.z Hj),()))))
theorem zi {k:Nat} (hk:2 ^ 50≤k) {d:Ty.d a_} (hd:p6 d):iJ.f k d=some (GN (fD d),((fD d).2.2,())):=by
 unfold iJ.f iJ.t
 rw [qz hk hd,aQ,Fc (by omega) (by omega) (by decide)]
 rfl
theorem zl {k:Nat} (hk:2 ^ 50≤k) {d:Ty.d a_} (hd:p6 d):iG.f k d=some (GN (fD d),((fD d).2.2,())):=by
 unfold iG.f iG.t
 rw [rN hk hd,aQ,Fc (by omega) (by omega) (by decide)]
 rfl
theorem wM {k:Nat} (hk:2 ^ 50≤k) {d:Ty.d a_} (hd:p6 d) {tears:List Int} (ht:tears.length≤1073741824):ik.f k d tears=some ((fv d tears).1,((fv d tears).2,())):=by
 have hp:=uI tears hd
 obtain ⟨h1,h2⟩:=tv hp
 unfold ik.f ik.t fv
 rw [uk hk hd ht,aQ]
 simp only []
 rw [zi hk hp,aQ]
 simp only [bne]
 cases c:(fD (df d tears)).2.2==0 with
 | false=>rfl
 | true =>
  simp only [ff,aK]
  unfold j5.f j5.t GN
  rw [c]
  simp only [ff,aK]
  rw [wB hk h1 (by omega),aQ]
  rfl
theorem wV {k:Nat} (hk:2 ^ 50≤k) {d:Ty.d a_} (hd:p6 d) {tears:List Int} (ht:tears.length≤1073741824):fX.f k d tears=some ((fv d tears).1,((fv d tears).2,())):=by
 have hp:=uI tears hd
 obtain ⟨h1,h2⟩:=tv hp
 unfold fX.f fX.t fv
 rw [tk hk hd ht,aQ]
 simp only []
 rw [zl hk hp,aQ]
 simp only [bne]
 cases c:(fD (df d tears)).2.2==0 with
 | false=>rfl
 | true =>
  simp only [ff,aK]
  unfold j4.f j4.t GN
  rw [c]
  simp only [ff,aK]
  rw [De hk h1 (by omega),aQ]
  rfl
theorem BN {d:Ty.d a_} (hd:p6 d) (tears:List Int):(fv d tears).1.length≤268435456:=by
 have hp:=uI tears hd
 obtain ⟨_,h2⟩:=tv hp
 unfold fv
 cases (fD (df d tears)).2.2 != 0 with
 | true=>exact Nat.zero_le _
 | false=>exact Nat.le_trans (vh _ _) h2
theorem wA (k:Nat) {n:Int} (h0:0≤n) (h1:n≤100000):eR.f k n=some (([],(n,(-1,(false,())))),()):=by
 unfold eR.f eR.t
 rw [ga,aQ,aO ⟨h0,h1⟩]
 rfl
def sj (n:Int):Ty.d a_:=([],(n,(-1,(false,()))))
theorem C6 {n:Int} (h0:0≤n) (h1:n≤100000):DR (sj n) :=
 ⟨Nat.zero_le _,h0,h1,show LE.le (α:=Int) (-1) (-1) from Int.le_refl _,show LE.le (α:=Int) (-1) 100000 by decide,h0,fun f hf=>(by cases hf),List.Pairwise.nil⟩
theorem F4 {st:Ty.d aG} {d:Ty.d a_} {l:sk} (h:SR st (d,0) 100000) (hp:nT l=true) (hd:st.2.1.length≤20) :
 DR (oM st d l).2.1∧(oM st d l).1.1.2.1.length≤60∧(oM st d l).1.2.1.length≤268435456:=by
 have h8:=tR hp
 obtain ⟨g1,g2,g3⟩:=tT (yk l st.2.2.1) (Br st) d [] 100000 ⟨h.live,h.disk,h.lo,h.hi⟩ (by decide)
 unfold oM
 generalize kH (yk l st.2.2.1) (Br st) d []=q at g1 g2 g3 ⊢
 have e2:q.1.1.2.1=st.2.1:=g2
 obtain ⟨_,_,_,hi,_⟩:=dY (nx:=q.1.1.1.1) (ids:=q.1.1.1.2.1) g1.live
 have hs:=nP g1.disk (jM q.1.1)
 unfold wL
 cases q.1.2.2 != 0 with
 | true=>exact ⟨g1.disk,hi,by show q.1.1.2.1.length≤_;rw [e2];omega⟩
 | false =>
  simp only [aK]
  generalize iv q.1.2.1 (jM q.1.1)=y at hs ⊢
  cases y.2 != 0 with
  | true=>exact ⟨hs,hi,by show q.1.1.2.1.length≤_;rw [e2];omega⟩
  | false =>
   refine ⟨hs,hi,?_⟩
   show (eY q.1.1.2.1 (q.2.take l.length)).length≤_
   have:=qJ (q.2.take l.length) q.1.1.2.1
   rw [e2] at this ⊢
   rw [List.length_take] at this
   omega
structure RR (q:Ty.d aG × RD):Prop where
 disk:DR q.2.1
 ids:q.1.1.2.1.length≤60
 dir:q.1.2.1.length≤268435456
theorem IK {n:Int} (h0:0≤n) (h1:n≤100000):RR (fD (sj n)):=by
 have hd:=C6 h0 h1
 obtain ⟨g1,g2⟩:=tN hd
 refine ⟨g1,?_,g2⟩
 unfold fD
 have e:(ae (sj n) d_).2=false:=by unfold ae;rw [dO.2 hd];rfl
 rw [dO.2 hd,e]
 show (kY (sj n)).1.1.2.1.length≤60
 unfold kY
 cases (ib (sj n)).2==0
 · exact Nat.zero_le _
 · show 1≤60
   decide
def oF:bB→Int
 | []=>0
 | p::l=>p.2.2.1+oF l
def wZ (l:ab):Prop:=∀ e ∈ l,LE.le (α:=Int) 0 e.2.2.2.1
def Ek (l:bB):Prop:=∀ p ∈ l,LE.le (α:=Int) 0 p.2.2.1
theorem nr (e:Ty.d aA) (l:ab):iZ (e::l)=e.2.2.2.1+iZ l:=rfl
theorem yb:∀ l m:ab,iZ (l++m)=iZ l+iZ m
 | [],m=>by rw [List.nil_append,iZ,Int.zero_add]
 | e::l,m=>by rw [List.cons_append,nr,nr,yb l m,Int.add_assoc]
theorem oK (p:Ty.d aD) (l:bB):oF (p::l)=p.2.2.1+oF l:=rfl
theorem vJ:∀ l m:bB,oF (l++m)=oF l+oF m
 | [],m=>by rw [List.nil_append,oF,Int.zero_add]
 | p::l,m=>by rw [List.cons_append,oK,oK,vJ l m,Int.add_assoc]
theorem vI:∀ {l:bB},Ek l→0≤oF l
 | [],_=>Int.le_refl _
 | p::l,h=>by
  have h1:=h p oh
  have h2:=vI (l:=l) fun q hq=>h q (qu _ hq)
  rw [oK]
  omega
theorem EX {l:bB} (h:Ek l) (n:Nat):oF (l.take n)≤oF l:=by
 have e:=vJ (l.take n) (l.drop n)
 rw [List.take_append_drop] at e
 have:=vI (l:=l.drop n) fun q hq=>h q (List.mem_of_mem_drop hq)
 omega
theorem vS (key:ByteArray):∀ {l:ab},wZ l→iZ (je l key)≤iZ l∧wZ (je l key)
 | [],h=>⟨Int.le_refl _,h⟩
 | e::l,h=>by
  have h1:=h e oh
  obtain ⟨i1,i2⟩:=vS key (l:=l) fun q hq=>h q (qu _ hq)
  unfold je at i1 i2 ⊢
  rw [List.filter_cons]
  cases !(seq e.1 key) with
  | true =>
   rw [if_pos rfl,nr,nr]
   refine ⟨by omega,fun q hq=>?_⟩
   rcases List.mem_cons.1 hq with w | w
   · rw [w];exact h1
   · exact i2 q w
  | false =>
   rw [if_neg (by decide),nr]
   exact ⟨by omega,i2⟩
theorem I5 (l:ab) (e:Ty.d aA):iZ (tH l e)=iZ l+e.2.2.2.1:=by
 unfold tH
 have h:=congrArg iZ (List.takeWhile_append_dropWhile (p:=Jx e.1) (l:=l))
 rw [yb] at h
 rw [yb,nr]
 omega
theorem Jf {l:ab} {e x:Ty.d aA} (h:x ∈ tH l e):x=e∨x ∈ l:=by
 unfold tH at h
 rcases List.mem_append.1 h with w | w
 · exact .inr (List.takeWhile_subset _ w)
 · rcases List.mem_cons.1 w with w | w
   · exact .inl w
   · exact .inr (List.dropWhile_subset _ w)
theorem HF {d:ab} {p:Ty.d aD} (h:wZ d) (hp:LE.le (α:=Int) 0 p.2.2.1):iZ (ji d p)≤iZ d+p.2.2.1∧wZ (ji d p):=by
 unfold ji
 cases p.2.2.2.1.1==2 with
 | true =>
  obtain ⟨i1,i2⟩:=vS p.2.2.2.1.2.2.1 h
  exact ⟨by simp only [aY];omega,i2⟩
 | false =>
  obtain ⟨i1,i2⟩:=vS (xJ p).1 h
  simp only [aK]
  unfold vE
  rw [I5]
  refine ⟨?_,fun q hq=>?_⟩
  · exact Int.add_le_add_right i1 _
  · rcases Jf hq with w | w
    · rw [w];exact hp
    · exact i2 q w
theorem yT:∀ (ps:bB) (d:ab),wZ d→Ek ps→iZ (eY d ps)≤iZ d+oF ps∧wZ (eY d ps)
 | [],d,h,_=>⟨by show iZ d≤iZ d+0;omega,h⟩
 | p::ps,d,h,hp=>by
  obtain ⟨i1,i2⟩:=HF h (hp p oh)
  obtain ⟨j1,j2⟩:=yT ps (ji d p) i2 fun q hq=>hp q (qu _ hq)
  rw [oK]
  refine ⟨?_,j2⟩
  show iZ (eY (ji d p) ps)≤_
  omega
theorem Cb:∀ (l:nF) (st:Ty.d aG) (d:Ty.d a_) (ps:bB) (B:Int),SR st (d,0) B→0≤B→Ek ps →
 (jL d st.1.2.1:Int)+oF (kH l st d ps).2≤(jL (kH l st d ps).1.2.1 (kH l st d ps).1.1.1.2.1:Int)+oF ps∧Ek (kH l st d ps).2
 | [],st,d,ps,B,h,_,hp=>⟨Int.le_refl _,hp⟩
 | r::l,st,d,ps,B,h,hB,hp=>by
  obtain ⟨g1,g2,g3⟩:=sT h hB r
  obtain ⟨s1,s2⟩:=Jv (d:=d) h.live h.disk r
  have hr:=me r
  unfold kH
  generalize kK st d r=q at g1 g2 g3 s1 s2 ⊢
  cases c:q.1.2.2 != 0 with
  | true =>
   simp only [aY]
   have:(0:Int)≤(if q.1.2.2=0 then dP r else 0):=by split <;> omega
   exact ⟨by omega,hp⟩
  | false =>
   have e0:=qQ c
   rw [if_pos e0] at s1
   have e1:=s2 e0
   have hp':Ek (ps++[q.2]):=fun x hx=>by
    rcases List.mem_append.1 hx with w | w
    · exact hp x w
    · rw [List.mem_singleton.1 w]
      show LE.le (α:=Int) 0 q.2.2.2.1
      rw [e1]
      exact hr.1
   obtain ⟨i1,i2⟩:=Cb l q.1.1 q.1.2.1 (ps++[q.2]) (B+211) ⟨g1.live,g1.disk,g1.lo,g1.hi⟩ (by omega) hp'
   simp only [aK]
   refine ⟨?_,i2⟩
   rw [vJ] at i1
   have e2:oF [q.2]=dP r:=by rw [oK,e1];show dP r+0=_;omega
   omega
structure IV (q:Ty.d aG × RD):Prop where
 disk:DR q.2.1
 ids:q.1.1.2.1.length≤60
 dir:q.1.2.1.length≤268435456
 non:wZ q.1.2.1
 sum:iZ q.1.2.1≤(jL q.2.1 q.1.1.2.1:Int)
theorem JQ {st:Ty.d aG} {d:Ty.d a_} {l:sk} {c:Int} (h:IV (st,(d,c))) (hs:SR st (d,0) 100000) (hp:nT l=true) (hd:st.2.1.length≤20):IV (oM st d l):=by
 obtain ⟨w1,w2,w3⟩:=F4 hs hp hd
 have hb:SR (Br st) (d,0) 100000:=⟨hs.live,hs.disk,hs.lo,hs.hi⟩
 obtain ⟨g1,g2,g3⟩:=tT (yk l st.2.2.1) (Br st) d [] 100000 hb (by decide)
 obtain ⟨s1,s2⟩:=Cb (yk l st.2.2.1) (Br st) d [] 100000 hb (by decide) (fun x hx=>by cases hx)
 refine ⟨w1,w2,w3,?_,?_⟩
 all_goals
  have hsum:iZ st.2.1≤(jL d st.1.2.1:Int):=h.sum
  have hnon:wZ st.2.1:=h.non
  unfold oM
  generalize kH (yk l st.2.2.1) (Br st) d []=q at g1 g2 g3 s1 s2 ⊢
  have e2:q.1.1.2.1=st.2.1:=g2
  have s1:(jL d st.1.2.1:Int)+oF q.2≤(jL q.1.2.1 q.1.1.1.2.1:Int)+0:=s1
  have s3:=vI s2
  have s4:=EX s2 l.length
  have st2:Ek (q.2.take l.length):=fun x hx=>s2 x (List.mem_of_mem_take hx)
  obtain ⟨a1,a2⟩:=yT (q.2.take l.length) st.2.1 hnon st2
  unfold wL
  cases q.1.2.2 != 0 with
  | true =>
   first
   | (show wZ q.1.1.2.1;rw [e2];exact hnon)
   | (show iZ q.1.1.2.1≤(jL q.1.2.1 q.1.1.1.2.1:Int);rw [e2];omega)
  | false =>
   have k1:jL (iv q.1.2.1 (jM q.1.1)).1 q.1.1.1.2.1=jL q.1.2.1 q.1.1.1.2.1:=kW fun x hx=>vO
   simp only [aK]
   generalize iv q.1.2.1 (jM q.1.1)=y at k1 ⊢
   cases y.2 != 0 with
   | true =>
    first
    | (show wZ q.1.1.2.1;rw [e2];exact hnon)
    | (show iZ q.1.1.2.1≤(jL y.1 q.1.1.1.2.1:Int);rw [e2,k1];omega)
   | false =>
    first
    | (show wZ (eY q.1.1.2.1 (q.2.take l.length));rw [e2];exact a2)
    | (show iZ (eY q.1.1.2.1 (q.2.take l.length))≤(jL y.1 q.1.1.1.2.1:Int);rw [e2,k1];omega)
theorem HI {st:Ty.d aG} {d:Ty.d a_} {c:Int} (l:sk) (h:IV (st,(d,c))):IV (lg st d l):=by
 have same:∀ z:Int,IV (st,(d,z)):=fun z=>⟨h.disk,h.ids,h.dir,h.non,h.sum⟩
 unfold lg
 cases c1:mX st d with
 | false=>exact same _
 | true =>
  simp only [ff,aK]
  cases c2:nT l with
  | false=>exact same _
  | true =>
   simp only [ff,aK]
   cases (l.length:Int)==0 with
   | true=>exact same _
   | false =>
    cases decide (tc st.2.1 l > 20) with
    | true=>exact same _
    | false =>
     cases decide (st.2.2.1 > (1000000:Int)) with
     | true=>exact same _
     | false=>exact JQ h (nE c1).1 c2 (nE c1).2.1
theorem KY {n:Int} (h0:0≤n) (h1:n≤100000):IV (fD (sj n)):=by
 have hr:=IK h0 h1
 have hd:=C6 h0 h1
 have e:fD (sj n)=kY (sj n):=by
  unfold fD
  have e:(ae (sj n) d_).2=false:=by unfold ae;rw [dO.2 hd];rfl
  rw [dO.2 hd,e]
  rfl
 refine ⟨hr.disk,hr.ids,hr.dir,?_,?_⟩
 · rw [e]
   unfold kY
   cases (ib (sj n)).2==0 <;> exact fun x hx=>by cases hx
 · rw [e]
   unfold kY
   cases (ib (sj n)).2==0
   · exact Int.le_refl _
   · exact Int.ofNat_le.2 (Nat.zero_le _)
def x_ (l:lP) (mark:Int):Int:=((iA (rR l mark)).size:Int)
theorem w8 (r:Ty.d bP) (l:nF):(iA (r::l)).size=(aj (aU r)).size+(iA l).size:=by rw [iA,ByteArray.size_append]
def zZ (nm:ByteArray):nF→RD→RD
 | [],r=>r
 | x::l,r=>zZ nm l (gD r fun y=>jI y nm (aj (aU x)))
def jD (m:Int) (l:lP) (mark:Int) (d:Ty.d a_):RD:=gD (zZ (aC aL m) (rR l mark) (dH (aC aL m) d)) fun y=>iv y (aC aL m)
def ow (m:Int):lP→Int→ab
 | [],_=>[]
 | p::l,at_=>(p.1,(m,(at_,(dP (eU p),(p.2.2.1,())))))::ow m l (at_+dP (eU p))
def pC (ns:List ByteArray) (r:RD):RD:=bif r.2==2 then ((eT ns r.1).1,bif (eT ns r.1).2==0 then 2 else fj (eT ns r.1).2) else r
def lS (m:Int):List ByteArray:=[ia,aC aL m,aC aL (m+1),aC bp m]
def wW:List Int→Ty.d a_→RD
 | [],d=>(d,0)
 | x::l,d=>gD (eT [aC aL x,aC bp x] d) (wW l)
def xY (st:Ty.d aG):Ty.d aG:=((st.1.1+2,st.1.2),st.2)
def lV (m:Int):Ty.d ay:=(m+2,([m,m+1],()))
def qi (hb:ByteArray→ByteArray) (m:Int) (d:Ty.d a_):RD :=
 bif (m3 (aC bp m) (hb (ae d (aC aL m)).1) d).2==2 then eT [aC bp m] (m3 (aC bp m) (hb (ae d (aC aL m)).1) d).1 else m3 (aC bp m) (hb (ae d (aC aL m)).1) d
def kF (hb:ByteArray→ByteArray) (st:Ty.d aG) (d:Ty.d a_) (l:lP):Ty.d aG × RD :=
 bif (jD st.1.1 l (st.2.2.1-1) d).2 != 0 then (xY st,pC (lS st.1.1) (tl (jD st.1.1 l (st.2.2.1-1) d))) else
 bif (dH (aC aL (st.1.1+1)) (jD st.1.1 l (st.2.2.1-1) d).1).2 != 0 then (xY st,pC (lS st.1.1) (tl (dH (aC aL (st.1.1+1)) (jD st.1.1 l (st.2.2.1-1) d).1))) else
 bif (qi hb st.1.1 (dH (aC aL (st.1.1+1)) (jD st.1.1 l (st.2.2.1-1) d).1).1).2 != 0 then (xY st,tl (qi hb st.1.1 (dH (aC aL (st.1.1+1)) (jD st.1.1 l (st.2.2.1-1) d).1).1)) else
 bif (db (lV st.1.1) (qi hb st.1.1 (dH (aC aL (st.1.1+1)) (jD st.1.1 l (st.2.2.1-1) d).1).1).1).2 != 0 then
  (xY st,pC (lS st.1.1) (tl (db (lV st.1.1) (qi hb st.1.1 (dH (aC aL (st.1.1+1)) (jD st.1.1 l (st.2.2.1-1) d).1).1).1))) else
 ((lV st.1.1,(ow st.1.1 l 0,(st.2.2.1,(0,(0,()))))),tl (wW st.1.2.1 (db (lV st.1.1) (qi hb st.1.1 (dH (aC aL (st.1.1+1)) (jD st.1.1 l (st.2.2.1-1) d).1).1).1).1))
theorem vU {s:ByteArray} {d:Ty.d a_} (h:(dH s d).2=0):fT (dH s d).1 s=some ByteArray.empty:=by
 unfold dH at h ⊢
 unfold gD at h ⊢
 cases c:(kJ s d).2==0 with
 | false =>
  rw [c,aK] at h
  rw [h] at c
  cases c
 | true =>
  rw [c,aY] at h
  rw [aY]
  obtain ⟨c1,c2⟩:=pY (d:=(kJ s d).1) (g:=sa s) h
  unfold fT
  show (ax (gA (kJ s d).1 (sa s)).1.1 s).map _=_
  rw [c2]
  unfold sa at c1 ⊢
  cases c3:jk s with
  | false=>rw [c3] at c1;cases c1
  | true =>
   rw [c3] at c1
   simp only [ff,aK] at c1 ⊢
   cases c4:(ax (kJ s d).1.1 s) with
   | some f=>rw [c4] at c1;cases c1
   | none =>
    rw [c4] at c1
    simp only [Option.isSome_none,aK] at c1 ⊢
    cases c5:decide (((kJ s d).1.1.length:Int)≥130) with
    | true=>rw [c5] at c1;cases c1
    | false =>
     simp only [aK]
     rw [BC (f:=(s,(ByteArray.empty,(0,())))) c4,cF]
     rfl
theorem tY (nm:ByteArray):∀ (l:nF) (r:RD),r.2≠0→zZ nm l r=r
 | [],_,_=>rfl
 | x::l,r,h=>by
  unfold zZ
  have e:gD r (fun y=>jI y nm (aj (aU x)))=r:=by
   unfold gD
   rw [nw h]
   rfl
  rw [e]
  exact tY nm l r h
theorem Hv (nm:ByteArray):∀ (l:nF) (r:RD) (x:ByteArray),fT r.1 nm=some x→(zZ nm l r).2=0→fT (zZ nm l r).1 nm=some (x++iA l)
 | [],r,x,h,_=>by
  show fT r.1 nm=some (x++⟨#[]⟩)
  rw [h,show x++(⟨#[]⟩:ByteArray)=x from Ik x]
 | a::l,r,x,h,z=>by
  unfold zZ at z ⊢
  by_cases c:(gD r (fun y=>jI y nm (aj (aU a)))).2=0
  · obtain ⟨c1,c2,c3⟩:=mj c
    have c3:(jI r.1 nm (aj (aU a))).2=0:=c3
    have e:fT (gD r (fun y=>jI y nm (aj (aU a)))).1 nm=some (x++aj (aU a)):=by
     rw [c2]
     have:=B_ (d:=r.1) (s:=nm) (x:=aj (aU a))
     rw [c3,h] at this
     exact this
    rw [Hv nm l _ _ e z]
    show some (x++aj (aU a)++iA l)=some (x++(aj (aU a)++iA l))
    rw [DK]
  · rw [tY nm l _ c] at z
    exact absurd z c
theorem Ki {nm t:ByteArray} (h:nm≠t):∀ (l:nF) (r:RD),fT (zZ nm l r).1 t=fT r.1 t
 | [],_=>rfl
 | a::l,r=>by
  show fT (zZ nm l (gD r fun y=>jI y nm (aj (aU a)))).1 t=_
  rw [Ki h l]
  exact p0 rfl fun y=>Ec h
theorem IB {m:Int} {l:lP} {mark:Int} {d:Ty.d a_} {t:ByteArray} (h:aC aL m≠t):fT (jD m l mark d).1 t=fT d t :=
 p0 ((Ki h _ _).trans (rA h)) fun y=>vO
theorem Bw {hb:ByteArray→ByteArray} {m:Int} {d:Ty.d a_} {t:ByteArray} (h:aC bp m≠t):fT (qi hb m d).1 t=fT d t:=by
 unfold qi
 cases (m3 (aC bp m) (hb (ae d (aC aL m)).1) d).2==2 with
 | false=>exact C_ h
 | true =>
  refine (rH _ _ fun s hs=>?_).trans (C_ h)
  rw [List.mem_singleton.1 hs]
  exact h
theorem B7 {t:ByteArray}:∀ (l:List Int) (d:Ty.d a_),(∀ x ∈ l,aC aL x≠t∧aC bp x≠t)→fT (wW l d).1 t=fT d t
 | [],_,_=>rfl
 | x::l,d,h=>by
  show fT (gD (eT [aC aL x,aC bp x] d) (wW l)).1 t=_
  refine p0 (rH _ _ fun s hs=>?_) fun y=>B7 l y fun z hz=>h z (qu _ hz)
  have:=h x oh
  rcases List.mem_cons.1 hs with e | e
  · rw [e];exact this.1
  · rw [List.mem_singleton.1 e];exact this.2
theorem Ab (m:Int):∀ (l:lP) (a:Int),iZ (ow m l a)=((iA (l.map eU)).size:Int)∧wZ (ow m l a)
 | [],_=>⟨rfl,fun x hx=>by cases hx⟩
 | p::l,a=>by
  obtain ⟨i1,i2⟩:=Ab m l (a+dP (eU p))
  have hr:=me (eU p)
  refine ⟨?_,fun x hx=>?_⟩
  · show dP (eU p)+iZ (ow m l (a+dP (eU p)))=_
    rw [i1,List.map_cons,w8]
    unfold dP
    omega
  · rcases List.mem_cons.1 hx with e | e
    · rw [e];exact hr.1
    · exact i2 x e
theorem rV {x y:Int} (hx:1≤x∧x≤100000) (hy:1≤y∧y≤100000):aC bp x≠aC aL y:=fun q=>by
 have e:aC bp x=bp++g_ x:=by unfold aC;rw [aO hx];rfl
 rw [xy hy,e] at q
 have:=congrArg nb q
 rw [iT,iT] at this
 cases this
theorem H7 {x:Int} (hx:1≤x∧x≤100000):aC bp x≠d_:=fun q=>by
 have e:aC bp x=bp++g_ x:=by unfold aC;rw [aO hx];rfl
 rw [e] at q
 have:=congrArg nb q
 rw [iT] at this
 cases this
theorem I1 {s t:ByteArray} {d:Ty.d a_} (z:(m3 s t d).2=0):fT (m3 s t d).1 s=some t:=by
 unfold m3 at z ⊢
 obtain ⟨z1,e1,z2⟩:=mj z
 obtain ⟨z3,e2,z4⟩:=mj z1
 rw [e1,vO,e2]
 have:=B_ (d:=(dH s d).1) (s:=s) (x:=t)
 rw [z4,vU z3] at this
 have this:fT (jI (dH s d).1 s t).1 s=some (ByteArray.empty++t):=this
 rw [this,show (ByteArray.empty:ByteArray)=dB [] from rfl,zN]
theorem KS {d:Ty.d a_} {a b:ByteArray} (hd:DR d) (hab:a≠b) (z:(tE d a b).2=0):fT (tE d a b).1 b=fT d a:=by
 obtain ⟨c1,c2⟩:=pY z
 unfold fT
 show (ax (gA d (uz a b)).1.1 b).map _=_
 rw [c2]
 unfold uz at c1 ⊢
 cases c3:jk b with
 | false=>rw [c3] at c1;exact absurd c1 (by show (5:Int)≠0;decide)
 | true =>
  rw [c3] at c1
  simp only [ff,aK] at c1 ⊢
  cases c4:ax d.1 a with
  | none=>rw [c4] at c1;exact absurd c1 (by show (3:Int)≠0;decide)
  | some f =>
   simp only []
   rw [lW hab,aK]
   have hk:iI (jr (gm d.1 a)):=pr (n5 _ _) hd.keys
   show (ax (gh (gm (gm d.1 a) b) (b,f.2)) b).map _=_
   rw [BC (f:=(b,f.2)) (uc hk b),cF]
   rfl
theorem BF {v:Ty.d ay} {d:Ty.d a_} (hd:DR d) (z:(db v d).2=0):fT (db v d).1 d_=some (ap v):=by
 unfold db at z ⊢
 obtain ⟨z1,e1,z2⟩:=mj z
 rw [e1,KS (qZ _ _ _ hd) (by decide) z2,I1 z1]
theorem xi {n:Int} (h0:0≤n) (h1:n≤127):(iL n).size=1:=by
 unfold iL
 rw [if_pos ⟨h0,by omega⟩,← s8 (by omega)]
 unfold vl
 rw [if_neg (by omega)]
 rfl
theorem EV {n:Int} (h0:0≤n) (h1:n≤2097151):(iL n).size≤3:=by
 unfold iL
 rw [if_pos ⟨h0,by omega⟩,← s8 (by omega)]
 unfold vl
 split
 · rw [lQ]
   unfold vl
   split
   · rw [lQ]
     unfold vl
     rw [if_neg (by omega)]
     exact Nat.le_refl _
   · show 1+1≤3
     decide
 · show 1≤3
   decide
theorem IR (mark:Int) (l:nF):dP (jS 5 mark l)≤20:=by
 have key:(aU (jS 5 mark l)).size≤9:=by
  unfold aU
  by_cases c:j9 (jS 5 mark l)=true
  · rw [if_pos c]
    rcases nM c with ⟨q,_⟩ | ⟨q,_⟩ | ⟨_,_,_,h1,h2,_,_,h3,h4⟩
    · exact absurd q (by show ¬ ((5:Int)=1∨(5:Int)=4);decide)
    · exact absurd q (by show ¬ ((5:Int)=2);decide)
    · rw [if_neg (by show ¬ ((5:Int)=1∨(5:Int)=4);decide),if_neg (by show ¬ ((5:Int)=2);decide),ByteArray.size_append,ByteArray.size_append,ByteArray.size_append,kU]
      have e1:(iL (jS 5 mark l).1).size=1:=xi (n:=5) (by decide) (by decide)
      have e2:=EV (n:=(jS 5 mark l).2.1) h3 (Int.le_trans h4 (by decide))
      have e3:=xi (n:=(jS 5 mark l).2.2.2.2.1) h1 (Int.le_trans h2 (by decide))
      omega
  · rw [if_neg c]
    exact Nat.zero_le _
 unfold dP aj
 rw [if_neg (by omega),ByteArray.size_append,kU]
 unfold jq
 rw [ByteArray.size_append,xi (by omega) (by omega)]
 omega
theorem CV (m:Int):∀ (l:lP) (a:Int),(ow m l a).length=l.length
 | [],_=>rfl
 | p::l,a=>by
  show (ow m l (a+dP (eU p))).length+1=_
  rw [CV m l]
  rfl
theorem HM {hb:ByteArray→ByteArray} {st:Ty.d aG} {d:Ty.d a_} {c:Int} {l:lP} (h:IV (st,(d,c))) (hl:dG st.1=true) (hn:LE.le (α:=Int) (st.1.1+2) 100000) (hlen:l.length≤268435456) :
 IV (kF hb st d l)∧((kF hb st d l).2.2=0→(jL (kF hb st d l).2.1 (kF hb st d l).1.1.2.1:Int)=x_ l (st.2.2.1-1)∧(jL (kF hb st d l).2.1 (kF hb st d l).1.1.2.1:Int)-iZ (kF hb st d l).1.2.1≤20 ∧
  fT (kF hb st d l).2.1 (aC aL st.1.1)=some (iA (rR l (st.2.2.1-1)))∧fT (kF hb st d l).2.1 (aC aL (st.1.1+1))=some ByteArray.empty∧(kF hb st d l).1=(lV st.1.1,(ow st.1.1 l 0,(st.2.2.1,(0,(0,()))))) ∧
  fT (kF hb st d l).2.1 d_=some (ap (lV st.1.1))):=by
 obtain ⟨n1,n2,n3,_⟩:=mK (n:=st.1.1) (ids:=st.1.2.1) hl
 have hd:DR d:=h.disk
 have hsum:iZ st.2.1≤(jL d st.1.2.1:Int):=h.sum
 have hm:(1:Int)≤st.1.1∧st.1.1≤(100000:Int):=⟨n1,n2⟩
 have hm1:LE.le (α:=Int) 1 (st.1.1+1)∧LE.le (α:=Int) (st.1.1+1) 100000:=⟨by omega,by omega⟩
 have hseg:∀ x:Int,x ∈ st.1.2.1→1≤x∧x≤100000:=fun x hx=>⟨(n3 x hx).1,by have:=(n3 x hx).2;omega⟩
 have no1:∀ x ∈ st.1.2.1,aC aL st.1.1≠aC aL x:=fun x hx=>tQ hm (hseg x hx) (by have:=(n3 x hx).2;omega)
 have no2:∀ x ∈ st.1.2.1,aC aL (st.1.1+1)≠aC aL x:=fun x hx=>tQ hm1 (hseg x hx) (by have:=(n3 x hx).2;omega)
 have no3:∀ x ∈ st.1.2.1,aC bp st.1.1≠aC aL x:=fun x hx=>rV hm (hseg x hx)
 have no4:aC aL (st.1.1+1)≠aC aL st.1.1:=tQ hm1 hm (by omega)
 have jump:∀ r:RD,DR r.1→(∀ x ∈ st.1.2.1,fT r.1 (aC aL x)=fT d (aC aL x))→IV (xY st,r):=fun r hr k=>⟨hr,h.ids,h.dir,h.non,by
  show iZ st.2.1≤(jL r.1 st.1.2.1:Int)
  rw [kW k]
  exact hsum⟩
 have dropK:∀ (r:RD),DR r.1→(∀ x ∈ st.1.2.1,fT r.1 (aC aL x)=fT d (aC aL x))→r.2≠0→IV (xY st,pC (lS st.1.1) r)∧(pC (lS st.1.1) r).2≠0:=fun r hr k hz=>by
  unfold pC
  cases r.2==2 with
  | false=>exact ⟨jump r hr k,hz⟩
  | true =>
   refine ⟨jump _ (n9 _ _ hr) fun x hx=>(rH _ _ fun s hs=>?_).trans (k x hx),?_⟩
   · unfold lS at hs
     rcases List.mem_cons.1 hs with e | e
     · rw [e];exact o7 (hseg x hx)
     rcases List.mem_cons.1 e with e | e
     · rw [e];exact no1 x hx
     rcases List.mem_cons.1 e with e | e
     · rw [e];exact no2 x hx
     · rw [List.mem_singleton.1 e];exact no3 x hx
   · show (bif (eT (lS st.1.1) r.1).2==0 then (2:Int) else fj (eT (lS st.1.1) r.1).2)≠0
     cases q:(eT (lS st.1.1) r.1).2==0 with
     | true =>
      show (2:Int)≠0
      decide
     | false =>
      intro e
      have:=j7 (eT (lS st.1.1) r.1).2
      rw [q] at this
      simp only [aK] at e
      rw [e] at this
      cases this
 have tlnz:∀ r:RD,(r.2 != 0)=true→(tl r).2≠0:=fun r q e=>by
  have:=J2 r
  rw [e,q] at this
  cases this
 have a0:DR (jD st.1.1 l (st.2.2.1-1) d).1:=by
  refine lN ?_ fun x hx=>nP hx _
  have:∀ (rs:nF) (r:RD),DR r.1→DR (zZ (aC aL st.1.1) rs r).1:=by
   intro rs
   induction rs with
   | nil=>exact fun r hr=>hr
   | cons x rs ih=>exact fun r hr=>ih _ (lN hr fun y hy=>pJ hy _ _)
  exact this _ _ (lb _ _ hd)
 have a1:∀ x ∈ st.1.2.1,fT (jD st.1.1 l (st.2.2.1-1) d).1 (aC aL x)=fT d (aC aL x):=fun x hx=>IB (no1 x hx)
 have a2:(jD st.1.1 l (st.2.2.1-1) d).2=0→fT (jD st.1.1 l (st.2.2.1-1) d).1 (aC aL st.1.1)=some (iA (rR l (st.2.2.1-1))):=fun z=>by
  unfold jD at z ⊢
  obtain ⟨z1,z2,_⟩:=mj z
  rw [z2]
  rw [vO]
  have z0:(dH (aC aL st.1.1) d).2=0:=by
   by_cases w:(dH (aC aL st.1.1) d).2=0
   · exact w
   · rw [tY _ _ _ w] at z1
     exact absurd z1 w
  have:=Hv (aC aL st.1.1) (rR l (st.2.2.1-1)) (dH (aC aL st.1.1) d) ByteArray.empty (vU z0) z1
  rw [this,show (ByteArray.empty:ByteArray)=dB [] from rfl,zN]
 unfold kF
 generalize jD st.1.1 l (st.2.2.1-1) d=a at a0 a1 a2 ⊢
 cases ca:a.2 != 0 with
 | true =>
  obtain ⟨g1,g2⟩:=dropK (tl a) a0 a1 (tlnz a ca)
  exact ⟨g1,fun e=>absurd e g2⟩
 | false =>
  have b0:=lb (aC aL (st.1.1+1)) a.1 a0
  have b1:∀ x ∈ st.1.2.1,fT (dH (aC aL (st.1.1+1)) a.1).1 (aC aL x)=fT d (aC aL x):=fun x hx=>(rA (no2 x hx)).trans (a1 x hx)
  have b2:=(rA (d:=a.1) no4).trans (a2 (qQ ca))
  have b3:=vU (s:=aC aL (st.1.1+1)) (d:=a.1)
  simp only [aK]
  generalize dH (aC aL (st.1.1+1)) a.1=b at b0 b1 b2 b3 ⊢
  cases cb:b.2 != 0 with
  | true =>
   obtain ⟨g1,g2⟩:=dropK (tl b) b0 b1 (tlnz b cb)
   exact ⟨g1,fun e=>absurd e g2⟩
  | false =>
   have b3:=b3 (qQ cb)
   have c0:DR (qi hb st.1.1 b.1).1:=by
    unfold qi
    cases (m3 (aC bp st.1.1) (hb (ae b.1 (aC aL st.1.1)).1) b.1).2==2 with
    | true=>exact n9 _ _ (qZ _ _ _ b0)
    | false=>exact qZ _ _ _ b0
   have c1:∀ x ∈ st.1.2.1,fT (qi hb st.1.1 b.1).1 (aC aL x)=fT d (aC aL x):=fun x hx=>(Bw (no3 x hx)).trans (b1 x hx)
   have c2:=(Bw (hb:=hb) (d:=b.1) (rV hm hm)).trans b2
   have c3:=(Bw (hb:=hb) (d:=b.1) (rV hm hm1)).trans b3
   simp only [aK]
   generalize qi hb st.1.1 b.1=e at c0 c1 c2 c3 ⊢
   cases ce:e.2 != 0 with
   | true=>exact ⟨jump (tl e) c0 c1,fun z=>absurd z (tlnz e ce)⟩
   | false =>
    have d0:=oC (lV st.1.1) _ c0
    have d1:∀ x ∈ st.1.2.1,fT (db (lV st.1.1) e.1).1 (aC aL x)=fT d (aC aL x):=fun x hx=>(qL (o7 (hseg x hx)) (pf (hseg x hx))).trans (c1 x hx)
    have d2:=(qL (d:=e.1) (v:=lV st.1.1) (o7 hm) (pf hm)).trans c2
    have d3:=(qL (d:=e.1) (v:=lV st.1.1) (o7 hm1) (pf hm1)).trans c3
    have d4:=BF (v:=lV st.1.1) c0
    simp only [aK]
    generalize db (lV st.1.1) e.1=f at d0 d1 d2 d3 d4 ⊢
    cases cf:f.2 != 0 with
    | true =>
     obtain ⟨g1,g2⟩:=dropK (tl f) d0 d1 (tlnz f cf)
     exact ⟨g1,fun z=>absurd z g2⟩
    | false =>
     simp only [aK]
     have o0:∀ (ids:List Int) (x:Ty.d a_),DR x→DR (wW ids x).1:=by
      intro ids
      induction ids with
      | nil=>exact fun x hx=>hx
      | cons y ids ih=>exact fun x hx=>lN (n9 _ _ hx) fun z hz=>ih z hz
     have o2:=(B7 st.1.2.1 f.1 fun x hx=>⟨fun q=>no1 x hx q.symm,rV (hseg x hx) hm⟩).trans d2
     have o3:=(B7 st.1.2.1 f.1 fun x hx=>⟨fun q=>no2 x hx q.symm,rV (hseg x hx) hm1⟩).trans d3
     have o4:=(B7 st.1.2.1 f.1 fun x hx=>⟨fun q=>pf (hseg x hx) q.symm,H7 (hseg x hx)⟩).trans (d4 (qQ cf))
     have o1:=o0 st.1.2.1 f.1 d0
     generalize wW st.1.2.1 f.1=o at o1 o2 o3 o4 ⊢
     obtain ⟨l1,l2⟩:=Ab st.1.1 l 0
     have hk:=IR (st.2.2.1-1) (l.map eU)
     have hk0:=(me (jS 5 (st.2.2.1-1) (l.map eU))).1
     have tot:(jL o.1 [st.1.1,st.1.1+1]:Int)=iZ (ow st.1.1 l 0)+dP (jS 5 (st.2.2.1-1) (l.map eU)):=by
      unfold jL Gk
      rw [List.map_cons,List.map_singleton,List.sum_cons,List.sum_singleton,o2,o3,l1]
      simp only [Option.getD_some]
      unfold rR
      rw [vx,ByteArray.size_append]
      have e1:(iA [jS 5 (st.2.2.1-1) (l.map eU)]).size=(aj (aU (jS 5 (st.2.2.1-1) (l.map eU)))).size:=by rw [w8];rfl
      have e2:(ByteArray.empty:ByteArray).size=0:=rfl
      rw [e1,e2]
      unfold dP
      omega
     have tot0:(jL o.1 [st.1.1,st.1.1+1]:Int)=x_ l (st.2.2.1-1):=by
      unfold jL Gk x_
      rw [List.map_cons,List.map_singleton,List.sum_cons,List.sum_singleton,o2,o3]
      rfl
     refine ⟨⟨o1,(show 2≤60 by decide),?_,l2,?_⟩,fun _=>⟨tot0,?_,o2,o3,by trivial,o4⟩⟩
     · show (ow st.1.1 l 0).length≤_
       rw [CV]
       exact hlen
     · show iZ (ow st.1.1 l 0)≤(jL o.1 [st.1.1,st.1.1+1]:Int)
       omega
     · show (jL o.1 [st.1.1,st.1.1+1]:Int)-iZ (ow st.1.1 l 0)≤20
       omega
theorem qw {k:Nat} (hk:2 ^ 50≤k) (st:Ty.d aG) {r:RD} (hd:DR r.1) {m:Int} (h0:1≤m) (h1:m≤100000):dr.f k st r.1 m r.2=some (st,((pC (lS m) r).1,((pC (lS m) r).2,()))):=by
 unfold dr.f dr.t pC
 cases c:r.2==2 with
 | false =>
  have:(r.2 != 2)=true:=by unfold bne;rw [c];rfl
  rw [this]
  rfl
 | true =>
  have:(r.2 != 2)=false:=by unfold bne;rw [c];rfl
  rw [this]
  simp only [aK,aY]
  rw [aE (n:=m+1) (by omega) (by omega),ba hk,aQ,ba hk,aQ,iQ hk,aQ]
  simp only []
  rw [show ([(⟨#[116,101,109,112]⟩:ByteArray),aC aL m,aC aL (m+1),aC bp m]:List ByteArray)=lS m from rfl,nh hk hd (by unfold lS;simp),aQ]
  simp only [bne]
  cases q:(eT (lS m) r.1).2==0 with
  | true=>rw [Gj c];rfl
  | false=>simp only [qj,aY,aK,dF,aQ]
theorem Bq (k:Nat) (p:Ty.d yB):lB.f k p=some (eU p,()):=rfl
theorem ET {k:Nat} (hk:2 ^ 50≤k) (ids old:List Int) (dir:ab) (nx b s h:Int) (ho:old.length≤1073741824) {d:Ty.d a_} (hd:DR d) :
 cA.l0 k k 0 ids dir nx b s h [] [] 0 0 0 0 [] 0 0 false d.1 d.2.1 d.2.2.1 d.2.2.2.1 old=some (((nx,(ids,())),(dir,(b,(s,(h,()))))),((tl (wW old d)).1,((tl (wW old d)).2,()))):=by
 refine eV (L:=fun n i (x:Ty.d a_)=>cA.l0 k n i ids dir nx b s h [] [] 0 0 0 0 [] 0 0 false x.1 x.2.1 x.2.2.1 x.2.2.2.1 old) (R:=fun r x=>(some (((nx,(ids,())),(dir,(b,(s,(h,()))))),((tl (wW r x)).1,((tl (wW r x)).2,()))):cA.Rs))
  (Ty.z (.int .i64)) old (fun _ x=>DR x) (fun n x hx=>?_) (fun n i x y rest h0 h1 hy hr hx ih=>?_) (n:=k) (s:=d) (by omega) hd
 · simp only [cA.l0,cA.b0]
   rw [aP (by omega),aK]
   rfl
 · simp only [cA.l0,cA.b0]
   rw [aO h1,aY,aH h0 h1,hy,ba hk,aQ,aH h0 h1,iQ hk,aQ]
   simp only []
   rw [show (x.1,(x.2.1,(x.2.2.1,(x.2.2.2.1,()))))=x from rfl,nh hk hx (by simp),aQ,aE (n:=i+1) (by omega) (by omega)]
   have hz:=n9 [aC aL y,aC bp y] x hx
   simp only [wW]
   generalize eT [aC aL y,aC bp y] x=q at hz ⊢
   unfold gD
   simp only [bne]
   cases c:q.2==0 with
   | false=>simp only [qj,aY,aK,dF,aQ];rfl
   | true =>
    simp only [ff,aY,aK]
    exact ih q.1 hz
def BZ (m:Int):lP→RD→ab→Int→ab
 | [],_,dir,_=>dir
 | p::l,r,dir,a=>bif r.2==0 then BZ m l (jI r.1 (aC aL m) (aj (aU (eU p)))) (dir++[(p.1,(m,(a,(dP (eU p),(p.2.2.1,())))))]) (a+dP (eU p)) else dir
theorem Fe (m:Int):∀ (l:lP) (r:RD) (dir:ab) (a:Int),r.2=0→(zZ (aC aL m) (l.map eU) r).2=0→BZ m l r dir a=dir++ow m l a
 | [],_,dir,_,_,_=>(List.append_nil dir).symm
 | p::l,r,dir,a,h,z=>by
  have e:gD r (fun y=>jI y (aC aL m) (aj (aU (eU p))))=jI r.1 (aC aL m) (aj (aU (eU p))):=by
   unfold gD
   rw [h]
   rfl
  have z:(zZ (aC aL m) (l.map eU) (gD r fun y=>jI y (aC aL m) (aj (aU (eU p))))).2=0:=z
  rw [e] at z
  have z2:(jI r.1 (aC aL m) (aj (aU (eU p)))).2=0:=by
   by_cases w:(jI r.1 (aC aL m) (aj (aU (eU p)))).2=0
   · exact w
   · rw [tY _ _ _ w] at z
     exact absurd z w
  unfold BZ
  rw [show (r.2==0)=true by rw [h];rfl,aY,Fe m l _ _ _ z2 z,s7]
  rfl
theorem zv {k:Nat} (hk:2 ^ 50≤k) {d:Ty.d a_} (hd:DR d) (m:Int) {l:lP} (hl:l.length≤1000000) (mark:Int) :
 e_.f k d m l mark=some ((jD m l mark d).1,(BZ m l (dH (aC aL m) d) [] 0,(fj (jD m l mark d).2,()))):=by
 have hsz:=yS m
 unfold e_.f e_.t
 rw [ba hk,aQ]
 simp only []
 rw [nn hk hd (by omega),aQ]
 simp only []
 have hf:=lb (aC aL m) d hd
 unfold jD rR
 generalize dH (aC aL m) d=r0 at hf ⊢
 refine eV (L:=fun n i (s:RD × ab × Int × nF)=>e_.l0 k n m l mark s.1.2 s.2.2.1 i [] 0 0 false s.2.1 s.1.1.1 s.1.1.2.1 s.1.1.2.2.1 s.1.1.2.2.2.1 s.2.2.2)
  (R:=fun r s=>(some ((gD (zZ (aC aL m) (r.map eU++[jS 5 mark (l.map eU)]) s.1) fun y=>iv y (aC aL m)).1,(BZ m r s.1 s.2.1 s.2.2.1,(fj (gD (zZ (aC aL m) (r.map eU++[jS 5 mark (l.map eU)]) s.1) fun y=>iv y (aC aL m)).2,()))):e_.Rs))
  (Ty.z yB) l (fun i s=>DR s.1.1∧(s.1.2=0→s.2.2.2=(l.take i.toNat).map eU)∧0≤s.2.2.1∧s.2.2.1≤211*i∧(s.2.1.length:Int)≤i∧(s.2.2.2.length:Int)≤i) (fun n s hs=>?_) (fun n i s x rest h0 h1 hx hr hs ih=>?_) (n:=k) (s:=(r0,([],(0,[])))) (by omega) ⟨hf,fun _=>rfl,Int.le_refl _,by simp,by simp,by simp⟩
 · obtain ⟨r,dir,a,recs⟩:=s
   obtain ⟨g1,g2,g3,g4,g5,g6⟩:=hs
   simp only [] at g1 g2 g3 g4 g5 g6 ⊢
   simp only [e_.l0,e_.b0]
   rw [aP (by omega),aK]
   simp only [List.map_nil,List.nil_append,zZ,BZ]
   by_cases c:r.2=0
   · rw [Int.toNat_natCast,List.take_length] at g2
     rw [show (r.2==0)=true by rw [c];rfl,aY,ba hk,aQ,g2 c,nK hk (by rw [List.length_map];omega),aQ]
     simp only []
     rw [cR hk,aQ]
     simp only []
     rw [jP hk,aQ]
     simp only []
     have hfz:=iK (aU (jS 5 mark (l.map eU)))
     rw [show (r.1.1,(r.1.2.1,(r.1.2.2.1,(r.1.2.2.2.1,()))))=r.1 from rfl,oI hk g1.sz (aC aL m) (by omega),aQ]
     simp only []
     have ha:=pJ g1 (aC aL m) (aj (aU (jS 5 mark (l.map eU))))
     rw [show gD r (fun y=>jI y (aC aL m) (aj (aU (jS 5 mark (l.map eU)))))=jI r.1 (aC aL m) (aj (aU (jS 5 mark (l.map eU)))) by unfold gD;rw [c];rfl]
     generalize jI r.1 (aC aL m) (aj (aU (jS 5 mark (l.map eU))))=q at ha ⊢
     unfold gD
     cases c2:q.2==0 with
     | true =>
      simp only [aY]
      rw [aQ]
      simp only []
      rw [lq hk ha.sz,aQ,dF,aQ]
     | false=>simp only [aK,dF,aQ]
   · rw [nw c]
     have e:gD r (fun y=>jI y (aC aL m) (aj (aU (jS 5 mark (l.map eU)))))=r:=by unfold gD;rw [nw c];rfl
     rw [e]
     unfold gD
     rw [nw c]
     simp only [aK,dF,aQ]
 · obtain ⟨r,dir,a,recs⟩:=s
   obtain ⟨g1,g2,g3,g4,g5,g6⟩:=hs
   simp only [] at g1 g2 g3 g4 g5 g6 ih ⊢
   have hi:i.toNat<l.length:=by omega
   have et:l.take (i+1).toNat=l.take i.toNat++[x]:=by
    rw [show (i+1).toNat=i.toNat+1 by omega,List.take_succ_eq_append_getElem hi]
    congr 2
    rw [← hx]
    simp [List.getD,hi]
   simp only [e_.l0,e_.b0]
   rw [aO h1,aY]
   simp only [List.map_cons,List.cons_append,zZ,BZ]
   by_cases c:r.2=0
   · have hr:=me (eU x)
     have hfz:=iK (aU (eU x))
     have hz:((aj (aU (eU x))).size:Int)=dP (eU x):=rfl
     rw [show (r.2==0)=true by rw [c];rfl,aY,aH h0 h1,hx,Bq,aQ]
     simp only []
     rw [cR hk,aQ]
     simp only []
     rw [jP hk,aQ]
     simp only []
     rw [ba hk,aQ]
     simp only []
     rw [show (r.1.1,(r.1.2.1,(r.1.2.2.1,(r.1.2.2.2.1,()))))=r.1 from rfl,oI hk g1.sz (aC aL m) (by omega),aQ]
     simp only []
     rw [bO (by omega) (by decide),bO (by omega) (by decide),hz,aE (n:=a+dP (eU x)) (by omega) (by omega),aE (n:=i+1) (by omega) (by omega)]
     have ha:=pJ g1 (aC aL m) (aj (aU (eU x)))
     rw [show gD r (fun y=>jI y (aC aL m) (aj (aU (eU x))))=jI r.1 (aC aL m) (aj (aU (eU x))) by unfold gD;rw [c];rfl,aY]
     exact ih (jI r.1 (aC aL m) (aj (aU (eU x))),(dir++[(x.1,(m,(a,(dP (eU x),(x.2.2.1,())))))],(a+dP (eU x),recs++[eU x]))) ⟨ha,fun _=>by simp only [];rw [g2 c,et,List.map_append];rfl,by simp only [];omega,by simp only [];omega,by simp only [];rw [xF,List.length_singleton];omega,by simp only [];rw [xF,List.length_singleton];omega⟩
   · rw [nw c]
     have e:gD r (fun y=>jI y (aC aL m) (aj (aU (eU x))))=r:=by unfold gD;rw [nw c];rfl
     rw [e,tY _ _ _ c]
     unfold gD
     rw [nw c]
     simp only [aK,dF,aQ]
noncomputable def Mi (m:Int) (s:ByteArray):ByteArray:=c8 (g9 m s).1
theorem Hs (nm:ByteArray):∀ (l m:nF) (r:RD),zZ nm (l++m) r=zZ nm m (zZ nm l r)
 | [],_,_=>rfl
 | x::l,m,r=>by
  exact Hs nm l m (gD r fun y=>jI y nm (aj (aU x)))
theorem Kr (nm:ByteArray):∀ (rs:nF) (r:RD),DR r.1→DR (zZ nm rs r).1
 | [],_,h=>h
 | x::rs,r,h=>Kr nm rs _ (lN h fun y hy=>pJ hy _ _)
theorem Hz (m:Int) (l:lP) (mark:Int) {d:Ty.d a_} (hd:DR d):DR (jD m l mark d).1 :=
 lN (Kr _ _ _ (lb _ _ hd)) fun x hx=>nP hx _
theorem Gz {m:Int} {l:lP} {mark:Int} {d:Ty.d a_} (h:(jD m l mark d).2=0):BZ m l (dH (aC aL m) d) [] 0=ow m l 0:=by
 unfold jD at h
 obtain ⟨z1,z2,_⟩:=mj h
 unfold rR at z1
 rw [Hs] at z1
 have z3:(zZ (aC aL m) (l.map eU) (dH (aC aL m) d)).2=0:=by
  by_cases w:(zZ (aC aL m) (l.map eU) (dH (aC aL m) d)).2=0
  · exact w
  · rw [tY _ _ _ w] at z1
    exact absurd z1 w
 have z0:(dH (aC aL m) d).2=0:=by
  by_cases w:(dH (aC aL m) d).2=0
  · exact w
  · rw [tY _ _ _ w] at z3
    exact absurd z3 w
 rw [Fe m l _ [] 0 z0 z3,List.nil_append]
theorem IP {m:Int} (h0:1≤m) (h1:m+2≤100000):dG (lV m)=true:=by
 have e:aF (m+2-1)=m+1:=by rw [aE (n:=m+2-1) (by omega) (by omega)];omega
 unfold dG lV
 simp only []
 rw [aO (show (1:Int)≤m+2∧m+2≤100000 from ⟨by omega,h1⟩),e]
 simp only [qs,nz,lQ,List.length_nil]
 rw [aO (show (1:Int)≤m∧m≤m+1 from ⟨h0,by omega⟩),aO (show (1:Int)≤m+1∧m+1≤m+1 from ⟨by omega,by omega⟩),aO (show m<m+1 by omega)]
 rfl
theorem G1 (c:Int):(fj c != 0)=(c != 0):=by unfold bne;rw [j7]
theorem zF {k:Nat} (hk:2 ^ 50≤k) {st:Ty.d aG} (hl:dG st.1=true) (hn:LE.le (α:=Int) (st.1.1+2) 100000) {f:Ty.d a_} (hf:DR f) (dir:ab) :
 (rm (Ty.bytes (.int .i64)) (0+List.length st.1.2.1) ((fE.f k f (st.1.1+2,([st.1.1,st.1.1+1],()))).bind fun r16=>(bif (r16.2.1 != 0) then ((dr.f k ((st.1.1+2,st.1.2),st.2) r16.1 st.1.1 r16.2.1).bind fun r17=>(some r17)) else
  (cA.l0 k k 0 [st.1.1,st.1.1+1] dir (st.1.1+2) st.2.2.1 0 0 [] [] 0 0 0 0 [] 0 0 false r16.1.1 r16.1.2.1 r16.1.2.2.1 r16.1.2.2.2.1 ([]++st.1.2.1)))):cA.Rs) =
 some (oS (bif (db (lV st.1.1) f).2 != 0 then (xY st,pC (lS st.1.1) (tl (db (lV st.1.1) f))) else ((lV st.1.1,(dir,(st.2.2.1,(0,(0,()))))),tl (wW st.1.2.1 (db (lV st.1.1) f).1)))):=by
 obtain ⟨n1,n2,n3,_⟩:=mK (n:=st.1.1) (ids:=st.1.2.1) hl
 have h60:st.1.2.1.length≤60:=(dY (nx:=st.1.1) (ids:=st.1.2.1) hl).2.2.2.1
 rw [bO (by omega) (by decide),oU hk hf (v:=(st.1.1+2,([st.1.1,st.1.1+1],()))) (IP n1 hn),aQ]
 rw [show ((st.1.1+2,([st.1.1,st.1.1+1],())):Ty.d ay)=lV st.1.1 from rfl]
 have hp:=oC (lV st.1.1) f hf
 generalize db (lV st.1.1) f=q at hp ⊢
 simp only []
 rw [G1]
 cases c:q.2 != 0 with
 | true =>
  simp only [aY]
  rw [show fj q.2=(tl q).2 from rfl,show q.1=(tl q).1 from rfl,qw hk _ (r:=tl q) hp n1 n2,aQ]
  rfl
 | false =>
  simp only [aK,List.nil_append]
  rw [ET hk _ _ _ _ _ _ _ (by omega) hp]
  rfl
theorem A7 {k:Nat} (hk:2 ^ 50≤k) {st:Ty.d aG} {d:Ty.d a_} (hd:DR d) (hl:dG st.1=true) (hn:LE.le (α:=Int) (st.1.1+2) 100000) (hb0:LE.le (α:=Int) 1 st.2.2.1) (hb1:LE.le (α:=Int) st.2.2.1 1000001) {l:lP} (hlen:l.length≤1000000) :
 cA.f k st d l=some (oS (kF (Mi st.1.1) st d l)):=by
 obtain ⟨n1,n2,n3,_⟩:=mK (n:=st.1.1) (ids:=st.1.2.1) hl
 have s1:=yS st.1.1
 have s2:=yS (st.1.1+1)
 have s3:=ro (.inr rfl:bp=aL∨bp=bp) st.1.1
 unfold cA.f cA.t
 rw [aE (n:=st.2.2.1-1) (by omega) (by omega),aE (n:=st.1.1+2) (by omega) (by omega),aE (n:=st.1.1+1) (by omega) (by omega),zv hk hd _ hlen,aQ]
 simp only []
 have a0:=Hz st.1.1 l (st.2.2.1-1) hd
 have a1:=Gz (m:=st.1.1) (l:=l) (mark:=st.2.2.1-1) (d:=d)
 unfold kF
 generalize BZ st.1.1 l (dH (aC aL st.1.1) d) [] 0=dir at a1 ⊢
 generalize jD st.1.1 l (st.2.2.1-1) d=a at a0 a1 ⊢
 rw [G1]
 cases ca:a.2 != 0 with
 | true =>
  simp only [aY]
  rw [show fj a.2=(tl a).2 from rfl,show a.1=(tl a).1 from rfl,qw hk _ (r:=tl a) a0 n1 n2,aQ]
  rfl
 | false =>
  simp only [aK]
  rw [a1 (qQ ca),ba hk,aQ]
  simp only []
  rw [nn hk a0 (by omega),aQ]
  simp only []
  have b0:=lb (aC aL (st.1.1+1)) a.1 a0
  generalize dH (aC aL (st.1.1+1)) a.1=b at b0 ⊢
  cases cb:b.2 != 0 with
  | true =>
   simp only [aY]
   rw [dF,aQ]
   simp only []
   rw [show fj b.2=(tl b).2 from rfl,show b.1=(tl b).1 from rfl,qw hk _ (r:=tl b) b0 n1 n2,aQ]
   rfl
  | false =>
   have hl':=b0.sz.l
   have hu':=b0.sz.u
   have hn':=b0.sz.n
   have ht:=iS b.1 (aC aL st.1.1)
   have hcap:LE.le (α:=Int) (cO b.1.1) 100000:=Int.le_trans b0.use b0.cap1
   simp only [aK]
   rw [ba hk,aQ]
   simp only []
   rw [iF hk (by omega) (by omega) (by omega),aQ]
   simp only []
   rw [p7 hk _ (by omega),aQ,iQ hk,aQ]
   simp only []
   rw [kM hk,aQ]
   simp only []
   rw [vw hk b0 (by omega) (by have:=mu (g9 st.1.1 (ae b.1 (aC aL st.1.1)).1).1;omega),aQ]
   simp only []
   unfold qi
   rw [show Mi st.1.1 (ae b.1 (aC aL st.1.1)).1=c8 (g9 st.1.1 (ae b.1 (aC aL st.1.1)).1).1 from rfl]
   have c0:=qZ (aC bp st.1.1) (c8 (g9 st.1.1 (ae b.1 (aC aL st.1.1)).1).1) b.1 b0
   generalize m3 (aC bp st.1.1) (c8 (g9 st.1.1 (ae b.1 (aC aL st.1.1)).1).1) b.1=e at c0 ⊢
   cases ce:e.2==2 with
   | true =>
    simp only [aY]
    rw [aQ]
    simp only []
    rw [nh hk c0 (by simp),aQ]
    simp only []
    have d0:=n9 [aC bp st.1.1] e.1 c0
    generalize eT [aC bp st.1.1] e.1=f at d0 ⊢
    cases cf:f.2 != 0 with
    | true =>
     simp only [aY]
     rw [dF,aQ]
     rfl
    | false =>
     simp only [aK]
     exact zF hk hl hn d0 _
   | false =>
    simp only [aK]
    cases cf:e.2 != 0 with
    | true =>
     simp only [aY]
     rw [dF,aQ]
     rfl
    | false =>
     simp only [aK]
     exact zF hk hl hn c0 _
noncomputable def lU (st:Ty.d aG) (d:Ty.d a_):Ty.d aG × RD :=
 bif !mX st d then (st,(d,4)) else bif decide (st.1.1+2 > 100000) then (st,(d,5)) else
 bif (mU st.2.1 d).2 != 0 then (st,(d,(mU st.2.1 d).2)) else kF (Mi st.1.1) st d (mU st.2.1 d).1
theorem FU {st:Ty.d aG} {d:Ty.d a_} (h:mX st d=true):LE.le (α:=Int) 1 st.2.2.1∧LE.le (α:=Int) st.2.2.1 1000001:=by
 unfold mX at h
 simp only [ke,decide_eq_true_eq] at h
 exact h.2.2.2.1
theorem C2 {k:Nat} (hk:2 ^ 50≤k) {st:Ty.d aG} {d:Ty.d a_} (hd:p6 d) (h1:st.1.2.1.length≤1073741824) (h2:st.2.1.length≤536870912):kB.f k st d=some (oS (lU st d)):=by
 have ec:fb.f k st=some (st,()):=by
  unfold fb.f fb.t
  rw [bO (by omega) (by decide),bO (by omega) (by decide),List.nil_append,List.nil_append]
 unfold kB.f kB.t lU
 rw [ec,aQ]
 simp only []
 rw [kD k hd,aQ]
 simp only []
 rw [uY hk hd,aQ]
 simp only []
 cases c1:mX st d with
 | false=>rfl
 | true =>
  obtain ⟨g1,g2,g3⟩:=nE c1
  obtain ⟨n1,n2,_,_⟩:=mK (n:=st.1.1) (ids:=st.1.2.1) g1.live
  simp only [ff,aK]
  rw [aE (n:=st.1.1+2) (by omega) (by omega)]
  by_cases c2:st.1.1+2 > (100000:Int)
  · rw [aO c2];rfl
  · rw [aP c2]
    simp only [aK]
    rw [wB hk hd (by omega),aQ]
    simp only []
    have hz:=vh st.2.1 d
    obtain ⟨b1,b2⟩:=FU c1
    cases (mU st.2.1 d).2 != 0 with
    | true=>rfl
    | false =>
     simp only [aK]
     rw [A7 hk g1.disk g1.live (Int.not_lt.1 c2) b1 b2 (by omega),aQ]
theorem JN {st:Ty.d aG} {d:Ty.d a_} {c:Int} (h:IV (st,(d,c))):IV (lU st d)∧((lU st d).2.2=0→(mX st d=true∧(mU st.2.1 d).2=0∧(jL (lU st d).2.1 (lU st d).1.1.2.1:Int)=x_ (mU st.2.1 d).1 (st.2.2.1-1))∧(jL (lU st d).2.1 (lU st d).1.1.2.1:Int)-iZ (lU st d).1.2.1≤20):=by
 have same:∀ z:Int,IV (st,(d,z)):=fun z=>⟨h.disk,h.ids,h.dir,h.non,h.sum⟩
 unfold lU
 cases c1:mX st d with
 | false=>exact ⟨same _,fun e=>absurd e (by show (4:Int)≠0;decide)⟩
 | true =>
  obtain ⟨g1,g2,g3⟩:=nE c1
  simp only [ff,aK]
  by_cases c2:st.1.1+2 > (100000:Int)
  · rw [aO c2]
    exact ⟨same _,fun e=>absurd e (by show (5:Int)≠0;decide)⟩
  · rw [aP c2]
    simp only [aK]
    have hz:=vh st.2.1 d
    cases c3:(mU st.2.1 d).2 != 0 with
    | true=>exact ⟨same _,fun e=>absurd e (by intro q;rw [show (mU st.2.1 d).2=0 from q] at c3;cases c3)⟩
    | false =>
     simp only [aK]
     obtain ⟨q1,q2⟩:=HM (hb:=Mi st.1.1) h g1.live (Int.not_lt.1 c2) (l:=(mU st.2.1 d).1) (by omega)
     exact ⟨q1,fun e=>⟨⟨by trivial,qQ c3,(q2 e).1⟩,(q2 e).2.1⟩⟩
def FL (s:ByteArray):Prop:=∃ rs:nF,(∀ r ∈ rs,j9 r=true)∧s=iA rs
theorem vZ (s:ByteArray):ByteArray.extract s 0 s.size=s:=kt (by rw [jC,List.drop_zero])
structure BT (st:Ty.d aG) (d:Ty.d a_):Prop where
 live:dG st.1=true
 disk:DR d
 full:∀ x ∈ st.1.2.1,∃ t,fT d (aC aL x)=some t∧FL t
 tail:∀ t,fT d (jM st)=some t→st.2.2.2.1=(t.size:Int)
theorem yt (v:Ty.d ay):(ap v).size≤211:=by
 unfold ap
 split
 · exact iK (lf v)
 · decide
abbrev fQ:=Ty.d ag
def CI (c:fQ):Prop:=(0:Int)≤c.2.1∧c.2.1≤(c.1.length:Int)∧c.1.length≤1048576
theorem Ba (y:Int):0≤aF (((BitVec.ofInt (IntKind.bits .i64) y &&& BitVec.ofInt (IntKind.bits .i64) 255).toNat:Int))∧aF (((BitVec.ofInt (IntKind.bits .i64) y &&& BitVec.ofInt (IntKind.bits .i64) 255).toNat:Int))≤255:=by
 have h:(BitVec.ofInt (IntKind.bits .i64) y &&& BitVec.ofInt (IntKind.bits .i64) 255).toNat≤255:=by
  rw [BitVec.toNat_and]
  exact Nat.le_trans Nat.and_le_right (by decide)
 rw [aE (by omega) (by omega)]
 omega
theorem IC {k:Nat} (hk:2 ^ 50≤k) {l:List Int} (hl:l.length≤1048576):∃ c:fQ,gT.f k l=some ((),(c,()))∧CI c:=by
 unfold gT.f gT.t
 have key:∀ (d n:Nat) (i h:Int),(l.length:Int)-i=d→0≤i→d<n→∃ c:fQ,gT.l0 k n l h i=some ((),(c,()))∧CI c:=by
  intro d
  induction d with
  | zero =>
   intro n i h h1 h2 hn
   obtain ⟨n,rfl⟩:∃ q,n=q+1:=⟨n-1,by omega⟩
   simp only [gT.l0,gT.b0]
   rw [aP (show ¬ i<(l.length:Int) by omega),aK]
   exact ⟨_,rfl,Int.le_refl _,by show (0:Int)≤(l.length:Int);omega,hl⟩
  | succ d ih =>
   intro n i h h1 h2 hn
   obtain ⟨n,rfl⟩:∃ q,n=q+1:=⟨n-1,by omega⟩
   simp only [gT.l0,gT.b0]
   rw [aO (show i<(l.length:Int) by omega),aY]
   by_cases c:i<4000
   · rw [aO c,aY,aH h2 (by omega),aE (n:=i+1) (by omega) (by omega)]
     exact ih n (i+1) _ (by omega) (by omega) (by omega)
   · rw [aP c,aK]
     exact ⟨_,rfl,Int.le_refl _,by show (0:Int)≤(l.length:Int);omega,hl⟩
 exact key l.length k 0 _ (by omega) (by omega) (by omega)
theorem vf (k:Nat) {c:fQ} (h:CI c):∃ (c':fQ) (x:Int),dj.f k c=some (c',(x,()))∧CI c'∧0≤x∧x≤255:=by
 obtain ⟨b,i,hh,_⟩:=c
 change Int at i
 change Int at hh
 obtain ⟨h1,h2,h3⟩:=h
 have h1:0≤i:=h1
 have h2:i≤(b.length:Int):=h2
 have h3:b.length≤1048576:=h3
 unfold dj.f dj.t
 simp only []
 by_cases q:i<(b.length:Int)
 · rw [aO q,aY,aH h1 q,aE (n:=i+1) (by omega) (by omega)]
   refine ⟨_,_,rfl,⟨by show (0:Int)≤i+1;omega,by show i+1≤(b.length:Int);omega,h3⟩,(Ba _).1,(Ba _).2⟩
 · rw [aP q,aK]
   exact ⟨_,_,rfl,⟨h1,h2,h3⟩,(Ba _).1,(Ba _).2⟩
theorem j_ (k:Nat) {c:fQ} (h:CI c) {n:Int} (h0:0<n) (h1:n≤256):∃ (c':fQ) (x:Int),aI.f k c n=some (c',(x,()))∧CI c'∧0≤x∧x<n:=by
 obtain ⟨c',x,e,hc,hx0,hx1⟩:=vf k h
 unfold aI.f aI.t
 rw [aP (show ¬ n≤0 by omega),aK,aO h1,aY,e,aQ]
 simp only []
 rw [aP (show ¬ n=0 by omega),aK]
 have e2:Int.tmod x n=x % n:=Int.tmod_eq_emod_of_nonneg hx0
 refine ⟨_,_,rfl,hc,?_,?_⟩
 · rw [e2];exact Int.emod_nonneg _ (by omega)
 · rw [e2];exact Int.emod_lt_of_pos _ h0
theorem pk (k:Nat) {c:fQ} (h:CI c) {n:Int} (h0:0<n) (h1:n≤256):∃ (c':fQ) (x:Bool),bD.f k c n=some (c',(x,()))∧CI c':=by
 obtain ⟨c',x,e,hc,_,_⟩:=j_ k h h0 h1
 unfold bD.f bD.t
 rw [e,aQ]
 exact ⟨_,_,rfl,hc⟩
theorem HW (k:Nat) {c:fQ} (h:CI c) {l:List ByteArray} (h0:0<l.length) (h1:l.length≤256):∃ (c':fQ) (x:ByteArray),eM.f k c l=some (c',(x,()))∧CI c':=by
 obtain ⟨c',x,e,hc,hx0,hx1⟩:=j_ k h (n:=(l.length:Int)) (by omega) (by omega)
 unfold eM.f eM.t
 rw [e,aQ]
 simp only []
 rw [aH hx0 hx1]
 exact ⟨_,_,rfl,hc⟩
theorem KM {k:Nat} (hk:2 ^ 50≤k) {l:List Int} (hl:l.length≤1048576):jX (gT.f k l) (fun r=>CI r.2.1):=by
 obtain ⟨c,e,h⟩:=IC hk hl
 exact ⟨_,e,h⟩
theorem pN (k:Nat) {c:fQ} (h:CI c):jX (dj.f k c) (fun r=>CI r.1∧0≤r.2.1∧r.2.1≤255):=by
 obtain ⟨c',x,e,h1,h2,h3⟩:=vf k h
 exact ⟨_,e,h1,h2,h3⟩
theorem bz (k:Nat) {c:fQ} (h:CI c) {n:Int} (h0:0<n) (h1:n≤256):jX (aI.f k c n) (fun r=>CI r.1∧0≤r.2.1∧r.2.1<n):=by
 obtain ⟨c',x,e,q1,q2,q3⟩:=j_ k h h0 h1
 exact ⟨_,e,q1,q2,q3⟩
theorem EL (k:Nat) {c:fQ} (h:CI c) {n:Int} (h0:0<n):jX (aI.f k c n) (fun r=>CI r.1∧0≤r.2.1∧r.2.1<n):=by
 by_cases h1:n≤256
 · exact bz k h h0 h1
 unfold aI.f aI.t
 refine kZ (aP (by omega)) (kZ (aP h1) ?_)
 refine aS (pN k h) fun r1 q1=>?_
 refine aS (pN k q1.1) fun r2 q2=>?_
 refine aS (pN k q2.1) fun r3 q3=>?_
 refine aS (pN k q3.1) fun r4 q4=>?_
 refine kZ (aP (by omega)) (b8 ⟨q4.1,?_⟩)
 obtain ⟨_,a0,a1⟩:=q1
 obtain ⟨_,b0,b1⟩:=q2
 obtain ⟨_,c0,c1⟩:=q3
 obtain ⟨_,d0,d1⟩:=q4
 simp only []
 rw [aE (n:=r1.2.1*16777216) (by omega) (by omega),aE (n:=r2.2.1*65536) (by omega) (by omega),aE (n:=r3.2.1*256) (by omega) (by omega),aE (n:=r1.2.1*16777216+r2.2.1*65536) (by omega) (by omega),aE (n:=r1.2.1*16777216+r2.2.1*65536+r3.2.1*256) (by omega) (by omega),aE (n:=r1.2.1*16777216+r2.2.1*65536+r3.2.1*256+r4.2.1) (by omega) (by omega)]
 rw [Int.tmod_eq_emod_of_nonneg (by omega)]
 exact ⟨Int.emod_nonneg _ (by omega),Int.emod_lt_of_pos _ h0⟩
theorem lZ (k:Nat) {c:fQ} (h:CI c) {n:Int} (h0:0<n) (h1:n≤256):jX (bD.f k c n) (fun r=>CI r.1):=by
 obtain ⟨c',x,e,q1⟩:=pk k h h0 h1
 exact ⟨_,e,q1⟩
theorem v_ (k:Nat) {c:fQ} (h:CI c) {l:List ByteArray} (h0:0<l.length) (h1:l.length≤256):jX (eM.f k c l) (fun r=>CI r.1∧r.2.1 ∈ l):=by
 unfold eM.f eM.t
 refine aS (bz k h (by omega) (by omega)) fun r q=>?_
 refine k_ q.2.1 q.2.2 (b8 ⟨q.1,dx ?_⟩)
 have:=q.2.1
 have:=q.2.2
 omega
theorem Aq {l:List ByteArray} {m:Nat} (h:(l.all fun x=>decide (x.size≤m))=true) {x:ByteArray} (hx:x ∈ l):x.size≤m:=by
 have:=List.all_eq_true.1 h x hx
 simpa using this
theorem kj (k:Nat) {c:fQ} (h:CI c) {l:List Int} (h0:0<l.length) (h1:l.length≤256):jX (cG.f k c l) (fun r=>CI r.1∧r.2.1 ∈ l):=by
 unfold cG.f cG.t
 refine aS (bz k h (by omega) (by omega)) fun r q=>?_
 refine k_ q.2.1 q.2.2 (b8 ⟨q.1,dx ?_⟩)
 have:=q.2.1
 have:=q.2.2
 omega
theorem B4 (l:List Int):(bytesOf l).size=l.length:=by simp [bytesOf,ByteArray.size]
theorem Jw {k:Nat} (hk:2 ^ 50≤k) (st:Int) (m:Nat) (hm:m≤200):∀ (d n:Nat) (c:fQ) (out:List Int),d<n→CI c→out.length+d≤m→jX (bE.l0 k n st (d:Int) c.1 c.2.1 c.2.2.1 out) (fun r=>CI r.1∧r.2.1.size≤m):=by
 intro d
 induction d with
 | zero =>
  intro n c out hn hc ho
  obtain ⟨n,rfl⟩:∃ q,n=q+1:=⟨n-1,by omega⟩
  simp only [bE.l0,bE.b0]
  refine kZ (aP (by omega)) (b8 ⟨hc,?_⟩)
  show (bytesOf out).size≤m
  rw [B4]
  omega
 | succ d ih =>
  intro n c out hn hc ho
  obtain ⟨n,rfl⟩:∃ q,n=q+1:=⟨n-1,by omega⟩
  have hw:aF (((d+1:Nat):Int)-1)=(d:Int):=by rw [aE (by omega) (by omega)];omega
  simp only [bE.l0,bE.b0,hw]
  refine lM (aO (by omega)) ?_
  refine aS (pN k hc) fun r hr=>?_
  refine bX (fun _=>bX (fun _=>?_) (fun _=>?_)) (fun _=>bX (fun _=>?_) (fun _=>?_))
  all_goals exact tj (by omega) (by decide) (ih n r.1 _ (by omega) hr.1 (by rw [bK];omega))
theorem uV {k:Nat} (hk:2 ^ 50≤k) {c:fQ} (h:CI c) {m:Int} (h0:0≤m) (h1:m≤200):jX (bE.f k c m) (fun r=>CI r.1∧(r.2.1.size:Int)≤m):=by
 unfold bE.f bE.t
 rw [aE (n:=m+1) (by omega) (by omega)]
 refine aS (bz k h (by omega) (by omega)) fun r1 q1=>?_
 refine aS (bz k q1.1 (by omega) (by omega)) fun r2 q2=>?_
 obtain ⟨c2,a,b⟩:=q2
 have:=Jw hk r1.2.1 m.toNat (by omega) r2.2.1.toNat k r2.1 [] (by omega) c2 (by simp only [List.length_nil];omega)
 rw [show ((r2.2.1.toNat:Nat):Int)=r2.2.1 by omega] at this
 exact yq this fun r hr=>⟨hr.1,by have:=hr.2;omega⟩
theorem Gf (k:Nat) {c:fQ} (h:CI c):jX (eP.f k c) (fun r=>CI r.1):=by
 unfold eP.f eP.t
 exact aS (v_ k h (by decide) (by decide)) fun r q=>b8 q.1
theorem IQ {k:Nat} (hk:2 ^ 50≤k):∀ (d n:Nat) (c:fQ) (out:sk),d<n→CI c→out.length+d≤100→jX (fF.l0 k n (d:Int) c.1 c.2.1 c.2.2.1 out) (fun r=>CI r.1∧r.2.1.length≤100):=by
 intro d
 induction d with
 | zero =>
  intro n c out hn hc ho
  obtain ⟨n,rfl⟩:∃ q,n=q+1:=⟨n-1,by omega⟩
  simp only [fF.l0,fF.b0]
  exact kZ (aP (by omega)) (b8 ⟨hc,by show out.length≤100;omega⟩)
 | succ d ih =>
  intro n c out hn hc ho
  obtain ⟨n,rfl⟩:∃ q,n=q+1:=⟨n-1,by omega⟩
  have hw:aF (((d+1:Nat):Int)-1)=(d:Int):=by rw [aE (by omega) (by omega)];omega
  simp only [fF.l0,fF.b0,hw]
  refine lM (aO (by omega)) ?_
  refine aS (Gf k hc) fun r2 q2=>?_
  refine aS (uV hk q2 (by omega) (by omega)) fun r3 q3=>?_
  refine aS (lZ k q3.1 (by omega) (by omega)) fun r4 q4=>?_
  refine bX (fun _=>?_) (fun _=>?_)
  all_goals exact tj (by omega) (by decide) (ih n r4.1 _ (by omega) q4 (by rw [bK];omega))
theorem Gq {k:Nat} (hk:2 ^ 50≤k) {c:fQ} (h:CI c):jX (fF.f k c) (fun r=>CI r.1∧r.2.1.length≤100):=by
 unfold fF.f fF.t
 refine aS (bz k h (by omega) (by omega)) fun r q=>?_
 obtain ⟨hc,a,b⟩:=q
 have:=IQ hk r.2.1.toNat k r.1 [] (by omega) hc (by simp only [List.length_nil];omega)
 rw [show ((r.2.1.toNat:Nat):Int)=r.2.1 by omega] at this
 exact this
def Mb (st:Ty.d aG) (d:Ty.d a_):Prop:=∃ c,IV (st,(d,c))
theorem Gp {k:Nat} (hk:2 ^ 50≤k) {P:Ty.d aG→Ty.d a_→Prop} (hP:∀ st d,P st d→Mb st d) (hM:∀ st d,P st d→P (lU st d).1 (lU st d).2.1) (hC:∀ st d l,P st d→P (lg st d l).1 (lg st d l).2.1)
 (y4:List Int) (y5:ab) (y6 y7 y8 y9:Int) (y10:lP) (y11 y12:Int) (y13:Bool):∀ (m n:Nat) (c:fQ) (st:Ty.d aG) (d:Ty.d a_),m≤20→m<n→CI c→P st d →
 jX (cB.l1 k n (m:Int) c.1 c.2.1 c.2.2.1 y4 y5 y6 y7 y8 y9 y10 y11 y12 y13 st.1.2.1 st.2.1 st.1.1 st.2.2.1 st.2.2.2.1 st.2.2.2.2.1 d.1 d.2.1 d.2.2.1 d.2.2.2.1) (fun r=>CI r.1∧P r.2.1 r.2.2.1):=by
 intro m
 induction m with
 | zero =>
  intro n c st d hm hn hc hv
  obtain ⟨n,rfl⟩:∃ q,n=q+1:=⟨n-1,by omega⟩
  simp only [cB.l1,cB.b1]
  exact kZ (aP (by omega)) (b8 ⟨hc,hv⟩)
 | succ m ih =>
  intro n c st d hm hn hc hv
  obtain ⟨n,rfl⟩:∃ q,n=q+1:=⟨n-1,by omega⟩
  have hw:aF (((m+1:Nat):Int)-1)=(m:Int):=by rw [aE (by omega) (by omega)];omega
  obtain ⟨z,hz⟩:=hP _ _ hv
  have hd:DR d:=hz.disk
  have h1:st.1.2.1.length≤60:=hz.ids
  have h2:st.2.1.length≤268435456:=hz.dir
  simp only [cB.l1,cB.b1,hw]
  refine lM (aO (by omega)) (bX (fun _=>b8 ⟨hc,hv⟩) fun _=>?_)
  refine aS (lZ k hc (by omega) (by omega)) fun r5 q5=>?_
  refine bX (fun _=>?_) (fun _=>?_)
  · refine bR (C2 hk (st:=st) (d:=d) hd.sz (by omega) (by omega)) ?_
    exact ih n r5.1 (lU st d).1 (lU st d).2.1 (by omega) (by omega) q5 (hM _ _ hv)
  · refine aS (Gq hk q5) fun r7 q7=>?_
    have q8:=q7.2
    refine bR (zy hk (st:=st) (d:=d) hd.sz (by omega) (by omega) (by omega)) ?_
    exact ih n r7.1 (lg st d r7.2.1).1 (lg st d r7.2.1).2.1 (by omega) (by omega) q7.1 (hC _ _ _ hv)
theorem EG {k:Nat} (hk:2 ^ 50≤k) {P:Ty.d aG→Ty.d a_→Prop} (hP:∀ st d,P st d→Mb st d) (hM:∀ st d,P st d→P (lU st d).1 (lU st d).2.1) (hC:∀ st d l,P st d→P (lg st d l).1 (lg st d l).2.1)
 (hO:∀ n:Int,0≤n→n≤100000→P (fD (sj n)).1 (fD (sj n)).2.1) {c:fQ} (h:CI c):jX (cB.f k c) (fun r=>CI r.1∧P r.2.1 r.2.2.1):=by
 unfold cB.f cB.t
 refine aS (kj k h (by decide) (by decide)) fun r1 q1=>?_
 have hcap:(0:Int)≤r1.2.1∧r1.2.1≤100000:=by
  have:=q1.2
  simp only [List.mem_cons,List.not_mem_nil,or_false] at this
  omega
 refine bR (wA k hcap.1 hcap.2) ?_
 simp only []
 rw [show (([],(r1.2.1,(-1,(false,())))):Ty.d a_)=sj r1.2.1 from rfl]
 refine bR (qz hk (C6 hcap.1 hcap.2).sz) ?_
 refine aS (bz k q1.1 (by omega) (by omega)) fun r4 q4=>?_
 obtain ⟨hc,a,b⟩:=q4
 have:=Gp hk hP hM hC [] [] 0 0 0 0 [] 0 0 false r4.2.1.toNat k r4.1 (fD (sj r1.2.1)).1 (fD (sj r1.2.1)).2.1 (by omega) (by omega) hc (hO _ hcap.1 hcap.2)
 rw [show ((r4.2.1.toNat:Nat):Int)=r4.2.1 by omega] at this
 obtain ⟨n,hn⟩:∃ q,k=q+1:=⟨k-1,by omega⟩
 have e:∀ (st:Ty.d aG) (d:Ty.d a_),cB.l0 k k r4.2.1 r4.1.1 r4.1.2.1 r4.1.2.2.1 [] [] 0 0 0 0 [] 0 0 false st.1.1 st.1.2.1 st.2.1 st.2.2.1 st.2.2.2.1 st.2.2.2.2.1 d.1 d.2.1 d.2.2.1 d.2.2.2.1=cB.l1 k k r4.2.1 r4.1.1 r4.1.2.1 r4.1.2.2.1 [] [] 0 0 0 0 [] 0 0 false st.1.2.1 st.2.1 st.1.1 st.2.2.1 st.2.2.2.1 st.2.2.2.2.1 d.1 d.2.1 d.2.2.1 d.2.2.2.1:=fun st d=>by
  rw [show cB.l0 k k=cB.l0 k (n+1) by rw [← hn],show cB.l1 k k=cB.l1 k (n+1) by rw [← hn]]
  rfl
 rw [← e] at this
 exact this
theorem F5 {k:Nat} (hk:2 ^ 50≤k) {c:fQ} (h:CI c):jX (cB.f k c) (fun r=>CI r.1∧Mb r.2.1 r.2.2.1) :=
 EG hk (P:=Mb) (fun _ _ h=>h) (fun st d h=>by obtain ⟨z,hz⟩:=h;exact ⟨_,(JN hz).1⟩) (fun st d l h=>by obtain ⟨z,hz⟩:=h;exact ⟨_,HI l hz⟩) (fun n h0 h1=>⟨_,KY h0 h1⟩) h
theorem EK (k:Nat) {n:Int} (h0:0≤n) (h1:n≤100000):eR.f k n=some (([],(n,(-1,(false,())))),()):=by
 unfold eR.f eR.t
 rw [ga,aQ,aO ⟨h0,h1⟩]
 rfl
theorem Lr {n:Int} (h0:0≤n) (h1:n≤100000):DR ([],(n,(-1,(false,())))) :=
 ⟨by show 0≤130;omega,h0,h1,by show (-1:Int) ≤ -1;omega,by show (-1:Int)≤100000;omega,h0,fun f h=>(by cases h),List.Pairwise.nil⟩
theorem Cl (k:Nat) {c:fQ} (h:CI c):jX (gJ.f k c) (fun r=>CI r.1∧r.2.1.size≤12):=by
 unfold gJ.f gJ.t
 refine aS (v_ k h (by decide) (by decide)) fun r q=>b8 ⟨q.1,Aq (by decide) q.2⟩
theorem uP {β:Type} {o:Option (Ty.d a_ × Int × Unit)} {m:Ty.d a_ × Int} {g:Ty.d a_ × Int × Unit→Option β} {Q:β→Prop} (e:o=some (m.1,(m.2,()))) (h:jX (g (m.1,(m.2,()))) Q):jX (Option.bind o g) Q:=by
 rw [e]
 exact h
theorem KQ {k:Nat} (hk:2 ^ 50≤k) (z:aW) (z1 z2:Int) (z3:Bool):∀ (d n:Nat) (c:fQ) (x:Ty.d a_),d≤20→d<n→CI c→DR x →
 jX (eD.l0 k n (d:Int) c.1 c.2.1 c.2.2.1 z z1 z2 z3 x.1 x.2.1 x.2.2.1 x.2.2.2.1) (fun r=>CI r.1∧DR r.2.1):=by
 intro d
 induction d with
 | zero =>
  intro n c x hd hn hc hx
  obtain ⟨n,rfl⟩:∃ q,n=q+1:=⟨n-1,by omega⟩
  simp only [eD.l0,eD.b0]
  exact kZ (aP (by omega)) (b8 ⟨hc,hx⟩)
 | succ d ih =>
  intro n c x hd hn hc hx
  obtain ⟨n,rfl⟩:∃ q,n=q+1:=⟨n-1,by omega⟩
  have hw:aF (((d+1:Nat):Int)-1)=(d:Int):=by rw [aE (by omega) (by omega)];omega
  have hz:=hx.sz
  simp only [eD.l0,eD.b0,hw]
  refine lM (aO (by omega)) ?_
  refine aS (Cl k hc) fun r3 q3=>?_
  refine aS (bz k q3.1 (by omega) (by omega)) fun r4 q4=>?_
  obtain ⟨hn3,hs3⟩:=q3
  have CR:jX (Option.bind (eG.f k (x.1,(x.2.1,(x.2.2.1,(x.2.2.2.1,())))) r3.2.1) fun r5=>(eD.l0 k n (d:Int) r4.1.1 r4.1.2.1 r4.1.2.2.1 z z1 z2 z3 r5.1.1 r5.1.2.1 r5.1.2.2.1 r5.1.2.2.2.1)) (fun r=>CI r.1∧DR r.2.1) :=
   uP (o_ hk hz (by omega)) (ih n r4.1 _ (by omega) (by omega) q4.1 (tA hx _))
  have AP:jX (Option.bind (bE.f k r4.1 9) fun r6=>(Option.bind (cQ.f k (x.1,(x.2.1,(x.2.2.1,(x.2.2.2.1,())))) r3.2.1 r6.2.1) fun r7=>(eD.l0 k n (d:Int) r6.1.1 r6.1.2.1 r6.1.2.2.1 z z1 z2 z3 r7.1.1 r7.1.2.1 r7.1.2.2.1 r7.1.2.2.2.1))) (fun r=>CI r.1∧DR r.2.1):=by
   refine aS (uV hk q4.1 (by omega) (by omega)) fun r6 q6=>?_
   have hs6:=q6.2
   exact uP (oI hk hz _ (by omega)) (ih n r6.1 _ (by omega) (by omega) q6.1 (pJ hx _ _))
  have SY:jX (Option.bind (d6.f k (x.1,(x.2.1,(x.2.2.1,(x.2.2.2.1,())))) r3.2.1) fun r5=>(eD.l0 k n (d:Int) r4.1.1 r4.1.2.1 r4.1.2.2.1 z z1 z2 z3 r5.1.1 r5.1.2.1 r5.1.2.2.1 r5.1.2.2.2.1)) (fun r=>CI r.1∧DR r.2.1) :=
   uP (lq hk hz _) (ih n r4.1 _ (by omega) (by omega) q4.1 (nP hx _))
  have RN:jX (Option.bind (gJ.f k r4.1) fun r6=>(Option.bind (fk.f k (x.1,(x.2.1,(x.2.2.1,(x.2.2.2.1,())))) r3.2.1 r6.2.1) fun r7=>(eD.l0 k n (d:Int) r6.1.1 r6.1.2.1 r6.1.2.2.1 z z1 z2 z3 r7.1.1 r7.1.2.1 r7.1.2.2.1 r7.1.2.2.2.1))) (fun r=>CI r.1∧DR r.2.1):=by
   refine aS (Cl k q4.1) fun r6 q6=>?_
   have hs6:=q6.2
   exact uP (xn hk hz _ (by omega)) (ih n r6.1 _ (by omega) (by omega) q6.1 (FB hx _ _))
  repeat' refine bX (fun _=>?_) (fun _=>?_)
  all_goals first | exact CR | exact AP | exact SY | exact RN
theorem II {k:Nat} (hk:2 ^ 50≤k) {c:fQ} (h:CI c):jX (eD.f k c) (fun r=>CI r.1∧DR r.2.1):=by
 unfold eD.f eD.t
 refine bR (EK k (by omega) (by omega)) ?_
 refine aS (bz k h (by omega) (by omega)) fun r q=>?_
 obtain ⟨hc,a,b⟩:=q
 have:=KQ hk [] 0 0 false r.2.1.toNat k r.1 ([],(200,(-1,(false,())))) (by omega) (by omega) hc (Lr (by omega) (by omega))
 rw [show ((r.2.1.toNat:Nat):Int)=r.2.1 by omega] at this
 exact this
theorem Jd {l:aW} (h:0<l.length) (g:Ty.d aB):(l.set 0 g).length=l.length∧cO (l.set 0 g)≤g.2.1.size+cO l∧dz (l.set 0 g)≤g.1.size+dz l:=by
 cases l with
 | nil=>cases h
 | cons x l =>
  show (g::l).length=_∧cO (g::l)≤_∧dz (g::l)≤_
  rw [dL,iP,dL,iP]
  exact ⟨rfl,by omega,by omega⟩
theorem pR:∀ l m:aW,dz (l++m)=dz l+dz m
 | [],m=>by show dz m=0+dz m;omega
 | x::l,m=>by rw [List.cons_append,iP,iP,pR l m];omega
structure DS (d:Ty.d a_):Prop where
 l:d.1.length≤131
 u:cO d.1≤200000
 n:dz d.1≤10000
theorem DS.sz {d:Ty.d a_} (h:DS d):p6 d:=⟨by have:=h.l;omega,by have:=h.u;omega,by have:=h.n;omega⟩
theorem DR.ds {d:Ty.d a_} (h:DR d):DS d:=by
 have h1:=h.len
 have h2:=h.use
 have h3:=h.cap1
 have h4:=uX d.1 h.all
 exact ⟨by omega,by omega,by omega⟩
theorem G2 {d:Ty.d a_} (h0:0<d.1.length) (h1:d.1.length≤131) (h2:cO d.1≤100000) (h3:dz d.1≤5000) {g:Ty.d aB} (k1:g.2.1.size≤100000) (k2:g.1.size≤5000):DS (List.set d.1 0 g,d.2):=by
 obtain ⟨a1,a2,a3⟩:=Jd h0 g
 exact ⟨by show (List.set _ _ _).length≤131;omega,by show cO (List.set _ _ _)≤200000;omega,by show dz (List.set _ _ _)≤10000;omega⟩
theorem Ld {k:Nat} (hk:2 ^ 50≤k) (z:aW) (z1 z2:Int) (z3:Bool):∀ (d n:Nat) (i:Int) (c:fQ) (x:Ty.d a_),0≤i→i+(d:Int)=132→d<n→CI c→x.1.length≤131→cO x.1≤200000→(dz x.1:Int)≤2000+40*i →
 jX (gy.l0 k n i c.1 c.2.1 c.2.2.1 z z1 z2 z3 x.1 x.2.1 x.2.2.1 x.2.2.2.1) (fun r=>CI r.1∧DS r.2.1):=by
 intro d
 induction d with
 | zero =>
  intro n i c x h0 h1 hn hc hl hu hm
  obtain ⟨n,rfl⟩:∃ q,n=q+1:=⟨n-1,by omega⟩
  simp only [gy.l0,gy.b0]
  refine aS (bz k hc (by omega) (by omega)) fun r hr=>?_
  obtain ⟨hc',a,b⟩:=hr
  rw [aE (n:=129+r.2.1) (by omega) (by omega)]
  exact kZ (aP (by omega)) (b8 ⟨hc',⟨hl,hu,by show dz x.1≤10000;omega⟩⟩)
 | succ d ih =>
  intro n i c x h0 h1 hn hc hl hu hm
  obtain ⟨n,rfl⟩:∃ q,n=q+1:=⟨n-1,by omega⟩
  simp only [gy.l0,gy.b0]
  refine aS (bz k hc (by omega) (by omega)) fun r hr=>?_
  obtain ⟨hc',a,b⟩:=hr
  rw [aE (n:=129+r.2.1) (by omega) (by omega),aE (n:=100+i) (by omega) (by omega),aE (n:=i+1) (by omega) (by omega)]
  refine bX (fun _=>bX (fun hb=>?_) (fun _=>?_)) (fun _=>?_)
  · have hb:=of_decide_eq_true hb
    have hz:=lm (n:=100+i) (by omega) (by omega)
    refine bR (oN hk (by omega) (by omega)) ?_
    have hy:(⟨#[121]⟩:ByteArray).size=1:=rfl
    have hy2:((⟨#[121]⟩:ByteArray)++g_ (100+i)).size=1+(g_ (100+i)).size:=ByteArray.size_append ..
    simp only []
    refine np (by omega) (tj (by omega) (by decide) ?_)
    refine ih n (i+1) r.1 (x.1++[_],x.2) (by omega) (by omega) (by omega) hc' (by show (x.1++[_]).length≤131;rw [bK];omega) ?_ ?_
    · show cO (x.1++[_])≤200000
      rw [oB,dL,uj]
      exact hu
    · show (dz (x.1++[_]):Int)≤_
      rw [pR,iP]
      show ((dz x.1+(((⟨#[121]⟩:ByteArray)++g_ (100+i)).size+0):Nat):Int)≤_
      omega
  · exact b8 ⟨hc',⟨hl,hu,by show dz x.1≤10000;omega⟩⟩
  · exact b8 ⟨hc',⟨hl,hu,by show dz x.1≤10000;omega⟩⟩
theorem KR {k:Nat} (hk:2 ^ 50≤k) {c:fQ} (h:CI c):jX (gy.f k c) (fun r=>CI r.1∧DS r.2.1):=by
 unfold gy.f gy.t
 refine aS (II hk h) fun r1 q1=>?_
 obtain ⟨hc1,hd⟩:=q1
 have hs:=hd.ds
 have g1:=hd.len
 have g2:=hd.use
 have g3:=hd.cap1
 have g4:=uX r1.2.1.1 hd.all
 refine aS (bz k hc1 (by omega) (by omega)) fun r2 q2=>?_
 refine bX (fun _=>?_) (fun _=>bX (fun _=>?_) (fun _=>bX (fun _=>?_) (fun _=>bX (fun _=>?_) (fun _=>bX (fun _=>?_) (fun _=>bX (fun _=>?_) (fun _=>?_))))))
 · refine aS (kj k q2.1 (by decide) (by decide)) fun r3 q3=>?_
   exact b8 ⟨q3.1,⟨hs.l,hs.u,hs.n⟩⟩
 · exact b8 ⟨q2.1,⟨hs.l,hs.u,hs.n⟩⟩
 · refine bR (ol hk (by omega) (by omega)) ?_
   refine bR (ol hk (by omega) (by omega)) ?_
   refine aS (kj k q2.1 (by simp) (by simp)) fun r3 q3=>?_
   exact b8 ⟨q3.1,⟨hs.l,hs.u,hs.n⟩⟩
 · refine bX (fun hb=>?_) (fun _=>b8 ⟨q2.1,hs⟩)
   have hb:=of_decide_eq_true hb
   refine aS (bz k q2.1 (by omega) (by omega)) fun r3 q3=>?_
   have hm:List.getD r1.2.1.1 0 (Ty.z aB) ∈ r1.2.1.1:=dx (by omega)
   have m1:=mE hm
   have m2:=mZ hm
   exact k_ (by omega) (by omega) (b8 ⟨q3.1,G2 (d:=r1.2.1) (by omega) (by omega) (by omega) (by omega) (Nat.le_trans m1 (by omega)) (Nat.le_trans m2 (by omega))⟩)
 · refine bX (fun hb=>?_) (fun _=>b8 ⟨q2.1,hs⟩)
   have hb:=of_decide_eq_true hb
   refine aS (v_ k q2.1 (by decide) (by decide)) fun r3 q3=>?_
   have hz:r3.2.1.size≤100:=Aq (by decide) q3.2
   have hm:List.getD r1.2.1.1 0 (Ty.z aB) ∈ r1.2.1.1:=dx (by omega)
   have m1:=mE hm
   exact k_ (by omega) (by omega) (b8 ⟨q3.1,G2 (d:=r1.2.1) (by omega) (by omega) (by omega) (by omega) (Nat.le_trans m1 (by omega)) (Nat.le_trans hz (by omega))⟩)
 · exact Ld hk [] 0 0 false 132 k 0 r2.1 r1.2.1 (by omega) (by omega) (by omega) q2.1 (by omega) (by omega) (by omega)
 · exact b8 ⟨q2.1,hs⟩
theorem HN (k:Nat) {c:fQ} (h:CI c):jX (jQ.f k c) (fun r=>CI r.1):=by
 unfold jQ.f jQ.t
 refine aS (Gf k h) fun r1 q1=>?_
 refine aS (bz k q1 (by omega) (by omega)) fun r2 q2=>?_
 refine aS (bz k q2.1 (by omega) (by omega)) fun r3 q3=>?_
 refine aS (bz k q3.1 (by omega) (by omega)) fun r4 q4=>?_
 refine aS (bz k q4.1 (by omega) (by omega)) fun r5 q5=>b8 q5.1
theorem LG {k:Nat} (hk:2 ^ 50≤k):∀ (m n:Nat) (c:fQ) (out:ab),m<n→CI c→out.length+m≤100→jX (gq.l0 k n (m:Int) c.1 c.2.1 c.2.2.1 out) (fun r=>CI r.1∧r.2.1.length≤100):=by
 intro m
 induction m with
 | zero =>
  intro n c out hn hc ho
  obtain ⟨n,rfl⟩:∃ q,n=q+1:=⟨n-1,by omega⟩
  simp only [gq.l0,gq.b0]
  refine kZ (aP (by omega)) (bX (fun hp=>?_) (fun _=>b8 ⟨hc,by show out.length≤100;omega⟩))
  have hp:=of_decide_eq_true hp
  have hset:∀ (i:Nat) (e:Ty.d aA),(List.set out i e).length≤100:=fun i e=>by rw [List.length_set];omega
  refine aS (lZ k hc (by omega) (by omega)) fun r4 q4=>bX (fun _=>?_) (fun _=>b8 ⟨q4,by show out.length≤100;omega⟩)
  refine aS (bz k q4 (by omega) (by omega)) fun r5 q5=>?_
  refine aS (bz k q5.1 (by omega) (by omega)) fun r6 q6=>?_
  obtain ⟨_,a5,b5⟩:=q5
  refine bX (fun _=>?_) (fun _=>bX (fun _=>?_) (fun _=>bX (fun _=>?_) (fun _=>?_)))
  · refine aS (v_ k q6.1 (by decide) (by decide)) fun r7 q7=>k_ a5 b5 (b8 ⟨q7.1,hset _ _⟩)
  · exact k_ a5 b5 (b8 ⟨q6.1,hset _ _⟩)
  · refine aS (kj k q6.1 (by decide) (by decide)) fun r7 q7=>k_ a5 b5 (b8 ⟨q7.1,hset _ _⟩)
  · refine aS (kj k q6.1 (by decide) (by decide)) fun r7 q7=>k_ a5 b5 (b8 ⟨q7.1,hset _ _⟩)
 | succ m ih =>
  intro n c out hn hc ho
  obtain ⟨n,rfl⟩:∃ q,n=q+1:=⟨n-1,by omega⟩
  have hw:aF (((m+1:Nat):Int)-1)=(m:Int):=by rw [aE (by omega) (by omega)];omega
  simp only [gq.l0,gq.b0,hw]
  refine lM (aO (by omega)) ?_
  refine aS (HN k hc) fun r2 q2=>?_
  have hp:=Ca out r2.2.1
  refine bR (pD hk _ (by omega)) ?_
  exact ih n r2.1 _ (by omega) q2 (by show (vE out r2.2.1).length+m≤100;omega)
theorem KW {k:Nat} (hk:2 ^ 50≤k) {c:fQ} (h:CI c):jX (gq.f k c) (fun r=>CI r.1∧r.2.1.length≤100):=by
 unfold gq.f gq.t
 refine aS (bz k h (by omega) (by omega)) fun r q=>?_
 obtain ⟨hc,a,b⟩:=q
 have:=LG hk r.2.1.toNat k r.1 [] (by omega) hc (by simp only [List.length_nil];omega)
 rw [show ((r.2.1.toNat:Nat):Int)=r.2.1 by omega] at this
 exact this
structure AV (st:Ty.d aG) (d:Ty.d a_):Prop where
 ids:st.1.2.1.length≤60
 dir:st.2.1.length≤268435456
 disk:DS d
theorem IM {k:Nat} (hk:2 ^ 50≤k) {c:fQ} (h:CI c):jX (jz.f k c) (fun r=>CI r.1∧AV r.2.1 r.2.2.1):=by
 unfold jz.f jz.t
 refine aS (F5 hk h) fun r1 q1=>?_
 obtain ⟨hc,z,hz⟩:=q1
 have hs:=hz.disk.ds
 have h1:r1.2.1.1.2.1.length≤60:=hz.ids
 have h2:r1.2.1.2.1.length≤268435456:=hz.dir
 refine aS (bz k hc (by omega) (by omega)) fun r2 q2=>?_
 have E:jX (bif (r2.2.1==6) then (some (r2.1,(((r1.2.1.1.1,([],())),r1.2.1.2),r1.2.2))) else (some (r2.1,r1.2))) (fun r:Ty.d ag × Ty.d aG × Ty.d a_ × Unit=>CI r.1∧AV r.2.1 r.2.2.1) :=
  bX (fun _=>b8 ⟨q2.1,⟨Nat.zero_le _,h2,hs⟩⟩) (fun _=>b8 ⟨q2.1,⟨h1,h2,hs⟩⟩)
 have F:jX ((aI.f k r2.1 12).bind fun r6=>(some (r6.1,(r1.2.1,((r1.2.2.1.1,(r1.2.2.1.2.1,(r6.2.1,r1.2.2.1.2.2.2))),()))))) (fun r:Ty.d ag × Ty.d aG × Ty.d a_ × Unit=>CI r.1∧AV r.2.1 r.2.2.1) :=
  aS (bz k q2.1 (by omega) (by omega)) fun r6 q6=>b8 ⟨q6.1,⟨h1,h2,⟨hs.l,hs.u,hs.n⟩⟩⟩
 refine bX (fun _=>b8 ⟨q2.1,⟨h1,h2,hs⟩⟩) (fun _=>bX (fun _=>?_) (fun _=>bX (fun _=>?_) (fun _=>bX (fun _=>?_) (fun _=>bX (fun _=>bX (fun _=>F) (fun _=>E)) (fun _=>bX (fun _=>F) (fun _=>E))))))
 · exact aS (KW hk q2.1) fun r3 q3=>b8 ⟨q3.1,⟨h1,by have:=q3.2;show r3.2.1.length≤268435456;omega,hs⟩⟩
 · exact aS (kj k q2.1 (by decide) (by decide)) fun r4 q4=>b8 ⟨q4.1,⟨h1,h2,hs⟩⟩
 · exact aS (KR hk q2.1) fun r5 q5=>b8 ⟨q5.1,⟨h1,h2,q5.2⟩⟩
theorem Ag (ids:List Int):∀ (l:aW) (acc:List ByteArray),n7 ids l acc=acc++(l.filter (j8 ids)).map (·.1)
 | [],acc=>(List.append_nil acc).symm
 | f::l,acc=>by
  unfold n7
  rw [Ag ids l,List.filter_cons]
  cases j8 ids f with
  | true=>rw [aY,if_pos rfl,List.map_cons,s7];rfl
  | false=>rw [aK,if_neg (by decide)]
theorem Km {a b:Int} (h:a<b) (g:b≤100000):a≤100000:=by omega
theorem wD {ids:List Int} {f g:Ty.d aB} (h:g.1=f.1):j8 ids g=j8 ids f:=by unfold j8;rw [h]
theorem KX:(CM d_).2=false:=by
 unfold CM
 rcases iU (JY d_) (fun _=>d_) (0:Int) d_ with ⟨r,h1,_,_⟩ | h
 · exfalso
   obtain ⟨h0,h2,h3⟩:=h1
   have hp:=Dh r
   rcases h3 with q | q
   · have:=congrArg nb q
     rw [iT] at this
     cases this
   · have:=congrArg nb q
     rw [iT] at this
     cases this
 · rw [h]
noncomputable def AR (d:Ty.d a_):List Int→Int
 | []=>0
 | x::l=>(bif decide ((aw (dh d x)).2<((dh d x).size:Int)) then 1 else 0)+AR d l
theorem qY {d:Ty.d a_}:∀ {l:List Int},eL d l=true→(∀ x ∈ l,(ae d (aC aL x)).2=true)∧0≤AR d l∧AR d l≤1
 | [],_=>⟨fun x hx=>(by cases hx),Int.le_refl _,by unfold AR;decide⟩
 | x::l,h=>by
  unfold eL na at h
  simp only [ke,Bool.or_eq_true,Bool.not_eq_true'] at h
  obtain ⟨⟨h1,h2⟩,h3⟩:=h
  obtain ⟨i1,i2,i3⟩:=qY h3
  refine ⟨fun y hy=>?_,?_⟩
  · rcases List.mem_cons.1 hy with w | w
    · rw [w];exact h1
    · exact i1 y w
  · have e1:AR d (x::l)=(bif decide ((aw (dh d x)).2<((dh d x).size:Int)) then 1 else 0)+AR d l:=rfl
    rw [e1]
    rcases h2 with q | q
    · have:l=[]:=List.isEmpty_iff.1 q
      subst this
      show 0≤(bif _ then (1:Int) else 0)+0∧(bif _ then (1:Int) else 0)+0≤1
      cases decide ((aw (dh d x)).2<((dh d x).size:Int)) <;> exact ⟨by decide,by decide⟩
    · rw [q,aK]
      exact ⟨by omega,by omega⟩
theorem vd {d d':Ty.d a_}:∀ {l:List Int},(∀ x ∈ l,aw (dh d' x)=aw (dh d x))→jx d' l=jx d l
 | [],_=>rfl
 | x::l,h=>by
  show gj x (aw (dh d' x)).1++jx d' l=gj x (aw (dh d x)).1++jx d l
  rw [vd fun y hy=>h y (qu _ hy),h x oh]
def SF (f:Ty.d aB):Prop:=@Eq Int f.2.2.1 (f.2.1.size:Int)
theorem IH (tears:List Int) (i:Nat) {f:Ty.d aB} (h:SF f):sf tears i f=f:=by
 have key:∀ (s:Int) (t:ByteArray),s=(t.size:Int)→ByteArray.extract t 0 (s+nY tears i ((t.size:Int)-s)).toNat=t∧s+nY tears i ((t.size:Int)-s)=s:=by
  intro s t hs
  have:=xH tears i (mn:=(t.size:Int)-s) (by omega)
  have e:s+nY tears i ((t.size:Int)-s)=s:=by omega
  refine ⟨?_,e⟩
  rw [e,hs,Int.toNat_natCast,vZ]
 obtain ⟨k1,k2⟩:=key f.2.2.1 f.2.1 h
 exact Prod.ext rfl (Prod.ext k1 (Prod.ext k2 rfl))
theorem yU {p:Ty.d aB→Bool} (hp:∀ f g:Ty.d aB,g.1=f.1→p g=p f) (tears:List Int):∀ (l:aW) (i:Nat),(∀ f ∈ l,SF f∨p f=false)→(kf tears l i).filter p=l.filter p
 | [],i,_=>rfl
 | f::l,i,h=>by
  have ih:=yU hp tears l (i+1) fun g hg=>h g (qu _ hg)
  show (sf tears i f::kf tears l (i+1)).filter p=_
  rcases h f oh with q | q
  · rw [IH tears i q,List.filter_cons,List.filter_cons,ih]
  · have q2:p (sf tears i f)=false:=(hp f (sf tears i f) rfl).trans q
    rw [List.filter_cons,List.filter_cons,q,q2,ih]
    rfl
theorem xO (tears:List Int):∀ (l:aW) (i:Nat),(∀ f ∈ l,FO f)→∀ f ∈ kf tears l i,SF f
 | [],i,_,f,h=>by cases h
 | g::l,i,h,f,hf=>by
  have hf:f ∈ sf tears i g::kf tears l (i+1):=hf
  rcases List.mem_cons.1 hf with w | w
  · rw [w]
    exact (Bl tears i (h g oh)).2.2.symm
  · exact xO tears l (i+1) (fun x hx=>h x (qu _ hx)) f w
theorem tg (tears:List Int):∀ (l:aW) (i:Nat),(∀ f ∈ l,SF f)→kf tears l i=l
 | [],i,_=>rfl
 | f::l,i,h=>by
  show sf tears i f::kf tears l (i+1)=_
  rw [IH tears i (h f oh),tg tears l (i+1) fun g hg=>h g (qu _ hg)]
noncomputable def gX (ids:List Int) (f:Ty.d aB):Bool:=!j8 ids f
noncomputable def jc (ids:List Int) (l:aW):aW:=l.filter (gX ids)
theorem ED {ids:List Int} (f g:Ty.d aB) (h:g.1=f.1):gX ids g=gX ids f:=by unfold gX;rw [wD h]
section
variable {p:Ty.d aB→Bool}
theorem yr {s:ByteArray} (h:∀ g:Ty.d aB,g.1=s→p g=false):∀ l:aW,(gm l s).filter p=l.filter p
 | []=>rfl
 | g::l=>by
  unfold gm
  cases c:seq g.1 s with
  | true=>rw [aY,List.filter_cons,h g (cS.1 c)];rfl
  | false=>rw [aK,List.filter_cons,List.filter_cons,yr h l]
theorem zT {f:Ty.d aB} (h:p f=false):∀ l:aW,(gh l f).filter p=l.filter p
 | []=>by unfold gh;rw [List.filter_cons,h];rfl
 | g::l=>by
  unfold gh
  cases nO f.1 g.1 with
  | true=>rw [aY,List.filter_cons,h];rfl
  | false=>rw [aK,List.filter_cons,List.filter_cons,zT h l]
theorem zH {h:Ty.d aB→Ty.d aB} (hh:∀ f,(h f).1=f.1) {s:ByteArray} (hp:∀ g:Ty.d aB,g.1=s→p g=false):∀ l:aW,(fH h l s).filter p=l.filter p
 | []=>rfl
 | g::l=>by
  unfold fH
  cases c:seq g.1 s with
  | true=>rw [aY,List.filter_cons,List.filter_cons,hp g (cS.1 c),hp (h g) ((hh g).trans (cS.1 c))];rfl
  | false=>rw [aK,List.filter_cons,List.filter_cons,zH hh hp l]
theorem t7 {h:Ty.d aB→Ty.d aB} (hh:∀ f,(h f).1=f.1) {s:ByteArray} (hp:∀ g:Ty.d aB,g.1=s→p g=true):∀ l:aW,(fH h l s).filter p=fH h (l.filter p) s
 | []=>rfl
 | g::l=>by
  have ih:=t7 hh hp l
  rw [fH.eq_2]
  cases c:seq g.1 s with
  | true =>
   rw [aY,List.filter_cons,List.filter_cons,hp g (cS.1 c),hp (h g) ((hh g).trans (cS.1 c))]
   show h g::l.filter p=fH h (g::l.filter p) s
   rw [fH.eq_2,c,aY]
  | false =>
   rw [aK,List.filter_cons,List.filter_cons,ih]
   cases p g with
   | false=>rfl
   | true =>
    show g::fH h (l.filter p) s=fH h (g::l.filter p) s
    rw [fH.eq_2,c,aK]
theorem lr {s:ByteArray} (h:∀ g:Ty.d aB,g.1=s→p g=true):∀ l:aW,ax (l.filter p) s=ax l s
 | []=>rfl
 | g::l=>by
  rw [List.filter_cons,ax.eq_2]
  cases c:seq g.1 s with
  | true =>
   rw [h g (cS.1 c)]
   show ax (g::l.filter p) s=_
   rw [ax.eq_2,c]
   rfl
  | false =>
   rw [aK]
   cases p g with
   | false=>exact lr h l
   | true =>
    show ax (g::l.filter p) s=_
    rw [ax.eq_2,c,aK,lr h l]
end
theorem AB {h h':Ty.d aB→Ty.d aB} {s:ByteArray}:∀ l:aW,(∀ f,ax l s=some f→h f=h' f)→fH h l s=fH h' l s
 | [],_=>rfl
 | g::l,q=>by
  unfold fH
  cases c:seq g.1 s with
  | true =>
   rw [aY,aY,q g (by rw [ax.eq_2,c];rfl)]
  | false =>
   rw [aK,aK,AB l fun f hf=>q f (by rw [ax.eq_2,c,aK];exact hf)]
theorem Fw {h h':Ty.d aB→Ty.d aB} (hh:∀ f,(h' f).1=f.1) {s:ByteArray}:∀ l:aW,fH h (fH h' l s) s=fH (fun f=>h (h' f)) l s
 | []=>rfl
 | g::l=>by
  conv=>lhs;arg 2;unfold fH
  conv=>rhs;unfold fH
  cases c:seq g.1 s with
  | true =>
   simp only [aY]
   unfold fH
   rw [hh g,c,aY]
  | false =>
   simp only [aK]
   conv=>lhs;unfold fH
   rw [c,aK,Fw hh l]
noncomputable def ja (f:Ty.d aB):Ty.d aB:=(f.1,(ByteArray.extract f.2.1 0 (aw f.2.1).2.toNat,(((ByteArray.extract f.2.1 0 (aw f.2.1).2.toNat).size:Int),())))
theorem sH (f:Ty.d aB):(ja f).1=f.1:=rfl
theorem Jo (f:Ty.d aB):SF (ja f):=rfl
theorem Ip (s:ByteArray):aw (ByteArray.extract s 0 (aw s).2.toNat)=aw s:=by
 obtain ⟨_,h0,h1⟩:=gz s
 have hz:(ByteArray.extract s 0 (aw s).2.toNat).size=(aw s).2.toNat:=nt s (by omega)
 have:=Ao s (s.size+1) ((ByteArray.extract s 0 (aw s).2.toNat).size+1) 0 (by omega) (by omega) (by omega) (by
  show (aw s).2-0<_
  omega)
 exact this
theorem wx (s:ByteArray):((ByteArray.extract s 0 (aw s).2.toNat).size:Int)=(aw s).2:=by
 obtain ⟨_,h0,h1⟩:=gz s
 rw [nt s (by omega)]
 omega
theorem Jz (f:Ty.d aB):ja (ja f)=ja f:=by
 have e:ByteArray.extract (ja f).2.1 0 (aw (ja f).2.1).2.toNat=(ja f).2.1:=by
  have h1:aw (ja f).2.1=aw f.2.1:=Ip f.2.1
  rw [h1]
  have h2:(aw f.2.1).2.toNat=(ja f).2.1.size:=by
   have:=wx f.2.1
   have:((ja f).2.1.size:Int)=(aw f.2.1).2:=this
   omega
  rw [h2,vZ]
 have e2:ja (ja f)=((ja f).1,(ByteArray.extract (ja f).2.1 0 (aw (ja f).2.1).2.toNat,(((ByteArray.extract (ja f).2.1 0 (aw (ja f).2.1).2.toNat).size:Int),()))):=rfl
 rw [e2,e]
 rfl
noncomputable def Aw (ids:List Int) (l:aW):aW:=bif ids.isEmpty then jc ids l else fH ja (jc ids l) (aC aL (aa ids))
structure QC (ids:List Int) (Z:aW) (c:Int) (d:Ty.d a_):Prop where
 disk:DR d
 clean:jc ids d.1=Z
 safe:∀ f ∈ d.1,SF f∨gX ids f=false
 cap:@Eq Int d.2.1 c
theorem qO (d:Ty.d a_) (g:aW→Int→aW × Int):(gA d g).1.1=d.1∨(gA d g).1.1=(g d.1 d.2.1).1:=by
 unfold gA
 cases (jf d).2 != 0 with
 | true=>exact .inl (mY d)
 | false=>exact .inr rfl
theorem s_ (d:Ty.d a_) (g:aW→Int→aW × Int):(gA d g).1.2.1=d.2.1:=by
 unfold gA
 cases (jf d).2 != 0 with
 | true=>exact xN d
 | false=>exact xN d
def SG (ids:List Int) (g:aW→Int→aW × Int):Prop:=∀ l c,jc ids (g l c).1=jc ids l∧∀ f ∈ (g l c).1,f ∈ l∨gX ids f=false
theorem uo {ids:List Int} {Z:aW} {c:Int} {d:Ty.d a_} {g:aW→Int→aW × Int} (h:QC ids Z c d) (hg:SG ids g) (hd:DR (gA d g).1):QC ids Z c (gA d g).1:=by
 refine ⟨hd,?_,?_,(s_ d g).trans h.cap⟩
 · rcases qO d g with e | e
   · rw [e];exact h.clean
   · rw [e];exact ((hg _ _).1).trans h.clean
 · rcases qO d g with e | e
   · rw [e];exact h.safe
   · rw [e]
     intro f hf
     rcases (hg _ _).2 f hf with w | w
     · exact h.safe f w
     · exact .inr w
section
variable {ids:List Int} {s:ByteArray} (hs:∀ g:Ty.d aB,g.1=s→gX ids g=false)
include hs
theorem Ll:SG ids (ul s):=fun l c=>by
 unfold ul
 cases (ax l s).isNone with
 | true=>exact ⟨rfl,fun f hf => .inl hf⟩
 | false=>exact ⟨yr hs l,fun f hf => .inl ((n5 l s).subset hf)⟩
theorem It:SG ids (sa s):=fun l c=>by
 unfold sa
 cases !jk s with
 | true=>exact ⟨rfl,fun f hf => .inl hf⟩
 | false =>
  cases (ax l s).isSome with
  | true=>exact ⟨rfl,fun f hf => .inl hf⟩
  | false =>
   cases decide ((l.length:Int)≥130) with
   | true=>exact ⟨rfl,fun f hf => .inl hf⟩
   | false =>
    have k:gX ids (s,(ByteArray.empty,(0,())))=false:=hs _ rfl
    refine ⟨zT k l,fun f hf=>?_⟩
    rcases xD.1 hf with w | w
    · rw [w];exact .inr k
    · exact .inl w
theorem Ij {h:Ty.d aB→Ty.d aB} (hh:∀ f,(h f).1=f.1) (l:aW):jc ids (fH h l s)=jc ids l∧∀ f ∈ fH h l s,f ∈ l∨gX ids f=false:=by
 refine ⟨zH hh hs l,fun f hf=>?_⟩
 rcases sZ hf with w | ⟨g,h1,h2⟩
 · exact .inl w
 · refine .inr (hs f ?_)
   rw [h2,hh]
   exact (kA h1).2
theorem L_ (t:ByteArray):SG ids (wg s t):=fun l c=>by
 unfold wg
 cases (ax l s).isNone with
 | true=>exact ⟨rfl,fun f hf => .inl hf⟩
 | false =>
  cases decide ((t.size:Int) > aF (c-(cO l:Int))) with
  | true=>exact ⟨rfl,fun f hf => .inl hf⟩
  | false=>exact Ij hs (h:=fun f:Ty.d aB=>(f.1,(f.2.1++t,f.2.2))) (fun f=>rfl) l
theorem LX:SG ids (tI s):=fun l c=>by
 unfold tI
 cases (ax l s).isNone with
 | true=>exact ⟨rfl,fun f hf => .inl hf⟩
 | false=>exact Ij hs (h:=fun f:Ty.d aB=>(f.1,(f.2.1,((f.2.1.size:Int),f.2.2.2)))) (fun f=>rfl) l
variable {Z:aW} {c:Int}
theorem GZ (d:Ty.d a_) (h:QC ids Z c d):QC ids Z c (kJ s d).1:=by
 unfold kJ
 cases (ax d.1 s).isSome with
 | true=>exact uo h (Ll hs) (xV h.disk s)
 | false=>exact h
end
theorem ue {Q:Ty.d a_→Prop} {r:RD} {f:Ty.d a_→RD} (h:Q r.1) (hf:∀ x,Q x→Q (f x).1):Q (gD r f).1:=by
 unfold gD
 cases r.2==0 with
 | true=>exact hf _ h
 | false=>exact h
theorem KE {ids:List Int} {s t:ByteArray} {Z:aW} {c:Int} (hs:∀ g:Ty.d aB,g.1=s→gX ids g=false) (d:Ty.d a_) (h:QC ids Z c d):QC ids Z c (m3 s t d).1 :=
 ue (Q:=QC ids Z c) (ue (Q:=QC ids Z c) (ue (Q:=QC ids Z c) (GZ hs d h) fun x hx=>uo hx (It hs) (tA hx.disk s)) fun x hx=>uo hx (L_ hs t) (pJ hx.disk s t)) fun x hx=>uo hx (LX hs) (nP hx.disk s)
theorem CW {ids:List Int} {Z:aW} {c:Int}:∀ (l:List ByteArray) (d:Ty.d a_),(∀ s ∈ l,∀ g:Ty.d aB,g.1=s→gX ids g=false)→QC ids Z c d→QC ids Z c (eT l d).1
 | [],d,_,h=>h
 | s::l,d,hl,h=>ue (Q:=QC ids Z c) (GZ (hl s oh) d h) fun x hx=>CW l x (fun t ht=>hl t (qu _ ht)) hx
theorem F_ {ids:List Int} {d:Ty.d a_}:∀ s ∈ nW d ids,∀ g:Ty.d aB,g.1=s→gX ids g=false:=fun s hs g hg=>by
 have h:=JI hs
 unfold gX j8
 rw [hg,h]
 rfl
theorem D_ {ids:List Int} {Z:aW} {c:Int} {d:Ty.d a_} (h:QC ids Z c d):QC ids Z c (iO ids d).1:=CW _ d F_ h
theorem Gx (ids:List Int):∀ g:Ty.d aB,g.1=ia→gX ids g=false:=fun g hg=>by
 unfold gX j8
 rw [hg,cF,Bool.or_true]
 rfl
theorem HA:∀ g:Ty.d aB,g.1=aC aL 1→gX [] g=false:=fun g hg=>by
 unfold gX j8
 rw [hg,rU (.inl rfl) (by decide) (by decide)]
 rfl
theorem Jc {d:Ty.d a_} {a b:ByteArray} (z:(tE d a b).2≠0):(tE d a b).1.1=d.1:=by
 have h:(tE d a b)=gA d (uz a b):=rfl
 rw [h] at z ⊢
 unfold gA at z ⊢
 cases c:(jf d).2 != 0 with
 | true=>exact mY d
 | false =>
  rw [c] at z
  have z:(uz a b d.1 d.2.1).2≠0:=z
  show (uz a b d.1 d.2.1).1=d.1
  unfold uz at z ⊢
  cases c1:!jk b with
  | true=>rfl
  | false =>
   rw [c1] at z
   simp only [aK] at z ⊢
   cases c3:ax d.1 a with
   | none=>rfl
   | some f =>
    rw [c3] at z
    cases c2:seq a b with
    | true=>rfl
    | false =>
     exfalso
     simp only [] at z
     rw [c2] at z
     exact z rfl
theorem Hr {Z:aW} {c:Int} {d:Ty.d a_} (h:QC [] Z c d) (z:(ib d).2≠0):QC [] Z c (ib d).1:=by
 have h1:QC [] Z c (gD (iO [] d) fun x=>pQ x (aC aL 1)).1:=ue (Q:=QC [] Z c) (D_ h) fun x hx=>uo hx (It HA) (tA hx.disk _)
 unfold ib at z ⊢
 generalize (gD (iO [] d) fun x=>pQ x (aC aL 1))=r at h1 z ⊢
 unfold gD at z ⊢
 cases c1:r.2==0 with
 | false=>exact h1
 | true =>
  rw [c1] at z
  simp only [aY] at z ⊢
  have h2:QC [] Z c (m3 ia (ap sy) r.1).1:=KE (Gx []) r.1 h1
  unfold db at z ⊢
  generalize m3 ia (ap sy) r.1=q at h2 z ⊢
  unfold gD at z ⊢
  cases c2:q.2==0 with
  | false=>exact h2
  | true =>
   rw [c2] at z
   simp only [aY] at z ⊢
   have e:=Jc z
   exact ⟨FB h2.disk _ _,by rw [e];exact h2.clean,by rw [e];exact h2.safe,(s_ _ _).trans h2.cap⟩
def dk (l:aW) (c:Int):Ty.d a_:=(l,(c,(-1,(false,()))))
theorem sV {l:aW} {c:Int} (h:DR (dk l c)) (g:aW→Int→aW × Int):gA (dk l c) g=(dk (g l c).1 c,(g l c).2):=by
 unfold gA
 have e:jf (dk l c)=(dk l c,0):=by
  unfold jf
  rw [dO.2 h]
  rfl
 rw [e]
 rfl
theorem KA {s:ByteArray} {l:aW} (h:ax l s=none):gm l s=l:=by
 rcases gW l s 0 with ⟨_,_,q,_⟩ | ⟨f,_,_,q,_⟩
 · exact q
 · rw [h] at q;cases q
theorem Ho {l:aW} {c:Int} (h:DR (dk l c)) (s:ByteArray):kJ s (dk l c)=(dk (gm l s) c,0):=by
 unfold kJ
 show (bif (ax l s).isSome then se (dk l c) s else (dk l c,0))=_
 cases q:ax l s with
 | none=>rw [KA q];rfl
 | some f =>
  show gA (dk l c) (ul s)=_
  rw [sV h]
  unfold ul
  rw [q]
  rfl
theorem zY {c:Int}:∀ (ns:List ByteArray) {l:aW},DR (dk l c)→eT ns (dk l c)=(dk (ns.foldl gm l) c,0)
 | [],l,h=>rfl
 | s::ns,l,h=>by
  have e:=Ho h s
  have hd:=u7 s _ h
  rw [e] at hd
  show gD (kJ s (dk l c)) (eT ns)=_
  rw [e]
  exact zY ns hd
theorem IG {s:ByteArray}:∀ {l:aW},iI (jr l)→gm l s=l.filter (fun f=>!seq f.1 s)
 | [],_=>rfl
 | g::l,h=>by
  unfold gm
  rw [List.filter_cons]
  have h2:iI (jr l):=(List.pairwise_cons.1 h).2
  cases c:seq g.1 s with
  | false=>rw [aK,IG h2];rfl
  | true =>
   rw [aY]
   show l=l.filter _
   symm
   rw [List.filter_eq_self]
   intro f hf
   have hlt:nO g.1 f.1=true:=(List.pairwise_cons.1 h).1 f.1 (List.mem_map_of_mem hf)
   cases c2:seq f.1 s with
   | false=>rfl
   | true =>
    exfalso
    rw [cS.1 c2,cS.1 c] at hlt
    rw [qS] at hlt
    cases hlt
theorem GF:∀ (ns:List ByteArray) {l:aW},iI (jr l)→ns.foldl gm l=l.filter (fun f=>!ns.any fun s=>seq f.1 s)
 | [],l,_=>by
  symm
  show l.filter (fun f=>true)=l
  rw [List.filter_eq_self]
  exact fun _ _=>rfl
 | s::ns,l,h=>by
  rw [List.foldl_cons,IG h,GF ns (pr List.filter_sublist h),List.filter_filter]
  refine congrArg (fun p=>l.filter p) (funext fun f=>?_)
  rw [List.any_cons,Bool.not_or,Bool.and_comm]
theorem qE {ids:List Int} {l:aW} {c:Int} (h:DR (dk l c)):iO ids (dk l c)=(dk (jc ids l) c,0):=by
 unfold iO
 rw [zY _ h,GF _ (l:=l) h.keys]
 have e:nW (dk l c) ids=(l.filter (j8 ids)).map (·.1):=by
  unfold nW
  rw [dO.2 h,aY,Ag,List.nil_append]
  rfl
 rw [e]
 have:l.filter (fun f=>!((l.filter (j8 ids)).map (·.1)).any fun s=>seq f.1 s)=jc ids l:=by
  unfold jc gX
  refine List.filter_congr fun f hf=>?_
  congr 1
  cases q:j8 ids f with
  | true =>
   rw [List.any_eq_true]
   exact ⟨f.1,List.mem_map.2 ⟨f,List.mem_filter.2 ⟨hf,q⟩,rfl⟩,cF _⟩
  | false =>
   rw [List.any_eq_false]
   intro s hs w
   obtain ⟨g,hg,rfl⟩:=List.mem_map.1 hs
   have:=(List.mem_filter.1 hg).2
   rw [wD (cS.1 w).symm,q] at this
   cases this
 rw [this]
theorem pj {ids:List Int} {x:Int} (hx:x ∈ ids) (h:1≤x∧x≤100000):∀ g:Ty.d aB,g.1=aC aL x→gX ids g=true:=fun g hg=>by
 have hh:pW ids x=true:=by unfold pW;rw [List.any_eq_true];exact ⟨x,hx,beq_self_eq_true _⟩
 unfold gX j8
 rw [hg,rU (.inl rfl) h.1 h.2,lW (fun q=>o7 h q.symm)]
 show (!((true&&!pW ids x)||false))=true
 rw [hh]
 rfl
theorem HD {x:Int} (hx:1≤x∧x≤100000):aC bp x≠ia:=fun q=>by
 have e:aC bp x=bp++g_ x:=by unfold aC;rw [aO hx];rfl
 rw [e] at q
 have:=congrArg nb q
 rw [iT] at this
 cases this
theorem Em {ids:List Int} {x:Int} (hx:x ∈ ids) (h:1≤x∧x≤100000):∀ g:Ty.d aB,g.1=aC bp x→gX ids g=true:=fun g hg=>by
 have hh:pW ids x=true:=by unfold pW;rw [List.any_eq_true];exact ⟨x,hx,beq_self_eq_true _⟩
 unfold gX j8
 rw [hg,rU (.inr rfl) h.1 h.2,lW (HD h)]
 show (!((true&&!pW ids x)||false))=true
 rw [hh]
 rfl
theorem Eo (ids:List Int):∀ g:Ty.d aB,g.1=d_→gX ids g=true:=fun g hg=>by
 unfold gX j8
 rw [hg,KX,lW (fun q=>by have:=congrArg nb q;cases this)]
 rfl
theorem xX {ids:List Int} {l l':aW} (h:jc ids l=jc ids l'):Aw ids l=Aw ids l':=by unfold Aw;rw [h]
theorem vW {ids:List Int} (hne:ids.isEmpty=false) {s:ByteArray} (hk:∀ g:Ty.d aB,g.1=s→gX ids g=true) (l:aW):ax (Aw ids l) s=bif seq s (aC aL (aa ids)) then (ax l s).map ja else ax l s:=by
 unfold Aw
 rw [hne,aK,ob sH,← lr hk l]
 cases c:seq s (aC aL (aa ids)) with
 | true=>rw [cS.1 c];rfl
 | false=>rfl
theorem EU {ids:List Int} (hne:ids.isEmpty=false) (hk:∀ g:Ty.d aB,g.1=aC aL (aa ids)→gX ids g=true) (l:aW):jc ids (fH ja l (aC aL (aa ids)))=Aw ids l∧Aw ids (fH ja l (aC aL (aa ids)))=Aw ids l:=by
 have e:jc ids (fH ja l (aC aL (aa ids)))=Aw ids l:=by
  unfold Aw
  rw [hne,aK]
  exact t7 sH hk l
 refine ⟨e,?_⟩
 have e2:Aw ids (fH ja l (aC aL (aa ids)))=fH ja (jc ids (fH ja l (aC aL (aa ids)))) (aC aL (aa ids)):=by
  conv=>lhs;unfold Aw
  rw [hne,aK]
 rw [e2,e]
 unfold Aw
 rw [hne,aK,Fw sH]
 exact congrArg (fun h=>fH h (jc ids l) (aC aL (aa ids))) (funext Jz)
theorem Bc {h:Ty.d aB→Ty.d aB} {s:ByteArray}:∀ l:aW,(∀ f,ax l s=some f→h f=f)→fH h l s=l
 | [],_=>rfl
 | g::l,q=>by
  unfold fH
  cases c:seq g.1 s with
  | true=>rw [aY,q g (by rw [ax.eq_2,c];rfl)]
  | false=>rw [aK,Bc l fun f hf=>q f (by rw [ax.eq_2,c,aK];exact hf)]
theorem E6 {d:Ty.d a_} (h:∀ f ∈ d.1,SF f) (s:ByteArray):(iv d s).1.1=d.1:=by
 rcases qO d (tI s) with e | e
 · exact e
 · refine Eq.trans e ?_
   unfold tI
   cases (ax d.1 s).isNone with
   | true=>rfl
   | false =>
    refine Bc d.1 fun f hf=>?_
    have q:SF f:=h f (kA hf).1
    exact Prod.ext rfl (Prod.ext rfl (Prod.ext (Eq.symm q) rfl))
theorem Fh {l:aW} {s:ByteArray} {f:Ty.d aB} (hf:ax l s=some f) (hs:SF f) (hlt:(aw f.2.1).2<(f.2.1.size:Int)) (c:Int):xa s (aw f.2.1).2 l c=(fH ja l s,0):=by
 obtain ⟨_,h0,h1⟩:=gz f.2.1
 unfold xa
 rw [hf]
 simp only []
 rw [aO ⟨h0,h1⟩]
 refine Prod.ext ?_ rfl
 refine AB l fun g hg=>?_
 rw [hf] at hg
 cases hg
 have hs:@Eq Int f.2.2.1 (f.2.1.size:Int):=hs
 have key:∀ a:Int,a=(f.2.1.size:Int)→(if (aw f.2.1).2<a then (aw f.2.1).2 else a)=((ByteArray.extract f.2.1 0 (aw f.2.1).2.toNat).size:Int):=by
  intro a ha
  rw [wx,ha,if_pos hlt]
 exact Prod.ext rfl (Prod.ext rfl (Prod.ext (key _ hs) rfl))
theorem J7 {l:aW} {s:ByteArray} {f:Ty.d aB} (hf:ax l s=some f) (hs:SF f) (h:¬ (aw f.2.1).2<(f.2.1.size:Int)):fH ja l s=l:=by
 obtain ⟨_,h0,h1⟩:=gz f.2.1
 refine Bc l fun g hg=>?_
 rw [hf] at hg
 cases hg
 have hs:@Eq Int f.2.2.1 (f.2.1.size:Int):=hs
 have e:(aw f.2.1).2.toNat=f.2.1.size:=by omega
 have e2:ByteArray.extract f.2.1 0 (aw f.2.1).2.toNat=f.2.1:=by rw [e,vZ]
 refine Prod.ext rfl (Prod.ext e2 (Prod.ext ?_ rfl))
 show ((ByteArray.extract f.2.1 0 (aw f.2.1).2.toNat).size:Int)=f.2.2.1
 rw [e2]
 exact hs.symm
theorem Ei {l:aW} {s:ByteArray} (h:∀ f ∈ l,SF f):∀ f ∈ fH ja l s,SF f:=fun f hf=>by
 rcases sZ hf with w | ⟨g,_,h2⟩
 · exact h f w
 · rw [h2];exact Jo g
theorem ua {d:Ty.d a_} (hd:DR d) {x:Int} {f:Ty.d aB} (h:ax d.1 (aC aL x)=some f):dh d x=f.2.1:=by
 unfold dh
 rw [gY hd,h]
theorem Gi {d:Ty.d a_} (hd:DR d) (hs:∀ f ∈ d.1,SF f) {x:Int} {f:Ty.d aB} (hf:ax d.1 (aC aL x)=some f) :
 ((gn x d).1.1=d.1∨(gn x d).1.1=fH ja d.1 (aC aL x))∧@Eq Int (gn x d).1.2.1 d.2.1:=by
 have hq:SF f:=hs f (kA hf).1
 unfold gn
 rw [ua hd hf]
 by_cases c:(aw f.2.1).2<(f.2.1.size:Int)
 · rw [aO c,aY]
   have h1:(mN d (aC aL x) (aw f.2.1).2).1.1=d.1∨(mN d (aC aL x) (aw f.2.1).2).1.1=fH ja d.1 (aC aL x):=by
    rcases qO d (xa (aC aL x) (aw f.2.1).2) with e | e
    · exact .inl e
    · refine .inr (Eq.trans e ?_)
      rw [Fh hf hq c]
   have h2:@Eq Int (mN d (aC aL x) (aw f.2.1).2).1.2.1 d.2.1:=s_ d _
   generalize mN d (aC aL x) (aw f.2.1).2=r at h1 h2 ⊢
   unfold gD
   cases r.2==0 with
   | false=>exact ⟨h1,h2⟩
   | true =>
    rw [aY]
    have h3:∀ g ∈ r.1.1,SF g:=by
     rcases h1 with e | e
     · rw [e];exact hs
     · rw [e];exact Ei hs
    rw [E6 h3]
    exact ⟨h1,Eq.trans (s_ r.1 _) h2⟩
 · rw [aP c,aK]
   show ((iv d (aC aL x)).1.1=d.1∨_)∧_
   refine ⟨.inl (E6 hs _),s_ d _⟩
theorem Cx {l:aW} {c:Int} (hd:DR (dk l c)) (hs:∀ f ∈ l,SF f) {x:Int} {f:Ty.d aB} (hf:ax l (aC aL x)=some f):gn x (dk l c)=(dk (fH ja l (aC aL x)) c,0):=by
 have hq:SF f:=hs f (kA hf).1
 unfold gn
 rw [ua hd hf]
 have syn:∀ m:aW,(∀ g ∈ m,SF g)→(ax m (aC aL x)).isNone=false→tI (aC aL x) m c=(m,0):=fun m hm hn=>by
  unfold tI
  rw [hn]
  refine Prod.ext (Bc m fun g hg=>?_) rfl
  have q:SF g:=hm g (kA hg).1
  exact Prod.ext rfl (Prod.ext rfl (Prod.ext (Eq.symm q) rfl))
 by_cases q:(aw f.2.1).2<(f.2.1.size:Int)
 · rw [aO q,aY]
   have e:mN (dk l c) (aC aL x) (aw f.2.1).2=(dk (fH ja l (aC aL x)) c,0):=by
    refine (sV hd _).trans ?_
    rw [Fh hf hq q]
   have hd2:=vL hd (aC aL x) (aw f.2.1).2
   rw [e] at hd2 ⊢
   show iv (dk (fH ja l (aC aL x)) c) (aC aL x)=_
   refine (sV hd2 _).trans ?_
   rw [syn _ (Ei hs) (by rw [ob sH,cF,aY,hf];rfl)]
 · rw [aP q,aK,J7 hf hq q]
   show iv (dk l c) (aC aL x)=_
   refine (sV hd _).trans ?_
   rw [syn l hs (by rw [hf];rfl)]
structure PR (ids:List Int) (c:Int) (l l':aW):Prop where
 d:DR (dk l c)
 d':DR (dk l' c)
 s:∀ f ∈ l,SF f
 s':∀ f ∈ l',SF f
 nf:Aw ids l=Aw ids l'
theorem yZ {d x:Ty.d a_}:∀ r:List Int,r.Pairwise (· < ·)→(∀ i ∈ r,(ae d (aC aL i)).2=(ae x (aC aL i)).2)→(∀ i ∈ r,i≠aa r→dh d i=dh x i)→eL d r=eL x r
 | [],_,_,_=>rfl
 | i::r,hp,h1,h2=>by
  have hp2:=List.pairwise_cons.1 hp
  have hl:r≠[]→aa (i::r)=aa r∧aa r ∈ r:=fun q=>by
   cases r with
   | nil=>exact absurd rfl q
   | cons z r =>
    refine ⟨rfl,?_⟩
    unfold aa
    exact dx (by rw [lQ];omega)
  have ih:=yZ r hp2.2 (fun j hj=>h1 j (qu _ hj)) fun j hj hn=>h2 j (qu _ hj) (by
   have hne:r≠[]:=fun q=>by rw [q] at hj;cases hj
   rw [(hl hne).1];exact hn)
  show (na d i r.isEmpty&&eL d r)=(na x i r.isEmpty&&eL x r)
  rw [ih]
  congr 1
  unfold na
  rw [h1 i oh]
  cases q:r.isEmpty with
  | true=>rfl
  | false =>
   have hne:r≠[]:=fun w=>by rw [w] at q;cases q
   obtain ⟨e1,e2⟩:=hl hne
   have hlt:=hp2.1 _ e2
   rw [h2 i oh (by rw [e1];omega)]
theorem Co {d x:Ty.d a_} {ids:List Int} (h1:1≤ids.length) (hs:∀ i ∈ ids,ae d (aC aL i)=ae x (aC aL i)) (hh:∀ i ∈ ids,ae d (aC bp i)=ae x (aC bp i)) :
 ll d ids=ll x ids∧km d (ids.getD 0 0)=km x (ids.getD 0 0):=by
 have hm:ids.getD 0 0 ∈ ids:=dx (by omega)
 have t1:∀ i ∈ ids,dh d i=dh x i:=fun i hi=>by unfold dh;rw [hs i hi]
 have a1:jx d ids=jx x ids:=vd fun i hi=>by rw [t1 i hi]
 have a2:jx d (ids.drop 1)=jx x (ids.drop 1):=vd fun i hi=>by rw [t1 i (List.mem_of_mem_drop hi)]
 have e1:lT d (ids.getD 0 0)=lT x (ids.getD 0 0):=by unfold lT;rw [hh _ hm]
 have e2:km d (ids.getD 0 0)=km x (ids.getD 0 0):=by unfold km;rw [hh _ hm,e1,t1 _ hm]
 refine ⟨?_,e2⟩
 unfold ll
 rw [e2,e1,a1,a2]
theorem Ga {l:aW} {c:Int} (hd:DR (dk l c)) {s:ByteArray} (h:(ae (dk l c) s).2=true):∃ f,ax l s=some f:=by
 rw [gY hd] at h
 cases q:ax l s with
 | some f=>exact ⟨f,rfl⟩
 | none =>
  have:ax (dk l c).1 s=none:=q
  rw [this] at h
  cases h
theorem vB {l l':aW} {c c':Int} (h:DR (dk l c)) (h':DR (dk l' c')) {s:ByteArray} (e:ax l s=ax l' s):ae (dk l c) s=ae (dk l' c') s:=by
 rw [gY h,gY h']
 show (match ax l s with | none=>_ | some f=>_)=(match ax l' s with | none=>_ | some f=>_)
 rw [e]
theorem xS {ids:List Int} (h:1≤ids.length):aa ids ∈ ids:=by unfold aa;exact dx (by omega)
theorem ER {v:Ty.d ay} (hv:dG v=true) {c:Int} {l l':aW} (h:PR v.2.1 c l l') :
 (js v (dk l c)).2.2=(js v (dk l' c)).2.2∧((js v (dk l c)).2.2=0→js v (dk l c)=js v (dk l' c)):=by
 obtain ⟨nx,ids,u⟩:=v
 cases u
 obtain ⟨n1,n2,n3,n4⟩:=mK hv
 obtain ⟨_,_,g1,_,_⟩:=dY hv
 have hin:∀ i ∈ ids,1≤i∧i≤100000:=fun i hi=>⟨(n3 i hi).1,Km (n3 i hi).2 n2⟩
 have hne:ids.isEmpty=false:=by cases ids with | nil=>cases g1 | cons _ _=>rfl
 have hlast:=xS g1
 have hkl:=pj hlast (hin _ hlast)
 have gl:(ax l (aC aL (aa ids))).map ja=(ax l' (aC aL (aa ids))).map ja:=by
  have e1:=vW hne hkl l
  have e2:=vW hne hkl l'
  rw [cF,aY] at e1 e2
  rw [← e1,← e2]
  exact congrArg (fun m=>ax m _) h.nf
 have go:∀ s,(∀ g:Ty.d aB,g.1=s→gX ids g=true)→s≠aC aL (aa ids)→ax l s=ax l' s:=fun s hk hs=>by
  have e1:=vW hne hk l
  have e2:=vW hne hk l'
  rw [lW hs,aK] at e1 e2
  rw [← e1,← e2]
  exact congrArg (fun m=>ax m _) h.nf
 have hgood:eL (dk l c) ids=eL (dk l' c) ids:=by
  refine yZ ids n4 (fun i hi=>?_) fun i hi hn=>?_
  · by_cases q:i=aa ids
    · rw [q,gY h.d,gY h.d']
      show (match ax l _ with | none=>_ | some f=>_:ByteArray × Bool).2=(match ax l' _ with | none=>_ | some f=>_:ByteArray × Bool).2
      cases a:ax l (aC aL (aa ids)) <;> cases b:ax l' (aC aL (aa ids)) <;> rw [a,b] at gl
      · cases gl
      · cases gl
    · rw [vB h.d h.d' (go _ (pj hi (hin i hi)) (tQ (hin i hi) (hin _ hlast) q))]
  · unfold dh
    rw [vB h.d h.d' (go _ (pj hi (hin i hi)) (tQ (hin i hi) (hin _ hlast) hn))]
 show (js (nx,(ids,())) (dk l c)).2.2=_∧_
 unfold js
 show (bif !eL (dk l c) ids then _ else _:Ty.d aG × RD).2.2=(bif !eL (dk l' c) ids then _ else _:Ty.d aG × RD).2.2∧_
 rw [← hgood]
 cases hg:eL (dk l c) ids with
 | false=>exact ⟨rfl,fun z=>absurd z (by show (3:Int)≠0;decide)⟩
 | true =>
  obtain ⟨f,hf⟩:=Ga h.d ((qY hg).1 _ hlast)
  obtain ⟨f',hf'⟩:=Ga h.d' ((qY (hgood▸hg)).1 _ hlast)
  have ef:ja f=ja f':=by
   rw [hf,hf'] at gl
   exact Option.some.inj gl
  have en:(aw (dh (dk l c) (aa ids))).2=(aw (dh (dk l' c) (aa ids))).2:=by
   rw [ua h.d hf,ua h.d' hf',← wx f.2.1,← wx f'.2.1]
   exact congrArg (fun g:Ty.d aB=>((g.2.1.size:Nat):Int)) ef
  have hy:=yJ (aa ids) h.d
  have hy':=yJ (aa ids) h.d'
  have k1:=Cx h.d h.s hf
  have k2:=Cx h.d' h.s' hf'
  rw [k1] at hy
  rw [k2] at hy'
  have c1:=(EU hne hkl l).1
  have c2:=(EU hne hkl l').1
  have cc:jc ids (fH ja l (aC aL (aa ids)))=jc ids (fH ja l' (aC aL (aa ids))):=by rw [c1,c2];exact h.nf
  have tt:∀ s,(∀ g:Ty.d aB,g.1=s→gX ids g=true)→ae (dk (fH ja l (aC aL (aa ids))) c) s=ae (dk (fH ja l' (aC aL (aa ids))) c) s:=fun s hk=>by
   exact vB hy hy' ((lr hk _).symm.trans ((congrArg (fun m=>ax m s) cc).trans (lr hk _)))
  obtain ⟨gg,hh⟩:=Co g1 (fun i hi=>tt _ (pj hi (hin i hi))) fun i hi=>tt _ (Em hi (hin i hi))
  simp only [ff,aK,k1,k2]
  rw [gg,hh,en]
  simp only [bne_self_eq_false,aK]
  unfold sd
  simp only []
  rw [qE hy,qE hy',cc]
  cases (ll (dk (fH ja l' (aC aL (aa ids))) c) ids).2.2.1 != 0 with
  | true=>exact ⟨rfl,fun z=>absurd z (by show (3:Int)≠0;decide)⟩
  | false=>exact ⟨rfl,fun _=>rfl⟩
noncomputable def mM (d:Ty.d a_):List Int:=bif (ae d d_).2 then (cr (ae d d_).1).1.2.1 else []
theorem Fg {ids:List Int} {l l':aW} (hids:∀ i ∈ ids,1≤i∧i≤100000) (h:Aw ids l=Aw ids l'):ax l d_=ax l' d_:=by
 have hk:=Eo ids
 cases q:ids.isEmpty with
 | true =>
  unfold Aw at h
  rw [q,aY,aY] at h
  rw [← lr hk l,← lr hk l']
  exact congrArg (fun m=>ax m _) h
 | false =>
  have e1:=vW q hk l
  have e2:=vW q hk l'
  have h1:1≤ids.length:=by cases ids with | nil=>cases q | cons _ _=>rw [lQ];omega
  have hs:d_≠aC aL (aa ids):=pf (hids _ (xS h1))
  rw [lW hs,aK] at e1 e2
  rw [← e1,← e2]
  exact congrArg (fun m=>ax m _) h
theorem I8 (d:Ty.d a_):∀ i ∈ mM d,1≤i∧i≤100000:=fun i hi=>by
 unfold mM at hi
 cases c:(ae d d_).2 with
 | false=>rw [c] at hi;cases hi
 | true =>
  rw [c,aY] at hi
  rcases iU (fun v=>dG v=true) ap ((0,([],())):Ty.d ay) (ae d d_).1 with ⟨v,h1,_,e⟩ | e
  · have e:cr (ae d d_).1=(v,true):=e
    rw [e] at hi
    obtain ⟨n1,n2,n3,n4⟩:=mK (n:=v.1) (ids:=v.2.1) h1
    have:=n3 i hi
    exact ⟨this.1,by omega⟩
  · have e:cr (ae d d_).1=((0,([],())),false):=e
    rw [e] at hi
    cases hi
theorem H4 {c:Int} {l l':aW} (h:PR (mM (dk l c)) c l l') :
 (fD (dk l c)).2.2=(fD (dk l' c)).2.2∧((fD (dk l c)).2.2=0→fD (dk l c)=fD (dk l' c)):=by
 have ht:ae (dk l c) d_=ae (dk l' c) d_:=vB h.d h.d' (Fg (I8 _) h.nf)
 have e1:∀ m:aW,DR (dk m c)→fD (dk m c)=bif !(ae (dk m c) d_).2 then kY (dk m c) else bif !(cr (ae (dk m c) d_).1).2 then (iV,(dk m c,3)) else js (cr (ae (dk m c) d_).1).1 (dk m c):=fun m hm=>by
  unfold fD
  rw [dO.2 hm]
  rfl
 rw [e1 l h.d,e1 l' h.d',← ht]
 cases c1:(ae (dk l c) d_).2 with
 | false =>
  have hi:mM (dk l c)=[]:=by unfold mM;rw [c1];rfl
  have hn:=h.nf
  rw [hi] at hn
  have hn:jc [] l=jc [] l':=hn
  simp only [qj,aY]
  have ef:ib (dk l c)=ib (dk l' c):=by
   unfold ib
   rw [qE h.d,qE h.d',hn]
  have em:kY (dk l c)=kY (dk l' c):=by unfold kY;rw [ef]
  rw [em]
  exact ⟨rfl,fun _=>rfl⟩
 | true =>
  simp only [ff,aK]
  rcases iU (fun v=>dG v=true) ap ((0,([],())):Ty.d ay) (ae (dk l c) d_).1 with ⟨v,h1,_,e⟩ | e
  · have e:cr (ae (dk l c) d_).1=(v,true):=e
    have hi:mM (dk l c)=v.2.1:=by unfold mM;rw [c1,aY,e]
    rw [hi] at h
    rw [e]
    exact ER h1 h
  · have e:cr (ae (dk l c) d_).1=((0,([],())),false):=e
    rw [e]
    exact ⟨rfl,fun z=>absurd z (by show (3:Int)≠0;decide)⟩
structure RS (ids:List Int) (c:Int) (l:aW) (y:Ty.d a_):Prop where
 disk:DR y
 nf:Aw ids y.1=Aw ids l
 safe:∀ f ∈ y.1,SF f∨gX ids f=false
 cap:@Eq Int y.2.1 c
theorem FT {v:Ty.d ay} (hv:dG v=true) {d:Ty.d a_} (hd:DR d) (hs:∀ f ∈ d.1,SF f) (z:(js v d).2.2≠0):RS v.2.1 d.2.1 d.1 (js v d).2.1:=by
 obtain ⟨nx,ids,u⟩:=v
 cases u
 obtain ⟨n1,n2,n3,n4⟩:=mK hv
 obtain ⟨_,_,g1,_,_⟩:=dY hv
 have hin:∀ i ∈ ids,1≤i∧i≤100000:=fun i hi=>⟨(n3 i hi).1,Km (n3 i hi).2 n2⟩
 have hne:ids.isEmpty=false:=by cases ids with | nil=>cases g1 | cons _ _=>rfl
 have hlast:=xS g1
 have hkl:=pj hlast (hin _ hlast)
 have hself:RS ids d.2.1 d.1 d:=⟨hd,rfl,fun f hf => .inl (hs f hf),rfl⟩
 show RS ids d.2.1 d.1 (js (nx,(ids,())) d).2.1
 have z:(js (nx,(ids,())) d).2.2≠0:=z
 unfold js at z ⊢
 simp only [] at z ⊢
 cases hg:eL d ids with
 | false=>exact hself
 | true =>
  rw [hg] at z
  simp only [ff,aK] at z ⊢
  have hsome:∃ f,ax d.1 (aC aL (aa ids))=some f:=by
   have:=(qY hg).1 _ hlast
   rw [gY hd] at this
   cases q:ax d.1 (aC aL (aa ids)) with
   | some f=>exact ⟨f,rfl⟩
   | none=>rw [q] at this;cases this
  obtain ⟨f,hf⟩:=hsome
  obtain ⟨k1,k2⟩:=Gi hd hs hf
  have hy:=yJ (aa ids) hd
  have hfix:RS ids d.2.1 d.1 (gn (aa ids) d).1:=by
   refine ⟨hy,?_,fun g hg => .inl ?_,k2⟩
   · rcases k1 with e | e
     · rw [e]
     · rw [e];exact (EU hne hkl d.1).2
   · rcases k1 with e | e
     · rw [e] at hg;exact hs g hg
     · rw [e] at hg;exact Ei hs g hg
  cases c1:(gn (aa ids) d).2 != 0 with
  | true=>exact hfix
  | false =>
   rw [c1] at z
   simp only [aK] at z ⊢
   unfold sd at z ⊢
   cases c2:(ll (gn (aa ids) d).1 ids).2.2.1 != 0 with
   | true=>exact hfix
   | false =>
    rw [c2] at z
    simp only [aK] at z ⊢
    cases c3:(iO ids (gn (aa ids) d).1).2 != 0 with
    | false=>rw [c3] at z;exact absurd rfl z
    | true =>
     simp only [aY]
     have q:=D_ (ids:=ids) ⟨hfix.disk,rfl,hfix.safe,hfix.cap⟩
     exact ⟨q.disk,(xX q.clean).trans hfix.nf,q.safe,q.cap⟩
theorem HE {d:Ty.d a_} (hd:DR d) (hs:∀ f ∈ d.1,SF f) (z:(fD d).2.2≠0):RS (mM d) d.2.1 d.1 (fD d).2.1:=by
 have hself:RS (mM d) d.2.1 d.1 d:=⟨hd,rfl,fun f hf => .inl (hs f hf),rfl⟩
 unfold fD at z ⊢
 rw [dO.2 hd] at z ⊢
 simp only [ff,aK] at z ⊢
 cases cdn:d.2.2.2.1 with
 | true=>exact hself
 | false =>
  rw [cdn] at z
  simp only [aK] at z ⊢
  cases c1:(ae d d_).2 with
  | false =>
   rw [c1] at z
   simp only [qj,aY] at z ⊢
   have hi:mM d=[]:=by unfold mM;rw [c1];rfl
   rw [hi]
   unfold kY at z ⊢
   cases c2:(ib d).2==0 with
   | true=>rw [c2] at z;exact absurd rfl z
   | false =>
    simp only [aK]
    have q:=Hr (Z:=jc [] d.1) (c:=d.2.1) ⟨hd,rfl,fun f hf => .inl (hs f hf),rfl⟩ (beq_eq_false_iff_ne.1 c2)
    exact ⟨q.disk,xX q.clean,q.safe,q.cap⟩
  | true =>
   rw [c1] at z
   simp only [ff,aK] at z ⊢
   rcases iU (fun v=>dG v=true) ap ((0,([],())):Ty.d ay) (ae d d_).1 with ⟨v,h1,_,e⟩ | e
   · have e:cr (ae d d_).1=(v,true):=e
     have hi:mM d=v.2.1:=by unfold mM;rw [c1,aY,e]
     rw [e] at z ⊢
     simp only [ff,aK] at z ⊢
     rw [hi]
     exact FT h1 hd hs z
   · have e:cr (ae d d_).1=((0,([],())),false):=e
     rw [e]
     exact hself
theorem Ed {ids:List Int} {c:Int} {l:aW} {y:Ty.d a_} (hl:DR (dk l c)) (hs:∀ f ∈ l,SF f) (h:RS ids c l y) (tears:List Int):∃ l',df y tears=dk l' c∧PR ids c l l':=by
 refine ⟨kf tears y.1 0,?_,hl,?_,hs,xO tears y.1 0 h.disk.all,?_⟩
 · unfold df
   rw [dO.2 h.disk]
   show (kf tears y.1 0,(y.2.1,(-1,(false,()))))=_
   exact Prod.ext rfl (Prod.ext h.cap rfl)
 · have:=ur tears h.disk
   have e:df y tears=dk (kf tears y.1 0) c:=by
    unfold df
    rw [dO.2 h.disk]
    exact Prod.ext rfl (Prod.ext h.cap rfl)
   rw [e] at this
   exact this
 · rw [← h.nf]
   exact (xX (yU ED tears y.1 0 h.safe)).symm
abbrev LI:=List (Int × nF)
structure TX (st:Ty.d aG) (d:Ty.d a_) (L:LI):Prop where
 live:dG st.1=true
 disk:DR d
 ids:st.1.2.1=L.map (·.1)
 text:∀ x ∈ L,fT d (aC aL x.1)=some (iA x.2)∧∀ r ∈ x.2,j9 r=true
 tail:∀ t,fT d (jM st)=some t→st.2.2.2.1=(t.size:Int)
theorem TX.bt {st:Ty.d aG} {d:Ty.d a_} {L:LI} (h:TX st d L):BT st d:=⟨h.live,h.disk,fun x hx=>by
 rw [h.ids] at hx
 obtain ⟨y,hy,rfl⟩:=List.mem_map.1 hx
 exact ⟨_,(h.text y hy).1,y.2,(h.text y hy).2,rfl⟩,h.tail⟩
theorem G_ {d:Ty.d a_}:∀ {ids:List Int},(∀ x ∈ ids,∃ t,fT d (aC aL x)=some t∧FL t)→∃ L:LI,ids=L.map (·.1)∧∀ x ∈ L,fT d (aC aL x.1)=some (iA x.2)∧∀ r ∈ x.2,j9 r=true
 | [],_=>⟨[],rfl,fun x hx=>(by cases hx)⟩
 | x::l,h=>by
  obtain ⟨L,h1,h2⟩:=G_ (ids:=l) fun y hy=>h y (qu _ hy)
  obtain ⟨t,ht,rs,hr,e⟩:=h x oh
  refine ⟨(x,rs)::L,by rw [List.map_cons,← h1],fun y hy=>?_⟩
  rcases List.mem_cons.1 hy with w | w
  · rw [w];exact ⟨by rw [ht,e],hr⟩
  · exact h2 y w
theorem BT.tx {st:Ty.d aG} {d:Ty.d a_} (h:BT st d):∃ L,TX st d L:=by
 obtain ⟨L,h1,h2⟩:=G_ h.full
 exact ⟨L,h.live,h.disk,h1,h2,h.tail⟩
abbrev Mh:=ab × Int × Int
def M4 (pre:bB) (p:Ty.d aD) (s:Mh):Mh :=
 bif p.2.2.2.1.1==3 then (bif mG p.2.2.2.1 (lA p.2.2.2.1.2.1 pre) then (eY s.1 (lA p.2.2.2.1.2.1 pre),A6 p.2.2.2.1.2.1 s.2.1,og (eY s.1 (lA p.2.2.2.1.2.1 pre)) s.2.2) else (s.1,A6 p.2.2.2.1.2.1 s.2.1,s.2.2)) else
 bif p.2.2.2.1.1==5 then (bif mG p.2.2.2.1 (i6 pre) then (eY s.1 (i6 pre),A6 p.2.2.2.1.2.1 s.2.1,og (eY s.1 (i6 pre)) s.2.2) else (s.1,A6 p.2.2.2.1.2.1 s.2.1,1)) else
 (s.1,A6 p.2.2.2.1.2.1 s.2.1,s.2.2)
def gr (pre:bB):bB→Mh→Mh
 | [],s=>s
 | p::r,s=>bif s.2.2 != 0 then s else gr (pre++[p]) r (M4 pre p s)
def dn (d:Ty.d a_):Bool:=d.2.2.2.1
theorem EM (s:ByteArray):(cr s).1.2.1.length≤60:=by
 rcases iU (fun v=>dG v=true) ap ((0,([],())):Ty.d ay) s with ⟨r,h1,h2,h3⟩ | h
 · unfold cr
   rw [h3]
   exact (dY (nx:=r.1) (ids:=r.2.1) h1).2.2.2.1
 · unfold cr
   rw [h]
   exact Nat.zero_le _
theorem Io {d:Ty.d a_}:(fD d).1.1.2.1.length≤60:=by
 have hv:=EM (ae d d_).1
 unfold fD
 cases fJ d with
 | false=>exact Nat.zero_le _
 | true =>
  cases d.2.2.2.1 with
  | true=>exact Nat.zero_le _
  | false =>
   cases (ae d d_).2 with
   | false =>
    show (kY d).1.1.2.1.length≤60
    unfold kY
    cases (ib d).2==0
    · exact Nat.zero_le _
    · show 1≤60
      decide
   | true =>
    simp only [ff,aK]
    cases (cr (ae d d_).1).2 with
    | false=>exact Nat.zero_le _
    | true =>
     simp only [ff,aK]
     generalize (cr (ae d d_).1).1=v at hv ⊢
     unfold js
     cases eL d v.2.1 with
     | false=>exact Nat.zero_le _
     | true =>
      simp only [ff,aK]
      cases (gn (aa v.2.1) d).2 != 0 with
      | true=>exact Nat.zero_le _
      | false =>
       simp only [aK]
       generalize ll (gn (aa v.2.1) d).1 v.2.1=g
       unfold sd
       cases g.2.2.1 != 0 with
       | true=>exact Nat.zero_le _
       | false =>
        simp only [aK]
        cases (iO v.2.1 (gn (aa v.2.1) d).1).2 != 0 with
        | true=>exact Nat.zero_le _
        | false=>exact hv
theorem GC (k:Nat) {c:fQ} (h:CI c) {n:Int} (h0:0<n) (h1:n≤256):jX (aI.f k c n) (fun r=>CI r.1):=yq (bz k h h0 h1) fun _ q=>q.1
theorem vN {k:Nat} (hk:2 ^ 50≤k) {c:fQ} (h:CI c) {s:ByteArray} (hs:s.size≤1073741824):jX (fY.f k c s) (fun r=>CI r.1∧r.2.1.size≤2*s.size+3):=by
 have hx:∀ i j:Nat,(ByteArray.extract s i j).size≤s.size:=Er s
 have hb:∀ x:Int,(bytesOf [x]).size=1:=fun x=>B4 [x]
 have hcat:∀ a b:ByteArray,(a++b).size=a.size+b.size:=fun a b=>ByteArray.size_append ..
 unfold fY.f fY.t
 refine bX (fun _=>?_) (fun h0=>?_)
 · refine aS (uV hk h (by omega) (by omega)) fun r q=>b8 ⟨q.1,?_⟩
   have:=q.2
   show r.2.1.size≤_
   omega
 have h0:(s.size:Int)≠0:=beq_eq_false_iff_ne.1 h0
 refine aS (EL k h (by omega)) fun r2 q2=>?_
 obtain ⟨c2,a2,b2⟩:=q2
 have hw:aF (r2.2.1+1)=r2.2.1+1:=aE (by omega) (by omega)
 have x1:=hx 0 (Int.toNat r2.2.1)
 have x2:=hx (Int.toNat (r2.2.1+1)) s.size
 have x3:=hx (Int.toNat r2.2.1) s.size
 rw [hw]
 refine aS (GC k c2 (by omega) (by omega)) fun r3 q3=>bX (fun _=>?_) (fun _=>bX (fun _=>?_) (fun _=>bX (fun _=>?_) (fun _=>?_)))
 · refine oj a2 (by omega) (oj (by omega) (by omega) (np (by omega) (b8 ⟨q3,?_⟩)))
   show (_++_:ByteArray).size≤_
   rw [hcat]
   omega
 · refine oj a2 (by omega) (aS (pN k q3) fun r4 q4=>np (by rw [hb];omega) (oj a2 (by omega) (np (by rw [hcat,hb];omega) (b8 ⟨q4.1,?_⟩))))
   show (_++_:ByteArray).size≤_
   rw [hcat,hcat,hb]
   omega
 · refine oj a2 (by omega) (b8 ⟨q3,?_⟩)
   show (ByteArray.extract s 0 _).size≤_
   omega
 · refine oj a2 (by omega) (k_ a2 (by omega) (aS (GC k q3 (by omega) (by omega)) fun r5 q5=>np (by rw [hb];omega) (oj (by omega) (by omega) (np (by rw [hcat,hb];omega) (b8 ⟨q5,?_⟩)))))
   show (_++_:ByteArray).size≤_
   rw [hcat,hcat,hb]
   omega
theorem KL {k:Nat} (hk:2 ^ 50≤k) (z:List Int) (y w:Int):∀ (d n:Nat) (a:Int) (c:fQ) (ids:List Int),d<n→CI c→ids.length+d≤4→1≤ids.length+d →
 jX (gN.l0 k n a (d:Int) c.1 c.2.1 c.2.2.1 z y ids w) (fun r=>CI r.1∧1≤r.2.1.2.1.length∧r.2.1.2.1.length≤4):=by
 intro d
 induction d with
 | zero =>
  intro n a c ids hn hc h1 h2
  obtain ⟨n,rfl⟩:∃ q,n=q+1:=⟨n-1,by omega⟩
  simp only [gN.l0,gN.b0]
  refine kZ (aP (by omega)) ?_
  refine aS (bz k hc (by omega) (by omega)) fun r hr=>?_
  exact b8 ⟨hr.1,h2,h1⟩
 | succ d ih =>
  intro n a c ids hn hc h1 h2
  obtain ⟨n,rfl⟩:∃ q,n=q+1:=⟨n-1,by omega⟩
  have hw:aF (((d+1:Nat):Int)-1)=(d:Int):=by rw [aE (by omega) (by omega)];omega
  simp only [gN.l0,gN.b0,hw]
  refine lM (aO (by omega)) ?_
  refine aS (bz k hc (by omega) (by omega)) fun r hr=>?_
  exact tj (by omega) (by decide) (ih n _ r.1 _ (by omega) hr.1 (by rw [bK];omega) (by rw [bK];omega))
theorem Iq {k:Nat} (hk:2 ^ 50≤k) {c:fQ} (h:CI c):jX (gN.f k c) (fun r=>CI r.1∧1≤r.2.1.2.1.length∧r.2.1.2.1.length≤4):=by
 unfold gN.f gN.t
 refine aS (bz k h (by omega) (by omega)) fun r q=>?_
 obtain ⟨hc,a,b⟩:=q
 rw [aE (n:=1+r.2.1) (by omega) (by omega)]
 have:=KL hk [] 0 0 (1+r.2.1).toNat k 0 r.1 [] (by omega) hc (by simp only [List.length_nil];omega) (by simp only [List.length_nil];omega)
 rw [show (((1+r.2.1).toNat:Nat):Int)=1+r.2.1 by omega] at this
 exact this
theorem yQ (k:Nat) {c:fQ} (h:CI c):∃ (c':fQ) (x:ByteArray),eP.f k c=some (c',(x,()))∧CI c':=by
 unfold eP.f eP.t
 obtain ⟨c',x,e,hc⟩:=HW k h (l:=[(⟨#[97]⟩:ByteArray),(⟨#[98]⟩:ByteArray),(⟨#[99]⟩:ByteArray),(⟨#[107,101,121]⟩:ByteArray),(⟨#[108,111,110,103,110,97,109,101]⟩:ByteArray)]) (by decide) (by decide)
 rw [e,aQ]
 exact ⟨_,_,rfl,hc⟩
theorem B1 {k:Nat} (hk:2 ^ 50≤k) {c:fQ} (h:CI c) {m:Int} (h0:0≤m) (h1:m≤200):∃ (c':fQ) (x:ByteArray),bE.f k c m=some (c',(x,()))∧CI c':=by
 unfold bE.f bE.t
 obtain ⟨c1,st,e1,hc1,_,_⟩:=j_ k h (n:=4) (by omega) (by omega)
 rw [e1,aQ]
 simp only []
 rw [aE (n:=m+1) (by omega) (by omega)]
 obtain ⟨c2,x,e2,hc2,hx0,hx1⟩:=j_ k hc1 (n:=m+1) (by omega) (by omega)
 rw [e2,aQ]
 simp only []
 have key:∀ (d n:Nat) (c:fQ) (out:List Int),d<n→CI c→out.length+d≤1000→∃ (c':fQ) (x:ByteArray),bE.l0 k n st (d:Int) c.1 c.2.1 c.2.2.1 out=some (c',(x,()))∧CI c':=by
  intro d
  induction d with
  | zero =>
   intro n c out hn hc ho
   obtain ⟨n,rfl⟩:∃ q,n=q+1:=⟨n-1,by omega⟩
   simp only [bE.l0,bE.b0]
   rw [aP (show ¬ ((0:Nat):Int) > 0 by omega),aK]
   exact ⟨_,_,rfl,hc⟩
  | succ d ih =>
   intro n c out hn hc ho
   obtain ⟨n,rfl⟩:∃ q,n=q+1:=⟨n-1,by omega⟩
   obtain ⟨c3,y,e3,hc3,_,_⟩:=vf k hc
   have e3':dj.f k (c.1,(c.2.1,(c.2.2.1,())))=some (c3,(y,())):=e3
   have hstep:∀ z:Int,∃ (c':fQ) (x:ByteArray),bE.l0 k n st (d:Int) c3.1 c3.2.1 c3.2.2.1 (out++[z])=some (c',(x,()))∧CI c':=fun z =>
    ih n c3 (out++[z]) (by omega) hc3 (by rw [xF];simp only [List.length_singleton];omega)
   simp only [bE.l0,bE.b0]
   rw [aO (show ((d+1:Nat):Int) > 0 by omega),aY,e3',aQ]
   simp only []
   have hw:aF (((d+1:Nat):Int)-1)=(d:Int):=by rw [aE (by omega) (by omega)];omega
   rw [hw,bO (by omega) (by decide),bO (by omega) (by decide),bO (by omega) (by decide),bO (by omega) (by decide)]
   cases st==1 <;> cases st==2 <;> exact hstep _
 have:=key x.toNat k c2 [] (by omega) hc2 (by simp;omega)
 rw [show ((x.toNat:Nat):Int)=x by omega] at this
 exact this
def ss (o:Option (fQ × bB × Unit)):Prop:=∃ (c:fQ) (l:bB),o=some (c,(l,()))∧CI c∧l.length≤1000
theorem Ms {k:Nat} (hk:2 ^ 50≤k) {L2:ac.T2} {b x:Int} {recs:nF} {m:Nat} (hr:recs.length≤100) (hm:m≤900)
 (H:∀ (sg:Int) (c:fQ) (o:bB),CI c→o.length≤m→ss (L2 sg b (aF (x-1)) c.1 c.2.1 c.2.2.1 o)) :
 ∀ (d n:Nat) (sg j:Int) (c:fQ) (o:bB),j+(d:Int)=(recs.length:Int)→0≤j→d<n→CI c→o.length+d+1≤m→ss (ac.l4 k L2 n sg b x j c.1 c.2.1 c.2.2.1 o recs):=by
 intro d
 induction d with
 | zero =>
  intro n sg j c o h1 h2 hn hc ho
  obtain ⟨n,rfl⟩:∃ q,n=q+1:=⟨n-1,by omega⟩
  obtain ⟨c1,y,e1,hc1,_,_⟩:=j_ k hc (n:=8) (by omega) (by omega)
  have e1':aI.f k (c.1,(c.2.1,(c.2.2.1,()))) 8=some (c1,(y,())):=e1
  obtain ⟨c2,z,e2,hc2⟩:=pk k hc1 (n:=4) (by omega) (by omega)
  simp only [ac.l4,ac.b4]
  rw [aP (show ¬ j<(recs.length:Int) by omega),aK,nK hk (by omega),aQ,e1',aQ]
  simp only []
  have hL:∀ (sg:Int) (p:Ty.d aD),ss (L2 sg b (aF (x-1)) c2.1 c2.2.1 c2.2.2.1 (o++[p])):=fun sg p=>H sg c2 (o++[p]) hc2 (by rw [bK];omega)
  cases y==0 with
  | true=>exact H sg c1 o hc1 (by omega)
  | false =>
   rw [aK]
   cases y==1 with
   | true =>
    rw [aY,bO (by omega) (by decide),e2,aQ]
    cases z
    · exact hL _ _
    · exact hL _ _
   | false =>
    rw [aK,bO (by omega) (by decide),e2,aQ]
    cases z
    · exact hL _ _
    · exact hL _ _
 | succ d ih =>
  intro n sg j c o h1 h2 hn hc ho
  obtain ⟨n,rfl⟩:∃ q,n=q+1:=⟨n-1,by omega⟩
  simp only [ac.l4,ac.b4]
  rw [aO (show j<(recs.length:Int) by omega),aY,aH h2 (by omega),bO (by omega) (by decide),aE (n:=j+1) (by omega) (by omega)]
  exact ih n sg (j+1) c _ (by omega) (by omega) (by omega) hc (by rw [bK];omega)
theorem My {k:Nat} (hk:2 ^ 50≤k) {L2:ac.T2} {b x:Int} {m:Nat} (hm:m≤900)
 (H:∀ (sg:Int) (c:fQ) (o:bB),CI c→o.length≤m→ss (L2 sg b (aF (x-1)) c.1 c.2.1 c.2.2.1 o)) :
 ∀ (d n:Nat) (sg:Int) (c:fQ) (o:bB) (recs:nF),d<n→CI c→recs.length+d≤4→o.length+5≤m→ss (ac.l3 k L2 n sg b x (d:Int) c.1 c.2.1 c.2.2.1 o recs):=by
 intro d
 induction d with
 | zero =>
  intro n sg c o recs hn hc hr ho
  obtain ⟨n,rfl⟩:∃ q,n=q+1:=⟨n-1,by omega⟩
  simp only [ac.l3,ac.b3]
  rw [aP (show ¬ ((0:Nat):Int) > 0 by omega),aK]
  exact Ms hk (by omega) hm H recs.length k sg 0 c o (by omega) (by omega) (by omega) hc (by omega)
 | succ d ih =>
  intro n sg c o recs hn hc hr ho
  obtain ⟨n,rfl⟩:∃ q,n=q+1:=⟨n-1,by omega⟩
  obtain ⟨c1,y1,e1,hc1⟩:=yQ k hc
  have e1':eP.f k (c.1,(c.2.1,(c.2.2.1,())))=some (c1,(y1,())):=e1
  obtain ⟨c2,y2,e2,hc2⟩:=B1 hk hc1 (m:=4) (by omega) (by omega)
  obtain ⟨c3,y3,e3,hc3⟩:=pk k hc2 (n:=3) (by omega) (by omega)
  obtain ⟨c4,y4,e4,hc4⟩:=yQ k hc3
  have hw:aF (((d+1:Nat):Int)-1)=(d:Int):=by rw [aE (by omega) (by omega)];omega
  simp only [ac.l3,ac.b3]
  rw [aO (show ((d+1:Nat):Int) > 0 by omega),aY,e1',aQ]
  simp only []
  rw [e2,aQ]
  simp only []
  rw [e3,aQ,hw]
  cases y3 with
  | true =>
   simp only [aY]
   rw [e4,aQ,bO (by omega) (by decide)]
   exact ih n sg c4 o _ (by omega) hc4 (by rw [bK];omega) ho
  | false =>
   simp only [aK]
   rw [bO (by omega) (by decide)]
   exact ih n sg c3 o _ (by omega) hc3 (by rw [bK];omega) ho
theorem Mt {k:Nat} (hk:2 ^ 50≤k):∀ (d n:Nat) (sg b:Int) (c:fQ) (o:bB),d<n→CI c→d≤10→o.length+10*d≤800→ss (ac.l2 k n sg b (d:Int) c.1 c.2.1 c.2.2.1 o):=by
 intro d
 induction d with
 | zero =>
  intro n sg b c o hn hc hd ho
  obtain ⟨n,rfl⟩:∃ q,n=q+1:=⟨n-1,by omega⟩
  simp only [ac.l2,ac.b2]
  rw [aP (show ¬ ((0:Nat):Int) > 0 by omega),aK]
  exact ⟨c,o,rfl,hc,by omega⟩
 | succ d ih =>
  intro n sg b c o hn hc hd ho
  obtain ⟨n,rfl⟩:∃ q,n=q+1:=⟨n-1,by omega⟩
  obtain ⟨c1,y1,e1,hc1,_,_⟩:=j_ k hc (n:=2) (by omega) (by omega)
  have e1':aI.f k (c.1,(c.2.1,(c.2.2.1,()))) 2=some (c1,(y1,())):=e1
  obtain ⟨c2,y2,e2,hc2,hy0,hy1⟩:=j_ k hc1 (n:=4) (by omega) (by omega)
  simp only [ac.l2,ac.b2]
  rw [aO (show ((d+1:Nat):Int) > 0 by omega),aY,e1',aQ]
  simp only []
  rw [e2,aQ]
  simp only []
  have h3:=My hk (L2:=ac.l2 k n) (b:=aF (aF (b+1)+y1)) (x:=((d+1:Nat):Int)) (m:=o.length+5) (by omega) (fun sg c o' hc' ho'=>by
   rw [show aF (((d+1:Nat):Int)-1)=(d:Int) by rw [aE (by omega) (by omega)];omega]
   exact ih n sg _ c o' (by omega) hc' (by omega) (by omega)) y2.toNat k sg c2 o [] (by omega) hc2 (by simp;omega) (by omega)
  rw [show ((y2.toNat:Nat):Int)=y2 by omega] at h3
  exact h3
theorem JO {k:Nat} (hk:2 ^ 50≤k) (sg b:Int) {x:Int} (h0:0≤x) (h1:x<5) (c:fQ) {o:bB} (hc:CI c) (ho:o.length≤100):ss (ac.l2 k k sg b x c.1 c.2.1 c.2.2.1 o):=by
 have:=Mt hk x.toNat k sg b c o (by omega) hc (by omega) (by omega)
 rw [show ((x.toNat:Nat):Int)=x by omega] at this
 exact this
theorem Mo {k:Nat} (hk:2 ^ 50≤k) {b:Int} {recs:nF} (hr:recs.length≤10) :
 ∀ (d n:Nat) (sg j:Int) (c:fQ) (o:bB),j+(d:Int)=(recs.length:Int)→0≤j→d<n→CI c→o.length+d≤50→ss (ac.l1 k n sg b j c.1 c.2.1 c.2.2.1 o recs):=by
 intro d
 induction d with
 | zero =>
  intro n sg j c o h1 h2 hn hc ho
  obtain ⟨n,rfl⟩:∃ q,n=q+1:=⟨n-1,by omega⟩
  obtain ⟨c1,y,e1,hc1⟩:=pk k hc (n:=8) (by omega) (by omega)
  have e1':bD.f k (c.1,(c.2.1,(c.2.2.1,()))) 8=some (c1,(y,())):=e1
  obtain ⟨c2,z,e2,hc2,hz0,hz1⟩:=j_ k hc1 (n:=5) (by omega) (by omega)
  simp only [ac.l1,ac.b1]
  rw [aP (show ¬ j<(recs.length:Int) by omega),aK,e1',aQ]
  cases y with
  | false =>
   simp only [qj,aY]
   rw [nK hk (by omega),aQ,bO (by omega) (by decide),e2,aQ]
   exact JO hk 2 b hz0 hz1 c2 hc2 (by rw [bK];omega)
  | true =>
   simp only [ff,aK]
   rw [e2,aQ]
   exact JO hk 2 b hz0 hz1 c2 hc2 (by omega)
 | succ d ih =>
  intro n sg j c o h1 h2 hn hc ho
  obtain ⟨n,rfl⟩:∃ q,n=q+1:=⟨n-1,by omega⟩
  simp only [ac.l1,ac.b1]
  rw [aO (show j<(recs.length:Int) by omega),aY,aH h2 (by omega),bO (by omega) (by decide),aE (n:=j+1) (by omega) (by omega)]
  exact ih n sg (j+1) c _ (by omega) (by omega) (by omega) hc (by rw [bK];omega)
theorem Mn {k:Nat} (hk:2 ^ 50≤k):∀ (d n:Nat) (sg b:Int) (c:fQ) (recs:nF),d<n→CI c→recs.length+d≤10→ss (ac.l0 k n sg b (d:Int) c.1 c.2.1 c.2.2.1 [] recs):=by
 intro d
 induction d with
 | zero =>
  intro n sg b c recs hn hc hr
  obtain ⟨n,rfl⟩:∃ q,n=q+1:=⟨n-1,by omega⟩
  simp only [ac.l0,ac.b0]
  rw [aP (show ¬ ((0:Nat):Int) > 0 by omega),aK]
  exact Mo hk (by omega) recs.length k sg 0 c [] (by omega) (by omega) (by omega) hc (by simp;omega)
 | succ d ih =>
  intro n sg b c recs hn hc hr
  obtain ⟨n,rfl⟩:∃ q,n=q+1:=⟨n-1,by omega⟩
  obtain ⟨c1,y1,e1,hc1⟩:=yQ k hc
  have e1':eP.f k (c.1,(c.2.1,(c.2.2.1,())))=some (c1,(y1,())):=e1
  obtain ⟨c2,y2,e2,hc2⟩:=B1 hk hc1 (m:=4) (by omega) (by omega)
  have hw:aF (((d+1:Nat):Int)-1)=(d:Int):=by rw [aE (by omega) (by omega)];omega
  simp only [ac.l0,ac.b0]
  rw [aO (show ((d+1:Nat):Int) > 0 by omega),aY,e1',aQ]
  simp only []
  rw [e2,aQ,bO (by omega) (by decide),hw]
  exact ih n sg _ c2 _ (by omega) hc2 (by rw [bK];omega)
theorem Dz {k:Nat} (hk:2 ^ 50≤k) {c:fQ} (hc:CI c):ss (ac.f k c):=by
 unfold ac.f ac.t
 obtain ⟨c1,y1,e1,hc1⟩:=pk k hc (n:=3) (by omega) (by omega)
 rw [e1,aQ]
 cases y1 with
 | true =>
  simp only [aY]
  obtain ⟨c2,z,e2,hc2,hz0,hz1⟩:=j_ k hc1 (n:=3) (by omega) (by omega)
  rw [e2,aQ]
  have:=Mn hk z.toNat k 1 0 c2 [] (by omega) hc2 (by simp;omega)
  rw [show ((z.toNat:Nat):Int)=z by omega] at this
  exact this
 | false =>
  simp only [aK]
  obtain ⟨c2,z,e2,hc2,hz0,hz1⟩:=j_ k hc1 (n:=5) (by omega) (by omega)
  rw [e2,aQ]
  exact JO hk 1 0 hz0 hz1 c2 hc2 (by simp)
theorem po:∀ (l:aW) (f:Ty.d aB),dz (gh l f)=dz l+f.1.size
 | [],f=>by unfold gh;rw [iP,Nat.add_comm]
 | g::l,f=>by
  unfold gh
  cases nO f.1 g.1
  · rw [aK,iP,iP,po l f];omega
  · rw [aY,iP,iP];omega
theorem K8 (n:Int):(aC bp n).size≤1000:=by
 unfold aC
 by_cases h:(1:Int)≤n∧n≤100000
 · rw [aO h,aY,ByteArray.size_append]
   have:=lm (n:=n) (by omega) (by omega)
   have:bp.size=4:=rfl
   omega
 · rw [aP h]
   exact Nat.zero_le _
theorem Hi (d:Ty.d a_) (s:ByteArray):(pQ d s).1.1=d.1∨(pQ d s).1.1=gh d.1 (s,(ByteArray.empty,(0,()))):=by
 have hb:(jf d).1.1=d.1:=by
  unfold jf
  cases !fJ d with
  | true=>rfl
  | false =>
   cases d.2.2.2.1 with
   | true=>rfl
   | false =>
    cases d.2.2.1==0 with
    | true=>rfl
    | false=>cases decide ((d.2.2.1:Int) > 0) <;> rfl
 unfold pQ gA
 cases (jf d).2 != 0 with
 | true=>exact .inl hb
 | false =>
  show (sa s d.1 d.2.1).1=_∨(sa s d.1 d.2.1).1=_
  unfold sa
  cases !jk s with
  | true=>exact .inl rfl
  | false =>
   cases (ax d.1 s).isSome with
   | true=>exact .inl rfl
   | false =>
    cases decide ((d.1.length:Int)≥130) with
    | true=>exact .inl rfl
    | false=>exact .inr rfl
structure DB (d:Ty.d a_):Prop where
 l:d.1.length≤200
 u:cO d.1≤2000000
 n:dz d.1≤20000
theorem Mp {k:Nat} (hk:2 ^ 50≤k):∀ (m n:Nat) (s:ByteArray) (i:Int) (c:fQ) (recs:nF),m<n→i+(m:Int)=4→0≤i→CI c→s.size+211*m≤844→recs.length+m≤10 →
 jX (dt.l0 k n s i c.1 c.2.1 c.2.2.1 recs [(⟨#[97]⟩:ByteArray),(⟨#[98]⟩:ByteArray),(⟨#[99]⟩:ByteArray),(⟨#[107,101,121]⟩:ByteArray)]) (fun r=>CI r.1∧r.2.1.size≤4000):=by
 intro m
 induction m with
 | zero =>
  intro n s i c recs hn hi h0 hc hs hr
  obtain ⟨n,rfl⟩:∃ q,n=q+1:=⟨n-1,by omega⟩
  simp only [dt.l0,dt.b0]
  refine kZ (aP (by show ¬ i<(4:Int);omega)) ?_
  refine aS (bz k hc (by omega) (by omega)) fun r6 q6=>?_
  refine bR (nK hk (by omega) _ _) ?_
  refine aS (lZ k q6.1 (by omega) (by omega)) fun r8 q8=>?_
  have fin:∀ r:Ty.d bP,jX ((bL.f k r).bind fun r9=>((d8.f k r9.1).bind fun r10=>(kC s r10.1 ((bD.f k r8.1 8).bind fun r11=>(bif r11.2.1 then ((fY.f k r11.1 (s++r10.1)).bind fun r12=>(some r12)) else (some (r11.1,((s++r10.1),())))))))) (fun r:Ty.d ag × ByteArray × Unit=>CI r.1∧r.2.1.size≤4000):=fun r=>by
   refine bR (cR hk r) ?_
   refine bR (jP hk _) ?_
   have hf:=iK (aU r)
   have hz:(s++aj (aU r)).size=s.size+(aj (aU r)).size:=ByteArray.size_append ..
   refine np (by show s.size+(aj (aU r)).size≤_;omega) ?_
   refine aS (lZ k q8 (by omega) (by omega)) fun r11 q11=>?_
   refine bX (fun _=>?_) (fun _=>b8 ⟨q11,by show (s++aj (aU r)).size≤4000;omega⟩)
   refine aS (vN hk q11 (s:=s++aj (aU r)) (by omega)) fun r12 q12=>b8 ⟨q12.1,?_⟩
   have:=q12.2
   omega
  exact bX (fun _=>fin _) (fun _=>fin _)
 | succ m ih =>
  intro n s i c recs hn hi h0 hc hs hr
  obtain ⟨n,rfl⟩:∃ q,n=q+1:=⟨n-1,by omega⟩
  have hw:aF (i+1)=i+1:=aE (by omega) (by omega)
  simp only [dt.l0,dt.b0,hw]
  refine lM (aO (by show i<(4:Int);omega)) ?_
  refine aS (lZ k hc (by omega) (by omega)) fun r1 q1=>?_
  refine bX (fun _=>?_) (fun _=>ih n s (i+1) r1.1 recs (by omega) (by omega) (by omega) q1 (by omega) (by omega))
  refine aS (bz k q1 (by omega) (by omega)) fun r2 q2=>?_
  refine k_ h0 (by show i<(4:Int);omega) ?_
  refine aS (uV hk q2.1 (by omega) (by omega)) fun r3 q3=>?_
  refine tj (by omega) (by decide) ?_
  refine bR (cR hk _) ?_
  refine bR (jP hk _) ?_
  simp only []
  generalize ((4,((aF (1+r2.2.1)),((List.getD [(⟨#[97]⟩:ByteArray),(⟨#[98]⟩:ByteArray),(⟨#[99]⟩:ByteArray),(⟨#[107,101,121]⟩:ByteArray)] (Int.toNat i) (Ty.z .str)),(r3.2.1,(0,(0,())))))):Ty.d bP)=r
  have hf:=iK (aU r)
  have hz:(s++aj (aU r)).size=s.size+(aj (aU r)).size:=ByteArray.size_append ..
  refine np (by omega) ?_
  exact ih n (s++aj (aU r)) (i+1) r3.1 _ (by omega) (by omega) (by omega) q3.1 (by omega) (by rw [bK];omega)
theorem Df {k:Nat} (hk:2 ^ 50≤k) {c:fQ} (h:CI c):jX (dt.f k c) (fun r=>CI r.1∧r.2.1.size≤4000):=by
 unfold dt.f dt.t
 exact Mp hk 4 k ⟨#[]⟩ 0 c [] (by omega) (by omega) (by omega) h (by decide) (by decide)
theorem FR {k:Nat} (hk:2 ^ 50≤k) {c:fQ} (h:CI c):jX (ac.f k c) (fun r=>CI r.1∧r.2.1.length≤1000):=by
 obtain ⟨c',l,e,h1,h2⟩:=Dz hk h
 exact ⟨_,e,h1,h2⟩
abbrev Mr:=Ty.d ag × Ty.d a_ × Unit
theorem G8 {k:Nat} (hk:2 ^ 50≤k) {P:Mr→Prop} {L0:bx.T0} {i:Int} {ids:List Int} {fs:aW} {z:aW} {z1 z2:Int} {z3:Bool} {cap fu nx:Int} {dw:Bool} (h0:0≤i) (h1:i<(ids.length:Int)) (hf:fs.length≤100)
 (hL:∀ (c:fQ) (fs':aW),CI c→fs'.length≤fs.length+2→fs.length+1≤fs'.length→cO fs'≤cO fs+431000→dz fs'≤dz fs+2000→jX (L0 (aF (i+1)) c.1 c.2.1 c.2.2.1 z z1 z2 z3 fs' cap fu dw ids nx) P)
 {c:fQ} (hc:CI c) {t:ByteArray} (ht:t.size≤430003) :
 jX (bW i (List.length ids:Int) ((aV.f k (List.getD ids (Int.toNat i) (Ty.z (.int .i64)))).bind fun r10=>((b_.f k fs (r10.1,(t,((ByteArray.size t:Int),())))).bind fun r11=>(bW i (List.length ids:Int) ((d5.f k (List.getD ids (Int.toNat i) (Ty.z (.int .i64))) t).bind fun r12=>(bif r12.2.1 then
  ((bD.f k c 3).bind fun r13=>(bif (!r13.2.1) then ((cN.f k r12.1).bind fun r14=>(bW i (List.length ids:Int) ((bv.f k (List.getD ids (Int.toNat i) (Ty.z (.int .i64)))).bind fun r15=>((b_.f k r11.1 (r15.1,(r14.1,((ByteArray.size r14.1:Int),())))).bind fun r16=>(L0 (aF (i+1)) r13.1.1 r13.1.2.1 r13.1.2.2.1 z z1 z2 z3 r16.1 cap fu dw ids nx)))))
  else (L0 (aF (i+1)) r13.1.1 r13.1.2.1 r13.1.2.2.1 z z1 z2 z3 r11.1 cap fu dw ids nx)))
  else (L0 (aF (i+1)) c.1 c.2.1 c.2.2.1 z z1 z2 z3 r11.1 cap fu dw ids nx))))))) P:=by
 refine k_ h0 h1 ?_
 refine bR (ba hk _) ?_
 generalize List.getD ids (Int.toNat i) (Ty.z (.int .i64))=id
 refine bR (kT hk _ (by omega)) ?_
 refine k_ h0 h1 ?_
 refine bR (p7 hk id (by omega)) ?_
 simp only []
 have s1:=yS id
 have s2:=K8 id
 have a1:=qK fs ((aC aL id,(t,((ByteArray.size t:Int),()))):Ty.d aB)
 have a2:cO (gh fs ((aC aL id,(t,((ByteArray.size t:Int),()))):Ty.d aB))=cO fs+t.size:=oT fs _
 have a3:dz (gh fs ((aC aL id,(t,((ByteArray.size t:Int),()))):Ty.d aB))=dz fs+(aC aL id).size:=po fs _
 generalize gh fs ((aC aL id,(t,((ByteArray.size t:Int),()))):Ty.d aB)=g at a1 a2 a3 ⊢
 have one:∀ c:fQ,CI c→jX (L0 (aF (i+1)) c.1 c.2.1 c.2.2.1 z z1 z2 z3 g cap fu dw ids nx) P:=fun c hc=>hL c g hc (by omega) (by omega) (by omega) (by omega)
 refine bX (fun _=>?_) (fun _=>one c hc)
 refine aS (lZ k hc (by omega) (by omega)) fun r13 q13=>?_
 refine bX (fun _=>?_) (fun _=>one r13.1 q13)
 refine bR (kM hk _) ?_
 refine k_ h0 h1 ?_
 refine bR (iQ hk id) ?_
 have s3:=mu (g9 id t).1
 simp only []
 generalize c8 (g9 id t).1=u at s3 ⊢
 have b1:=qK g ((aC bp id,(u,((ByteArray.size u:Int),()))):Ty.d aB)
 have b2:cO (gh g ((aC bp id,(u,((ByteArray.size u:Int),()))):Ty.d aB))=cO g+u.size:=oT g _
 have b3:dz (gh g ((aC bp id,(u,((ByteArray.size u:Int),()))):Ty.d aB))=dz g+(aC bp id).size:=po g _
 refine bR (kT hk _ (by omega)) ?_
 exact hL r13.1 _ q13 (by show (gh g _).length≤_;omega) (by show _≤(gh g _).length;omega) (by show cO (gh g _)≤_;omega) (by show dz (gh g _)≤_;omega)
theorem M6 {k:Nat} (hk:2 ^ 50≤k) {P:Mr→Prop} {L0:bx.T0} {i:Int} {ids:List Int} {fs:aW} {z:aW} {z1 z2:Int} {z3:Bool} {cap fu nx:Int} {dw:Bool} (h0:0≤i) (h1:i<(ids.length:Int)) (hf:fs.length≤100)
 (hL:∀ (c:fQ) (fs':aW),CI c→fs'.length≤fs.length+2→fs.length+1≤fs'.length→cO fs'≤cO fs+431000→dz fs'≤dz fs+2000→jX (L0 (aF (i+1)) c.1 c.2.1 c.2.2.1 z z1 z2 z3 fs' cap fu dw ids nx) P)
 {pl:bB} (hp:pl.length≤1000):∀ (m n:Nat) (s:ByteArray) (j:Int) (c:fQ),m<n→0≤j→j+(m:Int)=(pl.length:Int)→CI c→s.size+211*m≤215000→jX (bx.l1 k L0 n i s j c.1 c.2.1 c.2.2.1 z z1 z2 z3 fs cap fu dw ids nx pl) P:=by
 intro m
 induction m with
 | zero =>
  intro n s j c hn hj he hc hs
  obtain ⟨n,rfl⟩:∃ q,n=q+1:=⟨n-1,by omega⟩
  simp only [bx.l1,bx.b1]
  refine kZ (aP (by omega)) ?_
  refine aS (lZ k hc (by omega) (by omega)) fun r8 q8=>?_
  refine bX (fun _=>?_) (fun _=>G8 hk h0 h1 hf hL q8 (by omega))
  refine aS (vN hk q8 (s:=s) (by omega)) fun r9 q9=>?_
  exact G8 hk h0 h1 hf hL q9.1 (by have:=q9.2;omega)
 | succ m ih =>
  intro n s j c hn hj he hc hs
  obtain ⟨n,rfl⟩:∃ q,n=q+1:=⟨n-1,by omega⟩
  have hw:aF (j+1)=j+1:=aE (by omega) (by omega)
  simp only [bx.l1,bx.b1,hw]
  refine lM (aO (by omega)) (k_ hj (by omega) ?_)
  refine bR (cR hk _) ?_
  refine bR (jP hk _) ?_
  simp only []
  generalize (List.getD pl (Int.toNat j) (Ty.z aD)).2.2.2.1=r
  have hfr:=iK (aU r)
  have hz:(s++aj (aU r)).size=s.size+(aj (aU r)).size:=ByteArray.size_append ..
  exact np (by omega) (ih n (s++aj (aU r)) (j+1) c (by omega) (by omega) (by omega) hc (by omega))
theorem M7 {k:Nat} (hk:2 ^ 50≤k) {ids:List Int} (hi:ids.length≤4) (hi1:1≤ids.length) (z:aW) (z1 z2:Int) (z3:Bool) (cap fu nx:Int) (dw:Bool):∀ (m n:Nat) (i:Nat) (c:fQ) (fs:aW),m<n→i+m=ids.length→CI c→fs.length≤2*i→i≤fs.length→cO fs≤431000*i→dz fs≤2000*i →
 jX (bx.l0 k n (i:Int) c.1 c.2.1 c.2.2.1 z z1 z2 z3 fs cap fu dw ids nx) (fun r=>CI r.1∧DB r.2.1):=by
 intro m
 induction m with
 | zero =>
  intro n i c fs hn he hc b1 b2 b3 b4
  obtain ⟨n,rfl⟩:∃ q,n=q+1:=⟨n-1,by omega⟩
  simp only [bx.l0,bx.b0]
  refine kZ (aP (by omega)) ?_
  refine bR (kP hk _) ?_
  have hv:=yt ((nx,(ids,())):Ty.d ay)
  simp only []
  generalize ap ((nx,(ids,())):Ty.d ay)=t at hv ⊢
  refine aS (bz k hc (by omega) (by omega)) fun r25 q25=>?_
  have nR:∀ (g:aW) (u:ByteArray) (c:fQ) (y:Int × Int × Bool × Unit),CI c→g.length≤100→cO g≤1900000→dz g≤10000→u.size≤1000→jX ((b_.f k g ((⟨#[108,105,118,101]⟩:ByteArray),(u,((ByteArray.size u:Int),())))).bind fun r27=>(some (c,((r27.1,y),())))) (fun r:Mr=>CI r.1∧DB r.2.1):=fun g u c y hc g1 g2 g3 g4=>by
   refine bR (kT hk _ (by omega)) (b8 ⟨hc,?_⟩)
   have a1:=qK g (((⟨#[108,105,118,101]⟩:ByteArray),(u,((ByteArray.size u:Int),()))):Ty.d aB)
   have a2:cO (gh g (((⟨#[108,105,118,101]⟩:ByteArray),(u,((ByteArray.size u:Int),()))):Ty.d aB))=cO g+u.size:=oT g _
   have a3:dz (gh g (((⟨#[108,105,118,101]⟩:ByteArray),(u,((ByteArray.size u:Int),()))):Ty.d aB))=dz g+4:=po g _
   exact ⟨by show (gh g _).length≤200;omega,by show cO (gh g _)≤2000000;omega,by show dz (gh g _)≤20000;omega⟩
  refine bX (fun _=>?_) (fun _=>bX (fun _=>?_) (fun _=>bX (fun _=>?_) (fun _=>bX (fun _=>?_) (fun _=>bX (fun _=>?_) (fun _=>?_)))))
  · refine aS (vN hk q25.1 (s:=t) (by omega)) fun r26 q26=>?_
    exact nR fs r26.2.1 r26.1 _ q26.1 (by omega) (by omega) (by omega) (by have:=q26.2;omega)
  · refine aS (bz k q25.1 (by omega) (by omega)) fun r28 q28=>?_
    obtain ⟨hc28,p1,p2⟩:=q28
    obtain ⟨a,ha⟩:∃ a:Nat,r28.2.1=(a:Int):=⟨r28.2.1.toNat,by omega⟩
    rw [ha]
    refine bR (mQ k (l:=fs) (n:=a) (by omega) (by omega)) ?_
    have e1:(fs.take a++fs.drop (a+1)).length≤fs.length:=by rw [xF,List.length_take,List.length_drop];omega
    have e2:=oB (fs.take a) (fs.drop (a+1))
    have e3:=pR (fs.take a) (fs.drop (a+1))
    have e4:=oB (fs.take (a+1)) (fs.drop (a+1))
    have e5:=pR (fs.take (a+1)) (fs.drop (a+1))
    rw [List.take_append_drop] at e4 e5
    have e6:fs.take (a+1)=fs.take a++[fs[a]'(by omega)]:=List.take_succ_eq_append_getElem (by omega)
    have e7:=oB (fs.take a) [fs[a]'(by omega)]
    have e8:=pR (fs.take a) [fs[a]'(by omega)]
    rw [← e6] at e7 e8
    exact nR _ t r28.1 _ hc28 (by show (fs.take a++fs.drop (a+1)).length≤100;omega) (by show cO (fs.take a++fs.drop (a+1))≤_;omega) (by show dz (fs.take a++fs.drop (a+1))≤_;omega) (by omega)
  · refine bR (o_ hk (d:=(fs,(cap,(fu,(dw,()))))) ⟨by show fs.length≤_;omega,by show cO fs≤_;omega,by show dz fs≤_;omega⟩ (by decide)) ?_
    have hcf:=Hi (fs,(cap,(fu,(dw,())))) (⟨#[115,101,103,57,57]⟩:ByteArray)
    simp only [] at hcf ⊢
    generalize (pQ (fs,(cap,(fu,(dw,())))) (⟨#[115,101,103,57,57]⟩:ByteArray)).1=y at hcf ⊢
    have hy:y.1.length≤9∧cO y.1≤431000*i∧dz y.1≤2000*i+5:=by
     rcases hcf with w | w
     · rw [w];exact ⟨by omega,b3,by omega⟩
     · have a1:=qK fs (((⟨#[115,101,103,57,57]⟩:ByteArray),(ByteArray.empty,(0,()))):Ty.d aB)
       have a2:cO (gh fs (((⟨#[115,101,103,57,57]⟩:ByteArray),(ByteArray.empty,(0,()))):Ty.d aB))=cO fs+0:=oT fs _
       have a3:dz (gh fs (((⟨#[115,101,103,57,57]⟩:ByteArray),(ByteArray.empty,(0,()))):Ty.d aB))=dz fs+5:=po fs _
       rw [w]
       exact ⟨by omega,by omega,by omega⟩
    exact nR y.1 t r25.1 _ q25.1 (by omega) (by omega) (by omega) (by omega)
  · exact b8 ⟨q25.1,⟨by show fs.length≤200;omega,by show cO fs≤2000000;omega,by show dz fs≤20000;omega⟩⟩
  · refine aS (bz k q25.1 (by omega) (by omega)) fun r33 q33=>?_
    exact nR fs t r33.1 _ q33.1 (by omega) (by omega) (by omega) (by omega)
  · exact nR fs t r25.1 _ q25.1 (by omega) (by omega) (by omega) (by omega)
 | succ m ih =>
  intro n i c fs hn he hc b1 b2 b3 b4
  obtain ⟨n,rfl⟩:∃ q,n=q+1:=⟨n-1,by omega⟩
  have hw:aF ((i:Int)+1)=((i+1:Nat):Int):=by rw [aE (by omega) (by omega)];omega
  have hL:∀ (c:fQ) (fs':aW),CI c→fs'.length≤fs.length+2→fs.length+1≤fs'.length→cO fs'≤cO fs+431000→dz fs'≤dz fs+2000→jX (bx.l0 k n (aF ((i:Int)+1)) c.1 c.2.1 c.2.2.1 z z1 z2 z3 fs' cap fu dw ids nx) (fun r=>CI r.1∧DB r.2.1):=fun c fs' hc g1 g2 g3 g4=>by
   rw [hw]
   exact ih n (i+1) c fs' (by omega) (by omega) hc (by omega) (by omega) (by omega) (by omega)
  simp only [bx.l0,bx.b0]
  refine lM (aO (by omega)) ?_
  refine aS (FR hk hc) fun r3 q3=>?_
  have hone:∀ (c:fQ) (s:ByteArray) (pl:bB),CI c→pl.length≤1000→s.size+211*pl.length≤215000→jX (bx.l1 k (bx.l0 k n) k (i:Int) s 0 c.1 c.2.1 c.2.2.1 z z1 z2 z3 fs cap fu dw ids nx pl) (fun r=>CI r.1∧DB r.2.1):=fun c s pl hc hp hs =>
   M6 hk (by omega) (by omega) (by omega) hL hp pl.length k s 0 c (by omega) (by omega) (by omega) hc hs
  have h3:=q3.2
  refine bX (fun _=>?_) (fun _=>hone r3.1 ⟨#[]⟩ r3.2.1 q3.1 h3 (by show 0+211*r3.2.1.length≤215000;omega))
  refine aS (lZ k q3.1 (by omega) (by omega)) fun r4 q4=>?_
  refine bX (fun _=>?_) (fun _=>hone r4.1 ⟨#[]⟩ r3.2.1 q4 h3 (by show 0+211*r3.2.1.length≤215000;omega))
  refine aS (Df hk q4) fun r5 q5=>?_
  exact hone r5.1 r5.2.1 [] q5.1 (Nat.zero_le _) (by have:=q5.2;show _+0≤215000;omega)
theorem Gn {k:Nat} (hk:2 ^ 50≤k) {c:fQ} (h:CI c):jX (bx.f k c) (fun r=>CI r.1∧DB r.2.1):=by
 unfold bx.f bx.t
 refine bR (wA k (by omega) (by omega)) ?_
 refine aS (Iq hk h) fun r2 q2=>?_
 exact M7 hk q2.2.2 q2.2.1 [] 0 0 false 100000 (-1) r2.2.1.1 false r2.2.1.2.1.length k 0 r2.1 [] (by have:=q2.2.2;omega) (Nat.zero_add _) q2.1 (Nat.le_refl _) (Nat.le_refl _) (Nat.le_refl _) (Nat.le_refl _)
theorem Mv {k:Nat} {code:List Int} (hl:code.length≤1048576) (hb:∀ x ∈ code,(0:Int)≤x∧x≤255) {i:Int} (h0:0≤i) (h1:i≤1000):jX (nZ.f k code i) (fun r=>0≤r.1∧r.1≤255):=by
 unfold nZ.f nZ.t
 refine bX (fun hd=>?_) (fun hd=>?_)
 · have hd:=of_decide_eq_true hd
   have hx:=hb (code.getD i.toNat (Ty.z (.int .u8))) (dx (by omega))
   refine k_ h0 hd (b8 ?_)
   show 0≤aF _∧aF _≤255
   rw [aE (by omega) (by omega)]
   exact hx
 · have hd:=of_decide_eq_false hd
   refine b8 ?_
   show 0≤Int.tmod _ 256∧Int.tmod _ 256≤255
   rw [aE (n:=i*37) (by omega) (by omega),aE (n:=(code.length:Int)*11) (by omega) (by omega),aE (n:=i*37+(code.length:Int)*11) (by omega) (by omega),Int.tmod_eq_emod_of_nonneg (by omega)]
   omega
theorem M8 {a n:Int} (h0:0≤a) (hn:0<n):0≤Int.tmod a n∧Int.tmod a n<n:=by
 rw [Int.tmod_eq_emod_of_nonneg h0]
 exact ⟨Int.emod_nonneg _ (by omega),Int.emod_lt_of_pos _ hn⟩
theorem yw {k:Nat} (hk:2 ^ 50≤k) {st:Ty.d aG} (hi:st.1.2.1.length≤1048576) (hd:st.2.1.length≤1073741824):dy.f k st st=some (true,()):=by
 unfold dy.f dy.t
 simp only [bne_self_eq_false,aK]
 refine eV (L:=fun n i (_:Unit)=>dy.l0 k n i st.1.1 st.1.2.1 st.2.1 st.2.2.1 st.2.2.2.1 st.2.2.2.2.1 st.1.1 st.1.2.1 st.2.1 st.2.2.1 st.2.2.2.1 st.2.2.2.2.1) (R:=fun r _=>some (true,())) (Ty.z (.int .i64)) st.1.2.1 (fun _ _=>True) (fun n _ _=>?_) (fun n i _ x rest h0 h1 hx hr hp ih=>?_) (n:=k) (s:=()) (by omega) trivial
 · simp only [dy.l0,dy.b0]
   rw [aP (by omega),aK,rk hk hd,vk.2 rfl]
   rfl
 · simp only [dy.l0,dy.b0]
   rw [aO h1,aY]
   repeat rw [aH h0 h1]
   rw [bne_self_eq_false,aK,aE (n:=i+1) (by omega) (by omega)]
   exact ih () trivial
theorem wX {k:Nat} (hk:2 ^ 50≤k) {l:lP} (hl:l.length≤268435456):cP.f k l l=some (true,()):=by
 unfold cP.f cP.t
 rw [bne_self_eq_false,aK]
 refine eV (L:=fun n i (_:Unit)=>cP.l0 k n l l i) (R:=fun r _=>some (true,())) (Ty.z yB) l (fun _ _=>True) (fun n _ _=>?_) (fun n i _ x rest h0 h1 hx hr hp ih=>?_) (n:=k) (s:=()) (by omega) trivial
 · simp only [cP.l0,cP.b0]
   rw [aP (by omega),aK]
 · simp only [cP.l0,cP.b0]
   rw [aO h1,aY]
   repeat rw [aH h0 h1]
   rw [hx,aE (n:=i+1) (by omega) (by omega),cF,cF,beq_self_eq_true]
   exact ih () trivial
theorem DD {k:Nat} (hk:2 ^ 50≤k):∀ (m n:Nat) (c:fQ) (out:List Int),m<n→CI c→out.length+m≤10→jX (fC.l0 k n (m:Int) c.1 c.2.1 c.2.2.1 out) (fun r=>CI r.1∧r.2.1.length≤10)
 | 0,n,c,out,hn,hc,ho=>by
  obtain ⟨n,rfl⟩:∃ q,n=q+1:=⟨n-1,by omega⟩
  simp only [fC.l0,fC.b0]
  exact kZ (aP (by omega)) (b8 ⟨hc,by show out.length≤10;omega⟩)
 | m+1,n,c,out,hn,hc,ho=>by
  obtain ⟨n,rfl⟩:∃ q,n=q+1:=⟨n-1,by omega⟩
  simp only [fC.l0,fC.b0]
  refine lM (aO (by omega)) (aS (bz k (c:=(c.1,(c.2.1,(c.2.2.1,())))) hc (n:=60) (by omega) (by omega)) fun r2 q2=>aS (kj k q2.1 (by simp) (by simp)) fun r3 q3=>tj (by omega) (by decide) ?_)
  rw [aE (n:=((m+1:Nat):Int)-1) (by omega) (by omega),show ((m+1:Nat):Int)-1=(m:Int) by omega]
  exact DD hk m n r3.1 (out++[r3.2.1]) (by omega) q3.1 (by rw [bK];omega)
theorem A8 {k:Nat} (hk:2 ^ 50≤k) {c:fQ} (h:CI c):jX (fC.f k c) (fun r=>CI r.1∧r.2.1.length≤10):=by
 unfold fC.f fC.t
 refine aS (bz k h (n:=5) (by omega) (by omega)) fun r1 q1=>?_
 obtain ⟨c1,b0,b1⟩:=q1
 obtain ⟨m,hm⟩:∃ m:Nat,(m:Int)=r1.2.1:=⟨r1.2.1.toNat,by omega⟩
 rw [← hm] at b1 ⊢
 exact DD hk m k r1.1 [] (by omega) c1 (by rw [List.length_nil];omega)
theorem xu {k:Nat} (hk:2 ^ 50≤k) {code:List Int} (hl:code.length≤1048576):jX (fp.f k code) (fun r=>DB r.1∧r.2.1.length≤10):=by
 unfold fp.f fp.t
 refine aS (KM hk hl) fun r1 q1=>?_
 refine aS (Gn hk q1) fun r2 q2=>?_
 refine aS (lZ k q2.1 (by omega) (by omega)) fun r3 q3=>?_
 refine bX (fun _=>?_) (fun _=>aS (A8 hk q3) fun r5 q5=>b8 ⟨q2.2,q5.2⟩)
 refine aS (IM hk q3) fun r4 q4=>aS (A8 hk q4.1) fun r5 q5=>b8 ⟨?_,q5.2⟩
 have h1:=q4.2.disk.l
 have h2:=q4.2.disk.u
 have h3:=q4.2.disk.n
 exact ⟨by show r4.2.2.1.1.length≤200;omega,by show cO r4.2.2.1.1≤2000000;omega,by show dz r4.2.2.1.1≤20000;omega⟩
def sq (d:Ty.d a_) (n:Int):Ty.d a_:=bif fJ d then (d.1,(d.2.1,(n,(false,())))) else d
theorem DZ {k:Nat} (hk:2 ^ 50≤k) {d:Ty.d a_} (hd:p6 d) {n:Int} (h0 : -1≤n) (h1:n≤100000):iC.f k d n=some (sq d n,()):=by
 have hl:=hd.l
 have hu:=hd.u
 have hn:=hd.n
 unfold iC.f iC.t sq
 rw [ie k hd.l,aQ,iE hk (by omega) (by omega),aQ]
 simp only []
 cases fJ d with
 | false=>rfl
 | true =>
  simp only [aY]
  rw [kc,aQ,aO ⟨h0,h1⟩]
  rfl
theorem K5 {d:Ty.d a_} (h:DR d) {n:Int} (h0 : -1≤n) (h1:n≤100000):DR ((d.1,(d.2.1,(n,(false,())))):Ty.d a_):=⟨h.len,h.cap0,h.cap1,h0,h1,h.use,h.all,h.keys⟩
theorem DG {l:aW} {c:Int} {d:Ty.d a_} (h:DR (dk l c)) (hd:DR d) (e:ax d.1 d_=ax l d_):mM d=mM (dk l c):=by
 have t:ae d d_=ae (dk l c) d_:=by
  rw [gY hd,gY h,e]
  rfl
 unfold mM
 rw [t]
def Kh (x0 x:Ty.d a_):Prop:=(fJ x0=false∧x=x0)∨∃ l c l',x0=dk l c∧x=dk l' c∧PR (mM (dk l c)) c l l'
theorem Kh.sz {x0 x:Ty.d a_} (h:Kh x0 x) (hz:p6 x0):p6 x:=by
 rcases h with ⟨_,e⟩ | ⟨l,c,l',_,e,p⟩
 · rw [e];exact hz
 · rw [e];exact p.d'.sz
theorem HH {d:Ty.d a_} (tears:List Int):Kh (df d tears) (df d tears):=by
 cases c:fJ d with
 | false =>
  refine .inl ⟨?_,rfl⟩
  unfold df
  rw [c]
  exact c
 | true =>
  have hd:=dO.1 c
  have e:df d tears=dk (kf tears d.1 0) d.2.1:=by
   unfold df
   rw [c]
   rfl
  have hp:=ur tears hd
  rw [e] at hp ⊢
  exact .inr ⟨_,_,_,rfl,rfl,hp,hp,xO tears d.1 0 hd.all,xO tears d.1 0 hd.all,rfl⟩
theorem JD {x0 x:Ty.d a_} (h:Kh x0 x) {n:Int} (h0 : -1≤n) (h1:n≤100000) (tears:List Int) (z:(fD (sq x n)).2.2≠0):Kh x0 (df (fD (sq x n)).2.1 tears):=by
 rcases h with ⟨b,e⟩ | ⟨l,c,l',e0,e,p⟩
 · refine .inl ⟨b,?_⟩
   have ef:sq x n=x0:=by
    rw [e]
    unfold sq
    rw [b]
    rfl
   rw [ef,DY b]
   show df x0 tears=x0
   unfold df
   rw [b]
   rfl
 · have hd:DR (dk l' c):=p.d'
   have ef:sq x n=(l',(c,(n,(false,())))):=by
    rw [e]
    unfold sq
    rw [dO.2 hd]
    rfl
   have hf:DR ((l',(c,(n,(false,())))):Ty.d a_):=K5 hd h0 h1
   have ei:mM ((l',(c,(n,(false,())))):Ty.d a_)=mM (dk l c):=by
    rw [DG (l:=l') (c:=c) hd hf rfl]
    exact DG p.d hd (Fg (I8 _) p.nf).symm
   rw [ef] at z ⊢
   have q:=HE (d:=((l',(c,(n,(false,())))):Ty.d a_)) hf p.s' z
   rw [ei] at q
   obtain ⟨l2,e2,p2⟩:=Ed (c:=c) (l:=l') hd p.s' q tears
   exact .inr ⟨l,c,l2,e0,e2,p.d,p2.d',p.s,p2.s',p.nf.trans p2.nf⟩
theorem Jt {x0 x:Ty.d a_} (h:Kh x0 x) (tears:List Int):fv x tears=fv x0 tears:=by
 rcases h with ⟨_,e⟩ | ⟨l,c,l',e0,e,p⟩
 · rw [e]
 · have pw:∀ m:aW,DR (dk m c)→(∀ f ∈ m,SF f)→df (dk m c) tears=dk m c:=fun m hm hs=>by
    unfold df
    rw [dO.2 hm]
    show (kf tears m 0,_)=_
    rw [tg tears m 0 hs]
    rfl
   obtain ⟨a1,a2⟩:=H4 p
   unfold fv
   rw [e,e0,pw l' p.d' p.s',pw l p.d p.s,← a1]
   cases q:(fD (dk l c)).2.2 != 0 with
   | true=>rfl
   | false =>
    have:=a2 (by simpa [bne] using q)
    rw [aK,aK,this]
theorem zE (d:Ty.d a_) (tears:List Int):fv (df d tears) tears=fv d tears:=by
 have e:df (df d tears) tears=df d tears:=by
  cases c:fJ d with
  | false =>
   have:df d tears=d:=by unfold df;rw [c];rfl
   rw [this,this]
  | true =>
   have hd:=dO.1 c
   have hp:=ur tears hd
   have e1:df d tears=dk (kf tears d.1 0) d.2.1:=by
    unfold df
    rw [c]
    rfl
   rw [e1] at hp ⊢
   unfold df
   rw [dO.2 hp]
   show (kf tears (kf tears d.1 0) 0,_)=_
   rw [tg tears _ 0 (xO tears d.1 0 hd.all)]
   rfl
 unfold fv
 rw [e]
theorem Ah {k:Nat} (hk:2 ^ 50≤k) {x0 x:Ty.d a_} (h:Kh x0 x) (hz:p6 x0) {tears:List Int} (ht:tears.length≤10) :
 jX ((fX.f k x tears).bind fun r20=>(bif ((fv x0 tears).2==r20.2.1) then ((cP.f k (fv x0 tears).1 r20.1).bind fun r21=>(some r21)) else (some (false,())))) (fun r:Bool × Unit=>r=(true,())):=by
 have hs:=h.sz hz
 have hl:=BN hz tears
 refine bR (wV hk hs (by omega)) ?_
 rw [Jt h tears]
 refine lM (beq_self_eq_true _) ?_
 exact bR (wX hk hl) (b8 rfl)
theorem FC {k:Nat} (hk:2 ^ 50≤k) {code:List Int} (hl:code.length≤1048576) (hb:∀ x ∈ code,(0:Int)≤x∧x≤255) {x0:Ty.d a_} (hz:p6 x0) {tears:List Int} (ht:tears.length≤10):∀ (m n:Nat) (i:Int) (x:Ty.d a_),m<n→0≤i→i+(m:Int)=3→Kh x0 x →
 jX (bH.l1 k n code tears (fv x0 tears).2 i (fv x0 tears).1 x.1 x.2.1 x.2.2.1 x.2.2.2.1) (fun r=>r=(true,())):=by
 intro m
 induction m with
 | zero =>
  intro n i x hn h0 h1 h
  obtain ⟨n,rfl⟩:∃ q,n=q+1:=⟨n-1,by omega⟩
  simp only [bH.l1,bH.b1]
  exact kZ (aP (by omega)) (Ah hk h hz ht)
 | succ m ih =>
  intro n i x hn h0 h1 h
  obtain ⟨n,rfl⟩:∃ q,n=q+1:=⟨n-1,by omega⟩
  have hw:aF (i+1)=i+1:=aE (by omega) (by omega)
  simp only [bH.l1,bH.b1,hw]
  have hs:=h.sz hz
  refine lM (aO (by omega)) (aS (Mv hl hb h0 (by omega)) fun r14 q14=>?_)
  obtain ⟨g0,g1⟩:=M8 (a:=r14.1) (n:=8) q14.1 (by omega)
  refine bR (DZ hk (d:=x) hs (n:=Int.tmod r14.1 8) (by omega) (by omega)) ?_
  have hfs:p6 (sq x (Int.tmod r14.1 8)):=by
   unfold sq
   cases fJ x with
   | false=>exact hs
   | true=>exact ⟨hs.l,hs.u,hs.n⟩
  refine bR (rN hk hfs) (bX (fun _=>Ah hk h hz ht) fun z=>?_)
  have ho:=tv hfs
  refine bR (tk hk ho.1 (by omega)) ?_
  exact ih n (i+1) _ (by omega) (by omega) (by omega) (JD h (by omega) (by omega) tears (beq_eq_false_iff_ne.1 z))
theorem zo {k:Nat} (hk:2 ^ 50≤k) {code:List Int} (hb:∀ x ∈ code,(0:Int)≤x∧x≤255):bH.f k code=some (true,()):=by
 refine LU ?_
 unfold bH.f bH.t
 have hbig:pc.f k code=some (decide ((code.length:Int) > 1048576),()):=rfl
 refine bR hbig ?_
 refine bX (fun _=>b8 rfl) fun hbg=>?_
 have hl:code.length≤1048576:=by have:=of_decide_eq_false hbg;omega
 refine aS (xu hk hl) fun r2 q2=>?_
 obtain ⟨d,tears,u⟩:=r2
 obtain ⟨qd,qt⟩:=q2
 have qt:tears.length≤10:=qt
 have qd:DB d:=qd
 have hd:p6 d:=⟨by have:=qd.l;omega,by have:=qd.u;omega,by have:=qd.n;omega⟩
 have hp:=uI tears hd
 obtain ⟨o1,o2⟩:=tv hp
 have oi:(fD (df d tears)).1.1.2.1.length≤60:=Io
 refine bR (wM hk hd (by omega)) ?_
 refine bR (uk hk hd (by omega)) ?_
 refine bR (rN hk hp) ?_
 refine bR (qz hk hp) ?_
 refine kZ (bne_self_eq_false _) ?_
 refine bR (yw hk (by show (fD (df d tears)).1.1.2.1.length≤_;omega) (by show (fD (df d tears)).1.2.1.length≤_;omega)) (kZ rfl ?_)
 obtain ⟨n,hn⟩:∃ q,k=q+1:=⟨k-1,by omega⟩
 have same:bH.l0 k k=bH.l1 k k:=by
  rw [show bH.l0 k k=bH.l0 k (n+1) by rw [← hn],show bH.l1 k k=bH.l1 k (n+1) by rw [← hn]]
  rfl
 rw [same]
 have key:=FC hk hl hb hp qt 3 k 0 (df d tears) (by omega) (Int.le_refl _) (by omega) (HH tears)
 rw [zE] at key
 exact key
theorem fnOpenFails_pure:∀ x,Wf (tup [.slice (.int .u8)]) x→∃ k r,bH.f k x.1=some r∧oV (B:=[.bool]) (gd ([.val (.slice (.int .u8))])) r=(true,()):=by
 rintro ⟨a0,_⟩ ⟨f0,_⟩
 suffices Ev (fun k=>bH.f k a0) (true,()) by
  obtain ⟨k,h⟩:=this.some
  exact ⟨k,(true,()),h,rfl⟩
 have hb:∀ x ∈ a0,(0:Int)≤x∧x≤255:=fun x hx=>by
  have h1:(Lit.int .u8 x).wf=true:=f0.2 x hx
  have h2:(0:Int)≤x∧x≤(255:Int):=by simpa [Lit.wf,IntKind.min,IntKind.max,IntKind.bits,IntKind.signed] using h1
  exact h2
 exact LQ fun k hk=>zo hk hb
end Go.Proofs.YtgnakpiicdfpkaaGreatDoor.G

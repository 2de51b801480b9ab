/- Plain laws, merged; what is proved here is told ahead of each part. -/
import Derived.Test.YthjppgafienaoabGreatDoorZW2
set_option linter.unusedVariables false
set_option linter.unusedSimpArgs false
namespace Go.Proofs.YthjppgafienaoabGreatDoor.G
open Go.V
structure BT (st:Ty.d aE) (d:Ty.d aA):Prop where
 live:cH st.1=true
 disk:DR d
 full:∀ x ∈ st.1.2.1,∃ t,fT d (a_ aF x)=some t∧FL t
 tail:∀ t,fT d (cv st)=some t→st.2.2.2.1=(t.size:Int)
theorem qh {d:Ty.d aA} (hd:DR d) (s:ByteArray):(aR d s).2=(fT d s).isSome:=by
 rw [kv hd]
 unfold fT
 cases bm d.1 s <;> rfl
theorem sP {d:Ty.d aA} (hd:DR d) {tail:Int}:∀ {l:List Int},lh d tail l=true↔((∀ x ∈ l,∃ t,fT d (a_ aF x)=some t∧FL t)∧(l≠[]→∀ t,fT d (a_ aF (ac l))=some t→tail=(t.size:Int)))
 | []=>⟨fun _=>⟨fun x hx=>(by cases hx),fun h=>absurd rfl h⟩,fun _=>rfl⟩
 | x::l=>by
  have ih:=sP hd (tail:=tail) (l:=l)
  have hl:l≠[]→ac (x::l)=ac l:=fun h=>by
   unfold ac
   cases l with
   | nil=>exact absurd rfl h
   | cons y r=>simp [List.getD]
  unfold lh Bh
  simp only [gX]
  rw [ih,qh hd,jY hd]
  constructor
  · rintro ⟨⟨h1,h2,h3⟩,h4,h5⟩
    obtain ⟨t,ht⟩:=Option.isSome_iff_exists.1 h1
    rw [ht] at h2 h3
    simp only [Option.getD_some,decide_eq_true_eq] at h2
    refine ⟨fun y hy=>?_,fun _ u hu=>?_⟩
    · rcases List.mem_cons.1 hy with e | e
      · rw [e];exact ⟨t,ht,EU h2⟩
      · exact h4 y e
    · by_cases c:l=[]
      · subst c
        have e:ac [x]=x:=rfl
        rw [e,ht] at hu
        have hu:=Option.some.inj hu
        rw [← hu]
        simp only [List.isEmpty_nil,fa,Bool.false_or,Option.getD_some] at h3
        exact IB h3
      · rw [hl c] at hu
        exact h5 c u hu
  · rintro ⟨h1,h2⟩
    obtain ⟨t,ht,hf⟩:=h1 x jo
    rw [ht]
    simp only [Option.isSome_some,Option.getD_some,decide_eq_true_eq]
    refine ⟨⟨by trivial,yw hf,?_⟩,fun y hy=>h1 y (lV _ hy),fun c u hu=>h2 (by simp) u (by rw [hl c];exact hu)⟩
    cases l with
    | nil =>
     have:=h2 (by simp) t (by rw [show ac [x]=x from rfl];exact ht)
     rw [this]
     simp
    | cons y r=>rfl
theorem Hi {st:Ty.d aE} {d:Ty.d aA} (h:cS st d=true):BT st d:=by
 obtain ⟨g1,g2,g3⟩:=eT h
 unfold cS at h
 simp only [gX] at h
 obtain ⟨_,_,k1,_,_⟩:=bV (nx:=st.1.1) (ids:=st.1.2.1) g1.live
 obtain ⟨q1,q2⟩:=(sP g1.disk).1 h.2.2.2.2.1
 exact ⟨g1.live,g1.disk,q1,q2 (by intro e;rw [e] at k1;simp at k1)⟩
def PK (d:Ty.d aA) (p:Ty.d aC):Prop:=fQ d (eQ p)=(fZ p,true)
def PE (p:Ty.d aC):Prop:=(LE.le (α:=Int) 1 p.1∧LE.le (α:=Int) p.1 100000)∧LE.le (α:=Int) 0 p.2.1∧LE.le (α:=Int) 1 p.2.2.1∧LE.le (α:=Int) p.2.2.1 210
theorem Hv {st:Ty.d aE} {d:Ty.d aA} (h:BT st d) {r:Ty.d bB} (hr:bv r=true) (z:(jc st d r).1.2.2=0):BT (jc st d r).1.1 (jc st d r).1.2.1∧PK (jc st d r).1.2.1 (jc st d r).2∧PE (jc st d r).2:=by
 obtain ⟨b1,b2⟩:=Ei h.live
 obtain ⟨n1,n2,n3,n4⟩:=iQ (n:=st.1.1) (ids:=st.1.2.1) h.live
 obtain ⟨_,_,g1,_,_⟩:=bV (nx:=st.1.1) (ids:=st.1.2.1) h.live
 have hlast:ac st.1.2.1 ∈ st.1.2.1:=by
  have hs:=lx g1
  rw [hs]
  exact List.mem_append_right _ (List.mem_singleton.2 (by rw [← hs]))
 have hz:=u7 r
 have hl:((aS (aG r)).size:Int)=b8 r:=rfl
 obtain ⟨t,ht,hf⟩:=h.full _ hlast
 have ht:fT d (cv st)=some t:=ht
 have htl:=h.tail t ht
 have ha:=pK h.disk (cv st) (aS (aG r))
 have ko:∀ s,cv st≠s→fT (iS d (cv st) (aS (aG r))).1 s=fT d s:=fun s q=>vy q
 have kl:=sL (d:=d) (s:=cv st) (x:=aS (aG r))
 unfold jc at z ⊢
 generalize iS d (cv st) (aS (aG r))=a at ha ko kl z ⊢
 cases c:a.2 != 0 with
 | true =>
  rw [c] at z
  have z:(tl a).2=0:=z
  have q:=xR a
  rw [z,c] at q
  cases q
 | false =>
  have c0:(a.2==0)=true:=beq_iff_eq.2 (hF c)
  rw [c0,af,ht] at kl
  have kl:fT a.1 (cv st)=some (t++aS (aG r)):=kl
  simp only [aL]
  refine ⟨⟨h.live,ha,fun x hx=>?_,fun u hu=>?_⟩,?_,?_⟩
  · by_cases q:cv st=a_ aF x
    · rw [← q]
      exact ⟨_,kl,I3 hf hr⟩
    · show ∃ t,fT a.1 (a_ aF x)=some t∧FL t
      rw [ko _ q]
      exact h.full x hx
  · have hu:fT a.1 (cv st)=some u:=hu
    rw [kl] at hu
    rw [← Option.some.inj hu,ByteArray.size_append]
    show @Eq Int (st.2.2.2.1+b8 r) ((t.size+(aS (aG r)).size:Nat):Int)
    rw [htl]
    omega
  · show du (aR a.1 (cv st)).1 st.2.2.2.1 (b8 r)=(r,true)
    rw [jY ha,kl,htl]
    exact yq t hr
  · refine ⟨⟨b1,by show LE.le (α:=Int) (ac st.1.2.1) 100000;omega⟩,?_,?_,?_⟩
    · show LE.le (α:=Int) 0 st.2.2.2.1
      rw [htl]
      omega
    · show LE.le (α:=Int) 1 (b8 r)
      omega
    · show LE.le (α:=Int) (b8 r) 210
      omega
theorem sE (l:List Int) (n:Int):ac (l++[n])=n:=by
 unfold ac
 simp [List.getD]
theorem KS {st:Ty.d aE} {d:Ty.d aA} (h:BT st d) (z:(jr st d).2.2=0):BT (jr st d).1 (jr st d).2.1:=by
 obtain ⟨n1,n2,n3,_⟩:=iQ (n:=st.1.1) (ids:=st.1.2.1) h.live
 have hseg:∀ x:Int,x ∈ st.1.2.1→1≤x∧x≤100000:=fun x hx=>⟨(n3 x hx).1,by have:=(n3 x hx).2;omega⟩
 have hnew:∀ x ∈ st.1.2.1,a_ aF st.1.1≠a_ aF x:=fun x hx=>nB ⟨n1,n2⟩ (hseg x hx) (by have:=(n3 x hx).2;omega)
 have k2:∀ x ∈ st.1.2.1,fT (bO (a_ aF st.1.1) (g8 d (cv st)).1).1 (a_ aF x)=fT d (a_ aF x):=fun x hx=>(lF (hnew x hx)).trans lQ
 have k3:∀ x ∈ st.1.2.1,fT (bi (kg st) (bO (a_ aF st.1.1) (g8 d (cv st)).1).1).1 (a_ aF x)=fT d (a_ aF x):=fun x hx=>(gz (gh (hseg x hx)) (ie (hseg x hx))).trans (k2 x hx)
 have o2:=m7 (s:=a_ aF st.1.1) (d:=(g8 d (cv st)).1)
 have o3:fT (bi (kg st) (bO (a_ aF st.1.1) (g8 d (cv st)).1).1).1 (a_ aF st.1.1)=fT (bO (a_ aF st.1.1) (g8 d (cv st)).1).1 (a_ aF st.1.1):=gz (gh ⟨n1,n2⟩) (ie ⟨n1,n2⟩)
 have h1:=m6 h.disk (cv st)
 have h2:=kC (a_ aF st.1.1) _ h1
 have h3:=kD (kg st) _ h2
 unfold jr at z ⊢
 by_cases c1:(st.1.2.1.length:Int)≥60
 · rw [aP c1] at z
   exact absurd z (by show (5:Int)≠0;decide)
 by_cases c2:st.1.1≥(100000:Int)
 · rw [aQ c1,aP c2] at z
   exact absurd z (by show (5:Int)≠0;decide)
 have c1':st.1.2.1.length<60:=by omega
 have c2':LT.lt (α:=Int) st.1.1 100000:=Int.not_le.1 c2
 have hg:cH (D2 st).1=true:=u0 h.live c2' c1'
 rw [aQ c1,aQ c2] at z ⊢
 simp only [aL] at z ⊢
 generalize g8 d (cv st)=r1 at h1 h2 h3 k2 k3 o2 o3 z ⊢
 generalize bO (a_ aF st.1.1) r1.1=r2 at h2 h3 k2 k3 o2 o3 z ⊢
 generalize bi (kg st) r2.1=r3 at h3 k3 o3 z ⊢
 have tlz:∀ r:RD,(r.2 != 0)=true→(tl r).2≠0:=fun r q e=>by
  have:=xR r
  rw [e,q] at this
  cases this
 cases e1:r1.2 != 0 with
 | true=>rw [e1] at z;exact absurd z (tlz r1 e1)
 | false =>
  rw [e1] at z
  simp only [aL] at z ⊢
  cases e2:r2.2 != 0 with
  | true=>rw [e2] at z;exact absurd z (tlz r2 e2)
  | false =>
   rw [e2] at z
   simp only [aL] at z ⊢
   have o2:=o2 (hF e2)
   cases e3:r3.2 != 0 with
   | true =>
    rw [e3] at z
    simp only [af] at z
    refine absurd z ?_
    unfold nz
    cases q:(tl r3).2==2 with
    | false=>exact tlz r3 e3
    | true =>
     show (bif (eS [iW,a_ aF st.1.1] (tl r3).1).2==0 then (2:Int) else iP (eS [iW,a_ aF st.1.1] (tl r3).1).2)≠0
     cases w:(eS [iW,a_ aF st.1.1] (tl r3).1).2==0 with
     | true=>show (2:Int)≠0;decide
     | false =>
      intro e
      have:=iL (eS [iW,a_ aF st.1.1] (tl r3).1).2
      rw [w] at this
      simp only [aL] at e
      rw [e] at this
      cases this
   | false =>
    simp only [aL]
    refine ⟨hg,h3,fun x hx=>?_,fun u hu=>?_⟩
    · have hx:x ∈ st.1.2.1++[st.1.1]:=hx
      rcases List.mem_append.1 hx with w | w
      · show ∃ t,fT r3.1 (a_ aF x)=some t∧FL t
        rw [k3 x w]
        exact h.full x w
      · rw [List.mem_singleton.1 w]
        exact ⟨_,o3.trans o2,FR⟩
    · have hu:fT r3.1 (a_ aF (ac (st.1.2.1++[st.1.1])))=some u:=hu
      rw [sE,o3,o2] at hu
      rw [← Option.some.inj hu]
      rfl
theorem Jr {st:Ty.d aE} {d:Ty.d aA} (h:BT st d) {r:Ty.d bB} (hr:bv r=true) (z:(fm st d r).1.2.2=0):BT (fm st d r).1.1 (fm st d r).1.2.1∧PK (fm st d r).1.2.1 (fm st d r).2∧PE (fm st d r).2:=by
 have hq:=KS h
 unfold fm at z ⊢
 cases c:decide (st.2.2.2.1 > 0)&&decide (st.2.2.2.1+b8 r > 200) with
 | false =>
  rw [c] at z
  exact Hv h hr z
 | true =>
  rw [c] at z
  simp only [af] at z ⊢
  generalize jr st d=q at hq z ⊢
  cases c2:q.2.2 != 0 with
  | true =>
   rw [c2] at z
   have z:q.2.2=0:=z
   rw [z] at c2
   cases c2
  | false =>
   rw [c2] at z
   exact Hv (hq (hF c2)) hr z
theorem Eu:∀ (l:jH) (st:Ty.d aE) (d:Ty.d aA) (ps:aY),BT st d→(∀ r ∈ l,bv r=true)→(∀ p ∈ ps,PK d p∧PE p∧LT.lt (α:=Int) p.1 st.1.1)→(eR l st d ps).1.2.2=0 →
 BT (eR l st d ps).1.1 (eR l st d ps).1.2.1∧∀ p ∈ (eR l st d ps).2,PK (eR l st d ps).1.2.1 p∧PE p∧LT.lt (α:=Int) p.1 (eR l st d ps).1.1.1.1
 | [],st,d,ps,h,_,hp,_=>⟨h,hp⟩
 | r::l,st,d,ps,h,hr,hp,z=>by
  have hb:=Jr h (hr r jo)
  obtain ⟨s1,s2,s3,s4⟩:=Ep (d:=d) h.live h.disk r
  unfold eR at z ⊢
  generalize fm st d r=q at hb s1 s2 s3 s4 z ⊢
  cases c:q.1.2.2 != 0 with
  | true =>
   rw [c] at z
   have z:q.1.2.2=0:=z
   rw [z] at c
   cases c
  | false =>
   have e0:=hF c
   obtain ⟨k1,k2,k3⟩:=hb e0
   rw [c] at z
   simp only [aL] at z ⊢
   refine Eu l q.1.1 q.1.2.1 (ps++[q.2]) k1 (fun x hx=>hr x (lV _ hx)) (fun p hq=>?_) z
   rcases List.mem_append.1 hq with w | w
   · obtain ⟨p1,p2,p3⟩:=hp p w
     refine ⟨?_,p2,Int.lt_of_lt_of_le p3 s2⟩
     have p1':fQ d (eQ p)=(fZ p,true):=p1
     show fQ q.1.2.1 (eQ p)=(fZ p,true)
     rw [wN h.disk k1.disk s1 p2.1.1 p3 p2.1.2 (by rw [p1']),p1']
   · rw [List.mem_singleton.1 w]
     exact ⟨k2,k3,(s4 e0).2⟩
theorem Eb {l:kw} {b:Int} (h:kE l=true) (h0:1≤b) (h1:b≤1000000):∀ r ∈ il l b,bv r=true:=by
 intro r hr
 unfold il at hr
 rcases List.mem_append.1 hr with w | w
 · obtain ⟨x,hx,e⟩:=List.mem_map.1 w
   have hp:=rt h hx
   unfold o_ lU at hp
   simp only [gX] at hp
   rw [← e]
   unfold fh bv
   cases c:x.2.1 with
   | true =>
    simp only [af]
    rw [show ((2:Int)==1||(2:Int)==4)=false from rfl,show ((2:Int)==2)=true from rfl]
    simp only [aL,af]
    rw [hp.1,aP (show 1≤b∧b≤1000000 from ⟨h0,h1⟩),show seq ByteArray.empty ⟨#[]⟩=true from bT _]
    rfl
   | false =>
    simp only [aL]
    rw [show ((1:Int)==1||(1:Int)==4)=true from rfl]
    simp only [af]
    rw [hp.1,hp.2.1,aP (show 1≤b∧b≤1000000 from ⟨h0,h1⟩)]
    rfl
 · have hl:=ms h
   have hs:=Ek (l.map (fh b))
   rw [List.mem_singleton.1 w]
   unfold fM bv
   rw [show ((3:Int)==1||(3:Int)==4)=false from rfl,show ((3:Int)==2)=false from rfl,show ((3:Int)==3)=true from rfl]
   simp only [aL,af]
   rw [aP (show (0:Int)≤((l.map (fh b)).length:Int)∧((l.map (fh b)).length:Int)≤8 by rw [List.length_map];omega),aP (show 0≤v7 (l.map (fh b))∧v7 (l.map (fh b))≤4294967295 from hs),aP (show 1≤b∧b≤1000000 from ⟨h0,h1⟩),show seq ByteArray.empty ⟨#[]⟩=true from bT _]
   rfl
def Li (key x:ByteArray):Bool:=mw x key||seq x key
def LO (K:List ByteArray) (key:ByteArray):List ByteArray:=K.takeWhile (Li key)++key::K.dropWhile (Li key)
theorem qz (l:aT) (key:ByteArray):iZ (iF l key)=(iZ l).filter fun x=>!(seq x key):=by
 unfold iZ iF
 rw [List.filter_map]
 rfl
theorem BA (l:aT) (e:Ty.d aB):iZ (qK l e)=LO (iZ l) e.1:=by
 unfold iZ qK LO
 rw [List.map_append,List.map_cons,List.takeWhile_map,List.dropWhile_map]
 rfl
theorem zL:∀ (l:kw) (d d' es fs:aT),iZ d=iZ d'→iZ es=iZ fs→iZ (qW d l es)=iZ (qW d' l fs)
 | [],d,d',es,fs,h,_=>by rw [pz,pz];exact h
 | x::l,d,d',[],[],h,_=>by unfold qW;exact h
 | x::l,d,d',e::es,[],_,g=>by cases g
 | x::l,d,d',[],f::fs,_,g=>by cases g
 | x::l,d,d',e::es,f::fs,h,g=>by
  unfold iZ at g
  rw [List.map_cons,List.map_cons] at g
  injection g with g1 g2
  unfold qW
  refine zL l _ _ es fs ?_ g2
  cases x.2.1 with
  | true=>simp only [af];rw [qz,qz,h]
  | false =>
   simp only [aL]
   unfold qJ
   rw [BA,BA,qz,qz,h,g1]
theorem LC {a:Int} (h:1≤a) (g:a≤1000000):1≤a+1∧a+1≤1000001:=by omega
theorem Lf (a:Int):¬ a≥a+1:=by omega
theorem LF {a b:Int} (h:¬ b≥a):¬ b≥a+1:=by omega
theorem BF {st:Ty.d aE} {d:Ty.d aA} {l:kw} (hs:cS st d=true) (he:EI st) (hp:kE l=true) (hb:LE.le (α:=Int) st.2.2.1 1000000) (ha:ln st.2.1 l≤20) (z:(gP st d l).2.2=0):cS (gP st d l).1 (gP st d l).2.1=true ∧
 (∀ e ∈ (gP st d l).1.2.1,(e ∈ st.2.1∧fQ (gP st d l).2.1 e=fQ d e)∨∃ x ∈ l,x.2.1=false∧e.1=x.1∧fQ (gP st d l).2.1 e=(fh st.2.2.1 x,true)) ∧
 iZ (gP st d l).1.2.1=iZ (qW st.2.1 l (l.map wy)) ∧
 ∃ ps:aY,(gP st d l).1.2.1=bQ st.2.1 ps∧ps.map fZ=l.map (fh st.2.2.1)∧(∀ p ∈ ps,fQ (gP st d l).2.1 (eQ p)=(fZ p,true))∧∀ e ∈ st.2.1,fQ (gP st d l).2.1 e=fQ d e:=by
 obtain ⟨g1,g2,g3⟩:=eT hs
 have hBT:=Hi hs
 have hs':=hs
 unfold cS at hs'
 simp only [gX] at hs'
 obtain ⟨_,_,hdir,_,_,hent⟩:=hs'
 obtain ⟨d1,d2,d3⟩:=tY.1 hdir
 have hl8:=ms hp
 have hbat:SR (pX st) (d,0) 100000:=⟨g1.live,g1.disk,g1.lo,g1.hi⟩
 obtain ⟨f1,f2,f3⟩:=pL (il l st.2.2.1) (pX st) d [] 100000 hbat (by decide)
 obtain ⟨s1,s2,s3,s4⟩:=CF (il l st.2.2.1) (pX st) d [] 100000 hbat (by decide) (fun x hx=>by cases hx)
 have hB:=Eu (il l st.2.2.1) (pX st) d [] ⟨hBT.live,hBT.disk,hBT.full,hBT.tail⟩ (Eb hp g3 hb) (fun x hx=>by cases hx)
 unfold gP at z ⊢
 generalize eR (il l st.2.2.1) (pX st) d []=q at f1 f2 f3 s1 s2 s3 s4 hB z ⊢
 have e2:q.1.1.2.1=st.2.1:=f2
 have s1:EX st.1.1 d q.1.2.1:=s1
 have s3:q.1.1.2.2.1=st.2.2.1+1:=s3
 unfold sa at z ⊢
 cases c:q.1.2.2 != 0 with
 | true =>
  rw [c] at z
  have z:q.1.2.2=0:=z
  rw [z] at c
  cases c
 | false =>
  rw [c] at z
  simp only [aL] at z ⊢
  have c0:=hF c
  have f3:=f3 c0
  rw [List.map_nil,List.nil_append] at f3
  obtain ⟨hB1,hB2⟩:=hB c0
  have y0:=vu s1 (KN st.1.1 q.1.2.1 (cv q.1.1))
  have y1:=m6 hB1.disk (cv q.1.1)
  have y2:∀ s,fT (g8 q.1.2.1 (cv q.1.1)).1 s=fT q.1.2.1 s:=fun s=>lQ
  generalize g8 q.1.2.1 (cv q.1.1)=y at y0 y1 y2 z ⊢
  cases cy:y.2 != 0 with
  | true =>
   rw [cy] at z
   have z:(tl y).2=0:=z
   have q:=xR y
   rw [z,cy] at q
   cases q
  | false =>
   simp only [aL]
   have hrp:∀ p ∈ q.2.take l.length,fZ p ∈ l.map (fh st.2.2.1):=fun p hp=>by
    have h1:(q.2.take l.length).map fZ=l.map (fh st.2.2.1):=by
     rw [List.map_take,f3]
     unfold il
     rw [List.take_append_of_le_length (by rw [List.length_map];omega),List.take_of_length_le (by rw [List.length_map];omega)]
    rw [← h1]
    exact List.mem_map.2 ⟨p,hp,rfl⟩
   have hPK:∀ p ∈ q.2.take l.length,fQ y.1 (eQ p)=(fZ p,true):=fun p hp=>by
    obtain ⟨p1,_,_⟩:=hB2 p (List.mem_of_mem_take hp)
    have p1:fQ q.1.2.1 (eQ p)=(fZ p,true):=p1
    rw [← p1]
    unfold fQ
    rw [jY y1,jY hB1.disk,y2]
   have newE:∀ e ∈ bQ q.1.1.2.1 (q.2.take l.length),(∃ p ∈ q.2.take l.length,e=eQ p∧(p.2.2.2.1.1==2)=false)∨e ∈ st.2.1:=fun e hq=>by
    rw [e2] at hq
    exact mn _ hq
   have hput:∀ p ∈ q.2.take l.length,lU (eQ p).1=true∧(fZ p).2.1=st.2.2.1∧((fZ p).1=1∨(fZ p).1=2):=fun p hq=>by
    obtain ⟨x,hx,e⟩:=List.mem_map.1 (hrp p hq)
    have hk:=rt hp hx
    unfold o_ at hk
    simp only [gX] at hk
    refine ⟨?_,?_,?_⟩
    · show lU (fZ p).2.2.1=true
      rw [← e]
      unfold fh
      cases x.2.1 <;> exact hk.1
    · rw [← e]
      unfold fh
      cases x.2.1 <;> rfl
    · rw [← e]
      unfold fh
      cases x.2.1
      · exact .inl rfl
      · exact .inr rfl
   have hkeys:iZ (bQ st.2.1 (q.2.take l.length))=iZ (qW st.2.1 l (l.map wy)):=by
    have k1:iZ (qW st.2.1 l (q.2.map eQ))=iZ (qW st.2.1 l (l.map wy++[wy (ByteArray.empty,(false,(ByteArray.empty,())))])):=by
     refine zL l _ _ _ _ rfl ?_
     unfold iZ
     rw [List.map_map,show q.2.map ((fun x:Ty.d aB=>x.1) ∘ eQ)=(q.2.map fZ).map (fun r:Ty.d bB=>r.2.2.1) from by rw [List.map_map];rfl,f3]
     unfold il
     rw [List.map_append,List.map_append,List.map_map,List.map_map]
     congr 1
     refine List.map_congr_left fun x _=>?_
     show (fh st.2.2.1 x).2.2.1=x.1
     unfold fh
     cases x.2.1 <;> rfl
    have k2:∀ (l:kw) (d:aT) (m:aT),qW d l (l.map wy++m)=qW d l (l.map wy):=by
     intro l
     induction l with
     | nil=>intro d m;rw [pz,pz]
     | cons x l ih =>
      intro d m
      rw [List.map_cons,List.cons_append]
      unfold qW
      exact ih _ m
    rw [k2,ww st.2.2.1 l q.2 [fM 3 st.2.2.1 (l.map (fh st.2.2.1))] st.2.1 f3] at k1
    exact k1
   have oldE:∀ e ∈ st.2.1,fQ y.1 e=fQ d e:=fun e w=>by
    have hin:=List.all_eq_true.1 hent e w
    obtain ⟨i1,i2⟩:=he e w
    have i3:LE.le (α:=Int) e.2.1 100000:=by
     have:=d2 e w
     unfold JY at this
     simp only [gX,decide_eq_true_eq] at this
     exact this.2.1.2
    unfold mS at hin
    simp only [gX] at hin
    exact wN g1.disk y1 y0 i1 i2 i3 hin.1
   refine ⟨?_,fun e hq=>?_,by show iZ (bQ q.1.1.2.1 (q.2.take l.length))=_;rw [e2];exact hkeys,q.2.take l.length,by show bQ q.1.1.2.1 (q.2.take l.length)=_;rw [e2],?_,hPK,oldE⟩
   rotate_left
   rotate_left
   · rw [List.map_take,f3]
     unfold il
     rw [List.take_append_of_le_length (by rw [List.length_map];omega),List.take_of_length_le (by rw [List.length_map];omega)]
   rotate_left
   · show (e ∈ st.2.1∧fQ y.1 e=fQ d e)∨∃ x ∈ l,x.2.1=false∧e.1=x.1∧fQ y.1 e=(fh st.2.2.1 x,true)
     rcases newE e hq with ⟨p,hq',w,kd⟩ | w
     · obtain ⟨x,hx,ex⟩:=List.mem_map.1 (hrp p hq')
       have kd:((fZ p).1==2)=false:=kd
       have cx:x.2.1=false:=by
        cases c:x.2.1 with
        | false=>rfl
        | true =>
         rw [← ex] at kd
         unfold fh at kd
         rw [c] at kd
         cases kd
       refine .inr ⟨x,hx,cx,?_,?_⟩
       · rw [w]
         show (fZ p).2.2.1=x.1
         rw [← ex]
         unfold fh
         rw [cx]
         rfl
       · rw [w,hPK p hq',ex]
     · exact .inl ⟨w,oldE e w⟩
   unfold cS
   simp only [gX]
   refine ⟨j9.2 y1,hB1.live,tY.2 ⟨?_,fun e hq=>?_,?_⟩,decide_eq_true ?_,(sP y1).2 ⟨fun x hx=>?_,fun _ u hu=>?_⟩,List.all_eq_true.2 fun e hq=>?_⟩
   · have k3:=congrArg List.length hkeys
     unfold iZ at k3
     rw [List.length_map,List.length_map] at k3
     show (bQ q.1.1.2.1 (q.2.take l.length)).length≤20
     rw [e2,k3]
     unfold ln at ha
     omega
   · rcases newE e hq with ⟨p,hq',w,_⟩ | w
     · obtain ⟨_,p2,_⟩:=hB2 p (List.mem_of_mem_take hq')
       obtain ⟨u1,u2,u3⟩:=hput p hq'
       rw [w]
       unfold JY
       rw [u1,aP (show (1:Int)≤(eQ p).2.1∧(eQ p).2.1≤100000 from p2.1),aQ (show ¬ (eQ p).2.2.1<(0:Int) from Int.not_lt.2 p2.2.1),aP (show (1:Int)≤(eQ p).2.2.2.1∧(eQ p).2.2.2.1≤210 from p2.2.2),
        aP (show (1:Int)≤(eQ p).2.2.2.2.1∧(eQ p).2.2.2.2.1≤1000000 from by show (1:Int)≤(fZ p).2.1∧(fZ p).2.1≤1000000;rw [u2];exact ⟨g3,hb⟩)]
       rfl
     · exact d2 e w
   · show cX (iZ (bQ q.1.1.2.1 (q.2.take l.length)))
     rw [e2]
     exact ow _ d3
   · show (1:Int)≤q.1.1.2.2.1∧q.1.1.2.2.1≤1000001
     rw [s3]
     exact LC g3 hb
   · show ∃ t,fT y.1 (a_ aF x)=some t∧FL t
     rw [y2]
     exact hB1.full x hx
   · have hu:fT y.1 (cv q.1.1)=some u:=hu
     rw [y2] at hu
     exact hB1.tail u hu
   · show mS y.1 q.1.1.2.2.1 e=true
     rw [s3]
     rcases newE e hq with ⟨p,hq',w,kd⟩ | w
     · obtain ⟨u1,u2,u3⟩:=hput p hq'
       have hr:=hPK p hq'
       have kd:((fZ p).1==2)=false:=kd
       have k1:(fZ p).1=1:=by
        rcases u3 with v | v
        · exact v
        · rw [v] at kd;cases kd
       unfold mS
       rw [w,hr]
       simp only []
       rw [show (eQ p).1=(fZ p).2.2.1 from rfl,bT,show (eQ p).2.2.2.2.1=(fZ p).2.1 from rfl,beq_self_eq_true,k1,u2,aQ (Lf st.2.2.1)]
       rfl
     · have hin:=List.all_eq_true.1 hent e w
       obtain ⟨i1,i2⟩:=he e w
       have i3:LE.le (α:=Int) e.2.1 100000:=by
        have:=d2 e w
        unfold JY at this
        simp only [gX,decide_eq_true_eq] at this
        exact this.2.1.2
       unfold mS at hin ⊢
       simp only [gX] at hin ⊢
       rw [wN g1.disk y1 y0 i1 i2 i3 hin.1]
       refine ⟨hin.1,hin.2.1,hin.2.2.1,hin.2.2.2.1,?_⟩
       have hlt:=hin.2.2.2.2
       simp only [Bool.not_eq_true',decide_eq_false_iff_not] at hlt ⊢
       exact LF hlt
theorem J8 {d:Ty.d aA} {s:ByteArray}:bm d.1 s=none↔fT d s=none:=by
 unfold fT
 cases bm d.1 s <;> simp
theorem yj {α:Type} {p:α→Bool}:∀ {l:List α},(∀ x ∈ l,p x=true)→l.takeWhile p=l∧l.dropWhile p=[]
 | [],_=>⟨rfl,rfl⟩
 | x::l,h=>by
  have ih:=yj (p:=p) (l:=l) fun y hy=>h y (lV _ hy)
  rw [List.takeWhile_cons,List.dropWhile_cons,h x jo,if_pos rfl,if_pos rfl,ih.1]
  exact ⟨rfl,ih.2⟩
theorem za:∀ {l:aT},cX (iZ l)→∀ e ∈ l,w_ l e.1=some e
 | [],_,e,h=>by cases h
 | x::l,hk,e,h=>by
  unfold cX iZ at hk
  rw [List.map_cons,List.pairwise_cons] at hk
  rw [w_.eq_2]
  rcases List.mem_cons.1 h with w | w
  · rw [w,bT]
    rfl
  · have hlt:=hk.1 e.1 (List.mem_map.2 ⟨e,w,rfl⟩)
    rw [kZ (fun q=>by rw [q,pN] at hlt;cases hlt),aL]
    exact za hk.2 e w
theorem IR {st:Ty.d aE} {d:Ty.d aA} (h:cS st d=true) {e:Ty.d aB} (he:e ∈ st.2.1):vI st.2.1 d e.1=((e.1,((fQ d e).1.2.2.2.1,((fQ d e).1.2.1,()))),0):=by
 unfold cS at h
 simp only [gX] at h
 obtain ⟨_,_,hdir,_,_,hent⟩:=h
 obtain ⟨_,_,hk⟩:=tY.1 hdir
 have hin:=List.all_eq_true.1 hent e he
 unfold mS at hin
 simp only [gX] at hin
 unfold vI
 rw [za hk e he]
 simp only []
 rw [hin.1,hin.2.1,hin.2.2.2.1]
 rfl
theorem vd {st:Ty.d aE} {d:Ty.d aA} (h:cS st d=true):gp st.2.1 d=(st.2.1.map fun e=>(e.1,((fQ d e).1.2.2.2.1,((fQ d e).1.2.1,()))),0):=by
 have key:∀ (r:aT) (acc:i7),(∀ e ∈ r,e ∈ st.2.1)→qL st.2.1 d (r.map (·.1)) acc=(acc++r.map fun e=>(e.1,((fQ d e).1.2.2.2.1,((fQ d e).1.2.1,()))),0):=by
  intro r
  induction r with
  | nil=>intro acc _;rw [List.map_nil,List.map_nil,List.append_nil];rfl
  | cons e r ih =>
   intro acc hr
   rw [List.map_cons,qL,IR h (hr e jo)]
   show qL st.2.1 d (r.map (·.1)) (acc++[_])=_
   rw [ih _ fun x hx=>hr x (lV _ hx),nQ]
   rfl
 unfold gp
 rw [key st.2.1 [] fun e he=>he,List.nil_append]
def Jl:ByteArray:=⟨#[108,105,118,101]⟩
theorem IL {d:Ty.d aA} {e:Ty.d aB} (h:(fQ d e).2=true):bv (fQ d e).1=true:=by
 unfold fQ du at h ⊢
 by_cases c1:0≤e.2.2.1∧e.2.2.1≤((aR d (a_ aF e.2.1)).1.size:Int)∧1≤e.2.2.2.1∧e.2.2.2.1≤((aR d (a_ aF e.2.1)).1.size:Int)-e.2.2.1
 · rw [if_pos c1] at h ⊢
   by_cases c2:(fv (ByteArray.extract (aR d (a_ aF e.2.1)).1 (Int.toNat e.2.2.1) (Int.toNat (e.2.2.1+e.2.2.2.1)))).2=e.2.2.2.1
   · rw [if_pos c2] at h ⊢
     exact (vt (Prod.ext rfl h)).1
   · rw [if_neg c2] at h
     cases h
 · rw [if_neg c1] at h
   cases h
theorem ve {r:Ty.d bB} (h:bv r=true) (hk:r.1=1∨r.1=4):bv (bH (r.2.2.1,(r.2.2.2.1,(r.2.1,()))))=true:=by
 have hb:(r.1==1||r.1==4)=true:=by rcases hk with q | q <;> rw [q] <;> rfl
 unfold bv at h
 rw [hb,af] at h
 simp only [gX] at h
 unfold bv bH
 rw [show ((4:Int)==1||(4:Int)==4)=true from rfl]
 simp only [af]
 rw [h.1,h.2.1,h.2.2.2.2]
 rfl
theorem yl {st:Ty.d aE} {d:Ty.d aA} (h:cS st d=true):(∀ p ∈ (gp st.2.1 d).1,bv (bH p)=true)∧cX ((gp st.2.1 d).1.map (·.1)):=by
 rw [vd h]
 have h':=h
 unfold cS at h'
 simp only [gX] at h'
 obtain ⟨_,_,hdir,_,_,hent⟩:=h'
 obtain ⟨_,_,hk⟩:=tY.1 hdir
 refine ⟨fun p hp=>?_,?_⟩
 · obtain ⟨e,he,rfl⟩:=List.mem_map.1 hp
   have hin:=List.all_eq_true.1 hent e he
   unfold mS at hin
   simp only [gX,Bool.or_eq_true,beq_iff_eq] at hin
   have:=ve (IL hin.1) hin.2.2.2.1
   rw [dy.1 hin.2.1] at this
   exact this
 · rw [List.map_map]
   exact hk
theorem Iu {b:Int} (h:1≤b) (g:b≤1000001):0≤b-1∧b-1≤1000000:=by omega
theorem B9 {a b:Int} (h:a<b) (g:b≤100000):a≤100000:=by omega
def fH:jH→Int→zM
 | [],_=>[]
 | r::l,a=>(a,(b8 r,(r,())))::fH l (a+b8 r)
theorem xK:∀ (rs:jH) (pre:ByteArray) (d:Nat),(∀ r ∈ rs,bv r=true)→(ab rs).size<d→(fY (pre++ab rs) d (pre.size:Int)).1=fH rs (pre.size:Int)
 | [],pre,d,_,hd=>by
  obtain ⟨d,rfl⟩:∃ q,d=q+1:=⟨d-1,by omega⟩
  have:fv (ByteArray.extract (pre++ab []) (Int.toNat (pre.size:Int)) (pre++ab []).size)=(⟨#[]⟩,0):=by
   rw [nr,dw,ab,vY]
  rw [fY,this,if_pos rfl]
  rfl
 | r::rs,pre,d,h,hd=>by
  rw [ab,aO] at hd
  have hz:=ja r
  have hp:=jt (s:=aG r) (by omega)
  obtain ⟨d,rfl⟩:∃ q,d=q+1:=⟨d-1,by omega⟩
  have ih:=xK rs (pre++aS (aG r)) d (fun x hx=>h x (lV _ hx)) (by omega)
  rw [am,aO pre] at ih
  rw [ab,Ey (h r (jo ..)),fH]
  simp only []
  rw [ih,show ((pre.size+(aS (aG r)).size:Nat):Int)=(pre.size:Int)+b8 r by unfold b8;omega]
  rfl
theorem wl {rs:jH} (h:∀ r ∈ rs,bv r=true):(b_ (ab rs)).1=fH rs 0:=by
 have:=xK rs ⟨#[]⟩ ((ab rs).size+1) h (by omega)
 rw [ng] at this
 exact this
theorem yc:∀ (l m:jH) (a:Int),fH (l++m) a=fH l a++fH m (a+((ab l).size:Int))
 | [],m,a=>by
  show fH m a=fH m (a+((⟨#[]⟩:ByteArray).size:Int))
  rw [show ((⟨#[]⟩:ByteArray).size:Int)=0 from rfl,Int.add_zero]
 | r::l,m,a=>by
  rw [List.cons_append,fH,fH,yc l m,ab,aO,List.cons_append]
  rw [show a+b8 r+((ab l).size:Int)=a+(((aS (aG r)).size+(ab l).size:Nat):Int) by unfold b8;omega]
abbrev q7:=List (Int × jH)
def vA (x:Int × jH):aY:=bD x.1 (fH x.2 0)
def jq:q7→aY
 | []=>[]
 | x::l=>vA x++jq l
theorem EF:∀ (l m:q7),jq (l++m)=jq l++jq m
 | [],_=>rfl
 | x::l,m=>by
  show vA x++jq (l++m)=vA x++jq l++jq m
  rw [EF l m,nQ]
structure TX (st:Ty.d aE) (d:Ty.d aA) (L:q7):Prop where
 live:cH st.1=true
 disk:DR d
 ids:st.1.2.1=L.map (·.1)
 text:∀ x ∈ L,fT d (a_ aF x.1)=some (ab x.2)∧∀ r ∈ x.2,bv r=true
 tail:∀ t,fT d (cv st)=some t→st.2.2.2.1=(t.size:Int)
theorem TX.bt {st:Ty.d aE} {d:Ty.d aA} {L:q7} (h:TX st d L):BT st d:=⟨h.live,h.disk,fun x hx=>by
 rw [h.ids] at hx
 obtain ⟨y,hy,rfl⟩:=List.mem_map.1 hx
 exact ⟨_,(h.text y hy).1,y.2,(h.text y hy).2,rfl⟩,h.tail⟩
theorem A5 {d:Ty.d aA}:∀ {ids:List Int},(∀ x ∈ ids,∃ t,fT d (a_ aF x)=some t∧FL t)→∃ L:q7,ids=L.map (·.1)∧∀ x ∈ L,fT d (a_ aF x.1)=some (ab x.2)∧∀ r ∈ x.2,bv r=true
 | [],_=>⟨[],rfl,fun x hx=>(by cases hx)⟩
 | x::l,h=>by
  obtain ⟨L,h1,h2⟩:=A5 (ids:=l) fun y hy=>h y (lV _ hy)
  obtain ⟨t,ht,rs,hr,e⟩:=h x jo
  refine ⟨(x,rs)::L,by rw [List.map_cons,← h1],fun y hy=>?_⟩
  rcases List.mem_cons.1 hy with w | w
  · rw [w];exact ⟨by rw [ht,e],hr⟩
  · exact h2 y w
theorem BT.tx {st:Ty.d aE} {d:Ty.d aA} (h:BT st d):∃ L,TX st d L:=by
 obtain ⟨L,h1,h2⟩:=A5 h.full
 exact ⟨L,h.live,h.disk,h1,h2,h.tail⟩
theorem JE {d:Ty.d aA} (hd:DR d) {x:Int × jH} (h:fT d (a_ aF x.1)=some (ab x.2)∧∀ r ∈ x.2,bv r=true):wa d x.1=vA x:=by
 unfold wa vA dt
 rw [jY hd,h.1]
 show bD x.1 (b_ (ab x.2)).1=_
 rw [wl h.2]
theorem sO {d:Ty.d aA} (hd:DR d):∀ {L:q7},(∀ x ∈ L,fT d (a_ aF x.1)=some (ab x.2)∧∀ r ∈ x.2,bv r=true)→mE d (L.map (·.1))=jq L
 | [],_=>rfl
 | x::L,h=>by
  rw [List.map_cons]
  show wa d x.1++mE d (L.map (·.1))=vA x++jq L
  rw [sO hd fun y hy=>h y (lV _ hy),JE hd (h x jo)]
theorem rW:∀ (rs:jH) (pre post:ByteArray),(∀ r ∈ rs,bv r=true)→∀ x ∈ fH rs (pre.size:Int),du (pre++(ab rs++post)) x.1 x.2.1=(x.2.2.1,true)∧bv x.2.2.1=true∧LE.le (α:=Int) 0 x.1∧LE.le (α:=Int) 1 x.2.1∧LE.le (α:=Int) x.2.1 210∧x.2.2.1 ∈ rs
 | [],_,_,_,x,hx=>(by cases hx)
 | r::rs,pre,post,h,x,hx=>by
  have hr:=h r jo
  rw [ab,oG]
  rw [fH] at hx
  rcases List.mem_cons.1 hx with w | w
  · rw [w]
    have hz:=u7 r
    have e:=yq pre hr
    refine ⟨?_,hr,Int.natCast_nonneg _,show LE.le (α:=Int) 1 (b8 r) by omega,hz.2,jo⟩
    show du (pre++(aS (aG r)++(ab rs++post))) (pre.size:Int) (b8 r)=(r,true)
    rw [← oG,yd (by rw [e]),e]
  · have hz:((pre++aS (aG r)).size:Int)=(pre.size:Int)+b8 r:=by
     rw [ByteArray.size_append]
     unfold b8
     omega
    rw [← hz] at w
    obtain ⟨i1,i2,i3,i4,i5,i6⟩:=rW rs (pre++aS (aG r)) post (fun q hq=>h q (lV _ hq)) x w
    rw [oG] at i1
    exact ⟨i1,i2,i3,i4,i5,lV _ i6⟩
theorem tw {L:q7} {p:Ty.d aC} (h:p ∈ jq L):∃ x ∈ L,∃ s ∈ fH x.2 0,p=(x.1,s):=by
 induction L with
 | nil=>cases h
 | cons x L ih =>
  have h:p ∈ vA x++jq L:=h
  rcases List.mem_append.1 h with w | w
  · unfold vA bD at w
    obtain ⟨s,hs,e⟩:=List.mem_map.1 w
    exact ⟨x,jo,s,hs,e.symm⟩
  · obtain ⟨y,hy,q⟩:=ih w
    exact ⟨y,lV _ hy,q⟩
structure PL (d:Ty.d aA) (nx:Int) (p:Ty.d aC):Prop where
 lo:LE.le (α:=Int) 1 p.1
 hi:LT.lt (α:=Int) p.1 nx
 at0:LE.le (α:=Int) 0 p.2.1
 len0:LE.le (α:=Int) 1 p.2.2.1
 len1:LE.le (α:=Int) p.2.2.1 210
 ok:bv (fZ p)=true
 read:fQ d (eQ p)=(fZ p,true)
theorem sT {st:Ty.d aE} {d:Ty.d aA} {L:q7} (h:TX st d L) {p:Ty.d aC} (hp:p ∈ jq L):PL d st.1.1 p:=by
 obtain ⟨x,hx,s,hs,e⟩:=tw hp
 obtain ⟨n1,n2,n3,_⟩:=iQ (n:=st.1.1) (ids:=st.1.2.1) h.live
 have hi:x.1 ∈ st.1.2.1:=by rw [h.ids];exact List.mem_map.2 ⟨x,hx,rfl⟩
 obtain ⟨t1,t2⟩:=h.text x hx
 obtain ⟨i1,i2,i3,i4,i5,_⟩:=rW x.2 ⟨#[]⟩ ⟨#[]⟩ t2 s hs
 rw [e]
 refine ⟨(n3 _ hi).1,(n3 _ hi).2,i3,i4,i5,i2,?_⟩
 unfold fQ
 show du (aR d (a_ aF x.1)).1 s.1 s.2.1=(s.2.2.1,true)
 rw [jY h.disk,t1]
 show du (ab x.2) s.1 s.2.1=_
 rw [Dn,ng] at i1
 exact i1
abbrev I_:=aT × Int × Int
def iT (pre:aY) (p:Ty.d aC) (s:I_):I_ :=
 bif p.2.2.2.1.1==3 then (bif gd p.2.2.2.1 (eO p.2.2.2.1.2.1 pre) then (bQ s.1 (eO p.2.2.2.1.2.1 pre),mg p.2.2.2.1.2.1 s.2.1,kf (bQ s.1 (eO p.2.2.2.1.2.1 pre)) s.2.2) else (s.1,mg p.2.2.2.1.2.1 s.2.1,s.2.2)) else
 bif p.2.2.2.1.1==5 then (bif gd p.2.2.2.1 (bP pre) then (bQ s.1 (bP pre),mg p.2.2.2.1.2.1 s.2.1,kf (bQ s.1 (bP pre)) s.2.2) else (s.1,mg p.2.2.2.1.2.1 s.2.1,1)) else
 (s.1,mg p.2.2.2.1.2.1 s.2.1,s.2.2)
def gr (pre:aY):aY→I_→I_
 | [],s=>s
 | p::r,s=>bif s.2.2 != 0 then s else gr (pre++[p]) r (iT pre p s)
theorem Ai {pre:aY} {s:I_} (h:s.2.2≠0):∀ r:aY,gr pre r s=s
 | []=>rfl
 | p::r=>by unfold gr;rw [show (s.2.2 != 0)=true from bne_iff_ne.2 h];rfl
theorem El (pre:aY) (p:Ty.d aC) (r:aY) (s:I_):gr pre (p::r) s=bif s.2.2 != 0 then s else gr (pre++[p]) r (iT pre p s):=rfl
theorem rX:∀ (a b pre:aY) (s:I_),gr pre (a++b) s=gr (pre++a) b (gr pre a s)
 | [],b,pre,s=>by rw [List.append_nil];rfl
 | p::a,b,pre,s=>by
  rw [List.cons_append,El,El pre p a]
  by_cases c:s.2.2=0
  · rw [show (s.2.2 != 0)=false by rw [c];rfl,aL,aL,rX a b,nQ]
    rfl
  · rw [show (s.2.2 != 0)=true from bne_iff_ne.2 c,af,af]
    exact (Ai c _).symm
theorem s_ (all:aY):∀ (r:aY) (i:Nat) (d:aT) (la c:Int),all.drop i=r→i≤all.length →
 gb all r i d la c=(let s:=gr (all.take i) r (d,la,c);bif s.2.2==0&&decide ((bP all).length > 0) then (s.1,(s.2.1,(1,()))) else (s.1,(s.2.1,(s.2.2,()))))
 | [],i,d,la,c,_,_=>rfl
 | p::r,i,d,la,c,h,hi=>by
  have hlt:i<all.length:=by
   have:=congrArg List.length h
   rw [List.length_drop,kU] at this
   omega
  have ht:all.take (i+1)=all.take i++[p]:=by
   have e:all[i]=p:=by
    have:=List.drop_eq_getElem_cons hlt
    rw [h] at this
    injection this with w _
    exact w.symm
   rw [List.take_succ_eq_append_getElem hlt,e]
  have hd:all.drop (i+1)=r:=by rw [← List.drop_drop,h];rfl
  have ih:=fun d' la' c'=>s_ all r (i+1) d' la' c' hd hlt
  unfold gb gr
  by_cases c0:c=0
  · subst c0
    simp only [bne_self_eq_false,aL]
    rw [← ht]
    unfold iT
    cases p.2.2.2.1.1==3 with
    | true =>
     simp only [af]
     cases gd p.2.2.2.1 (eO p.2.2.2.1.2.1 (all.take i)) <;> exact ih _ _ _
    | false =>
     simp only [aL]
     cases p.2.2.2.1.1==5 with
     | true =>
      simp only [af]
      cases gd p.2.2.2.1 (bP (all.take i)) <;> exact ih _ _ _
     | false=>exact ih _ _ _
  · have e1:(c != 0)=true:=bne_iff_ne.2 c0
    have e2:(c==0)=false:=mP c0
    simp only [e1,af,e2,Bool.false_and,aL]
theorem DG {pl:aY} {d:aT} {la:Int} (h:gr [] pl ([],0,0)=(d,la,0)) (hm:bP pl=[]):eE ([],(0,(0,()))) pl=(d,(la,(0,()))):=by
 have e:eE ([],(0,(0,()))) pl=(bif (gr [] pl ([],0,0)).2.2==0&&decide ((bP pl).length > 0) then ((gr [] pl ([],0,0)).1,((gr [] pl ([],0,0)).2.1,(1,()))) else ((gr [] pl ([],0,0)).1,((gr [] pl ([],0,0)).2.1,((gr [] pl ([],0,0)).2.2,())))):=s_ pl pl 0 [] 0 0 rfl (Nat.zero_le _)
 rw [e,h,hm]
 rfl
theorem vk {g:aT} {la0:Int} {pl:aY} (h:(eE (g,(la0,(0,()))) pl).2.2.1=0):gr [] pl (g,la0,0)=((eE (g,(la0,(0,()))) pl).1,(eE (g,(la0,(0,()))) pl).2.1,0)∧bP pl=[]:=by
 have e:=s_ pl pl 0 g la0 0 rfl (Nat.zero_le _)
 have e:eE (g,(la0,(0,()))) pl=(let s:=gr [] pl (g,la0,0);bif s.2.2==0&&decide ((bP pl).length > 0) then (s.1,(s.2.1,(1,()))) else (s.1,(s.2.1,(s.2.2,())))):=e
 rw [e] at h ⊢
 generalize gr [] pl (g,la0,0)=s at h ⊢
 obtain ⟨a,b,c⟩:=s
 simp only [] at h ⊢
 cases q:(c==0&&decide ((bP pl).length > 0)) with
 | true=>rw [q] at h;exact absurd h (by show (1:Int)≠0;decide)
 | false =>
  rw [q] at h
  simp only [aL] at h ⊢
  subst h
  refine ⟨rfl,?_⟩
  simp only [beq_self_eq_true,Bool.true_and,decide_eq_false_iff_not] at q
  exact List.length_eq_zero_iff.1 (by omega)
theorem mM (l m:aY):bP (l++m)=m.foldl fF (bP l):=by unfold bP;rw [List.foldl_append]
theorem ug (b:Int) (l m:aY):eO b (l++m)=m.foldl (eN b) (eO b l):=by unfold eO;rw [List.foldl_append]
def plain (p:Ty.d aC):Prop:=p.2.2.2.1.1=1∨p.2.2.2.1.1=2
theorem CR {p:Ty.d aC} (h:plain p):(p.2.2.2.1.1==3)=false∧(p.2.2.2.1.1==4)=false∧(p.2.2.2.1.1==5)=false∧(p.2.2.2.1.1==1||p.2.2.2.1.1==2)=true:=by
 rcases h with q | q <;> rw [q] <;> exact ⟨rfl,rfl,rfl,rfl⟩
theorem xh:∀ (q pre:aY) (d:aT) (la:Int),(∀ p ∈ q,plain p)→∃ la',gr pre q (d,la,0)=(d,la',0)
 | [],_,d,la,_=>⟨la,rfl⟩
 | p::q,pre,d,la,h=>by
  obtain ⟨h3,h4,h5,_⟩:=CR (h p jo)
  obtain ⟨la',e⟩:=xh q (pre++[p]) d (mg p.2.2.2.1.2.1 la) fun x hx=>h x (lV _ hx)
  refine ⟨la',?_⟩
  unfold gr iT
  rw [h3,h5]
  exact e
theorem wJ:∀ (q:aY) (acc:aY),(∀ p ∈ q,p.2.2.2.1.1≠4∧p.2.2.2.1.1≠5)→q.foldl fF acc=acc
 | [],_,_=>rfl
 | p::q,acc,h=>by
  obtain ⟨h4,h5⟩:=h p jo
  rw [List.foldl_cons,show fF acc p=acc by unfold fF;rw [mP h4,mP h5];rfl]
  exact wJ q acc fun x hx=>h x (lV _ hx)
theorem we {b:Int}:∀ (q:aY) (acc:aY),(∀ p ∈ q,p.2.2.2.1.2.1≠b)→q.foldl (eN b) acc=acc
 | [],_,_=>rfl
 | p::q,acc,h=>by
  rw [List.foldl_cons,show eN b acc p=acc by unfold eN;rw [mP (h p jo)];rfl]
  exact we q acc fun x hx=>h x (lV _ hx)
theorem BU {b:Int}:∀ (q:aY) (acc:aY),(∀ p ∈ q,plain p∧p.2.2.2.1.2.1=b)→q.foldl (eN b) acc=acc++q
 | [],acc,_=>(List.append_nil acc).symm
 | p::q,acc,h=>by
  obtain ⟨h1,h2⟩:=h p jo
  obtain ⟨h3,h4,h5,h6⟩:=CR h1
  rw [List.foldl_cons,show eN b acc p=acc++[p] by unfold eN;rw [h2,beq_self_eq_true,h3,h6];rfl]
  rw [BU q (acc++[p]) fun x hx=>h x (lV _ hx),nQ]
  rfl
theorem ue {b:Int}:∀ (l:aY) (acc:aY),(∀ p ∈ acc,plain p)→∀ p ∈ l.foldl (eN b) acc,plain p∧(p ∈ acc∨p ∈ l)
 | [],acc,h,p,hp=>⟨h p hp,.inl hp⟩
 | x::l,acc,h,p,hp=>by
  rw [List.foldl_cons] at hp
  have hs:∀ q ∈ eN b acc x,plain q∧(q ∈ acc∨q=x):=fun q hq=>by
   unfold eN at hq
   cases c1:x.2.2.2.1.2.1==b with
   | false=>rw [c1] at hq;exact ⟨h q hq,.inl hq⟩
   | true =>
    rw [c1,af] at hq
    cases c2:x.2.2.2.1.1==3 with
    | true=>rw [c2] at hq;cases hq
    | false =>
     rw [c2,aL] at hq
     cases c3:x.2.2.2.1.1==1||x.2.2.2.1.1==2 with
     | false=>rw [c3] at hq;exact ⟨h q hq,.inl hq⟩
     | true =>
      rw [c3,af] at hq
      rcases List.mem_append.1 hq with w | w
      · exact ⟨h q w,.inl w⟩
      · rw [List.mem_singleton.1 w]
        simp only [Bool.or_eq_true,beq_iff_eq] at c3
        exact ⟨c3,.inr rfl⟩
  obtain ⟨g1,g2⟩:=ue l (eN b acc x) (fun q hq=>(hs q hq).1) p hp
  refine ⟨g1,?_⟩
  rcases g2 with w | w
  · rcases (hs p w).2 with v | v
    · exact .inl v
    · rw [v];exact .inr jo
  · exact .inr (lV _ w)
theorem um:∀ (l:aY) (acc:aY),(∀ p ∈ acc,p.2.2.2.1.1=4)→∀ p ∈ l.foldl fF acc,p.2.2.2.1.1=4∧(p ∈ acc∨p ∈ l)
 | [],acc,h,p,hp=>⟨h p hp,.inl hp⟩
 | x::l,acc,h,p,hp=>by
  rw [List.foldl_cons] at hp
  have hs:∀ q ∈ fF acc x,q.2.2.2.1.1=4∧(q ∈ acc∨q=x):=fun q hq=>by
   unfold fF at hq
   cases c2:x.2.2.2.1.1==5 with
   | true=>rw [c2] at hq;cases hq
   | false =>
    rw [c2,aL] at hq
    cases c3:x.2.2.2.1.1==4 with
    | false=>rw [c3] at hq;exact ⟨h q hq,.inl hq⟩
    | true =>
     rw [c3,af] at hq
     rcases List.mem_append.1 hq with w | w
     · exact ⟨h q w,.inl w⟩
     · rw [List.mem_singleton.1 w]
       exact ⟨IB c3,.inr rfl⟩
  obtain ⟨g1,g2⟩:=um l (fF acc x) (fun q hq=>(hs q hq).1) p hp
  refine ⟨g1,?_⟩
  rcases g2 with w | w
  · rcases (hs p w).2 with v | v
    · exact .inl v
    · rw [v];exact .inr jo
  · exact .inr (lV _ w)
def EP (pl:aY) (d:aT):Prop:=∀ e ∈ d,∃ p ∈ pl,e=eQ p∧(p.2.2.2.1.1=1∨p.2.2.2.1.1=4)
theorem wC {pl:aY}:∀ (own:aY) {d:aT},EP pl d→(∀ p ∈ own,p ∈ pl∧(p.2.2.2.1.1=1∨p.2.2.2.1.1=2∨p.2.2.2.1.1=4))→EP pl (bQ d own)
 | [],d,h,_=>h
 | p::own,d,h,ho=>by
  refine wC own (d:=fN d p) (fun e he=>?_) fun q hq=>ho q (lV _ hq)
  obtain ⟨k1,k2⟩:=ho p jo
  unfold fN at he
  cases c:p.2.2.2.1.1==2 with
  | true=>rw [c,af] at he;exact h e (List.mem_filter.1 he).1
  | false =>
   rw [c,aL] at he
   unfold qJ at he
   rcases Ee he with w | w
   · refine ⟨p,k1,w,?_⟩
     rcases k2 with q | q | q
     · exact .inl q
     · rw [q] at c;cases c
     · exact .inr q
   · exact h e (List.mem_filter.1 w).1
theorem Hq (all:aY):∀ (r pre:aY) (s:I_),(∀ p ∈ pre,p ∈ all)→(∀ p ∈ r,p ∈ all)→EP all s.1→cX (iZ s.1)→s.1.length≤20→(gr pre r s).2.2=0→EP all (gr pre r s).1∧cX (iZ (gr pre r s).1)∧(gr pre r s).1.length≤20
 | [],pre,s,_,_,h1,h2,h3,_=>⟨h1,h2,h3⟩
 | p::r,pre,s,hp,hr,h1,h2,h3,z=>by
  by_cases c:s.2.2=0
  · have e:gr pre (p::r) s=gr (pre++[p]) r (iT pre p s):=by
     show (bif s.2.2 != 0 then _ else _)=_
     rw [c];rfl
    rw [e] at z ⊢
    have z0:(iT pre p s).2.2=0:=by
     by_cases w:(iT pre p s).2.2=0
     · exact w
     · rw [Ai w] at z
       exact absurd z w
    have hs:EP all (iT pre p s).1∧cX (iZ (iT pre p s).1)∧(iT pre p s).1.length≤20:=by
     have hc:∀ {x:aT},kf x s.2.2=0→x.length≤20:=fun {x} q=>by
      unfold kf at q
      split at q
      · cases q
      · omega
     unfold iT at z0 ⊢
     cases c3:p.2.2.2.1.1==3 with
     | true =>
      rw [c3] at z0
      simp only [af] at z0 ⊢
      cases c4:gd p.2.2.2.1 (eO p.2.2.2.1.2.1 pre) with
      | true =>
       rw [c4] at z0
       exact ⟨wC _ h1 fun q hq=>by
        obtain ⟨g1,g2⟩:=ue pre [] (fun _ w=>by cases w) q hq
        refine ⟨hp q (g2.resolve_left fun w=>by cases w),?_⟩
        rcases g1 with w | w
        · exact .inl w
        · exact .inr (.inl w),ow _ h2,hc z0⟩
      | false=>exact ⟨h1,h2,h3⟩
     | false =>
      rw [c3] at z0
      simp only [aL] at z0 ⊢
      cases c5:p.2.2.2.1.1==5 with
      | true =>
       rw [c5] at z0
       simp only [af] at z0 ⊢
       cases c4:gd p.2.2.2.1 (bP pre) with
       | true =>
        rw [c4] at z0
        exact ⟨wC _ h1 fun q hq=>by
         obtain ⟨g1,g2⟩:=um pre [] (fun _ w=>by cases w) q hq
         exact ⟨hp q (g2.resolve_left fun w=>by cases w),.inr (.inr g1)⟩,ow _ h2,hc z0⟩
       | false=>exact ⟨h1,h2,h3⟩
      | false=>exact ⟨h1,h2,h3⟩
    exact Hq all r (pre++[p]) (iT pre p s) (fun q hq=>by
     rcases List.mem_append.1 hq with w | w
     · exact hp q w
     · rw [List.mem_singleton.1 w];exact hr p jo) (fun q hq=>hr q (lV _ hq)) hs.1 hs.2.1 hs.2.2 z
  · rw [Ai c] at z
    exact absurd z c
theorem KW (a b:Int):a≤mg a b∧b≤mg a b:=by unfold mg;split <;> omega
theorem GG (pre:aY) (p:Ty.d aC) (s:I_):(iT pre p s).2.1=mg p.2.2.2.1.2.1 s.2.1:=by
 unfold iT
 cases p.2.2.2.1.1==3
 · cases p.2.2.2.1.1==5
   · rfl
   · cases gd p.2.2.2.1 (bP pre) <;> rfl
 · cases gd p.2.2.2.1 (eO p.2.2.2.1.2.1 pre) <;> rfl
theorem zn:∀ (r pre:aY) (s:I_),(gr pre r s).2.2=0→s.2.1≤(gr pre r s).2.1∧(∀ p ∈ r,LE.le (α:=Int) p.2.2.2.1.2.1 (gr pre r s).2.1)∧∀ b:Int,s.2.1≤b→(∀ p ∈ r,LE.le (α:=Int) p.2.2.2.1.2.1 b)→(gr pre r s).2.1≤b
 | [],pre,s,_=>⟨Int.le_refl _,fun p hp=>(by cases hp),fun b h _=>h⟩
 | p::r,pre,s,z=>by
  by_cases c:s.2.2=0
  · have e:gr pre (p::r) s=gr (pre++[p]) r (iT pre p s):=by
     show (bif s.2.2 != 0 then _ else _)=_
     rw [c];rfl
    rw [e] at z ⊢
    obtain ⟨i1,i2,i3⟩:=zn r (pre++[p]) (iT pre p s) z
    rw [GG] at i1 i3
    have hm:=KW p.2.2.2.1.2.1 s.2.1
    refine ⟨by omega,fun q hq=>?_,fun b h0 hb=>i3 b ?_ fun q hq=>hb q (lV _ hq)⟩
    · rcases List.mem_cons.1 hq with w | w
      · rw [w];exact Int.le_trans hm.1 i1
      · exact i2 q w
    · have:=hb p jo
      unfold mg
      split
      · exact this
      · exact h0
  · rw [Ai c] at z
    exact absurd z c
structure JT (pl:aY) (dir:aT) (b:Int):Prop where
 gr:∃ la,gr [] pl ([],0,0)=(dir,la,0)
 mark:bP pl=[]
 bat:∀ p ∈ pl,LT.lt (α:=Int) p.2.2.2.1.2.1 b
 lo:LE.le (α:=Int) 1 b
 hi:LE.le (α:=Int) b 1000001
def MI (st:Ty.d aE) (d:Ty.d aA):Prop:=∃ L,TX st d L∧JT (jq L) st.2.1 st.2.2.1
theorem IX {r:Ty.d bB} (h:bv r=true) (hk:r.1=1∨r.1=4):lU r.2.2.1=true∧decide ((1:Int)≤r.2.1∧r.2.1≤1000000)=true:=by
 have hb:(r.1==1||r.1==4)=true:=by rcases hk with q | q <;> rw [q] <;> rfl
 unfold bv at h
 rw [hb,af] at h
 simp only [gX] at h
 exact ⟨h.1,h.2.2.2.2⟩
theorem MI.store {st:Ty.d aE} {d:Ty.d aA} (h:MI st d):cS st d=true∧EI st:=by
 obtain ⟨L,t,j⟩:=h
 obtain ⟨la,hg⟩:=j.gr
 obtain ⟨n1,n2,n3,_⟩:=iQ (n:=st.1.1) (ids:=st.1.2.1) t.live
 obtain ⟨_,_,g1,_,_⟩:=bV (nx:=st.1.1) (ids:=st.1.2.1) t.live
 obtain ⟨e1,e2,e3⟩:=Hq (jq L) (jq L) [] ([],0,0) (fun p hp=>by cases hp) (fun p hp=>hp) (fun e he=>by cases he) List.Pairwise.nil (by decide) (by rw [hg])
 rw [hg] at e1 e2 e3
 have e1:EP (jq L) st.2.1:=e1
 have e2:cX (iZ st.2.1):=e2
 have e3:st.2.1.length≤20:=e3
 have hb:=t.bt
 refine ⟨?_,fun e he=>?_⟩
 · unfold cS
   rw [j9.2 t.disk,t.live,tY.2 ⟨e3,fun e he=>?_,e2⟩,aP ⟨j.lo,j.hi⟩,(sP t.disk).2 ⟨hb.full,fun _=>hb.tail⟩]
   · simp only [Bool.true_and]
     rw [List.all_eq_true]
     intro e he
     obtain ⟨p,hp,q,hk⟩:=e1 e he
     have pi:=sT t hp
     unfold mS
     rw [q,pi.read]
     have hbt:=j.bat p hp
     show (true&&(seq (fZ p).2.2.1 (fZ p).2.2.1&&(((fZ p).2.1==(fZ p).2.1)&&((((fZ p).1==1)||((fZ p).1==4))&&!decide ((fZ p).2.1≥st.2.2.1)))))=true
     rw [bT,beq_self_eq_true,aQ (show ¬ (fZ p).2.1≥st.2.2.1 from Int.not_le.2 hbt)]
     rcases hk with w | w
     · rw [show (fZ p).1=1 from w];rfl
     · rw [show (fZ p).1=4 from w];rfl
   · obtain ⟨p,hp,q,hk⟩:=e1 e he
     have pi:=sT t hp
     obtain ⟨k1,k2⟩:=IX pi.ok hk
     rw [q]
     unfold JY
     show (lU (fZ p).2.2.1&&(decide ((1:Int)≤p.1∧p.1≤100000)&&(!decide (p.2.1<(0:Int))&&(decide ((1:Int)≤p.2.2.1∧p.2.2.1≤210)&&decide ((1:Int)≤(fZ p).2.1∧(fZ p).2.1≤1000000)))))=true
     rw [k1,k2,aP ⟨pi.lo,B9 pi.hi n2⟩,aQ (Int.not_lt.2 pi.at0),aP ⟨pi.len0,pi.len1⟩]
     rfl
 · obtain ⟨p,hp,q,_⟩:=e1 e he
   have pi:=sT t hp
   rw [q]
   exact ⟨pi.lo,pi.hi⟩
theorem va {ids:List Int} {L:q7} (h:ids=L.map (·.1)) (h1:1≤ids.length):∃ L0 x,L=L0++[x]∧ac ids=x.1:=by
 rcases List.eq_nil_or_concat L with e | ⟨L0,x,e⟩
 · rw [h,e] at h1
   cases h1
 · rw [List.concat_eq_append] at e
   refine ⟨L0,x,e,?_⟩
   rw [h,e,List.map_append,List.map_singleton,sE]
theorem CQ (x:Int) (rs:jH) (r:Ty.d bB):vA (x,rs++[r])=vA (x,rs)++[(x,(((ab rs).size:Int),(b8 r,(r,()))))]:=by
 unfold vA bD
 show List.map _ (fH (rs++[r]) 0)=List.map _ (fH rs 0)++_
 rw [yc,List.map_append,Int.zero_add]
 rfl
theorem xH (L:q7) (x:Int × jH):jq (L++[x])=jq L++vA x:=by
 rw [EF]
 show jq L++(vA x++[])=_
 rw [List.append_nil]
theorem Gt {st:Ty.d aE} {d:Ty.d aA} {L:q7} (h:TX st d L) {r:Ty.d bB} (hr:bv r=true) :
 ∃ L',TX (jc st d r).1.1 (jc st d r).1.2.1 L'∧jq L'=jq L++(bif (jc st d r).1.2.2==0 then [(jc st d r).2] else [])∧((jc st d r).1.2.2=0→fZ (jc st d r).2=r):=by
 obtain ⟨n1,n2,n3,n4⟩:=iQ (n:=st.1.1) (ids:=st.1.2.1) h.live
 obtain ⟨_,_,g1,_,_⟩:=bV (nx:=st.1.1) (ids:=st.1.2.1) h.live
 obtain ⟨L0,x,eL,el⟩:=va h.ids g1
 have ha:=pK h.disk (cv st) (aS (aG r))
 have ko:∀ s,cv st≠s→fT (iS d (cv st) (aS (aG r))).1 s=fT d s:=fun s q=>vy q
 have kl:=sL (d:=d) (s:=cv st) (x:=aS (aG r))
 have hact:cv st=a_ aF x.1:=by unfold cv;rw [el]
 unfold jc
 generalize iS d (cv st) (aS (aG r))=a at ha ko kl ⊢
 cases c:a.2 != 0 with
 | true =>
  have c0:(a.2==0)=false:=by unfold bne at c;simpa using c
  rw [c0,aL] at kl
  have all:∀ s,fT a.1 s=fT d s:=fun s=>by
   by_cases q:cv st=s
   · rw [← q];exact kl
   · exact ko s q
  have ht:((tl a).2==0)=false:=by
   have:=xR a
   rw [c] at this
   unfold bne at this
   simpa using this
  refine ⟨L,⟨h.live,ha,h.ids,fun y hy=>⟨(all _).trans (h.text y hy).1,(h.text y hy).2⟩,fun t q=>h.tail t ((all _).symm.trans q)⟩,?_,fun q=>?_⟩
  · show jq L=jq L++(bif (tl a).2==0 then _ else [])
    rw [ht,aL,List.append_nil]
  · have q:(tl a).2=0:=q
    rw [q] at ht
    cases ht
 | false =>
  have c0:(a.2==0)=true:=beq_iff_eq.2 (hF c)
  have hx:x ∈ L:=by rw [eL];exact List.mem_append_right _ jo
  obtain ⟨x1,x2⟩:=h.text x hx
  rw [c0,af,hact,x1] at kl
  have kl:fT a.1 (a_ aF x.1)=some (ab x.2++aS (aG r)):=kl
  have e2:ab (x.2++[r])=ab x.2++aS (aG r):=by rw [nl,wA]
  have hsz:st.2.2.2.1=((ab x.2).size:Int):=h.tail _ (by rw [hact];exact x1)
  have hm:x.1 ∈ st.1.2.1:=by rw [h.ids];exact List.mem_map.2 ⟨x,hx,rfl⟩
  simp only [aL]
  refine ⟨L0++[(x.1,x.2++[r])],⟨h.live,ha,?_,fun y hy=>?_,fun t q=>?_⟩,?_,fun _=>rfl⟩
  · show st.1.2.1=_
    rw [h.ids,eL,List.map_append,List.map_append]
    rfl
  · rcases List.mem_append.1 hy with w | w
    · have hyL:y ∈ L:=by rw [eL];exact List.mem_append_left _ w
      have hym:y.1 ∈ st.1.2.1:=by rw [h.ids];exact List.mem_map.2 ⟨y,hyL,rfl⟩
      have hne:y.1≠x.1:=by
       have hp:=n4
       rw [h.ids,eL,List.map_append] at hp
       have:=(List.pairwise_append.1 hp).2.2 y.1 (List.mem_map.2 ⟨y,w,rfl⟩) x.1 jo
       omega
      refine ⟨?_,(h.text y hyL).2⟩
      show fT a.1 (a_ aF y.1)=_
      rw [ko _ (by rw [hact];exact nB ⟨(n3 _ hm).1,B9 (n3 _ hm).2 n2⟩ ⟨(n3 _ hym).1,B9 (n3 _ hym).2 n2⟩ fun q=>hne q.symm)]
      exact (h.text y hyL).1
    · rw [List.mem_singleton.1 w]
      refine ⟨by show fT a.1 (a_ aF x.1)=some (ab (x.2++[r]));rw [kl,e2],fun q hq=>?_⟩
      rcases List.mem_append.1 hq with v | v
      · exact x2 q v
      · rw [List.mem_singleton.1 v];exact hr
  · have q:fT a.1 (cv st)=some t:=q
    rw [hact,kl] at q
    rw [← Option.some.inj q,ByteArray.size_append]
    show @Eq Int (st.2.2.2.1+b8 r) (((ab x.2).size+(aS (aG r)).size:Nat):Int)
    rw [hsz]
    unfold b8
    omega
  · show jq (L0++[(x.1,x.2++[r])])=jq L++[(ac st.1.2.1,(st.2.2.2.1,(b8 r,(r,()))))]
    rw [xH,CQ,eL,xH,nQ,el,hsz]
theorem K4 {st:Ty.d aE} {d:Ty.d aA} {L:q7} (h:TX st d L):∃ L',TX (jr st d).1 (jr st d).2.1 L'∧jq L'=jq L:=by
 obtain ⟨n1,n2,n3,n4⟩:=iQ (n:=st.1.1) (ids:=st.1.2.1) h.live
 obtain ⟨f1,f2,_,_⟩:=rF h.live h.disk
 have hseg:∀ x:Int,x ∈ st.1.2.1→1≤x∧x≤100000:=fun x hx=>⟨(n3 x hx).1,B9 (n3 x hx).2 n2⟩
 have hnew:∀ x ∈ st.1.2.1,a_ aF st.1.1≠a_ aF x:=fun x hx=>nB ⟨n1,n2⟩ (hseg x hx) (by have:=(n3 x hx).2;omega)
 have k1:∀ x ∈ st.1.2.1,fT (g8 d (cv st)).1 (a_ aF x)=fT d (a_ aF x):=fun x hx=>lQ
 have k2:∀ x ∈ st.1.2.1,fT (bO (a_ aF st.1.1) (g8 d (cv st)).1).1 (a_ aF x)=fT d (a_ aF x):=fun x hx=>(lF (hnew x hx)).trans lQ
 have k3:∀ x ∈ st.1.2.1,fT (bi (kg st) (bO (a_ aF st.1.1) (g8 d (cv st)).1).1).1 (a_ aF x)=fT d (a_ aF x):=fun x hx=>(gz (gh (hseg x hx)) (ie (hseg x hx))).trans (k2 x hx)
 have o2:=m7 (s:=a_ aF st.1.1) (d:=(g8 d (cv st)).1)
 have o3:fT (bi (kg st) (bO (a_ aF st.1.1) (g8 d (cv st)).1).1).1 (a_ aF st.1.1)=fT (bO (a_ aF st.1.1) (g8 d (cv st)).1).1 (a_ aF st.1.1):=gz (gh ⟨n1,n2⟩) (ie ⟨n1,n2⟩)
 obtain ⟨_,_,g1,_,_⟩:=bV (nx:=st.1.1) (ids:=st.1.2.1) h.live
 obtain ⟨L0,x,eL,el⟩:=va h.ids g1
 have hmem:∀ y ∈ L,y.1 ∈ st.1.2.1:=fun y hy=>by rw [h.ids];exact List.mem_map.2 ⟨y,hy,rfl⟩
 have hx:x ∈ L:=by rw [eL];exact List.mem_append_right _ jo
 have same:∀ (st':Ty.d aE) (y:Ty.d aA),cH st'.1=true→DR y→st'.1.2.1=st.1.2.1→st'.2.2.2.1=st.2.2.2.1→(∀ x ∈ st.1.2.1,fT y (a_ aF x)=fT d (a_ aF x))→∃ L',TX st' y L'∧jq L'=jq L:=fun st' y hl hd hi hs hk =>
  ⟨L,⟨hl,hd,hi.trans h.ids,fun z hz=>⟨(hk _ (hmem z hz)).trans (h.text z hz).1,(h.text z hz).2⟩,fun t q=>by
   rw [hs]
   refine h.tail t ?_
   have e:cv st'=a_ aF x.1:=by unfold cv;rw [hi,el]
   have e':cv st=a_ aF x.1:=by unfold cv;rw [el]
   rw [e,hk _ (hmem x hx)] at q
   rw [e']
   exact q⟩,rfl⟩
 unfold jr at f1 f2 ⊢
 by_cases c1:(st.1.2.1.length:Int)≥60
 · rw [aP c1]
   exact ⟨L,h,rfl⟩
 by_cases c2:st.1.1≥(100000:Int)
 · rw [aQ c1,aP c2]
   exact ⟨L,h,rfl⟩
 rw [aQ c1,aQ c2] at f1 f2 ⊢
 simp only [aL] at f1 f2 ⊢
 generalize g8 d (cv st)=r1 at k1 k2 k3 o2 o3 f1 f2 ⊢
 generalize bO (a_ aF st.1.1) r1.1=r2 at k2 k3 o2 o3 f1 f2 ⊢
 generalize bi (kg st) r2.1=r3 at k3 o3 f1 f2 ⊢
 cases e1:r1.2 != 0 with
 | true=>rw [e1] at f1 f2;exact same _ _ f1 f2 rfl rfl k1
 | false =>
  rw [e1] at f1 f2
  simp only [aL] at f1 f2 ⊢
  cases e2:r2.2 != 0 with
  | true=>rw [e2] at f1 f2;exact same _ _ f1 f2 rfl rfl k2
  | false =>
   rw [e2] at f1 f2
   simp only [aL] at f1 f2 ⊢
   cases e3:r3.2 != 0 with
   | true =>
    rw [e3] at f1 f2
    refine same _ _ f1 f2 rfl rfl fun y hy=>?_
    show fT (nz (a_ aF st.1.1) (tl r3)).1 _=_
    unfold nz
    cases (tl r3).2==2 with
    | false=>exact k3 y hy
    | true =>
     refine (mO [iW,a_ aF st.1.1] r3.1 fun s hs=>?_).trans (k3 y hy)
     rcases List.mem_cons.1 hs with e | e
     · rw [e];exact gh (hseg y hy)
     · rw [List.mem_singleton.1 e];exact hnew y hy
   | false =>
    rw [e3] at f1 f2
    have o2:=o2 (hF e2)
    refine ⟨L++[(st.1.1,[])],⟨f1,f2,?_,fun y hy=>?_,fun u hu=>?_⟩,?_⟩
    · show st.1.2.1++[st.1.1]=_
      rw [List.map_append,← h.ids]
      rfl
    · rcases List.mem_append.1 hy with w | w
      · exact ⟨(k3 _ (hmem y w)).trans (h.text y w).1,(h.text y w).2⟩
      · rw [List.mem_singleton.1 w]
        exact ⟨o3.trans o2,fun q hq=>by cases hq⟩
    · have hu:fT r3.1 (a_ aF (ac (st.1.2.1++[st.1.1])))=some u:=hu
      rw [sE,o3,o2] at hu
      rw [← Option.some.inj hu]
      rfl
    · rw [xH]
      exact List.append_nil _
theorem KA {st:Ty.d aE} {d:Ty.d aA} {L:q7} (h:TX st d L) {r:Ty.d bB} (hr:bv r=true) :
 ∃ L',TX (fm st d r).1.1 (fm st d r).1.2.1 L'∧jq L'=jq L++(bif (fm st d r).1.2.2==0 then [(fm st d r).2] else [])∧((fm st d r).1.2.2=0→fZ (fm st d r).2=r):=by
 unfold fm
 cases decide (st.2.2.2.1 > 0)&&decide (st.2.2.2.1+b8 r > 200) with
 | false=>exact Gt h hr
 | true =>
  simp only [af]
  obtain ⟨L1,t1,e1⟩:=K4 h
  generalize jr st d=q at t1 ⊢
  cases c:q.2.2 != 0 with
  | true =>
   have c0:(q.2.2==0)=false:=by unfold bne at c;simpa using c
   refine ⟨L1,t1,?_,fun z=>?_⟩
   · show jq L1=jq L++(bif q.2.2==0 then _ else [])
     rw [c0,aL,List.append_nil,e1]
   · have z:q.2.2=0:=z
     rw [z] at c0
     cases c0
  | false =>
   simp only [aL]
   obtain ⟨L2,t2,e2,e3⟩:=Gt t1 hr
   exact ⟨L2,t2,by rw [e2,e1],e3⟩
theorem EJ:∀ (l:jH) (st:Ty.d aE) (d:Ty.d aA) (ps:aY) (L:q7),TX st d L→(∀ r ∈ l,bv r=true) →
 ∃ L' q,TX (eR l st d ps).1.1 (eR l st d ps).1.2.1 L'∧jq L'=jq L++q∧q.map fZ=l.take q.length∧((eR l st d ps).1.2.2=0→(eR l st d ps).2=ps++q∧q.length=l.length)∧((eR l st d ps).1.2.2≠0→q.length<l.length)
 | [],st,d,ps,L,h,_=>⟨L,[],h,(List.append_nil _).symm,rfl,fun _=>⟨(List.append_nil _).symm,rfl⟩,fun z=>absurd rfl z⟩
 | r::l,st,d,ps,L,h,hr=>by
  obtain ⟨L1,t1,e1,e2⟩:=KA h (hr r jo)
  unfold eR
  generalize fm st d r=a at t1 e1 e2 ⊢
  cases c:a.1.2.2 != 0 with
  | true =>
   have c0:(a.1.2.2==0)=false:=by unfold bne at c;simpa using c
   rw [c0,aL] at e1
   refine ⟨L1,[],t1,e1,rfl,fun z=>?_,fun _=>Nat.zero_lt_succ _⟩
   have z:a.1.2.2=0:=z
   rw [z] at c0
   cases c0
  | false =>
   have c0:=hF c
   rw [show (a.1.2.2==0)=true from beq_iff_eq.2 c0,af] at e1
   obtain ⟨L2,q,t2,f1,f2,f3,f4⟩:=EJ l a.1.1 a.1.2.1 (ps++[a.2]) L1 t1 fun x hx=>hr x (lV _ hx)
   simp only [aL]
   refine ⟨L2,a.2::q,t2,by rw [f1,e1,nQ];rfl,?_,fun z=>?_,fun z=>?_⟩
   · rw [List.map_cons,kU,List.take_succ_cons,f2,e2 c0]
   · obtain ⟨g1,g2⟩:=f3 z
     exact ⟨by rw [g1,nQ];rfl,by rw [kU,kU,g2]⟩
   · have:=f4 z
     rw [kU,kU]
     omega
structure DS (d:Ty.d aA):Prop where
 l:d.1.length≤131
 u:e9 d.1≤200000
 n:pU d.1≤10000
theorem DS.sz {d:Ty.d aA} (h:DS d):xd d:=⟨by have:=h.l;omega,by have:=h.u;omega,by have:=h.n;omega⟩
inductive CE (st:Ty.d aE) (d:Ty.d aA) (l:kw):Prop
 | no (c:Int) (hc:c=4∨c=5) (e:g7 st d l=(st,(d,c)))
 | none (hs:cS st d=true) (hl:l.length=0) (e:g7 st d l=(st,(d,0)))
 | done (hs:cS st d=true) (hp:kE l=true) (hl:l.length≠0) (ha:ln st.2.1 l≤20) (hb:LE.le (α:=Int) st.2.2.1 1000000) (e:g7 st d l=gP st d l)
theorem DT (st:Ty.d aE) (d:Ty.d aA) (l:kw):CE st d l:=by
 cases c1:cS st d with
 | false=>exact .no 4 (.inl rfl) (by unfold g7;rw [c1];rfl)
 | true =>
  cases c2:kE l with
  | false=>exact .no 4 (.inl rfl) (by unfold g7;rw [c1,c2];rfl)
  | true =>
   by_cases c3:l.length=0
   · exact .none c1 c3 (by unfold g7;rw [c1,c2,c3];rfl)
   · have c3':((l.length:Int)==0)=false:=mP (by omega)
     by_cases c4:ln st.2.1 l > 20
     · exact .no 5 (.inr rfl) (by unfold g7;rw [c1,c2,c3',aP c4];rfl)
     · by_cases c5:st.2.2.1 > (1000000:Int)
       · exact .no 5 (.inr rfl) (by unfold g7;rw [c1,c2,c3',aQ c4,aP c5];rfl)
       · exact .done c1 c2 c3 (by omega) (Int.not_lt.1 c5) (by unfold g7;rw [c1,c2,c3',aQ c4,aQ c5];rfl)
theorem GJ (st:Ty.d aE) (d:Ty.d aA):(jr st d).1.2.2.1=st.2.2.1:=by
 unfold jr
 cases decide ((st.1.2.1.length:Int)≥60) with
 | true=>rfl
 | false =>
  cases decide (st.1.1≥(100000:Int)) with
  | true=>rfl
  | false =>
   simp only [aL]
   generalize g8 d (cv st)=r1
   generalize bO (a_ aF st.1.1) r1.1=r2
   generalize bi (kg st) r2.1=r3
   cases r1.2 != 0 with
   | true=>rfl
   | false =>
    cases r2.2 != 0 with
    | true=>rfl
    | false =>
     cases r3.2 != 0 with
     | true=>rfl
     | false=>rfl
theorem zR (st:Ty.d aE) (d:Ty.d aA) (r:Ty.d bB):(jc st d r).1.1.2.2.1=st.2.2.1:=by
 unfold jc
 generalize iS d (cv st) (aS (aG r))=a
 cases a.2 != 0 <;> rfl
theorem Fw (st:Ty.d aE) (d:Ty.d aA) (r:Ty.d bB):(fm st d r).1.1.2.2.1=st.2.2.1:=by
 have h:=GJ st d
 unfold fm
 cases decide (st.2.2.2.1 > 0)&&decide (st.2.2.2.1+b8 r > 200) with
 | false=>exact zR st d r
 | true =>
  simp only [af]
  generalize jr st d=q at h ⊢
  cases q.2.2 != 0 with
  | true=>exact h
  | false=>exact (zR q.1 q.2.1 r).trans h
theorem vi:∀ (l:jH) (st:Ty.d aE) (d:Ty.d aA) (ps:aY),(eR l st d ps).1.1.2.2.1=st.2.2.1
 | [],_,_,_=>rfl
 | r::l,st,d,ps=>by
  have h:=Fw st d r
  unfold eR
  generalize fm st d r=q at h ⊢
  cases q.1.2.2 != 0 with
  | true=>exact h
  | false=>exact (vi l _ _ _).trans h
theorem Hd (l:kw) (b:Int):(il l b).length=l.length+1:=by
 unfold il
 rw [uo,List.length_map]
 rfl
def dn (d:Ty.d aA):Bool:=d.2.2.2.1
theorem Hc {d:Ty.d aA} {n t:ByteArray} (hd:DR d) (ht:fT d n=some t) (z:(g8 d n).2≠0):dn (g8 d n).1=true:=by
 have hn:(bm d.1 n).isNone=false:=by
  cases q:bm d.1 n with
  | none=>rw [J8.1 q] at ht;cases ht
  | some f=>rfl
 unfold g8 j4 at z ⊢
 have hb:(jZ d).2≠0→dn (jZ d).1=true:=fun q=>by
  unfold jZ at q ⊢
  rw [j9.2 hd] at q ⊢
  simp only [fa,aL] at q ⊢
  cases c1:d.2.2.2.1 with
  | true=>rfl
  | false =>
   rw [c1] at q
   simp only [aL] at q ⊢
   cases c2:(d.2.2.1==0) with
   | true=>rfl
   | false =>
    rw [c2] at q
    simp only [aL] at q
    cases c3:decide ((d.2.2.1:Int) > 0) with
    | true=>rw [c3] at q;exact absurd rfl q
    | false=>rw [c3] at q;exact absurd rfl q
 cases c:(jZ d).2 != 0 with
 | true =>
  rw [af]
  exact hb (bne_iff_ne.1 c)
 | false =>
  rw [c,aL] at z
  exfalso
  unfold uz at z
  rw [hn] at z
  exact z rfl
theorem H9 {st:Ty.d aE} {d:Ty.d aA} {L:q7} (h:TX st d L):∃ t,fT d (cv st)=some t:=by
 obtain ⟨_,_,g1,_,_⟩:=bV (nx:=st.1.1) (ids:=st.1.2.1) h.live
 obtain ⟨L0,x,eL,el⟩:=va h.ids g1
 exact ⟨_,by unfold cv;rw [el];exact (h.text x (by rw [eL];exact List.mem_append_right _ jo)).1⟩
theorem uE (b:Int) (x:Ty.d ch):((fh b x).1=1∨(fh b x).1=2)∧(fh b x).2.1=b:=by
 unfold fh
 cases x.2.1 with
 | true=>exact ⟨.inr rfl,rfl⟩
 | false=>exact ⟨.inl rfl,rfl⟩
theorem sD {q:aY} {l:kw} {b:Int} {n:Nat} (h:q.map fZ=(l.map (fh b)).take n):∀ p ∈ q,plain p∧p.2.2.2.1.2.1=b:=fun p hp=>by
 have hm:fZ p ∈ (l.map (fh b)).take n:=by rw [← h];exact List.mem_map.2 ⟨p,hp,rfl⟩
 obtain ⟨x,_,e⟩:=List.mem_map.1 (List.mem_of_mem_take hm)
 obtain ⟨h1,h2⟩:=uE b x
 rw [e] at h1 h2
 exact ⟨h1,h2⟩
theorem Fc {pre own:aY} {s:Ty.d aC} {l:kw} {b:Int} {dir:aT} {la:Int} (hp:∀ p ∈ pre,p.2.2.2.1.2.1≠b) (ho:own.map fZ=l.map (fh b)) (hs:fZ s=fM 3 b (l.map (fh b))) (h20:(bQ dir own).length≤20) :
 ∃ la',iT (pre++own) s (dir,la,0)=(bQ dir own,la',0):=by
 have hown:∀ p ∈ own,plain p∧p.2.2.2.1.2.1=b:=sD (n:=(l.map (fh b)).length) (by rw [List.take_length];exact ho)
 have hk:s.2.2.2.1=fM 3 b (l.map (fh b)):=hs
 have e:eO b (pre++own)=own:=by
  rw [ug]
  show own.foldl (eN b) (pre.foldl (eN b) [])=_
  rw [we pre [] hp,BU own [] hown,List.nil_append]
 have hf:gd (fM 3 b (l.map (fh b))) own=true:=by
  unfold gd fM
  have:own.map rP=l.map (fh b):=ho
  rw [this,beq_self_eq_true,← ho,List.length_map,beq_self_eq_true]
  rfl
 refine ⟨mg b la,?_⟩
 unfold iT
 rw [hk]
 show (bif (3:Int)==3 then (bif gd (fM 3 b (l.map (fh b))) (eO b (pre++own)) then (bQ dir (eO b (pre++own)),mg b la,kf (bQ dir (eO b (pre++own))) 0) else _) else _)=_
 rw [e,hf]
 show (bQ dir own,mg b la,kf (bQ dir own) 0)=_
 unfold kf
 rw [if_neg (by omega)]
theorem Gx {st:Ty.d aE} {d:Ty.d aA} {l:kw} (h:MI st d) (hp:kE l=true) (hb:LE.le (α:=Int) st.2.2.1 1000000) (ha:ln st.2.1 l≤20) (hn:dn (gP st d l).2.1=false):MI (gP st d l).1 (gP st d l).2.1:=by
 obtain ⟨hs,he⟩:=h.store
 have hw:=BF hs he hp hb ha
 obtain ⟨L,t,j⟩:=h
 obtain ⟨la,hg⟩:=j.gr
 have t0:TX (pX st) d L:=⟨t.live,t.disk,t.ids,t.text,t.tail⟩
 obtain ⟨L',q,t1,e1,e2,e3,e4⟩:=EJ (il l st.2.2.1) (pX st) d [] L t0 (Eb hp j.lo hb)
 have hdir:(eR (il l st.2.2.1) (pX st) d []).1.1.2.1=st.2.1:=by
  obtain ⟨g1,_,_⟩:=eT hs
  exact (pL (il l st.2.2.1) (pX st) d [] 100000 ⟨g1.live,g1.disk,g1.lo,g1.hi⟩ (by decide)).2.1
 have hbat:(eR (il l st.2.2.1) (pX st) d []).1.1.2.2.1=(st.2.2.1+1:Int):=vi _ _ _ _
 have hlen:=Hd l st.2.2.1
 obtain ⟨b1,b2⟩:=LC j.lo hb
 have hbq:∀ p ∈ q,p.2.2.2.1.2.1=st.2.2.1:=fun p hp=>by
  have hm:fZ p ∈ il l st.2.2.1:=List.mem_of_mem_take (by rw [← e2];exact List.mem_map.2 ⟨p,hp,rfl⟩)
  unfold il at hm
  rcases List.mem_append.1 hm with w | w
  · obtain ⟨x,_,e⟩:=List.mem_map.1 w
    have:=(uE st.2.2.1 x).2
    rw [e] at this
    exact this
  · have:=List.mem_singleton.1 w
    show (fZ p).2.1=_
    rw [this]
    rfl
 have hbat2:∀ p ∈ jq L',LT.lt (α:=Int) p.2.2.2.1.2.1 (st.2.2.1+1):=fun p hp=>by
  rw [e1] at hp
  rcases List.mem_append.1 hp with w | w
  · exact Int.lt_trans (j.bat p w) (Int.lt_succ _)
  · rw [hbq p w];exact Int.lt_succ _
 have hmark:∀ q':aY,(∀ p ∈ q',p ∈ q)→bP (jq L++q')=[]:=fun q' hq=>by
  rw [mM,j.mark]
  refine wJ q' [] fun p hp=>?_
  have hm:fZ p ∈ il l st.2.2.1:=List.mem_of_mem_take (by rw [← e2];exact List.mem_map.2 ⟨p,hq p hp,rfl⟩)
  unfold il at hm
  rcases List.mem_append.1 hm with w | w
  · obtain ⟨x,_,e⟩:=List.mem_map.1 w
    have:=(uE st.2.2.1 x).1
    rw [e] at this
    have this:p.2.2.2.1.1=1∨p.2.2.2.1.1=2:=this
    rcases this with v | v <;> rw [v] <;> exact ⟨by decide,by decide⟩
  · have:=List.mem_singleton.1 w
    have e:p.2.2.2.1.1=3:=by
     show (fZ p).1=3
     rw [this]
     rfl
    rw [e]
    exact ⟨by decide,by decide⟩
 have some:q.length≤l.length→JT (jq L') st.2.1 (st.2.2.1+1):=fun hq=>by
  have e2':q.map fZ=(l.map (fh st.2.2.1)).take q.length:=by
   rw [e2]
   unfold il
   rw [List.take_append_of_le_length (by rw [List.length_map];exact hq)]
  obtain ⟨la',hla⟩:=xh q (jq L) st.2.1 la fun p hp=>(sD e2' p hp).1
  refine ⟨⟨la',?_⟩,by rw [e1];exact hmark q fun p hp=>hp,hbat2,b1,b2⟩
  rw [e1,rX,hg]
  exact hla
 unfold gP at hn hw ⊢
 generalize eR (il l st.2.2.1) (pX st) d []=a at t1 e3 e4 hdir hbat hn hw ⊢
 unfold sa at hn hw ⊢
 cases c:a.1.2.2 != 0 with
 | true =>
  have hlt:=e4 (bne_iff_ne.1 c)
  refine ⟨L',t1,?_⟩
  show JT (jq L') a.1.1.2.1 a.1.1.2.2.1
  rw [hdir,hbat]
  exact some (by omega)
 | false =>
  rw [c] at hn hw
  simp only [aL] at hn hw ⊢
  obtain ⟨f1,f2⟩:=e3 (hF c)
  obtain ⟨tt,ht⟩:=H9 t1
  have hsd:=fun z=>Hc t1.disk ht z
  have hsf:∀ s,fT (g8 a.1.2.1 (cv a.1.1)).1 s=fT a.1.2.1 s:=fun s=>lQ
  have hsD:=m6 t1.disk (cv a.1.1)
  generalize g8 a.1.2.1 (cv a.1.1)=y at hn hw hsd hsf hsD ⊢
  cases c2:y.2 != 0 with
  | true =>
   rw [c2] at hn
   have hn:dn y.1=false:=hn
   rw [hsd (bne_iff_ne.1 c2)] at hn
   cases hn
  | false =>
   rw [c2] at hw
   simp only [aL] at hw ⊢
   obtain ⟨s1,_⟩:=hw trivial
   have h20:=pG s1
   refine ⟨L',⟨t1.live,hsD,t1.ids,fun x hx=>⟨(hsf _).trans (t1.text x hx).1,(t1.text x hx).2⟩,fun t q=>t1.tail t ((hsf _).symm.trans q)⟩,?_⟩
   show JT (jq L') (bQ a.1.1.2.1 (a.2.take l.length)) a.1.1.2.2.1
   have h20:(bQ a.1.1.2.1 (a.2.take l.length)).length≤20:=h20
   rw [hdir,f1,List.nil_append] at h20
   rw [hdir,hbat,f1,List.nil_append]
   have hq1:q.length=l.length+1:=by omega
   obtain ⟨own,s,eq⟩:∃ own s,q=own++[s]:=by
    rcases List.eq_nil_or_concat q with w | ⟨a',b',w⟩
    · rw [w] at hq1;cases hq1
    · exact ⟨a',b',by rw [w,List.concat_eq_append]⟩
   subst eq
   have ho1:own.length=l.length:=by
    rw [uo,List.length_singleton] at hq1
    omega
   have et:(own++[s]).take l.length=own:=by rw [← ho1];exact List.take_left
   rw [et] at h20 ⊢
   have e2f:(own++[s]).map fZ=il l st.2.2.1:=by rw [e2,f2,List.take_length]
   rw [List.map_append] at e2f
   unfold il at e2f
   obtain ⟨m1,m2⟩:=List.append_inj e2f (by rw [List.length_map,List.length_map];exact ho1)
   have m2:fZ s=fM 3 st.2.2.1 (l.map (fh st.2.2.1)):=(List.cons.inj m2).1
   have hown:∀ p ∈ own,plain p∧p.2.2.2.1.2.1=st.2.2.1:=sD (n:=(l.map (fh st.2.2.1)).length) (by rw [List.take_length];exact m1)
   obtain ⟨la1,hla1⟩:=xh own (jq L) st.2.1 la fun p hp=>(hown p hp).1
   obtain ⟨la2,hla2⟩:=Fc (pre:=jq L) (own:=own) (s:=s) (dir:=st.2.1) (la:=la1) (fun p hp=>Int.ne_of_lt (j.bat p hp)) m1 m2 h20
   refine ⟨⟨la2,?_⟩,by rw [e1];exact hmark _ fun p hp=>hp,hbat2,b1,b2⟩
   rw [e1,rX,hg]
   show gr (jq L) (own++[s]) (st.2.1,la,0)=_
   rw [rX,hla1]
   exact hla2
theorem G1 {st:Ty.d aE} {d:Ty.d aA} (l:kw) (h:MI st d) (hn:dn (g7 st d l).2.1=false):MI (g7 st d l).1 (g7 st d l).2.1:=by
 rcases DT st d l with ⟨c,hc,e⟩ | ⟨hs,hl,e⟩ | ⟨hs,hp,hl,ha,hb,e⟩
 · rw [e];exact h
 · rw [e];exact h
 · rw [e] at hn ⊢
   exact Gx h hp hb ha hn
theorem Bv {a b:Int} (h:a≤b):∀ (l:List Int) (p:Option Int),nS (mF a) p l=true→nS (mF b) p l=true
 | [],_,_=>rfl
 | x::l,p,q=>by
  unfold nS at q ⊢
  rw [gX] at q ⊢
  refine ⟨?_,Bv h l (some x) q.2⟩
  have q1:=q.1
  unfold mF at q1 ⊢
  rw [gX,decide_eq_true_eq] at q1 ⊢
  exact ⟨⟨q1.1.1,Int.le_trans q1.1.2 h⟩,q1.2⟩
theorem GK {n:Int} {ids:List Int} (h:cH (n,(ids,()))=true) (hn:n+2≤100000):cH (n+2,(ids,()))=true:=by
 obtain ⟨g1,g2,_⟩:=bV h
 unfold cH at h ⊢
 simp only [gX,decide_eq_true_eq] at h ⊢
 rw [aD (n:=n+2-1) (by omega) (by omega)]
 rw [aD (n:=n-1) (by omega) (by omega)] at h
 exact ⟨⟨show (1:Int)≤n+2 by omega,show n+2≤(100000:Int) from hn⟩,h.2.1,Bv (by omega) _ _ h.2.2⟩
theorem vo:∀ (q pre:aY) (d:aT) (la:Int),(∀ p ∈ q,p.2.2.2.1.1≠3∧p.2.2.2.1.1≠5)→∃ la',gr pre q (d,la,0)=(d,la',0)
 | [],_,d,la,_=>⟨la,rfl⟩
 | p::q,pre,d,la,h=>by
  obtain ⟨h3,h5⟩:=h p jo
  obtain ⟨la',e⟩:=vo q (pre++[p]) d (mg p.2.2.2.1.2.1 la) fun x hx=>h x (lV _ hx)
  refine ⟨la',?_⟩
  unfold gr iT
  rw [mP h3,mP h5]
  exact e
theorem ri:∀ (q acc:aY),(∀ p ∈ q,p.2.2.2.1.1=4)→q.foldl fF acc=acc++q
 | [],acc,_=>(List.append_nil acc).symm
 | p::q,acc,h=>by
  have e:fF acc p=acc++[p]:=by
   unfold fF
   rw [h p jo]
   rfl
  rw [List.foldl_cons,e,ri q (acc++[p]) fun x hx=>h x (lV _ hx),nQ]
  rfl
theorem ES {dir:aT} {e:Ty.d aB} (h:∀ x ∈ dir,mw x.1 e.1=true):qJ dir e=dir++[e]:=by
 have h1:iF dir e.1=dir:=by
  unfold iF
  refine List.filter_eq_self.2 fun x hx=>?_
  have hs:=h x hx
  cases c:seq x.1 e.1 with
  | false=>rfl
  | true =>
   rw [dy.1 c] at hs
   exact absurd hs (by rw [pN];decide)
 unfold qJ qK
 rw [h1]
 obtain ⟨w1,w2⟩:=yj (p:=IG e.1) (l:=dir) fun x hx=>by
  unfold IG
  rw [h x hx]
  rfl
 rw [w1,w2]
theorem ut (m:Int):∀ (l:i7) (a:Int) (dir:aT),cX (iZ dir++l.map (·.1))→bQ dir (bD m (fH (l.map bH) a))=dir++lM m l a
 | [],a,dir,_=>(List.append_nil dir).symm
 | p::l,a,dir,h=>by
  have e0:fN dir (m,(a,(b8 (bH p),(bH p,()))))=dir++[(p.1,(m,(a,(b8 (bH p),(p.2.2.1,())))))]:=by
   unfold fN
   show qJ dir (p.1,(m,(a,(b8 (bH p),(p.2.2.1,())))))=_
   refine ES fun x hx=>?_
   rw [List.map_cons] at h
   exact (List.pairwise_append.1 h).2.2 x.1 (List.mem_map.2 ⟨x,hx,rfl⟩) p.1 jo
  show bQ (fN dir (m,(a,(b8 (bH p),(bH p,()))))) (bD m (fH (l.map bH) (a+b8 (bH p))))=_
  rw [e0,ut m l (a+b8 (bH p)) _ (by
   unfold iZ
   rw [List.map_append,nQ]
   exact h),nQ]
  rfl
theorem FM {st:Ty.d aE} {d:Ty.d aA} (h:cS st d=true):(∀ r ∈ jm (gp st.2.1 d).1 (st.2.2.1-1),bv r=true)∧∀ p ∈ (gp st.2.1 d).1,LT.lt (α:=Int) p.2.2.1 st.2.2.1:=by
 obtain ⟨k1,k2⟩:=yl h
 obtain ⟨b1,b2⟩:=vm h
 have h20:=pG h
 have hz:=ob st.2.1 d
 refine ⟨fun r hr=>?_,fun p hp=>?_⟩
 · unfold jm at hr
   rcases List.mem_append.1 hr with q | q
   · obtain ⟨p,hp,rfl⟩:=List.mem_map.1 q
     exact k1 p hp
   · rw [List.mem_singleton.1 q]
     have hs:=Ek ((gp st.2.1 d).1.map bH)
     unfold bv fM
     rw [show ((5:Int)==1||(5:Int)==4)=false from rfl,show ((5:Int)==2)=false from rfl,show ((5:Int)==3)=false from rfl,show ((5:Int)==5)=true from rfl]
     simp only [aL,af]
     rw [aP (show (0:Int)≤(((gp st.2.1 d).1.map bH).length:Int)∧(((gp st.2.1 d).1.map bH).length:Int)≤20 by rw [List.length_map];omega),aP hs,aP (Iu b1 b2),show seq ByteArray.empty ⟨#[]⟩=true from bT _]
     rfl
 · rw [vd h] at hp
   obtain ⟨e,he,rfl⟩:=List.mem_map.1 hp
   unfold cS at h
   simp only [gX] at h
   have hin:=List.all_eq_true.1 h.2.2.2.2.2 e he
   unfold mS at hin
   simp only [gX,beq_iff_eq,Bool.not_eq_true',decide_eq_false_iff_not] at hin
   show LT.lt (α:=Int) (fQ d e).1.2.1 st.2.2.1
   rw [hin.2.2.1]
   exact Int.not_le.1 hin.2.2.2.2
theorem zK {pre:aY} {p:Ty.d aC} {dir:aT} {la:Int} (hk:p.2.2.2.1.1=5) (hf:gd p.2.2.2.1 (bP pre)=true) (h20:(bQ dir (bP pre)).length≤20):iT pre p (dir,la,0)=(bQ dir (bP pre),mg p.2.2.2.1.2.1 la,0):=by
 unfold iT
 rw [hk,show ((5:Int)==3)=false from rfl,aL,show ((5:Int)==5)=true from rfl,af,hf,af]
 show (bQ dir (bP pre),mg p.2.2.2.1.2.1 la,kf (bQ dir (bP pre)) 0)=_
 unfold kf
 rw [if_neg (by omega)]
theorem J9 {m b:Int} {l:i7} (hk:cX (l.map (·.1))) (h20:l.length≤20) (hb:∀ p ∈ l,LT.lt (α:=Int) p.2.2.1 b) (b1:LE.le (α:=Int) 1 b) (b2:LE.le (α:=Int) b 1000001):JT (jq [(m,jm l (b-1)),(m+1,[])]) (lM m l 0) b:=by
 have e0:jq [(m,jm l (b-1)),(m+1,[])]=bD m (fH (l.map bH) 0)++[(m,(((ab (l.map bH)).size:Int),(b8 (fM 5 (b-1) (l.map bH)),(fM 5 (b-1) (l.map bH),()))))]:=by
  show vA (m,jm l (b-1))++([]++[])=_
  rw [List.append_nil,List.append_nil]
  unfold jm
  exact CQ m (l.map bH) _
 have hq:∀ p ∈ bD m (fH (l.map bH) 0),p.2.2.2.1 ∈ l.map bH:=fun p hp=>by
  have:∀ (rs:jH) (a:Int),∀ x ∈ fH rs a,x.2.2.1 ∈ rs:=by
   intro rs
   induction rs with
   | nil=>exact fun a x hx=>by cases hx
   | cons r rs ih =>
    intro a x hx
    rw [fH] at hx
    rcases List.mem_cons.1 hx with w | w
    · rw [w];exact jo
    · exact lV _ (ih _ x w)
  unfold bD at hp
  obtain ⟨x,hx,rfl⟩:=List.mem_map.1 hp
  exact this _ _ x hx
 have h4:∀ p ∈ bD m (fH (l.map bH) 0),p.2.2.2.1.1=4∧LT.lt (α:=Int) p.2.2.2.1.2.1 b:=fun p hp=>by
  obtain ⟨x,hx,e⟩:=List.mem_map.1 (hq p hp)
  rw [← e]
  exact ⟨rfl,hb x hx⟩
 have hrec:∀ (rs:jH) (a:Int),(bD m (fH rs a)).map rP=rs:=by
  intro rs
  induction rs with
  | nil=>exact fun _=>rfl
  | cons r rs ih =>
   intro a
   show r::(bD m (fH rs (a+b8 r))).map rP=_
   rw [ih]
 have hown:bP (bD m (fH (l.map bH) 0))=bD m (fH (l.map bH) 0):=by
  unfold bP
  rw [ri _ _ fun p hp=>(h4 p hp).1,List.nil_append]
 have hf:gd (fM 5 (b-1) (l.map bH)) (bD m (fH (l.map bH) 0))=true:=by
  have hl:(bD m (fH (l.map bH) 0)).length=(l.map bH).length:=by
   have:=congrArg List.length (hrec (l.map bH) 0)
   rw [List.length_map] at this
   exact this
  unfold gd fM
  rw [hrec,hl,beq_self_eq_true,beq_self_eq_true]
  rfl
 have ha:bQ [] (bD m (fH (l.map bH) 0))=lM m l 0:=by
  rw [ut m l 0 [] hk,List.nil_append]
 rw [e0]
 obtain ⟨la,hla⟩:=vo (bD m (fH (l.map bH) 0)) [] [] 0 fun p hp=>by
  rw [(h4 p hp).1]
  exact ⟨by decide,by decide⟩
 generalize bD m (fH (l.map bH) 0)=pl at h4 hown hf ha hla ⊢
 refine ⟨⟨mg (b-1) la,?_⟩,?_,fun p hp=>?_,b1,b2⟩
 · rw [rX,hla,List.nil_append]
   have e:=zK (pre:=pl) (p:=(m,(((ab (l.map bH)).size:Int),(b8 (fM 5 (b-1) (l.map bH)),(fM 5 (b-1) (l.map bH),()))))) (dir:=[]) (la:=la) rfl (by rw [hown];exact hf) (by rw [hown,ha,sd];exact h20)
   rw [hown,ha] at e
   exact e
 · rw [mM]
   rfl
 · rcases List.mem_append.1 hp with w | w
   · exact (h4 p w).2
   · rw [List.mem_singleton.1 w]
     show LT.lt (α:=Int) (b-1) b
     exact Int.sub_lt_self b (by decide)
theorem Db {hb:ByteArray→ByteArray} {st:Ty.d aE} {d:Ty.d aA} {l:i7} (hl:cH st.1=true) (hd:DR d) (hn:LE.le (α:=Int) (st.1.1+2) 100000) :
 ((dR hb st d l).1=tO st∧DR (dR hb st d l).2.1∧∀ x ∈ st.1.2.1,fT (dR hb st d l).2.1 (a_ aF x)=fT d (a_ aF x)) ∨
 ((dR hb st d l).1=(iV st.1.1,(lM st.1.1 l 0,(st.2.2.1,(0,(0,())))))∧DR (dR hb st d l).2.1∧fT (dR hb st d l).2.1 (a_ aF st.1.1)=some (ab (jm l (st.2.2.1-1)))∧fT (dR hb st d l).2.1 (a_ aF (st.1.1+1))=some ByteArray.empty):=by
 obtain ⟨n1,n2,n3,_⟩:=iQ (n:=st.1.1) (ids:=st.1.2.1) hl
 have hm:(1:Int)≤st.1.1∧st.1.1≤(100000:Int):=⟨n1,n2⟩
 have hm1:LE.le (α:=Int) 1 (st.1.1+1)∧LE.le (α:=Int) (st.1.1+1) 100000:=⟨by omega,by omega⟩
 have hseg:∀ x:Int,x ∈ st.1.2.1→1≤x∧x≤100000:=fun x hx=>⟨(n3 x hx).1,B9 (n3 x hx).2 n2⟩
 have no1:∀ x ∈ st.1.2.1,a_ aF st.1.1≠a_ aF x:=fun x hx=>nB hm (hseg x hx) (by have:=(n3 x hx).2;omega)
 have no2:∀ x ∈ st.1.2.1,a_ aF (st.1.1+1)≠a_ aF x:=fun x hx=>nB hm1 (hseg x hx) (by have:=(n3 x hx).2;omega)
 have no3:∀ x ∈ st.1.2.1,a_ dH st.1.1≠a_ aF x:=fun x hx=>kX hm (hseg x hx)
 have no4:a_ aF (st.1.1+1)≠a_ aF st.1.1:=nB hm1 hm (by omega)
 have dropK:∀ (r:RD),DR r.1→(∀ x ∈ st.1.2.1,fT r.1 (a_ aF x)=fT d (a_ aF x))→DR (kt (jT st.1.1) r).1∧∀ x ∈ st.1.2.1,fT (kt (jT st.1.1) r).1 (a_ aF x)=fT d (a_ aF x):=fun r hr k=>by
  unfold kt
  cases r.2==2 with
  | false=>exact ⟨hr,k⟩
  | true =>
   refine ⟨kG _ _ hr,fun x hx=>(mO _ _ fun s hs=>?_).trans (k x hx)⟩
   unfold jT at hs
   rcases List.mem_cons.1 hs with e | e
   · rw [e];exact gh (hseg x hx)
   rcases List.mem_cons.1 e with e | e
   · rw [e];exact no1 x hx
   rcases List.mem_cons.1 e with e | e
   · rw [e];exact no2 x hx
   · rw [List.mem_singleton.1 e];exact no3 x hx
 have a0:DR (fR st.1.1 l (st.2.2.1-1) d).1:=Bj _ _ _ hd
 have a1:∀ x ∈ st.1.2.1,fT (fR st.1.1 l (st.2.2.1-1) d).1 (a_ aF x)=fT d (a_ aF x):=fun x hx=>BW (no1 x hx)
 have a2:(fR st.1.1 l (st.2.2.1-1) d).2=0→fT (fR st.1.1 l (st.2.2.1-1) d).1 (a_ aF st.1.1)=some (ab (jm l (st.2.2.1-1))):=fun z=>by
  unfold fR at z ⊢
  obtain ⟨z1,z2,_⟩:=jL z
  rw [z2]
  rw [lQ]
  have z0:(bO (a_ aF st.1.1) d).2=0:=by
   by_cases w:(bO (a_ aF st.1.1) d).2=0
   · exact w
   · rw [pr _ _ _ w] at z1
     exact absurd z1 w
  have:=D9 (a_ aF st.1.1) (jm l (st.2.2.1-1)) (bO (a_ aF st.1.1) d) ByteArray.empty (m7 z0) z1
  rw [this,show (ByteArray.empty:ByteArray)=dB [] from rfl,s7]
 unfold dR
 generalize fR st.1.1 l (st.2.2.1-1) d=a at a0 a1 a2 ⊢
 cases ca:a.2 != 0 with
 | true=>exact .inl ⟨rfl,dropK (tl a) a0 a1⟩
 | false =>
  have b0:=kC (a_ aF (st.1.1+1)) a.1 a0
  have b1:∀ x ∈ st.1.2.1,fT (bO (a_ aF (st.1.1+1)) a.1).1 (a_ aF x)=fT d (a_ aF x):=fun x hx=>(lF (no2 x hx)).trans (a1 x hx)
  have b2:=(lF (d:=a.1) no4).trans (a2 (hF ca))
  have b3:=m7 (s:=a_ aF (st.1.1+1)) (d:=a.1)
  simp only [aL]
  generalize bO (a_ aF (st.1.1+1)) a.1=b at b0 b1 b2 b3 ⊢
  cases cb:b.2 != 0 with
  | true=>exact .inl ⟨rfl,dropK (tl b) b0 b1⟩
  | false =>
   have b3:=b3 (hF cb)
   have c0:DR (l9 hb st.1.1 b.1).1:=by
    unfold l9
    cases (lR (a_ dH st.1.1) (hb (aR b.1 (a_ aF st.1.1)).1) b.1).2==2 with
    | true=>exact kG _ _ (nh _ _ _ b0)
    | false=>exact nh _ _ _ b0
   have c1:∀ x ∈ st.1.2.1,fT (l9 hb st.1.1 b.1).1 (a_ aF x)=fT d (a_ aF x):=fun x hx=>(qw (no3 x hx)).trans (b1 x hx)
   have c2:=(qw (hb:=hb) (d:=b.1) (kX hm hm)).trans b2
   have c3:=(qw (hb:=hb) (d:=b.1) (kX hm hm1)).trans b3
   simp only [aL]
   generalize l9 hb st.1.1 b.1=e at c0 c1 c2 c3 ⊢
   cases ce:e.2 != 0 with
   | true=>exact .inl ⟨rfl,c0,c1⟩
   | false =>
    have d0:=kD (iV st.1.1) _ c0
    have d1:∀ x ∈ st.1.2.1,fT (bi (iV st.1.1) e.1).1 (a_ aF x)=fT d (a_ aF x):=fun x hx=>(gz (gh (hseg x hx)) (ie (hseg x hx))).trans (c1 x hx)
    have d2:=(gz (d:=e.1) (v:=iV st.1.1) (gh hm) (ie hm)).trans c2
    have d3:=(gz (d:=e.1) (v:=iV st.1.1) (gh hm1) (ie hm1)).trans c3
    simp only [aL]
    generalize bi (iV st.1.1) e.1=f at d0 d1 d2 d3 ⊢
    cases cf:f.2 != 0 with
    | true=>exact .inl ⟨rfl,dropK (tl f) d0 d1⟩
    | false =>
     simp only [aL]
     have o0:∀ (ids:List Int) (x:Ty.d aA),DR x→DR (sb ids x).1:=by
      intro ids
      induction ids with
      | nil=>exact fun x hx=>hx
      | cons y ids ih=>exact fun x hx=>j8 (kG _ _ hx) fun z hz=>ih z hz
     exact .inr ⟨by trivial,o0 _ _ d0,(tf st.1.2.1 f.1 fun x hx=>⟨fun q=>no1 x hx q.symm,kX (hseg x hx) hm⟩).trans d2,(tf st.1.2.1 f.1 fun x hx=>⟨fun q=>no2 x hx q.symm,kX (hseg x hx) hm1⟩).trans d3⟩
theorem HQ {st:Ty.d aE} {d:Ty.d aA} (h:MI st d):MI (mT st d).1 (mT st d).2.1:=by
 obtain ⟨hs,he⟩:=h.store
 unfold mT
 rw [hs]
 simp only [fa,aL]
 by_cases c2:st.1.1+2 > (100000:Int)
 · rw [aP c2];exact h
 · rw [aQ c2]
   simp only [aL]
   cases c3:(gp st.2.1 d).2 != 0 with
   | true=>exact h
   | false =>
    simp only [aL]
    have hn:LE.le (α:=Int) (st.1.1+2) 100000:=Int.not_lt.1 c2
    obtain ⟨k1,k2⟩:=yl hs
    obtain ⟨k3,k4⟩:=FM hs
    have h20:=pG hs
    have hz:=ob st.2.1 d
    obtain ⟨L,t,j⟩:=h
    obtain ⟨n1,n2,n3,_⟩:=iQ (n:=st.1.1) (ids:=st.1.2.1) t.live
    obtain ⟨_,_,g1,_,_⟩:=bV (nx:=st.1.1) (ids:=st.1.2.1) t.live
    rcases Db (hb:=IC st.1.1) (l:=(gp st.2.1 d).1) t.live t.disk hn with ⟨e1,e2,e3⟩ | ⟨e1,e2,e3,e4⟩
    · generalize dR (IC st.1.1) st d (gp st.2.1 d).1=q at e1 e2 e3 ⊢
      rw [e1]
      obtain ⟨L0,x,eL,el⟩:=va t.ids g1
      have hmem:∀ y ∈ L,y.1 ∈ st.1.2.1:=fun y hy=>by rw [t.ids];exact List.mem_map.2 ⟨y,hy,rfl⟩
      have hx:x ∈ L:=by rw [eL];exact List.mem_append_right _ jo
      have ea:cv st=a_ aF x.1:=by unfold cv;rw [el]
      have ea2:cv (tO st)=a_ aF x.1:=ea
      refine ⟨L,⟨GK (n:=st.1.1) (ids:=st.1.2.1) t.live hn,e2,t.ids,fun y hy=>⟨(e3 _ (hmem y hy)).trans (t.text y hy).1,(t.text y hy).2⟩,fun s q=>t.tail s ?_⟩,j⟩
      rw [ea2,e3 _ (hmem x hx)] at q
      rw [ea]
      exact q
    · generalize dR (IC st.1.1) st d (gp st.2.1 d).1=q at e1 e2 e3 e4 ⊢
      rw [e1]
      refine ⟨[(st.1.1,jm (gp st.2.1 d).1 (st.2.2.1-1)),(st.1.1+1,[])],⟨Cg n1 hn,e2,rfl,fun x hx=>?_,fun s w=>?_⟩,J9 k2 (by omega) k4 j.lo j.hi⟩
      · rcases List.mem_cons.1 hx with w | w
        · rw [w];exact ⟨e3,k3⟩
        · rw [List.mem_singleton.1 w]
          exact ⟨e4,fun r hr=>by cases hr⟩
      · have w:fT q.2.1 (a_ aF (st.1.1+1))=some s:=w
        rw [e4] at w
        rw [← Option.some.inj w]
        rfl
theorem Jf {a b:Int} (h:a<b) (g:b≤100000):a≤100000:=by omega
theorem IZ:(F3 dq).2=false:=by
 unfold F3
 rcases jU (IF dq) (fun _=>dq) (0:Int) dq with ⟨r,h1,_,_⟩ | h
 · exfalso
   obtain ⟨h0,h2,h3⟩:=h1
   have hp:=CK r
   rcases h3 with q | q
   · have:=congrArg nb q
     rw [gk] at this
     cases this
   · have:=congrArg nb q
     rw [gk] at this
     cases this
 · rw [h]
theorem DF {ids:List Int} {d:Ty.d aA} {t:ByteArray} (ht:t=dq∨∃ x ∈ ids,1≤x∧x≤100000∧t=a_ aF x):fT (h_ ids d).1 t=fT d t:=by
 refine mO _ d fun s hs q=>?_
 have h:=Hy hs
 rw [q] at h
 rcases ht with w | ⟨x,hx,h0,h1,w⟩
 · rw [w,IZ,Bool.false_and,Bool.false_or] at h
   have:=congrArg nb (dy.1 h)
   cases this
 · have hh:wt ids x=true:=by unfold wt;rw [List.any_eq_true];exact ⟨x,hx,beq_self_eq_true _⟩
   rw [w,wq (.inl rfl) h0 h1,hh] at h
   simp only [fa,Bool.and_false,Bool.false_or] at h
   exact gh ⟨h0,h1⟩ (dy.1 h).symm
noncomputable def zS (d:Ty.d aA):List Int→Int
 | []=>0
 | x::l=>(bif decide ((b_ (dt d x)).2<((dt d x).size:Int)) then 1 else 0)+zS d l
theorem vx {d:Ty.d aA}:∀ {l:List Int},ig d l=true→(∀ x ∈ l,(aR d (a_ aF x)).2=true)∧0≤zS d l∧zS d l≤1
 | [],_=>⟨fun x hx=>(by cases hx),Int.le_refl _,by unfold zS;decide⟩
 | x::l,h=>by
  unfold ig tV at h
  simp only [gX,Bool.or_eq_true,Bool.not_eq_true'] at h
  obtain ⟨⟨h1,h2⟩,h3⟩:=h
  obtain ⟨i1,i2,i3⟩:=vx h3
  refine ⟨fun y hy=>?_,?_⟩
  · rcases List.mem_cons.1 hy with w | w
    · rw [w];exact h1
    · exact i1 y w
  · have e1:zS d (x::l)=(bif decide ((b_ (dt d x)).2<((dt d x).size:Int)) then 1 else 0)+zS d l:=rfl
    rw [e1]
    rcases h2 with q | q
    · have:l=[]:=List.isEmpty_iff.1 q
      subst this
      show 0≤(bif _ then (1:Int) else 0)+0∧(bif _ then (1:Int) else 0)+0≤1
      cases decide ((b_ (dt d x)).2<((dt d x).size:Int)) <;> exact ⟨by decide,by decide⟩
    · rw [q,aL]
      exact ⟨by omega,by omega⟩
theorem yr {d:Ty.d aA}:∀ {l:List Int},ig d l=true→∀ x ∈ l,x≠ac l→(b_ (dt d x)).2=((dt d x).size:Int)
 | [],_,x,hx,_=>(by cases hx)
 | y::l,h,x,hx,hn=>by
  unfold ig tV at h
  simp only [gX,Bool.or_eq_true,Bool.not_eq_true'] at h
  obtain ⟨⟨h1,h2⟩,h3⟩:=h
  have hl:l≠[]→ac (y::l)=ac l:=fun q=>by
   cases l with
   | nil=>exact absurd rfl q
   | cons z l=>rfl
  rcases List.mem_cons.1 hx with w | w
  · rw [w] at hn ⊢
    rcases h2 with q | q
    · have:l=[]:=List.isEmpty_iff.1 q
      subst this
      exact absurd rfl hn
    · have:=of_decide_eq_false q
      have:=(jM (dt d y)).2
      omega
  · have hne:l≠[]:=fun q=>by rw [q] at w;cases w
    exact yr h3 x w (by rw [← hl hne];exact hn)
theorem I5 {A:aY} (h1:∀ b,eO b A=[]) (h2:bP A=[]):∀ (r pre:aY) (s:I_),gr (A++pre) r s=gr pre r s
 | [],_,_=>rfl
 | p::r,pre,s=>by
  have e1:∀ b,eO b (A++pre)=eO b pre:=fun b=>by rw [ug,h1];rfl
  have e2:bP (A++pre)=bP pre:=by rw [mM,h2];rfl
  unfold gr iT
  rw [e1,e2,nQ,I5 h1 h2 r]
theorem Ez:∀ (r pre:aY) (d:aT) (la la' c:Int),(gr pre r (d,la,c)).1=(gr pre r (d,la',c)).1∧(gr pre r (d,la,c)).2.2=(gr pre r (d,la',c)).2.2
 | [],_,_,_,_,_=>⟨rfl,rfl⟩
 | p::r,pre,d,la,la',c=>by
  unfold gr
  simp only []
  cases c != 0 with
  | true=>exact ⟨rfl,rfl⟩
  | false =>
   simp only [aL]
   unfold iT
   simp only []
   cases p.2.2.2.1.1==3 with
   | true =>
    simp only [af]
    cases gd p.2.2.2.1 (eO p.2.2.2.1.2.1 pre) <;> exact Ez r _ _ _ _ _
   | false =>
    simp only [aL]
    cases p.2.2.2.1.1==5 with
    | true =>
     simp only [af]
     cases gd p.2.2.2.1 (bP pre) <;> exact Ez r _ _ _ _ _
    | false=>exact Ez r _ _ _ _ _
theorem Br {m:Int}:∀ (l:zM) (p:Option (Ty.d cA)),nS (nq m) p l=true→(∀ x ∈ l,x.2.2.1.1=4∧LE.le (α:=Int) x.2.2.1.2.1 m)∧cX (l.map fun x=>x.2.2.1.2.2.1)∧(∀ q,p=some q→∀ x ∈ l,mw q.2.2.1.2.2.1 x.2.2.1.2.2.1=true)
 | [],p,_=>⟨fun x h=>(by cases h),List.Pairwise.nil,fun q _ x h=>(by cases h)⟩
 | g::l,p,h=>by
  unfold nS at h
  rw [gX] at h
  obtain ⟨h1,h2⟩:=h
  obtain ⟨i1,i2,i3⟩:=Br l (some g) h2
  unfold nq at h1
  simp only [gX,beq_iff_eq,Bool.not_eq_true',decide_eq_false_iff_not] at h1
  obtain ⟨g1,g2,g3⟩:=h1
  refine ⟨fun x hx=>?_,?_,fun q hq x hx=>?_⟩
  · rcases List.mem_cons.1 hx with e | e
    · rw [e];exact ⟨g1,Int.not_lt.1 g2⟩
    · exact i1 x e
  · rw [List.map_cons]
    unfold cX
    rw [List.pairwise_cons]
    refine ⟨fun x hx=>?_,i2⟩
    obtain ⟨f,hf,rfl⟩:=List.mem_map.1 hx
    exact i3 g rfl f hf
  · subst hq
    rcases List.mem_cons.1 hx with e | e
    · rw [e];exact g3
    · exact oN g3 (i3 g rfl x e)
theorem uk (m:Int):∀ (l:zM) (dir:aT),(∀ x ∈ l,x.2.2.1.1=4)→cX (iZ dir++l.map fun x=>x.2.2.1.2.2.1)→bQ dir (bD m l)=dir++l.map (Ci m)
 | [],dir,_,_=>(List.append_nil dir).symm
 | x::l,dir,h4,h=>by
  have e0:fN dir (m,x)=dir++[Ci m x]:=by
   unfold fN
   rw [show ((m,x):Ty.d aC).2.2.2.1.1=4 from h4 x jo]
   show qJ dir (Ci m x)=_
   refine ES fun y hy=>?_
   rw [List.map_cons] at h
   exact (List.pairwise_append.1 h).2.2 y.1 (List.mem_map.2 ⟨y,hy,rfl⟩) x.2.2.1.2.2.1 jo
  show bQ (fN dir (m,x)) (bD m l)=_
  rw [e0,uk m l _ (fun y hy=>h4 y (lV _ hy)) (by
   unfold iZ
   rw [List.map_append,nQ]
   exact h),nQ]
  rfl
theorem JD {id:Int} {rs:jH} (hr:∀ r ∈ rs,bv r=true) (h:(gA id (ab rs)).2=true) :
 (∃ la,gr [] (vA (id,rs)) ([],0,0)=((gA id (ab rs)).1.2.2.1,la,0))∧(∀ b,eO b (vA (id,rs))=[])∧bP (vA (id,rs))=[]∧∀ p ∈ vA (id,rs),LE.le (α:=Int) p.2.2.2.1.2.1 (gA id (ab rs)).1.2.1:=by
 have hsp:vA (id,rs)=bD id (b_ (ab rs)).1:=by
  unfold vA
  rw [wl hr]
 have hok:∀ x ∈ (b_ (ab rs)).1,bv x.2.2.1=true:=fun x hx=>by
  refine hr _ ?_
  rw [← (om hr).1]
  exact List.mem_map.2 ⟨x,hx,rfl⟩
 rw [hsp]
 unfold gA at h ⊢
 cases c1:(b_ (ab rs)).2 != ((ab rs).size:Int) with
 | true=>rw [c1] at h;cases h
 | false =>
  rw [c1] at h
  simp only [aL] at h ⊢
  generalize (b_ (ab rs)).1=l at h hok ⊢
  cases c2:l.length==0 with
  | true=>rw [c2] at h;cases h
  | false =>
   rw [c2] at h
   simp only [aL] at h ⊢
   have hne:l.length≠0:=by simpa using c2
   obtain ⟨k,mk,el⟩:∃ k mk,l=k++[mk]:=by
    rcases List.eq_nil_or_concat l with w | ⟨a,b,w⟩
    · rw [w] at hne;exact absurd rfl hne
    · exact ⟨a,b,by rw [w,List.concat_eq_append]⟩
   subst el
   have et:(k++[mk]).take ((k++[mk]).length-1)=k:=by
    rw [uo,List.length_singleton,Nat.add_sub_cancel]
    exact List.take_left
   have eg:(k++[mk]).getD ((k++[mk]).length-1) (Ty.z cA)=mk:=by
    rw [uo,List.length_singleton,Nat.add_sub_cancel]
    simp [List.getD]
   rw [et,eg] at h ⊢
   cases c3:mk.2.2.1.1 != 5 with
   | true=>rw [c3] at h;cases h
   | false =>
    rw [c3] at h
    simp only [aL] at h ⊢
    cases c4:!decide ((1:Int)≤id∧id≤100000) with
    | true=>rw [c4] at h;cases h
    | false =>
     rw [c4] at h
     simp only [aL] at h ⊢
     cases c5:nS (nq mk.2.2.1.2.1) none k with
     | false=>rw [c5] at h;cases h
     | true =>
      rw [c5] at h
      simp only [fa,aL] at h ⊢
      cases c6:gd mk.2.2.1 (bD id k) with
      | false=>rw [c6] at h;cases h
      | true =>
       simp only [fa,aL]
       obtain ⟨a1,a2,_⟩:=Br k none c5
       have c3:mk.2.2.1.1=5:=by simpa using c3
       have h4:∀ p ∈ bD id k,p.2.2.2.1.1=4∧LE.le (α:=Int) p.2.2.2.1.2.1 mk.2.2.1.2.1:=fun p hp=>by
        unfold bD at hp
        obtain ⟨x,hx,rfl⟩:=List.mem_map.1 hp
        exact a1 x hx
       have hmk:=hok mk (List.mem_append_right _ jo)
       have h20:(bD id k).length≤20:=by
        unfold gd at c6
        rw [gX,beq_iff_eq] at c6
        unfold bv at hmk
        rw [c3] at hmk
        rw [show ((5:Int)==1||(5:Int)==4)=false from rfl,show ((5:Int)==2)=false from rfl,show ((5:Int)==3)=false from rfl,show ((5:Int)==5)=true from rfl] at hmk
        simp only [aL,af,gX,decide_eq_true_eq] at hmk
        have hc:LE.le (α:=Int) (((bD id k).length:Nat):Int) 20:=by
         rw [← c6.1]
         exact hmk.2.2.1.2
        omega
       have hown:bP (bD id k)=bD id k:=by
        unfold bP
        rw [ri _ _ fun p hp=>(h4 p hp).1,List.nil_append]
       have ha:bQ [] (bD id k)=k.map (Ci id):=by rw [uk id k [] (fun x hx=>(a1 x hx).1) a2,List.nil_append]
       have epl:bD id (k++[mk])=bD id k++[(id,mk)]:=by
        unfold bD
        rw [List.map_append]
        rfl
       obtain ⟨la,hla⟩:=vo (bD id k) [] [] 0 fun p hp=>by
        rw [(h4 p hp).1]
        exact ⟨by decide,by decide⟩
       rw [epl]
       have hlen:(bD id k).length=k.length:=pf id k
       refine ⟨⟨mg mk.2.2.1.2.1 la,?_⟩,fun b=>?_,?_,fun p hp=>?_⟩
       · rw [rX,hla,List.nil_append]
         have e:=zK (pre:=bD id k) (p:=(id,mk)) (dir:=[]) (la:=la) c3 (by rw [hown];exact c6) (by rw [hown,ha,List.length_map];omega)
         rw [hown,ha] at e
         exact e
       · have:∀ (q:aY),(∀ p ∈ q,p.2.2.2.1.1=4∨p.2.2.2.1.1=5)→q.foldl (eN b) []=[]:=by
          intro q
          induction q with
          | nil=>exact fun _=>rfl
          | cons p q ih =>
           intro hq
           have e:eN b [] p=[]:=by
            unfold eN
            rcases hq p jo with w | w <;> rw [w] <;> cases p.2.2.2.1.2.1==b <;> rfl
           rw [List.foldl_cons,e]
           exact ih fun x hx=>hq x (lV _ hx)
         refine this _ fun p hp=>?_
         rcases List.mem_append.1 hp with w | w
         · exact .inl (h4 p w).1
         · rw [List.mem_singleton.1 w];exact .inr c3
       · rw [mM]
         show fF _ (id,mk)=[]
         unfold fF
         rw [show ((id,mk):Ty.d aC).2.2.2.1.1=5 from c3]
         rfl
       · rcases List.mem_append.1 hp with w | w
         · exact (h4 p w).2
         · rw [List.mem_singleton.1 w];exact Int.le_refl _
theorem uA {r:Ty.d bB} (h:bv r=true):LE.le (α:=Int) 0 r.2.1∧LE.le (α:=Int) r.2.1 1000000:=by
 unfold bv at h
 cases c1:(r.1==1||r.1==4) with
 | true =>
  rw [c1] at h
  simp only [af,gX,decide_eq_true_eq] at h
  have:=h.2.2.2.2
  exact ⟨Int.le_trans (by decide) this.1,this.2⟩
 | false =>
  rw [c1] at h
  cases c2:(r.1==2) with
  | true =>
   rw [c2] at h
   simp only [af,aL,gX,decide_eq_true_eq] at h
   have:=h.2.2.2.2
   exact ⟨Int.le_trans (by decide) this.1,this.2⟩
  | false =>
   rw [c2] at h
   cases c3:(r.1==3) with
   | true =>
    rw [c3] at h
    simp only [af,aL,gX,decide_eq_true_eq] at h
    have:=h.2.2.2.2
    exact ⟨Int.le_trans (by decide) this.1,this.2⟩
   | false =>
    rw [c3] at h
    cases c4:(r.1==5) with
    | true =>
     rw [c4] at h
     simp only [af,aL,gX,decide_eq_true_eq] at h
     exact h.2.2.2.2
    | false=>rw [c4] at h;cases h
theorem JA {y:Ty.d aA} (hy:DR y) {L:q7} (hL:1≤L.length) (ht:∀ x ∈ L,fT y (a_ aF x.1)=some (ab x.2)∧∀ r ∈ x.2,bv r=true) (z:(ju y (L.map (·.1))).2.2.1=0) :
 JT (jq L) (ju y (L.map (·.1))).1 (aH ((ju y (L.map (·.1))).2.1+1)):=by
 have hok:∀ p ∈ jq L,bv p.2.2.2.1=true:=fun p hp=>by
  obtain ⟨x,hx,s,hs,e⟩:=tw hp
  obtain ⟨_,i2,_⟩:=rW x.2 ⟨#[]⟩ ⟨#[]⟩ (ht x hx).2 s hs
  rw [e]
  exact i2
 have fin:∀ (dir:aT) (la:Int),(∃ la',gr [] (jq L) ([],0,0)=(dir,la',0))→bP (jq L)=[]→LE.le (α:=Int) 0 la→LE.le (α:=Int) la 1000000→(∀ p ∈ jq L,LE.le (α:=Int) p.2.2.2.1.2.1 la)→JT (jq L) dir (aH (la+1)):=fun dir la h1 h2 h3 h4 h5=>by
  rw [aD (n:=la+1) (by omega) (by omega)]
  exact ⟨h1,h2,fun p hp=>Int.lt_add_one_of_le (h5 p hp),show (1:Int)≤la+1 by omega,show la+1≤(1000001:Int) by omega⟩
 obtain ⟨x0,L',rfl⟩:∃ x L',L=x::L':=by
  cases L with
  | nil=>cases hL
  | cons x L'=>exact ⟨x,L',rfl⟩
 have epl:jq (x0::L')=vA x0++jq L':=rfl
 have e1:mE y ((x0::L').map (·.1))=jq (x0::L'):=sO hy ht
 have e2:mE y (L'.map (·.1))=jq L':=sO hy fun x hx=>ht x (lV _ hx)
 unfold ju at z ⊢
 cases c:pO y (((x0::L').map (·.1)).getD 0 0) with
 | false =>
  rw [c] at z
  simp only [aL] at z ⊢
  rw [e1] at z ⊢
  obtain ⟨g1,g2⟩:=vk z
  have hz:(gr [] (jq (x0::L')) ([],0,0)).2.2=0:=by rw [g1]
  obtain ⟨l1,l2,l3⟩:=zn (jq (x0::L')) [] ([],0,0) hz
  have ela:(gr [] (jq (x0::L')) ([],0,0)).2.1=(eE ([],(0,(0,()))) (jq (x0::L'))).2.1:=by rw [g1]
  have l3:=l3 1000000 (by decide) fun p hp=>(uA (hok p hp)).2
  rw [ela] at l1 l2 l3
  exact fin _ _ ⟨_,g1⟩ g2 l1 l3 l2
 | true =>
  rw [c] at z
  simp only [af] at z ⊢
  have ed:((x0::L').map (·.1)).drop 1=L'.map (·.1):=rfl
  have ex:((x0::L').map (·.1)).getD 0 0=x0.1:=rfl
  rw [ed,ex,e2] at z ⊢
  rw [ex] at c
  obtain ⟨t1,t2⟩:=ht x0 jo
  unfold pO at c
  simp only [gX] at c
  obtain ⟨_,_,c⟩:=c
  have es:dt y x0.1=ab x0.2:=by
   unfold dt
   rw [jY hy,t1]
   rfl
  rw [es] at c
  unfold mj at c
  simp only [gX,beq_iff_eq] at c
  obtain ⟨f1,_,f3,f4⟩:=c
  obtain ⟨⟨la0,k1⟩,k2,k3,k4⟩:=JD (id:=x0.1) t2 f1
  rw [f3] at k4
  rw [uC.1 f4] at k1
  have k1:gr [] (vA x0) ([],0,0)=((hO y x0.1).2.2.1,la0,0):=k1
  have k2:∀ b,eO b (vA x0)=[]:=k2
  have k3:bP (vA x0)=[]:=k3
  have k4:∀ p ∈ vA x0,LE.le (α:=Int) p.2.2.2.1.2.1 (hO y x0.1).2.1:=k4
  obtain ⟨g1,g2⟩:=vk z
  have hz:(gr [] (jq L') ((hO y x0.1).2.2.1,(hO y x0.1).2.1,0)).2.2=0:=by rw [g1]
  obtain ⟨l1,l2,l3⟩:=zn (jq L') [] ((hO y x0.1).2.2.1,(hO y x0.1).2.1,0) hz
  have ela:(gr [] (jq L') ((hO y x0.1).2.2.1,(hO y x0.1).2.1,0)).2.1=(eE ((hO y x0.1).2.2.1,((hO y x0.1).2.1,(0,()))) (jq L')).2.1:=by rw [g1]
  have hmark:∃ mk:Ty.d bB,bv mk=true∧mk.2.1=(hO y x0.1).2.1:=by
   rw [← f3]
   have hb:(gA x0.1 (ab x0.2)).2=true:=f1
   have hok2:∀ x ∈ (b_ (ab x0.2)).1,bv x.2.2.1=true:=fun x hx=>by
    refine t2 _ ?_
    rw [← (om t2).1]
    exact List.mem_map.2 ⟨x,hx,rfl⟩
   unfold gA at hb ⊢
   cases w1:(b_ (ab x0.2)).2 != ((ab x0.2).size:Int) with
   | true=>rw [w1] at hb;cases hb
   | false =>
    rw [w1] at hb
    simp only [aL] at hb ⊢
    generalize (b_ (ab x0.2)).1=l at hb hok2 ⊢
    cases w2:l.length==0 with
    | true=>rw [w2] at hb;cases hb
    | false =>
     rw [w2] at hb
     simp only [aL] at hb ⊢
     have hne:l.length≠0:=by simpa using w2
     have hm:l.getD (l.length-1) (Ty.z cA) ∈ l:=by
      show (l[l.length-1]?).getD _ ∈ l
      rw [List.getElem?_eq_getElem (by omega)]
      exact List.getElem_mem _
     generalize l.getD (l.length-1) (Ty.z cA)=mk at hb hm ⊢
     refine ⟨mk.2.2.1,hok2 _ hm,?_⟩
     revert hb
     cases mk.2.2.1.1 != 5 <;> cases !decide ((1:Int)≤x0.1∧x0.1≤100000) <;> cases nS (nq mk.2.2.1.2.1) none (l.take (l.length-1)) <;> cases gd mk.2.2.1 (bD x0.1 (l.take (l.length-1))) <;> intro hb <;> first | rfl | cases hb
  obtain ⟨mk,m1,m2⟩:=hmark
  have mb:=uA m1
  rw [m2] at mb
  have l3:=l3 1000000 mb.2 fun p hp=>(uA (hok p (by rw [epl];exact List.mem_append_right _ hp))).2
  rw [ela] at l1 l2 l3
  have l1:LE.le (α:=Int) (hO y x0.1).2.1 (eE ((hO y x0.1).2.2.1,((hO y x0.1).2.1,(0,()))) (jq L')).2.1:=l1
  refine fin _ _ ?_ ?_ (Int.le_trans mb.1 l1) l3 fun p hp=>?_
  · rw [epl,rX,k1]
    have q:=I5 k2 k3 (jq L') [] ((hO y x0.1).2.2.1,la0,0)
    rw [List.append_nil] at q
    rw [List.nil_append,q]
    obtain ⟨v1,v2⟩:=Ez (jq L') [] (hO y x0.1).2.2.1 la0 (hO y x0.1).2.1 0
    rw [g1] at v1 v2
    exact ⟨(gr [] (jq L') ((hO y x0.1).2.2.1,la0,0)).2.1,Prod.ext v1 (Prod.ext rfl v2)⟩
  · rw [epl,mM,k3]
    exact g2
  · rw [epl] at hp
    rcases List.mem_append.1 hp with w | w
    · exact Int.le_trans (k4 p w) l1
    · exact l2 p w
theorem Hb {d:Ty.d aA} (ht:(aR d Jl).2=true) (z:(k8 d).2.2=0):MI (k8 d).1 (k8 d).2.1:=by
 have ht:(aR d dq).2=true:=ht
 have hdk:gg d=true:=by
  unfold aR at ht
  cases c:gg d with
  | true=>rfl
  | false=>rw [c] at ht;cases ht
 have hd:=j9.1 hdk
 unfold k8 at z ⊢
 rw [hdk] at z ⊢
 simp only [fa,aL] at z ⊢
 cases c1:d.2.2.2.1 with
 | true=>rw [c1] at z;exact absurd z (by show (1:Int)≠0;decide)
 | false =>
  rw [c1,ht] at z
  rw [ht]
  simp only [fa,aL] at z ⊢
  rcases jU (fun v=>cH v=true) cE ((0,([],())):Ty.d cZ) (aR d dq).1 with ⟨v,h1,h2,e⟩ | e
  · have e:fO (aR d dq).1=(v,true):=e
    rw [e] at z ⊢
    simp only [fa,aL] at z ⊢
    obtain ⟨_,_,hv1,hv2,_⟩:=bV (nx:=v.1) (ids:=v.2.1) h1
    obtain ⟨n1,n2,n3,n4⟩:=iQ (n:=v.1) (ids:=v.2.1) h1
    unfold qA at z ⊢
    cases cg:ig d v.2.1 with
    | false=>rw [cg] at z;exact absurd z (by show (3:Int)≠0;decide)
    | true =>
     rw [cg] at z
     simp only [fa,aL] at z ⊢
     cases cf:(fU (ac v.2.1) d).2 != 0 with
     | true =>
      rw [cf] at z
      have z:iP (fU (ac v.2.1) d).2=0:=z
      have:=iL (fU (ac v.2.1) d).2
      rw [z] at this
      rw [show ((fU (ac v.2.1) d).2 != 0)=!((fU (ac v.2.1) d).2==0) from rfl,← this] at cf
      cases cf
     | false =>
      rw [cf] at z
      simp only [aL] at z ⊢
      have fz:=hF cf
      have fx:=He (ac v.2.1) hd
      have ftx:=fun s=>Gj hd (x:=ac v.2.1) fz s
      have flive:fT (fU (ac v.2.1) d).1 dq=fT d dq∧((b_ (dt (fU (ac v.2.1) d).1 (ac v.2.1))).2=((dt (fU (ac v.2.1) d).1 (ac v.2.1)).size:Int))∧∀ x ∈ v.2.1,x≠ac v.2.1→aR (fU (ac v.2.1) d).1 (a_ aF x)=aR d (a_ aF x):=by
       have hlast:ac v.2.1 ∈ v.2.1:=by
        rw [lx hv1]
        exact List.mem_append_right _ (by rw [← lx hv1];exact List.mem_singleton.2 rfl)
       obtain ⟨b1,b2⟩:=n3 _ hlast
       obtain ⟨c1',c2',c3'⟩:=jL fz
       have hs:=jM (dt d (ac v.2.1))
       rw [show fU (ac v.2.1) d=_ from c2']
       by_cases hb:(b_ (dt d (ac v.2.1))).2<((dt d (ac v.2.1)).size:Int)
       · simp only [aP hb,af] at c1' c3' ⊢
         have hy:=wR hd (a_ aF (ac v.2.1)) (b_ (dt d (ac v.2.1))).2
         have et:=fun s=>(po hy c3' s).trans (vw hd c1' s)
         refine ⟨lQ.trans ?_,?_,fun x hx hn=>?_⟩
         · have h1:=vw hd c1' dq
           rw [kZ (ie ⟨b1,by omega⟩),aL] at h1
           have q1:=jY hy dq
           have q2:=qh hy dq
           have q3:=jY hd dq
           have q4:=qh hd dq
           rw [h1] at q1 q2
           rw [q1] at q3
           rw [q2] at q4
           cases w1:fT (xw d (a_ aF (ac v.2.1)) (b_ (dt d (ac v.2.1))).2).1 dq with
           | none =>
            cases w2:fT d dq with
            | none=>rfl
            | some t=>rw [w1,w2] at q4;cases q4
           | some s =>
            cases w2:fT d dq with
            | none=>rw [w1,w2] at q4;cases q4
            | some t=>rw [w1,w2] at q3;exact congrArg some q3
         · have ew:=et (a_ aF (ac v.2.1))
           rw [bT,af] at ew
           show (b_ (aR _ _).1).2=((aR _ _).1.size:Int)
           rw [ew]
           show (b_ (ByteArray.extract (dt d (ac v.2.1)) 0 _)).2=((ByteArray.extract (dt d (ac v.2.1)) 0 _).size:Int)
           rw [yh,qu _ (by omega)]
           omega
         · rw [et,kZ fun q=>hn ?_]
           · rfl
           · by_cases w:x=ac v.2.1
             · exact w
             · exact absurd q (nB ⟨(n3 x hx).1,Jf (n3 x hx).2 n2⟩ ⟨b1,by omega⟩ w)
       · simp only [aQ hb,aL] at c1' c3' ⊢
         refine ⟨lQ,?_,fun x hx hn=>po hd c3' _⟩
         show (b_ (aR _ _).1).2=((aR _ _).1.size:Int)
         rw [po hd c3']
         show (b_ (dt d (ac v.2.1))).2=((dt d (ac v.2.1)).size:Int)
         omega
      obtain ⟨f1,f2,f3⟩:=flive
      have gJ:∀ (L:q7),v.2.1=L.map (·.1)→(∀ x ∈ L,fT (fU (ac v.2.1) d).1 (a_ aF x.1)=some (ab x.2)∧∀ r ∈ x.2,bv r=true)→(ju (fU (ac v.2.1) d).1 v.2.1).2.2.1=0→JT (jq L) (ju (fU (ac v.2.1) d).1 v.2.1).1 (aH ((ju (fU (ac v.2.1) d).1 v.2.1).2.1+1)):=fun L e1 e2 e3=>by
       have hL:1≤L.length:=by
        rw [e1,List.length_map] at hv1
        exact hv1
       rw [e1] at fx e2 e3 ⊢
       exact JA fx hL e2 e3
      unfold tj at z ⊢
      generalize ju (fU (ac v.2.1) d).1 v.2.1=g at z gJ ⊢
      cases cq:g.2.2.1 != 0 with
      | true=>rw [cq] at z;exact absurd z (by show (3:Int)≠0;decide)
      | false =>
       rw [cq] at z
       simp only [aL] at z ⊢
       cases cs:(h_ v.2.1 (fU (ac v.2.1) d).1).2 != 0 with
       | true =>
        rw [cs] at z
        have z:iP (h_ v.2.1 (fU (ac v.2.1) d).1).2=0:=z
        have:=iL (h_ v.2.1 (fU (ac v.2.1) d).1).2
        rw [z] at this
        rw [show ((h_ v.2.1 (fU (ac v.2.1) d).1).2 != 0)=!((h_ v.2.1 (fU (ac v.2.1) d).1).2==0) from rfl,← this] at cs
        cases cs
       | false =>
        simp only [aL]
        have hx:=pu v.2.1 _ fx
        have sk:∀ t:ByteArray,(t=dq∨∃ x ∈ v.2.1,1≤x∧x≤100000∧t=a_ aF x)→fT (h_ v.2.1 (fU (ac v.2.1) d).1).1 t=fT (fU (ac v.2.1) d).1 t:=fun t=>DF
        have sS:∀ i ∈ v.2.1,fT (h_ v.2.1 (fU (ac v.2.1) d).1).1 (a_ aF i)=fT (fU (ac v.2.1) d).1 (a_ aF i):=fun i hi=>sk _ (.inr ⟨i,hi,(n3 i hi).1,Jf (n3 i hi).2 n2,rfl⟩)
        obtain ⟨t1,_,_⟩:=vx cg
        have hfull:∀ i ∈ v.2.1,∃ t,fT (fU (ac v.2.1) d).1 (a_ aF i)=some t∧FL t:=fun i hi=>by
         have h1:(aR (fU (ac v.2.1) d).1 (a_ aF i)).2=true:=by rw [(ftx _).1];exact t1 i hi
         rw [qh fx] at h1
         obtain ⟨t,ht⟩:=Option.isSome_iff_exists.1 h1
         refine ⟨t,ht,EU ?_⟩
         have h2:(b_ (dt (fU (ac v.2.1) d).1 i)).2=((dt (fU (ac v.2.1) d).1 i).size:Int):=by
          by_cases w:i=ac v.2.1
          · rw [w];exact f2
          · have:=yr cg i hi w
            unfold dt at this ⊢
            rw [f3 i hi w]
            exact this
         unfold dt at h2
         rw [jY fx,ht] at h2
         exact h2
        obtain ⟨L,l1,l2⟩:=A5 hfull
        have hlast:ac v.2.1 ∈ v.2.1:=by
         rw [lx hv1]
         exact List.mem_append_right _ (by rw [← lx hv1];exact List.mem_singleton.2 rfl)
        refine ⟨L,⟨h1,hx,l1,fun x hx'=>⟨?_,(l2 x hx').2⟩,fun t q=>?_⟩,gJ L l1 l2 (hF cq)⟩
        · rw [sS x.1 (by rw [l1];exact List.mem_map.2 ⟨x,hx',rfl⟩)]
          exact (l2 x hx').1
        · have q:fT (h_ v.2.1 (fU (ac v.2.1) d).1).1 (a_ aF (ac v.2.1))=some t:=q
          rw [sS _ hlast] at q
          show (b_ (dt d (ac v.2.1))).2=(t.size:Int)
          have e3:b_ (dt (fU (ac v.2.1) d).1 (ac v.2.1))=b_ (dt d (ac v.2.1)):=(ftx _).2
          rw [← e3,f2]
          unfold dt
          rw [jY fx,q]
          rfl
  · rw [show fO (aR d dq).1=((0,([],())),false) from e] at z
    exact absurd z (by show (3:Int)≠0;decide)
theorem Iv {d:Ty.d aA} {s:ByteArray} (z:(wS d s).2=0):fT (wS d s).1 s=some ByteArray.empty:=by
 obtain ⟨c1,c2⟩:=oX (d:=d) (g:=tc s) z
 unfold fT
 show (bm (j4 d (tc s)).1.1 s).map _=_
 rw [c2]
 unfold tc at c1 ⊢
 cases c3:k0 s with
 | false=>rw [c3] at c1;cases c1
 | true =>
  rw [c3] at c1
  simp only [fa,aL] at c1 ⊢
  cases c4:(bm d.1 s) with
  | some f=>rw [c4] at c1;cases c1
  | none =>
   rw [c4] at c1
   simp only [Option.isSome_none,aL] at c1 ⊢
   cases c5:decide ((d.1.length:Int)≥130) with
   | true=>rw [c5] at c1;cases c1
   | false =>
    simp only [aL]
    rw [vU (f:=(s,(ByteArray.empty,(0,())))) c4,bT]
    rfl
theorem IH {d:Ty.d aA} (z:(k8 d).2.2=0):MI (k8 d).1 (k8 d).2.1:=by
 cases ht:(aR d Jl).2 with
 | true=>exact Hb ht z
 | false =>
  have ht:(aR d dq).2=false:=ht
  cases hdk:gg d with
  | false =>
   rw [Gm hdk] at z
   exact absurd z (by show (4:Int)≠0;decide)
  | true =>
   have hd:=j9.1 hdk
   unfold k8 at z ⊢
   rw [hdk] at z ⊢
   simp only [fa,aL] at z ⊢
   cases c1:d.2.2.2.1 with
   | true=>rw [c1] at z;exact absurd z (by show (1:Int)≠0;decide)
   | false =>
    rw [c1,ht] at z
    rw [ht]
    simp only [ul,af,aL] at z ⊢
    unfold p_ at z ⊢
    cases c2:(jl d).2==0 with
    | false =>
     rw [c2] at z
     have z:iP (jl d).2=0:=z
     have:=iL (jl d).2
     rw [z,c2] at this
     cases this
    | true =>
     simp only [af]
     have c2:(jl d).2=0:=IB c2
     have hD:DR (jl d).1:=j8 (j8 (pu [] d hd) fun x hx=>AN hx _) (kD uV)
     have ht1:fT (jl d).1 (a_ aF 1)=some ByteArray.empty:=by
      unfold jl at c2 ⊢
      obtain ⟨z1,z2,_⟩:=jL c2
      rw [z2,gz (gh (by decide)) (ie (by decide))]
      obtain ⟨z3,z4,z5⟩:=jL z1
      rw [z4]
      exact Iv z5
     refine ⟨[(1,[])],⟨by decide,hD,rfl,fun x hx=>?_,fun t q=>?_⟩,⟨0,rfl⟩,rfl,fun p hp=>(by cases hp),show (1:Int)≤1 by decide,show (1:Int)≤1000001 by decide⟩
     · rw [List.mem_singleton.1 hx]
       exact ⟨ht1,fun r hr=>by cases hr⟩
     · have q:fT (jl d).1 (a_ aF 1)=some t:=q
       rw [ht1] at q
       rw [← Option.some.inj q]
       rfl
def CL (Q:Ty.d aA→Prop):Prop:=∀ d g,Q d→Q (j4 d g).1
theorem nG {Q:Ty.d aA→Prop} {r:RD} {f:Ty.d aA→RD} (h:Q r.1) (hf:∀ x,Q x→Q (f x).1):Q (gV r f).1:=by
 unfold gV
 cases r.2==0 with
 | true=>exact hf _ h
 | false=>exact h
section
variable {Q:Ty.d aA→Prop} (hQ:CL Q)
include hQ
theorem Ea (s:ByteArray) (d:Ty.d aA) (h:Q d):Q (mN s d).1:=by
 unfold mN
 cases (bm d.1 s).isSome with
 | true=>exact hQ d (CU s) h
 | false=>exact h
theorem sq (s:ByteArray) (d:Ty.d aA) (h:Q d):Q (bO s d).1:=nG (Ea hQ s d h) fun x hx=>hQ x (tc s) hx
theorem zh (s t:ByteArray) (d:Ty.d aA) (h:Q d):Q (lR s t d).1:=nG (nG (sq hQ s d h) fun x hx=>hQ x (zo s t) hx) fun x hx=>hQ x (uz s) hx
theorem s5 (v:Ty.d cZ) (d:Ty.d aA) (h:Q d):Q (bi v d).1:=nG (zh hQ _ _ d h) fun x hx=>hQ x (Ck iW dq) hx
theorem nI:∀ (l:List ByteArray) (d:Ty.d aA),Q d→Q (eS l d).1
 | [],d,h=>h
 | s::l,d,h=>nG (Ea hQ s d h) (nI l)
theorem K9 (st:Ty.d aE) {d:Ty.d aA} (h:Q d):Q (jr st d).2.1:=by
 have h1:Q (g8 d (cv st)).1:=hQ d (uz (cv st)) h
 have h2:=sq hQ (a_ aF st.1.1) _ h1
 have h3:=s5 hQ (kg st) _ h2
 unfold jr
 cases decide ((st.1.2.1.length:Int)≥60) with
 | true=>exact h
 | false =>
  cases decide (st.1.1≥(100000:Int)) with
  | true=>exact h
  | false =>
   simp only [aL]
   generalize g8 d (cv st)=r1 at h1 h2 h3 ⊢
   generalize bO (a_ aF st.1.1) r1.1=r2 at h2 h3 ⊢
   generalize bi (kg st) r2.1=r3 at h3 ⊢
   cases r1.2 != 0 with
   | true=>exact h1
   | false =>
    cases r2.2 != 0 with
    | true=>exact h2
    | false =>
     cases r3.2 != 0 with
     | true =>
      show Q (nz (a_ aF st.1.1) (tl r3)).1
      unfold nz
      cases (tl r3).2==2 with
      | false=>exact h3
      | true=>exact nI hQ _ r3.1 h3
     | false=>exact h3
theorem Gu (st:Ty.d aE) {d:Ty.d aA} (h:Q d) (r:Ty.d bB):Q (jc st d r).1.2.1:=by
 have ha:Q (iS d (cv st) (aS (aG r))).1:=hQ d (zo (cv st) (aS (aG r))) h
 unfold jc
 generalize iS d (cv st) (aS (aG r))=a at ha ⊢
 cases a.2 != 0 <;> exact ha
theorem KT (st:Ty.d aE) {d:Ty.d aA} (h:Q d) (r:Ty.d bB):Q (fm st d r).1.2.1:=by
 have h1:=K9 hQ st h
 unfold fm
 cases decide (st.2.2.2.1 > 0)&&decide (st.2.2.2.1+b8 r > 200) with
 | false=>exact Gu hQ st h r
 | true =>
  simp only [af]
  generalize jr st d=q at h1 ⊢
  cases q.2.2 != 0 with
  | true=>exact h1
  | false=>exact Gu hQ q.1 h1 r
theorem FD:∀ (l:jH) (st:Ty.d aE) (d:Ty.d aA) (ps:aY),Q d→Q (eR l st d ps).1.2.1
 | [],_,_,_,h=>h
 | r::l,st,d,ps,h=>by
  have h1:=KT hQ st h r
  unfold eR
  generalize fm st d r=q at h1 ⊢
  cases q.1.2.2 != 0 with
  | true=>exact h1
  | false=>exact FD l _ _ _ h1
theorem yn (st:Ty.d aE) {d:Ty.d aA} (l:kw) (h:Q d):Q (g7 st d l).2.1:=by
 unfold g7
 cases !cS st d with
 | true=>exact h
 | false =>
  cases !kE l with
  | true=>exact h
  | false =>
   cases (l.length:Int)==0 with
   | true=>exact h
   | false =>
    cases decide (ln st.2.1 l > 20) with
    | true=>exact h
    | false =>
     cases decide (st.2.2.1 > (1000000:Int)) with
     | true=>exact h
     | false =>
      show Q (gP st d l).2.1
      have h1:=FD hQ (il l st.2.2.1) (pX st) d [] h
      unfold gP
      generalize eR (il l st.2.2.1) (pX st) d []=q at h1 ⊢
      have h2:Q (g8 q.1.2.1 (cv q.1.1)).1:=hQ _ (uz (cv q.1.1)) h1
      unfold sa
      cases q.1.2.2 != 0 with
      | true=>exact h1
      | false =>
       simp only [aL]
       generalize g8 q.1.2.1 (cv q.1.1)=y at h2 ⊢
       cases y.2 != 0 <;> exact h2
theorem Jg (nm:ByteArray):∀ (rs:jH) (r:RD),Q r.1→Q (xU nm rs r).1
 | [],_,h=>h
 | x::rs,r,h=>Jg nm rs _ (nG h fun y hy=>hQ y (zo nm (aS (aG x))) hy)
theorem tr (ns:List ByteArray) {r:RD} (h:Q r.1):Q (kt ns r).1:=by
 unfold kt
 cases r.2==2 with
 | true=>exact nI hQ _ _ h
 | false=>exact h
theorem B5 (st:Ty.d aE) {d:Ty.d aA} (h:Q d):Q (mT st d).2.1:=by
 unfold mT
 cases !cS st d with
 | true=>exact h
 | false =>
  cases decide (st.1.1+2 > (100000:Int)) with
  | true=>exact h
  | false =>
   cases (gp st.2.1 d).2 != 0 with
   | true=>exact h
   | false =>
    show Q (dR (IC st.1.1) st d (gp st.2.1 d).1).2.1
    generalize (gp st.2.1 d).1=l
    have a1:Q (fR st.1.1 l (st.2.2.1-1) d).1:=nG (Jg hQ _ _ _ (sq hQ _ d h)) fun x hx=>hQ x (uz _) hx
    unfold dR
    generalize fR st.1.1 l (st.2.2.1-1) d=a at a1 ⊢
    cases a.2 != 0 with
    | true=>exact tr hQ _ (r:=tl a) a1
    | false =>
     have b1:=sq hQ (a_ aF (st.1.1+1)) a.1 a1
     simp only [aL]
     generalize bO (a_ aF (st.1.1+1)) a.1=b at b1 ⊢
     cases b.2 != 0 with
     | true=>exact tr hQ _ (r:=tl b) b1
     | false =>
      have c1:Q (l9 (IC st.1.1) st.1.1 b.1).1:=by
       unfold l9
       cases (lR (a_ dH st.1.1) (IC st.1.1 (aR b.1 (a_ aF st.1.1)).1) b.1).2==2 with
       | true=>exact nI hQ _ _ (zh hQ _ _ _ b1)
       | false=>exact zh hQ _ _ _ b1
      simp only [aL]
      generalize l9 (IC st.1.1) st.1.1 b.1=e at c1 ⊢
      cases e.2 != 0 with
      | true=>exact c1
      | false =>
       have d1:=s5 hQ (iV st.1.1) e.1 c1
       simp only [aL]
       generalize bi (iV st.1.1) e.1=f at d1 ⊢
       cases f.2 != 0 with
       | true=>exact tr hQ _ (r:=tl f) d1
       | false =>
        have o:∀ (ids:List Int) (x:Ty.d aA),Q x→Q (sb ids x).1:=by
         intro ids
         induction ids with
         | nil=>exact fun x hx=>hx
         | cons y ids ih=>exact fun x hx=>nG (nI hQ _ _ hx) fun z hz=>ih z hz
        exact o _ _ d1
theorem JH {d:Ty.d aA} (h:Q d):Q (k8 d).2.1:=by
 unfold k8
 cases !gg d with
 | true=>exact h
 | false =>
  cases d.2.2.2.1 with
  | true=>exact h
  | false =>
   cases !(aR d dq).2 with
   | true =>
    have h1:Q (jl d).1:=nG (nG (nI hQ _ d h) fun x hx=>hQ x (tc _) hx) fun x hx=>s5 hQ uV x hx
    show Q (p_ d).2.1
    unfold p_
    cases (jl d).2==0 <;> exact h1
   | false =>
    cases !(fO (aR d dq).1).2 with
    | true=>exact h
    | false =>
     show Q (qA (fO (aR d dq).1).1 d).2.1
     generalize (fO (aR d dq).1).1=v
     unfold qA
     cases !ig d v.2.1 with
     | true=>exact h
     | false =>
      have h1:Q (fU (ac v.2.1) d).1:=by
       unfold fU
       refine nG ?_ fun x hx=>hQ x (uz _) hx
       cases decide ((b_ (dt d (ac v.2.1))).2<((dt d (ac v.2.1)).size:Int)) with
       | true=>exact hQ d (GY _ _) h
       | false=>exact h
      simp only [aL]
      cases (fU (ac v.2.1) d).2 != 0 with
      | true=>exact h1
      | false =>
       simp only [aL]
       generalize ju (fU (ac v.2.1) d).1 v.2.1=g
       have h2:Q (h_ v.2.1 (fU (ac v.2.1) d).1).1:=nI hQ _ _ h1
       unfold tj
       cases g.2.2.1 != 0 with
       | true=>exact h1
       | false =>
        simp only [aL]
        cases (h_ v.2.1 (fU (ac v.2.1) d).1).2 != 0 <;> exact h2
end
theorem yv (d:Ty.d aA):(jZ d).1.1=d.1∧(dn d=true→dn (jZ d).1=true∧(jZ d).2≠0)∧(LT.lt (α:=Int) d.2.2.1 0→dn d=false→jZ d=(d,0)∨jZ d=(d,5)):=by
 unfold jZ dn
 cases c0:!gg d with
 | true=>exact ⟨rfl,fun h=>⟨h,by show (5:Int)≠0;decide⟩,fun _ _ => .inr rfl⟩
 | false =>
  simp only [aL]
  cases c1:d.2.2.2.1 with
  | true=>exact ⟨rfl,fun h=>⟨rfl,by show (1:Int)≠0;decide⟩,fun _ h=>by cases h⟩
  | false =>
   simp only [aL]
   cases c2:d.2.2.1==0 with
   | true=>exact ⟨rfl,fun h=>(by cases h),fun h _=>by rw [IB c2] at h;exact absurd h (by decide)⟩
   | false =>
    cases c3:decide ((d.2.2.1:Int) > 0) with
    | true=>exact ⟨rfl,fun h=>(by cases h),fun h _=>absurd (of_decide_eq_true c3) (Int.not_lt.2 (Int.le_of_lt h))⟩
    | false=>exact ⟨rfl,fun h=>(by cases h),fun _ _ => .inl rfl⟩
theorem EM:CL fun d=>dn d=true:=fun d g h=>by
 obtain ⟨h1,h2⟩:=(yv d).2.1 h
 unfold j4
 rw [show ((jZ d).2 != 0)=true from bne_iff_ne.2 h2]
 exact h1
def FU (d:Ty.d aA):Prop:=LT.lt (α:=Int) d.2.2.1 0∧dn d=false
theorem zv:CL FU:=fun d g h=>by
 unfold j4
 rcases (yv d).2.2 h.1 h.2 with e | e
 · rw [e];exact h
 · rw [e];exact h
theorem FI {st:Ty.d aE} {d:Ty.d aA} {l:kw} (h:dn (g7 st d l).2.1=false):dn d=false:=by
 cases c:dn d with
 | false=>rfl
 | true=>rw [yn EM st l c] at h;cases h
theorem HS {st:Ty.d aE} {d:Ty.d aA} (h:dn (mT st d).2.1=false):dn d=false:=by
 cases c:dn d with
 | false=>rfl
 | true=>rw [B5 EM st c] at h;cases h
theorem K2 {st:Ty.d aE} {d d':Ty.d aA} (h:MI st d) (hd:DR d') (e:d'.1=d.1):MI st d':=by
 obtain ⟨L,t,j⟩:=h
 have k:∀ s,fT d' s=fT d s:=fun s=>by unfold fT;rw [e]
 exact ⟨L,⟨t.live,hd,t.ids,fun x hx=>⟨(k _).trans (t.text x hx).1,(t.text x hx).2⟩,fun s q=>t.tail s ((k _).symm.trans q)⟩,j⟩
abbrev ft:=List (Ty.d bU)
def gH (l:ft) (id:Int):ByteArray:=match l with
 | []=>⟨#[]⟩
 | p::r=>bif p.1==id then p.2.1 else gH r id
theorem rV {k:Nat} (hk:2 ^ 50≤k) (f:Ty.d aV) (id:Int) (hl:f.2.1.length≤1099511627775):gm.f k f id=some (gH f.2.1 id,()):=by
 unfold gm.f gm.t
 refine dp (L:=fun n i (_:Unit)=>gm.l0 k n id f.2.1 f.2.1.length i) (R:=fun r _=>some (gH r id,())) (Ty.z bU) f.2.1 (fun _ _=>True) (fun n s hs=>?_) (fun n i s x rest h0 h1 hx hr hp ih=>?_) (n:=k) (s:=()) (by omega) trivial
 · simp (disch:=omega) only [gm.l0,gm.b0,aQ,aL,gH]
 · simp (disch:=omega) only [gm.l0,gm.b0,aP,af,aI,hx,aD,gH]
   rw [ih () trivial]
   cases x.1==id <;> rfl
theorem xx {k:Nat} (hk:2 ^ 50≤k) (f:Ty.d aV) (id:Int) (hl:f.2.1.length≤1099511627775):dh.f k f id=some (gH f.2.1 id,()):=by
 unfold dh.f dh.t
 refine dp (L:=fun n i (_:Unit)=>dh.l0 k n id i f.1 f.2.1) (R:=fun r _=>some (gH r id,())) (Ty.z bU) f.2.1 (fun _ _=>True) (fun n s hs=>?_) (fun n i s x rest h0 h1 hx hr hp ih=>?_) (n:=k) (s:=()) (by omega) trivial
 · simp (disch:=omega) only [dh.l0,dh.b0,aQ,aL,gH]
 · simp (disch:=omega) only [dh.l0,dh.b0,aP,af,aI,hx,aD,gH]
   rw [ih () trivial]
   cases x.1==id <;> rfl
theorem ml {l:ft} {id:Int} {b:Nat} (h:∀ p ∈ l,p.2.1.size≤b):(gH l id).size≤b:=by
 induction l with
 | nil=>exact Nat.zero_le _
 | cons p r ih =>
  unfold gH
  cases p.1==id
  · exact ih fun q hq=>h q (lV _ hq)
  · exact h p (jo ..)
def Gi (l:ft):Nat:=(l.map fun p=>p.2.1.size).sum
theorem JL {l:ft} {p:Ty.d bU} (h:p ∈ l):p.2.1.size≤Gi l:=by
 unfold Gi
 induction l with
 | nil=>cases h
 | cons q l ih =>
  rw [List.map_cons,List.sum_cons]
  rcases List.mem_cons.1 h with e | e
  · subst e;omega
  · have:=ih e;omega
abbrev Ba:=List (Ty.d iq)
def oc (f:ft):Ba→ft→List Int→Option (ft × List Int)
 | [],out,ids=>some (out,ids)
 | b::l,out,ids=>bif decide ((0:Int)≤b.2.1∧b.2.1≤((gH f b.1).size:Int)) then oc f l (out++[(b.1,(ByteArray.extract (gH f b.1) 0 (Int.toNat b.2.1)++b.2.2.1,()))]) (ids++[b.1]) else none
def wn (f:Ty.d aV) (next:Int):Option (ft × List Int)→Ty.d aV × Bool × Unit
 | none=>(f,(false,()))
 | some q=>bif !cH (next,(q.2,())) then (f,(false,())) else ((next,(q.1,())),(true,()))
def n_ (f:Ty.d aV) (p:Ty.d g_):Ty.d aV × Bool × Unit:=wn f p.1 (oc f.2.1 p.2.1 [] [])
def FB (l:ft) (B:Nat):Prop:=∀ p ∈ l,p.2.1.size≤B
def PB (l:Ba) (B:Nat):Prop:=∀ p ∈ l,p.2.2.1.size≤B
theorem wF {k:Nat} (hk:2 ^ 50≤k) {f:Ty.d aV} {p:Ty.d g_} (hf:f.2.1.length≤1000000) (hp:p.2.1.length≤1000000) {B B':Nat} (h1:FB f.2.1 B) (h2:PB p.2.1 B') (hB:B≤1099511627776) (hB':B'≤1099511627776):f_.f k f p=some (n_ f p):=by
 unfold f_.f f_.t
 rw [br (by omega) (by decide),List.nil_append]
 refine dp (L:=fun n i (s:ft × List Int)=>f_.l0 k n i f.1 f.2.1 p.1 p.2.1 [] 0 f.2.1 f.1 s.1 p.1 s.2) (R:=fun r s=>some (wn f p.1 (oc f.2.1 r s.1 s.2))) (Ty.z iq) p.2.1 (fun i s=>(s.1.length:Int)≤i∧(s.2.length:Int)≤i) (fun n s hs=>?_) (fun n i s x rest g0 g1 hx hr hs ih=>?_) (n:=k) (s:=([],[])) (by omega) ⟨by decide,by decide⟩
 · simp only [f_.l0,f_.b0]
   rw [aQ (by omega),aL,nn hk,ae]
   unfold oc wn
   simp only []
   cases cH (p.1,(s.2,())) <;> rfl
 · obtain ⟨s1,s2⟩:=hs
   have hm:x ∈ p.2.1:=by rw [← hx];exact gl (by omega)
   have hsz:=ml (id:=x.1) h1
   have hpz:=h2 x hm
   have hez:(ByteArray.extract (gH f.2.1 x.1) 0 (Int.toNat x.2.1)).size≤(gH f.2.1 x.1).size:=by rw [ByteArray.size_extract];omega
   simp only [f_.l0,f_.b0]
   rw [aP g1,af,aI g0 g1,hx,xx hk _ _ (by show f.2.1.length≤_;omega),ae,dT,ae]
   unfold oc
   simp only []
   by_cases c:(0:Int)≤x.2.1∧x.2.1≤((gH f.2.1 x.1).size:Int)
   · rw [aP c,fa,aL,af,cC c.1 c.2,dm (by omega),br (by omega) (by decide),br (by omega) (by decide),aD (n:=i+1) (by omega) (by omega)]
     exact ih (s.1++[(x.1,(ByteArray.extract (gH f.2.1 x.1) 0 (Int.toNat x.2.1)++x.2.2.1,()))],s.2++[x.1]) ⟨by simp only [];rw [bN];omega,by simp only [];rw [bN];omega⟩
   · rw [aQ c]
     rfl
theorem wu {k:Nat} (hk:2 ^ 50≤k) {f:Ty.d aV} {p:Ty.d g_} (hf:f.2.1.length≤1000000) (hp:p.2.1.length≤1000000) {B B':Nat} (h1:FB f.2.1 B) (h2:PB p.2.1 B') (hB:B≤1099511627776) (hB':B'≤1099511627776):dj.f k f p=some (n_ f p):=by
 unfold dj.f dj.t
 rw [br (by omega) (by decide)]
 refine dp (L:=fun n i (s:ft × List Int)=>dj.l0 k n p.2.1 p.2.1.length i f.1 f.2.1 [] 0 f.2.1 f.1 s.1 p.1 s.2 p.1) (R:=fun r s=>some (wn f p.1 (oc f.2.1 r s.1 s.2))) (Ty.z iq) p.2.1 (fun i s=>(s.1.length:Int)≤i∧(s.2.length:Int)≤i) (fun n s hs=>?_) (fun n i s x rest g0 g1 hx hr hs ih=>?_) (n:=k) (s:=([],[])) (by omega) ⟨by decide,by decide⟩
 · obtain ⟨s1,s2⟩:=hs
   simp only [dj.l0,dj.b0]
   rw [aQ (by omega),aL,ud hk (by show s.2.length≤_;omega),ae]
   unfold oc wn
   simp only []
   cases cH (p.1,(s.2,())) <;> rfl
 · obtain ⟨s1,s2⟩:=hs
   have hm:x ∈ p.2.1:=by rw [← hx];exact gl (by omega)
   have hsz:=ml (id:=x.1) h1
   have hpz:=h2 x hm
   have hez:(ByteArray.extract (gH f.2.1 x.1) 0 (Int.toNat x.2.1)).size≤(gH f.2.1 x.1).size:=by rw [ByteArray.size_extract];omega
   simp only [dj.l0,dj.b0]
   rw [aP g1,af,aI g0 g1,hx,rV hk _ _ (by show f.2.1.length≤_;omega),ae,ll,ae]
   unfold oc
   simp only []
   by_cases c:(0:Int)≤x.2.1∧x.2.1≤((gH f.2.1 x.1).size:Int)
   · rw [aP c,fa,aL,af,cC c.1 c.2,dm (by omega),br (by omega) (by decide),br (by omega) (by decide),aD (n:=i+1) (by omega) (by omega)]
     exact ih (s.1++[(x.1,(ByteArray.extract (gH f.2.1 x.1) 0 (Int.toNat x.2.1)++x.2.2.1,()))],s.2++[x.1]) ⟨by simp only [];rw [bN];omega,by simp only [];rw [bN];omega⟩
   · rw [aQ c]
     rfl
theorem uh {f:ft} {B B':Nat} (h1:FB f B):∀ (l:Ba) (out:ft) (ids:List Int) (q:ft × List Int),PB l B'→FB out (B+B')→oc f l out ids=some q→q.1.length=out.length+l.length∧FB q.1 (B+B')
 | [],out,ids,q,_,ho,h=>by
  have h:some (out,ids)=some q:=h
  rw [← Option.some.inj h]
  exact ⟨rfl,ho⟩
 | b::l,out,ids,q,h2,ho,h=>by
  unfold oc at h
  cases c:decide ((0:Int)≤b.2.1∧b.2.1≤((gH f b.1).size:Int)) with
  | false=>rw [c] at h;cases h
  | true =>
   rw [c,af] at h
   have hez:(ByteArray.extract (gH f b.1) 0 (Int.toNat b.2.1)).size≤(gH f b.1).size:=by rw [ByteArray.size_extract];omega
   have hsz:=ml (id:=b.1) h1
   have hpz:=h2 b jo
   obtain ⟨i1,i2⟩:=uh h1 l _ _ q (fun x hx=>h2 x (lV _ hx)) (fun x hx=>by
    rcases List.mem_append.1 hx with w | w
    · exact ho x w
    · rw [List.mem_singleton.1 w]
      show (_++_:ByteArray).size≤_
      rw [ByteArray.size_append]
      omega) h
   refine ⟨?_,i2⟩
   rw [i1,bN,kU]
   omega
theorem D_ {f:Ty.d aV} {p:Ty.d g_} {B B':Nat} (h1:FB f.2.1 B) (h2:PB p.2.1 B'):((n_ f p).2.1=false∧(n_ f p).1=f)∨((n_ f p).2.1=true∧(n_ f p).1.2.1.length=p.2.1.length∧FB (n_ f p).1.2.1 (B+B')):=by
 unfold n_
 cases c:oc f.2.1 p.2.1 [] [] with
 | none=>exact .inl ⟨rfl,rfl⟩
 | some q =>
  obtain ⟨i1,i2⟩:=uh h1 p.2.1 [] [] q h2 (fun x hx=>by cases hx) c
  unfold wn
  simp only []
  cases cH (p.1,(q.2,())) with
  | false=>exact .inl ⟨rfl,rfl⟩
  | true=>exact .inr ⟨rfl,by show q.1.length=_;rw [i1,List.length_nil,Nat.zero_add],i2⟩
theorem EC {f:Ty.d aV} {p:Ty.d g_} {B B':Nat} (h1:FB f.2.1 B) (h2:PB p.2.1 B') {m:Nat} (hf:f.2.1.length≤m) (hp:p.2.1.length≤m):FB (n_ f p).1.2.1 (B+B')∧(n_ f p).1.2.1.length≤m:=by
 rcases D_ h1 h2 with ⟨_,e⟩ | ⟨_,e1,e2⟩
 · rw [e]
   exact ⟨fun x hx=>Nat.le_trans (h1 x hx) (Nat.le_add_right _ _),hf⟩
 · exact ⟨e2,by omega⟩
theorem DJ {k:Nat} (hk:2 ^ 50≤k) {f:Ty.d aV} (hf:f.2.1.length≤1048576):cI.f k f f=some (true,()):=by
 unfold cI.f cI.t
 rw [bne_self_eq_false,aL,bne_self_eq_false,aL]
 refine dp (L:=fun n i (_:Unit)=>cI.l0 k n i f.1 f.2.1 f.1 f.2.1) (R:=fun r _=>some (true,())) (Ty.z bU) f.2.1 (fun _ _=>True) (fun n _ _=>?_) (fun n i _ x rest h0 h1 hx hr hp ih=>?_) (n:=k) (s:=()) (by omega) trivial
 · simp only [cI.l0,cI.b0]
   rw [aQ (by omega),aL]
 · simp only [cI.l0,cI.b0]
   rw [aP h1,af]
   repeat rw [aI h0 h1]
   rw [hx,aD (n:=i+1) (by omega) (by omega),bT,beq_self_eq_true]
   exact ih () trivial
theorem rI {k:Nat} (hk:2 ^ 50≤k) {p:Ty.d g_} (hp:p.2.1.length≤1048576):bA.f k p=some (p.2.1.foldl (fun (a:Int) b=>aH (a+(b.2.2.1.size:Int))) 0,()):=by
 unfold bA.f bA.t
 refine dp (L:=fun n i (s:Int)=>bA.l0 k n s p.2.1 p.2.1.length i) (R:=fun r s=>some (r.foldl (fun (a:Int) b=>aH (a+(b.2.2.1.size:Int))) s,())) (Ty.z iq) p.2.1 (fun _ _=>True) (fun n s hs=>?_) (fun n i s x rest h0 h1 hx hr hp ih=>?_) (n:=k) (by omega) trivial
 · simp only [bA.l0,bA.b0]
   rw [aQ (by omega),aL]
   rfl
 · simp only [bA.l0,bA.b0]
   rw [aP h1,af,aI h0 h1,hx,aD (n:=i+1) (by omega) (by omega)]
   exact ih _ trivial
noncomputable def jP (d:Ty.d aA) (f:ft) (id:Int):Ty.d iq :=
 bif oq (aR d (a_ aF id)).1 (gH f id) then (id,(((gH f id).size:Int),(ByteArray.extract (aR d (a_ aF id)).1 (gH f id).size (aR d (a_ aF id)).1.size,()))) else (id,(0,((aR d (a_ aF id)).1,())))
noncomputable def iX (st:Ty.d aE) (d:Ty.d aA) (f:ft):Ty.d g_ :=
 bif !cS st d then (0,([],())) else (st.1.1,(st.1.2.1.map (jP d f),()))
theorem zE {st:Ty.d aE} {d:Ty.d aA} (h:cS st d=true):st.1.2.1.length≤60:=by
 unfold cS cH at h
 simp only [gX,decide_eq_true_eq] at h
 omega
theorem C5 {k:Nat} (hk:2 ^ 50≤k) {st:Ty.d aE} {d:Ty.d aA} {f:Ty.d aV} (hd:xd d) (hf:f.2.1.length≤1099511627775) (hp:∀ p ∈ f.2.1,p.2.1.size≤1073741824):iH.f k st d f=some (iX st d f.2.1,()):=by
 have:=hd.l;have:=hd.u;have:=hd.n
 unfold iH.f iH.t iX
 rw [ma hk hd,ae]
 cases c:cS st d with
 | false=>rfl
 | true =>
  have hv:=zE c
  rw [fa,aL,aL]
  refine dp (L:=fun n i s=>iH.l0 k n i st.1.1 st.1.2.1 st.2.1 st.2.2.1 st.2.2.2.1 st.2.2.2.2.1 d.1 d.2.1 d.2.2.1 d.2.2.2.1 f.1 f.2.1 [] 0 s st.1.1) (R:=fun r s=>some ((st.1.1,(s++r.map (jP d f.2.1),())),())) (Ty.z (.int .i64)) st.1.2.1 (fun i s=>(s.length:Int)=i) (fun n s hs=>?_) (fun n i s x rest h0 h1 hx hr hs ih=>?_) (n:=k) (s:=[]) (by omega) rfl
  · simp (disch:=omega) only [iH.l0,iH.b0,aQ,aL,List.map_nil,List.append_nil]
  · have ih:=ih (s++[jP d f.2.1 x]) (by rw [bN];omega)
    have hz:=fc d (a_ aF x)
    have ht:=gG hk (d:=d) (by omega) (by omega) (by omega) (a_ aF x)
    have hh:=xx hk f x hf
    have hm:=ml (id:=x) hp
    have ha:s++[jP d f.2.1 x]++rest.map (jP d f.2.1)=s++(x::rest).map (jP d f.2.1):=by rw [nQ];rfl
    rw [ha] at ih
    simp (disch:=first | omega | decide) only [iH.l0,iH.b0,aP h1,af,aI,hx,bJ hk,ae,ht,hh,br,aD,nr,J0]
    rw [cC (i:=0) (n:=((aR d (a_ aF x)).1.size:Int)) (by omega) (by omega)]
    by_cases q:(gH f.2.1 x).size≤(aR d (a_ aF x)).1.size
    · rw [aP (show ((gH f.2.1 x).size:Int)≤((aR d (a_ aF x)).1.size:Int) by omega),af,cC (by omega) (by omega),cC (by omega) (by omega)]
      cases e:seq (ByteArray.extract (aR d (a_ aF x)).1 0 (gH f.2.1 x).size) (gH f.2.1 x) with
      | true =>
       rw [af]
       have hb:jP d f.2.1 x=(x,(((gH f.2.1 x).size:Int),(ByteArray.extract (aR d (a_ aF x)).1 (gH f.2.1 x).size (aR d (a_ aF x)).1.size,()))):=by
        unfold jP oq
        rw [e,aP q]
        rfl
       rw [hb] at ih
       exact ih
      | false =>
       rw [aL]
       have hb:jP d f.2.1 x=(x,(0,((aR d (a_ aF x)).1,()))):=by
        unfold jP oq
        rw [e,Bool.and_false]
        rfl
       rw [hb] at ih
       exact ih
    · rw [aQ (show ¬ ((gH f.2.1 x).size:Int)≤((aR d (a_ aF x)).1.size:Int) by omega),aL]
      have hb:jP d f.2.1 x=(x,(0,((aR d (a_ aF x)).1,()))):=by
       unfold jP oq
       rw [aQ q]
       rfl
      rw [hb] at ih
      exact ih
theorem ub {k:Nat} (hk:2 ^ 50≤k) {st:Ty.d aE} {d:Ty.d aA} {f:Ty.d aV} (hd:xd d) (hw1:st.1.2.1.length≤1048576) (hw:st.2.1.length≤1048576) (hf:f.2.1.length≤1099511627775) (hp:∀ p ∈ f.2.1,p.2.1.size≤1073741824):eC.f k st d f=some (iX st d f.2.1,()):=by
 have:=hd.l;have:=hd.u;have:=hd.n
 unfold eC.f eC.t iX
 rw [AB hk hd (by omega) (by omega),ae]
 cases c:cS st d with
 | false=>rfl
 | true =>
  have hv:=zE c
  rw [fa,aL,aL]
  refine dp (L:=fun n i s=>eC.l0 k n st.1.2.1 st.1.2.1.length i d.1 d.2.1 d.2.2.1 d.2.2.2.1 f.1 f.2.1 [] 0 s st.1.1) (R:=fun r s=>some ((st.1.1,(s++r.map (jP d f.2.1),())),())) (Ty.z (.int .i64)) st.1.2.1 (fun i s=>(s.length:Int)=i) (fun n s hs=>?_) (fun n i s x rest h0 h1 hx hr hs ih=>?_) (n:=k) (s:=[]) (by omega) rfl
  · simp (disch:=omega) only [eC.l0,eC.b0,aQ,aL,List.map_nil,List.append_nil]
  · have ih:=ih (s++[jP d f.2.1 x]) (by rw [bN];omega)
    have hz:=fc d (a_ aF x)
    have ht:=pj hk (d:=d) (by omega) (by omega) (by omega) (a_ aF x)
    have hh:=rV hk f x hf
    have hm:=ml (id:=x) hp
    have hpre:iC.f k (aR d (a_ aF x)).1 (gH f.2.1 x)=some (oq (aR d (a_ aF x)).1 (gH f.2.1 x),()):=by
     unfold iC.f
     rw [Ij]
    have ha:s++[jP d f.2.1 x]++rest.map (jP d f.2.1)=s++(x::rest).map (jP d f.2.1):=by rw [nQ];rfl
    rw [ha] at ih
    simp (disch:=first | omega | decide) only [eC.l0,eC.b0,aP h1,af,aI,hx,nE k,ae,ht,hh,hpre,br,aD,nr]
    unfold jP at ih
    cases e:oq (aR d (a_ aF x)).1 (gH f.2.1 x) with
    | true =>
     have hle:=F9 e
     rw [af,cC (by omega) (by omega)]
     rw [e] at ih
     exact ih
    | false =>
     rw [aL]
     rw [e] at ih
     exact ih
noncomputable def nP:ft→aY→Option aY
 | [],acc=>some acc
 | p::r,acc=>bif decide ((b_ p.2.1).2<(p.2.1.size:Int)) then none else nP r (acc++bD p.1 (b_ p.2.1).1)
noncomputable def kj (f:ft):aT→i7→i7 × Bool
 | [],acc=>(acc,true)
 | e::r,acc=>bif (du (gH f e.2.1) e.2.2.1 e.2.2.2.1).2 then kj f r (acc++[((du (gH f e.2.1) e.2.2.1 e.2.2.2.1).1.2.2.1,((du (gH f e.2.1) e.2.2.1 e.2.2.2.1).1.2.2.2.1,((du (gH f e.2.1) e.2.2.1 e.2.2.2.1).1.2.1,())))]) else ([],false)
noncomputable def p5 (f:ft):i7 × Bool:=match nP f [] with
 | none=>([],false)
 | some l=>bif (eE ([],(0,(0,()))) l).2.2.1 != 0 then ([],false) else kj f (eE ([],(0,(0,()))) l).1 []
theorem yM {k:Nat} (hk:2 ^ 50≤k) (f:Ty.d aV) (hl:f.2.1.length≤134217728) (ht:Gi f.2.1≤134217728):bd.f k f=some ((p5 f.2.1).1,((p5 f.2.1).2,())):=by
 have hp:∀ p ∈ f.2.1,p.2.1.size≤134217728:=fun p h=>Nat.le_trans (JL h) ht
 unfold bd.f bd.t p5
 have l1:∀ g:aT,g.length≤268435456→bd.l1 k k g.length 0 f.1 f.2.1 [] g=some ((kj f.2.1 g []).1,((kj f.2.1 g []).2,())):=fun g hg=>by
  refine dp (L:=fun n i s=>bd.l1 k n g.length i f.1 f.2.1 s g) (R:=fun r s=>some ((kj f.2.1 r s).1,((kj f.2.1 r s).2,()))) (Ty.z aB) g (fun i s=>(s.length:Int)=i) (fun n s hs=>?_) (fun n i s x rest h0 h1 hx hr hp' ih=>?_) (n:=k) (s:=[]) (by omega) (by decide)
  · simp (disch:=omega) only [bd.l1,bd.b1,aQ,aL,kj]
  · have hh:=rV hk (f.1,(f.2.1,())) x.2.1 (by simp only [];omega)
    have hz:=ml (id:=x.2.1) hp
    have hr':=sj hk (s:=gH f.2.1 x.2.1) x.2.2.1 x.2.2.2.1 (by omega)
    simp (disch:=first | omega | decide) only [bd.l1,bd.b1,aP,af,aI,hx,hh,hr',ae,br,aD,kj]
    generalize du (gH f.2.1 x.2.1) x.2.2.1 x.2.2.2.1=q
    cases c:q.2 with
    | true=>exact ih _ (by rw [bN];omega)
    | false=>rfl
 refine dp (L:=fun n i s=>bd.l0 k n f.2.1 f.2.1.length i f.1 f.2.1 s) (R:=fun r s=>some ((match nP r s with | none=>(([],false):i7 × Bool) | some l=>bif (eE ([],(0,(0,()))) l).2.2.1 != 0 then ([],false) else kj f.2.1 (eE ([],(0,(0,()))) l).1 []).1,
  ((match nP r s with | none=>(([],false):i7 × Bool) | some l=>bif (eE ([],(0,(0,()))) l).2.2.1 != 0 then ([],false) else kj f.2.1 (eE ([],(0,(0,()))) l).1 []).2,()))) (Ty.z bU) f.2.1 (fun i s=>s.length+Gi (f.2.1.drop i.toNat)≤134217728) (fun n s hs=>?_) (fun n i s x rest h0 h1 hx hr hp' ih=>?_) (n:=k) (s:=[]) (by omega) (by simpa using ht)
 · rw [Int.toNat_natCast,List.drop_length] at hs
   have hs':s.length≤134217728:=by omega
   have hg:=ov (g:=([],(0,(0,())))) (l:=s) hs' (by simp)
   simp (disch:=first | omega | (simp only [List.length_nil];omega)) only [bd.l0,bd.b0,aQ,aL,nP,w5 hk,ae]
   generalize eE ([],(0,(0,()))) s=g at *
   cases c:g.2.2.1 != 0
   · rw [aL,aL,l1 _ hg]
   · rfl
 · have hm:x ∈ f.2.1:=List.mem_of_mem_drop (by rw [hr];exact jo ..)
   have hx1:=hp x hm
   have hsc:=jM x.2.1
   have e:=uf hk (s:=x.2.1) (by omega)
   have hrest:f.2.1.drop (i+1).toNat=rest:=by
    have:=congrArg (List.drop 1) hr
    rw [List.drop_drop,List.drop_one,List.tail_cons] at this
    rw [show (i+1).toNat=i.toNat+1 by omega]
    exact this
   rw [hr] at hp'
   have htx:Gi (x::rest)=x.2.1.size+Gi rest:=by unfold Gi;rw [List.map_cons,List.sum_cons]
   have hpl:=pf x.1 (b_ x.2.1).1
   simp (disch:=omega) only [bd.l0,bd.b0,aP h1,af,aI,hx,e,ae,aD,nP]
   by_cases c:(b_ x.2.1).2<(x.2.1.size:Int)
   · rw [aP c,show ((b_ x.2.1).2 != (x.2.1.size:Int))=true from bne_iff_ne.2 (by omega)]
     rfl
   · rw [aQ c,show ((b_ x.2.1).2 != (x.2.1.size:Int))=false from by rw [bne_eq_false_iff_eq];omega]
     simp only [aL]
     rw [yV hk _ (by omega),ae]
     simp only []
     rw [br (by omega) (by decide)]
     exact ih _ (by rw [hrest,uo];omega)
noncomputable def qs (d:Ty.d aA) (i:Int):Ty.d bU:=(i,((aR d (a_ aF i)).1,()))
noncomputable def jf (st:Ty.d aE) (d:Ty.d aA):ft:=st.1.2.1.map (qs d)
theorem BS (s:ByteArray):ByteArray.extract s 0 0=⟨#[]⟩:=jW (by rw [jw];rfl)
theorem wI (d:Ty.d aA) (f:ft):∀ (ids:List Int) (out:ft) (acc:List Int),oc f (ids.map (jP d f)) out acc=some (out++ids.map (qs d),acc++ids)
 | [],out,acc=>by rw [List.map_nil,List.map_nil,List.append_nil,List.append_nil];rfl
 | i::ids,out,acc=>by
  have key:(jP d f i).1=i∧(0:Int)≤(jP d f i).2.1∧(jP d f i).2.1≤((gH f i).size:Int)∧ByteArray.extract (gH f i) 0 (Int.toNat (jP d f i).2.1)++(jP d f i).2.2.1=(aR d (a_ aF i)).1:=by
   unfold jP
   cases c:oq (aR d (a_ aF i)).1 (gH f i) with
   | true =>
    refine ⟨rfl,Int.natCast_nonneg _,Int.le_refl _,?_⟩
    show ByteArray.extract (gH f i) 0 (Int.toNat ((gH f i).size:Int))++ByteArray.extract (aR d (a_ aF i)).1 (gH f i).size (aR d (a_ aF i)).1.size=_
    rw [Int.toNat_natCast,u4]
    exact (DW c).symm
   | false =>
    refine ⟨rfl,Int.le_refl _,Int.natCast_nonneg _,?_⟩
    show ByteArray.extract (gH f i) 0 0++(aR d (a_ aF i)).1=_
    rw [BS]
    exact s7 _
  obtain ⟨k1,k2,k3,k4⟩:=key
  rw [List.map_cons,oc,k1,aP ⟨k2,k3⟩,af,k4,wI d f ids,List.map_cons,nQ,nQ]
  rfl
theorem Fj {st:Ty.d aE} {d:Ty.d aA} (h:cS st d=true) (f:Ty.d aV):n_ f (iX st d f.2.1)=((st.1.1,(jf st d,())),(true,())):=by
 obtain ⟨g1,_,_⟩:=eT h
 unfold n_ iX
 rw [h]
 simp only [fa,aL]
 rw [wI]
 unfold wn
 simp only [List.nil_append]
 rw [show cH (st.1.1,(st.1.2.1,()))=true from g1.live]
 rfl
theorem wG (d:Ty.d aA) {i:Int}:∀ {ids:List Int},i ∈ ids→gH (ids.map (qs d)) i=(aR d (a_ aF i)).1
 | [],h=>(by cases h)
 | x::ids,h=>by
  rw [List.map_cons]
  show (bif x==i then (aR d (a_ aF x)).1 else gH (ids.map (qs d)) i)=_
  cases c:x==i with
  | true=>rw [IB c];rfl
  | false =>
   rcases List.mem_cons.1 h with w | w
   · rw [w,beq_self_eq_true] at c;cases c
   · exact wG d w
theorem uv (d:Ty.d aA):∀ (ids:List Int) (acc:aY),(∀ i ∈ ids,(b_ (dt d i)).2=((dt d i).size:Int))→nP (ids.map (qs d)) acc=some (acc++mE d ids)
 | [],acc,_=>by rw [List.map_nil];show some acc=some (acc++[]);rw [List.append_nil]
 | i::ids,acc,h=>by
  have hi:=h i jo
  unfold dt at hi
  rw [List.map_cons,nP]
  rw [show (qs d i).2.1=(aR d (a_ aF i)).1 from rfl,aQ (by omega),aL,uv d ids _ fun j hj=>h j (lV _ hj),nQ]
  rfl
theorem xM {d:Ty.d aA} {f:ft}:∀ (dir:aT) (acc:i7),(∀ e ∈ dir,du (gH f e.2.1) e.2.2.1 e.2.2.2.1=fQ d e∧(fQ d e).2=true∧(fQ d e).1.2.2.1=e.1) →
 kj f dir acc=(acc++dir.map (fun e=>(e.1,((fQ d e).1.2.2.2.1,((fQ d e).1.2.1,())))),true)
 | [],acc,_=>by rw [List.map_nil,List.append_nil];rfl
 | e::dir,acc,h=>by
  obtain ⟨h1,h2,h3⟩:=h e jo
  unfold kj
  rw [h1,h2,af,h3,xM dir _ fun x hx=>h x (lV _ hx),nQ]
  rfl
theorem CH {st:Ty.d aE} {d:Ty.d aA} (h:MI st d):p5 (jf st d)=((gp st.2.1 d).1,true):=by
 obtain ⟨hs,he⟩:=h.store
 obtain ⟨L,t,j⟩:=h
 obtain ⟨la,hg⟩:=j.gr
 have hfull:∀ i ∈ st.1.2.1,(b_ (dt d i)).2=((dt d i).size:Int):=fun i hi=>by
  obtain ⟨s,h1,h2⟩:=t.bt.full i hi
  unfold dt
  rw [jY t.disk,h1]
  exact yw h2
 have e1:mE d st.1.2.1=jq L:=by rw [t.ids];exact sO t.disk t.text
 obtain ⟨ep,_,_⟩:=Hq (jq L) (jq L) [] ([],0,0) (fun p hp=>by cases hp) (fun p hp=>hp) (fun e he=>by cases he) List.Pairwise.nil (by decide) (by rw [hg])
 rw [hg] at ep
 have ep:EP (jq L) st.2.1:=ep
 unfold p5 jf
 rw [uv d st.1.2.1 [] hfull,List.nil_append,e1]
 simp only []
 rw [DG hg j.mark]
 simp only [bne_self_eq_false,aL]
 rw [xM (d:=d) st.2.1 [] fun e he=>?_,List.nil_append,vd hs]
 obtain ⟨p,hp,q,_⟩:=ep e he
 have pi:=sT t hp
 obtain ⟨x,hx,s,_,ex⟩:=tw hp
 have hi:p.1 ∈ st.1.2.1:=by
  rw [ex,t.ids]
  exact List.mem_map.2 ⟨x,hx,rfl⟩
 have e2:e.2.1=p.1:=by rw [q];rfl
 rw [q,pi.read]
 refine ⟨?_,rfl,rfl⟩
 rw [show (eQ p).2.1=p.1 from rfl,wG d hi]
 exact pi.read
def ID (l:Ba):Int:=l.foldl (fun (a:Int) b=>aH (a+(b.2.2.1.size:Int))) 0
theorem Hu:∀ (l m:Ba) (a b:Int),l.length=m.length→(∀ p ∈ l.zip m,p.1.2.2.1.size≤p.2.2.2.1.size)→PB m 100000→0≤a→a≤b→b+100000*(m.length:Int)≤1000000000000 →
 0≤l.foldl (fun (a:Int) b=>aH (a+(b.2.2.1.size:Int))) a∧l.foldl (fun (a:Int) b=>aH (a+(b.2.2.1.size:Int))) a≤m.foldl (fun (a:Int) b=>aH (a+(b.2.2.1.size:Int))) b∧m.foldl (fun (a:Int) b=>aH (a+(b.2.2.1.size:Int))) b≤b+100000*(m.length:Int)
 | [],[],a,b,_,_,_,h0,h1,_=>⟨h0,h1,by show b≤b+100000*((0:Nat):Int);omega⟩
 | [],y::m,a,b,h,_,_,_,_,_=>by cases h
 | x::l,[],a,b,h,_,_,_,_,_=>by cases h
 | x::l,y::m,a,b,h,hp,hm,h0,h1,h2=>by
  have hxy:x.2.2.1.size≤y.2.2.1.size:=hp (x,y) jo
  have hy:=hm y jo
  have hl:l.length=m.length:=by simpa using h
  have hlm:((y::m).length:Int)=(m.length:Int)+1:=by rw [kU];omega
  rw [hlm] at h2 ⊢
  rw [List.foldl_cons,List.foldl_cons,aD (n:=a+(x.2.2.1.size:Int)) (by omega) (by omega),aD (n:=b+(y.2.2.1.size:Int)) (by omega) (by omega)]
  obtain ⟨i1,i2,i3⟩:=Hu l m (a+(x.2.2.1.size:Int)) (b+(y.2.2.1.size:Int)) hl (fun p hq=>hp p (lV _ hq)) (fun p hq=>hm p (lV _ hq)) (by omega) (by omega) (by omega)
  exact ⟨i1,i2,by omega⟩
theorem Ej {d:Ty.d aA} (hd:DR d) (s:ByteArray):(aR d s).1.size≤100000:=by
 have h:LE.le (α:=Int) (e9 d.1:Int) 100000:=Int.le_trans hd.use hd.cap1
 have:=fc d s
 omega
theorem Gv {d:Ty.d aA} (f:ft) (i:Int):(jP d f i).2.2.1.size≤(aR d (a_ aF i)).1.size:=by
 unfold jP
 cases oq (aR d (a_ aF i)).1 (gH f i) with
 | true=>exact zr _ _ _
 | false=>exact Nat.le_refl _
theorem J4 (d:Ty.d aA) (i:Int):(jP d [] i).2.2.1.size=(aR d (a_ aF i)).1.size:=by
 unfold jP
 have h:oq (aR d (a_ aF i)).1 ⟨#[]⟩=true:=by
  unfold oq
  rw [aP (show (⟨#[]⟩:ByteArray).size≤_ from Nat.zero_le _)]
  show seq (ByteArray.extract _ 0 0) ⟨#[]⟩=true
  rw [BS]
  exact bT _
 rw [show gH [] i=⟨#[]⟩ from rfl,h]
 show (ByteArray.extract (aR d (a_ aF i)).1 0 (aR d (a_ aF i)).1.size).size=_
 rw [u4]
theorem II {st:Ty.d aE} {d:Ty.d aA} (h:cS st d=true) (f:ft):0≤ID (iX st d f).2.1∧ID (iX st d f).2.1≤ID (iX st d []).2.1∧ID (iX st d []).2.1≤6000000:=by
 obtain ⟨g1,_,_⟩:=eT h
 have hd:DR d:=g1.disk
 have h60:st.1.2.1.length≤60:=(bV (nx:=st.1.1) (ids:=st.1.2.1) g1.live).2.2.2.1
 unfold iX ID
 rw [h]
 simp only [fa,aL]
 have hz:∀ ids:List Int,∀ p ∈ (ids.map (jP d f)).zip (ids.map (jP d [])),p.1.2.2.1.size≤p.2.2.2.1.size:=by
  intro ids
  induction ids with
  | nil=>exact fun p hp=>by cases hp
  | cons i ids ih =>
   intro p hp
   rw [List.map_cons,List.map_cons,List.zip_cons_cons] at hp
   rcases List.mem_cons.1 hp with w | w
   · rw [w]
     show (jP d f i).2.2.1.size≤(jP d [] i).2.2.1.size
     rw [J4]
     exact Gv f i
   · exact ih p w
 have hPB:PB (st.1.2.1.map (jP d [])) 100000:=fun p hp=>by
  obtain ⟨i,_,rfl⟩:=List.mem_map.1 hp
  exact Nat.le_trans (Gv [] i) (Ej hd _)
 obtain ⟨i1,i2,i3⟩:=Hu (st.1.2.1.map (jP d f)) (st.1.2.1.map (jP d [])) 0 0 (by rw [List.length_map,List.length_map]) (hz _) hPB (Int.le_refl _) (Int.le_refl _) (by rw [List.length_map];omega)
 rw [List.length_map] at i3
 exact ⟨i1,i2,by omega⟩
theorem Dy {st:Ty.d aE} {d:Ty.d aA} (h:cS st d=true):ID (iX st d (jf st d)).2.1=0∧(iX st d (jf st d)).2.1.length=st.1.2.1.length:=by
 unfold iX ID
 rw [h]
 simp only [fa,aL]
 refine ⟨?_,List.length_map ..⟩
 have key:∀ ids:List Int,(∀ i ∈ ids,i ∈ st.1.2.1)→(ids.map (jP d (jf st d))).foldl (fun (a:Int) b=>aH (a+(b.2.2.1.size:Int))) 0=0:=by
  intro ids
  induction ids with
  | nil=>exact fun _=>rfl
  | cons i ids ih =>
   intro hi
   have e:(jP d (jf st d) i).2.2.1.size=0:=by
    have hh:gH (jf st d) i=(aR d (a_ aF i)).1:=wG d (hi i jo)
    unfold jP
    rw [hh]
    have hp:oq (aR d (a_ aF i)).1 (aR d (a_ aF i)).1=true:=by
     have:=H5 (aR d (a_ aF i)).1 ⟨#[]⟩
     rw [Dn] at this
     exact this
    rw [hp]
    show (ByteArray.extract (aR d (a_ aF i)).1 (aR d (a_ aF i)).1.size (aR d (a_ aF i)).1.size).size=0
    rw [xk]
    rfl
   rw [List.map_cons,List.foldl_cons,e]
   exact ih fun j hj=>hi j (lV _ hj)
 exact key _ fun i hi=>hi
theorem Ed {st:Ty.d aE} {d:Ty.d aA} (h:cS st d=true):(jf st d).length≤60∧FB (jf st d) 100000:=by
 obtain ⟨g1,_,_⟩:=eT h
 have hd:DR d:=g1.disk
 have h60:st.1.2.1.length≤60:=(bV (nx:=st.1.1) (ids:=st.1.2.1) g1.live).2.2.2.1
 unfold jf
 refine ⟨by rw [List.length_map];exact h60,fun p hp=>?_⟩
 obtain ⟨i,_,rfl⟩:=List.mem_map.1 hp
 exact Ej hd _
theorem C2 {hb:ByteArray→ByteArray} {st:Ty.d aE} {d:Ty.d aA} {l:i7} (hd:DR d) (hl:cH st.1=true) (hn:LE.le (α:=Int) (st.1.1+2) 100000) (hdir:st.2.1.length≤268435456) (hlen:l.length≤268435456) :
 DR (dR hb st d l).2.1∧(dR hb st d l).1.1.2.1.length≤60∧(dR hb st d l).1.2.1.length≤268435456:=by
 have h60:st.1.2.1.length≤60:=(bV (nx:=st.1.1) (ids:=st.1.2.1) hl).2.2.2.1
 have hs:DR (dR hb (st.1,([],st.2.2)) d l).2.1∧(dR hb (st.1,([],st.2.2)) d l).1.1.2.1.length≤60:=by
  have hIV:IV ((st.1,([],st.2.2)),(d,0)):=⟨hd,h60,Nat.zero_le _,fun x hx=>(by cases hx),Int.natCast_nonneg _⟩
  obtain ⟨q1,_⟩:=Fp (hb:=hb) hIV hl hn (l:=l) hlen
  exact ⟨q1.disk,q1.ids⟩
 have he:=sd st.1.1 l 0
 unfold dR at hs ⊢
 simp only [] at hs
 generalize fR st.1.1 l (st.2.2.1-1) d=a at hs ⊢
 cases ca:a.2 != 0 with
 | true=>rw [ca] at hs;exact ⟨hs.1,hs.2,hdir⟩
 | false =>
  rw [ca] at hs
  simp only [aL] at hs ⊢
  generalize bO (a_ aF (st.1.1+1)) a.1=b at hs ⊢
  cases cb:b.2 != 0 with
  | true=>rw [cb] at hs;exact ⟨hs.1,hs.2,hdir⟩
  | false =>
   rw [cb] at hs
   simp only [aL] at hs ⊢
   generalize l9 hb st.1.1 b.1=e at hs ⊢
   cases ce:e.2 != 0 with
   | true=>rw [ce] at hs;exact ⟨hs.1,hs.2,hdir⟩
   | false =>
    rw [ce] at hs
    simp only [aL] at hs ⊢
    generalize bi (iV st.1.1) e.1=f at hs ⊢
    cases cf:f.2 != 0 with
    | true=>rw [cf] at hs;exact ⟨hs.1,hs.2,hdir⟩
    | false =>
     rw [cf] at hs
     exact ⟨hs.1,hs.2,by show (lM st.1.1 l 0).length≤_;rw [he];exact hlen⟩
theorem Cq {st:Ty.d aE} {d:Ty.d aA} (hd:DR d) (h1:st.1.2.1.length≤60) (h2:st.2.1.length≤268435456) :
 DR (mT st d).2.1∧(mT st d).1.1.2.1.length≤60∧(mT st d).1.2.1.length≤268435456:=by
 unfold mT
 cases c1:cS st d with
 | false=>exact ⟨hd,h1,h2⟩
 | true =>
  obtain ⟨g1,g2,g3⟩:=eT c1
  simp only [fa,aL]
  by_cases c2:st.1.1+2 > (100000:Int)
  · rw [aP c2]
    exact ⟨hd,h1,h2⟩
  · rw [aQ c2]
    simp only [aL]
    have hz:=ob st.2.1 d
    cases (gp st.2.1 d).2 != 0 with
    | true=>exact ⟨hd,h1,h2⟩
    | false=>exact C2 hd g1.live (Int.not_lt.1 c2) h2 (by omega)
theorem DN (s:ByteArray):(fO s).1.2.1.length≤60:=by
 rcases jU (fun v=>cH v=true) cE ((0,([],())):Ty.d cZ) s with ⟨r,h1,h2,h3⟩ | h
 · unfold fO
   rw [h3]
   exact (bV (nx:=r.1) (ids:=r.2.1) h1).2.2.2.1
 · unfold fO
   rw [h]
   exact Nat.zero_le _
theorem I9 {d:Ty.d aA}:(k8 d).1.1.2.1.length≤60:=by
 have hv:=DN (aR d dq).1
 unfold k8
 cases gg d with
 | false=>exact Nat.zero_le _
 | true =>
  cases d.2.2.2.1 with
  | true=>exact Nat.zero_le _
  | false =>
   cases (aR d dq).2 with
   | false =>
    show (p_ d).1.1.2.1.length≤60
    unfold p_
    cases (jl d).2==0
    · exact Nat.zero_le _
    · show 1≤60
      decide
   | true =>
    simp only [fa,aL]
    cases (fO (aR d dq).1).2 with
    | false=>exact Nat.zero_le _
    | true =>
     simp only [fa,aL]
     generalize (fO (aR d dq).1).1=v at hv ⊢
     unfold qA
     cases ig d v.2.1 with
     | false=>exact Nat.zero_le _
     | true =>
      simp only [fa,aL]
      cases (fU (ac v.2.1) d).2 != 0 with
      | true=>exact Nat.zero_le _
      | false =>
       simp only [aL]
       generalize ju (fU (ac v.2.1) d).1 v.2.1=g
       unfold tj
       cases g.2.2.1 != 0 with
       | true=>exact Nat.zero_le _
       | false =>
        simp only [aL]
        cases (h_ v.2.1 (fU (ac v.2.1) d).1).2 != 0 with
        | true=>exact Nat.zero_le _
        | false=>exact hv
def TV (t:Ty.d dO):Prop:=t.2.1.length≤20∧t.2.2.1.length≤50
structure EV (F:Prop) (e:Ty.d ck):Prop where
 ids:e.2.1.1.2.1.length≤60
 dir:e.2.1.2.1.length≤268435456
 disk:DR e.2.2.1
 len:e.2.2.2.1.length≤3
 txn:∀ t ∈ e.2.2.2.1,TV t
 mi:e.1=true→dn e.2.2.1=false→MI e.2.1 e.2.2.1
 fu:F→FU e.2.2.1
theorem ER:TV (Ty.z dO):=⟨Nat.zero_le _,Nat.zero_le _⟩
theorem I6:∀ t ∈ List.replicate 3 (Ty.z dO),TV t:=fun t ht=>by
 rw [List.eq_of_mem_replicate ht]
 exact ER
theorem zi {F:Prop} {d:Ty.d aA} (h:DR d) (hf:F→FU d):EV F (HD (k8 d)):=by
 obtain ⟨h1,h2⟩:=Dq h
 exact ⟨I9,h2,h1,Nat.le_refl _,I6,fun z _=>IH (IB z),fun q=>JH zv (hf q)⟩
theorem Ah {l:List (Ty.d dO)} (h:∀ t ∈ l,TV t) (i:Nat):TV (l.getD i (Ty.z dO)):=by
 by_cases c:i<l.length
 · exact h _ (gl c)
 · have:l.getD i (Ty.z dO)=Ty.z dO:=by simp [List.getD,c]
   rw [this]
   exact ER
theorem Ka {l:List (Ty.d dO)} (h:∀ t ∈ l,TV t) (i:Nat) {t:Ty.d dO} (ht:TV t):∀ x ∈ l.set i t,TV x:=fun x hx=>by
 rcases List.mem_or_eq_of_mem_set hx with q | q
 · exact h x q
 · rw [q];exact ht
theorem xy {F:Prop} {e:Ty.d ck} (h:EV F e) (i:Nat) {t:Ty.d dO} (ht:TV t):EV F (e.1,(e.2.1,(e.2.2.1,(e.2.2.2.1.set i t,())))) :=
 ⟨h.ids,h.dir,h.disk,by show (List.set _ _ _).length≤3;rw [List.length_set];exact h.len,Ka h.txn i ht,h.mi,h.fu⟩
theorem pt (k:Nat) {t:Ty.d dO} (h:TV t):eI.f k t=some (t,()):=by
 obtain ⟨h1,h2⟩:=h
 unfold eI.f eI.t
 rw [br (by omega) (by decide),br (by omega) (by decide),List.nil_append,List.nil_append]
theorem Ca {F:Prop} {k:Nat} (hk:2 ^ 50≤k) {e:Ty.d ck} (h:EV F e):dP.f k e=some (e,()):=by
 have h1:=h.ids
 have h2:=h.dir
 have h3:=h.len
 have ec:d6.f k e.2.1=some (e.2.1,()):=by
  unfold d6.f d6.t
  rw [br (by omega) (by decide),br (by omega) (by decide),List.nil_append,List.nil_append]
 unfold dP.f dP.t
 rw [ec,ae,im k h.disk.sz,ae]
 simp only []
 refine (dp (L:=fun n i (s:List (Ty.d dO))=>dP.l0 k n i e.2.1.1.2.1 e.2.1.2.1 e.2.2.1.1 e.1 e.2.1.1.1 e.2.1.2.2.1 e.2.1.2.2.2.1 e.2.1.2.2.2.2.1 e.2.2.1.2.1 e.2.2.1.2.2.1 e.2.2.1.2.2.2.1 e.2.2.2.1 [] [] [] [] false 0 0 0 0 0 0 false s) (R:=fun r s=>(some ((e.1,(e.2.1,(e.2.2.1,(s++r,())))),()):dP.Rs)) (Ty.z dO) e.2.2.2.1 (fun i s=>(s.length:Int)≤i) (fun n s hs=>?_) (fun n i s x rest g0 g1 hx hr hp ih=>?_) (n:=k) (s:=[]) (by omega) (by decide)).trans (by rw [List.nil_append])
 · simp only [dP.l0,dP.b0]
   rw [aQ (by omega),aL,List.append_nil]
 · have hm:x ∈ e.2.2.2.1:=by rw [← hx];exact gl (by omega)
   simp only [dP.l0,dP.b0]
   rw [aP g1,af,aI g0 g1,hx,pt k (h.txn x hm),ae,aD (n:=i+1) (by omega) (by omega),br (by omega) (by decide)]
   refine (ih (s++[x]) (by rw [bN];omega)).trans ?_
   rw [nQ]
   rfl
theorem wz {k:Nat} (hk:2 ^ 50≤k) {t:Ty.d dO} (h:t.2.2.1.length≤1000) (key:ByteArray):jg (dK.f k t key) (fun _=>True):=by
 have loop:∀ (m n:Nat) (i:Int),i+1=(m:Int)→m<n→m≤t.2.2.1.length→jg (dK.l0 k n key i t.1 t.2.1 t.2.2.1 ByteArray.empty false ByteArray.empty) (fun _=>True):=by
  intro m
  induction m with
  | zero =>
   intro n i hi hn hm
   obtain ⟨n,rfl⟩:∃ q,n=q+1:=⟨n-1,by omega⟩
   simp only [dK.l0,dK.b0]
   exact mW (aQ (by omega)) (aX trivial)
  | succ m ih =>
   intro n i hi hn hm
   obtain ⟨n,rfl⟩:∃ q,n=q+1:=⟨n-1,by omega⟩
   have hw:aH (i-1)=i-1:=aD (by omega) (by omega)
   simp only [dK.l0,dK.b0,hw]
   exact iu (aP (by omega)) (fq (by omega) (by omega) (ap (fun _=>fq (by omega) (by omega) (aX trivial)) (fun _=>ih n (i-1) (by omega) (by omega) (by omega))))
 unfold dK.f dK.t
 rw [aD (n:=(t.2.2.1.length:Int)-1) (by omega) (by omega)]
 exact loop t.2.2.1.length k _ (by omega) (by omega) (Nat.le_refl _)
theorem pb {k:Nat} (hk:2 ^ 50≤k) {t:Ty.d dO} (h:t.2.2.1.length≤1000):jg (az.f k t) (fun r=>r.1.length≤1000):=by
 have loop:∀ (m n:Nat) (i:Int) (out:kw),0≤i→i+(m:Int)=(t.2.2.1.length:Int)→m<n→(out.length:Int)≤i→jg (az.l0 k n i t.1 t.2.1 t.2.2.1 out) (fun r=>r.1.length≤1000):=by
  intro m
  induction m with
  | zero =>
   intro n i out h0 h1 hn ho
   obtain ⟨n,rfl⟩:∃ q,n=q+1:=⟨n-1,by omega⟩
   simp only [az.l0,az.b0]
   exact mW (aQ (by omega)) (aX (by show out.length≤1000;omega))
  | succ m ih =>
   intro n i out h0 h1 hn ho
   obtain ⟨n,rfl⟩:∃ q,n=q+1:=⟨n-1,by omega⟩
   have hw:aH (i+1)=i+1:=aD (by omega) (by omega)
   have inner:∀ (d n':Nat) (b:Bool) (j:Int),0≤j→j+(d:Int)=i→d<n'→jg (az.l1 k (az.l0 k n) n' i b j t.1 t.2.1 t.2.2.1 out) (fun r=>r.1.length≤1000):=by
    intro d
    induction d with
    | zero =>
     intro n' b j j0 j1 hn'
     obtain ⟨n',rfl⟩:∃ q,n'=q+1:=⟨n'-1,by omega⟩
     simp only [az.l1,az.b1,hw]
     refine mW (aQ (by omega)) (ap (fun _=>fq h0 (by omega) (aj (wz hk (t:=(t.1,(t.2.1,(t.2.2.1,())))) h _) fun r _=>o8 (by omega) (by decide) ?_)) (fun _=>?_))
     · exact ih n (i+1) (out++[r.1]) (by omega) (by omega) (by omega) (by rw [bN];omega)
     · exact ih n (i+1) out (by omega) (by omega) (by omega) (by omega)
    | succ d ih2 =>
     intro n' b j j0 j1 hn'
     obtain ⟨n',rfl⟩:∃ q,n'=q+1:=⟨n'-1,by omega⟩
     have hj:aH (j+1)=j+1:=aD (by omega) (by omega)
     simp only [az.l1,az.b1,hj]
     exact iu (aP (by omega)) (ap (fun _=>fq j0 (by omega) (fq h0 (by omega) (ih2 n' _ (j+1) (by omega) (by omega) (by omega)))) (fun _=>ih2 n' _ (j+1) (by omega) (by omega) (by omega)))
   simp only [az.l0,az.b0]
   exact iu (aP (by omega)) (inner i.toNat k true 0 (by omega) (by omega) (by omega))
 unfold az.f az.t
 exact loop t.2.2.1.length k 0 [] (by omega) (by omega) (by omega) (by decide)
theorem Iw {k:Nat} (hk:2 ^ 50≤k) {t:Ty.d dO} (h:TV t) {dir:aT} (hd:dir.length≤268435456):jg (gN.f k t dir) (fun _=>True):=by
 obtain ⟨h1,h2⟩:=h
 have loop:∀ (m n:Nat) (i:Int),0≤i→i+(m:Int)=(t.2.1.length:Int)→m<n→jg (gN.l0 k n dir i t.1 t.2.1 t.2.2.1) (fun _=>True):=by
  intro m
  induction m with
  | zero =>
   intro n i h0 h1 hn
   obtain ⟨n,rfl⟩:∃ q,n=q+1:=⟨n-1,by omega⟩
   simp only [gN.l0,gN.b0]
   exact mW (aQ (by omega)) (aX trivial)
  | succ m ih =>
   intro n i h0 h1 hn
   obtain ⟨n,rfl⟩:∃ q,n=q+1:=⟨n-1,by omega⟩
   have hw:aH (i+1)=i+1:=aD (by omega) (by omega)
   simp only [gN.l0,gN.b0,hw]
   refine iu (aP (by omega)) (fq h0 (by omega) ?_)
   rw [rO hk (by omega)]
   have hq:∃ q,Io (w_ dir (t.2.1.getD i.toNat (Ty.z ek)).1)=some q:=by cases w_ dir (t.2.1.getD i.toNat (Ty.z ek)).1 <;> exact ⟨_,rfl⟩
   obtain ⟨q,hq⟩:=hq
   exact ai hq (fq h0 (by omega) (ap (fun _=>aX trivial) (fun _=>ih n (i+1) (by omega) (by omega) (by omega))))
 unfold gN.f gN.t
 exact loop t.2.1.length k 0 (by omega) (by omega) (by omega)
theorem G7 {k:Nat} (hk:2 ^ 50≤k) {t:Ty.d dO} (h:TV t) (key:ByteArray) (b:Int):jg (fA.f k t key b) (fun r=>TV r.1):=by
 have h1:=h.1
 have loop:∀ (m n:Nat) (i:Int),0≤i→i+(m:Int)=(t.2.1.length:Int)→m<n→jg (fA.l0 k n key b i t.1 t.2.1 t.2.2.1 [] [] false t.2.1 t.2.2.1 t.1) (fun r=>TV r.1):=by
  intro m
  induction m with
  | zero =>
   intro n i h0 g1 hn
   obtain ⟨n,rfl⟩:∃ q,n=q+1:=⟨n-1,by omega⟩
   simp only [fA.l0,fA.b0]
   refine mW (aQ (by omega)) (ap (fun _=>aX h) (fun hb=>o8 (by omega) (by decide) (aX ⟨?_,h.2⟩)))
   have hb:=of_decide_eq_false hb
   show (t.2.1++[_]).length≤20
   rw [bN]
   omega
  | succ m ih =>
   intro n i h0 g1 hn
   obtain ⟨n,rfl⟩:∃ q,n=q+1:=⟨n-1,by omega⟩
   have hw:aH (i+1)=i+1:=aD (by omega) (by omega)
   simp only [fA.l0,fA.b0,hw]
   exact iu (aP (by omega)) (fq h0 (by omega) (ap (fun _=>fq h0 (by omega) (ap (fun _=>aX h) (fun _=>aX h))) (fun _=>ih n (i+1) (by omega) (by omega) (by omega))))
 unfold fA.f fA.t
 refine ai (pt k h) (ap (fun _=>aX h) (fun _=>ai (kH k key) (ap (fun _=>aX h) (fun _=>?_))))
 exact loop t.2.1.length k 0 (by omega) (by omega) (by omega)
theorem Dv {k:Nat} (hk:2 ^ 50≤k) {t:Ty.d dO} (h:TV t) (p:Ty.d ch):jg (er.f k t p) (fun r=>TV r.1):=by
 have h2:=h.2
 have hz:(t.2.2.1++[p]).length=t.2.2.1.length+1:=bN ..
 unfold er.f er.t
 refine ai (pt k h) (ap (fun _=>aX h) (fun _=>ai (nt hk _) (ap (fun _=>aX h) (fun _=>o8 (by show t.2.2.1.length+1≤_;omega) (by decide) ?_))))
 refine aj (pb hk (t:=(t.1,(t.2.1,((t.2.2.1++[p]),())))) (by show (t.2.2.1++[p]).length≤1000;omega)) fun r3 q3=>ap (fun _=>ai (pt k h) (aX h)) (fun _=>ap (fun _=>ai (pt k h) (aX h)) (fun hb=>?_))
 have hb:=of_decide_eq_false hb
 refine aX ⟨h.1,?_⟩
 have hb:¬ ((t.2.2.1++[p]).length:Int) > 50:=hb
 show (t.2.2.1++[p]).length≤50
 omega
theorem HF {F:Prop} {k:Nat} (hk:2 ^ 50≤k) {e:Ty.d ck} (h:EV F e) {s:Ty.d ar} (h0:LE.le (α:=Int) 0 s.2.1) (h1:LT.lt (α:=Int) s.2.1 (e.2.2.2.1.length:Int)):jg (eu.f k e s) (fun r=>EV F r.1):=by
 have ht:=Ah h.txn (Int.toNat s.2.1)
 have hdir:=h.dir
 unfold eu.f eu.t
 refine fq h0 h1 (ai (kH k _) (ap (fun _=>aX h) (fun _=>aj (wz hk (by have:=ht.2;omega) _) fun r2 _=>ap (fun _=>ap (fun _=>aX h) (fun _=>aX h)) (fun _=>?_))))
 refine ai (wP hk h.disk.sz (by omega) _) (ap (fun _=>aX h) (fun _=>aj (G7 hk ht _ _) fun r4 q4=>ap (fun _=>aX h) (fun _=>fq h0 h1 (aX (xy h _ q4)))))
theorem Ch {F:Prop} {k:Nat} (hk:2 ^ 50≤k) {e:Ty.d ck} (h:EV F e) {s:Ty.d ar} (h0:LE.le (α:=Int) 0 s.2.1) (h1:LT.lt (α:=Int) s.2.1 (e.2.2.2.1.length:Int)):jg (dD.f k e s) (fun r=>EV F r.1):=by
 have ht:=Ah h.txn (Int.toNat s.2.1)
 have hdir:=h.dir
 have hids:=h.ids
 unfold dD.f dD.t
 refine fq h0 h1 (fq h0 h1 ?_)
 refine aj (Iw hk ht hdir) fun r2 _=>ap (fun _=>aX (xy h _ ⟨Nat.zero_le _,Nat.zero_le _⟩)) (fun _=>?_)
 refine aj (pb hk (by have:=ht.2;omega)) fun r3 q3=>?_
 refine ai (yJ hk h.disk.sz (by omega) (by omega) (by omega)) (aX ?_)
 obtain ⟨c1,c2,c3⟩:=B6 r3.1 h.disk hids hdir
 have hs:=xy h (Int.toNat s.2.1) (t:=(false,([],([],())))) ⟨Nat.zero_le _,Nat.zero_le _⟩
 exact ⟨c2,c3,c1,hs.len,hs.txn,fun up nd=>G1 r3.1 (h.mi up (FI nd)) nd,fun q=>yn zv _ _ (h.fu q)⟩
theorem G5 {k:Nat} (hk:2 ^ 50≤k) {l:aT} (hl:l.length≤268435456):jg (fB.f k l) (fun _=>True):=by
 unfold fB.f fB.t
 refine Dw (P:=fun _=>True) (r:=(l.map (·.1),())) ?_ trivial
 refine (dp (L:=fun n i s=>fB.l0 k n l i s) (R:=fun r s=>some (s++r.map (·.1),())) (Ty.z aB) l (fun i s=>(s.length:Int)=i) (fun n s hs=>?_) (fun n i s x rest h0 h1 hx hr hp ih=>?_) (n:=k) (s:=[]) (by omega) rfl).trans (by rw [List.nil_append])
 · simp (disch:=omega) only [fB.l0,fB.b0,aQ,aL,List.map_nil,List.append_nil]
 · have ih:=ih (s++[x.1]) (by rw [bN];omega)
   simp (disch:=first | omega | decide) only [fB.l0,fB.b0,aP h1,af,aI,hx,br,aD,ih,List.map_cons]
   rw [nQ]
   rfl
theorem AE {F:Prop} {k:Nat} (hk:2 ^ 50≤k) {e:Ty.d ck} (h:EV F e) (s:Ty.d ar):jg (aw.f k e s) (fun r=>EV F r.1):=by
 have hd:=h.disk
 have hdir:=h.dir
 have hids:=h.ids
 have hlen:=h.len
 have hsz:=hd.sz
 have z1:=hsz.l
 have z2:=hsz.u
 have z3:=hsz.n
 unfold aw.f aw.t
 refine ai (Ca hk h) (ap (fun _=>ap (fun _=>aX h) (fun _=>ai (nu hk hsz) (aX (zi hd h.fu)))) (fun _=>ap (fun _=>?_) (fun _=>ap (fun _=>aX h) (fun _=>ap (fun _=>?_) (fun _=>ap (fun _=>?_) (fun _=>ap (fun _=>?_) (fun _=>?_)))))))
 · -- wU
   have hu:=hd.use
   have hc:=hd.cap1
   have used_:kI.f k e.2.2.1=some ((e9 e.2.2.1.1:Int),()):=by
    unfold kI.f kI.t
    rw [ir hk (by omega) (by omega),ae,j9.2 hd]
    simp only [fa,aL]
    rw [pq hk (by omega) (by omega),ae]
   refine ai (ir hk (by omega) (by omega)) (ap (fun _=>aX h) (fun _=>ai used_ (ai (dT k _ _ _) (ap (fun _=>aX h) (fun hb=>ai used_ (aX ?_))))))
   simp only [Bool.not_eq_false',decide_eq_true_eq] at hb
   have hu':LE.le (α:=Int) (e9 e.2.2.1.1:Int) 100000:=Int.le_trans hu hc
   rw [aD (n:=100000-(e9 e.2.2.1.1:Int)) (by omega) (by omega)] at hb
   obtain ⟨N,hN⟩:∃ N:Int,N=s.2.2.2.2.1:=⟨_,rfl⟩
   rw [← hN] at hb ⊢
   rw [aD (n:=(e9 e.2.2.1.1:Int)+N) (by omega) (by omega)]
   exact ⟨hids,hdir,⟨hd.len,by show LE.le (α:=Int) 0 ((e9 e.2.2.1.1:Int)+N);omega,by show LE.le (α:=Int) ((e9 e.2.2.1.1:Int)+N) 100000;omega,hd.fu0,hd.fu1,by show LE.le (α:=Int) (e9 e.2.2.1.1:Int) ((e9 e.2.2.1.1:Int)+N);omega,hd.all,hd.keys⟩,hlen,h.txn,fun up nd=>K2 (h.mi up nd) ⟨hd.len,by show LE.le (α:=Int) 0 ((e9 e.2.2.1.1:Int)+N);omega,by show LE.le (α:=Int) ((e9 e.2.2.1.1:Int)+N) 100000;omega,hd.fu0,hd.fu1,by show LE.le (α:=Int) (e9 e.2.2.1.1:Int) ((e9 e.2.2.1.1:Int)+N);omega,hd.all,hd.keys⟩ rfl,h.fu⟩
 · -- merge
   refine ai (zm hk (st:=e.2.1) (d:=e.2.2.1) hsz (by omega) (by omega)) (aX ?_)
   obtain ⟨c1,c2,c3⟩:=Cq hd hids hdir
   exact ⟨c2,c3,c1,hlen,h.txn,fun up nd=>HQ (h.mi up (HS nd)),fun q=>B5 zv _ (h.fu q)⟩
 · exact aj (G5 hk hdir) fun _ _=>aX h
 · rw [Az (by omega) (by omega) (by decide)]
   exact aX ⟨Nat.zero_le _,Nat.zero_le _,hd,Nat.le_refl _,I6,fun up _=>(by cases up),h.fu⟩
 · refine ai (dT k _ _ _) (ap (fun _=>aX h) (fun hb=>ai (dT k _ _ _) (ap (fun _=>aX h) (fun _=>?_))))
   simp only [Bool.not_eq_false',decide_eq_true_eq] at hb
   rw [aD (n:=(e.2.2.2.1.length:Int)-1) (by omega) (by omega)] at hb
   have i0:LE.le (α:=Int) 0 s.2.1:=hb.1
   have i1:LT.lt (α:=Int) s.2.1 (e.2.2.2.1.length:Int):=by
    have:=hb.2
    exact Int.lt_of_le_of_lt this (by omega)
   have PUT:jg ((cF.f k [(s.2.2.1,((s.1==4),(s.2.2.2.1,())))]).bind fun r15=>(bif (!r15.1) then (some (e,((4,(ByteArray.empty,([],()))),()))) else (bF s.2.1 (List.length e.2.2.2.1:Int)
    ((er.f k (List.getD e.2.2.2.1 (Int.toNat s.2.1) (Ty.z dO)) (s.2.2.1,((s.1==4),(s.2.2.2.1,())))).bind fun r16=>(bif (!r16.2.1) then (some (e,((5,(ByteArray.empty,([],()))),()))) else (bF s.2.1 (List.length e.2.2.2.1:Int)
     (let l17:=(List.set e.2.2.2.1 (Int.toNat s.2.1) r16.1);(some ((e.1,(e.2.1,(e.2.2.1,(l17,())))),((0,(ByteArray.empty,([],()))),()))))))))):aw.Rs) (fun r=>EV F r.1) :=
    ai (nt hk _) (ap (fun _=>aX h) (fun _=>fq i0 i1 (aj (Dv hk (Ah h.txn _) _) fun r16 q16=>ap (fun _=>aX h) (fun _=>fq i0 i1 (aX (xy h _ q16))))))
   have GET:jg ((eu.f k e s).bind fun r13=>(some r13)) (fun r=>EV F r.1):=aj (HF hk h i0 i1) fun r q=>aX q
   have COM:jg ((dD.f k e s).bind fun r13=>(some r13)) (fun r=>EV F r.1):=aj (Ch hk h i0 i1) fun r q=>aX q
   have SET:∀ b:Bool,jg (bF s.2.1 (List.length e.2.2.2.1:Int) (let l11:=(List.set e.2.2.2.1 (Int.toNat s.2.1) (b,([],([],()))));(some ((e.1,(e.2.1,(e.2.2.1,(l11,())))),((0,(ByteArray.empty,([],()))),())))):aw.Rs) (fun r=>EV F r.1):=fun b=>fq i0 i1 (aX (xy h _ ⟨Nat.zero_le _,Nat.zero_le _⟩))
   repeat' first
    | exact PUT
    | exact GET
    | exact COM
    | exact SET _
    | exact aX h
    | refine fq i0 i1 ?_
    | refine ap (fun _=>?_) (fun _=>?_)
theorem EO {F:Prop} {k:Nat} (hk:2 ^ 50≤k) {e:Ty.d ck} (h:EV F e) {l:List (Ty.d ar)} (hl:l.length≤100000):jg (fE.f k e l) (fun r=>EV F r.1.1):=by
 have L1:∀ (m n:Nat) (i:Int) (e:Ty.d ck) (y2:List Int) (y3:aT) (y4:i7) (y5:List (Ty.d dO)) (y6:List (Ty.d dz)) (y7:List (Ty.d sH)) (y8:kw) (y9:Bool) (y10 y11 y12 y13 y14 y15:Int) (y16:Bool) (a:List (Ty.d dz)) (b:List (Ty.d sH)) (c:kw),
  0≤i→i+(m:Int)=(l.length:Int)→m<n→EV F e→(a.length:Int)≤i→(b.length:Int)≤i →
  jg (fE.l1 k n l i y2 y3 y4 y5 y6 y7 y8 y9 y10 y11 y12 y13 y14 y15 y16 e.2.1.1.2.1 e.2.1.2.1 e.2.2.1.1 e.2.2.2.1 a b c e.1 e.2.1.1.1 e.2.1.2.2.1 e.2.1.2.2.2.1 e.2.1.2.2.2.2.1 e.2.2.1.2.1 e.2.2.1.2.2.1 e.2.2.1.2.2.2.1) (fun r=>EV F r.1.1):=by
  intro m
  induction m with
  | zero =>
   intro n i e y2 y3 y4 y5 y6 y7 y8 y9 y10 y11 y12 y13 y14 y15 y16 a b c h0 h1 hn he ha hb
   obtain ⟨n,rfl⟩:∃ q,n=q+1:=⟨n-1,by omega⟩
   simp only [fE.l1,fE.b1]
   exact mW (aQ (by omega)) (aX he)
  | succ m ih =>
   intro n i e y2 y3 y4 y5 y6 y7 y8 y9 y10 y11 y12 y13 y14 y15 y16 a b c h0 h1 hn he ha hb
   obtain ⟨n,rfl⟩:∃ q,n=q+1:=⟨n-1,by omega⟩
   have hw:aH (i+1)=i+1:=aD (by omega) (by omega)
   have hlen:=he.len
   simp only [fE.l1,fE.b1,hw]
   refine iu (aP (by omega)) (ap (fun _=>?_) (fun _=>aX he))
   refine fq h0 (by omega) ?_
   have NEXT:∀ (e':Ty.d ck) (a':List (Ty.d dz)) (b':List (Ty.d sH)),EV F e'→(a'.length:Int)≤i+1→(b'.length:Int)≤i+1 →
    jg (fE.l1 k n l (i+1) y2 y3 y4 y5 y6 y7 y8 y9 y10 y11 y12 y13 y14 y15 y16 e'.2.1.1.2.1 e'.2.1.2.1 e'.2.2.1.1 e'.2.2.2.1 a' b' c e'.1 e'.2.1.1.1 e'.2.1.2.2.1 e'.2.1.2.2.2.1 e'.2.1.2.2.2.2.1 e'.2.2.1.2.1 e'.2.2.1.2.2.1 e'.2.2.1.2.2.2.1) (fun r=>EV F r.1.1) :=
    fun e' a' b' q1 q2 q3=>ih n (i+1) e' y2 y3 y4 y5 y6 y7 y8 y9 y10 y11 y12 y13 y14 y15 y16 a' b' c (by omega) (by omega) (by omega) q1 q2 q3
   have STEP:=AE hk (e:=(e.1,(((e.2.1.1.1,(e.2.1.1.2.1,())),(e.2.1.2.1,(e.2.1.2.2.1,(e.2.1.2.2.2.1,(e.2.1.2.2.2.2.1,()))))),((e.2.2.1.1,(e.2.2.1.2.1,(e.2.2.1.2.2.1,(e.2.2.1.2.2.2.1,())))),(e.2.2.2.1,()))))) he (List.getD l (Int.toNat i) (Ty.z ar))
   have la:∀ x:Ty.d dz,((a++[x]).length:Int)≤i+1:=fun x=>by rw [bN];omega
   have lb:∀ x:Ty.d sH,((b++[x]).length:Int)≤i+1:=fun x=>by rw [bN];omega
   repeat' first
    | exact NEXT _ _ _ (by assumption) (la _) (lb _)
    | exact NEXT _ _ _ (by assumption) (la _) (by omega)
    | exact aX (by assumption)
    | refine aj STEP fun _ _=>?_
    | refine o8 (by omega) (by decide) ?_
    | refine ai (dT k _ _ _) (ap (fun hq=>?_) (fun _=>?_))
    | refine fq (by have hq':=of_decide_eq_true hq;exact hq'.1) (by have hq':=of_decide_eq_true hq;rw [aD (by omega) (by omega)] at hq';exact Int.lt_of_le_of_lt hq'.2 (by omega)) ?_
    | refine aj (pb hk (by have:=(Ah he.txn (Int.toNat (List.getD l (Int.toNat i) (Ty.z ar)).2.1)).2;omega)) fun _ _=>?_
    | refine ap (fun _=>?_) (fun _=>?_)
 unfold fE.f fE.t
 refine ai (Ca hk h) ?_
 obtain ⟨n,hn⟩:∃ q,k=q+1:=⟨k-1,by omega⟩
 rw [show fE.l0 k k=fE.l0 k (n+1) by rw [← hn]]
 have same:∀ (a:List (Ty.d dz)),fE.l0 k (n+1)=fE.l1 k (n+1):=fun _=>rfl
 rw [same []]
 exact L1 l.length (n+1) 0 e [] [] [] [] [] [] [] false 0 0 0 0 0 0 false [] [] [] (by omega) (by omega) (by omega) h (by decide) (by decide)
theorem vO (k:Nat) {c:lX} (h:CI c) {n:Int} (h0:0<n) (h1:n≤256):jg (aa.f k c n) (fun r=>CI r.1):=oe (lA k h h0 h1) fun _ q=>q.1
theorem KM {k:Nat} (hk:2 ^ 50≤k) {c:lX} (h:CI c) {m:Int} (h0:0≤m) (h1:m≤200):jg (eY.f k c m) (fun r=>CI r.1):=oe (Gp hk h h0 h1) fun _ q=>q.1
theorem Kq (k:Nat) {c:lX} (h:CI c) {l:List ByteArray} (h0:0<l.length) (h1:l.length≤256):jg (cM.f k c l) (fun r=>CI r.1):=oe (Co k h h0 h1) fun _ q=>q.1
theorem qy (k:Nat) {c:lX} (h:CI c) {l:List Int} (h0:0<l.length) (h1:l.length≤256):jg (aM.f k c l) (fun r=>CI r.1):=oe (CC k h h0 h1) fun _ q=>q.1
theorem Er {α:Type} {P:α→Prop} {b:Nat} {n:Int} {x:Option α} (h0:0≤n) (h1:n≤1099511627776) (hb:b≤128) (h:jg x P):jg (vP b n x) P:=by rw [Az h0 h1 hb];exact h
theorem Fv {k:Nat} (hk:2 ^ 50≤k) {c:lX} (h:CI c):jg (ik.f k c) (fun r=>CI r.1):=by
 unfold ik.f ik.t
 repeat' first
  | exact aX (by assumption)
  | refine aj (vO k (by assumption) (by omega) (by omega)) fun _ _=>?_
  | refine aj (IP k (by assumption)) fun _ _=>?_
  | refine aj (KM hk (by assumption) (by omega) (by omega)) fun _ _=>?_
  | refine aj (qy k (by assumption) (by decide) (by decide)) fun _ _=>?_
  | refine aj (Kq k (by assumption) (by decide) (by decide)) fun _ _=>?_
  | refine ap (fun _=>?_) (fun _=>?_)
theorem Fs {k:Nat} (hk:2 ^ 50≤k):∀ (m n:Nat) (c:lX) (out:List (Ty.d ar)) (rows:List Bool),m<n→CI c→out.length+2*m≤1000→rows.length=3 →
 jg (e7.l0 k n (m:Int) c.1 c.2.1 c.2.2.1 out rows) (fun r=>CI r.1∧r.2.1.length≤1000):=by
 intro m
 induction m with
 | zero =>
  intro n c out rows hn hc ho hr
  obtain ⟨n,rfl⟩:∃ q,n=q+1:=⟨n-1,by omega⟩
  simp only [e7.l0,e7.b0]
  exact mW (aQ (by omega)) (aX ⟨hc,by show out.length≤1000;omega⟩)
 | succ m ih =>
  intro n c out rows hn hc ho hr
  obtain ⟨n,rfl⟩:∃ q,n=q+1:=⟨n-1,by omega⟩
  have hw:aH (((m+1:Nat):Int)-1)=(m:Int):=by rw [aD (by omega) (by omega)];omega
  simp only [e7.l0,e7.b0,hw]
  refine iu (aP (by omega)) (aj (Fv hk hc) fun r2 q2=>?_)
  repeat' first
   | exact ih n _ _ _ (by omega) (by assumption) (by simp only [uo,List.length_singleton];omega) (by first | exact hr | rfl | (simp only [List.length_set];exact hr))
   | refine aj (si k (by assumption) (by omega) (by omega)) fun _ _=>?_
   | refine o8 (by first | omega | (simp only [uo,List.length_singleton];omega)) (by decide) ?_
   | refine Er (by omega) (by omega) (by decide) ?_
   | refine ai (dT k _ _ _) (ap (fun hq=>?_) (fun _=>?_))
   | refine fq (by have hq':=of_decide_eq_true hq;exact hq'.1) (by have hq':=of_decide_eq_true hq;exact Int.lt_of_le_of_lt hq'.2 (by rw [hr];decide)) ?_
   | refine ap (fun _=>?_) (fun _=>?_)
theorem DO {k:Nat} (hk:2 ^ 50≤k) {c:lX} (h:CI c):jg (e7.f k c 40) (fun r=>CI r.1∧r.2.1.length≤1000):=by
 unfold e7.f e7.t
 rw [show aH (40+1)=41 from by decide]
 refine Er (by omega) (by omega) (by decide) (aj (lA k h (by omega) (by omega)) fun r q=>?_)
 obtain ⟨hc,a,b⟩:=q
 have:=Fs hk r.2.1.toNat k r.1 [] (List.replicate (Int.toNat 3) (Ty.z .bool)) (by omega) hc (by simp only [List.length_nil];omega) rfl
 rw [show ((r.2.1.toNat:Nat):Int)=r.2.1 by omega] at this
 exact this
theorem uM {k:Nat} (hk:2 ^ 50≤k) {c:lX} (h:CI c):jg (fX.f k c 40) (fun r=>CI r.1∧r.2.1.2.2.1.length≤1001):=by
 unfold fX.f fX.t
 refine aj (DO hk h) fun r1 q1=>?_
 obtain ⟨c1,z1⟩:=q1
 refine aj (lA k c1 (by omega) (by omega)) fun r2 q2=>ap (fun _=>?_) (fun _=>ap (fun _=>?_) (fun _=>aX ⟨q2.1,by show r1.2.1.length≤1001;omega⟩))
 · exact aj (rY k q2.1 (by omega)) fun r3 q3=>aX ⟨q3.1,by show r1.2.1.length≤1001;omega⟩
 · rw [aD (n:=(r1.2.1.length:Int)+1) (by omega) (by omega)]
   refine aj (rY k q2.1 (by omega)) fun r4 q4=>?_
   obtain ⟨c4,a4,b4⟩:=q4
   have e1:(List.take (Int.toNat r4.2.1) r1.2.1).length≤1000:=by rw [List.length_take];omega
   have e2:(List.take (Int.toNat r4.2.1) r1.2.1).length+(List.drop (Int.toNat r4.2.1) r1.2.1).length=r1.2.1.length:=by rw [← uo,List.take_append_drop]
   refine qp a4 (by omega) (o8 (by omega) (by decide) (aj (vO k c4 (by omega) (by omega)) fun r5 q5=>?_))
   simp only [List.nil_append]
   refine o8 (by omega) (by decide) (qp a4 (by omega) (o8 (by rw [bN];omega) (by decide) (aX ⟨q5,?_⟩)))
   show ((_++[_])++_).length≤1001
   rw [uo,bN]
   omega
theorem AW {st:Ty.d aE} {d:Ty.d aA} (hd:DR d) (f:ft) (hi:st.1.2.1.length≤60):PB (iX st d f).2.1 100000∧(iX st d f).2.1.length≤60:=by
 have hu:=hd.use
 have hc:=hd.cap1
 have h:LE.le (α:=Int) (e9 d.1:Int) 100000:=Int.le_trans hu hc
 unfold iX
 cases cS st d with
 | false=>exact ⟨fun x hx=>(by cases hx),Nat.zero_le _⟩
 | true =>
  simp only [fa,aL]
  refine ⟨fun x hx=>?_,by rw [List.length_map];exact hi⟩
  obtain ⟨i,_,e⟩:=List.mem_map.1 hx
  have hs:=fc d (a_ aF i)
  rw [← e]
  have:=zr (aR d (a_ aF i)).1
  have hs2:(aR d (a_ aF i)).1.size≤100000:=by omega
  unfold jP
  cases oq (aR d (a_ aF i)).1 (gH f i) with
  | true=>exact Nat.le_trans (this _ _) hs2
  | false=>exact hs2
structure FV (st:Ty.d aE) (d:Ty.d aA) (f:Ty.d aV):Prop where
 ids:st.1.2.1.length≤60
 disk:DR d
 len:f.2.1.length≤60
 txt:FB f.2.1 100001
theorem KO {l:ft} {B:Nat} (h:FB l B) {i:Nat} {x:Ty.d bU} (hx:x.2.1.size≤B):FB (l.set i x) B:=fun p hp=>by
 rcases List.mem_or_eq_of_mem_set hp with q | q
 · exact h p q
 · rw [q];exact hx
theorem Fe {k:Nat} (hk:2 ^ 50≤k) {c:lX} (h:CI c):jg (iv.f k c) (fun r=>CI r.1∧FV r.2.1 r.2.2.1 r.2.2.2.1):=by
 unfold iv.f iv.t
 have hnew:=EQ (n:=20000) (by omega) (by omega)
 refine ai (uG k (by omega) (by omega)) ?_
 refine ai (nu hk (d:=Kc 20000) hnew.sz) ?_
 refine aj (uM hk h) fun r3 q3=>?_
 obtain ⟨c3,z3⟩:=q3
 rw [aD (n:=(r3.2.1.2.2.1.length:Int)+1) (by omega) (by omega)]
 refine aj (rY k c3 (by omega)) fun r4 q4=>?_
 obtain ⟨c4,a4,b4⟩:=q4
 have e1:(List.take (Int.toNat r4.2.1) r3.2.1.2.2.1).length≤100000:=by rw [List.length_take];omega
 have e2:(List.drop (Int.toNat r4.2.1) r3.2.1.2.2.1).length≤100000:=by rw [List.length_drop];omega
 refine qp a4 (by omega) (aj (EO hk (zi (F:=False) hnew fun q=>q.elim) e1) fun r5 q5=>ap (fun _=>?_) (fun _=>?_))
 · have hsh:=C5 hk (st:=r5.1.1.2.1) (d:=r5.1.1.2.2.1) (f:=(0,([],()))) q5.disk.sz (by show 0≤1099511627775;omega) (fun p hp=>by cases hp)
   obtain ⟨p1,p2⟩:=AW (st:=r5.1.1.2.1) q5.disk ([]:ft) q5.ids
   refine ai hsh ?_
   refine ai (wF hk (f:=(0,([],()))) (p:=iX r5.1.1.2.1 r5.1.1.2.2.1 []) (B:=0) (B':=100000) (by show 0≤1000000;omega) (by omega) (fun x hx=>by cases hx) p1 (by omega) (by omega)) ?_
   obtain ⟨g1,g2⟩:=EC (f:=(0,([],()))) (p:=iX r5.1.1.2.1 r5.1.1.2.2.1 []) (B:=0) (B':=100000) (m:=60) (fun x hx=>by cases hx) p1 (Nat.zero_le _) p2
   have g1:FB (n_ (0,([],())) (iX r5.1.1.2.1 r5.1.1.2.2.1 [])).1.2.1 100001:=fun x hx=>Nat.le_trans (g1 x hx) (by omega)
   have g1':FB (n_ (0,([],())) (iX r5.1.1.2.1 r5.1.1.2.2.1 [])).1.2.1 100000:=fun x hx=>by
    obtain ⟨w,_⟩:=EC (f:=(0,([],()))) (p:=iX r5.1.1.2.1 r5.1.1.2.2.1 []) (B:=0) (B':=100000) (m:=60) (fun x hx=>by cases hx) p1 (Nat.zero_le _) p2
    exact Nat.le_trans (w x hx) (by omega)
   generalize n_ (0,([],())) (iX r5.1.1.2.1 r5.1.1.2.2.1 [])=r7 at g1 g1' g2 ⊢
   refine qp a4 (by omega) (aj (EO hk q5 e2) fun r8 q8=>?_)
   refine ap (fun hb=>aj (si k c4 (by omega) (by omega)) fun r9 q9=>ap (fun _=>?_) (fun _=>aX ⟨q9,q8.ids,q8.disk,g2,g1⟩)) (fun _=>aX ⟨c4,q8.ids,q8.disk,g2,g1⟩)
   have hb:=of_decide_eq_true hb
   have hm:List.getD r7.1.2.1 0 (Ty.z bU) ∈ r7.1.2.1:=gl (by omega)
   have hz:=g1' _ hm
   have hy:(⟨#[120]⟩:ByteArray).size=1:=rfl
   refine fq (by omega) hb (IU (by omega) (fq (by omega) hb (aX ⟨q9,q8.ids,q8.disk,?_,?_⟩)))
   · show (List.set _ _ _).length≤60
     rw [List.length_set]
     exact g2
   · refine KO g1 ?_
     show (_++_:ByteArray).size≤100001
     rw [ByteArray.size_append]
     omega
 · refine qp a4 (by omega) (aj (EO hk q5 e2) fun r8 q8=>aX ⟨c4,q8.ids,q8.disk,Nat.zero_le _,fun x hx=>(by cases hx)⟩)
theorem ux {k:Nat} (hk:2 ^ 50≤k) {l:i7} (hl:l.length≤268435456):dF.f k l l=some (true,()):=by
 unfold dF.f dF.t
 rw [bne_self_eq_false,aL]
 refine dp (L:=fun n i (_:Unit)=>dF.l0 k n l l i) (R:=fun r _=>some (true,())) (Ty.z aK) l (fun _ _=>True) (fun n _ _=>?_) (fun n i _ x rest h0 h1 hx hr hp ih=>?_) (n:=k) (s:=()) (by omega) trivial
 · simp only [dF.l0,dF.b0]
   rw [aQ (by omega),aL]
 · simp only [dF.l0,dF.b0]
   rw [aP h1,af]
   repeat rw [aI h0 h1]
   rw [hx,aD (n:=i+1) (by omega) (by omega),bT,bT,beq_self_eq_true]
   exact ih () trivial
theorem Hg {B:Nat}:∀ {l:ft},FB l B→Gi l≤l.length*B
 | [],_=>Nat.zero_le _
 | p::l,h=>by
  have h1:=h p jo
  have h2:=Hg (l:=l) fun q hq=>h q (lV _ hq)
  have e:Gi (p::l)=p.2.1.size+Gi l:=by unfold Gi;rw [List.map_cons,List.sum_cons]
  rw [kU,Nat.succ_mul,e]
  omega
def FS (f:Ty.d aV):Prop:=f.2.1.length≤60∧FB f.2.1 100001
theorem DV (n:Int):FS (n,([],())):=⟨Nat.zero_le _,fun p hp=>by cases hp⟩
theorem tL {k:Nat} (hk:2 ^ 50≤k) {st:Ty.d aE} {d:Ty.d aA} (h:MI st d) {f:Ty.d aV} (hf:FS f):eC.f k st d f=some (iX st d f.2.1,()):=by
 obtain ⟨hs,_⟩:=h.store
 obtain ⟨g1,g2,_⟩:=eT hs
 have hd:DR d:=g1.disk
 have h60:st.1.2.1.length≤60:=(bV (nx:=st.1.1) (ids:=st.1.2.1) g1.live).2.2.2.1
 obtain ⟨f1,f2⟩:=hf
 exact ub hk hd.sz (by omega) (by omega) (by omega) fun p hp=>Nat.le_trans (f2 p hp) (by omega)
theorem Ef {k:Nat} (hk:2 ^ 50≤k) {st:Ty.d aE} {d:Ty.d aA} (h:MI st d) {f:Ty.d aV} (hf:FS f):dj.f k f (iX st d f.2.1)=some ((st.1.1,(jf st d,())),(true,())):=by
 obtain ⟨hs,_⟩:=h.store
 obtain ⟨g1,g2,_⟩:=eT hs
 have hd:DR d:=g1.disk
 have h60:st.1.2.1.length≤60:=(bV (nx:=st.1.1) (ids:=st.1.2.1) g1.live).2.2.2.1
 obtain ⟨f1,f2⟩:=hf
 obtain ⟨p1,p2⟩:=AW (st:=st) hd f.2.1 h60
 rw [wu hk (B:=100001) (B':=100000) (by omega) (by omega) f2 p1 (by omega) (by omega),Fj hs]
theorem JG {st:Ty.d aE} {d:Ty.d aA} (h:MI st d) (n:Int):FS (n,(jf st d,())):=by
 obtain ⟨c1,c2⟩:=Ed h.store.1
 exact ⟨c1,fun p hp=>Nat.le_trans (c2 p hp) (by omega)⟩
theorem G9 {k:Nat} (hk:2 ^ 50≤k) {st:Ty.d aE} {d:Ty.d aA} (h:MI st d) (n:Int):bd.f k (n,(jf st d,()))=some ((gp st.2.1 d).1,(true,())):=by
 obtain ⟨c1,c2⟩:=Ed h.store.1
 have ht:=Hg c2
 have:(jf st d).length*100000≤60*100000:=Nat.mul_le_mul_right _ c1
 have e:=yM hk (n,(jf st d,())) (by show (jf st d).length≤_;omega) (by show Gi (jf st d)≤_;omega)
 rw [e]
 show some ((p5 (jf st d)).1,((p5 (jf st d)).2,()))=_
 rw [CH h]
theorem wh {k:Nat} (hk:2 ^ 50≤k) {st:Ty.d aE} {d:Ty.d aA} (h:cS st d=true) (f:ft):bA.f k (iX st d f)=some (ID (iX st d f).2.1,()):=by
 obtain ⟨g1,_,_⟩:=eT h
 have hd:DR d:=g1.disk
 have h60:st.1.2.1.length≤60:=(bV (nx:=st.1.1) (ids:=st.1.2.1) g1.live).2.2.2.1
 obtain ⟨_,p2⟩:=AW (st:=st) hd f h60
 exact rI hk (by omega)
theorem Ge {k:Nat} (hk:2 ^ 50≤k) {st:Ty.d aE} {d:Ty.d aA} (h:MI st d):gB.f k st d=some ((gp st.2.1 d).1,((gp st.2.1 d).2,()))∧(gp st.2.1 d).2=0∧dF.f k (gp st.2.1 d).1 (gp st.2.1 d).1=some (true,()):=by
 obtain ⟨hs,_⟩:=h.store
 obtain ⟨g1,g2,_⟩:=eT hs
 have hd:DR d:=g1.disk
 have hz:=ob st.2.1 d
 exact ⟨uu hk hd.sz (by omega),by rw [vd hs],ux hk (by omega)⟩
theorem Dr {k:Nat} (hk:2 ^ 50≤k) {code:List Int} (hl:code.length≤1048576):jg (iB.f k code) (fun r=>r.1.2.2.1.length≤100000):=by
 unfold iB.f iB.t
 refine aj (FF hk hl) fun r1 q1=>?_
 refine aj (uM hk q1) fun r2 q2=>?_
 obtain ⟨c2,z2⟩:=q2
 have hz:r2.2.1.2.2.1.length≤100000:=by omega
 refine aj (vO k c2 (by omega) (by omega)) fun r3 c3=>?_
 have A:∀ (cap fu:Int) (c:lX),CI c→jg ((bp.f k c 20).bind fun r5=>(bif r5.2.1 then ((aM.f k r5.1 [(-1),100001,0,9]).bind fun r6=>(some ((r6.2.1,(fu,r2.2.1.2.2)),()))) else (some ((cap,(fu,r2.2.1.2.2)),())))) (fun r:Ty.d kh × Unit=>r.1.2.2.1.length≤100000):=fun cap fu c hc =>
  aj (si k hc (by omega) (by omega)) fun r5 c5=>ap (fun _=>aj (qy k c5 (by decide) (by decide)) fun r6 _=>aX hz) (fun _=>aX hz)
 have B:jg ((aa.f k r3.1 60).bind fun r4=>((bp.f k r4.1 20).bind fun r5=>(bif r5.2.1 then ((aM.f k r5.1 [(-1),100001,0,9]).bind fun r6=>(some ((r6.2.1,(r4.2.1,r2.2.1.2.2)),()))) else (some ((r2.2.1.1,(r4.2.1,r2.2.1.2.2)),()))))) (fun r:Ty.d kh × Unit=>r.1.2.2.1.length≤100000) :=
  aj (vO k c3 (by omega) (by omega)) fun r4 c4=>A _ _ _ c4
 have C:jg ((aM.f k r3.1 [(-2),(-1),0,100001]).bind fun r4=>((bp.f k r4.1 20).bind fun r5=>(bif r5.2.1 then ((aM.f k r5.1 [(-1),100001,0,9]).bind fun r6=>(some ((r6.2.1,(r4.2.1,r2.2.1.2.2)),()))) else (some ((r2.2.1.1,(r4.2.1,r2.2.1.2.2)),()))))) (fun r:Ty.d kh × Unit=>r.1.2.2.1.length≤100000) :=
  aj (qy k c3 (by decide) (by decide)) fun r4 c4=>A _ _ _ c4
 have D:jg ((bp.f k r3.1 20).bind fun r10=>(bif r10.2.1 then ((aM.f k r10.1 [(-1),100001,0,9]).bind fun r11=>(some ((r11.2.1,r2.2.1.2),()))) else (some r2.2))) (fun r:Ty.d kh × Unit=>r.1.2.2.1.length≤100000) :=
  aj (si k c3 (by omega) (by omega)) fun r5 c5=>ap (fun _=>aj (qy k c5 (by decide) (by decide)) fun r6 _=>aX hz) (fun _=>aX hz)
 exact ap (fun _=>ap (fun _=>B) (fun _=>ap (fun _=>C) (fun _=>D))) (fun _=>ap (fun _=>B) (fun _=>ap (fun _=>C) (fun _=>D)))
theorem KR {k:Nat} (hk:2 ^ 50≤k) {s:Ty.d kh} (hs:s.2.2.1.length≤100000):jg (kz.f k s) (fun r=>xd r.1.1.2.2.1∧(r.1.1.1=true→EV False r.1.1)):=by
 have zs:xd (([],(0,(0,(false,())))):Ty.d aA):=⟨Nat.zero_le _,Nat.zero_le _,Nat.zero_le _⟩
 unfold kz.f kz.t
 refine ai (dT k _ _ _) (ap (fun _=>aX ⟨zs,fun h=>by cases h⟩) fun c1=>?_)
 refine ai (dT k _ _ _) (ap (fun _=>aX ⟨zs,fun h=>by cases h⟩) fun c2=>?_)
 simp only [Bool.not_eq_false',decide_eq_true_eq] at c1 c2
 obtain ⟨N,hN⟩:∃ N:Int,N=s.1:=⟨_,rfl⟩
 obtain ⟨U,hU⟩:∃ U:Int,U=s.2.1:=⟨_,rfl⟩
 rw [← hN] at c1 ⊢
 rw [← hU] at c2 ⊢
 have hnew:=EQ (n:=N) c1.1 c1.2
 have hz:=hnew.sz
 have z1:=hz.l
 have z2:=hz.u
 have z3:=hz.n
 refine ai (uG k c1.1 c1.2) ?_
 have hD:DR (([],(N,(U,(false,())))):Ty.d aA):=⟨hnew.len,hnew.cap0,hnew.cap1,c2.1,c2.2,hnew.use,hnew.all,hnew.keys⟩
 have ew:i8.f k (Kc N) U=some (([],(N,(U,(false,())))),()):=by
  unfold i8.f i8.t
  rw [im k hz,ae,ir hk (by omega) (by omega),ae,j9.2 hnew,af,dT,ae,aP c2]
  rfl
 refine ai ew ?_
 refine ai (nu hk (d:=([],(N,(U,(false,()))))) hD.sz) ?_
 have he:EV False (HD (k8 (([],(N,(U,(false,())))):Ty.d aA))):=zi hD fun q=>q.elim
 refine ap (fun _=>aX ⟨he.disk.sz,fun _=>he⟩) fun _=>?_
 exact aj (EO hk he hs) fun r q=>aX ⟨q.disk.sz,fun _=>q⟩
theorem tZ {k:Nat} (hk:2 ^ 50≤k) {d:Ty.d aA} (hd:xd d):jg ((eC.f k ((0,([],())),([],(0,(0,(0,()))))) d (0,([],()))).bind fun r4=>((bA.f k r4.1).bind fun r5=>(some ((r5.1==0),())))) (fun r:Bool × Unit=>r=(true,())):=by
 refine ai (ub hk (st:=((0,([],())),([],(0,(0,(0,())))))) (d:=d) (f:=(0,([],()))) hd (Nat.zero_le _) (Nat.zero_le _) (Nat.zero_le _) fun p hp=>(by cases hp)) ?_
 have hn:cS ((0,([],())),([],(0,(0,(0,()))))) d=false:=by
  unfold cS
  rw [show cH ((0,([],())):Ty.d cZ)=false by decide]
  cases gg d <;> rfl
 have e:iX ((0,([],())),([],(0,(0,(0,()))))) d []=(0,([],())):=by
  unfold iX
  rw [hn]
  rfl
 rw [show (((0,([],())):Ty.d aV).2.1)=[] from rfl,e]
 exact ai (rI hk (p:=(0,([],()))) (Nat.zero_le _)) (aX rfl)
theorem C0 {k:Nat} (hk:2 ^ 50≤k) (code:List Int):fW.f k code=some (true,()):=by
 refine KB ?_
 unfold fW.f fW.t
 have hbig:oZ.f k code=some (decide ((code.length:Int) > 1048576),()):=rfl
 refine ai hbig ?_
 refine ap (fun _=>aX rfl) fun hb=>?_
 have hl:code.length≤1048576:=by have:=of_decide_eq_false hb;omega
 refine aj (Dr hk hl) fun r2 q2=>?_
 refine aj (KR hk q2) fun r3 q3=>?_
 obtain ⟨hz,hev⟩:=q3
 refine ap (fun _=>tZ hk hz) fun up=>?_
 have up:r3.1.1.1=true:=by simpa using up
 have he:=hev up
 refine ai (ma hk (st:=r3.1.1.2.1) (d:=r3.1.1.2.2.1) hz) ?_
 refine ap (fun _=>tZ hk hz) fun _=>?_
 refine ap (fun _=>tZ hk hz) fun nd=>?_
 have hmi:MI r3.1.1.2.1 r3.1.1.2.2.1:=he.mi up nd
 unfold j2.f j2.t
 refine aj (P:=fun r:Ty.d aE × Ty.d aA × Ty.d aV × Unit=>FS r.2.2.1) ?_ fun r11 q11=>?_
 · refine aj (FF hk hl) fun r1 q1=>?_
   exact aj (Fe hk q1) fun r q=>aX ⟨q.2.len,q.2.txt⟩
 generalize r3.1.1.2.1=st at hmi ⊢
 generalize r3.1.1.2.2.1=d at hmi ⊢
 have hs:=hmi.store.1
 obtain ⟨d1,d2,d3⟩:=Ge hk hmi
 have hc:=JG hmi st.1.1
 have c1:(jf st d).length≤60:=hc.1
 obtain ⟨a1,a2⟩:=Dy hs
 obtain ⟨p1,p2,p3⟩:=II hs r11.2.2.1.2.1
 refine ai (tL hk hmi q11) ?_
 refine ai (Ef hk hmi q11) ?_
 refine ai (G9 hk hmi _) ?_
 refine ai d1 ?_
 refine ai (tL hk hmi hc) ?_
 refine ai (tL hk hmi (DV 0)) ?_
 refine ai (Ef hk hmi (DV 0)) ?_
 refine iu rfl (iu rfl (iu rfl (iu (by rw [d2];rfl) ?_)))
 refine ai d3 (iu rfl ?_)
 refine ai (wh hk hs (jf st d)) (iu (by rw [a1];rfl) ?_)
 refine iu (by show (((iX st d (jf st d)).2.1.length:Int)==(st.1.2.1.length:Int))=true;rw [a2];exact beq_self_eq_true _) ?_
 refine ai (DJ hk (f:=(st.1.1,(jf st d,()))) (by show (jf st d).length≤_;omega)) (iu rfl ?_)
 refine ai (wh hk hs r11.2.2.1.2.1) ?_
 refine ai (tL hk hmi (DV 0)) ?_
 refine ai (wh hk hs []) ?_
 exact aX (by show (decide (ID _≤ID _),())=(true,());rw [aP p2])
theorem fnFollows_pure:∀ x,Wf (tup [.slice (.int .u8)]) x→∃ k r,fW.f k x.1=some r∧n8 (B:=[.bool]) (gC ([.val (.slice (.int .u8))])) r=(true,()):=by
 rintro ⟨a0,_⟩ ⟨f0,_⟩
 suffices Ev (fun k=>fW.f k a0) (true,()) by
  obtain ⟨k,h⟩:=this.some
  exact ⟨k,(true,()),h,rfl⟩
 exact KQ fun k hk=>C0 hk a0
end Go.Proofs.YthjppgafienaoabGreatDoor.G

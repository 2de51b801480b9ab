/- Plain laws, merged; what is proved here is told ahead of each part. -/
import Derived.Test.YthjppgafienaoaaGreatDoorZN2
set_option linter.unusedVariables false
set_option linter.unusedSimpArgs false
namespace Go.Proofs.YthjppgafienaoaaGreatDoor.G
open Go.V
structure BT (st:Ty.d aF) (d:Ty.d aB):Prop where
 live:dL st.1=true
 disk:DR d
 full:∀ x ∈ st.1.2.1,∃ t,fT d (aA aH x)=some t∧FL t
 tail:∀ t,fT d (dE st)=some t→st.2.2.2.1=(t.size:Int)
theorem si {d:Ty.d aB} (hd:DR d) (s:ByteArray):(ah d s).2=(fT d s).isSome:=by
 rw [mE hd]
 unfold fT
 cases bw d.1 s <;> rfl
theorem uS {d:Ty.d aB} (hd:DR d) {tail:Int}:∀ {l:List Int},nJ d tail l=true↔((∀ x ∈ l,∃ t,fT d (aA aH x)=some t∧FL t)∧(l≠[]→∀ t,fT d (aA aH (af l))=some t→tail=(t.size:Int)))
 | []=>⟨fun _=>⟨fun x hx=>(by cases hx),fun h=>absurd rfl h⟩,fun _=>rfl⟩
 | x::l=>by
  have ih:=uS hd (tail:=tail) (l:=l)
  have hl:l≠[]→af (x::l)=af l:=fun h=>by
   unfold af
   cases l with
   | nil=>exact absurd rfl h
   | cons y r=>simp [List.getD]
  unfold nJ EN
  simp only [iI]
  rw [ih,si hd,kv hd]
  constructor
  · rintro ⟨⟨h1,h2,h3⟩,h4,h5⟩
    obtain ⟨t,ht⟩:=Option.isSome_iff_exists.1 h1
    rw [ht] at h2 h3
    simp only [Option.getD_some,decide_eq_true_eq] at h2
    refine ⟨fun y hy=>?_,fun _ u hu=>?_⟩
    · rcases List.mem_cons.1 hy with e | e
      · rw [e];exact ⟨t,ht,Gy h2⟩
      · exact h4 y e
    · by_cases c:l=[]
      · subst c
        have e:af [x]=x:=rfl
        rw [e,ht] at hu
        have hu:=Option.some.inj hu
        rw [← hu]
        simp only [List.isEmpty_nil,fC,Bool.false_or,Option.getD_some] at h3
        exact Jq h3
      · rw [hl c] at hu
        exact h5 c u hu
  · rintro ⟨h1,h2⟩
    obtain ⟨t,ht,hf⟩:=h1 x li
    rw [ht]
    simp only [Option.isSome_some,Option.getD_some,decide_eq_true_eq]
    refine ⟨⟨by trivial,Hm hf,?_⟩,fun y hy=>h1 y (nX _ hy),fun c u hu=>h2 (by simp) u (by rw [hl c];exact hu)⟩
    cases l with
    | nil =>
     have:=h2 (by simp) t (by rw [show af [x]=x from rfl];exact ht)
     rw [this]
     simp
    | cons y r=>rfl
theorem Jf {st:Ty.d aF} {d:Ty.d aB} (h:eN st d=true):BT st d:=by
 obtain ⟨g1,g2,g3⟩:=kH h
 unfold eN at h
 simp only [iI] at h
 obtain ⟨_,_,k1,_,_⟩:=cX (nx:=st.1.1) (ids:=st.1.2.1) g1.live
 obtain ⟨q1,q2⟩:=(uS g1.disk).1 h.2.2.2.2.1
 exact ⟨g1.live,g1.disk,q1,q2 (by intro e;rw [e] at k1;simp at k1)⟩
def PK (d:Ty.d aB) (p:Ty.d aC):Prop:=eR d (fj p)=(gE p,true)
def PE (p:Ty.d aC):Prop:=(LE.le (α:=Int) 1 p.1∧LE.le (α:=Int) p.1 100000)∧LE.le (α:=Int) 0 p.2.1∧LE.le (α:=Int) 1 p.2.2.1∧LE.le (α:=Int) p.2.2.1 210
theorem Ib {st:Ty.d aF} {d:Ty.d aB} (h:BT st d) {r:Ty.d bA} (hr:cF r=true) (z:(kZ st d r).1.2.2=0):BT (kZ st d r).1.1 (kZ st d r).1.2.1∧PK (kZ st d r).1.2.1 (kZ st d r).2∧PE (kZ st d r).2:=by
 obtain ⟨b1,b2⟩:=Gg h.live
 obtain ⟨n1,n2,n3,n4⟩:=j6 (n:=st.1.1) (ids:=st.1.2.1) h.live
 obtain ⟨_,_,g1,_,_⟩:=cX (nx:=st.1.1) (ids:=st.1.2.1) h.live
 have hlast:af st.1.2.1 ∈ st.1.2.1:=by
  have hs:=nO g1
  rw [hs]
  exact List.mem_append_right _ (List.mem_singleton.2 (by rw [← hs]))
 have hz:=vd r
 have hl:((aP (aJ r)).size:Int)=bE r:=rfl
 obtain ⟨t,ht,hf⟩:=h.full _ hlast
 have ht:fT d (dE st)=some t:=ht
 have htl:=h.tail t ht
 have ha:=ql h.disk (dE st) (aP (aJ r))
 have ko:∀ s,dE st≠s→fT (j_ d (dE st) (aP (aJ r))).1 s=fT d s:=fun s q=>y9 q
 have kl:=uu (d:=d) (s:=dE st) (x:=aP (aJ r))
 unfold kZ at z ⊢
 generalize j_ d (dE st) (aP (aJ r))=a at ha ko kl z ⊢
 cases c:a.2 != 0 with
 | true =>
  rw [c] at z
  have z:(tl a).2=0:=z
  have q:=zZ a
  rw [z,c] at q
  cases q
 | false =>
  have c0:(a.2==0)=true:=beq_iff_eq.2 (iV c)
  rw [c0,ac,ht] at kl
  have kl:fT a.1 (dE st)=some (t++aP (aJ r)):=kl
  simp only [aK]
  refine ⟨⟨h.live,ha,fun x hx=>?_,fun u hu=>?_⟩,?_,?_⟩
  · by_cases q:dE st=aA aH x
    · rw [← q]
      exact ⟨_,kl,J7 hf hr⟩
    · show ∃ t,fT a.1 (aA aH x)=some t∧FL t
      rw [ko _ q]
      exact h.full x hx
  · have hu:fT a.1 (dE st)=some u:=hu
    rw [kl] at hu
    rw [← Option.some.inj hu,ByteArray.size_append]
    show @Eq Int (st.2.2.2.1+bE r) ((t.size+(aP (aJ r)).size:Nat):Int)
    rw [htl]
    omega
  · show ft (ah a.1 (dE st)).1 st.2.2.2.1 (bE r)=(r,true)
    rw [kv ha,kl,htl]
    exact Az t hr
  · refine ⟨⟨b1,by show LE.le (α:=Int) (af st.1.2.1) 100000;omega⟩,?_,?_,?_⟩
    · show LE.le (α:=Int) 0 st.2.2.2.1
      rw [htl]
      omega
    · show LE.le (α:=Int) 1 (bE r)
      omega
    · show LE.le (α:=Int) (bE r) 210
      omega
theorem tr (l:List Int) (n:Int):af (l++[n])=n:=by
 unfold af
 simp [List.getD]
theorem M6 {st:Ty.d aF} {d:Ty.d aB} (h:BT st d) (z:(kx st d).2.2=0):BT (kx st d).1 (kx st d).2.1:=by
 obtain ⟨n1,n2,n3,_⟩:=j6 (n:=st.1.1) (ids:=st.1.2.1) h.live
 have hseg:∀ x:Int,x ∈ st.1.2.1→1≤x∧x≤100000:=fun x hx=>⟨(n3 x hx).1,by have:=(n3 x hx).2;omega⟩
 have hnew:∀ x ∈ st.1.2.1,aA aH st.1.1≠aA aH x:=fun x hx=>ot ⟨n1,n2⟩ (hseg x hx) (by have:=(n3 x hx).2;omega)
 have k2:∀ x ∈ st.1.2.1,fT (bU (aA aH st.1.1) (gT d (dE st)).1).1 (aA aH x)=fT d (aA aH x):=fun x hx=>(mf (hnew x hx)).trans md
 have k3:∀ x ∈ st.1.2.1,fT (br (lz st) (bU (aA aH st.1.1) (gT d (dE st)).1).1).1 (aA aH x)=fT d (aA aH x):=fun x hx=>(iQ (iD (hseg x hx)) (jN (hseg x hx))).trans (k2 x hx)
 have o2:=nL (s:=aA aH st.1.1) (d:=(gT d (dE st)).1)
 have o3:fT (br (lz st) (bU (aA aH st.1.1) (gT d (dE st)).1).1).1 (aA aH st.1.1)=fT (bU (aA aH st.1.1) (gT d (dE st)).1).1 (aA aH st.1.1):=iQ (iD ⟨n1,n2⟩) (jN ⟨n1,n2⟩)
 have h1:=nP h.disk (dE st)
 have h2:=lN (aA aH st.1.1) _ h1
 have h3:=lF (lz st) _ h2
 unfold kx at z ⊢
 by_cases c1:(st.1.2.1.length:Int)≥60
 · rw [aO c1] at z
   exact absurd z (by show (5:Int)≠0;decide)
 by_cases c2:st.1.1≥(100000:Int)
 · rw [aQ c1,aO c2] at z
   exact absurd z (by show (5:Int)≠0;decide)
 have c1':st.1.2.1.length<60:=by omega
 have c2':LT.lt (α:=Int) st.1.1 100000:=Int.not_le.1 c2
 have hg:dL (FE st).1=true:=vW h.live c2' c1'
 rw [aQ c1,aQ c2] at z ⊢
 simp only [aK] at z ⊢
 generalize gT d (dE st)=r1 at h1 h2 h3 k2 k3 o2 o3 z ⊢
 generalize bU (aA aH st.1.1) r1.1=r2 at h2 h3 k2 k3 o2 o3 z ⊢
 generalize br (lz st) r2.1=r3 at h3 k3 o3 z ⊢
 have tlz:∀ r:RD,(r.2 != 0)=true→(tl r).2≠0:=fun r q e=>by
  have:=zZ r
  rw [e,q] at this
  cases this
 cases e1:r1.2 != 0 with
 | true=>rw [e1] at z;exact absurd z (tlz r1 e1)
 | false =>
  rw [e1] at z
  simp only [aK] at z ⊢
  cases e2:r2.2 != 0 with
  | true=>rw [e2] at z;exact absurd z (tlz r2 e2)
  | false =>
   rw [e2] at z
   simp only [aK] at z ⊢
   have o2:=o2 (iV e2)
   cases e3:r3.2 != 0 with
   | true =>
    rw [e3] at z
    simp only [ac] at z
    refine absurd z ?_
    unfold pe
    cases q:(tl r3).2==2 with
    | false=>exact tlz r3 e3
    | true =>
     show (bif (fG [jE,aA aH st.1.1] (tl r3).1).2==0 then (2:Int) else iz (fG [jE,aA aH st.1.1] (tl r3).1).2)≠0
     cases w:(fG [jE,aA aH st.1.1] (tl r3).1).2==0 with
     | true=>show (2:Int)≠0;decide
     | false =>
      intro e
      have:=j5 (fG [jE,aA aH st.1.1] (tl r3).1).2
      rw [w] at this
      simp only [aK] at e
      rw [e] at this
      cases this
   | false =>
    simp only [aK]
    refine ⟨hg,h3,fun x hx=>?_,fun u hu=>?_⟩
    · have hx:x ∈ st.1.2.1++[st.1.1]:=hx
      rcases List.mem_append.1 hx with w | w
      · show ∃ t,fT r3.1 (aA aH x)=some t∧FL t
        rw [k3 x w]
        exact h.full x w
      · rw [List.mem_singleton.1 w]
        exact ⟨_,o3.trans o2,IW⟩
    · have hu:fT r3.1 (aA aH (af (st.1.2.1++[st.1.1])))=some u:=hu
      rw [tr,o3,o2] at hu
      rw [← Option.some.inj hu]
      rfl
theorem ML {st:Ty.d aF} {d:Ty.d aB} (h:BT st d) {r:Ty.d bA} (hr:cF r=true) (z:(gM st d r).1.2.2=0):BT (gM st d r).1.1 (gM st d r).1.2.1∧PK (gM st d r).1.2.1 (gM st d r).2∧PE (gM st d r).2:=by
 have hq:=M6 h
 unfold gM at z ⊢
 cases c:decide (st.2.2.2.1 > 0)&&decide (st.2.2.2.1+bE r > 200) with
 | false =>
  rw [c] at z
  exact Ib h hr z
 | true =>
  rw [c] at z
  simp only [ac] at z ⊢
  generalize kx st d=q at hq z ⊢
  cases c2:q.2.2 != 0 with
  | true =>
   rw [c2] at z
   have z:q.2.2=0:=z
   rw [z] at c2
   cases c2
  | false =>
   rw [c2] at z
   exact Ib (hq (iV c2)) hr z
theorem GM:∀ (l:jt) (st:Ty.d aF) (d:Ty.d aB) (ps:ai),BT st d→(∀ r ∈ l,cF r=true)→(∀ p ∈ ps,PK d p∧PE p∧LT.lt (α:=Int) p.1 st.1.1)→(fJ l st d ps).1.2.2=0 →
 BT (fJ l st d ps).1.1 (fJ l st d ps).1.2.1∧∀ p ∈ (fJ l st d ps).2,PK (fJ l st d ps).1.2.1 p∧PE p∧LT.lt (α:=Int) p.1 (fJ l st d ps).1.1.1.1
 | [],st,d,ps,h,_,hp,_=>⟨h,hp⟩
 | r::l,st,d,ps,h,hr,hp,z=>by
  have hb:=ML h (hr r li)
  obtain ⟨s1,s2,s3,s4⟩:=H0 (d:=d) h.live h.disk r
  unfold fJ at z ⊢
  generalize gM st d r=q at hb s1 s2 s3 s4 z ⊢
  cases c:q.1.2.2 != 0 with
  | true =>
   rw [c] at z
   have z:q.1.2.2=0:=z
   rw [z] at c
   cases c
  | false =>
   have e0:=iV c
   obtain ⟨k1,k2,k3⟩:=hb e0
   rw [c] at z
   simp only [aK] at z ⊢
   refine GM l q.1.1 q.1.2.1 (ps++[q.2]) k1 (fun x hx=>hr x (nX _ hx)) (fun p hq=>?_) z
   rcases List.mem_append.1 hq with w | w
   · obtain ⟨p1,p2,p3⟩:=hp p w
     refine ⟨?_,p2,Int.lt_of_lt_of_le p3 s2⟩
     have p1':eR d (fj p)=(gE p,true):=p1
     show eR q.1.2.1 (fj p)=(gE p,true)
     rw [yi h.disk k1.disk s1 p2.1.1 p3 p2.1.2 (by rw [p1']),p1']
   · rw [List.mem_singleton.1 w]
     exact ⟨k2,k3,(s4 e0).2⟩
theorem H4 {l:gn} {b:Int} (h:fR l=true) (h0:1≤b) (h1:b≤1000000):∀ r ∈ ja l b,cF r=true:=by
 intro r hr
 unfold ja at hr
 rcases List.mem_append.1 hr with w | w
 · obtain ⟨x,hx,e⟩:=List.mem_map.1 w
   have hp:=u4 h hx
   unfold jq gF at hp
   simp only [iI] at hp
   rw [← e]
   unfold gL cF
   cases c:x.2.1 with
   | true =>
    simp only [ac]
    rw [show ((2:Int)==1||(2:Int)==4)=false from rfl,show ((2:Int)==2)=true from rfl]
    simp only [aK,ac]
    rw [hp.1,aO (show 1≤b∧b≤1000000 from ⟨h0,h1⟩),show seq ByteArray.empty ⟨#[]⟩=true from bO _]
    rfl
   | false =>
    simp only [aK]
    rw [show ((1:Int)==1||(1:Int)==4)=true from rfl]
    simp only [ac]
    rw [hp.1,hp.2.1,aO (show 1≤b∧b≤1000000 from ⟨h0,h1⟩)]
    rfl
 · have hl:=oZ h
   have hs:=Gp (l.map (gL b))
   rw [List.mem_singleton.1 w]
   unfold fk cF
   rw [show ((3:Int)==1||(3:Int)==4)=false from rfl,show ((3:Int)==2)=false from rfl,show ((3:Int)==3)=true from rfl]
   simp only [aK,ac]
   rw [aO (show (0:Int)≤((l.map (gL b)).length:Int)∧((l.map (gL b)).length:Int)≤8 by rw [List.length_map];omega),aO (show 0≤zn (l.map (gL b))∧zn (l.map (gL b))≤4294967295 from hs),aO (show 1≤b∧b≤1000000 from ⟨h0,h1⟩),show seq ByteArray.empty ⟨#[]⟩=true from bO _]
   rfl
def Np (key x:ByteArray):Bool:=oG x key||seq x key
def Mz (K:List ByteArray) (key:ByteArray):List ByteArray:=K.takeWhile (Np key)++key::K.dropWhile (Np key)
theorem sj (l:aS) (key:ByteArray):jH (kV l key)=(jH l).filter fun x=>!(seq x key):=by
 unfold jH kV
 rw [List.filter_map]
 rfl
theorem Ds (l:aS) (e:Ty.d a_):jH (ve l e)=Mz (jH l) e.1:=by
 unfold jH ve Mz
 rw [List.map_append,List.map_cons,List.takeWhile_map,List.dropWhile_map]
 rfl
theorem B_:∀ (l:gn) (d d' es fs:aS),jH d=jH d'→jH es=jH fs→jH (rT d l es)=jH (rT d' l fs)
 | [],d,d',es,fs,h,_=>by rw [sJ,sJ];exact h
 | x::l,d,d',[],[],h,_=>by unfold rT;exact h
 | x::l,d,d',e::es,[],_,g=>by cases g
 | x::l,d,d',[],f::fs,_,g=>by cases g
 | x::l,d,d',e::es,f::fs,h,g=>by
  unfold jH at g
  rw [List.map_cons,List.map_cons] at g
  injection g with g1 g2
  unfold rT
  refine B_ l _ _ es fs ?_ g2
  cases x.2.1 with
  | true=>simp only [ac];rw [sj,sj,h]
  | false =>
   simp only [aK]
   unfold uM
   rw [Ds,Ds,sj,sj,h,g1]
theorem NL {a:Int} (h:1≤a) (g:a≤1000000):1≤a+1∧a+1≤1000001:=by omega
theorem Nc (a:Int):¬ a≥a+1:=by omega
theorem NM {a b:Int} (h:¬ b≥a):¬ b≥a+1:=by omega
theorem Dm {st:Ty.d aF} {d:Ty.d aB} {l:gn} (hs:eN st d=true) (he:EI st) (hp:fR l=true) (hb:LE.le (α:=Int) st.2.2.1 1000000) (ha:nG st.2.1 l≤20) (z:(gu st d l).2.2=0):eN (gu st d l).1 (gu st d l).2.1=true ∧
 (∀ e ∈ (gu st d l).1.2.1,(e ∈ st.2.1∧eR (gu st d l).2.1 e=eR d e)∨∃ x ∈ l,x.2.1=false∧e.1=x.1∧eR (gu st d l).2.1 e=(gL st.2.2.1 x,true)) ∧
 jH (gu st d l).1.2.1=jH (rT st.2.1 l (l.map zF)) ∧
 ∃ ps:ai,(gu st d l).1.2.1=bx st.2.1 ps∧ps.map gE=l.map (gL st.2.2.1)∧(∀ p ∈ ps,eR (gu st d l).2.1 (fj p)=(gE p,true))∧∀ e ∈ st.2.1,eR (gu st d l).2.1 e=eR d e:=by
 obtain ⟨g1,g2,g3⟩:=kH hs
 have hBT:=Jf hs
 have hs':=hs
 unfold eN at hs'
 simp only [iI] at hs'
 obtain ⟨_,_,hdir,_,_,hent⟩:=hs'
 obtain ⟨d1,d2,d3⟩:=uX.1 hdir
 have hl8:=oZ hp
 have hbat:SR (rM st) (d,0) 100000:=⟨g1.live,g1.disk,g1.lo,g1.hi⟩
 obtain ⟨f1,f2,f3⟩:=qo (ja l st.2.2.1) (rM st) d [] 100000 hbat (by decide)
 obtain ⟨s1,s2,s3,s4⟩:=E9 (ja l st.2.2.1) (rM st) d [] 100000 hbat (by decide) (fun x hx=>by cases hx)
 have hB:=GM (ja l st.2.2.1) (rM st) d [] ⟨hBT.live,hBT.disk,hBT.full,hBT.tail⟩ (H4 hp g3 hb) (fun x hx=>by cases hx)
 unfold gu at z ⊢
 generalize fJ (ja l st.2.2.1) (rM st) d []=q at f1 f2 f3 s1 s2 s3 s4 hB z ⊢
 have e2:q.1.1.2.1=st.2.1:=f2
 have s1:EX st.1.1 d q.1.2.1:=s1
 have s3:q.1.1.2.2.1=st.2.2.1+1:=s3
 unfold ur at z ⊢
 cases c:q.1.2.2 != 0 with
 | true =>
  rw [c] at z
  have z:q.1.2.2=0:=z
  rw [z] at c
  cases c
 | false =>
  rw [c] at z
  simp only [aK] at z ⊢
  have c0:=iV c
  have f3:=f3 c0
  rw [List.map_nil,List.nil_append] at f3
  obtain ⟨hB1,hB2⟩:=hB c0
  have y0:=zY s1 (M3 st.1.1 q.1.2.1 (dE q.1.1))
  have y1:=nP hB1.disk (dE q.1.1)
  have y2:∀ s,fT (gT q.1.2.1 (dE q.1.1)).1 s=fT q.1.2.1 s:=fun s=>md
  generalize gT q.1.2.1 (dE q.1.1)=y at y0 y1 y2 z ⊢
  cases cy:y.2 != 0 with
  | true =>
   rw [cy] at z
   have z:(tl y).2=0:=z
   have q:=zZ y
   rw [z,cy] at q
   cases q
  | false =>
   simp only [aK]
   have hrp:∀ p ∈ q.2.take l.length,gE p ∈ l.map (gL st.2.2.1):=fun p hp=>by
    have h1:(q.2.take l.length).map gE=l.map (gL st.2.2.1):=by
     rw [List.map_take,f3]
     unfold ja
     rw [List.take_append_of_le_length (by rw [List.length_map];omega),List.take_of_length_le (by rw [List.length_map];omega)]
    rw [← h1]
    exact List.mem_map.2 ⟨p,hp,rfl⟩
   have hPK:∀ p ∈ q.2.take l.length,eR y.1 (fj p)=(gE p,true):=fun p hp=>by
    obtain ⟨p1,_,_⟩:=hB2 p (List.mem_of_mem_take hp)
    have p1:eR q.1.2.1 (fj p)=(gE p,true):=p1
    rw [← p1]
    unfold eR
    rw [kv y1,kv hB1.disk,y2]
   have newE:∀ e ∈ bx q.1.1.2.1 (q.2.take l.length),(∃ p ∈ q.2.take l.length,e=fj p∧(p.2.2.2.1.1==2)=false)∨e ∈ st.2.1:=fun e hq=>by
    rw [e2] at hq
    exact oT _ hq
   have hput:∀ p ∈ q.2.take l.length,gF (fj p).1=true∧(gE p).2.1=st.2.2.1∧((gE p).1=1∨(gE p).1=2):=fun p hq=>by
    obtain ⟨x,hx,e⟩:=List.mem_map.1 (hrp p hq)
    have hk:=u4 hp hx
    unfold jq at hk
    simp only [iI] at hk
    refine ⟨?_,?_,?_⟩
    · show gF (gE p).2.2.1=true
      rw [← e]
      unfold gL
      cases x.2.1 <;> exact hk.1
    · rw [← e]
      unfold gL
      cases x.2.1 <;> rfl
    · rw [← e]
      unfold gL
      cases x.2.1
      · exact .inl rfl
      · exact .inr rfl
   have hkeys:jH (bx st.2.1 (q.2.take l.length))=jH (rT st.2.1 l (l.map zF)):=by
    have k1:jH (rT st.2.1 l (q.2.map fj))=jH (rT st.2.1 l (l.map zF++[zF (ByteArray.empty,(false,(ByteArray.empty,())))])):=by
     refine B_ l _ _ _ _ rfl ?_
     unfold jH
     rw [List.map_map,show q.2.map ((fun x:Ty.d a_=>x.1) ∘ fj)=(q.2.map gE).map (fun r:Ty.d bA=>r.2.2.1) from by rw [List.map_map];rfl,f3]
     unfold ja
     rw [List.map_append,List.map_append,List.map_map,List.map_map]
     congr 1
     refine List.map_congr_left fun x _=>?_
     show (gL st.2.2.1 x).2.2.1=x.1
     unfold gL
     cases x.2.1 <;> rfl
    have k2:∀ (l:gn) (d:aS) (m:aS),rT d l (l.map zF++m)=rT d l (l.map zF):=by
     intro l
     induction l with
     | nil=>intro d m;rw [sJ,sJ]
     | cons x l ih =>
      intro d m
      rw [List.map_cons,List.cons_append]
      unfold rT
      exact ih _ m
    rw [k2,zR st.2.2.1 l q.2 [fk 3 st.2.2.1 (l.map (gL st.2.2.1))] st.2.1 f3] at k1
    exact k1
   have oldE:∀ e ∈ st.2.1,eR y.1 e=eR d e:=fun e w=>by
    have hin:=List.all_eq_true.1 hent e w
    obtain ⟨i1,i2⟩:=he e w
    have i3:LE.le (α:=Int) e.2.1 100000:=by
     have:=d2 e w
     unfold Lm at this
     simp only [iI,decide_eq_true_eq] at this
     exact this.2.1.2
    unfold o8 at hin
    simp only [iI] at hin
    exact yi g1.disk y1 y0 i1 i2 i3 hin.1
   refine ⟨?_,fun e hq=>?_,by show jH (bx q.1.1.2.1 (q.2.take l.length))=_;rw [e2];exact hkeys,q.2.take l.length,by show bx q.1.1.2.1 (q.2.take l.length)=_;rw [e2],?_,hPK,oldE⟩
   rotate_left
   rotate_left
   · rw [List.map_take,f3]
     unfold ja
     rw [List.take_append_of_le_length (by rw [List.length_map];omega),List.take_of_length_le (by rw [List.length_map];omega)]
   rotate_left
   · show (e ∈ st.2.1∧eR y.1 e=eR d e)∨∃ x ∈ l,x.2.1=false∧e.1=x.1∧eR y.1 e=(gL st.2.2.1 x,true)
     rcases newE e hq with ⟨p,hq',w,kd⟩ | w
     · obtain ⟨x,hx,ex⟩:=List.mem_map.1 (hrp p hq')
       have kd:((gE p).1==2)=false:=kd
       have cx:x.2.1=false:=by
        cases c:x.2.1 with
        | false=>rfl
        | true =>
         rw [← ex] at kd
         unfold gL at kd
         rw [c] at kd
         cases kd
       refine .inr ⟨x,hx,cx,?_,?_⟩
       · rw [w]
         show (gE p).2.2.1=x.1
         rw [← ex]
         unfold gL
         rw [cx]
         rfl
       · rw [w,hPK p hq',ex]
     · exact .inl ⟨w,oldE e w⟩
   unfold eN
   simp only [iI]
   refine ⟨jR.2 y1,hB1.live,uX.2 ⟨?_,fun e hq=>?_,?_⟩,decide_eq_true ?_,(uS y1).2 ⟨fun x hx=>?_,fun _ u hu=>?_⟩,List.all_eq_true.2 fun e hq=>?_⟩
   · have k3:=congrArg List.length hkeys
     unfold jH at k3
     rw [List.length_map,List.length_map] at k3
     show (bx q.1.1.2.1 (q.2.take l.length)).length≤20
     rw [e2,k3]
     unfold nG at ha
     omega
   · rcases newE e hq with ⟨p,hq',w,_⟩ | w
     · obtain ⟨_,p2,_⟩:=hB2 p (List.mem_of_mem_take hq')
       obtain ⟨u1,u2,u3⟩:=hput p hq'
       rw [w]
       unfold Lm
       rw [u1,aO (show (1:Int)≤(fj p).2.1∧(fj p).2.1≤100000 from p2.1),aQ (show ¬ (fj p).2.2.1<(0:Int) from Int.not_lt.2 p2.2.1),aO (show (1:Int)≤(fj p).2.2.2.1∧(fj p).2.2.2.1≤210 from p2.2.2),
        aO (show (1:Int)≤(fj p).2.2.2.2.1∧(fj p).2.2.2.2.1≤1000000 from by show (1:Int)≤(gE p).2.1∧(gE p).2.1≤1000000;rw [u2];exact ⟨g3,hb⟩)]
       rfl
     · exact d2 e w
   · show d5 (jH (bx q.1.1.2.1 (q.2.take l.length)))
     rw [e2]
     exact qg _ d3
   · show (1:Int)≤q.1.1.2.2.1∧q.1.1.2.2.1≤1000001
     rw [s3]
     exact NL g3 hb
   · show ∃ t,fT y.1 (aA aH x)=some t∧FL t
     rw [y2]
     exact hB1.full x hx
   · have hu:fT y.1 (dE q.1.1)=some u:=hu
     rw [y2] at hu
     exact hB1.tail u hu
   · show o8 y.1 q.1.1.2.2.1 e=true
     rw [s3]
     rcases newE e hq with ⟨p,hq',w,kd⟩ | w
     · obtain ⟨u1,u2,u3⟩:=hput p hq'
       have hr:=hPK p hq'
       have kd:((gE p).1==2)=false:=kd
       have k1:(gE p).1=1:=by
        rcases u3 with v | v
        · exact v
        · rw [v] at kd;cases kd
       unfold o8
       rw [w,hr]
       simp only []
       rw [show (fj p).1=(gE p).2.2.1 from rfl,bO,show (fj p).2.2.2.2.1=(gE p).2.1 from rfl,beq_self_eq_true,k1,u2,aQ (Nc st.2.2.1)]
       rfl
     · have hin:=List.all_eq_true.1 hent e w
       obtain ⟨i1,i2⟩:=he e w
       have i3:LE.le (α:=Int) e.2.1 100000:=by
        have:=d2 e w
        unfold Lm at this
        simp only [iI,decide_eq_true_eq] at this
        exact this.2.1.2
       unfold o8 at hin ⊢
       simp only [iI] at hin ⊢
       rw [yi g1.disk y1 y0 i1 i2 i3 hin.1]
       refine ⟨hin.1,hin.2.1,hin.2.2.1,hin.2.2.2.1,?_⟩
       have hlt:=hin.2.2.2.2
       simp only [Bool.not_eq_true',decide_eq_false_iff_not] at hlt ⊢
       exact NM hlt
theorem KT {d:Ty.d aB} {s:ByteArray}:bw d.1 s=none↔fT d s=none:=by
 unfold fT
 cases bw d.1 s <;> simp
theorem AP {α:Type} {p:α→Bool}:∀ {l:List α},(∀ x ∈ l,p x=true)→l.takeWhile p=l∧l.dropWhile p=[]
 | [],_=>⟨rfl,rfl⟩
 | x::l,h=>by
  have ih:=AP (p:=p) (l:=l) fun y hy=>h y (nX _ hy)
  rw [List.takeWhile_cons,List.dropWhile_cons,h x li,if_pos rfl,if_pos rfl,ih.1]
  exact ⟨rfl,ih.2⟩
theorem BB:∀ {l:aS},d5 (jH l)→∀ e ∈ l,qs l e.1=some e
 | [],_,e,h=>by cases h
 | x::l,hk,e,h=>by
  unfold d5 jH at hk
  rw [List.map_cons,List.pairwise_cons] at hk
  rw [qs.eq_2]
  rcases List.mem_cons.1 h with w | w
  · rw [w,bO]
    rfl
  · have hlt:=hk.1 e.1 (List.mem_map.2 ⟨e,w,rfl⟩)
    rw [ky (fun q=>by rw [q,qn] at hlt;cases hlt),aK]
    exact BB hk.2 e w
theorem Kg {st:Ty.d aF} {d:Ty.d aB} (h:eN st d=true) {e:Ty.d a_} (he:e ∈ st.2.1):nN st.2.1 d e.1=((e.1,((eR d e).1.2.2.2.1,((eR d e).1.2.1,()))),0):=by
 unfold eN at h
 simp only [iI] at h
 obtain ⟨_,_,hdir,_,_,hent⟩:=h
 obtain ⟨_,_,hk⟩:=uX.1 hdir
 have hin:=List.all_eq_true.1 hent e he
 unfold o8 at hin
 simp only [iI] at hin
 unfold nN
 rw [BB hk e he]
 simp only []
 rw [hin.1,hin.2.1,hin.2.2.2.1]
 rfl
theorem HI {st:Ty.d aF} {d:Ty.d aB} (h:eN st d=true):kB st.2.1 d=(st.2.1.map fun e=>(e.1,((eR d e).1.2.2.2.1,((eR d e).1.2.1,()))),0):=by
 have key:∀ (r:aS) (acc:kw),(∀ e ∈ r,e ∈ st.2.1)→rh st.2.1 d (r.map (·.1)) acc=(acc++r.map fun e=>(e.1,((eR d e).1.2.2.2.1,((eR d e).1.2.1,()))),0):=by
  intro r
  induction r with
  | nil=>intro acc _;rw [List.map_nil,List.map_nil,List.append_nil];rfl
  | cons e r ih =>
   intro acc hr
   rw [List.map_cons,rh,Kg h (hr e li)]
   show rh st.2.1 d (r.map (·.1)) (acc++[_])=_
   rw [ih _ fun x hx=>hr x (nX _ hx),rP]
   rfl
 unfold kB
 rw [key st.2.1 [] fun e he=>he,List.nil_append]
def LO:ByteArray:=⟨#[108,105,118,101]⟩
theorem KD {d:Ty.d aB} {e:Ty.d a_} (h:(eR d e).2=true):cF (eR d e).1=true:=by
 unfold eR ft at h ⊢
 by_cases c1:0≤e.2.2.1∧e.2.2.1≤((ah d (aA aH e.2.1)).1.size:Int)∧1≤e.2.2.2.1∧e.2.2.2.1≤((ah d (aA aH e.2.1)).1.size:Int)-e.2.2.1
 · rw [if_pos c1] at h ⊢
   by_cases c2:(gS (ByteArray.extract (ah d (aA aH e.2.1)).1 (Int.toNat e.2.2.1) (Int.toNat (e.2.2.1+e.2.2.2.1)))).2=e.2.2.2.1
   · rw [if_pos c2] at h ⊢
     exact (zO (Prod.ext rfl h)).1
   · rw [if_neg c2] at h
     cases h
 · rw [if_neg c1] at h
   cases h
theorem x_ {r:Ty.d bA} (h:cF r=true) (hk:r.1=1∨r.1=4):cF (bQ (r.2.2.1,(r.2.2.2.1,(r.2.1,()))))=true:=by
 have hb:(r.1==1||r.1==4)=true:=by rcases hk with q | q <;> rw [q] <;> rfl
 unfold cF at h
 rw [hb,ac] at h
 simp only [iI] at h
 unfold cF bQ
 rw [show ((4:Int)==1||(4:Int)==4)=true from rfl]
 simp only [ac]
 rw [h.1,h.2.1,h.2.2.2.2]
 rfl
theorem Ag {st:Ty.d aF} {d:Ty.d aB} (h:eN st d=true):(∀ p ∈ (kB st.2.1 d).1,cF (bQ p)=true)∧d5 ((kB st.2.1 d).1.map (·.1)):=by
 rw [HI h]
 have h':=h
 unfold eN at h'
 simp only [iI] at h'
 obtain ⟨_,_,hdir,_,_,hent⟩:=h'
 obtain ⟨_,_,hk⟩:=uX.1 hdir
 refine ⟨fun p hp=>?_,?_⟩
 · obtain ⟨e,he,rfl⟩:=List.mem_map.1 hp
   have hin:=List.all_eq_true.1 hent e he
   unfold o8 at hin
   simp only [iI,Bool.or_eq_true,beq_iff_eq] at hin
   have:=x_ (KD hin.1) hin.2.2.2.1
   rw [dS.1 hin.2.1] at this
   exact this
 · rw [List.map_map]
   exact hk
theorem Kh {b:Int} (h:1≤b) (g:b≤1000001):0≤b-1∧b-1≤1000000:=by omega
theorem Cl {a b:Int} (h:a<b) (g:b≤100000):a≤100000:=by omega
def fe:jt→Int→De
 | [],_=>[]
 | r::l,a=>(a,(bE r,(r,())))::fe l (a+bE r)
theorem xa:∀ (rs:jt) (pre:ByteArray) (d:Nat),(∀ r ∈ rs,cF r=true)→(ab rs).size<d→(gC (pre++ab rs) d (pre.size:Int)).1=fe rs (pre.size:Int)
 | [],pre,d,_,hd=>by
  obtain ⟨d,rfl⟩:∃ q,d=q+1:=⟨d-1,by omega⟩
  have:gS (ByteArray.extract (pre++ab []) (Int.toNat (pre.size:Int)) (pre++ab []).size)=(⟨#[]⟩,0):=by
   rw [rH,eO,ab,xM]
  rw [gC,this,if_pos rfl]
  rfl
 | r::rs,pre,d,h,hd=>by
  rw [ab,aN] at hd
  have hz:=lb r
  have hp:=lL (s:=aJ r) (by omega)
  obtain ⟨d,rfl⟩:∃ q,d=q+1:=⟨d-1,by omega⟩
  have ih:=xa rs (pre++aP (aJ r)) d (fun x hx=>h x (nX _ hx)) (by omega)
  rw [bF,aN pre] at ih
  rw [ab,Gd (h r (li ..)),fe]
  simp only []
  rw [ih,show ((pre.size+(aP (aJ r)).size:Nat):Int)=(pre.size:Int)+bE r by unfold bE;omega]
  rfl
theorem ye {rs:jt} (h:∀ r ∈ rs,cF r=true):(bP (ab rs)).1=fe rs 0:=by
 have:=xa rs ⟨#[]⟩ ((ab rs).size+1) h (by omega)
 rw [se] at this
 exact this
theorem AY:∀ (l m:jt) (a:Int),fe (l++m) a=fe l a++fe m (a+((ab l).size:Int))
 | [],m,a=>by
  show fe m a=fe m (a+((⟨#[]⟩:ByteArray).size:Int))
  rw [show ((⟨#[]⟩:ByteArray).size:Int)=0 from rfl,Int.add_zero]
 | r::l,m,a=>by
  rw [List.cons_append,fe,fe,AY l m,ab,aN,List.cons_append]
  rw [show a+bE r+((ab l).size:Int)=a+(((aP (aJ r)).size+(ab l).size:Nat):Int) by unfold bE;omega]
abbrev ri:=List (Int × jt)
def wl (x:Int × jt):ai:=bX x.1 (fe x.2 0)
def lT:ri→ai
 | []=>[]
 | x::l=>wl x++lT l
theorem GP:∀ (l m:ri),lT (l++m)=lT l++lT m
 | [],_=>rfl
 | x::l,m=>by
  show wl x++lT (l++m)=wl x++lT l++lT m
  rw [GP l m,rP]
structure TX (st:Ty.d aF) (d:Ty.d aB) (L:ri):Prop where
 live:dL st.1=true
 disk:DR d
 ids:st.1.2.1=L.map (·.1)
 text:∀ x ∈ L,fT d (aA aH x.1)=some (ab x.2)∧∀ r ∈ x.2,cF r=true
 tail:∀ t,fT d (dE st)=some t→st.2.2.2.1=(t.size:Int)
theorem TX.bt {st:Ty.d aF} {d:Ty.d aB} {L:ri} (h:TX st d L):BT st d:=⟨h.live,h.disk,fun x hx=>by
 rw [h.ids] at hx
 obtain ⟨y,hy,rfl⟩:=List.mem_map.1 hx
 exact ⟨_,(h.text y hy).1,y.2,(h.text y hy).2,rfl⟩,h.tail⟩
theorem BD {d:Ty.d aB}:∀ {ids:List Int},(∀ x ∈ ids,∃ t,fT d (aA aH x)=some t∧FL t)→∃ L:ri,ids=L.map (·.1)∧∀ x ∈ L,fT d (aA aH x.1)=some (ab x.2)∧∀ r ∈ x.2,cF r=true
 | [],_=>⟨[],rfl,fun x hx=>(by cases hx)⟩
 | x::l,h=>by
  obtain ⟨L,h1,h2⟩:=BD (ids:=l) fun y hy=>h y (nX _ hy)
  obtain ⟨t,ht,rs,hr,e⟩:=h x li
  refine ⟨(x,rs)::L,by rw [List.map_cons,← h1],fun y hy=>?_⟩
  rcases List.mem_cons.1 hy with w | w
  · rw [w];exact ⟨by rw [ht,e],hr⟩
  · exact h2 y w
theorem BT.tx {st:Ty.d aF} {d:Ty.d aB} (h:BT st d):∃ L,TX st d L:=by
 obtain ⟨L,h1,h2⟩:=BD h.full
 exact ⟨L,h.live,h.disk,h1,h2,h.tail⟩
theorem Ko {d:Ty.d aB} (hd:DR d) {x:Int × jt} (h:fT d (aA aH x.1)=some (ab x.2)∧∀ r ∈ x.2,cF r=true):xT d x.1=wl x:=by
 unfold xT wl fL
 rw [kv hd,h.1]
 show bX x.1 (bP (ab x.2)).1=_
 rw [ye h.2]
theorem zQ {d:Ty.d aB} (hd:DR d):∀ {L:ri},(∀ x ∈ L,fT d (aA aH x.1)=some (ab x.2)∧∀ r ∈ x.2,cF r=true)→oy d (L.map (·.1))=lT L
 | [],_=>rfl
 | x::L,h=>by
  rw [List.map_cons]
  show xT d x.1++oy d (L.map (·.1))=wl x++lT L
  rw [zQ hd fun y hy=>h y (nX _ hy),Ko hd (h x li)]
theorem tj:∀ (rs:jt) (pre post:ByteArray),(∀ r ∈ rs,cF r=true)→∀ x ∈ fe rs (pre.size:Int),ft (pre++(ab rs++post)) x.1 x.2.1=(x.2.2.1,true)∧cF x.2.2.1=true∧LE.le (α:=Int) 0 x.1∧LE.le (α:=Int) 1 x.2.1∧LE.le (α:=Int) x.2.1 210∧x.2.2.1 ∈ rs
 | [],_,_,_,x,hx=>(by cases hx)
 | r::rs,pre,post,h,x,hx=>by
  have hr:=h r li
  rw [ab,qA]
  rw [fe] at hx
  rcases List.mem_cons.1 hx with w | w
  · rw [w]
    have hz:=vd r
    have e:=Az pre hr
    refine ⟨?_,hr,Int.natCast_nonneg _,show LE.le (α:=Int) 1 (bE r) by omega,hz.2,li⟩
    show ft (pre++(aP (aJ r)++(ab rs++post))) (pre.size:Int) (bE r)=(r,true)
    rw [← qA,B9 (by rw [e]),e]
  · have hz:((pre++aP (aJ r)).size:Int)=(pre.size:Int)+bE r:=by
     rw [ByteArray.size_append]
     unfold bE
     omega
    rw [← hz] at w
    obtain ⟨i1,i2,i3,i4,i5,i6⟩:=tj rs (pre++aP (aJ r)) post (fun q hq=>h q (nX _ hq)) x w
    rw [qA] at i1
    exact ⟨i1,i2,i3,i4,i5,nX _ i6⟩
theorem BA {L:ri} {p:Ty.d aC} (h:p ∈ lT L):∃ x ∈ L,∃ s ∈ fe x.2 0,p=(x.1,s):=by
 induction L with
 | nil=>cases h
 | cons x L ih =>
  have h:p ∈ wl x++lT L:=h
  rcases List.mem_append.1 h with w | w
  · unfold wl bX at w
    obtain ⟨s,hs,e⟩:=List.mem_map.1 w
    exact ⟨x,li,s,hs,e.symm⟩
  · obtain ⟨y,hy,q⟩:=ih w
    exact ⟨y,nX _ hy,q⟩
structure PL (d:Ty.d aB) (nx:Int) (p:Ty.d aC):Prop where
 lo:LE.le (α:=Int) 1 p.1
 hi:LT.lt (α:=Int) p.1 nx
 at0:LE.le (α:=Int) 0 p.2.1
 len0:LE.le (α:=Int) 1 p.2.2.1
 len1:LE.le (α:=Int) p.2.2.1 210
 ok:cF (gE p)=true
 read:eR d (fj p)=(gE p,true)
theorem yw {st:Ty.d aF} {d:Ty.d aB} {L:ri} (h:TX st d L) {p:Ty.d aC} (hp:p ∈ lT L):PL d st.1.1 p:=by
 obtain ⟨x,hx,s,hs,e⟩:=BA hp
 obtain ⟨n1,n2,n3,_⟩:=j6 (n:=st.1.1) (ids:=st.1.2.1) h.live
 have hi:x.1 ∈ st.1.2.1:=by rw [h.ids];exact List.mem_map.2 ⟨x,hx,rfl⟩
 obtain ⟨t1,t2⟩:=h.text x hx
 obtain ⟨i1,i2,i3,i4,i5,_⟩:=tj x.2 ⟨#[]⟩ ⟨#[]⟩ t2 s hs
 rw [e]
 refine ⟨(n3 _ hi).1,(n3 _ hi).2,i3,i4,i5,i2,?_⟩
 unfold eR
 show ft (ah d (aA aH x.1)).1 s.1 s.2.1=(s.2.2.1,true)
 rw [kv h.disk,t1]
 show ft (ab x.2) s.1 s.2.1=_
 rw [Hg,se] at i1
 exact i1
abbrev J1:=aS × Int × Int
def iv (pre:ai) (p:Ty.d aC) (s:J1):J1 :=
 bif p.2.2.2.1.1==3 then (bif ib p.2.2.2.1 (fX p.2.2.2.1.2.1 pre) then (bx s.1 (fX p.2.2.2.1.2.1 pre),oJ p.2.2.2.1.2.1 s.2.1,nf (bx s.1 (fX p.2.2.2.1.2.1 pre)) s.2.2) else (s.1,oJ p.2.2.2.1.2.1 s.2.1,s.2.2)) else
 bif p.2.2.2.1.1==5 then (bif ib p.2.2.2.1 (cL pre) then (bx s.1 (cL pre),oJ p.2.2.2.1.2.1 s.2.1,nf (bx s.1 (cL pre)) s.2.2) else (s.1,oJ p.2.2.2.1.2.1 s.2.1,1)) else
 (s.1,oJ p.2.2.2.1.2.1 s.2.1,s.2.2)
def gr (pre:ai):ai→J1→J1
 | [],s=>s
 | p::r,s=>bif s.2.2 != 0 then s else gr (pre++[p]) r (iv pre p s)
theorem C_ {pre:ai} {s:J1} (h:s.2.2≠0):∀ r:ai,gr pre r s=s
 | []=>rfl
 | p::r=>by unfold gr;rw [show (s.2.2 != 0)=true from bne_iff_ne.2 h];rfl
theorem HA (pre:ai) (p:Ty.d aC) (r:ai) (s:J1):gr pre (p::r) s=bif s.2.2 != 0 then s else gr (pre++[p]) r (iv pre p s):=rfl
theorem tP:∀ (a b pre:ai) (s:J1),gr pre (a++b) s=gr (pre++a) b (gr pre a s)
 | [],b,pre,s=>by rw [List.append_nil];rfl
 | p::a,b,pre,s=>by
  rw [List.cons_append,HA,HA pre p a]
  by_cases c:s.2.2=0
  · rw [show (s.2.2 != 0)=false by rw [c];rfl,aK,aK,tP a b,rP]
    rfl
  · rw [show (s.2.2 != 0)=true from bne_iff_ne.2 c,ac,ac]
    exact (C_ c _).symm
theorem yH (all:ai):∀ (r:ai) (i:Nat) (d:aS) (la c:Int),all.drop i=r→i≤all.length →
 jY all r i d la c=(let s:=gr (all.take i) r (d,la,c);bif s.2.2==0&&decide ((cL all).length > 0) then (s.1,(s.2.1,(1,()))) else (s.1,(s.2.1,(s.2.2,()))))
 | [],i,d,la,c,_,_=>rfl
 | p::r,i,d,la,c,h,hi=>by
  have hlt:i<all.length:=by
   have:=congrArg List.length h
   rw [List.length_drop,mB] at this
   omega
  have ht:all.take (i+1)=all.take i++[p]:=by
   have e:all[i]=p:=by
    have:=List.drop_eq_getElem_cons hlt
    rw [h] at this
    injection this with w _
    exact w.symm
   rw [List.take_succ_eq_append_getElem hlt,e]
  have hd:all.drop (i+1)=r:=by rw [← List.drop_drop,h];rfl
  have ih:=fun d' la' c'=>yH all r (i+1) d' la' c' hd hlt
  unfold jY gr
  by_cases c0:c=0
  · subst c0
    simp only [bne_self_eq_false,aK]
    rw [← ht]
    unfold iv
    cases p.2.2.2.1.1==3 with
    | true =>
     simp only [ac]
     cases ib p.2.2.2.1 (fX p.2.2.2.1.2.1 (all.take i)) <;> exact ih _ _ _
    | false =>
     simp only [aK]
     cases p.2.2.2.1.1==5 with
     | true =>
      simp only [ac]
      cases ib p.2.2.2.1 (cL (all.take i)) <;> exact ih _ _ _
     | false=>exact ih _ _ _
  · have e1:(c != 0)=true:=bne_iff_ne.2 c0
    have e2:(c==0)=false:=mT c0
    simp only [e1,ac,e2,Bool.false_and,aK]
theorem yQ {g:aS} {la0:Int} {pl:ai} (h:(jX (g,(la0,(0,()))) pl).2.2.1=0):gr [] pl (g,la0,0)=((jX (g,(la0,(0,()))) pl).1,(jX (g,(la0,(0,()))) pl).2.1,0)∧cL pl=[]:=by
 have e:=yH pl pl 0 g la0 0 rfl (Nat.zero_le _)
 have e:jX (g,(la0,(0,()))) pl=(let s:=gr [] pl (g,la0,0);bif s.2.2==0&&decide ((cL pl).length > 0) then (s.1,(s.2.1,(1,()))) else (s.1,(s.2.1,(s.2.2,())))):=e
 rw [e] at h ⊢
 generalize gr [] pl (g,la0,0)=s at h ⊢
 obtain ⟨a,b,c⟩:=s
 simp only [] at h ⊢
 cases q:(c==0&&decide ((cL pl).length > 0)) with
 | true=>rw [q] at h;exact absurd h (by show (1:Int)≠0;decide)
 | false =>
  rw [q] at h
  simp only [aK] at h ⊢
  subst h
  refine ⟨rfl,?_⟩
  simp only [beq_self_eq_true,Bool.true_and,decide_eq_false_iff_not] at q
  exact List.length_eq_zero_iff.1 (by omega)
theorem nr (l m:ai):cL (l++m)=m.foldl gY (cL l):=by unfold cL;rw [List.foldl_append]
theorem vq (b:Int) (l m:ai):fX b (l++m)=m.foldl (fq b) (fX b l):=by unfold fX;rw [List.foldl_append]
def plain (p:Ty.d aC):Prop:=p.2.2.2.1.1=1∨p.2.2.2.1.1=2
theorem Et {p:Ty.d aC} (h:plain p):(p.2.2.2.1.1==3)=false∧(p.2.2.2.1.1==4)=false∧(p.2.2.2.1.1==5)=false∧(p.2.2.2.1.1==1||p.2.2.2.1.1==2)=true:=by
 rcases h with q | q <;> rw [q] <;> exact ⟨rfl,rfl,rfl,rfl⟩
theorem xV:∀ (q pre:ai) (d:aS) (la:Int),(∀ p ∈ q,plain p)→∃ la',gr pre q (d,la,0)=(d,la',0)
 | [],_,d,la,_=>⟨la,rfl⟩
 | p::q,pre,d,la,h=>by
  obtain ⟨h3,h4,h5,_⟩:=Et (h p li)
  obtain ⟨la',e⟩:=xV q (pre++[p]) d (oJ p.2.2.2.1.2.1 la) fun x hx=>h x (nX _ hx)
  refine ⟨la',?_⟩
  unfold gr iv
  rw [h3,h5]
  exact e
theorem xN:∀ (q:ai) (acc:ai),(∀ p ∈ q,p.2.2.2.1.1≠4∧p.2.2.2.1.1≠5)→q.foldl gY acc=acc
 | [],_,_=>rfl
 | p::q,acc,h=>by
  obtain ⟨h4,h5⟩:=h p li
  rw [List.foldl_cons,show gY acc p=acc by unfold gY;rw [mT h4,mT h5];rfl]
  exact xN q acc fun x hx=>h x (nX _ hx)
theorem yr {b:Int}:∀ (q:ai) (acc:ai),(∀ p ∈ q,p.2.2.2.1.2.1≠b)→q.foldl (fq b) acc=acc
 | [],_,_=>rfl
 | p::q,acc,h=>by
  rw [List.foldl_cons,show fq b acc p=acc by unfold fq;rw [mT (h p li)];rfl]
  exact yr q acc fun x hx=>h x (nX _ hx)
theorem DD {b:Int}:∀ (q:ai) (acc:ai),(∀ p ∈ q,plain p∧p.2.2.2.1.2.1=b)→q.foldl (fq b) acc=acc++q
 | [],acc,_=>(List.append_nil acc).symm
 | p::q,acc,h=>by
  obtain ⟨h1,h2⟩:=h p li
  obtain ⟨h3,h4,h5,h6⟩:=Et h1
  rw [List.foldl_cons,show fq b acc p=acc++[p] by unfold fq;rw [h2,beq_self_eq_true,h3,h6];rfl]
  rw [DD q (acc++[p]) fun x hx=>h x (nX _ hx),rP]
  rfl
theorem w8 {b:Int}:∀ (l:ai) (acc:ai),(∀ p ∈ acc,plain p)→∀ p ∈ l.foldl (fq b) acc,plain p∧(p ∈ acc∨p ∈ l)
 | [],acc,h,p,hp=>⟨h p hp,.inl hp⟩
 | x::l,acc,h,p,hp=>by
  rw [List.foldl_cons] at hp
  have hs:∀ q ∈ fq b acc x,plain q∧(q ∈ acc∨q=x):=fun q hq=>by
   unfold fq at hq
   cases c1:x.2.2.2.1.2.1==b with
   | false=>rw [c1] at hq;exact ⟨h q hq,.inl hq⟩
   | true =>
    rw [c1,ac] at hq
    cases c2:x.2.2.2.1.1==3 with
    | true=>rw [c2] at hq;cases hq
    | false =>
     rw [c2,aK] at hq
     cases c3:x.2.2.2.1.1==1||x.2.2.2.1.1==2 with
     | false=>rw [c3] at hq;exact ⟨h q hq,.inl hq⟩
     | true =>
      rw [c3,ac] at hq
      rcases List.mem_append.1 hq with w | w
      · exact ⟨h q w,.inl w⟩
      · rw [List.mem_singleton.1 w]
        simp only [Bool.or_eq_true,beq_iff_eq] at c3
        exact ⟨c3,.inr rfl⟩
  obtain ⟨g1,g2⟩:=w8 l (fq b acc x) (fun q hq=>(hs q hq).1) p hp
  refine ⟨g1,?_⟩
  rcases g2 with w | w
  · rcases (hs p w).2 with v | v
    · exact .inl v
    · rw [v];exact .inr li
  · exact .inr (nX _ w)
theorem wZ:∀ (l:ai) (acc:ai),(∀ p ∈ acc,p.2.2.2.1.1=4)→∀ p ∈ l.foldl gY acc,p.2.2.2.1.1=4∧(p ∈ acc∨p ∈ l)
 | [],acc,h,p,hp=>⟨h p hp,.inl hp⟩
 | x::l,acc,h,p,hp=>by
  rw [List.foldl_cons] at hp
  have hs:∀ q ∈ gY acc x,q.2.2.2.1.1=4∧(q ∈ acc∨q=x):=fun q hq=>by
   unfold gY at hq
   cases c2:x.2.2.2.1.1==5 with
   | true=>rw [c2] at hq;cases hq
   | false =>
    rw [c2,aK] at hq
    cases c3:x.2.2.2.1.1==4 with
    | false=>rw [c3] at hq;exact ⟨h q hq,.inl hq⟩
    | true =>
     rw [c3,ac] at hq
     rcases List.mem_append.1 hq with w | w
     · exact ⟨h q w,.inl w⟩
     · rw [List.mem_singleton.1 w]
       exact ⟨Jq c3,.inr rfl⟩
  obtain ⟨g1,g2⟩:=wZ l (gY acc x) (fun q hq=>(hs q hq).1) p hp
  refine ⟨g1,?_⟩
  rcases g2 with w | w
  · rcases (hs p w).2 with v | v
    · exact .inl v
    · rw [v];exact .inr li
  · exact .inr (nX _ w)
def EP (pl:ai) (d:aS):Prop:=∀ e ∈ d,∃ p ∈ pl,e=fj p∧(p.2.2.2.1.1=1∨p.2.2.2.1.1=4)
theorem xP {pl:ai}:∀ (own:ai) {d:aS},EP pl d→(∀ p ∈ own,p ∈ pl∧(p.2.2.2.1.1=1∨p.2.2.2.1.1=2∨p.2.2.2.1.1=4))→EP pl (bx d own)
 | [],d,h,_=>h
 | p::own,d,h,ho=>by
  refine xP own (d:=gV d p) (fun e he=>?_) fun q hq=>ho q (nX _ hq)
  obtain ⟨k1,k2⟩:=ho p li
  unfold gV at he
  cases c:p.2.2.2.1.1==2 with
  | true=>rw [c,ac] at he;exact h e (List.mem_filter.1 he).1
  | false =>
   rw [c,aK] at he
   unfold uM at he
   rcases Gw he with w | w
   · refine ⟨p,k1,w,?_⟩
     rcases k2 with q | q | q
     · exact .inl q
     · rw [q] at c;cases c
     · exact .inr q
   · exact h e (List.mem_filter.1 w).1
theorem Ll (all:ai):∀ (r pre:ai) (s:J1),(∀ p ∈ pre,p ∈ all)→(∀ p ∈ r,p ∈ all)→EP all s.1→d5 (jH s.1)→s.1.length≤20→(gr pre r s).2.2=0→EP all (gr pre r s).1∧d5 (jH (gr pre r s).1)∧(gr pre r s).1.length≤20
 | [],pre,s,_,_,h1,h2,h3,_=>⟨h1,h2,h3⟩
 | p::r,pre,s,hp,hr,h1,h2,h3,z=>by
  by_cases c:s.2.2=0
  · have e:gr pre (p::r) s=gr (pre++[p]) r (iv pre p s):=by
     show (bif s.2.2 != 0 then _ else _)=_
     rw [c];rfl
    rw [e] at z ⊢
    have z0:(iv pre p s).2.2=0:=by
     by_cases w:(iv pre p s).2.2=0
     · exact w
     · rw [C_ w] at z
       exact absurd z w
    have hs:EP all (iv pre p s).1∧d5 (jH (iv pre p s).1)∧(iv pre p s).1.length≤20:=by
     have hc:∀ {x:aS},nf x s.2.2=0→x.length≤20:=fun {x} q=>by
      unfold nf at q
      split at q
      · cases q
      · omega
     unfold iv at z0 ⊢
     cases c3:p.2.2.2.1.1==3 with
     | true =>
      rw [c3] at z0
      simp only [ac] at z0 ⊢
      cases c4:ib p.2.2.2.1 (fX p.2.2.2.1.2.1 pre) with
      | true =>
       rw [c4] at z0
       exact ⟨xP _ h1 fun q hq=>by
        obtain ⟨g1,g2⟩:=w8 pre [] (fun _ w=>by cases w) q hq
        refine ⟨hp q (g2.resolve_left fun w=>by cases w),?_⟩
        rcases g1 with w | w
        · exact .inl w
        · exact .inr (.inl w),qg _ h2,hc z0⟩
      | false=>exact ⟨h1,h2,h3⟩
     | false =>
      rw [c3] at z0
      simp only [aK] at z0 ⊢
      cases c5:p.2.2.2.1.1==5 with
      | true =>
       rw [c5] at z0
       simp only [ac] at z0 ⊢
       cases c4:ib p.2.2.2.1 (cL pre) with
       | true =>
        rw [c4] at z0
        exact ⟨xP _ h1 fun q hq=>by
         obtain ⟨g1,g2⟩:=wZ pre [] (fun _ w=>by cases w) q hq
         exact ⟨hp q (g2.resolve_left fun w=>by cases w),.inr (.inr g1)⟩,qg _ h2,hc z0⟩
       | false=>exact ⟨h1,h2,h3⟩
      | false=>exact ⟨h1,h2,h3⟩
    exact Ll all r (pre++[p]) (iv pre p s) (fun q hq=>by
     rcases List.mem_append.1 hq with w | w
     · exact hp q w
     · rw [List.mem_singleton.1 w];exact hr p li) (fun q hq=>hr q (nX _ hq)) hs.1 hs.2.1 hs.2.2 z
  · rw [C_ c] at z
    exact absurd z c
theorem M2 (a b:Int):a≤oJ a b∧b≤oJ a b:=by unfold oJ;split <;> omega
theorem Hv (pre:ai) (p:Ty.d aC) (s:J1):(iv pre p s).2.1=oJ p.2.2.2.1.2.1 s.2.1:=by
 unfold iv
 cases p.2.2.2.1.1==3
 · cases p.2.2.2.1.1==5
   · rfl
   · cases ib p.2.2.2.1 (cL pre) <;> rfl
 · cases ib p.2.2.2.1 (fX p.2.2.2.1.2.1 pre) <;> rfl
theorem Bz:∀ (r pre:ai) (s:J1),(gr pre r s).2.2=0→s.2.1≤(gr pre r s).2.1∧(∀ p ∈ r,LE.le (α:=Int) p.2.2.2.1.2.1 (gr pre r s).2.1)∧∀ b:Int,s.2.1≤b→(∀ p ∈ r,LE.le (α:=Int) p.2.2.2.1.2.1 b)→(gr pre r s).2.1≤b
 | [],pre,s,_=>⟨Int.le_refl _,fun p hp=>(by cases hp),fun b h _=>h⟩
 | p::r,pre,s,z=>by
  by_cases c:s.2.2=0
  · have e:gr pre (p::r) s=gr (pre++[p]) r (iv pre p s):=by
     show (bif s.2.2 != 0 then _ else _)=_
     rw [c];rfl
    rw [e] at z ⊢
    obtain ⟨i1,i2,i3⟩:=Bz r (pre++[p]) (iv pre p s) z
    rw [Hv] at i1 i3
    have hm:=M2 p.2.2.2.1.2.1 s.2.1
    refine ⟨by omega,fun q hq=>?_,fun b h0 hb=>i3 b ?_ fun q hq=>hb q (nX _ hq)⟩
    · rcases List.mem_cons.1 hq with w | w
      · rw [w];exact Int.le_trans hm.1 i1
      · exact i2 q w
    · have:=hb p li
      unfold oJ
      split
      · exact this
      · exact h0
  · rw [C_ c] at z
    exact absurd z c
structure JT (pl:ai) (dir:aS) (b:Int):Prop where
 gr:∃ la,gr [] pl ([],0,0)=(dir,la,0)
 mark:cL pl=[]
 bat:∀ p ∈ pl,LT.lt (α:=Int) p.2.2.2.1.2.1 b
 lo:LE.le (α:=Int) 1 b
 hi:LE.le (α:=Int) b 1000001
def MI (st:Ty.d aF) (d:Ty.d aB):Prop:=∃ L,TX st d L∧JT (lT L) st.2.1 st.2.2.1
theorem Kr {r:Ty.d bA} (h:cF r=true) (hk:r.1=1∨r.1=4):gF r.2.2.1=true∧decide ((1:Int)≤r.2.1∧r.2.1≤1000000)=true:=by
 have hb:(r.1==1||r.1==4)=true:=by rcases hk with q | q <;> rw [q] <;> rfl
 unfold cF at h
 rw [hb,ac] at h
 simp only [iI] at h
 exact ⟨h.1,h.2.2.2.2⟩
theorem MI.store {st:Ty.d aF} {d:Ty.d aB} (h:MI st d):eN st d=true∧EI st:=by
 obtain ⟨L,t,j⟩:=h
 obtain ⟨la,hg⟩:=j.gr
 obtain ⟨n1,n2,n3,_⟩:=j6 (n:=st.1.1) (ids:=st.1.2.1) t.live
 obtain ⟨_,_,g1,_,_⟩:=cX (nx:=st.1.1) (ids:=st.1.2.1) t.live
 obtain ⟨e1,e2,e3⟩:=Ll (lT L) (lT L) [] ([],0,0) (fun p hp=>by cases hp) (fun p hp=>hp) (fun e he=>by cases he) List.Pairwise.nil (by decide) (by rw [hg])
 rw [hg] at e1 e2 e3
 have e1:EP (lT L) st.2.1:=e1
 have e2:d5 (jH st.2.1):=e2
 have e3:st.2.1.length≤20:=e3
 have hb:=t.bt
 refine ⟨?_,fun e he=>?_⟩
 · unfold eN
   rw [jR.2 t.disk,t.live,uX.2 ⟨e3,fun e he=>?_,e2⟩,aO ⟨j.lo,j.hi⟩,(uS t.disk).2 ⟨hb.full,fun _=>hb.tail⟩]
   · simp only [Bool.true_and]
     rw [List.all_eq_true]
     intro e he
     obtain ⟨p,hp,q,hk⟩:=e1 e he
     have pi:=yw t hp
     unfold o8
     rw [q,pi.read]
     have hbt:=j.bat p hp
     show (true&&(seq (gE p).2.2.1 (gE p).2.2.1&&(((gE p).2.1==(gE p).2.1)&&((((gE p).1==1)||((gE p).1==4))&&!decide ((gE p).2.1≥st.2.2.1)))))=true
     rw [bO,beq_self_eq_true,aQ (show ¬ (gE p).2.1≥st.2.2.1 from Int.not_le.2 hbt)]
     rcases hk with w | w
     · rw [show (gE p).1=1 from w];rfl
     · rw [show (gE p).1=4 from w];rfl
   · obtain ⟨p,hp,q,hk⟩:=e1 e he
     have pi:=yw t hp
     obtain ⟨k1,k2⟩:=Kr pi.ok hk
     rw [q]
     unfold Lm
     show (gF (gE p).2.2.1&&(decide ((1:Int)≤p.1∧p.1≤100000)&&(!decide (p.2.1<(0:Int))&&(decide ((1:Int)≤p.2.2.1∧p.2.2.1≤210)&&decide ((1:Int)≤(gE p).2.1∧(gE p).2.1≤1000000)))))=true
     rw [k1,k2,aO ⟨pi.lo,Cl pi.hi n2⟩,aQ (Int.not_lt.2 pi.at0),aO ⟨pi.len0,pi.len1⟩]
     rfl
 · obtain ⟨p,hp,q,_⟩:=e1 e he
   have pi:=yw t hp
   rw [q]
   exact ⟨pi.lo,pi.hi⟩
theorem xE {ids:List Int} {L:ri} (h:ids=L.map (·.1)) (h1:1≤ids.length):∃ L0 x,L=L0++[x]∧af ids=x.1:=by
 rcases List.eq_nil_or_concat L with e | ⟨L0,x,e⟩
 · rw [h,e] at h1
   cases h1
 · rw [List.concat_eq_append] at e
   refine ⟨L0,x,e,?_⟩
   rw [h,e,List.map_append,List.map_singleton,tr]
theorem D9 (x:Int) (rs:jt) (r:Ty.d bA):wl (x,rs++[r])=wl (x,rs)++[(x,(((ab rs).size:Int),(bE r,(r,()))))]:=by
 unfold wl bX
 show List.map _ (fe (rs++[r]) 0)=List.map _ (fe rs 0)++_
 rw [AY,List.map_append,Int.zero_add]
 rfl
theorem yF (L:ri) (x:Int × jt):lT (L++[x])=lT L++wl x:=by
 rw [GP]
 show lT L++(wl x++[])=_
 rw [List.append_nil]
theorem Ir {st:Ty.d aF} {d:Ty.d aB} {L:ri} (h:TX st d L) {r:Ty.d bA} (hr:cF r=true) :
 ∃ L',TX (kZ st d r).1.1 (kZ st d r).1.2.1 L'∧lT L'=lT L++(bif (kZ st d r).1.2.2==0 then [(kZ st d r).2] else [])∧((kZ st d r).1.2.2=0→gE (kZ st d r).2=r):=by
 obtain ⟨n1,n2,n3,n4⟩:=j6 (n:=st.1.1) (ids:=st.1.2.1) h.live
 obtain ⟨_,_,g1,_,_⟩:=cX (nx:=st.1.1) (ids:=st.1.2.1) h.live
 obtain ⟨L0,x,eL,el⟩:=xE h.ids g1
 have ha:=ql h.disk (dE st) (aP (aJ r))
 have ko:∀ s,dE st≠s→fT (j_ d (dE st) (aP (aJ r))).1 s=fT d s:=fun s q=>y9 q
 have kl:=uu (d:=d) (s:=dE st) (x:=aP (aJ r))
 have hact:dE st=aA aH x.1:=by unfold dE;rw [el]
 unfold kZ
 generalize j_ d (dE st) (aP (aJ r))=a at ha ko kl ⊢
 cases c:a.2 != 0 with
 | true =>
  have c0:(a.2==0)=false:=by unfold bne at c;simpa using c
  rw [c0,aK] at kl
  have all:∀ s,fT a.1 s=fT d s:=fun s=>by
   by_cases q:dE st=s
   · rw [← q];exact kl
   · exact ko s q
  have ht:((tl a).2==0)=false:=by
   have:=zZ a
   rw [c] at this
   unfold bne at this
   simpa using this
  refine ⟨L,⟨h.live,ha,h.ids,fun y hy=>⟨(all _).trans (h.text y hy).1,(h.text y hy).2⟩,fun t q=>h.tail t ((all _).symm.trans q)⟩,?_,fun q=>?_⟩
  · show lT L=lT L++(bif (tl a).2==0 then _ else [])
    rw [ht,aK,List.append_nil]
  · have q:(tl a).2=0:=q
    rw [q] at ht
    cases ht
 | false =>
  have c0:(a.2==0)=true:=beq_iff_eq.2 (iV c)
  have hx:x ∈ L:=by rw [eL];exact List.mem_append_right _ li
  obtain ⟨x1,x2⟩:=h.text x hx
  rw [c0,ac,hact,x1] at kl
  have kl:fT a.1 (aA aH x.1)=some (ab x.2++aP (aJ r)):=kl
  have e2:ab (x.2++[r])=ab x.2++aP (aJ r):=by rw [pN,yu]
  have hsz:st.2.2.2.1=((ab x.2).size:Int):=h.tail _ (by rw [hact];exact x1)
  have hm:x.1 ∈ st.1.2.1:=by rw [h.ids];exact List.mem_map.2 ⟨x,hx,rfl⟩
  simp only [aK]
  refine ⟨L0++[(x.1,x.2++[r])],⟨h.live,ha,?_,fun y hy=>?_,fun t q=>?_⟩,?_,fun _=>rfl⟩
  · show st.1.2.1=_
    rw [h.ids,eL,List.map_append,List.map_append]
    rfl
  · rcases List.mem_append.1 hy with w | w
    · have hyL:y ∈ L:=by rw [eL];exact List.mem_append_left _ w
      have hym:y.1 ∈ st.1.2.1:=by rw [h.ids];exact List.mem_map.2 ⟨y,hyL,rfl⟩
      have hne:y.1≠x.1:=by
       have hp:=n4
       rw [h.ids,eL,List.map_append] at hp
       have:=(List.pairwise_append.1 hp).2.2 y.1 (List.mem_map.2 ⟨y,w,rfl⟩) x.1 li
       omega
      refine ⟨?_,(h.text y hyL).2⟩
      show fT a.1 (aA aH y.1)=_
      rw [ko _ (by rw [hact];exact ot ⟨(n3 _ hm).1,Cl (n3 _ hm).2 n2⟩ ⟨(n3 _ hym).1,Cl (n3 _ hym).2 n2⟩ fun q=>hne q.symm)]
      exact (h.text y hyL).1
    · rw [List.mem_singleton.1 w]
      refine ⟨by show fT a.1 (aA aH x.1)=some (ab (x.2++[r]));rw [kl,e2],fun q hq=>?_⟩
      rcases List.mem_append.1 hq with v | v
      · exact x2 q v
      · rw [List.mem_singleton.1 v];exact hr
  · have q:fT a.1 (dE st)=some t:=q
    rw [hact,kl] at q
    rw [← Option.some.inj q,ByteArray.size_append]
    show @Eq Int (st.2.2.2.1+bE r) (((ab x.2).size+(aP (aJ r)).size:Nat):Int)
    rw [hsz]
    unfold bE
    omega
  · show lT (L0++[(x.1,x.2++[r])])=lT L++[(af st.1.2.1,(st.2.2.2.1,(bE r,(r,()))))]
    rw [yF,D9,eL,yF,rP,el,hsz]
theorem Mh {st:Ty.d aF} {d:Ty.d aB} {L:ri} (h:TX st d L):∃ L',TX (kx st d).1 (kx st d).2.1 L'∧lT L'=lT L:=by
 obtain ⟨n1,n2,n3,n4⟩:=j6 (n:=st.1.1) (ids:=st.1.2.1) h.live
 obtain ⟨f1,f2,_,_⟩:=sR h.live h.disk
 have hseg:∀ x:Int,x ∈ st.1.2.1→1≤x∧x≤100000:=fun x hx=>⟨(n3 x hx).1,Cl (n3 x hx).2 n2⟩
 have hnew:∀ x ∈ st.1.2.1,aA aH st.1.1≠aA aH x:=fun x hx=>ot ⟨n1,n2⟩ (hseg x hx) (by have:=(n3 x hx).2;omega)
 have k1:∀ x ∈ st.1.2.1,fT (gT d (dE st)).1 (aA aH x)=fT d (aA aH x):=fun x hx=>md
 have k2:∀ x ∈ st.1.2.1,fT (bU (aA aH st.1.1) (gT d (dE st)).1).1 (aA aH x)=fT d (aA aH x):=fun x hx=>(mf (hnew x hx)).trans md
 have k3:∀ x ∈ st.1.2.1,fT (br (lz st) (bU (aA aH st.1.1) (gT d (dE st)).1).1).1 (aA aH x)=fT d (aA aH x):=fun x hx=>(iQ (iD (hseg x hx)) (jN (hseg x hx))).trans (k2 x hx)
 have o2:=nL (s:=aA aH st.1.1) (d:=(gT d (dE st)).1)
 have o3:fT (br (lz st) (bU (aA aH st.1.1) (gT d (dE st)).1).1).1 (aA aH st.1.1)=fT (bU (aA aH st.1.1) (gT d (dE st)).1).1 (aA aH st.1.1):=iQ (iD ⟨n1,n2⟩) (jN ⟨n1,n2⟩)
 obtain ⟨_,_,g1,_,_⟩:=cX (nx:=st.1.1) (ids:=st.1.2.1) h.live
 obtain ⟨L0,x,eL,el⟩:=xE h.ids g1
 have hmem:∀ y ∈ L,y.1 ∈ st.1.2.1:=fun y hy=>by rw [h.ids];exact List.mem_map.2 ⟨y,hy,rfl⟩
 have hx:x ∈ L:=by rw [eL];exact List.mem_append_right _ li
 have same:∀ (st':Ty.d aF) (y:Ty.d aB),dL st'.1=true→DR y→st'.1.2.1=st.1.2.1→st'.2.2.2.1=st.2.2.2.1→(∀ x ∈ st.1.2.1,fT y (aA aH x)=fT d (aA aH x))→∃ L',TX st' y L'∧lT L'=lT L:=fun st' y hl hd hi hs hk =>
  ⟨L,⟨hl,hd,hi.trans h.ids,fun z hz=>⟨(hk _ (hmem z hz)).trans (h.text z hz).1,(h.text z hz).2⟩,fun t q=>by
   rw [hs]
   refine h.tail t ?_
   have e:dE st'=aA aH x.1:=by unfold dE;rw [hi,el]
   have e':dE st=aA aH x.1:=by unfold dE;rw [el]
   rw [e,hk _ (hmem x hx)] at q
   rw [e']
   exact q⟩,rfl⟩
 unfold kx at f1 f2 ⊢
 by_cases c1:(st.1.2.1.length:Int)≥60
 · rw [aO c1]
   exact ⟨L,h,rfl⟩
 by_cases c2:st.1.1≥(100000:Int)
 · rw [aQ c1,aO c2]
   exact ⟨L,h,rfl⟩
 rw [aQ c1,aQ c2] at f1 f2 ⊢
 simp only [aK] at f1 f2 ⊢
 generalize gT d (dE st)=r1 at k1 k2 k3 o2 o3 f1 f2 ⊢
 generalize bU (aA aH st.1.1) r1.1=r2 at k2 k3 o2 o3 f1 f2 ⊢
 generalize br (lz st) r2.1=r3 at k3 o3 f1 f2 ⊢
 cases e1:r1.2 != 0 with
 | true=>rw [e1] at f1 f2;exact same _ _ f1 f2 rfl rfl k1
 | false =>
  rw [e1] at f1 f2
  simp only [aK] at f1 f2 ⊢
  cases e2:r2.2 != 0 with
  | true=>rw [e2] at f1 f2;exact same _ _ f1 f2 rfl rfl k2
  | false =>
   rw [e2] at f1 f2
   simp only [aK] at f1 f2 ⊢
   cases e3:r3.2 != 0 with
   | true =>
    rw [e3] at f1 f2
    refine same _ _ f1 f2 rfl rfl fun y hy=>?_
    show fT (pe (aA aH st.1.1) (tl r3)).1 _=_
    unfold pe
    cases (tl r3).2==2 with
    | false=>exact k3 y hy
    | true =>
     refine (nj [jE,aA aH st.1.1] r3.1 fun s hs=>?_).trans (k3 y hy)
     rcases List.mem_cons.1 hs with e | e
     · rw [e];exact iD (hseg y hy)
     · rw [List.mem_singleton.1 e];exact hnew y hy
   | false =>
    rw [e3] at f1 f2
    have o2:=o2 (iV e2)
    refine ⟨L++[(st.1.1,[])],⟨f1,f2,?_,fun y hy=>?_,fun u hu=>?_⟩,?_⟩
    · show st.1.2.1++[st.1.1]=_
      rw [List.map_append,← h.ids]
      rfl
    · rcases List.mem_append.1 hy with w | w
      · exact ⟨(k3 _ (hmem y w)).trans (h.text y w).1,(h.text y w).2⟩
      · rw [List.mem_singleton.1 w]
        exact ⟨o3.trans o2,fun q hq=>by cases hq⟩
    · have hu:fT r3.1 (aA aH (af (st.1.2.1++[st.1.1])))=some u:=hu
      rw [tr,o3,o2] at hu
      rw [← Option.some.inj hu]
      rfl
    · rw [yF]
      exact List.append_nil _
theorem MQ {st:Ty.d aF} {d:Ty.d aB} {L:ri} (h:TX st d L) {r:Ty.d bA} (hr:cF r=true) :
 ∃ L',TX (gM st d r).1.1 (gM st d r).1.2.1 L'∧lT L'=lT L++(bif (gM st d r).1.2.2==0 then [(gM st d r).2] else [])∧((gM st d r).1.2.2=0→gE (gM st d r).2=r):=by
 unfold gM
 cases decide (st.2.2.2.1 > 0)&&decide (st.2.2.2.1+bE r > 200) with
 | false=>exact Ir h hr
 | true =>
  simp only [ac]
  obtain ⟨L1,t1,e1⟩:=Mh h
  generalize kx st d=q at t1 ⊢
  cases c:q.2.2 != 0 with
  | true =>
   have c0:(q.2.2==0)=false:=by unfold bne at c;simpa using c
   refine ⟨L1,t1,?_,fun z=>?_⟩
   · show lT L1=lT L++(bif q.2.2==0 then _ else [])
     rw [c0,aK,List.append_nil,e1]
   · have z:q.2.2=0:=z
     rw [z] at c0
     cases c0
  | false =>
   simp only [aK]
   obtain ⟨L2,t2,e2,e3⟩:=Ir t1 hr
   exact ⟨L2,t2,by rw [e2,e1],e3⟩
theorem GJ:∀ (l:jt) (st:Ty.d aF) (d:Ty.d aB) (ps:ai) (L:ri),TX st d L→(∀ r ∈ l,cF r=true) →
 ∃ L' q,TX (fJ l st d ps).1.1 (fJ l st d ps).1.2.1 L'∧lT L'=lT L++q∧q.map gE=l.take q.length∧((fJ l st d ps).1.2.2=0→(fJ l st d ps).2=ps++q∧q.length=l.length)∧((fJ l st d ps).1.2.2≠0→q.length<l.length)
 | [],st,d,ps,L,h,_=>⟨L,[],h,(List.append_nil _).symm,rfl,fun _=>⟨(List.append_nil _).symm,rfl⟩,fun z=>absurd rfl z⟩
 | r::l,st,d,ps,L,h,hr=>by
  obtain ⟨L1,t1,e1,e2⟩:=MQ h (hr r li)
  unfold fJ
  generalize gM st d r=a at t1 e1 e2 ⊢
  cases c:a.1.2.2 != 0 with
  | true =>
   have c0:(a.1.2.2==0)=false:=by unfold bne at c;simpa using c
   rw [c0,aK] at e1
   refine ⟨L1,[],t1,e1,rfl,fun z=>?_,fun _=>Nat.zero_lt_succ _⟩
   have z:a.1.2.2=0:=z
   rw [z] at c0
   cases c0
  | false =>
   have c0:=iV c
   rw [show (a.1.2.2==0)=true from beq_iff_eq.2 c0,ac] at e1
   obtain ⟨L2,q,t2,f1,f2,f3,f4⟩:=GJ l a.1.1 a.1.2.1 (ps++[a.2]) L1 t1 fun x hx=>hr x (nX _ hx)
   simp only [aK]
   refine ⟨L2,a.2::q,t2,by rw [f1,e1,rP];rfl,?_,fun z=>?_,fun z=>?_⟩
   · rw [List.map_cons,mB,List.take_succ_cons,f2,e2 c0]
   · obtain ⟨g1,g2⟩:=f3 z
     exact ⟨by rw [g1,rP];rfl,by rw [mB,mB,g2]⟩
   · have:=f4 z
     rw [mB,mB]
     omega
structure DS (d:Ty.d aB):Prop where
 l:d.1.length≤131
 u:dl d.1≤200000
 n:rL d.1≤10000
theorem DS.sz {d:Ty.d aB} (h:DS d):An d:=⟨by have:=h.l;omega,by have:=h.u;omega,by have:=h.n;omega⟩
inductive CE (st:Ty.d aF) (d:Ty.d aB) (l:gn):Prop
 | no (c:Int) (hc:c=4∨c=5) (e:dp st d l=(st,(d,c)))
 | none (hs:eN st d=true) (hl:l.length=0) (e:dp st d l=(st,(d,0)))
 | done (hs:eN st d=true) (hp:fR l=true) (hl:l.length≠0) (ha:nG st.2.1 l≤20) (hb:LE.le (α:=Int) st.2.2.1 1000000) (e:dp st d l=gu st d l)
theorem FX (st:Ty.d aF) (d:Ty.d aB) (l:gn):CE st d l:=by
 cases c1:eN st d with
 | false=>exact .no 4 (.inl rfl) (by unfold dp;rw [c1];rfl)
 | true =>
  cases c2:fR l with
  | false=>exact .no 4 (.inl rfl) (by unfold dp;rw [c1,c2];rfl)
  | true =>
   by_cases c3:l.length=0
   · exact .none c1 c3 (by unfold dp;rw [c1,c2,c3];rfl)
   · have c3':((l.length:Int)==0)=false:=mT (by omega)
     by_cases c4:nG st.2.1 l > 20
     · exact .no 5 (.inr rfl) (by unfold dp;rw [c1,c2,c3',aO c4];rfl)
     · by_cases c5:st.2.2.1 > (1000000:Int)
       · exact .no 5 (.inr rfl) (by unfold dp;rw [c1,c2,c3',aQ c4,aO c5];rfl)
       · exact .done c1 c2 c3 (by omega) (Int.not_lt.1 c5) (by unfold dp;rw [c1,c2,c3',aQ c4,aQ c5];rfl)
theorem HZ (st:Ty.d aF) (d:Ty.d aB):(kx st d).1.2.2.1=st.2.2.1:=by
 unfold kx
 cases decide ((st.1.2.1.length:Int)≥60) with
 | true=>rfl
 | false =>
  cases decide (st.1.1≥(100000:Int)) with
  | true=>rfl
  | false =>
   simp only [aK]
   generalize gT d (dE st)=r1
   generalize bU (aA aH st.1.1) r1.1=r2
   generalize br (lz st) r2.1=r3
   cases r1.2 != 0 with
   | true=>rfl
   | false =>
    cases r2.2 != 0 with
    | true=>rfl
    | false =>
     cases r3.2 != 0 with
     | true=>rfl
     | false=>rfl
theorem AF (st:Ty.d aF) (d:Ty.d aB) (r:Ty.d bA):(kZ st d r).1.1.2.2.1=st.2.2.1:=by
 unfold kZ
 generalize j_ d (dE st) (aP (aJ r))=a
 cases a.2 != 0 <;> rfl
theorem HW (st:Ty.d aF) (d:Ty.d aB) (r:Ty.d bA):(gM st d r).1.1.2.2.1=st.2.2.1:=by
 have h:=HZ st d
 unfold gM
 cases decide (st.2.2.2.1 > 0)&&decide (st.2.2.2.1+bE r > 200) with
 | false=>exact AF st d r
 | true =>
  simp only [ac]
  generalize kx st d=q at h ⊢
  cases q.2.2 != 0 with
  | true=>exact h
  | false=>exact (AF q.1 q.2.1 r).trans h
theorem xz:∀ (l:jt) (st:Ty.d aF) (d:Ty.d aB) (ps:ai),(fJ l st d ps).1.1.2.2.1=st.2.2.1
 | [],_,_,_=>rfl
 | r::l,st,d,ps=>by
  have h:=HW st d r
  unfold fJ
  generalize gM st d r=q at h ⊢
  cases q.1.2.2 != 0 with
  | true=>exact h
  | false=>exact (xz l _ _ _).trans h
theorem Jz (l:gn) (b:Int):(ja l b).length=l.length+1:=by
 unfold ja
 rw [zT,List.length_map]
 rfl
def dn (d:Ty.d aB):Bool:=d.2.2.2.1
theorem Jo {d:Ty.d aB} {n t:ByteArray} (hd:DR d) (ht:fT d n=some t) (z:(gT d n).2≠0):dn (gT d n).1=true:=by
 have hn:(bw d.1 n).isNone=false:=by
  cases q:bw d.1 n with
  | none=>rw [KT.1 q] at ht;cases ht
  | some f=>rfl
 unfold gT jk at z ⊢
 have hb:(kM d).2≠0→dn (kM d).1=true:=fun q=>by
  unfold kM at q ⊢
  rw [jR.2 hd] at q ⊢
  simp only [fC,aK] at q ⊢
  cases c1:d.2.2.2.1 with
  | true=>rfl
  | false =>
   rw [c1] at q
   simp only [aK] at q ⊢
   cases c2:(d.2.2.1==0) with
   | true=>rfl
   | false =>
    rw [c2] at q
    simp only [aK] at q
    cases c3:decide ((d.2.2.1:Int) > 0) with
    | true=>rw [c3] at q;exact absurd rfl q
    | false=>rw [c3] at q;exact absurd rfl q
 cases c:(kM d).2 != 0 with
 | true =>
  rw [ac]
  exact hb (bne_iff_ne.1 c)
 | false =>
  rw [c,aK] at z
  exfalso
  unfold wx at z
  rw [hn] at z
  exact z rfl
theorem Jk {st:Ty.d aF} {d:Ty.d aB} {L:ri} (h:TX st d L):∃ t,fT d (dE st)=some t:=by
 obtain ⟨_,_,g1,_,_⟩:=cX (nx:=st.1.1) (ids:=st.1.2.1) h.live
 obtain ⟨L0,x,eL,el⟩:=xE h.ids g1
 exact ⟨_,by unfold dE;rw [el];exact (h.text x (by rw [eL];exact List.mem_append_right _ li)).1⟩
theorem vV (b:Int) (x:Ty.d aY):((gL b x).1=1∨(gL b x).1=2)∧(gL b x).2.1=b:=by
 unfold gL
 cases x.2.1 with
 | true=>exact ⟨.inr rfl,rfl⟩
 | false=>exact ⟨.inl rfl,rfl⟩
theorem tq {q:ai} {l:gn} {b:Int} {n:Nat} (h:q.map gE=(l.map (gL b)).take n):∀ p ∈ q,plain p∧p.2.2.2.1.2.1=b:=fun p hp=>by
 have hm:gE p ∈ (l.map (gL b)).take n:=by rw [← h];exact List.mem_map.2 ⟨p,hp,rfl⟩
 obtain ⟨x,_,e⟩:=List.mem_map.1 (List.mem_of_mem_take hm)
 obtain ⟨h1,h2⟩:=vV b x
 rw [e] at h1 h2
 exact ⟨h1,h2⟩
theorem HX {pre own:ai} {s:Ty.d aC} {l:gn} {b:Int} {dir:aS} {la:Int} (hp:∀ p ∈ pre,p.2.2.2.1.2.1≠b) (ho:own.map gE=l.map (gL b)) (hs:gE s=fk 3 b (l.map (gL b))) (h20:(bx dir own).length≤20) :
 ∃ la',iv (pre++own) s (dir,la,0)=(bx dir own,la',0):=by
 have hown:∀ p ∈ own,plain p∧p.2.2.2.1.2.1=b:=tq (n:=(l.map (gL b)).length) (by rw [List.take_length];exact ho)
 have hk:s.2.2.2.1=fk 3 b (l.map (gL b)):=hs
 have e:fX b (pre++own)=own:=by
  rw [vq]
  show own.foldl (fq b) (pre.foldl (fq b) [])=_
  rw [yr pre [] hp,DD own [] hown,List.nil_append]
 have hf:ib (fk 3 b (l.map (gL b))) own=true:=by
  unfold ib fk
  have:own.map zN=l.map (gL b):=ho
  rw [this,beq_self_eq_true,← ho,List.length_map,beq_self_eq_true]
  rfl
 refine ⟨oJ b la,?_⟩
 unfold iv
 rw [hk]
 show (bif (3:Int)==3 then (bif ib (fk 3 b (l.map (gL b))) (fX b (pre++own)) then (bx dir (fX b (pre++own)),oJ b la,nf (bx dir (fX b (pre++own))) 0) else _) else _)=_
 rw [e,hf]
 show (bx dir own,oJ b la,nf (bx dir own) 0)=_
 unfold nf
 rw [if_neg (by omega)]
theorem J9 {st:Ty.d aF} {d:Ty.d aB} {l:gn} (h:MI st d) (hp:fR l=true) (hb:LE.le (α:=Int) st.2.2.1 1000000) (ha:nG st.2.1 l≤20) (hn:dn (gu st d l).2.1=false):MI (gu st d l).1 (gu st d l).2.1:=by
 obtain ⟨hs,he⟩:=h.store
 have hw:=Dm hs he hp hb ha
 obtain ⟨L,t,j⟩:=h
 obtain ⟨la,hg⟩:=j.gr
 have t0:TX (rM st) d L:=⟨t.live,t.disk,t.ids,t.text,t.tail⟩
 obtain ⟨L',q,t1,e1,e2,e3,e4⟩:=GJ (ja l st.2.2.1) (rM st) d [] L t0 (H4 hp j.lo hb)
 have hdir:(fJ (ja l st.2.2.1) (rM st) d []).1.1.2.1=st.2.1:=by
  obtain ⟨g1,_,_⟩:=kH hs
  exact (qo (ja l st.2.2.1) (rM st) d [] 100000 ⟨g1.live,g1.disk,g1.lo,g1.hi⟩ (by decide)).2.1
 have hbat:(fJ (ja l st.2.2.1) (rM st) d []).1.1.2.2.1=(st.2.2.1+1:Int):=xz _ _ _ _
 have hlen:=Jz l st.2.2.1
 obtain ⟨b1,b2⟩:=NL j.lo hb
 have hbq:∀ p ∈ q,p.2.2.2.1.2.1=st.2.2.1:=fun p hp=>by
  have hm:gE p ∈ ja l st.2.2.1:=List.mem_of_mem_take (by rw [← e2];exact List.mem_map.2 ⟨p,hp,rfl⟩)
  unfold ja at hm
  rcases List.mem_append.1 hm with w | w
  · obtain ⟨x,_,e⟩:=List.mem_map.1 w
    have:=(vV st.2.2.1 x).2
    rw [e] at this
    exact this
  · have:=List.mem_singleton.1 w
    show (gE p).2.1=_
    rw [this]
    rfl
 have hbat2:∀ p ∈ lT L',LT.lt (α:=Int) p.2.2.2.1.2.1 (st.2.2.1+1):=fun p hp=>by
  rw [e1] at hp
  rcases List.mem_append.1 hp with w | w
  · exact Int.lt_trans (j.bat p w) (Int.lt_succ _)
  · rw [hbq p w];exact Int.lt_succ _
 have hmark:∀ q':ai,(∀ p ∈ q',p ∈ q)→cL (lT L++q')=[]:=fun q' hq=>by
  rw [nr,j.mark]
  refine xN q' [] fun p hp=>?_
  have hm:gE p ∈ ja l st.2.2.1:=List.mem_of_mem_take (by rw [← e2];exact List.mem_map.2 ⟨p,hq p hp,rfl⟩)
  unfold ja at hm
  rcases List.mem_append.1 hm with w | w
  · obtain ⟨x,_,e⟩:=List.mem_map.1 w
    have:=(vV st.2.2.1 x).1
    rw [e] at this
    have this:p.2.2.2.1.1=1∨p.2.2.2.1.1=2:=this
    rcases this with v | v <;> rw [v] <;> exact ⟨by decide,by decide⟩
  · have:=List.mem_singleton.1 w
    have e:p.2.2.2.1.1=3:=by
     show (gE p).1=3
     rw [this]
     rfl
    rw [e]
    exact ⟨by decide,by decide⟩
 have some:q.length≤l.length→JT (lT L') st.2.1 (st.2.2.1+1):=fun hq=>by
  have e2':q.map gE=(l.map (gL st.2.2.1)).take q.length:=by
   rw [e2]
   unfold ja
   rw [List.take_append_of_le_length (by rw [List.length_map];exact hq)]
  obtain ⟨la',hla⟩:=xV q (lT L) st.2.1 la fun p hp=>(tq e2' p hp).1
  refine ⟨⟨la',?_⟩,by rw [e1];exact hmark q fun p hp=>hp,hbat2,b1,b2⟩
  rw [e1,tP,hg]
  exact hla
 unfold gu at hn hw ⊢
 generalize fJ (ja l st.2.2.1) (rM st) d []=a at t1 e3 e4 hdir hbat hn hw ⊢
 unfold ur at hn hw ⊢
 cases c:a.1.2.2 != 0 with
 | true =>
  have hlt:=e4 (bne_iff_ne.1 c)
  refine ⟨L',t1,?_⟩
  show JT (lT L') a.1.1.2.1 a.1.1.2.2.1
  rw [hdir,hbat]
  exact some (by omega)
 | false =>
  rw [c] at hn hw
  simp only [aK] at hn hw ⊢
  obtain ⟨f1,f2⟩:=e3 (iV c)
  obtain ⟨tt,ht⟩:=Jk t1
  have hsd:=fun z=>Jo t1.disk ht z
  have hsf:∀ s,fT (gT a.1.2.1 (dE a.1.1)).1 s=fT a.1.2.1 s:=fun s=>md
  have hsD:=nP t1.disk (dE a.1.1)
  generalize gT a.1.2.1 (dE a.1.1)=y at hn hw hsd hsf hsD ⊢
  cases c2:y.2 != 0 with
  | true =>
   rw [c2] at hn
   have hn:dn y.1=false:=hn
   rw [hsd (bne_iff_ne.1 c2)] at hn
   cases hn
  | false =>
   rw [c2] at hw
   simp only [aK] at hw ⊢
   obtain ⟨s1,_⟩:=hw trivial
   have h20:=qy s1
   refine ⟨L',⟨t1.live,hsD,t1.ids,fun x hx=>⟨(hsf _).trans (t1.text x hx).1,(t1.text x hx).2⟩,fun t q=>t1.tail t ((hsf _).symm.trans q)⟩,?_⟩
   show JT (lT L') (bx a.1.1.2.1 (a.2.take l.length)) a.1.1.2.2.1
   have h20:(bx a.1.1.2.1 (a.2.take l.length)).length≤20:=h20
   rw [hdir,f1,List.nil_append] at h20
   rw [hdir,hbat,f1,List.nil_append]
   have hq1:q.length=l.length+1:=by omega
   obtain ⟨own,s,eq⟩:∃ own s,q=own++[s]:=by
    rcases List.eq_nil_or_concat q with w | ⟨a',b',w⟩
    · rw [w] at hq1;cases hq1
    · exact ⟨a',b',by rw [w,List.concat_eq_append]⟩
   subst eq
   have ho1:own.length=l.length:=by
    rw [zT,List.length_singleton] at hq1
    omega
   have et:(own++[s]).take l.length=own:=by rw [← ho1];exact List.take_left
   rw [et] at h20 ⊢
   have e2f:(own++[s]).map gE=ja l st.2.2.1:=by rw [e2,f2,List.take_length]
   rw [List.map_append] at e2f
   unfold ja at e2f
   obtain ⟨m1,m2⟩:=List.append_inj e2f (by rw [List.length_map,List.length_map];exact ho1)
   have m2:gE s=fk 3 st.2.2.1 (l.map (gL st.2.2.1)):=(List.cons.inj m2).1
   have hown:∀ p ∈ own,plain p∧p.2.2.2.1.2.1=st.2.2.1:=tq (n:=(l.map (gL st.2.2.1)).length) (by rw [List.take_length];exact m1)
   obtain ⟨la1,hla1⟩:=xV own (lT L) st.2.1 la fun p hp=>(hown p hp).1
   obtain ⟨la2,hla2⟩:=HX (pre:=lT L) (own:=own) (s:=s) (dir:=st.2.1) (la:=la1) (fun p hp=>Int.ne_of_lt (j.bat p hp)) m1 m2 h20
   refine ⟨⟨la2,?_⟩,by rw [e1];exact hmark _ fun p hp=>hp,hbat2,b1,b2⟩
   rw [e1,tP,hg]
   show gr (lT L) (own++[s]) (st.2.1,la,0)=_
   rw [tP,hla1]
   exact hla2
theorem Ha {st:Ty.d aF} {d:Ty.d aB} (l:gn) (h:MI st d) (hn:dn (dp st d l).2.1=false):MI (dp st d l).1 (dp st d l).2.1:=by
 rcases FX st d l with ⟨c,hc,e⟩ | ⟨hs,hl,e⟩ | ⟨hs,hp,hl,ha,hb,e⟩
 · rw [e];exact h
 · rw [e];exact h
 · rw [e] at hn ⊢
   exact J9 h hp hb ha hn
theorem DF {a b:Int} (h:a≤b):∀ (l:List Int) (p:Option Int),p8 (o6 a) p l=true→p8 (o6 b) p l=true
 | [],_,_=>rfl
 | x::l,p,q=>by
  unfold p8 at q ⊢
  rw [iI] at q ⊢
  refine ⟨?_,DF h l (some x) q.2⟩
  have q1:=q.1
  unfold o6 at q1 ⊢
  rw [iI,decide_eq_true_eq] at q1 ⊢
  exact ⟨⟨q1.1.1,Int.le_trans q1.1.2 h⟩,q1.2⟩
theorem Hb {n:Int} {ids:List Int} (h:dL (n,(ids,()))=true) (hn:n+2≤100000):dL (n+2,(ids,()))=true:=by
 obtain ⟨g1,g2,_⟩:=cX h
 unfold dL at h ⊢
 simp only [iI,decide_eq_true_eq] at h ⊢
 rw [aE (n:=n+2-1) (by omega) (by omega)]
 rw [aE (n:=n-1) (by omega) (by omega)] at h
 exact ⟨⟨show (1:Int)≤n+2 by omega,show n+2≤(100000:Int) from hn⟩,h.2.1,DF (by omega) _ _ h.2.2⟩
theorem xX:∀ (q pre:ai) (d:aS) (la:Int),(∀ p ∈ q,p.2.2.2.1.1≠3∧p.2.2.2.1.1≠5)→∃ la',gr pre q (d,la,0)=(d,la',0)
 | [],_,d,la,_=>⟨la,rfl⟩
 | p::q,pre,d,la,h=>by
  obtain ⟨h3,h5⟩:=h p li
  obtain ⟨la',e⟩:=xX q (pre++[p]) d (oJ p.2.2.2.1.2.1 la) fun x hx=>h x (nX _ hx)
  refine ⟨la',?_⟩
  unfold gr iv
  rw [mT h3,mT h5]
  exact e
theorem tf:∀ (q acc:ai),(∀ p ∈ q,p.2.2.2.1.1=4)→q.foldl gY acc=acc++q
 | [],acc,_=>(List.append_nil acc).symm
 | p::q,acc,h=>by
  have e:gY acc p=acc++[p]:=by
   unfold gY
   rw [h p li]
   rfl
  rw [List.foldl_cons,e,tf q (acc++[p]) fun x hx=>h x (nX _ hx),rP]
  rfl
theorem Gn {dir:aS} {e:Ty.d a_} (h:∀ x ∈ dir,oG x.1 e.1=true):uM dir e=dir++[e]:=by
 have h1:kV dir e.1=dir:=by
  unfold kV
  refine List.filter_eq_self.2 fun x hx=>?_
  have hs:=h x hx
  cases c:seq x.1 e.1 with
  | false=>rfl
  | true =>
   rw [dS.1 c] at hs
   exact absurd hs (by rw [qn];decide)
 unfold uM ve
 rw [h1]
 obtain ⟨w1,w2⟩:=AP (p:=Lr e.1) (l:=dir) fun x hx=>by
  unfold Lr
  rw [h x hx]
  rfl
 rw [w1,w2]
theorem vy (m:Int):∀ (l:kw) (a:Int) (dir:aS),d5 (jH dir++l.map (·.1))→bx dir (bX m (fe (l.map bQ) a))=dir++mn m l a
 | [],a,dir,_=>(List.append_nil dir).symm
 | p::l,a,dir,h=>by
  have e0:gV dir (m,(a,(bE (bQ p),(bQ p,()))))=dir++[(p.1,(m,(a,(bE (bQ p),(p.2.2.1,())))))]:=by
   unfold gV
   show uM dir (p.1,(m,(a,(bE (bQ p),(p.2.2.1,())))))=_
   refine Gn fun x hx=>?_
   rw [List.map_cons] at h
   exact (List.pairwise_append.1 h).2.2 x.1 (List.mem_map.2 ⟨x,hx,rfl⟩) p.1 li
  show bx (gV dir (m,(a,(bE (bQ p),(bQ p,()))))) (bX m (fe (l.map bQ) (a+bE (bQ p))))=_
  rw [e0,vy m l (a+bE (bQ p)) _ (by
   unfold jH
   rw [List.map_append,rP]
   exact h),rP]
  rfl
theorem Hj {st:Ty.d aF} {d:Ty.d aB} (h:eN st d=true):(∀ r ∈ kq (kB st.2.1 d).1 (st.2.2.1-1),cF r=true)∧∀ p ∈ (kB st.2.1 d).1,LT.lt (α:=Int) p.2.2.1 st.2.2.1:=by
 obtain ⟨k1,k2⟩:=Ag h
 obtain ⟨b1,b2⟩:=zC h
 have h20:=qy h
 have hz:=sP st.2.1 d
 refine ⟨fun r hr=>?_,fun p hp=>?_⟩
 · unfold kq at hr
   rcases List.mem_append.1 hr with q | q
   · obtain ⟨p,hp,rfl⟩:=List.mem_map.1 q
     exact k1 p hp
   · rw [List.mem_singleton.1 q]
     have hs:=Gp ((kB st.2.1 d).1.map bQ)
     unfold cF fk
     rw [show ((5:Int)==1||(5:Int)==4)=false from rfl,show ((5:Int)==2)=false from rfl,show ((5:Int)==3)=false from rfl,show ((5:Int)==5)=true from rfl]
     simp only [aK,ac]
     rw [aO (show (0:Int)≤(((kB st.2.1 d).1.map bQ).length:Int)∧(((kB st.2.1 d).1.map bQ).length:Int)≤20 by rw [List.length_map];omega),aO hs,aO (Kh b1 b2),show seq ByteArray.empty ⟨#[]⟩=true from bO _]
     rfl
 · rw [HI h] at hp
   obtain ⟨e,he,rfl⟩:=List.mem_map.1 hp
   unfold eN at h
   simp only [iI] at h
   have hin:=List.all_eq_true.1 h.2.2.2.2.2 e he
   unfold o8 at hin
   simp only [iI,beq_iff_eq,Bool.not_eq_true',decide_eq_false_iff_not] at hin
   show LT.lt (α:=Int) (eR d e).1.2.1 st.2.2.1
   rw [hin.2.2.1]
   exact Int.not_le.1 hin.2.2.2.2
theorem AM {pre:ai} {p:Ty.d aC} {dir:aS} {la:Int} (hk:p.2.2.2.1.1=5) (hf:ib p.2.2.2.1 (cL pre)=true) (h20:(bx dir (cL pre)).length≤20):iv pre p (dir,la,0)=(bx dir (cL pre),oJ p.2.2.2.1.2.1 la,0):=by
 unfold iv
 rw [hk,show ((5:Int)==3)=false from rfl,aK,show ((5:Int)==5)=true from rfl,ac,hf,ac]
 show (bx dir (cL pre),oJ p.2.2.2.1.2.1 la,nf (bx dir (cL pre)) 0)=_
 unfold nf
 rw [if_neg (by omega)]
theorem LA {m b:Int} {l:kw} (hk:d5 (l.map (·.1))) (h20:l.length≤20) (hb:∀ p ∈ l,LT.lt (α:=Int) p.2.2.1 b) (b1:LE.le (α:=Int) 1 b) (b2:LE.le (α:=Int) b 1000001):JT (lT [(m,kq l (b-1)),(m+1,[])]) (mn m l 0) b:=by
 have e0:lT [(m,kq l (b-1)),(m+1,[])]=bX m (fe (l.map bQ) 0)++[(m,(((ab (l.map bQ)).size:Int),(bE (fk 5 (b-1) (l.map bQ)),(fk 5 (b-1) (l.map bQ),()))))]:=by
  show wl (m,kq l (b-1))++([]++[])=_
  rw [List.append_nil,List.append_nil]
  unfold kq
  exact D9 m (l.map bQ) _
 have hq:∀ p ∈ bX m (fe (l.map bQ) 0),p.2.2.2.1 ∈ l.map bQ:=fun p hp=>by
  have:∀ (rs:jt) (a:Int),∀ x ∈ fe rs a,x.2.2.1 ∈ rs:=by
   intro rs
   induction rs with
   | nil=>exact fun a x hx=>by cases hx
   | cons r rs ih =>
    intro a x hx
    rw [fe] at hx
    rcases List.mem_cons.1 hx with w | w
    · rw [w];exact li
    · exact nX _ (ih _ x w)
  unfold bX at hp
  obtain ⟨x,hx,rfl⟩:=List.mem_map.1 hp
  exact this _ _ x hx
 have h4:∀ p ∈ bX m (fe (l.map bQ) 0),p.2.2.2.1.1=4∧LT.lt (α:=Int) p.2.2.2.1.2.1 b:=fun p hp=>by
  obtain ⟨x,hx,e⟩:=List.mem_map.1 (hq p hp)
  rw [← e]
  exact ⟨rfl,hb x hx⟩
 have hrec:∀ (rs:jt) (a:Int),(bX m (fe rs a)).map zN=rs:=by
  intro rs
  induction rs with
  | nil=>exact fun _=>rfl
  | cons r rs ih =>
   intro a
   show r::(bX m (fe rs (a+bE r))).map zN=_
   rw [ih]
 have hown:cL (bX m (fe (l.map bQ) 0))=bX m (fe (l.map bQ) 0):=by
  unfold cL
  rw [tf _ _ fun p hp=>(h4 p hp).1,List.nil_append]
 have hf:ib (fk 5 (b-1) (l.map bQ)) (bX m (fe (l.map bQ) 0))=true:=by
  have hl:(bX m (fe (l.map bQ) 0)).length=(l.map bQ).length:=by
   have:=congrArg List.length (hrec (l.map bQ) 0)
   rw [List.length_map] at this
   exact this
  unfold ib fk
  rw [hrec,hl,beq_self_eq_true,beq_self_eq_true]
  rfl
 have ha:bx [] (bX m (fe (l.map bQ) 0))=mn m l 0:=by
  rw [vy m l 0 [] hk,List.nil_append]
 rw [e0]
 obtain ⟨la,hla⟩:=xX (bX m (fe (l.map bQ) 0)) [] [] 0 fun p hp=>by
  rw [(h4 p hp).1]
  exact ⟨by decide,by decide⟩
 generalize bX m (fe (l.map bQ) 0)=pl at h4 hown hf ha hla ⊢
 refine ⟨⟨oJ (b-1) la,?_⟩,?_,fun p hp=>?_,b1,b2⟩
 · rw [tP,hla,List.nil_append]
   have e:=AM (pre:=pl) (p:=(m,(((ab (l.map bQ)).size:Int),(bE (fk 5 (b-1) (l.map bQ)),(fk 5 (b-1) (l.map bQ),()))))) (dir:=[]) (la:=la) rfl (by rw [hown];exact hf) (by rw [hown,ha,vG];exact h20)
   rw [hown,ha] at e
   exact e
 · rw [nr]
   rfl
 · rcases List.mem_append.1 hp with w | w
   · exact (h4 p w).2
   · rw [List.mem_singleton.1 w]
     show LT.lt (α:=Int) (b-1) b
     exact Int.sub_lt_self b (by decide)
theorem Fy {hb:ByteArray→ByteArray} {st:Ty.d aF} {d:Ty.d aB} {l:kw} (hl:dL st.1=true) (hd:DR d) (hn:LE.le (α:=Int) (st.1.1+2) 100000) :
 ((dk hb st d l).1=uj st∧DR (dk hb st d l).2.1∧∀ x ∈ st.1.2.1,fT (dk hb st d l).2.1 (aA aH x)=fT d (aA aH x)) ∨
 ((dk hb st d l).1=(jF st.1.1,(mn st.1.1 l 0,(st.2.2.1,(0,(0,())))))∧DR (dk hb st d l).2.1∧fT (dk hb st d l).2.1 (aA aH st.1.1)=some (ab (kq l (st.2.2.1-1)))∧fT (dk hb st d l).2.1 (aA aH (st.1.1+1))=some ByteArray.empty):=by
 obtain ⟨n1,n2,n3,_⟩:=j6 (n:=st.1.1) (ids:=st.1.2.1) hl
 have hm:(1:Int)≤st.1.1∧st.1.1≤(100000:Int):=⟨n1,n2⟩
 have hm1:LE.le (α:=Int) 1 (st.1.1+1)∧LE.le (α:=Int) (st.1.1+1) 100000:=⟨by omega,by omega⟩
 have hseg:∀ x:Int,x ∈ st.1.2.1→1≤x∧x≤100000:=fun x hx=>⟨(n3 x hx).1,Cl (n3 x hx).2 n2⟩
 have no1:∀ x ∈ st.1.2.1,aA aH st.1.1≠aA aH x:=fun x hx=>ot hm (hseg x hx) (by have:=(n3 x hx).2;omega)
 have no2:∀ x ∈ st.1.2.1,aA aH (st.1.1+1)≠aA aH x:=fun x hx=>ot hm1 (hseg x hx) (by have:=(n3 x hx).2;omega)
 have no3:∀ x ∈ st.1.2.1,aA dY st.1.1≠aA aH x:=fun x hx=>lu hm (hseg x hx)
 have no4:aA aH (st.1.1+1)≠aA aH st.1.1:=ot hm1 hm (by omega)
 have dropK:∀ (r:RD),DR r.1→(∀ x ∈ st.1.2.1,fT r.1 (aA aH x)=fT d (aA aH x))→DR (mG (kQ st.1.1) r).1∧∀ x ∈ st.1.2.1,fT (mG (kQ st.1.1) r).1 (aA aH x)=fT d (aA aH x):=fun r hr k=>by
  unfold mG
  cases r.2==2 with
  | false=>exact ⟨hr,k⟩
  | true =>
   refine ⟨lD _ _ hr,fun x hx=>(nj _ _ fun s hs=>?_).trans (k x hx)⟩
   unfold kQ at hs
   rcases List.mem_cons.1 hs with e | e
   · rw [e];exact iD (hseg x hx)
   rcases List.mem_cons.1 e with e | e
   · rw [e];exact no1 x hx
   rcases List.mem_cons.1 e with e | e
   · rw [e];exact no2 x hx
   · rw [List.mem_singleton.1 e];exact no3 x hx
 have a0:DR (fy st.1.1 l (st.2.2.1-1) d).1:=Dd _ _ _ hd
 have a1:∀ x ∈ st.1.2.1,fT (fy st.1.1 l (st.2.2.1-1) d).1 (aA aH x)=fT d (aA aH x):=fun x hx=>Es (no1 x hx)
 have a2:(fy st.1.1 l (st.2.2.1-1) d).2=0→fT (fy st.1.1 l (st.2.2.1-1) d).1 (aA aH st.1.1)=some (ab (kq l (st.2.2.1-1))):=fun z=>by
  unfold fy at z ⊢
  obtain ⟨z1,z2,_⟩:=k6 z
  rw [z2]
  rw [md]
  have z0:(bU (aA aH st.1.1) d).2=0:=by
   by_cases w:(bU (aA aH st.1.1) d).2=0
   · exact w
   · rw [sE _ _ _ w] at z1
     exact absurd z1 w
  have:=G8 (aA aH st.1.1) (kq l (st.2.2.1-1)) (bU (aA aH st.1.1) d) ByteArray.empty (nL z0) z1
  rw [this,show (ByteArray.empty:ByteArray)=dB [] from rfl,vf]
 unfold dk
 generalize fy st.1.1 l (st.2.2.1-1) d=a at a0 a1 a2 ⊢
 cases ca:a.2 != 0 with
 | true=>exact .inl ⟨rfl,dropK (tl a) a0 a1⟩
 | false =>
  have b0:=lN (aA aH (st.1.1+1)) a.1 a0
  have b1:∀ x ∈ st.1.2.1,fT (bU (aA aH (st.1.1+1)) a.1).1 (aA aH x)=fT d (aA aH x):=fun x hx=>(mf (no2 x hx)).trans (a1 x hx)
  have b2:=(mf (d:=a.1) no4).trans (a2 (iV ca))
  have b3:=nL (s:=aA aH (st.1.1+1)) (d:=a.1)
  simp only [aK]
  generalize bU (aA aH (st.1.1+1)) a.1=b at b0 b1 b2 b3 ⊢
  cases cb:b.2 != 0 with
  | true=>exact .inl ⟨rfl,dropK (tl b) b0 b1⟩
  | false =>
   have b3:=b3 (iV cb)
   have c0:DR (mL hb st.1.1 b.1).1:=by
    unfold mL
    cases (mh (aA dY st.1.1) (hb (ah b.1 (aA aH st.1.1)).1) b.1).2==2 with
    | true=>exact lD _ _ (pJ _ _ _ b0)
    | false=>exact pJ _ _ _ b0
   have c1:∀ x ∈ st.1.2.1,fT (mL hb st.1.1 b.1).1 (aA aH x)=fT d (aA aH x):=fun x hx=>(sr (no3 x hx)).trans (b1 x hx)
   have c2:=(sr (hb:=hb) (d:=b.1) (lu hm hm)).trans b2
   have c3:=(sr (hb:=hb) (d:=b.1) (lu hm hm1)).trans b3
   simp only [aK]
   generalize mL hb st.1.1 b.1=e at c0 c1 c2 c3 ⊢
   cases ce:e.2 != 0 with
   | true=>exact .inl ⟨rfl,c0,c1⟩
   | false =>
    have d0:=lF (jF st.1.1) _ c0
    have d1:∀ x ∈ st.1.2.1,fT (br (jF st.1.1) e.1).1 (aA aH x)=fT d (aA aH x):=fun x hx=>(iQ (iD (hseg x hx)) (jN (hseg x hx))).trans (c1 x hx)
    have d2:=(iQ (d:=e.1) (v:=jF st.1.1) (iD hm) (jN hm)).trans c2
    have d3:=(iQ (d:=e.1) (v:=jF st.1.1) (iD hm1) (jN hm1)).trans c3
    simp only [aK]
    generalize br (jF st.1.1) e.1=f at d0 d1 d2 d3 ⊢
    cases cf:f.2 != 0 with
    | true=>exact .inl ⟨rfl,dropK (tl f) d0 d1⟩
    | false =>
     simp only [aK]
     have o0:∀ (ids:List Int) (x:Ty.d aB),DR x→DR (uQ ids x).1:=by
      intro ids
      induction ids with
      | nil=>exact fun x hx=>hx
      | cons y ids ih=>exact fun x hx=>jm (lD _ _ hx) fun z hz=>ih z hz
     exact .inr ⟨by trivial,o0 _ _ d0,(vm st.1.2.1 f.1 fun x hx=>⟨fun q=>no1 x hx q.symm,lu (hseg x hx) hm⟩).trans d2,(vm st.1.2.1 f.1 fun x hx=>⟨fun q=>no2 x hx q.symm,lu (hseg x hx) hm1⟩).trans d3⟩
theorem JS {st:Ty.d aF} {d:Ty.d aB} (h:MI st d):MI (mF st d).1 (mF st d).2.1:=by
 obtain ⟨hs,he⟩:=h.store
 unfold mF
 rw [hs]
 simp only [fC,aK]
 by_cases c2:st.1.1+2 > (100000:Int)
 · rw [aO c2];exact h
 · rw [aQ c2]
   simp only [aK]
   cases c3:(kB st.2.1 d).2 != 0 with
   | true=>exact h
   | false =>
    simp only [aK]
    have hn:LE.le (α:=Int) (st.1.1+2) 100000:=Int.not_lt.1 c2
    obtain ⟨k1,k2⟩:=Ag hs
    obtain ⟨k3,k4⟩:=Hj hs
    have h20:=qy hs
    have hz:=sP st.2.1 d
    obtain ⟨L,t,j⟩:=h
    obtain ⟨n1,n2,n3,_⟩:=j6 (n:=st.1.1) (ids:=st.1.2.1) t.live
    obtain ⟨_,_,g1,_,_⟩:=cX (nx:=st.1.1) (ids:=st.1.2.1) t.live
    rcases Fy (hb:=K_ st.1.1) (l:=(kB st.2.1 d).1) t.live t.disk hn with ⟨e1,e2,e3⟩ | ⟨e1,e2,e3,e4⟩
    · generalize dk (K_ st.1.1) st d (kB st.2.1 d).1=q at e1 e2 e3 ⊢
      rw [e1]
      obtain ⟨L0,x,eL,el⟩:=xE t.ids g1
      have hmem:∀ y ∈ L,y.1 ∈ st.1.2.1:=fun y hy=>by rw [t.ids];exact List.mem_map.2 ⟨y,hy,rfl⟩
      have hx:x ∈ L:=by rw [eL];exact List.mem_append_right _ li
      have ea:dE st=aA aH x.1:=by unfold dE;rw [el]
      have ea2:dE (uj st)=aA aH x.1:=ea
      refine ⟨L,⟨Hb (n:=st.1.1) (ids:=st.1.2.1) t.live hn,e2,t.ids,fun y hy=>⟨(e3 _ (hmem y hy)).trans (t.text y hy).1,(t.text y hy).2⟩,fun s q=>t.tail s ?_⟩,j⟩
      rw [ea2,e3 _ (hmem x hx)] at q
      rw [ea]
      exact q
    · generalize dk (K_ st.1.1) st d (kB st.2.1 d).1=q at e1 e2 e3 e4 ⊢
      rw [e1]
      refine ⟨[(st.1.1,kq (kB st.2.1 d).1 (st.2.2.1-1)),(st.1.1+1,[])],⟨DU n1 hn,e2,rfl,fun x hx=>?_,fun s w=>?_⟩,LA k2 (by omega) k4 j.lo j.hi⟩
      · rcases List.mem_cons.1 hx with w | w
        · rw [w];exact ⟨e3,k3⟩
        · rw [List.mem_singleton.1 w]
          exact ⟨e4,fun r hr=>by cases hr⟩
      · have w:fT q.2.1 (aA aH (st.1.1+1))=some s:=w
        rw [e4] at w
        rw [← Option.some.inj w]
        rfl
theorem LQ {a b:Int} (h:a<b) (g:b≤100000):a≤100000:=by omega
theorem KM:(GC eQ).2=false:=by
 unfold GC
 rcases kI (K7 eQ) (fun _=>eQ) (0:Int) eQ with ⟨r,h1,_,_⟩ | h
 · exfalso
   obtain ⟨h0,h2,h3⟩:=h1
   have hp:=Df r
   rcases h3 with q | q
   · have:=congrArg nb q
     rw [iF] at this
     cases this
   · have:=congrArg nb q
     rw [iF] at this
     cases this
 · rw [h]
theorem FR {ids:List Int} {d:Ty.d aB} {t:ByteArray} (ht:t=eQ∨∃ x ∈ ids,1≤x∧x≤100000∧t=aA aH x):fT (iU ids d).1 t=fT d t:=by
 refine nj _ d fun s hs q=>?_
 have h:=Iy hs
 rw [q] at h
 rcases ht with w | ⟨x,hx,h0,h1,w⟩
 · rw [w,KM,Bool.false_and,Bool.false_or] at h
   have:=congrArg nb (dS.1 h)
   cases this
 · have hh:ze ids x=true:=by unfold ze;rw [List.any_eq_true];exact ⟨x,hx,beq_self_eq_true _⟩
   rw [w,zX (.inl rfl) h0 h1,hh] at h
   simp only [fC,Bool.and_false,Bool.false_or] at h
   exact iD ⟨h0,h1⟩ (dS.1 h).symm
noncomputable def B7 (d:Ty.d aB):List Int→Int
 | []=>0
 | x::l=>(bif decide ((bP (fL d x)).2<((fL d x).size:Int)) then 1 else 0)+B7 d l
theorem xt {d:Ty.d aB}:∀ {l:List Int},jZ d l=true→(∀ x ∈ l,(ah d (aA aH x)).2=true)∧0≤B7 d l∧B7 d l≤1
 | [],_=>⟨fun x hx=>(by cases hx),Int.le_refl _,by unfold B7;decide⟩
 | x::l,h=>by
  unfold jZ uT at h
  simp only [iI,Bool.or_eq_true,Bool.not_eq_true'] at h
  obtain ⟨⟨h1,h2⟩,h3⟩:=h
  obtain ⟨i1,i2,i3⟩:=xt h3
  refine ⟨fun y hy=>?_,?_⟩
  · rcases List.mem_cons.1 hy with w | w
    · rw [w];exact h1
    · exact i1 y w
  · have e1:B7 d (x::l)=(bif decide ((bP (fL d x)).2<((fL d x).size:Int)) then 1 else 0)+B7 d l:=rfl
    rw [e1]
    rcases h2 with q | q
    · have:l=[]:=List.isEmpty_iff.1 q
      subst this
      show 0≤(bif _ then (1:Int) else 0)+0∧(bif _ then (1:Int) else 0)+0≤1
      cases decide ((bP (fL d x)).2<((fL d x).size:Int)) <;> exact ⟨by decide,by decide⟩
    · rw [q,aK]
      exact ⟨by omega,by omega⟩
theorem B3 {d:Ty.d aB}:∀ {l:List Int},jZ d l=true→∀ x ∈ l,x≠af l→(bP (fL d x)).2=((fL d x).size:Int)
 | [],_,x,hx,_=>(by cases hx)
 | y::l,h,x,hx,hn=>by
  unfold jZ uT at h
  simp only [iI,Bool.or_eq_true,Bool.not_eq_true'] at h
  obtain ⟨⟨h1,h2⟩,h3⟩:=h
  have hl:l≠[]→af (y::l)=af l:=fun q=>by
   cases l with
   | nil=>exact absurd rfl q
   | cons z l=>rfl
  rcases List.mem_cons.1 hx with w | w
  · rw [w] at hn ⊢
    rcases h2 with q | q
    · have:l=[]:=List.isEmpty_iff.1 q
      subst this
      exact absurd rfl hn
    · have:=of_decide_eq_false q
      have:=(kp (fL d y)).2
      omega
  · have hne:l≠[]:=fun q=>by rw [q] at w;cases w
    exact B3 h3 x w (by rw [← hl hne];exact hn)
theorem Ja {A:ai} (h1:∀ b,fX b A=[]) (h2:cL A=[]):∀ (r pre:ai) (s:J1),gr (A++pre) r s=gr pre r s
 | [],_,_=>rfl
 | p::r,pre,s=>by
  have e1:∀ b,fX b (A++pre)=fX b pre:=fun b=>by rw [vq,h1];rfl
  have e2:cL (A++pre)=cL pre:=by rw [nr,h2];rfl
  unfold gr iv
  rw [e1,e2,rP,Ja h1 h2 r]
theorem Gq:∀ (r pre:ai) (d:aS) (la la' c:Int),(gr pre r (d,la,c)).1=(gr pre r (d,la',c)).1∧(gr pre r (d,la,c)).2.2=(gr pre r (d,la',c)).2.2
 | [],_,_,_,_,_=>⟨rfl,rfl⟩
 | p::r,pre,d,la,la',c=>by
  unfold gr
  simp only []
  cases c != 0 with
  | true=>exact ⟨rfl,rfl⟩
  | false =>
   simp only [aK]
   unfold iv
   simp only []
   cases p.2.2.2.1.1==3 with
   | true =>
    simp only [ac]
    cases ib p.2.2.2.1 (fX p.2.2.2.1.2.1 pre) <;> exact Gq r _ _ _ _ _
   | false =>
    simp only [aK]
    cases p.2.2.2.1.1==5 with
    | true =>
     simp only [ac]
     cases ib p.2.2.2.1 (cL pre) <;> exact Gq r _ _ _ _ _
    | false=>exact Gq r _ _ _ _ _
theorem Cu {m:Int}:∀ (l:De) (p:Option (Ty.d bK)),p8 (pV m) p l=true→(∀ x ∈ l,x.2.2.1.1=4∧LE.le (α:=Int) x.2.2.1.2.1 m)∧d5 (l.map fun x=>x.2.2.1.2.2.1)∧(∀ q,p=some q→∀ x ∈ l,oG q.2.2.1.2.2.1 x.2.2.1.2.2.1=true)
 | [],p,_=>⟨fun x h=>(by cases h),List.Pairwise.nil,fun q _ x h=>(by cases h)⟩
 | g::l,p,h=>by
  unfold p8 at h
  rw [iI] at h
  obtain ⟨h1,h2⟩:=h
  obtain ⟨i1,i2,i3⟩:=Cu l (some g) h2
  unfold pV at h1
  simp only [iI,beq_iff_eq,Bool.not_eq_true',decide_eq_false_iff_not] at h1
  obtain ⟨g1,g2,g3⟩:=h1
  refine ⟨fun x hx=>?_,?_,fun q hq x hx=>?_⟩
  · rcases List.mem_cons.1 hx with e | e
    · rw [e];exact ⟨g1,Int.not_lt.1 g2⟩
    · exact i1 x e
  · rw [List.map_cons]
    unfold d5
    rw [List.pairwise_cons]
    refine ⟨fun x hx=>?_,i2⟩
    obtain ⟨f,hf,rfl⟩:=List.mem_map.1 hx
    exact i3 g rfl f hf
  · subst hq
    rcases List.mem_cons.1 hx with e | e
    · rw [e];exact g3
    · exact qJ g3 (i3 g rfl x e)
theorem w_ (m:Int):∀ (l:De) (dir:aS),(∀ x ∈ l,x.2.2.1.1=4)→d5 (jH dir++l.map fun x=>x.2.2.1.2.2.1)→bx dir (bX m l)=dir++l.map (Cr m)
 | [],dir,_,_=>(List.append_nil dir).symm
 | x::l,dir,h4,h=>by
  have e0:gV dir (m,x)=dir++[Cr m x]:=by
   unfold gV
   rw [show ((m,x):Ty.d aC).2.2.2.1.1=4 from h4 x li]
   show uM dir (Cr m x)=_
   refine Gn fun y hy=>?_
   rw [List.map_cons] at h
   exact (List.pairwise_append.1 h).2.2 y.1 (List.mem_map.2 ⟨y,hy,rfl⟩) x.2.2.1.2.2.1 li
  show bx (gV dir (m,x)) (bX m l)=_
  rw [e0,w_ m l _ (fun y hy=>h4 y (nX _ hy)) (by
   unfold jH
   rw [List.map_append,rP]
   exact h),rP]
  rfl
theorem KJ {id:Int} {rs:jt} (hr:∀ r ∈ rs,cF r=true) (h:(ga id (ab rs)).2=true) :
 (∃ la,gr [] (wl (id,rs)) ([],0,0)=((ga id (ab rs)).1.2.2.1,la,0))∧(∀ b,fX b (wl (id,rs))=[])∧cL (wl (id,rs))=[]∧∀ p ∈ wl (id,rs),LE.le (α:=Int) p.2.2.2.1.2.1 (ga id (ab rs)).1.2.1:=by
 have hsp:wl (id,rs)=bX id (bP (ab rs)).1:=by
  unfold wl
  rw [ye hr]
 have hok:∀ x ∈ (bP (ab rs)).1,cF x.2.2.1=true:=fun x hx=>by
  refine hr _ ?_
  rw [← (qi hr).1]
  exact List.mem_map.2 ⟨x,hx,rfl⟩
 rw [hsp]
 unfold ga at h ⊢
 cases c1:(bP (ab rs)).2 != ((ab rs).size:Int) with
 | true=>rw [c1] at h;cases h
 | false =>
  rw [c1] at h
  simp only [aK] at h ⊢
  generalize (bP (ab rs)).1=l at h hok ⊢
  cases c2:l.length==0 with
  | true=>rw [c2] at h;cases h
  | false =>
   rw [c2] at h
   simp only [aK] at h ⊢
   have hne:l.length≠0:=by simpa using c2
   obtain ⟨k,mk,el⟩:∃ k mk,l=k++[mk]:=by
    rcases List.eq_nil_or_concat l with w | ⟨a,b,w⟩
    · rw [w] at hne;exact absurd rfl hne
    · exact ⟨a,b,by rw [w,List.concat_eq_append]⟩
   subst el
   have et:(k++[mk]).take ((k++[mk]).length-1)=k:=by
    rw [zT,List.length_singleton,Nat.add_sub_cancel]
    exact List.take_left
   have eg:(k++[mk]).getD ((k++[mk]).length-1) (Ty.z bK)=mk:=by
    rw [zT,List.length_singleton,Nat.add_sub_cancel]
    simp [List.getD]
   rw [et,eg] at h ⊢
   cases c3:mk.2.2.1.1 != 5 with
   | true=>rw [c3] at h;cases h
   | false =>
    rw [c3] at h
    simp only [aK] at h ⊢
    cases c4:!decide ((1:Int)≤id∧id≤100000) with
    | true=>rw [c4] at h;cases h
    | false =>
     rw [c4] at h
     simp only [aK] at h ⊢
     cases c5:p8 (pV mk.2.2.1.2.1) none k with
     | false=>rw [c5] at h;cases h
     | true =>
      rw [c5] at h
      simp only [fC,aK] at h ⊢
      cases c6:ib mk.2.2.1 (bX id k) with
      | false=>rw [c6] at h;cases h
      | true =>
       simp only [fC,aK]
       obtain ⟨a1,a2,_⟩:=Cu k none c5
       have c3:mk.2.2.1.1=5:=by simpa using c3
       have h4:∀ p ∈ bX id k,p.2.2.2.1.1=4∧LE.le (α:=Int) p.2.2.2.1.2.1 mk.2.2.1.2.1:=fun p hp=>by
        unfold bX at hp
        obtain ⟨x,hx,rfl⟩:=List.mem_map.1 hp
        exact a1 x hx
       have hmk:=hok mk (List.mem_append_right _ li)
       have h20:(bX id k).length≤20:=by
        unfold ib at c6
        rw [iI,beq_iff_eq] at c6
        unfold cF at hmk
        rw [c3] at hmk
        rw [show ((5:Int)==1||(5:Int)==4)=false from rfl,show ((5:Int)==2)=false from rfl,show ((5:Int)==3)=false from rfl,show ((5:Int)==5)=true from rfl] at hmk
        simp only [aK,ac,iI,decide_eq_true_eq] at hmk
        have hc:LE.le (α:=Int) (((bX id k).length:Nat):Int) 20:=by
         rw [← c6.1]
         exact hmk.2.2.1.2
        omega
       have hown:cL (bX id k)=bX id k:=by
        unfold cL
        rw [tf _ _ fun p hp=>(h4 p hp).1,List.nil_append]
       have ha:bx [] (bX id k)=k.map (Cr id):=by rw [w_ id k [] (fun x hx=>(a1 x hx).1) a2,List.nil_append]
       have epl:bX id (k++[mk])=bX id k++[(id,mk)]:=by
        unfold bX
        rw [List.map_append]
        rfl
       obtain ⟨la,hla⟩:=xX (bX id k) [] [] 0 fun p hp=>by
        rw [(h4 p hp).1]
        exact ⟨by decide,by decide⟩
       rw [epl]
       have hlen:(bX id k).length=k.length:=vx id k
       refine ⟨⟨oJ mk.2.2.1.2.1 la,?_⟩,fun b=>?_,?_,fun p hp=>?_⟩
       · rw [tP,hla,List.nil_append]
         have e:=AM (pre:=bX id k) (p:=(id,mk)) (dir:=[]) (la:=la) c3 (by rw [hown];exact c6) (by rw [hown,ha,List.length_map];omega)
         rw [hown,ha] at e
         exact e
       · have:∀ (q:ai),(∀ p ∈ q,p.2.2.2.1.1=4∨p.2.2.2.1.1=5)→q.foldl (fq b) []=[]:=by
          intro q
          induction q with
          | nil=>exact fun _=>rfl
          | cons p q ih =>
           intro hq
           have e:fq b [] p=[]:=by
            unfold fq
            rcases hq p li with w | w <;> rw [w] <;> cases p.2.2.2.1.2.1==b <;> rfl
           rw [List.foldl_cons,e]
           exact ih fun x hx=>hq x (nX _ hx)
         refine this _ fun p hp=>?_
         rcases List.mem_append.1 hp with w | w
         · exact .inl (h4 p w).1
         · rw [List.mem_singleton.1 w];exact .inr c3
       · rw [nr]
         show gY _ (id,mk)=[]
         unfold gY
         rw [show ((id,mk):Ty.d aC).2.2.2.1.1=5 from c3]
         rfl
       · rcases List.mem_append.1 hp with w | w
         · exact (h4 p w).2
         · rw [List.mem_singleton.1 w];exact Int.le_refl _
theorem vn {r:Ty.d bA} (h:cF r=true):LE.le (α:=Int) 0 r.2.1∧LE.le (α:=Int) r.2.1 1000000:=by
 unfold cF at h
 cases c1:(r.1==1||r.1==4) with
 | true =>
  rw [c1] at h
  simp only [ac,iI,decide_eq_true_eq] at h
  have:=h.2.2.2.2
  exact ⟨Int.le_trans (by decide) this.1,this.2⟩
 | false =>
  rw [c1] at h
  cases c2:(r.1==2) with
  | true =>
   rw [c2] at h
   simp only [ac,aK,iI,decide_eq_true_eq] at h
   have:=h.2.2.2.2
   exact ⟨Int.le_trans (by decide) this.1,this.2⟩
  | false =>
   rw [c2] at h
   cases c3:(r.1==3) with
   | true =>
    rw [c3] at h
    simp only [ac,aK,iI,decide_eq_true_eq] at h
    have:=h.2.2.2.2
    exact ⟨Int.le_trans (by decide) this.1,this.2⟩
   | false =>
    rw [c3] at h
    cases c4:(r.1==5) with
    | true =>
     rw [c4] at h
     simp only [ac,aK,iI,decide_eq_true_eq] at h
     exact h.2.2.2.2
    | false=>rw [c4] at h;cases h
theorem LJ {y:Ty.d aB} (hy:DR y) {L:ri} (hL:1≤L.length) (ht:∀ x ∈ L,fT y (aA aH x.1)=some (ab x.2)∧∀ r ∈ x.2,cF r=true) (z:(lG y (L.map (·.1))).2.2.1=0) :
 JT (lT L) (lG y (L.map (·.1))).1 (aG ((lG y (L.map (·.1))).2.1+1)):=by
 have hok:∀ p ∈ lT L,cF p.2.2.2.1=true:=fun p hp=>by
  obtain ⟨x,hx,s,hs,e⟩:=BA hp
  obtain ⟨_,i2,_⟩:=tj x.2 ⟨#[]⟩ ⟨#[]⟩ (ht x hx).2 s hs
  rw [e]
  exact i2
 have fin:∀ (dir:aS) (la:Int),(∃ la',gr [] (lT L) ([],0,0)=(dir,la',0))→cL (lT L)=[]→LE.le (α:=Int) 0 la→LE.le (α:=Int) la 1000000→(∀ p ∈ lT L,LE.le (α:=Int) p.2.2.2.1.2.1 la)→JT (lT L) dir (aG (la+1)):=fun dir la h1 h2 h3 h4 h5=>by
  rw [aE (n:=la+1) (by omega) (by omega)]
  exact ⟨h1,h2,fun p hp=>Int.lt_add_one_of_le (h5 p hp),show (1:Int)≤la+1 by omega,show la+1≤(1000001:Int) by omega⟩
 obtain ⟨x0,L',rfl⟩:∃ x L',L=x::L':=by
  cases L with
  | nil=>cases hL
  | cons x L'=>exact ⟨x,L',rfl⟩
 have epl:lT (x0::L')=wl x0++lT L':=rfl
 have e1:oy y ((x0::L').map (·.1))=lT (x0::L'):=zQ hy ht
 have e2:oy y (L'.map (·.1))=lT L':=zQ hy fun x hx=>ht x (nX _ hx)
 unfold lG at z ⊢
 cases c:qz y (((x0::L').map (·.1)).getD 0 0) with
 | false =>
  rw [c] at z
  simp only [aK] at z ⊢
  rw [e1] at z ⊢
  obtain ⟨g1,g2⟩:=yQ z
  have hz:(gr [] (lT (x0::L')) ([],0,0)).2.2=0:=by rw [g1]
  obtain ⟨l1,l2,l3⟩:=Bz (lT (x0::L')) [] ([],0,0) hz
  have ela:(gr [] (lT (x0::L')) ([],0,0)).2.1=(jX ([],(0,(0,()))) (lT (x0::L'))).2.1:=by rw [g1]
  have l3:=l3 1000000 (by decide) fun p hp=>(vn (hok p hp)).2
  rw [ela] at l1 l2 l3
  exact fin _ _ ⟨_,g1⟩ g2 l1 l3 l2
 | true =>
  rw [c] at z
  simp only [ac] at z ⊢
  have ed:((x0::L').map (·.1)).drop 1=L'.map (·.1):=rfl
  have ex:((x0::L').map (·.1)).getD 0 0=x0.1:=rfl
  rw [ed,ex,e2] at z ⊢
  rw [ex] at c
  obtain ⟨t1,t2⟩:=ht x0 li
  unfold qz at c
  simp only [iI] at c
  obtain ⟨_,_,c⟩:=c
  have es:fL y x0.1=ab x0.2:=by
   unfold fL
   rw [kv hy,t1]
   rfl
  rw [es] at c
  unfold oR at c
  simp only [iI,beq_iff_eq] at c
  obtain ⟨f1,_,f3,f4⟩:=c
  obtain ⟨⟨la0,k1⟩,k2,k3,k4⟩:=KJ (id:=x0.1) t2 f1
  rw [f3] at k4
  rw [sx.1 f4] at k1
  have k1:gr [] (wl x0) ([],0,0)=((iT y x0.1).2.2.1,la0,0):=k1
  have k2:∀ b,fX b (wl x0)=[]:=k2
  have k3:cL (wl x0)=[]:=k3
  have k4:∀ p ∈ wl x0,LE.le (α:=Int) p.2.2.2.1.2.1 (iT y x0.1).2.1:=k4
  obtain ⟨g1,g2⟩:=yQ z
  have hz:(gr [] (lT L') ((iT y x0.1).2.2.1,(iT y x0.1).2.1,0)).2.2=0:=by rw [g1]
  obtain ⟨l1,l2,l3⟩:=Bz (lT L') [] ((iT y x0.1).2.2.1,(iT y x0.1).2.1,0) hz
  have ela:(gr [] (lT L') ((iT y x0.1).2.2.1,(iT y x0.1).2.1,0)).2.1=(jX ((iT y x0.1).2.2.1,((iT y x0.1).2.1,(0,()))) (lT L')).2.1:=by rw [g1]
  have hmark:∃ mk:Ty.d bA,cF mk=true∧mk.2.1=(iT y x0.1).2.1:=by
   rw [← f3]
   have hb:(ga x0.1 (ab x0.2)).2=true:=f1
   have hok2:∀ x ∈ (bP (ab x0.2)).1,cF x.2.2.1=true:=fun x hx=>by
    refine t2 _ ?_
    rw [← (qi t2).1]
    exact List.mem_map.2 ⟨x,hx,rfl⟩
   unfold ga at hb ⊢
   cases w1:(bP (ab x0.2)).2 != ((ab x0.2).size:Int) with
   | true=>rw [w1] at hb;cases hb
   | false =>
    rw [w1] at hb
    simp only [aK] at hb ⊢
    generalize (bP (ab x0.2)).1=l at hb hok2 ⊢
    cases w2:l.length==0 with
    | true=>rw [w2] at hb;cases hb
    | false =>
     rw [w2] at hb
     simp only [aK] at hb ⊢
     have hne:l.length≠0:=by simpa using w2
     have hm:l.getD (l.length-1) (Ty.z bK) ∈ l:=by
      show (l[l.length-1]?).getD _ ∈ l
      rw [List.getElem?_eq_getElem (by omega)]
      exact List.getElem_mem _
     generalize l.getD (l.length-1) (Ty.z bK)=mk at hb hm ⊢
     refine ⟨mk.2.2.1,hok2 _ hm,?_⟩
     revert hb
     cases mk.2.2.1.1 != 5 <;> cases !decide ((1:Int)≤x0.1∧x0.1≤100000) <;> cases p8 (pV mk.2.2.1.2.1) none (l.take (l.length-1)) <;> cases ib mk.2.2.1 (bX x0.1 (l.take (l.length-1))) <;> intro hb <;> first | rfl | cases hb
  obtain ⟨mk,m1,m2⟩:=hmark
  have mb:=vn m1
  rw [m2] at mb
  have l3:=l3 1000000 mb.2 fun p hp=>(vn (hok p (by rw [epl];exact List.mem_append_right _ hp))).2
  rw [ela] at l1 l2 l3
  have l1:LE.le (α:=Int) (iT y x0.1).2.1 (jX ((iT y x0.1).2.2.1,((iT y x0.1).2.1,(0,()))) (lT L')).2.1:=l1
  refine fin _ _ ?_ ?_ (Int.le_trans mb.1 l1) l3 fun p hp=>?_
  · rw [epl,tP,k1]
    have q:=Ja k2 k3 (lT L') [] ((iT y x0.1).2.2.1,la0,0)
    rw [List.append_nil] at q
    rw [List.nil_append,q]
    obtain ⟨v1,v2⟩:=Gq (lT L') [] (iT y x0.1).2.2.1 la0 (iT y x0.1).2.1 0
    rw [g1] at v1 v2
    exact ⟨(gr [] (lT L') ((iT y x0.1).2.2.1,la0,0)).2.1,Prod.ext v1 (Prod.ext rfl v2)⟩
  · rw [epl,nr,k3]
    exact g2
  · rw [epl] at hp
    rcases List.mem_append.1 hp with w | w
    · exact Int.le_trans (k4 p w) l1
    · exact l2 p w
theorem J3 {d:Ty.d aB} (ht:(ah d LO).2=true) (z:(kG d).2.2=0):MI (kG d).1 (kG d).2.1:=by
 have ht:(ah d eQ).2=true:=ht
 have hdk:iL d=true:=by
  unfold ah at ht
  cases c:iL d with
  | true=>rfl
  | false=>rw [c] at ht;cases ht
 have hd:=jR.1 hdk
 unfold kG at z ⊢
 rw [hdk] at z ⊢
 simp only [fC,aK] at z ⊢
 cases c1:d.2.2.2.1 with
 | true=>rw [c1] at z;exact absurd z (by show (1:Int)≠0;decide)
 | false =>
  rw [c1,ht] at z
  rw [ht]
  simp only [fC,aK] at z ⊢
  rcases kI (fun v=>dL v=true) cV ((0,([],())):Ty.d bo) (ah d eQ).1 with ⟨v,h1,h2,e⟩ | e
  · have e:fo (ah d eQ).1=(v,true):=e
    rw [e] at z ⊢
    simp only [fC,aK] at z ⊢
    obtain ⟨_,_,hv1,hv2,_⟩:=cX (nx:=v.1) (ids:=v.2.1) h1
    obtain ⟨n1,n2,n3,n4⟩:=j6 (n:=v.1) (ids:=v.2.1) h1
    unfold rV at z ⊢
    cases cg:jZ d v.2.1 with
    | false=>rw [cg] at z;exact absurd z (by show (3:Int)≠0;decide)
    | true =>
     rw [cg] at z
     simp only [fC,aK] at z ⊢
     cases cf:(fw (af v.2.1) d).2 != 0 with
     | true =>
      rw [cf] at z
      have z:iz (fw (af v.2.1) d).2=0:=z
      have:=j5 (fw (af v.2.1) d).2
      rw [z] at this
      rw [show ((fw (af v.2.1) d).2 != 0)=!((fw (af v.2.1) d).2==0) from rfl,← this] at cf
      cases cf
     | false =>
      rw [cf] at z
      simp only [aK] at z ⊢
      have fz:=iV cf
      have fx:=JP (af v.2.1) hd
      have ftx:=fun s=>K3 hd (x:=af v.2.1) fz s
      have flive:fT (fw (af v.2.1) d).1 eQ=fT d eQ∧((bP (fL (fw (af v.2.1) d).1 (af v.2.1))).2=((fL (fw (af v.2.1) d).1 (af v.2.1)).size:Int))∧∀ x ∈ v.2.1,x≠af v.2.1→ah (fw (af v.2.1) d).1 (aA aH x)=ah d (aA aH x):=by
       have hlast:af v.2.1 ∈ v.2.1:=by
        rw [nO hv1]
        exact List.mem_append_right _ (by rw [← nO hv1];exact List.mem_singleton.2 rfl)
       obtain ⟨b1,b2⟩:=n3 _ hlast
       obtain ⟨c1',c2',c3'⟩:=k6 fz
       have hs:=kp (fL d (af v.2.1))
       rw [show fw (af v.2.1) d=_ from c2']
       by_cases hb:(bP (fL d (af v.2.1))).2<((fL d (af v.2.1)).size:Int)
       · simp only [aO hb,ac] at c1' c3' ⊢
         have hy:=zL hd (aA aH (af v.2.1)) (bP (fL d (af v.2.1))).2
         have et:=fun s=>(s7 hy c3' s).trans (yJ hd c1' s)
         refine ⟨md.trans ?_,?_,fun x hx hn=>?_⟩
         · have h1:=yJ hd c1' eQ
           rw [ky (jN ⟨b1,by omega⟩),aK] at h1
           have q1:=kv hy eQ
           have q2:=si hy eQ
           have q3:=kv hd eQ
           have q4:=si hd eQ
           rw [h1] at q1 q2
           rw [q1] at q3
           rw [q2] at q4
           cases w1:fT (xe d (aA aH (af v.2.1)) (bP (fL d (af v.2.1))).2).1 eQ with
           | none =>
            cases w2:fT d eQ with
            | none=>rfl
            | some t=>rw [w1,w2] at q4;cases q4
           | some s =>
            cases w2:fT d eQ with
            | none=>rw [w1,w2] at q4;cases q4
            | some t=>rw [w1,w2] at q3;exact congrArg some q3
         · have ew:=et (aA aH (af v.2.1))
           rw [bO,ac] at ew
           show (bP (ah _ _).1).2=((ah _ _).1.size:Int)
           rw [ew]
           show (bP (ByteArray.extract (fL d (af v.2.1)) 0 _)).2=((ByteArray.extract (fL d (af v.2.1)) 0 _).size:Int)
           rw [BC,sn _ (by omega)]
           omega
         · rw [et,ky fun q=>hn ?_]
           · rfl
           · by_cases w:x=af v.2.1
             · exact w
             · exact absurd q (ot ⟨(n3 x hx).1,LQ (n3 x hx).2 n2⟩ ⟨b1,by omega⟩ w)
       · simp only [aQ hb,aK] at c1' c3' ⊢
         refine ⟨md,?_,fun x hx hn=>s7 hd c3' _⟩
         show (bP (ah _ _).1).2=((ah _ _).1.size:Int)
         rw [s7 hd c3']
         show (bP (fL d (af v.2.1))).2=((fL d (af v.2.1)).size:Int)
         omega
      obtain ⟨f1,f2,f3⟩:=flive
      have gJ:∀ (L:ri),v.2.1=L.map (·.1)→(∀ x ∈ L,fT (fw (af v.2.1) d).1 (aA aH x.1)=some (ab x.2)∧∀ r ∈ x.2,cF r=true)→(lG (fw (af v.2.1) d).1 v.2.1).2.2.1=0→JT (lT L) (lG (fw (af v.2.1) d).1 v.2.1).1 (aG ((lG (fw (af v.2.1) d).1 v.2.1).2.1+1)):=fun L e1 e2 e3=>by
       have hL:1≤L.length:=by
        rw [e1,List.length_map] at hv1
        exact hv1
       rw [e1] at fx e2 e3 ⊢
       exact LJ fx hL e2 e3
      unfold vi at z ⊢
      generalize lG (fw (af v.2.1) d).1 v.2.1=g at z gJ ⊢
      cases cq:g.2.2.1 != 0 with
      | true=>rw [cq] at z;exact absurd z (by show (3:Int)≠0;decide)
      | false =>
       rw [cq] at z
       simp only [aK] at z ⊢
       cases cs:(iU v.2.1 (fw (af v.2.1) d).1).2 != 0 with
       | true =>
        rw [cs] at z
        have z:iz (iU v.2.1 (fw (af v.2.1) d).1).2=0:=z
        have:=j5 (iU v.2.1 (fw (af v.2.1) d).1).2
        rw [z] at this
        rw [show ((iU v.2.1 (fw (af v.2.1) d).1).2 != 0)=!((iU v.2.1 (fw (af v.2.1) d).1).2==0) from rfl,← this] at cs
        cases cs
       | false =>
        simp only [aK]
        have hx:=sN v.2.1 _ fx
        have sk:∀ t:ByteArray,(t=eQ∨∃ x ∈ v.2.1,1≤x∧x≤100000∧t=aA aH x)→fT (iU v.2.1 (fw (af v.2.1) d).1).1 t=fT (fw (af v.2.1) d).1 t:=fun t=>FR
        have sS:∀ i ∈ v.2.1,fT (iU v.2.1 (fw (af v.2.1) d).1).1 (aA aH i)=fT (fw (af v.2.1) d).1 (aA aH i):=fun i hi=>sk _ (.inr ⟨i,hi,(n3 i hi).1,LQ (n3 i hi).2 n2,rfl⟩)
        obtain ⟨t1,_,_⟩:=xt cg
        have hfull:∀ i ∈ v.2.1,∃ t,fT (fw (af v.2.1) d).1 (aA aH i)=some t∧FL t:=fun i hi=>by
         have h1:(ah (fw (af v.2.1) d).1 (aA aH i)).2=true:=by rw [(ftx _).1];exact t1 i hi
         rw [si fx] at h1
         obtain ⟨t,ht⟩:=Option.isSome_iff_exists.1 h1
         refine ⟨t,ht,Gy ?_⟩
         have h2:(bP (fL (fw (af v.2.1) d).1 i)).2=((fL (fw (af v.2.1) d).1 i).size:Int):=by
          by_cases w:i=af v.2.1
          · rw [w];exact f2
          · have:=B3 cg i hi w
            unfold fL at this ⊢
            rw [f3 i hi w]
            exact this
         unfold fL at h2
         rw [kv fx,ht] at h2
         exact h2
        obtain ⟨L,l1,l2⟩:=BD hfull
        have hlast:af v.2.1 ∈ v.2.1:=by
         rw [nO hv1]
         exact List.mem_append_right _ (by rw [← nO hv1];exact List.mem_singleton.2 rfl)
        refine ⟨L,⟨h1,hx,l1,fun x hx'=>⟨?_,(l2 x hx').2⟩,fun t q=>?_⟩,gJ L l1 l2 (iV cq)⟩
        · rw [sS x.1 (by rw [l1];exact List.mem_map.2 ⟨x,hx',rfl⟩)]
          exact (l2 x hx').1
        · have q:fT (iU v.2.1 (fw (af v.2.1) d).1).1 (aA aH (af v.2.1))=some t:=q
          rw [sS _ hlast] at q
          show (bP (fL d (af v.2.1))).2=(t.size:Int)
          have e3:bP (fL (fw (af v.2.1) d).1 (af v.2.1))=bP (fL d (af v.2.1)):=(ftx _).2
          rw [← e3,f2]
          unfold fL
          rw [kv fx,q]
          rfl
  · rw [show fo (ah d eQ).1=((0,([],())),false) from e] at z
    exact absurd z (by show (3:Int)≠0;decide)
theorem Kk {d:Ty.d aB} {s:ByteArray} (z:(yx d s).2=0):fT (yx d s).1 s=some ByteArray.empty:=by
 obtain ⟨c1,c2⟩:=qI (d:=d) (g:=vR s) z
 unfold fT
 show (bw (jk d (vR s)).1.1 s).map _=_
 rw [c2]
 unfold vR at c1 ⊢
 cases c3:lB s with
 | false=>rw [c3] at c1;cases c1
 | true =>
  rw [c3] at c1
  simp only [fC,aK] at c1 ⊢
  cases c4:(bw d.1 s) with
  | some f=>rw [c4] at c1;cases c1
  | none =>
   rw [c4] at c1
   simp only [Option.isSome_none,aK] at c1 ⊢
   cases c5:decide ((d.1.length:Int)≥130) with
   | true=>rw [c5] at c1;cases c1
   | false =>
    simp only [aK]
    rw [xB (f:=(s,(ByteArray.empty,(0,())))) c4,bO]
    rfl
theorem L6 {d:Ty.d aB} (z:(kG d).2.2=0):MI (kG d).1 (kG d).2.1:=by
 cases ht:(ah d LO).2 with
 | true=>exact J3 ht z
 | false =>
  have ht:(ah d eQ).2=false:=ht
  cases hdk:iL d with
  | false =>
   rw [JZ hdk] at z
   exact absurd z (by show (4:Int)≠0;decide)
  | true =>
   have hd:=jR.1 hdk
   unfold kG at z ⊢
   rw [hdk] at z ⊢
   simp only [fC,aK] at z ⊢
   cases c1:d.2.2.2.1 with
   | true=>rw [c1] at z;exact absurd z (by show (1:Int)≠0;decide)
   | false =>
    rw [c1,ht] at z
    rw [ht]
    simp only [u6,ac,aK] at z ⊢
    unfold qS at z ⊢
    cases c2:(kr d).2==0 with
    | false =>
     rw [c2] at z
     have z:iz (kr d).2=0:=z
     have:=j5 (kr d).2
     rw [z,c2] at this
     cases this
    | true =>
     simp only [ac]
     have c2:(kr d).2=0:=Jq c2
     have hD:DR (kr d).1:=jm (jm (sN [] d hd) fun x hx=>C6 hx _) (lF wH)
     have ht1:fT (kr d).1 (aA aH 1)=some ByteArray.empty:=by
      unfold kr at c2 ⊢
      obtain ⟨z1,z2,_⟩:=k6 c2
      rw [z2,iQ (iD (by decide)) (jN (by decide))]
      obtain ⟨z3,z4,z5⟩:=k6 z1
      rw [z4]
      exact Kk z5
     refine ⟨[(1,[])],⟨by decide,hD,rfl,fun x hx=>?_,fun t q=>?_⟩,⟨0,rfl⟩,rfl,fun p hp=>(by cases hp),show (1:Int)≤1 by decide,show (1:Int)≤1000001 by decide⟩
     · rw [List.mem_singleton.1 hx]
       exact ⟨ht1,fun r hr=>by cases hr⟩
     · have q:fT (kr d).1 (aA aH 1)=some t:=q
       rw [ht1] at q
       rw [← Option.some.inj q]
       rfl
def CL (Q:Ty.d aB→Prop):Prop:=∀ d g,Q d→Q (jk d g).1
theorem og {Q:Ty.d aB→Prop} {r:RD} {f:Ty.d aB→RD} (h:Q r.1) (hf:∀ x,Q x→Q (f x).1):Q (hF r f).1:=by
 unfold hF
 cases r.2==0 with
 | true=>exact hf _ h
 | false=>exact h
section
variable {Q:Ty.d aB→Prop} (hQ:CL Q)
include hQ
theorem H3 (s:ByteArray) (d:Ty.d aB) (h:Q d):Q (nt s d).1:=by
 unfold nt
 cases (bw d.1 s).isSome with
 | true=>exact hQ d (DJ s) h
 | false=>exact h
theorem uw (s:ByteArray) (d:Ty.d aB) (h:Q d):Q (bU s d).1:=og (H3 hQ s d h) fun x hx=>hQ x (vR s) hx
theorem Bf (s t:ByteArray) (d:Ty.d aB) (h:Q d):Q (mh s t d).1:=og (og (uw hQ s d h) fun x hx=>hQ x (Bi s t) hx) fun x hx=>hQ x (wx s) hx
theorem tk (v:Ty.d bo) (d:Ty.d aB) (h:Q d):Q (br v d).1:=og (Bf hQ _ _ d h) fun x hx=>hQ x (Dk jE eQ) hx
theorem oq:∀ (l:List ByteArray) (d:Ty.d aB),Q d→Q (fG l d).1
 | [],d,h=>h
 | s::l,d,h=>og (H3 hQ s d h) (oq l)
theorem MN (st:Ty.d aF) {d:Ty.d aB} (h:Q d):Q (kx st d).2.1:=by
 have h1:Q (gT d (dE st)).1:=hQ d (wx (dE st)) h
 have h2:=uw hQ (aA aH st.1.1) _ h1
 have h3:=tk hQ (lz st) _ h2
 unfold kx
 cases decide ((st.1.2.1.length:Int)≥60) with
 | true=>exact h
 | false =>
  cases decide (st.1.1≥(100000:Int)) with
  | true=>exact h
  | false =>
   simp only [aK]
   generalize gT d (dE st)=r1 at h1 h2 h3 ⊢
   generalize bU (aA aH st.1.1) r1.1=r2 at h2 h3 ⊢
   generalize br (lz st) r2.1=r3 at h3 ⊢
   cases r1.2 != 0 with
   | true=>exact h1
   | false =>
    cases r2.2 != 0 with
    | true=>exact h2
    | false =>
     cases r3.2 != 0 with
     | true =>
      show Q (pe (aA aH st.1.1) (tl r3)).1
      unfold pe
      cases (tl r3).2==2 with
      | false=>exact h3
      | true=>exact oq hQ _ r3.1 h3
     | false=>exact h3
theorem Ig (st:Ty.d aF) {d:Ty.d aB} (h:Q d) (r:Ty.d bA):Q (kZ st d r).1.2.1:=by
 have ha:Q (j_ d (dE st) (aP (aJ r))).1:=hQ d (Bi (dE st) (aP (aJ r))) h
 unfold kZ
 generalize j_ d (dE st) (aP (aJ r))=a at ha ⊢
 cases a.2 != 0 <;> exact ha
theorem MD (st:Ty.d aF) {d:Ty.d aB} (h:Q d) (r:Ty.d bA):Q (gM st d r).1.2.1:=by
 have h1:=MN hQ st h
 unfold gM
 cases decide (st.2.2.2.1 > 0)&&decide (st.2.2.2.1+bE r > 200) with
 | false=>exact Ig hQ st h r
 | true =>
  simp only [ac]
  generalize kx st d=q at h1 ⊢
  cases q.2.2 != 0 with
  | true=>exact h1
  | false=>exact Ig hQ q.1 h1 r
theorem HG:∀ (l:jt) (st:Ty.d aF) (d:Ty.d aB) (ps:ai),Q d→Q (fJ l st d ps).1.2.1
 | [],_,_,_,h=>h
 | r::l,st,d,ps,h=>by
  have h1:=MD hQ st h r
  unfold fJ
  generalize gM st d r=q at h1 ⊢
  cases q.1.2.2 != 0 with
  | true=>exact h1
  | false=>exact HG l _ _ _ h1
theorem Av (st:Ty.d aF) {d:Ty.d aB} (l:gn) (h:Q d):Q (dp st d l).2.1:=by
 unfold dp
 cases !eN st d with
 | true=>exact h
 | false =>
  cases !fR l with
  | true=>exact h
  | false =>
   cases (l.length:Int)==0 with
   | true=>exact h
   | false =>
    cases decide (nG st.2.1 l > 20) with
    | true=>exact h
    | false =>
     cases decide (st.2.2.1 > (1000000:Int)) with
     | true=>exact h
     | false =>
      show Q (gu st d l).2.1
      have h1:=HG hQ (ja l st.2.2.1) (rM st) d [] h
      unfold gu
      generalize fJ (ja l st.2.2.1) (rM st) d []=q at h1 ⊢
      have h2:Q (gT q.1.2.1 (dE q.1.1)).1:=hQ _ (wx (dE q.1.1)) h1
      unfold ur
      cases q.1.2.2 != 0 with
      | true=>exact h1
      | false =>
       simp only [aK]
       generalize gT q.1.2.1 (dE q.1.1)=y at h2 ⊢
       cases y.2 != 0 <;> exact h2
theorem Lk (nm:ByteArray):∀ (rs:jt) (r:RD),Q r.1→Q (yv nm rs r).1
 | [],_,h=>h
 | x::rs,r,h=>Lk nm rs _ (og h fun y hy=>hQ y (Bi nm (aP (aJ x))) hy)
theorem vh (ns:List ByteArray) {r:RD} (h:Q r.1):Q (mG ns r).1:=by
 unfold mG
 cases r.2==2 with
 | true=>exact oq hQ _ _ h
 | false=>exact h
theorem DX (st:Ty.d aF) {d:Ty.d aB} (h:Q d):Q (mF st d).2.1:=by
 unfold mF
 cases !eN st d with
 | true=>exact h
 | false =>
  cases decide (st.1.1+2 > (100000:Int)) with
  | true=>exact h
  | false =>
   cases (kB st.2.1 d).2 != 0 with
   | true=>exact h
   | false =>
    show Q (dk (K_ st.1.1) st d (kB st.2.1 d).1).2.1
    generalize (kB st.2.1 d).1=l
    have a1:Q (fy st.1.1 l (st.2.2.1-1) d).1:=og (Lk hQ _ _ _ (uw hQ _ d h)) fun x hx=>hQ x (wx _) hx
    unfold dk
    generalize fy st.1.1 l (st.2.2.1-1) d=a at a1 ⊢
    cases a.2 != 0 with
    | true=>exact vh hQ _ (r:=tl a) a1
    | false =>
     have b1:=uw hQ (aA aH (st.1.1+1)) a.1 a1
     simp only [aK]
     generalize bU (aA aH (st.1.1+1)) a.1=b at b1 ⊢
     cases b.2 != 0 with
     | true=>exact vh hQ _ (r:=tl b) b1
     | false =>
      have c1:Q (mL (K_ st.1.1) st.1.1 b.1).1:=by
       unfold mL
       cases (mh (aA dY st.1.1) (K_ st.1.1 (ah b.1 (aA aH st.1.1)).1) b.1).2==2 with
       | true=>exact oq hQ _ _ (Bf hQ _ _ _ b1)
       | false=>exact Bf hQ _ _ _ b1
      simp only [aK]
      generalize mL (K_ st.1.1) st.1.1 b.1=e at c1 ⊢
      cases e.2 != 0 with
      | true=>exact c1
      | false =>
       have d1:=tk hQ (jF st.1.1) e.1 c1
       simp only [aK]
       generalize br (jF st.1.1) e.1=f at d1 ⊢
       cases f.2 != 0 with
       | true=>exact vh hQ _ (r:=tl f) d1
       | false =>
        have o:∀ (ids:List Int) (x:Ty.d aB),Q x→Q (uQ ids x).1:=by
         intro ids
         induction ids with
         | nil=>exact fun x hx=>hx
         | cons y ids ih=>exact fun x hx=>og (oq hQ _ _ hx) fun z hz=>ih z hz
        exact o _ _ d1
theorem LM {d:Ty.d aB} (h:Q d):Q (kG d).2.1:=by
 unfold kG
 cases !iL d with
 | true=>exact h
 | false =>
  cases d.2.2.2.1 with
  | true=>exact h
  | false =>
   cases !(ah d eQ).2 with
   | true =>
    have h1:Q (kr d).1:=og (og (oq hQ _ d h) fun x hx=>hQ x (vR _) hx) fun x hx=>tk hQ wH x hx
    show Q (qS d).2.1
    unfold qS
    cases (kr d).2==0 <;> exact h1
   | false =>
    cases !(fo (ah d eQ).1).2 with
    | true=>exact h
    | false =>
     show Q (rV (fo (ah d eQ).1).1 d).2.1
     generalize (fo (ah d eQ).1).1=v
     unfold rV
     cases !jZ d v.2.1 with
     | true=>exact h
     | false =>
      have h1:Q (fw (af v.2.1) d).1:=by
       unfold fw
       refine og ?_ fun x hx=>hQ x (wx _) hx
       cases decide ((bP (fL d (af v.2.1))).2<((fL d (af v.2.1)).size:Int)) with
       | true=>exact hQ d (I2 _ _) h
       | false=>exact h
      simp only [aK]
      cases (fw (af v.2.1) d).2 != 0 with
      | true=>exact h1
      | false =>
       simp only [aK]
       generalize lG (fw (af v.2.1) d).1 v.2.1=g
       have h2:Q (iU v.2.1 (fw (af v.2.1) d).1).1:=oq hQ _ _ h1
       unfold vi
       cases g.2.2.1 != 0 with
       | true=>exact h1
       | false =>
        simp only [aK]
        cases (iU v.2.1 (fw (af v.2.1) d).1).2 != 0 <;> exact h2
end
theorem Ac (d:Ty.d aB):(kM d).1.1=d.1∧(dn d=true→dn (kM d).1=true∧(kM d).2≠0)∧(LT.lt (α:=Int) d.2.2.1 0→dn d=false→kM d=(d,0)∨kM d=(d,5)):=by
 unfold kM dn
 cases c0:!iL d with
 | true=>exact ⟨rfl,fun h=>⟨h,by show (5:Int)≠0;decide⟩,fun _ _ => .inr rfl⟩
 | false =>
  simp only [aK]
  cases c1:d.2.2.2.1 with
  | true=>exact ⟨rfl,fun h=>⟨rfl,by show (1:Int)≠0;decide⟩,fun _ h=>by cases h⟩
  | false =>
   simp only [aK]
   cases c2:d.2.2.1==0 with
   | true=>exact ⟨rfl,fun h=>(by cases h),fun h _=>by rw [Jq c2] at h;exact absurd h (by decide)⟩
   | false =>
    cases c3:decide ((d.2.2.1:Int) > 0) with
    | true=>exact ⟨rfl,fun h=>(by cases h),fun h _=>absurd (of_decide_eq_true c3) (Int.not_lt.2 (Int.le_of_lt h))⟩
    | false=>exact ⟨rfl,fun h=>(by cases h),fun _ _ => .inl rfl⟩
theorem Gb:CL fun d=>dn d=true:=fun d g h=>by
 obtain ⟨h1,h2⟩:=(Ac d).2.1 h
 unfold jk
 rw [show ((kM d).2 != 0)=true from bne_iff_ne.2 h2]
 exact h1
def FU (d:Ty.d aB):Prop:=LT.lt (α:=Int) d.2.2.1 0∧dn d=false
theorem Br:CL FU:=fun d g h=>by
 unfold jk
 rcases (Ac d).2.2 h.1 h.2 with e | e
 · rw [e];exact h
 · rw [e];exact h
theorem ID {st:Ty.d aF} {d:Ty.d aB} {l:gn} (h:dn (dp st d l).2.1=false):dn d=false:=by
 cases c:dn d with
 | false=>rfl
 | true=>rw [Av Gb st l c] at h;cases h
theorem Ih {st:Ty.d aF} {d:Ty.d aB} (h:dn (mF st d).2.1=false):dn d=false:=by
 cases c:dn d with
 | false=>rfl
 | true=>rw [DX Gb st c] at h;cases h
theorem JR {st:Ty.d aF} {d d':Ty.d aB} (h:MI st d) (hd:DR d') (e:d'.1=d.1):MI st d':=by
 obtain ⟨L,t,j⟩:=h
 have k:∀ s,fT d' s=fT d s:=fun s=>by unfold fT;rw [e]
 exact ⟨L,⟨t.live,hd,t.ids,fun x hx=>⟨(k _).trans (t.text x hx).1,(t.text x hx).2⟩,fun s q=>t.tail s ((k _).symm.trans q)⟩,j⟩
theorem Dx {hb:ByteArray→ByteArray} {st:Ty.d aF} {d:Ty.d aB} {l:kw} (hd:DR d) (hl:dL st.1=true) (hn:LE.le (α:=Int) (st.1.1+2) 100000) (hdir:st.2.1.length≤268435456) (hlen:l.length≤268435456) :
 DR (dk hb st d l).2.1∧(dk hb st d l).1.1.2.1.length≤60∧(dk hb st d l).1.2.1.length≤268435456:=by
 have h60:st.1.2.1.length≤60:=(cX (nx:=st.1.1) (ids:=st.1.2.1) hl).2.2.2.1
 have hs:DR (dk hb (st.1,([],st.2.2)) d l).2.1∧(dk hb (st.1,([],st.2.2)) d l).1.1.2.1.length≤60:=by
  have hIV:IV ((st.1,([],st.2.2)),(d,0)):=⟨hd,h60,Nat.zero_le _,fun x hx=>(by cases hx),Int.natCast_nonneg _⟩
  obtain ⟨q1,_⟩:=Hr (hb:=hb) hIV hl hn (l:=l) hlen
  exact ⟨q1.disk,q1.ids⟩
 have he:=vG st.1.1 l 0
 unfold dk at hs ⊢
 simp only [] at hs
 generalize fy st.1.1 l (st.2.2.1-1) d=a at hs ⊢
 cases ca:a.2 != 0 with
 | true=>rw [ca] at hs;exact ⟨hs.1,hs.2,hdir⟩
 | false =>
  rw [ca] at hs
  simp only [aK] at hs ⊢
  generalize bU (aA aH (st.1.1+1)) a.1=b at hs ⊢
  cases cb:b.2 != 0 with
  | true=>rw [cb] at hs;exact ⟨hs.1,hs.2,hdir⟩
  | false =>
   rw [cb] at hs
   simp only [aK] at hs ⊢
   generalize mL hb st.1.1 b.1=e at hs ⊢
   cases ce:e.2 != 0 with
   | true=>rw [ce] at hs;exact ⟨hs.1,hs.2,hdir⟩
   | false =>
    rw [ce] at hs
    simp only [aK] at hs ⊢
    generalize br (jF st.1.1) e.1=f at hs ⊢
    cases cf:f.2 != 0 with
    | true=>rw [cf] at hs;exact ⟨hs.1,hs.2,hdir⟩
    | false =>
     rw [cf] at hs
     exact ⟨hs.1,hs.2,by show (mn st.1.1 l 0).length≤_;rw [he];exact hlen⟩
theorem G0 {st:Ty.d aF} {d:Ty.d aB} (hd:DR d) (h1:st.1.2.1.length≤60) (h2:st.2.1.length≤268435456) :
 DR (mF st d).2.1∧(mF st d).1.1.2.1.length≤60∧(mF st d).1.2.1.length≤268435456:=by
 unfold mF
 cases c1:eN st d with
 | false=>exact ⟨hd,h1,h2⟩
 | true =>
  obtain ⟨g1,g2,g3⟩:=kH c1
  simp only [fC,aK]
  by_cases c2:st.1.1+2 > (100000:Int)
  · rw [aO c2]
    exact ⟨hd,h1,h2⟩
  · rw [aQ c2]
    simp only [aK]
    have hz:=sP st.2.1 d
    cases (kB st.2.1 d).2 != 0 with
    | true=>exact ⟨hd,h1,h2⟩
    | false=>exact Dx hd g1.live (Int.not_lt.1 c2) h2 (by omega)
theorem FH (s:ByteArray):(fo s).1.2.1.length≤60:=by
 rcases kI (fun v=>dL v=true) cV ((0,([],())):Ty.d bo) s with ⟨r,h1,h2,h3⟩ | h
 · unfold fo
   rw [h3]
   exact (cX (nx:=r.1) (ids:=r.2.1) h1).2.2.2.1
 · unfold fo
   rw [h]
   exact Nat.zero_le _
theorem Jw {d:Ty.d aB}:(kG d).1.1.2.1.length≤60:=by
 have hv:=FH (ah d eQ).1
 unfold kG
 cases iL d with
 | false=>exact Nat.zero_le _
 | true =>
  cases d.2.2.2.1 with
  | true=>exact Nat.zero_le _
  | false =>
   cases (ah d eQ).2 with
   | false =>
    show (qS d).1.1.2.1.length≤60
    unfold qS
    cases (kr d).2==0
    · exact Nat.zero_le _
    · show 1≤60
      decide
   | true =>
    simp only [fC,aK]
    cases (fo (ah d eQ).1).2 with
    | false=>exact Nat.zero_le _
    | true =>
     simp only [fC,aK]
     generalize (fo (ah d eQ).1).1=v at hv ⊢
     unfold rV
     cases jZ d v.2.1 with
     | false=>exact Nat.zero_le _
     | true =>
      simp only [fC,aK]
      cases (fw (af v.2.1) d).2 != 0 with
      | true=>exact Nat.zero_le _
      | false =>
       simp only [aK]
       generalize lG (fw (af v.2.1) d).1 v.2.1=g
       unfold vi
       cases g.2.2.1 != 0 with
       | true=>exact Nat.zero_le _
       | false =>
        simp only [aK]
        cases (iU v.2.1 (fw (af v.2.1) d).1).2 != 0 with
        | true=>exact Nat.zero_le _
        | false=>exact hv
def TV (t:Ty.d an):Prop:=t.2.1.length≤20∧t.2.2.1.length≤50
structure EV (F:Prop) (e:Ty.d aV):Prop where
 ids:e.2.1.1.2.1.length≤60
 dir:e.2.1.2.1.length≤268435456
 disk:DR e.2.2.1
 len:e.2.2.2.1.length≤3
 txn:∀ t ∈ e.2.2.2.1,TV t
 mi:e.1=true→dn e.2.2.1=false→MI e.2.1 e.2.2.1
 fu:F→FU e.2.2.1
theorem Gt:TV (Ty.z an):=⟨Nat.zero_le _,Nat.zero_le _⟩
theorem Io:∀ t ∈ List.replicate 3 (Ty.z an),TV t:=fun t ht=>by
 rw [List.eq_of_mem_replicate ht]
 exact Gt
theorem GV {F:Prop} {d:Ty.d aB} (h:DR d) (hf:F→FU d):EV F (Ed (kG d)):=by
 obtain ⟨h1,h2⟩:=GA h
 exact ⟨Jw,h2,h1,Nat.le_refl _,Io,fun z _=>L6 (Jq z),fun q=>LM Br (hf q)⟩
theorem qx {l:List (Ty.d an)} (h:∀ t ∈ l,TV t) (i:Nat):TV (l.getD i (Ty.z an)):=by
 by_cases c:i<l.length
 · exact h _ (iE c)
 · have:l.getD i (Ty.z an)=Ty.z an:=by simp [List.getD,c]
   rw [this]
   exact Gt
theorem MB {l:List (Ty.d an)} (h:∀ t ∈ l,TV t) (i:Nat) {t:Ty.d an} (ht:TV t):∀ x ∈ l.set i t,TV x:=fun x hx=>by
 rcases List.mem_or_eq_of_mem_set hx with q | q
 · exact h x q
 · rw [q];exact ht
theorem yR {F:Prop} {e:Ty.d aV} (h:EV F e) (i:Nat) {t:Ty.d an} (ht:TV t):EV F (e.1,(e.2.1,(e.2.2.1,(e.2.2.2.1.set i t,())))) :=
 ⟨h.ids,h.dir,h.disk,by show (List.set _ _ _).length≤3;rw [List.length_set];exact h.len,MB h.txn i ht,h.mi,h.fu⟩
theorem oi (k:Nat) {t:Ty.d an} (h:TV t):f8.f k t=some (t,()):=by
 obtain ⟨h1,h2⟩:=h
 unfold f8.f f8.t
 rw [cO (by omega) (by decide),cO (by omega) (by decide),List.nil_append,List.nil_append]
theorem D2 {F:Prop} {k:Nat} (hk:2 ^ 50≤k) {e:Ty.d aV} (h:EV F e):eo.f k e=some (e,()):=by
 have h1:=h.ids
 have h2:=h.dir
 have h3:=h.len
 have ec:dG.f k e.2.1=some (e.2.1,()):=by
  unfold dG.f dG.t
  rw [cO (by omega) (by decide),cO (by omega) (by decide),List.nil_append,List.nil_append]
 unfold eo.f eo.t
 rw [ec,aZ,kJ k h.disk.sz,aZ]
 simp only []
 refine (fa (L:=fun n i (s:List (Ty.d an))=>eo.l0 k n i e.2.1.1.2.1 e.2.1.2.1 e.2.2.1.1 e.1 e.2.1.1.1 e.2.1.2.2.1 e.2.1.2.2.2.1 e.2.1.2.2.2.2.1 e.2.2.1.2.1 e.2.2.1.2.2.1 e.2.2.1.2.2.2.1 e.2.2.2.1 [] [] [] [] false 0 0 0 0 0 0 false s) (R:=fun r s=>(some ((e.1,(e.2.1,(e.2.2.1,(s++r,())))),()):eo.Rs)) (Ty.z an) e.2.2.2.1 (fun i s=>(s.length:Int)≤i) (fun n s hs=>?_) (fun n i s x rest g0 g1 hx hr hp ih=>?_) (n:=k) (s:=[]) (by omega) (by decide)).trans (by rw [List.nil_append])
 · simp only [eo.l0,eo.b0]
   rw [aQ (by omega),aK,List.append_nil]
 · have hm:x ∈ e.2.2.2.1:=by rw [← hx];exact iE (by omega)
   simp only [eo.l0,eo.b0]
   rw [aO g1,ac,aI g0 g1,hx,oi k (h.txn x hm),aZ,aE (n:=i+1) (by omega) (by omega),cO (by omega) (by decide)]
   refine (ih (s++[x]) (by rw [d_];omega)).trans ?_
   rw [rP]
   rfl
theorem yN {k:Nat} (hk:2 ^ 50≤k) {t:Ty.d an} (h:t.2.2.1.length≤1000) (key:ByteArray):lj (bR.f k t key) (fun _=>True):=by
 have loop:∀ (m n:Nat) (i:Int),i+1=(m:Int)→m<n→m≤t.2.2.1.length→lj (bR.l0 k n key i t.1 t.2.1 t.2.2.1 ByteArray.empty false ByteArray.empty) (fun _=>True):=by
  intro m
  induction m with
  | zero =>
   intro n i hi hn hm
   obtain ⟨n,rfl⟩:∃ q,n=q+1:=⟨n-1,by omega⟩
   simp only [bR.l0,bR.b0]
   exact qw (aQ (by omega)) (am trivial)
  | succ m ih =>
   intro n i hi hn hm
   obtain ⟨n,rfl⟩:∃ q,n=q+1:=⟨n-1,by omega⟩
   have hw:aG (i-1)=i-1:=aE (by omega) (by omega)
   simp only [bR.l0,bR.b0,hw]
   exact m7 (aO (by omega)) (gR (by omega) (by omega) (bm (fun _=>gR (by omega) (by omega) (am trivial)) (fun _=>ih n (i-1) (by omega) (by omega) (by omega))))
 unfold bR.f bR.t
 rw [aE (n:=(t.2.2.1.length:Int)-1) (by omega) (by omega)]
 exact loop t.2.2.1.length k _ (by omega) (by omega) (Nat.le_refl _)
theorem wU {k:Nat} (hk:2 ^ 50≤k) {t:Ty.d an} (h:t.2.2.1.length≤1000):lj (aa.f k t) (fun r=>r.1.length≤1000):=by
 have loop:∀ (m n:Nat) (i:Int) (out:gn),0≤i→i+(m:Int)=(t.2.2.1.length:Int)→m<n→(out.length:Int)≤i→lj (aa.l0 k n i t.1 t.2.1 t.2.2.1 out) (fun r=>r.1.length≤1000):=by
  intro m
  induction m with
  | zero =>
   intro n i out h0 h1 hn ho
   obtain ⟨n,rfl⟩:∃ q,n=q+1:=⟨n-1,by omega⟩
   simp only [aa.l0,aa.b0]
   exact qw (aQ (by omega)) (am (by show out.length≤1000;omega))
  | succ m ih =>
   intro n i out h0 h1 hn ho
   obtain ⟨n,rfl⟩:∃ q,n=q+1:=⟨n-1,by omega⟩
   have hw:aG (i+1)=i+1:=aE (by omega) (by omega)
   have inner:∀ (d n':Nat) (b:Bool) (j:Int),0≤j→j+(d:Int)=i→d<n'→lj (aa.l1 k (aa.l0 k n) n' i b j t.1 t.2.1 t.2.2.1 out) (fun r=>r.1.length≤1000):=by
    intro d
    induction d with
    | zero =>
     intro n' b j j0 j1 hn'
     obtain ⟨n',rfl⟩:∃ q,n'=q+1:=⟨n'-1,by omega⟩
     simp only [aa.l1,aa.b1,hw]
     refine qw (aQ (by omega)) (bm (fun _=>gR h0 (by omega) (cW (yN hk (t:=(t.1,(t.2.1,(t.2.2.1,())))) h _) fun r _=>vL (by omega) (by decide) ?_)) (fun _=>?_))
     · exact ih n (i+1) (out++[r.1]) (by omega) (by omega) (by omega) (by rw [d_];omega)
     · exact ih n (i+1) out (by omega) (by omega) (by omega) (by omega)
    | succ d ih2 =>
     intro n' b j j0 j1 hn'
     obtain ⟨n',rfl⟩:∃ q,n'=q+1:=⟨n'-1,by omega⟩
     have hj:aG (j+1)=j+1:=aE (by omega) (by omega)
     simp only [aa.l1,aa.b1,hj]
     exact m7 (aO (by omega)) (bm (fun _=>gR j0 (by omega) (gR h0 (by omega) (ih2 n' _ (j+1) (by omega) (by omega) (by omega)))) (fun _=>ih2 n' _ (j+1) (by omega) (by omega) (by omega)))
   simp only [aa.l0,aa.b0]
   exact m7 (aO (by omega)) (inner i.toNat k true 0 (by omega) (by omega) (by omega))
 unfold aa.f aa.t
 exact loop t.2.2.1.length k 0 [] (by omega) (by omega) (by omega) (by decide)
theorem L5 {k:Nat} (hk:2 ^ 50≤k) {t:Ty.d an} (h:TV t) {dir:aS} (hd:dir.length≤268435456):lj (da.f k t dir) (fun _=>True):=by
 obtain ⟨h1,h2⟩:=h
 have loop:∀ (m n:Nat) (i:Int),0≤i→i+(m:Int)=(t.2.1.length:Int)→m<n→lj (da.l0 k n dir i t.1 t.2.1 t.2.2.1) (fun _=>True):=by
  intro m
  induction m with
  | zero =>
   intro n i h0 h1 hn
   obtain ⟨n,rfl⟩:∃ q,n=q+1:=⟨n-1,by omega⟩
   simp only [da.l0,da.b0]
   exact qw (aQ (by omega)) (am trivial)
  | succ m ih =>
   intro n i h0 h1 hn
   obtain ⟨n,rfl⟩:∃ q,n=q+1:=⟨n-1,by omega⟩
   have hw:aG (i+1)=i+1:=aE (by omega) (by omega)
   simp only [da.l0,da.b0,hw]
   refine m7 (aO (by omega)) (gR h0 (by omega) ?_)
   rw [pj hk (by omega)]
   have hq:∃ q,DT (qs dir (t.2.1.getD i.toNat (Ty.z bG)).1)=some q:=by cases qs dir (t.2.1.getD i.toNat (Ty.z bG)).1 <;> exact ⟨_,rfl⟩
   obtain ⟨q,hq⟩:=hq
   exact cM hq (gR h0 (by omega) (bm (fun _=>am trivial) (fun _=>ih n (i+1) (by omega) (by omega) (by omega))))
 unfold da.f da.t
 exact loop t.2.1.length k 0 (by omega) (by omega) (by omega)
theorem I8 {k:Nat} (hk:2 ^ 50≤k) {t:Ty.d an} (h:TV t) (key:ByteArray) (b:Int):lj (cP.f k t key b) (fun r=>TV r.1):=by
 have h1:=h.1
 have loop:∀ (m n:Nat) (i:Int),0≤i→i+(m:Int)=(t.2.1.length:Int)→m<n→lj (cP.l0 k n key b i t.1 t.2.1 t.2.2.1 [] [] false t.2.1 t.2.2.1 t.1) (fun r=>TV r.1):=by
  intro m
  induction m with
  | zero =>
   intro n i h0 g1 hn
   obtain ⟨n,rfl⟩:∃ q,n=q+1:=⟨n-1,by omega⟩
   simp only [cP.l0,cP.b0]
   refine qw (aQ (by omega)) (bm (fun _=>am h) (fun hb=>vL (by omega) (by decide) (am ⟨?_,h.2⟩)))
   have hb:=of_decide_eq_false hb
   show (t.2.1++[_]).length≤20
   rw [d_]
   omega
  | succ m ih =>
   intro n i h0 g1 hn
   obtain ⟨n,rfl⟩:∃ q,n=q+1:=⟨n-1,by omega⟩
   have hw:aG (i+1)=i+1:=aE (by omega) (by omega)
   simp only [cP.l0,cP.b0,hw]
   exact m7 (aO (by omega)) (gR h0 (by omega) (bm (fun _=>gR h0 (by omega) (bm (fun _=>am h) (fun _=>am h))) (fun _=>ih n (i+1) (by omega) (by omega) (by omega))))
 unfold cP.f cP.t
 refine cM (oi k h) (bm (fun _=>am h) (fun _=>cM (jU k key) (bm (fun _=>am h) (fun _=>?_))))
 exact loop t.2.1.length k 0 (by omega) (by omega) (by omega)
theorem F4 {k:Nat} (hk:2 ^ 50≤k) {t:Ty.d an} (h:TV t) (p:Ty.d aY):lj (dN.f k t p) (fun r=>TV r.1):=by
 have h2:=h.2
 have hz:(t.2.2.1++[p]).length=t.2.2.1.length+1:=d_ ..
 unfold dN.f dN.t
 refine cM (oi k h) (bm (fun _=>am h) (fun _=>cM (lw hk _) (bm (fun _=>am h) (fun _=>vL (by show t.2.2.1.length+1≤_;omega) (by decide) ?_))))
 refine cW (wU hk (t:=(t.1,(t.2.1,((t.2.2.1++[p]),())))) (by show (t.2.2.1++[p]).length≤1000;omega)) fun r3 q3=>bm (fun _=>cM (oi k h) (am h)) (fun _=>bm (fun _=>cM (oi k h) (am h)) (fun hb=>?_))
 have hb:=of_decide_eq_false hb
 refine am ⟨h.1,?_⟩
 have hb:¬ ((t.2.2.1++[p]).length:Int) > 50:=hb
 show (t.2.2.1++[p]).length≤50
 omega
theorem Ij {F:Prop} {k:Nat} (hk:2 ^ 50≤k) {e:Ty.d aV} (h:EV F e) {s:Ty.d az} (h0:LE.le (α:=Int) 0 s.2.1) (h1:LT.lt (α:=Int) s.2.1 (e.2.2.2.1.length:Int)):lj (dO.f k e s) (fun r=>EV F r.1):=by
 have ht:=qx h.txn (Int.toNat s.2.1)
 have hdir:=h.dir
 unfold dO.f dO.t
 refine gR h0 h1 (cM (jU k _) (bm (fun _=>am h) (fun _=>cW (yN hk (by have:=ht.2;omega) _) fun r2 _=>bm (fun _=>bm (fun _=>am h) (fun _=>am h)) (fun _=>?_))))
 refine cM (tu hk h.disk.sz (by omega) _) (bm (fun _=>am h) (fun _=>cW (I8 hk ht _ _) fun r4 q4=>bm (fun _=>am h) (fun _=>gR h0 h1 (am (yR h _ q4)))))
theorem Dv {F:Prop} {k:Nat} (hk:2 ^ 50≤k) {e:Ty.d aV} (h:EV F e) {s:Ty.d az} (h0:LE.le (α:=Int) 0 s.2.1) (h1:LT.lt (α:=Int) s.2.1 (e.2.2.2.1.length:Int)):lj (bv.f k e s) (fun r=>EV F r.1):=by
 have ht:=qx h.txn (Int.toNat s.2.1)
 have hdir:=h.dir
 have hids:=h.ids
 unfold bv.f bv.t
 refine gR h0 h1 (gR h0 h1 ?_)
 refine cW (L5 hk ht hdir) fun r2 _=>bm (fun _=>am (yR h _ ⟨Nat.zero_le _,Nat.zero_le _⟩)) (fun _=>?_)
 refine cW (wU hk (by have:=ht.2;omega)) fun r3 q3=>?_
 refine cM (tD hk h.disk.sz (by omega) (by omega) (by omega)) (am ?_)
 obtain ⟨c1,c2,c3⟩:=Eb r3.1 h.disk hids hdir
 have hs:=yR h (Int.toNat s.2.1) (t:=(false,([],([],())))) ⟨Nat.zero_le _,Nat.zero_le _⟩
 exact ⟨c2,c3,c1,hs.len,hs.txn,fun up nd=>Ha r3.1 (h.mi up (ID nd)) nd,fun q=>Av Br _ _ (h.fu q)⟩
theorem IB {k:Nat} (hk:2 ^ 50≤k) {l:aS} (hl:l.length≤268435456):lj (cT.f k l) (fun _=>True):=by
 unfold cT.f cT.t
 refine Ez (P:=fun _=>True) (r:=(l.map (·.1),())) ?_ trivial
 refine (fa (L:=fun n i s=>cT.l0 k n l i s) (R:=fun r s=>some (s++r.map (·.1),())) (Ty.z a_) l (fun i s=>(s.length:Int)=i) (fun n s hs=>?_) (fun n i s x rest h0 h1 hx hr hp ih=>?_) (n:=k) (s:=[]) (by omega) rfl).trans (by rw [List.nil_append])
 · simp (disch:=omega) only [cT.l0,cT.b0,aQ,aK,List.map_nil,List.append_nil]
 · have ih:=ih (s++[x.1]) (by rw [d_];omega)
   simp (disch:=first | omega | decide) only [cT.l0,cT.b0,aO h1,ac,aI,hx,cO,aE,ih,List.map_cons]
   rw [rP]
   rfl
theorem BF {F:Prop} {k:Nat} (hk:2 ^ 50≤k) {e:Ty.d aV} (h:EV F e) (s:Ty.d az):lj (bn.f k e s) (fun r=>EV F r.1):=by
 have hd:=h.disk
 have hdir:=h.dir
 have hids:=h.ids
 have hlen:=h.len
 have hsz:=hd.sz
 have z1:=hsz.l
 have z2:=hsz.u
 have z3:=hsz.n
 unfold bn.f bn.t
 refine cM (D2 hk h) (bm (fun _=>bm (fun _=>am h) (fun _=>cM (pf hk hsz) (am (GV hd h.fu)))) (fun _=>bm (fun _=>?_) (fun _=>bm (fun _=>am h) (fun _=>bm (fun _=>?_) (fun _=>bm (fun _=>?_) (fun _=>bm (fun _=>?_) (fun _=>?_)))))))
 · -- xn
   have hu:=hd.use
   have hc:=hd.cap1
   have used_:jK.f k e.2.2.1=some ((dl e.2.2.1.1:Int),()):=by
    unfold jK.f jK.t
    rw [il hk (by omega) (by omega),aZ,jR.2 hd]
    simp only [fC,aK]
    rw [pL hk (by omega) (by omega),aZ]
   refine cM (il hk (by omega) (by omega)) (bm (fun _=>am h) (fun _=>cM used_ (cM (eM k _ _ _) (bm (fun _=>am h) (fun hb=>cM used_ (am ?_))))))
   simp only [Bool.not_eq_false',decide_eq_true_eq] at hb
   have hu':LE.le (α:=Int) (dl e.2.2.1.1:Int) 100000:=Int.le_trans hu hc
   rw [aE (n:=100000-(dl e.2.2.1.1:Int)) (by omega) (by omega)] at hb
   obtain ⟨N,hN⟩:∃ N:Int,N=s.2.2.2.2.1:=⟨_,rfl⟩
   rw [← hN] at hb ⊢
   rw [aE (n:=(dl e.2.2.1.1:Int)+N) (by omega) (by omega)]
   exact ⟨hids,hdir,⟨hd.len,by show LE.le (α:=Int) 0 ((dl e.2.2.1.1:Int)+N);omega,by show LE.le (α:=Int) ((dl e.2.2.1.1:Int)+N) 100000;omega,hd.fu0,hd.fu1,by show LE.le (α:=Int) (dl e.2.2.1.1:Int) ((dl e.2.2.1.1:Int)+N);omega,hd.all,hd.keys⟩,hlen,h.txn,fun up nd=>JR (h.mi up nd) ⟨hd.len,by show LE.le (α:=Int) 0 ((dl e.2.2.1.1:Int)+N);omega,by show LE.le (α:=Int) ((dl e.2.2.1.1:Int)+N) 100000;omega,hd.fu0,hd.fu1,by show LE.le (α:=Int) (dl e.2.2.1.1:Int) ((dl e.2.2.1.1:Int)+N);omega,hd.all,hd.keys⟩ rfl,h.fu⟩
 · -- merge
   refine cM (uh hk (st:=e.2.1) (d:=e.2.2.1) hsz (by omega) (by omega)) (am ?_)
   obtain ⟨c1,c2,c3⟩:=G0 hd hids hdir
   exact ⟨c2,c3,c1,hlen,h.txn,fun up nd=>JS (h.mi up (Ih nd)),fun q=>DX Br _ (h.fu q)⟩
 · exact cW (IB hk hdir) fun _ _=>am h
 · rw [yK (by omega) (by omega) (by decide)]
   exact am ⟨Nat.zero_le _,Nat.zero_le _,hd,Nat.le_refl _,Io,fun up _=>(by cases up),h.fu⟩
 · refine cM (eM k _ _ _) (bm (fun _=>am h) (fun hb=>cM (eM k _ _ _) (bm (fun _=>am h) (fun _=>?_))))
   simp only [Bool.not_eq_false',decide_eq_true_eq] at hb
   rw [aE (n:=(e.2.2.2.1.length:Int)-1) (by omega) (by omega)] at hb
   have i0:LE.le (α:=Int) 0 s.2.1:=hb.1
   have i1:LT.lt (α:=Int) s.2.1 (e.2.2.2.1.length:Int):=by
    have:=hb.2
    exact Int.lt_of_le_of_lt this (by omega)
   have PUT:lj ((cG.f k [(s.2.2.1,((s.1==4),(s.2.2.2.1,())))]).bind fun r15=>(bif (!r15.1) then (some (e,((4,(ByteArray.empty,([],()))),()))) else (aw s.2.1 (List.length e.2.2.2.1:Int)
    ((dN.f k (List.getD e.2.2.2.1 (Int.toNat s.2.1) (Ty.z an)) (s.2.2.1,((s.1==4),(s.2.2.2.1,())))).bind fun r16=>(bif (!r16.2.1) then (some (e,((5,(ByteArray.empty,([],()))),()))) else (aw s.2.1 (List.length e.2.2.2.1:Int)
     (let l17:=(List.set e.2.2.2.1 (Int.toNat s.2.1) r16.1);(some ((e.1,(e.2.1,(e.2.2.1,(l17,())))),((0,(ByteArray.empty,([],()))),()))))))))):bn.Rs) (fun r=>EV F r.1) :=
    cM (lw hk _) (bm (fun _=>am h) (fun _=>gR i0 i1 (cW (F4 hk (qx h.txn _) _) fun r16 q16=>bm (fun _=>am h) (fun _=>gR i0 i1 (am (yR h _ q16))))))
   have GET:lj ((dO.f k e s).bind fun r13=>(some r13)) (fun r=>EV F r.1):=cW (Ij hk h i0 i1) fun r q=>am q
   have COM:lj ((bv.f k e s).bind fun r13=>(some r13)) (fun r=>EV F r.1):=cW (Dv hk h i0 i1) fun r q=>am q
   have SET:∀ b:Bool,lj (aw s.2.1 (List.length e.2.2.2.1:Int) (let l11:=(List.set e.2.2.2.1 (Int.toNat s.2.1) (b,([],([],()))));(some ((e.1,(e.2.1,(e.2.2.1,(l11,())))),((0,(ByteArray.empty,([],()))),())))):bn.Rs) (fun r=>EV F r.1):=fun b=>gR i0 i1 (am (yR h _ ⟨Nat.zero_le _,Nat.zero_le _⟩))
   repeat' first
    | exact PUT
    | exact GET
    | exact COM
    | exact SET _
    | exact am h
    | refine gR i0 i1 ?_
    | refine bm (fun _=>?_) (fun _=>?_)
def nz:gn→ByteArray→Option (Ty.d aY)
 | [],_=>none
 | p::l,key=>match nz l key with
  | some q=>some q
  | none=>bif seq p.1 key then some p else none
def Nb:Ty.d aY:=(ByteArray.empty,(false,(ByteArray.empty,())))
def vk (o:Option (Ty.d aY)):Ty.d aY × Bool × Unit:=match o with
 | none=>(Nb,(false,()))
 | some p=>(p,(true,()))
theorem v7 (key:ByteArray) (x:Ty.d aY):∀ l:gn,nz (l++[x]) key=bif seq x.1 key then some x else nz l key
 | []=>by show (match nz [] key with | some q=>some q | none=>bif seq x.1 key then some x else none)=_;rfl
 | p::l=>by
  show (match nz (l++[x]) key with | some q=>some q | none=>bif seq p.1 key then some p else none)=_
  rw [v7 key x l]
  cases seq x.1 key with
  | true=>rfl
  | false=>rfl
theorem qH {α:Type} {l:List α} {n:Nat} (z:α) (h:n<l.length):l.take (n+1)=l.take n++[l.getD n z]:=by
 rw [List.take_add_one]
 simp [List.getD,h]
theorem yt {k:Nat} (hk:2 ^ 50≤k) {t:Ty.d an} (h:t.2.2.1.length≤1000) (key:ByteArray):bR.f k t key=some (vk (nz t.2.2.1 key)):=by
 have loop:∀ (m n:Nat) (i:Int),i+1=(m:Int)→m<n→m≤t.2.2.1.length→bR.l0 k n key i t.1 t.2.1 t.2.2.1 ByteArray.empty false ByteArray.empty=some (vk (nz (t.2.2.1.take m) key)):=by
  intro m
  induction m with
  | zero =>
   intro n i hi hn hm
   obtain ⟨n,rfl⟩:∃ q,n=q+1:=⟨n-1,by omega⟩
   simp only [bR.l0,bR.b0]
   rw [aQ (by omega),aK]
   rfl
  | succ m ih =>
   intro n i hi hn hm
   obtain ⟨n,rfl⟩:∃ q,n=q+1:=⟨n-1,by omega⟩
   have hw:aG (i-1)=i-1:=aE (by omega) (by omega)
   have hi2:i.toNat=m:=by omega
   simp only [bR.l0,bR.b0,hw]
   rw [aO (by omega),ac,aI (by omega) (by omega),aI (by omega) (by omega),ih n (i-1) (by omega) (by omega) (by omega),qH (Ty.z aY) (by omega),v7,hi2]
   cases seq (List.getD t.2.2.1 m (Ty.z aY)).1 key <;> rfl
 unfold bR.f bR.t
 rw [aE (n:=(t.2.2.1.length:Int)-1) (by omega) (by omega),loop t.2.2.1.length k _ (by omega) (by omega) (Nat.le_refl _),List.take_length]
def oa (ks:List ByteArray) (key:ByteArray):Bool:=ks.any fun s=>seq s key
def oD (w:gn):List ByteArray:=w.foldl (fun ks p=>bif oa ks p.1 then ks else ks++[p.1]) []
def o_ (w:gn):gn:=(oD w).map fun s=>(vk (nz w s)).1
theorem y4 (w:gn) (p:Ty.d aY):oD (w++[p])=bif oa (oD w) p.1 then oD w else oD w++[p.1]:=by
 unfold oD
 rw [List.foldl_append]
 rfl
theorem Ic (a b:List ByteArray) (s:ByteArray):oa (a++b) s=(oa a s||oa b s):=List.any_append
theorem AB (s:ByteArray):∀ w:gn,oa (oD w) s=w.any fun p=>seq p.1 s:=by
 intro w
 have key:∀ (w:gn) (ks:List ByteArray),oa (w.foldl (fun ks p=>bif oa ks p.1 then ks else ks++[p.1]) ks) s=(oa ks s||w.any fun p=>seq p.1 s):=by
  intro w
  induction w with
  | nil=>intro ks;exact (Bool.or_false _).symm
  | cons p w ih =>
   intro ks
   rw [List.foldl_cons,ih,List.any_cons]
   cases c:oa ks p.1 with
   | false =>
    rw [aK,Ic,Bool.or_assoc]
    congr 2
    show (seq p.1 s||false)=_
    rw [Bool.or_false]
   | true =>
    rw [ac]
    cases q:seq p.1 s with
    | false=>rw [Bool.false_or]
    | true=>rw [dS.1 q] at c;rw [c];rfl
 exact key w []
theorem Aa:∀ w:gn,(oD w).length≤w.length:=by
 intro w
 have key:∀ (w:gn) (ks:List ByteArray),(w.foldl (fun ks p=>bif oa ks p.1 then ks else ks++[p.1]) ks).length≤ks.length+w.length:=by
  intro w
  induction w with
  | nil=>intro ks;exact Nat.le_refl _
  | cons p w ih =>
   intro ks
   have:=ih (bif oa ks p.1 then ks else ks++[p.1])
   rw [List.foldl_cons,mB]
   cases c:oa ks p.1 with
   | true=>rw [c,ac] at this;rw [ac];omega
   | false=>rw [c,aK,d_] at this;rw [aK];omega
 have:=key w []
 rw [List.length_nil,Nat.zero_add] at this
 exact this
theorem DI (w:gn):(o_ w).length≤w.length:=by unfold o_;rw [List.length_map];exact Aa w
theorem xY {k:Nat} (hk:2 ^ 50≤k) {t:Ty.d an} (h:t.2.2.1.length≤1000):aa.f k t=some (o_ t.2.2.1,()):=by
 have loop:∀ (m n:Nat) (i:Int),0≤i→i+(m:Int)=(t.2.2.1.length:Int)→m<n →
  aa.l0 k n i t.1 t.2.1 t.2.2.1 ((oD (t.2.2.1.take i.toNat)).map fun s=>(vk (nz t.2.2.1 s)).1)=some (o_ t.2.2.1,()):=by
  intro m
  induction m with
  | zero =>
   intro n i h0 h1 hn
   obtain ⟨n,rfl⟩:∃ q,n=q+1:=⟨n-1,by omega⟩
   simp only [aa.l0,aa.b0]
   rw [aQ (by omega),aK,show i.toNat=t.2.2.1.length by omega,List.take_length]
   rfl
  | succ m ih =>
   intro n i h0 h1 hn
   obtain ⟨n,rfl⟩:∃ q,n=q+1:=⟨n-1,by omega⟩
   have hw:aG (i+1)=i+1:=aE (by omega) (by omega)
   have hnext:=ih n (i+1) (by omega) (by omega) (by omega)
   rw [show (i+1).toNat=i.toNat+1 by omega,qH (Ty.z aY) (by omega),y4] at hnext
   have hlen:=Aa (t.2.2.1.take i.toNat)
   rw [List.length_take] at hlen
   have inner:∀ (d n':Nat) (b:Bool) (j:Int),0≤j→j+(d:Int)=i→d<n'→b=!(t.2.2.1.take j.toNat).any (fun p=>seq p.1 (List.getD t.2.2.1 i.toNat (Ty.z aY)).1) →
    aa.l1 k (aa.l0 k n) n' i b j t.1 t.2.1 t.2.2.1 ((oD (t.2.2.1.take i.toNat)).map fun s=>(vk (nz t.2.2.1 s)).1)=some (o_ t.2.2.1,()):=by
    intro d
    induction d with
    | zero =>
     intro n' b j j0 j1 hn' hb
     obtain ⟨n',rfl⟩:∃ q,n'=q+1:=⟨n'-1,by omega⟩
     rw [show j.toNat=i.toNat by omega,← AB] at hb
     simp only [aa.l1,aa.b1,hw]
     rw [aQ (by omega),aK,hb]
     cases c:oa (oD (t.2.2.1.take i.toNat)) (List.getD t.2.2.1 i.toNat (Ty.z aY)).1 with
     | true =>
      rw [c,ac] at hnext
      exact hnext
     | false =>
      rw [c,aK,List.map_append] at hnext
      simp only [u6,ac]
      rw [aI h0 (by omega),show (t.1,(t.2.1,(t.2.2.1,())))=t from rfl,yt hk h,aZ,cO (by rw [List.length_map];omega) (by decide)]
      exact hnext
    | succ d ih2 =>
     intro n' b j j0 j1 hn' hb
     obtain ⟨n',rfl⟩:∃ q,n'=q+1:=⟨n'-1,by omega⟩
     have hj:aG (j+1)=j+1:=aE (by omega) (by omega)
     have ha:(t.2.2.1.take (j+1).toNat).any (fun p=>seq p.1 (List.getD t.2.2.1 i.toNat (Ty.z aY)).1)=((t.2.2.1.take j.toNat).any (fun p=>seq p.1 (List.getD t.2.2.1 i.toNat (Ty.z aY)).1)||seq (List.getD t.2.2.1 j.toNat (Ty.z aY)).1 (List.getD t.2.2.1 i.toNat (Ty.z aY)).1):=by
      rw [show (j+1).toNat=j.toNat+1 by omega,qH (Ty.z aY) (by omega),List.any_append]
      congr 1
      show (_||false)=_
      rw [Bool.or_false]
     simp only [aa.l1,aa.b1,hj]
     rw [aO (by omega),ac]
     cases b with
     | true =>
      rw [ac,aI j0 (by omega),aI h0 (by omega)]
      refine ih2 n' _ (j+1) (by omega) (by omega) (by omega) ?_
      rw [ha,Bool.not_or,← hb,Bool.true_and]
     | false =>
      rw [aK]
      refine ih2 n' _ (j+1) (by omega) (by omega) (by omega) ?_
      rw [ha,Bool.not_or,← hb,Bool.false_and]
   simp only [aa.l0,aa.b0]
   rw [aO (by omega),ac]
   exact inner i.toNat k true 0 (by omega) (by omega) (by omega) rfl
 unfold aa.f aa.t
 exact loop t.2.2.1.length k 0 (by omega) (by omega) (by omega)
def zK (dir:aS) (key:ByteArray):Int:=match qs dir key with
 | none=>0
 | some e=>e.2.2.2.2.1
def pm (rows:List (Ty.d bG)) (dir:aS):Bool:=rows.all fun r=>zK dir r.1==r.2.1
theorem Cy (o:Option (Ty.d a_)):∃ q:Ty.d a_ × Bool × Unit,DT o=some q∧q.1.2.2.2.2.1=(match o with | none=>(0:Int) | some e=>e.2.2.2.2.1):=by
 cases o <;> exact ⟨_,rfl,rfl⟩
theorem Bh {k:Nat} (hk:2 ^ 50≤k) {t:Ty.d an} (h:t.2.1.length≤1000) {dir:aS} (hd:dir.length≤268435456):da.f k t dir=some (pm t.2.1 dir,()):=by
 unfold da.f da.t pm
 refine fa (L:=fun n i (_:Unit)=>da.l0 k n dir i t.1 t.2.1 t.2.2.1) (R:=fun r _=>some (r.all fun r=>zK dir r.1==r.2.1,())) (Ty.z bG) t.2.1 (fun _ _=>True) (fun n _ _=>?_) (fun n i _ x rest h0 h1 hx hr hp ih=>?_) (n:=k) (s:=()) (by omega) trivial
 · simp only [da.l0,da.b0]
   rw [aQ (by omega),aK]
   rfl
 · have ih:=ih () trivial
   obtain ⟨q,e1,e2⟩:=Cy (qs dir x.1)
   simp only [da.l0,da.b0]
   rw [aO h1,ac,aI h0 h1,hx,pj hk (by omega),e1,aZ,aI h0 h1,aE (n:=i+1) (by omega) (by omega),ih,List.all_cons]
   unfold bne
   rw [show (q.1.2.2.2.2.1==x.2.1)=(zK dir x.1==x.2.1) by rw [e2];rfl]
   cases zK dir x.1==x.2.1 <;> rfl
def lg (rows:List (Ty.d bG)) (key:ByteArray):Option Int:=(rows.find? fun r=>seq r.1 key).map (·.2.1)
def mo (t:Ty.d an) (key:ByteArray) (b:Int):Ty.d an × Int :=
 bif !t.1 then (t,4) else bif !gF key then (t,4) else match lg t.2.1 key with
 | some b'=>(t,bif b' != b then 7 else 0)
 | none=>bif decide ((t.2.1.length:Int)≥20) then (t,5) else ((t.1,(t.2.1++[(key,(b,()))],t.2.2)),0)
theorem C4 {k:Nat} (hk:2 ^ 50≤k) {t:Ty.d an} (h:TV t) (key:ByteArray) (b:Int):cP.f k t key b=some ((mo t key b).1,((mo t key b).2,())):=by
 have h1:=h.1
 unfold cP.f cP.t mo
 rw [oi k h,aZ]
 cases c1:t.1 with
 | false=>rfl
 | true =>
  simp only [fC,aK]
  have hko:cj.f k key=some (gF key,()):=jU k key
  rw [hko,aZ]
  simp only []
  cases gF key with
  | false=>rfl
  | true =>
   simp only [fC,aK]
   rw [← c1]
   refine fa (L:=fun n i (_:Unit)=>cP.l0 k n key b i t.1 t.2.1 t.2.2.1 [] [] false t.2.1 t.2.2.1 t.1) (R:=fun r _=>some ((match lg r key with | some b'=>(t,bif b' != b then 7 else 0) | none=>bif decide ((t.2.1.length:Int)≥20) then (t,5) else ((t.1,(t.2.1++[(key,(b,()))],t.2.2)),0):Ty.d an × Int).1,((match lg r key with | some b'=>(t,bif b' != b then 7 else 0) | none=>bif decide ((t.2.1.length:Int)≥20) then (t,5) else ((t.1,(t.2.1++[(key,(b,()))],t.2.2)),0):Ty.d an × Int).2,()))) (Ty.z bG) t.2.1 (fun _ _=>True) (fun n _ _=>?_) (fun n i _ x rest g0 g1 hx hr hp ih=>?_) (n:=k) (s:=()) (by omega) trivial
   · simp only [cP.l0,cP.b0]
     rw [aQ (by omega),aK]
     show _=some ((bif decide ((t.2.1.length:Int)≥20) then (t,5) else ((t.1,(t.2.1++[(key,(b,()))],t.2.2)),0):Ty.d an × Int).1,((bif decide ((t.2.1.length:Int)≥20) then (t,5) else ((t.1,(t.2.1++[(key,(b,()))],t.2.2)),0):Ty.d an × Int).2,()))
     cases decide ((t.2.1.length:Int)≥20) with
     | true=>rfl
     | false =>
      rw [aK,aK,cO (by omega) (by decide)]
   · have ih:=ih () trivial
     simp only [cP.l0,cP.b0]
     rw [aO g1,ac,aI g0 g1,hx,aE (n:=i+1) (by omega) (by omega),ih,aI g0 g1]
     have er:lg (x::rest) key=bif seq x.1 key then some x.2.1 else lg rest key:=by
      unfold lg
      rw [List.find?_cons]
      cases seq x.1 key <;> rfl
     rw [er]
     cases seq x.1 key with
     | false=>rfl
     | true =>
      show (bif x.2.1 != b then _ else _)=some ((t,bif x.2.1 != b then 7 else 0).1,((t,bif x.2.1 != b then 7 else 0).2,()))
      cases x.2.1 != b <;> rfl
def kR (t:Ty.d an) (p:Ty.d aY):Ty.d an × Bool :=
 bif !t.1 then (t,false) else bif !fR [p] then (t,false) else bif decide (((o_ (t.2.2.1++[p])).length:Int) > 8) then (t,false) else
 bif decide (((t.2.2.1++[p]).length:Int) > 50) then (t,false) else ((t.1,(t.2.1,(t.2.2.1++[p],()))),true)
theorem zt {k:Nat} (hk:2 ^ 50≤k) {t:Ty.d an} (h:TV t) (p:Ty.d aY):dN.f k t p=some ((kR t p).1,((kR t p).2,())):=by
 have h2:=h.2
 have hz:(t.2.2.1++[p]).length=t.2.2.1.length+1:=d_ ..
 unfold dN.f dN.t kR
 rw [oi k h,aZ]
 cases t.1 with
 | false=>rfl
 | true =>
  simp only [fC,aK]
  rw [lw hk _,aZ]
  simp only []
  cases fR [p] with
  | false=>rfl
  | true =>
   simp only [fC,aK]
   rw [cO (by omega) (by decide),xY hk (t:=(true,(t.2.1,((t.2.2.1++[p]),())))) (by show (t.2.2.1++[p]).length≤1000;omega),aZ]
   simp only []
   cases decide (((o_ (t.2.2.1++[p])).length:Int) > 8) with
   | true=>rfl
   | false =>
    simp only [aK]
    cases decide (((t.2.2.1++[p]).length:Int) > 50) <;> rfl
def oU (c:Int):Ty.d bz:=(c,(ByteArray.empty,([],())))
def zg (e:Ty.d aV) (i:Int) (t:Ty.d an):Ty.d aV:=(e.1,(e.2.1,(e.2.2.1,(e.2.2.2.1.set i.toNat t,()))))
def g_ (e:Ty.d aV) (i:Int):Ty.d an:=e.2.2.2.1.getD i.toNat (Ty.z an)
abbrev vj:=Ty.d aV × Ty.d bz
noncomputable def Bu (e:Ty.d aV) (s:Ty.d az) (t:Ty.d an) (p:Ty.d yc × Int):vj :=
 bif p.2==3 then (e,oU p.2) else bif (mo t s.2.2.1 p.1.2.2.1).2 != 0 then (e,oU (mo t s.2.2.1 p.1.2.2.1).2) else
 (zg e s.2.1 (mo t s.2.2.1 p.1.2.2.1).1,(p.2,(p.1.2.1,([],()))))
noncomputable def yL (e:Ty.d aV) (s:Ty.d az):vj :=
 bif !gF s.2.2.1 then (e,oU 4) else match nz (g_ e s.2.1).2.2.1 s.2.2.1 with
 | some p=>bif p.2.1 then (e,oU 8) else (e,(0,(p.2.2.1,([],()))))
 | none=>Bu e s (g_ e s.2.1) (nN e.2.1.2.1 e.2.2.1 s.2.2.1)
def Ks:Ty.d an:=(false,([],([],())))
noncomputable def nV (e:Ty.d aV) (s:Ty.d az):vj :=
 bif !pm (g_ e s.2.1).2.1 e.2.1.2.1 then (zg e s.2.1 Ks,oU 7) else
 ((e.1,((dp e.2.1 e.2.2.1 (o_ (g_ e s.2.1).2.2.1)).1,((dp e.2.1 e.2.2.1 (o_ (g_ e s.2.1).2.2.1)).2.1,(zg e s.2.1 Ks).2.2.2))),oU (dp e.2.1 e.2.2.1 (o_ (g_ e s.2.1).2.2.1)).2.2)
def s8 (s:Ty.d az):Ty.d aY:=(s.2.2.1,((s.1==4),(s.2.2.2.1,())))
def zo (e:Ty.d aV) (s:Ty.d az):vj :=
 bif !fR [s8 s] then (e,oU 4) else bif !(kR (g_ e s.2.1) (s8 s)).2 then (e,oU 5) else (zg e s.2.1 (kR (g_ e s.2.1) (s8 s)).1,oU 0)
noncomputable def rW (e:Ty.d aV) (s:Ty.d az):vj :=
 bif s.1==1 then (zg e s.2.1 (true,([],([],()))),oU 0) else bif s.1==6 then (zg e s.2.1 Ks,oU 0) else
 bif s.1==2 then yL e s else bif s.1==5 then nV e s else zo e s
def Hh (e:Ty.d aV) (s:Ty.d az):vj :=
 bif !decide (0≤s.2.2.2.2.1∧s.2.2.2.2.1≤100000-(dl e.2.2.1.1:Int)) then (e,oU 4) else ((e.1,(e.2.1,((e.2.2.1.1,((dl e.2.2.1.1:Int)+s.2.2.2.2.1,e.2.2.1.2.2)),e.2.2.2))),oU 0)
noncomputable def K4 (e:Ty.d aV):vj:=((e.1,((mF e.2.1 e.2.2.1).1,((mF e.2.1 e.2.2.1).2.1,e.2.2.2))),oU (mF e.2.1 e.2.2.1).2.2)
def Ma (e:Ty.d aV):vj:=((false,(mH,(e.2.2.1,(List.replicate 3 (Ty.z an),())))),oU 0)
def F5 (e:Ty.d aV) (s:Ty.d az):Bool:=decide (0≤s.2.1∧s.2.1≤(e.2.2.2.1.length:Int)-1)&&(decide (1≤s.1∧s.1≤6)&&!((g_ e s.2.1).1==(s.1==1)))
noncomputable def rF (e:Ty.d aV) (s:Ty.d az):vj :=
 bif s.1==10 then (bif e.1 then (e,oU 4) else (Ed (kG e.2.2.1),oU (kG e.2.2.1).2.2)) else
 bif s.1==11 then Hh e s else bif !e.1 then (e,oU 6) else bif s.1==7 then K4 e else
 bif s.1==8 then (e,(0,(ByteArray.empty,(e.2.1.2.1.map (·.1),())))) else bif s.1==9 then Ma e else
 bif !F5 e s then (e,oU 4) else rW e s
def oE (q:vj):Option (Ty.d aV × Ty.d bz × Unit):=some (q.1,(q.2,()))
theorem DN {F:Prop} {k:Nat} (hk:2 ^ 50≤k) {e:Ty.d aV} (h:EV F e) {s:Ty.d az} (h0:LE.le (α:=Int) 0 s.2.1) (h1:LT.lt (α:=Int) s.2.1 (e.2.2.2.1.length:Int)):dO.f k e s=oE (yL e s):=by
 have ht:TV (g_ e s.2.1):=qx h.txn (Int.toNat s.2.1)
 have hdir:=h.dir
 have hko:cj.f k s.2.2.1=some (gF s.2.2.1,()):=jU k s.2.2.1
 unfold dO.f dO.t yL
 rw [aI h0 h1,hko,aZ]
 simp only []
 cases gF s.2.2.1 with
 | false=>rfl
 | true =>
  simp only [fC,aK]
  rw [show List.getD e.2.2.2.1 (Int.toNat s.2.1) (Ty.z an)=g_ e s.2.1 from rfl,yt hk (by have:=ht.2;omega),aZ]
  cases nz (g_ e s.2.1).2.2.1 s.2.2.1 with
  | some p =>
   show (bif p.2.1 then _ else _)=_
   cases hp:p.2.1 <;> simp only [hp] <;> rfl
  | none =>
   simp only [vk,aK]
   unfold Bu
   rw [tu hk h.disk.sz (by omega),aZ]
   simp only []
   generalize nN e.2.1.2.1 e.2.2.1 s.2.2.1=p
   cases p.2==3 with
   | true=>rfl
   | false =>
    simp only [aK]
    rw [C4 hk ht,aZ]
    simp only []
    cases (mo (g_ e s.2.1) s.2.2.1 p.1.2.2.1).2 != 0 with
    | true=>rfl
    | false =>
     simp only [aK]
     rw [aI h0 h1]
     rfl
theorem zU {F:Prop} {k:Nat} (hk:2 ^ 50≤k) {e:Ty.d aV} (h:EV F e) {s:Ty.d az} (h0:LE.le (α:=Int) 0 s.2.1) (h1:LT.lt (α:=Int) s.2.1 (e.2.2.2.1.length:Int)):bv.f k e s=oE (nV e s):=by
 have ht:TV (g_ e s.2.1):=qx h.txn (Int.toNat s.2.1)
 have hdir:=h.dir
 have hids:=h.ids
 have hn:=DI (g_ e s.2.1).2.2.1
 have h2:=ht.2
 unfold bv.f bv.t nV
 rw [aI h0 h1,aI h0 h1,show List.getD e.2.2.2.1 (Int.toNat s.2.1) (Ty.z an)=g_ e s.2.1 from rfl]
 simp only []
 rw [Bh hk (by have:=ht.1;omega) hdir,aZ]
 simp only []
 cases pm (g_ e s.2.1).2.1 e.2.1.2.1 with
 | false=>rfl
 | true =>
  simp only [fC,aK]
  rw [xY hk (by omega),aZ]
  simp only []
  rw [tD hk h.disk.sz (by omega) (by omega) (by omega)]
  rfl
theorem Bb {k:Nat} (hk:2 ^ 50≤k) {l:aS} (hl:l.length≤268435456):cT.f k l=some (l.map (·.1),()):=by
 unfold cT.f cT.t
 refine (fa (L:=fun n i s=>cT.l0 k n l i s) (R:=fun r s=>some (s++r.map (·.1),())) (Ty.z a_) l (fun i s=>(s.length:Int)=i) (fun n s hs=>?_) (fun n i s x rest h0 h1 hx hr hp ih=>?_) (n:=k) (s:=[]) (by omega) rfl).trans (by rw [List.nil_append])
 · simp (disch:=omega) only [cT.l0,cT.b0,aQ,aK,List.map_nil,List.append_nil]
 · have ih:=ih (s++[x.1]) (by rw [d_];omega)
   simp (disch:=first | omega | decide) only [cT.l0,cT.b0,aO h1,ac,aI,hx,cO,aE,ih,List.map_cons]
   rw [rP]
   rfl
theorem Ef {F:Prop} {k:Nat} (hk:2 ^ 50≤k) {e:Ty.d aV} (h:EV F e) {s:Ty.d az} (h0:LE.le (α:=Int) 0 s.2.1) (h1:LT.lt (α:=Int) s.2.1 (e.2.2.2.1.length:Int)) :
 (bif (s.1==1) then (aw s.2.1 (List.length e.2.2.2.1:Int) (let l11:=(List.set e.2.2.2.1 (Int.toNat s.2.1) (true,([],([],()))));(some ((e.1,(e.2.1,(e.2.2.1,(l11,())))),((0,(ByteArray.empty,([],()))),()))))) else
 (bif (s.1==6) then (aw s.2.1 (List.length e.2.2.2.1:Int) (let l12:=(List.set e.2.2.2.1 (Int.toNat s.2.1) (false,([],([],()))));(some ((e.1,(e.2.1,(e.2.2.1,(l12,())))),((0,(ByteArray.empty,([],()))),()))))) else
 (bif (s.1==2) then ((dO.f k e s).bind fun r13=>(some r13)) else (bif (s.1==5) then ((bv.f k e s).bind fun r14=>(some r14)) else
 ((cG.f k [(s.2.2.1,((s.1==4),(s.2.2.2.1,())))]).bind fun r15=>(bif (!r15.1) then (some (e,((4,(ByteArray.empty,([],()))),()))) else
 (aw s.2.1 (List.length e.2.2.2.1:Int) ((dN.f k (List.getD e.2.2.2.1 (Int.toNat s.2.1) (Ty.z an)) (s.2.2.1,((s.1==4),(s.2.2.2.1,())))).bind fun r16=>(bif (!r16.2.1) then (some (e,((5,(ByteArray.empty,([],()))),()))) else
 (aw s.2.1 (List.length e.2.2.2.1:Int) (let l17:=(List.set e.2.2.2.1 (Int.toNat s.2.1) r16.1);(some ((e.1,(e.2.1,(e.2.2.1,(l17,())))),((0,(ByteArray.empty,([],()))),()))))))))))))):Option (Ty.d aV × Ty.d bz × Unit))=oE (rW e s):=by
 have ht:TV (g_ e s.2.1):=qx h.txn (Int.toNat s.2.1)
 unfold rW
 rw [DN hk h h0 h1,zU hk h h0 h1,aI h0 h1,aI h0 h1]
 cases s.1==1 with
 | true=>rfl
 | false =>
  cases s.1==6 with
  | true=>rfl
  | false =>
   cases s.1==2 with
   | true=>rfl
   | false =>
    cases s.1==5 with
    | true=>rfl
    | false =>
     simp only [aK]
     unfold zo
     rw [show ((s.2.2.1,((s.1==4),(s.2.2.2.1,()))):Ty.d aY)=s8 s from rfl,lw hk,aZ]
     simp only []
     cases fR [s8 s] with
     | false=>rfl
     | true =>
      simp only [fC,aK]
      rw [aI h0 h1,show List.getD e.2.2.2.1 (Int.toNat s.2.1) (Ty.z an)=g_ e s.2.1 from rfl,zt hk ht,aZ]
      simp only []
      cases (kR (g_ e s.2.1) (s8 s)).2 with
      | false=>rfl
      | true =>
       simp only [fC,aK]
       rw [aI h0 h1]
       rfl
theorem wN {F:Prop} {k:Nat} (hk:2 ^ 50≤k) {e:Ty.d aV} (h:EV F e) (s:Ty.d az):bn.f k e s=oE (rF e s):=by
 have hd:=h.disk
 have hdir:=h.dir
 have hids:=h.ids
 have hlen:=h.len
 have hsz:=hd.sz
 have z1:=hsz.l
 have z2:=hsz.u
 have z3:=hsz.n
 unfold bn.f bn.t rF
 rw [D2 hk h,aZ]
 simp only []
 cases s.1==10 with
 | true =>
  cases e.1 with
  | true=>rfl
  | false =>
   simp only [ac,aK]
   rw [pf hk hsz]
   rfl
 | false =>
  cases s.1==11 with
  | true =>
   simp only [ac,aK]
   have hu:=hd.use
   have hc:=hd.cap1
   have used_:jK.f k e.2.2.1=some ((dl e.2.2.1.1:Int),()):=by
    unfold jK.f jK.t
    rw [il hk (by omega) (by omega),aZ,jR.2 hd]
    simp only [fC,aK]
    rw [pL hk (by omega) (by omega),aZ]
   have hu':LE.le (α:=Int) (dl e.2.2.1.1:Int) 100000:=Int.le_trans hu hc
   rw [il hk (by omega) (by omega),aZ,jR.2 hd]
   simp only [fC,aK]
   rw [used_,aZ,eM,aZ]
   simp only []
   unfold Hh
   rw [aE (n:=100000-(dl e.2.2.1.1:Int)) (by omega) (by omega)]
   by_cases q:0≤s.2.2.2.2.1∧s.2.2.2.2.1≤100000-(dl e.2.2.1.1:Int)
   · rw [aO q]
     simp only [fC,aK]
     obtain ⟨N,hN⟩:∃ N:Int,N=s.2.2.2.2.1:=⟨_,rfl⟩
     rw [aZ]
     simp only []
     have q1:LE.le (α:=Int) 0 s.2.2.2.2.1:=q.1
     have q2:LE.le (α:=Int) s.2.2.2.2.1 (100000-(dl e.2.2.1.1:Int)):=q.2
     rw [← hN] at q1 q2 ⊢
     rw [aE (n:=(dl e.2.2.1.1:Int)+N) (by omega) (by omega)]
     rfl
   · rw [aQ q]
     rfl
  | false =>
   simp only [aK]
   cases up:e.1 with
   | false=>rfl
   | true =>
    simp only [fC,aK]
    cases s.1==7 with
    | true =>
     simp only [ac]
     rw [uh hk (st:=e.2.1) (d:=e.2.2.1) hsz (by omega) (by omega)]
     unfold K4
     rw [up]
     rfl
    | false =>
     simp only [aK]
     cases s.1==8 with
     | true =>
      simp only [ac]
      rw [Bb hk hdir]
      rfl
     | false =>
      simp only [aK]
      cases s.1==9 with
      | true =>
       simp only [ac]
       rw [yK (by omega) (by omega) (by decide)]
       rfl
      | false =>
       simp only [aK]
       rw [eM,aZ]
       simp only []
       rw [aE (n:=(e.2.2.2.1.length:Int)-1) (by omega) (by omega)]
       unfold F5
       by_cases q:0≤s.2.1∧s.2.1≤(e.2.2.2.1.length:Int)-1
       · have h0:LE.le (α:=Int) 0 s.2.1:=q.1
         have h1:LT.lt (α:=Int) s.2.1 (e.2.2.2.1.length:Int):=by have q2:LE.le (α:=Int) s.2.1 ((e.2.2.2.1.length:Int)-1):=q.2;omega
         have hs:=Ef hk h h0 h1
         rw [aO q]
         simp only [fC,aK,Bool.true_and]
         rw [eM,aZ]
         simp only []
         cases decide ((1:Int)≤s.1∧s.1≤6) with
         | false=>rfl
         | true =>
          simp only [fC,aK,Bool.true_and,Bool.not_not,bne]
          rw [aI h0 h1,show List.getD e.2.2.2.1 (Int.toNat s.2.1) (Ty.z an)=g_ e s.2.1 from rfl]
          rw [show List.getD e.2.2.2.1 (Int.toNat s.2.1) (Ty.z an)=g_ e s.2.1 from rfl,up] at hs
          cases c1:s.1==1 with
          | true =>
           rw [c1] at hs
           simp only [ac,fC,aK] at hs ⊢
           cases (g_ e s.2.1).1 with
           | true=>rfl
           | false=>exact hs
          | false =>
           rw [c1] at hs
           simp only [aK,u6,ac] at hs ⊢
           rw [aI h0 h1]
           cases (g_ e s.2.1).1 with
           | false=>rfl
           | true=>exact hs
       · rw [aQ q]
         rfl
def QS (e x:Ty.d aV):Prop:=x.1=e.1∧x.2.1=e.2.1∧x.2.2.1=e.2.2.1
theorem qb (e:Ty.d aV):QS e e:=⟨rfl,rfl,rfl⟩
theorem KU (e:Ty.d aV) (s:Ty.d az):QS e (yL e s).1:=by
 unfold yL
 cases !gF s.2.2.1 with
 | true=>exact qb e
 | false =>
  rw [aK]
  cases nz (g_ e s.2.1).2.2.1 s.2.2.1 with
  | some p =>
   show QS e (bif p.2.1 then (e,oU 8) else (e,(0,(p.2.2.1,([],())))):vj).1
   cases p.2.1 <;> exact qb e
  | none =>
   show QS e (Bu e s (g_ e s.2.1) (nN e.2.1.2.1 e.2.2.1 s.2.2.1)).1
   unfold Bu
   cases (nN e.2.1.2.1 e.2.2.1 s.2.2.1).2==3 with
   | true=>exact qb e
   | false =>
    rw [aK]
    cases (mo (g_ e s.2.1) s.2.2.1 (nN e.2.1.2.1 e.2.2.1 s.2.2.1).1.2.2.1).2 != 0 <;> exact ⟨rfl,rfl,rfl⟩
theorem Kn (e:Ty.d aV) (s:Ty.d az):QS e (zo e s).1:=by
 unfold zo
 cases !fR [s8 s] with
 | true=>exact qb e
 | false =>
  rw [aK]
  cases !(kR (g_ e s.2.1) (s8 s)).2 <;> exact ⟨rfl,rfl,rfl⟩
theorem F0 (st:Ty.d aF) (d:Ty.d aB):(dp st d []).1=st∧(dp st d []).2.1=d:=by
 unfold dp
 cases !eN st d with
 | true=>exact ⟨rfl,rfl⟩
 | false =>
  rw [aK]
  cases !fR [] <;> exact ⟨rfl,rfl⟩
theorem G4 {e:Ty.d aV} {s:Ty.d az} (h:(g_ e s.2.1).2.2.1=[]):QS e (nV e s).1:=by
 unfold nV
 rw [h,show o_ []=[] from rfl]
 obtain ⟨h1,h2⟩:=F0 e.2.1 e.2.2.1
 cases !pm (g_ e s.2.1).2.1 e.2.1.2.1 with
 | true=>exact ⟨rfl,rfl,rfl⟩
 | false=>exact ⟨rfl,h1,h2⟩
theorem Kv {e:Ty.d aV} {s:Ty.d az} (h:s.1=5→(g_ e s.2.1).2.2.1=[]):QS e (rW e s).1:=by
 unfold rW
 cases s.1==1 with
 | true=>exact ⟨rfl,rfl,rfl⟩
 | false =>
  cases s.1==6 with
  | true=>exact ⟨rfl,rfl,rfl⟩
  | false =>
   cases s.1==2 with
   | true=>exact KU e s
   | false =>
    cases c:s.1==5 with
    | true=>exact G4 (h (Jq c))
    | false=>exact Kn e s
theorem Lx {e:Ty.d aV} {s:Ty.d az} (h:s.1=5→(g_ e s.2.1).2.2.1=[]) (h7:s.1≠7) (h9:s.1≠9) (h10:s.1≠10) (h11:s.1≠11):QS e (rF e s).1:=by
 unfold rF
 rw [mT h7,mT h9,mT h10,mT h11]
 simp only [aK]
 cases !e.1 with
 | true=>exact qb e
 | false =>
  cases s.1==8 with
  | true=>exact qb e
  | false =>
   cases !F5 e s with
   | true=>exact qb e
   | false=>exact Kv h
def UQ (t:Ty.d an):Prop:=t.2.1.Pairwise fun a b=>a.1≠b.1
theorem H5:UQ Ks:=List.Pairwise.nil
theorem Iw {key:ByteArray}:∀ {l:List (Ty.d bG)},lg l key=none→∀ r ∈ l,r.1≠key:=by
 intro l h r hr q
 unfold lg at h
 rw [Option.map_eq_none_iff] at h
 have:=List.find?_eq_none.1 h r hr
 rw [Cx q] at this
 exact this rfl
theorem J2 {t:Ty.d an} (h:UQ t) (key:ByteArray) (b:Int):UQ (mo t key b).1:=by
 unfold mo
 cases !t.1 with
 | true=>exact h
 | false =>
  cases !gF key with
  | true=>exact h
  | false =>
   simp only [aK]
   cases c:lg t.2.1 key with
   | some b'=>exact h
   | none =>
    show UQ (bif decide ((t.2.1.length:Int)≥20) then (t,5) else ((t.1,(t.2.1++[(key,(b,()))],t.2.2)),0):Ty.d an × Int).1
    cases decide ((t.2.1.length:Int)≥20) with
    | true=>exact h
    | false =>
     show (t.2.1++[(key,(b,()))]).Pairwise fun a b=>a.1≠b.1
     refine List.pairwise_append.2 ⟨h,List.pairwise_singleton _ _,fun x hx y hy=>?_⟩
     rw [List.mem_singleton.1 hy]
     exact Iw c x hx
theorem Hl {t:Ty.d an} (h:UQ t) (p:Ty.d aY):UQ (kR t p).1:=by
 unfold kR
 cases !t.1 with
 | true=>exact h
 | false =>
  cases !fR [p] with
  | true=>exact h
  | false =>
   cases decide (((o_ (t.2.2.1++[p])).length:Int) > 8) with
   | true=>exact h
   | false=>cases decide (((t.2.2.1++[p]).length:Int) > 50) <;> exact h
def UE (e:Ty.d aV):Prop:=∀ t ∈ e.2.2.2.1,UQ t
theorem Be {e:Ty.d aV} (h:UE e) (i:Int):UQ (g_ e i):=by
 unfold g_
 by_cases c:i.toNat<e.2.2.2.1.length
 · exact h _ (iE c)
 · have:e.2.2.2.1.getD i.toNat (Ty.z an)=Ty.z an:=by simp [List.getD,c]
   rw [this]
   exact List.Pairwise.nil
theorem zc {e:Ty.d aV} (h:UE e) (i:Int) {t:Ty.d an} (ht:UQ t):UE (zg e i t):=fun x hx=>by
 rcases List.mem_or_eq_of_mem_set (show x ∈ e.2.2.2.1.set i.toNat t from hx) with q | q
 · exact h x q
 · rw [q];exact ht
theorem FW:∀ t ∈ List.replicate 3 (Ty.z an),UQ t:=fun t ht=>by
 rw [List.eq_of_mem_replicate ht]
 exact List.Pairwise.nil
theorem LL {e:Ty.d aV} (h:UE e) (s:Ty.d az):UE (rW e s).1:=by
 unfold rW
 cases s.1==1 with
 | true=>exact zc h _ List.Pairwise.nil
 | false =>
  cases s.1==6 with
  | true=>exact zc h _ H5
  | false =>
   cases s.1==2 with
   | true =>
    show UE (yL e s).1
    unfold yL
    cases !gF s.2.2.1 with
    | true=>exact h
    | false =>
     rw [aK]
     cases nz (g_ e s.2.1).2.2.1 s.2.2.1 with
     | some p =>
      show UE (bif p.2.1 then (e,oU 8) else (e,(0,(p.2.2.1,([],())))):vj).1
      cases p.2.1 <;> exact h
     | none =>
      show UE (Bu e s (g_ e s.2.1) (nN e.2.1.2.1 e.2.2.1 s.2.2.1)).1
      unfold Bu
      cases (nN e.2.1.2.1 e.2.2.1 s.2.2.1).2==3 with
      | true=>exact h
      | false =>
       rw [aK]
       cases (mo (g_ e s.2.1) s.2.2.1 (nN e.2.1.2.1 e.2.2.1 s.2.2.1).1.2.2.1).2 != 0 with
       | true=>exact h
       | false=>exact zc h _ (J2 (Be h _) _ _)
   | false =>
    cases s.1==5 with
    | true =>
     show UE (nV e s).1
     unfold nV
     cases !pm (g_ e s.2.1).2.1 e.2.1.2.1 <;> exact zc h s.2.1 H5
    | false =>
     show UE (zo e s).1
     unfold zo
     cases !fR [s8 s] with
     | true=>exact h
     | false =>
      rw [aK]
      cases !(kR (g_ e s.2.1) (s8 s)).2 with
      | true=>exact h
      | false=>exact zc h _ (Hl (Be h _) _)
theorem MS {e:Ty.d aV} (h:UE e) (s:Ty.d az):UE (rF e s).1:=by
 unfold rF
 cases s.1==10 with
 | true =>
  cases e.1 with
  | true=>exact h
  | false=>exact FW
 | false =>
  cases s.1==11 with
  | true =>
   show UE (Hh e s).1
   unfold Hh
   cases !decide (0≤s.2.2.2.2.1∧s.2.2.2.2.1≤100000-(dl e.2.2.1.1:Int)) <;> exact h
  | false =>
   cases !e.1 with
   | true=>exact h
   | false =>
    cases s.1==7 with
    | true=>exact h
    | false =>
     cases s.1==8 with
     | true=>exact h
     | false =>
      cases s.1==9 with
      | true=>exact FW
      | false =>
       cases !F5 e s with
       | true=>exact h
       | false=>exact LL h s
theorem Ka {F:Prop} {k:Nat} (hk:2 ^ 50≤k) {e:Ty.d aV} (h:EV F e) (hu:UE e) (s:Ty.d az):bn.f k e s=oE (rF e s)∧EV F (rF e s).1∧UE (rF e s).1:=by
 have e1:=wN hk h s
 obtain ⟨r,e2,q⟩:=BF hk h s
 rw [e1] at e2
 cases e2
 exact ⟨e1,q,MS hu s⟩
theorem qp (k:Nat) {t:Ty.d an} (h:TV t):dt.f k t=some (t,()):=by
 obtain ⟨h1,h2⟩:=h
 unfold dt.f dt.t jb.f jb.t
 rw [cO (by omega) (by decide),cO (by omega) (by decide)]
 rfl
theorem G5 {k:Nat} (hk:2 ^ 50≤k) {t:Ty.d an} (h:t.2.2.1.length≤1000) (key:ByteArray):eT.f k t key=some (vk (nz t.2.2.1 key)):=by
 have loop:∀ (m n:Nat) (i:Int),i+1=(m:Int)→m<n→m≤t.2.2.1.length→eT.l0 k n key i t.1 t.2.1 t.2.2.1 ByteArray.empty false ByteArray.empty=some (vk (nz (t.2.2.1.take m) key)):=by
  intro m
  induction m with
  | zero =>
   intro n i hi hn hm
   obtain ⟨n,rfl⟩:∃ q,n=q+1:=⟨n-1,by omega⟩
   simp only [eT.l0,eT.b0]
   rw [aQ (by omega),aK]
   rfl
  | succ m ih =>
   intro n i hi hn hm
   obtain ⟨n,rfl⟩:∃ q,n=q+1:=⟨n-1,by omega⟩
   have hw:aG (i-1)=i-1:=aE (by omega) (by omega)
   have hi2:i.toNat=m:=by omega
   simp only [eT.l0,eT.b0,hw]
   rw [aO (by omega),ac,aI (by omega) (by omega),aI (by omega) (by omega),ih n (i-1) (by omega) (by omega) (by omega),qH (Ty.z aY) (by omega),v7,hi2]
   cases seq (List.getD t.2.2.1 m (Ty.z aY)).1 key <;> rfl
 unfold eT.f eT.t
 rw [aE (n:=(t.2.2.1.length:Int)-1) (by omega) (by omega),loop t.2.2.1.length k _ (by omega) (by omega) (Nat.le_refl _),List.take_length]
def vr:gn→Ty.d aY→gn
 | [],p=>[p]
 | q::l,p=>bif seq q.1 p.1 then p::l else q::vr l p
def rk (key:ByteArray):gn→Int→Int→Int
 | [],_,at_=>at_
 | q::l,j,at_=>rk key l (j+1) (bif seq q.1 key then j else at_)
theorem vP {key:ByteArray}:∀ (l:gn) (j at_:Int),(∀ q ∈ l,q.1≠key)→rk key l j at_=at_
 | [],_,_,_=>rfl
 | q::l,j,at_,h=>by
  unfold rk
  rw [ky (h q li),aK,vP l _ _ fun x hx=>h x (nX _ hx)]
theorem xy (p:Ty.d aY):∀ l:gn,l.Pairwise (fun a b=>a.1≠b.1)→((∀ q ∈ l,q.1≠p.1)∧vr l p=l++[p])∨∃ a q c,l=a++q::c∧vr l p=a++p::c∧∀ j at_:Int,rk p.1 l j at_=j+(a.length:Int)
 | [],_ => .inl ⟨fun q h=>(by cases h),rfl⟩
 | q::l,h=>by
  obtain ⟨h1,h2⟩:=List.pairwise_cons.1 h
  unfold vr
  cases c:seq q.1 p.1 with
  | true =>
   refine .inr ⟨[],q,l,rfl,rfl,fun j at_=>?_⟩
   unfold rk
   rw [c,ac,vP l _ _ fun x hx w=>h1 x hx (by rw [w];exact dS.1 c)]
   show j=j+((0:Nat):Int)
   omega
  | false =>
   have hq:q.1≠p.1:=fun w=>by rw [Cx w] at c;cases c
   rcases xy p l h2 with ⟨g1,g2⟩ | ⟨a,x,y,g1,g2,g3⟩
   · refine .inl ⟨fun x hx=>?_,by rw [aK,g2];rfl⟩
     rcases List.mem_cons.1 hx with w | w
     · rw [w];exact hq
     · exact g1 x w
   · refine .inr ⟨q::a,x,y,by rw [g1];rfl,by rw [aK,g2];rfl,fun j at_=>?_⟩
     unfold rk
     rw [c,aK,g3,mB]
     omega
theorem KO {a c:gn} {q p:Ty.d aY}:(a++q::c).set a.length p=a++p::c:=by simp
theorem JM (p:Ty.d aY) {l:gn} (h:l.Pairwise fun a b=>a.1≠b.1):(bif decide (rk p.1 l 0 (-1)≥0) then l.set (rk p.1 l 0 (-1)).toNat p else l++[p])=vr l p:=by
 rcases xy p l h with ⟨g1,g2⟩ | ⟨a,x,y,g1,g2,g3⟩
 · rw [vP l 0 (-1) g1,g2]
   rfl
 · rw [g3,g2,aO (by omega),ac,Int.zero_add,Int.toNat_natCast,g1,KO]
theorem vt:∀ w:gn,(oD w).Pairwise (·≠·):=by
 have key:∀ (w:gn) (ks:List ByteArray),ks.Pairwise (·≠·)→(w.foldl (fun ks p=>bif oa ks p.1 then ks else ks++[p.1]) ks).Pairwise (·≠·):=by
  intro w
  induction w with
  | nil=>exact fun ks h=>h
  | cons p w ih =>
   intro ks h
   rw [List.foldl_cons]
   refine ih _ ?_
   cases c:oa ks p.1 with
   | true=>exact h
   | false =>
    rw [aK]
    refine List.pairwise_append.2 ⟨h,List.pairwise_singleton _ _,fun x hx y hy q=>?_⟩
    rw [List.mem_singleton.1 hy] at q
    unfold oa at c
    rw [List.any_eq_false] at c
    exact c x hx (Cx q)
 exact fun w=>key w [] List.Pairwise.nil
theorem Km {w:gn} {s:ByteArray}:(w.any fun p=>seq p.1 s)=true→∃ q,nz w s=some q∧q.1=s:=by
 induction w with
 | nil=>intro h;cases h
 | cons p w ih =>
  intro h
  rw [List.any_cons] at h
  unfold nz
  cases c:nz w s with
  | some q =>
   cases d:w.any fun p=>seq p.1 s with
   | true =>
    obtain ⟨q',e1,e2⟩:=ih d
    rw [c] at e1
    cases e1
    exact ⟨q,rfl,e2⟩
   | false =>
    exfalso
    have:∀ w:gn,(w.any fun p=>seq p.1 s)=false→nz w s=none:=by
     intro w
     induction w with
     | nil=>intro _;rfl
     | cons x w ih2 =>
      intro hx
      rw [List.any_cons,Bool.or_eq_false_iff] at hx
      unfold nz
      rw [ih2 hx.2,hx.1]
      rfl
    rw [this w d] at c
    cases c
  | none =>
   cases d:seq p.1 s with
   | true=>exact ⟨p,rfl,dS.1 d⟩
   | false =>
    rw [d,Bool.false_or] at h
    obtain ⟨q',e1,_⟩:=ih h
    rw [c] at e1
    cases e1
theorem xW {w:gn} {s:ByteArray} (h:s ∈ oD w):(vk (nz w s)).1.1=s:=by
 have hh:oa (oD w) s=true:=by unfold oa;rw [List.any_eq_true];exact ⟨s,h,bO s⟩
 rw [AB] at hh
 obtain ⟨q,e1,e2⟩:=Km hh
 rw [e1]
 exact e2
theorem Fu (w:gn):(o_ w).Pairwise fun a b=>a.1≠b.1:=by
 unfold o_
 rw [List.pairwise_map]
 refine (vt w).imp_of_mem fun ha hb q=>?_
 rw [xW ha,xW hb]
 exact q
theorem Cw {g:ByteArray→Ty.d aY} (p:Ty.d aY):∀ ks:List ByteArray,(∀ s ∈ ks,(g s).1=s)→ks.Pairwise (·≠·)→vr (ks.map g) p=ks.map (fun s=>bif seq p.1 s then p else g s)++bif oa ks p.1 then [] else [p]
 | [],_,_=>rfl
 | s::ks,h,hn=>by
  obtain ⟨n1,n2⟩:=List.pairwise_cons.1 hn
  have ih:=Cw p ks (fun x hx=>h x (nX _ hx)) n2
  rw [List.map_cons,List.map_cons]
  have e:oa (s::ks) p.1=(seq s p.1||oa ks p.1):=List.any_cons
  rw [e]
  unfold vr
  rw [h s li]
  cases c:seq s p.1 with
  | true =>
   have es:s=p.1:=dS.1 c
   rw [ac,← es,bO,ac,Bool.true_or,ac,List.append_nil]
   congr 1
   refine List.map_congr_left fun x hx=>?_
   rw [ky (n1 x hx),aK]
  | false =>
   have es:p.1≠s:=fun w=>by rw [Cx w.symm] at c;cases c
   rw [aK,ih,ky es,aK,Bool.false_or]
   rfl
theorem IQ (w:gn) (p:Ty.d aY):o_ (w++[p])=vr (o_ w) p:=by
 unfold o_
 rw [Cw p (oD w) (fun s hs=>xW hs) (vt w),y4]
 have e:(fun s=>(vk (nz (w++[p]) s)).1)=fun s=>bif seq p.1 s then p else (vk (nz w s)).1:=by
  funext s
  rw [v7]
  cases seq p.1 s <;> rfl
 rw [e]
 cases oa (oD w) p.1 with
 | true=>rw [ac,ac,List.append_nil]
 | false =>
  rw [aK,aK,List.map_append]
  congr 1
  show [bif seq p.1 p.1 then p else _]=[p]
  rw [bO]
  rfl
theorem Fp {k:Nat} (hk:2 ^ 50≤k) {w:gn} (h:w.length≤1000):g7.f k w=some (o_ w,()):=by
 have loop:∀ (m n:Nat) (i:Int),0≤i→i+(m:Int)=(w.length:Int)→m<n→g7.l0 k n w (w.length:Int) i (o_ (w.take i.toNat))=some (o_ w,()):=by
  intro m
  induction m with
  | zero =>
   intro n i h0 h1 hn
   obtain ⟨n,rfl⟩:∃ q,n=q+1:=⟨n-1,by omega⟩
   simp only [g7.l0,g7.b0]
   rw [aQ (by omega),aK,show i.toNat=w.length by omega,List.take_length]
  | succ m ih =>
   intro n i h0 h1 hn
   obtain ⟨n,rfl⟩:∃ q,n=q+1:=⟨n-1,by omega⟩
   have hw:aG (i+1)=i+1:=aE (by omega) (by omega)
   have hnext:=ih n (i+1) (by omega) (by omega) (by omega)
   rw [show (i+1).toNat=i.toNat+1 by omega,qH (Ty.z aY) (by omega),IQ] at hnext
   have hlen:=DI (w.take i.toNat)
   rw [List.length_take] at hlen
   obtain ⟨out,ho⟩:∃ out,out=o_ (w.take i.toNat):=⟨_,rfl⟩
   have hnd:out.Pairwise fun a b=>a.1≠b.1:=by rw [ho];exact Fu _
   rw [← ho] at hnext hlen ⊢
   obtain ⟨p,hp⟩:∃ p,p=List.getD w i.toNat (Ty.z aY):=⟨_,rfl⟩
   rw [← hp] at hnext
   simp only [g7.l0,g7.b0]
   rw [aO (by omega),ac,aI h0 (by omega),← hp]
   have inner:∀ (d n':Nat) (at_ j:Int),0≤j→j+(d:Int)=(out.length:Int)→d<n' → -1≤at_→at_<(out.length:Int) →
    g7.l1 k (g7.l0 k n) n' at_ w (w.length:Int) i (out.length:Int) j out p.1 p.2.1 p.2.2.1=g7.l0 k n w (w.length:Int) (i+1) (bif decide (rk p.1 (out.drop j.toNat) j at_≥0) then out.set (rk p.1 (out.drop j.toNat) j at_).toNat p else out++[p]):=by
    intro d
    induction d with
    | zero =>
     intro n' at_ j j0 j1 hn' a0 a1
     obtain ⟨n',rfl⟩:∃ q,n'=q+1:=⟨n'-1,by omega⟩
     simp only [g7.l1,g7.b1,hw]
     rw [aQ (by omega),aK,List.drop_eq_nil_of_le (show out.length≤j.toNat by omega)]
     show _=g7.l0 k n w (w.length:Int) (i+1) (bif decide (at_≥0) then out.set at_.toNat p else out++[p])
     by_cases c:at_≥0
     · rw [aO c,ac,ac,aI c a1]
     · rw [aQ c,aK,aK,cO (by omega) (by decide)]
    | succ d ih2 =>
     intro n' at_ j j0 j1 hn' a0 a1
     obtain ⟨n',rfl⟩:∃ q,n'=q+1:=⟨n'-1,by omega⟩
     have hj:aG (j+1)=j+1:=aE (by omega) (by omega)
     have hd:out.drop j.toNat=List.getD out j.toNat (Ty.z aY)::out.drop (j+1).toNat:=by
      have:=sf (Ty.z aY) (l:=out) (i:=j.toNat) (by omega)
      rw [show (j+1).toNat=j.toNat+1 by omega]
      exact this
     simp only [g7.l1,g7.b1,hj]
     rw [aO (by omega),ac,aI j0 (by omega),hd]
     unfold rk
     cases seq (List.getD out j.toNat (Ty.z aY)).1 p.1 with
     | true=>exact ih2 n' j (j+1) (by omega) (by omega) (by omega) (by omega) (by omega)
     | false=>exact ih2 n' at_ (j+1) (by omega) (by omega) (by omega) a0 a1
   rw [inner out.length k (-1) 0 (by omega) (by omega) (by omega) (by omega) (by omega),show (0:Int).toNat=0 from rfl,List.drop_zero,JM p hnd]
   exact hnext
 unfold g7.f g7.t
 exact loop w.length k 0 (by omega) (by omega) (by omega)
theorem wE {k:Nat} (hk:2 ^ 50≤k) {t:Ty.d an} (h:t.2.2.1.length≤1000):fQ.f k t=some (o_ t.2.2.1,()):=by
 unfold fQ.f fQ.t
 rw [Fp hk h]
 rfl
theorem Bm {k:Nat} (hk:2 ^ 50≤k) {t:Ty.d an} (h:t.2.1.length≤1000) {dir:aS} (hd:dir.length≤268435456):gW.f k t dir=some (pm t.2.1 dir,()):=by
 unfold gW.f gW.t pm
 refine fa (L:=fun n i (_:Unit)=>gW.l0 k n dir t.2.1 (t.2.1.length:Int) i) (R:=fun r _=>some (r.all fun r=>zK dir r.1==r.2.1,())) (Ty.z bG) t.2.1 (fun _ _=>True) (fun n _ _=>?_) (fun n i _ x rest h0 h1 hx hr hp ih=>?_) (n:=k) (s:=()) (by omega) trivial
 · simp only [gW.l0,gW.b0]
   rw [aQ (by omega),aK]
   rfl
 · have ih:=ih () trivial
   obtain ⟨q,e1,e2⟩:=Cy (qs dir x.1)
   simp only [gW.l0,gW.b0]
   rw [aO h1,ac,aI h0 h1,hx,tC hk (by omega),e1,aZ,aE (n:=i+1) (by omega) (by omega),ih,List.all_cons]
   unfold bne
   rw [show (q.1.2.2.2.2.1==x.2.1)=(zK dir x.1==x.2.1) by rw [e2];rfl]
   cases zK dir x.1==x.2.1 <;> rfl
theorem BM {k:Nat} (hk:2 ^ 50≤k) {t:Ty.d an} (h:TV t) (hu:UQ t) (key:ByteArray) (b:Int):fW.f k t key b=some ((mo t key b).1,((mo t key b).2,())):=by
 have h1:=h.1
 unfold fW.f fW.t mo
 rw [qp k h,aZ]
 cases c1:t.1 with
 | false=>rfl
 | true =>
  simp only [fC,aK]
  have hko:dZ.f k key=some (gF key,()):=kL k key
  rw [hko,aZ]
  simp only []
  cases gF key with
  | false=>rfl
  | true =>
   simp only [fC,aK]
   rw [← c1]
   refine fa (L:=fun n i (kn:Bool)=>fW.l0 k n key b kn t.2.1 (t.2.1.length:Int) i t.1 t.2.1 t.2.2.1 [] [] false t.2.1 t.2.2.1 t.1) (R:=fun r kn=>bif kn then some (t,((0:Int),())) else some ((match lg r key with | some b'=>(t,bif b' != b then 7 else 0) | none=>bif decide ((t.2.1.length:Int)≥20) then (t,5) else ((t.1,(t.2.1++[(key,(b,()))],t.2.2)),0):Ty.d an × Int).1,((match lg r key with | some b'=>(t,bif b' != b then 7 else 0) | none=>bif decide ((t.2.1.length:Int)≥20) then (t,5) else ((t.1,(t.2.1++[(key,(b,()))],t.2.2)),0):Ty.d an × Int).2,()))) (Ty.z bG) t.2.1 (fun i kn=>kn=true→∀ x ∈ t.2.1.drop i.toNat,x.1≠key) (fun n kn _=>?_) (fun n i kn x rest g0 g1 hx hr hp ih=>?_) (n:=k) (s:=false) (by omega) (fun q=>by cases q)
   · simp only [fW.l0,fW.b0]
     rw [aQ (by omega),aK]
     cases kn with
     | true=>rfl
     | false =>
      show _=some ((bif decide ((t.2.1.length:Int)≥20) then (t,5) else ((t.1,(t.2.1++[(key,(b,()))],t.2.2)),0):Ty.d an × Int).1,((bif decide ((t.2.1.length:Int)≥20) then (t,5) else ((t.1,(t.2.1++[(key,(b,()))],t.2.2)),0):Ty.d an × Int).2,()))
      rw [aK]
      cases decide ((t.2.1.length:Int)≥20) with
      | true=>rfl
      | false =>
       rw [aK,aK,cO (by omega) (by decide)]
   · have er:lg (x::rest) key=bif seq x.1 key then some x.2.1 else lg rest key:=by
      unfold lg
      rw [List.find?_cons]
      cases seq x.1 key <;> rfl
     have hrest:t.2.1.drop (i+1).toNat=rest:=by
      have:=congrArg (List.drop 1) hr
      rw [List.drop_drop] at this
      rw [show (i+1).toNat=i.toNat+1 by omega]
      exact this
     simp only [fW.l0,fW.b0]
     rw [aO g1,ac,aI g0 g1,hx,aE (n:=i+1) (by omega) (by omega),er]
     cases c:seq x.1 key with
     | false =>
      simp only [u6,ac,aK]
      refine ih kn fun q y hy=>hp q y ?_
      rw [hr]
      rw [hrest] at hy
      exact nX _ hy
     | true =>
      simp only [fC,aK,ac]
      cases kn with
      | true=>exact absurd (dS.1 c) (hp rfl x (by rw [hr];exact li))
      | false =>
       show (bif x.2.1 != b then _ else _)=some ((t,bif x.2.1 != b then 7 else 0).1,((t,bif x.2.1 != b then 7 else 0).2,()))
       cases x.2.1 != b with
       | true=>rfl
       | false =>
        refine (ih true fun _ y hy q=>?_).trans rfl
        rw [hrest] at hy
        have hpw:(t.2.1.drop i.toNat).Pairwise fun a b=>a.1≠b.1:=List.Pairwise.sublist (List.drop_sublist _ _) hu
        rw [hr] at hpw
        exact (List.pairwise_cons.1 hpw).1 y hy ((dS.1 c).trans q.symm)
theorem t_ (k:Nat) (x:Ty.d aY):fg.f k x=some (fR [x],()):=by
 have e:fg.f k x=some (jq x,()):=by
  unfold fg.f fg.t jq gF
  rw [kL,aZ]
  cases decide (1≤(x.1.size:Int)∧(x.1.size:Int)≤8) <;> cases decide ((x.2.2.1.size:Int)≤24) <;> cases x.2.1 <;> rfl
 rw [e]
 unfold fR
 show some (jq x,())=some ((jq x&&true)&&decide _,())
 rw [Bool.and_true,aO (by show (1:Nat)≤8;decide),Bool.and_true]
theorem zq {k:Nat} (hk:2 ^ 50≤k) {t:Ty.d an} (h:TV t) (p:Ty.d aY):iZ.f k t p=some ((kR t p).1,((kR t p).2,())):=by
 have h2:=h.2
 have hz:(t.2.2.1++[p]).length=t.2.2.1.length+1:=d_ ..
 unfold iZ.f iZ.t kR
 rw [qp k h,aZ]
 simp only []
 rw [cO (by omega) (by decide)]
 cases t.1 with
 | false=>rfl
 | true =>
  simp only [fC,aK]
  rw [t_,aZ]
  simp only []
  cases fR [p] with
  | false=>rfl
  | true =>
   simp only [fC,aK]
   rw [wE hk (t:=(true,(t.2.1,((t.2.2.1++[p]),())))) (by show (t.2.2.1++[p]).length≤1000;omega),aZ]
   simp only []
   cases decide (((o_ (t.2.2.1++[p])).length:Int) > 8) with
   | true=>rfl
   | false =>
    simp only [aK]
    cases decide (((t.2.2.1++[p]).length:Int) > 50) <;> rfl
theorem BV {F:Prop} {k:Nat} (hk:2 ^ 50≤k) {e:Ty.d aV} (h:EV F e):gk.f k e=some (e,()):=by
 have h1:=h.ids
 have h2:=h.dir
 have h3:=h.len
 have ec:dA.f k e.2.1=some (e.2.1,()):=by
  unfold dA.f dA.t fv.f fv.t
  rw [cO (by omega) (by decide),aZ]
  unfold ez.f ez.t
  rw [cO (by omega) (by decide)]
  rfl
 have et:dy.f k e.2.2.2.1=some (e.2.2.2.1,()):=by
  unfold dy.f dy.t
  refine (fa (L:=fun n i (s:List (Ty.d an))=>dy.l0 k n e.2.2.2.1 (e.2.2.2.1.length:Int) i s) (R:=fun r s=>(some (s++r,()):dy.Rs)) (Ty.z an) e.2.2.2.1 (fun i s=>(s.length:Int)=i) (fun n s hs=>?_) (fun n i s x rest g0 g1 hx hr hp ih=>?_) (n:=k) (s:=[]) (by omega) rfl).trans (by rw [List.nil_append])
  · simp only [dy.l0,dy.b0]
    rw [aQ (by omega),aK,List.append_nil]
  · have hm:x ∈ e.2.2.2.1:=by rw [← hx];exact iE (by omega)
    simp only [dy.l0,dy.b0]
    rw [aO g1,ac,aI g0 g1,hx,qp k (h.txn x hm),aZ,aE (n:=i+1) (by omega) (by omega),cO (by omega) (by decide)]
    refine (ih (s++[x]) (by rw [d_];omega)).trans ?_
    rw [rP]
    rfl
 unfold gk.f gk.t
 rw [ec,aZ,vF k h.disk.sz.l,aZ,et]
 rfl
theorem vM {k:Nat} (hk:2 ^ 50≤k) {st:Ty.d aF} {d:Ty.d aB} (hd:An d) (h1:st.1.2.1.length≤1073741824) (h2:st.2.1.length≤536870912):jS.f k st d []=some ((dp st d []).1,((dp st d []).2.1,((dp st d []).2.2,()))):=by
 have ec:dA.f k st=some (st,()):=by
  unfold dA.f dA.t fv.f fv.t
  rw [cO (by omega) (by decide),aZ]
  unfold ez.f ez.t
  rw [cO (by omega) (by decide)]
  rfl
 unfold jS.f jS.t dp
 rw [ec,aZ,vF k hd.l,aZ,Bt hk hd (by omega) (by omega),aZ]
 simp only []
 cases eN st d with
 | false=>rfl
 | true =>
  simp only [fC,aK]
  rw [A7 hk (by decide),aZ]
  rfl
theorem zS {l:List (Ty.d an)} {i:Nat} (h:i<l.length):l.set i (l.getD i (Ty.z an))=l:=by
 have e:l.getD i (Ty.z an)=l[i]:=by simp [List.getD,h]
 rw [e,List.set_getElem_self]
theorem AR {e:Ty.d aV} {i:Int} (h0:LE.le (α:=Int) 0 i) (h1:LT.lt (α:=Int) i (e.2.2.2.1.length:Int)):zg e i (g_ e i)=e:=by
 unfold zg g_
 rw [zS (by omega)]
theorem I0 {t:Ty.d an} {key:ByteArray} {b:Int} (h:((mo t key b).2 != 0)=true):(mo t key b).1=t:=by
 unfold mo at h ⊢
 cases c1:!t.1 with
 | true=>rfl
 | false =>
  cases c2:!gF key with
  | true=>rfl
  | false =>
   rw [c1,c2] at h
   simp only [aK] at h ⊢
   cases c:lg t.2.1 key with
   | some b'=>rfl
   | none =>
    rw [c] at h
    simp only [] at h ⊢
    cases d:decide ((t.2.1.length:Int)≥20) with
    | true=>rfl
    | false=>rw [d] at h;cases h
theorem Ey {t:Ty.d an} {p:Ty.d aY} (h:(kR t p).2=false):(kR t p).1=t:=by
 unfold kR at h ⊢
 cases c1:!t.1 with
 | true=>rfl
 | false =>
  cases c2:!fR [p] with
  | true=>rfl
  | false =>
   cases c3:decide (((o_ (t.2.2.1++[p])).length:Int) > 8) with
   | true=>rfl
   | false =>
    cases c4:decide (((t.2.2.1++[p]).length:Int) > 50) with
    | true=>rfl
    | false=>rw [c1,c2,c3,c4] at h;cases h
theorem E_ {F:Prop} {k:Nat} (hk:2 ^ 50≤k) {e:Ty.d aV} (h:EV F e) (hu:UE e) {s:Ty.d az} (h0:LE.le (α:=Int) 0 s.2.1) (h1:LT.lt (α:=Int) s.2.1 (e.2.2.2.1.length:Int)):gN.f k e s=oE (yL e s):=by
 have ht:TV (g_ e s.2.1):=qx h.txn (Int.toNat s.2.1)
 have hq:UQ (g_ e s.2.1):=Be hu _
 have hdir:=h.dir
 have hko:dZ.f k s.2.2.1=some (gF s.2.2.1,()):=kL k s.2.2.1
 unfold gN.f gN.t yL
 rw [aI h0 h1,hko,aZ]
 simp only []
 cases gF s.2.2.1 with
 | false=>rfl
 | true =>
  simp only [fC,aK]
  rw [show List.getD e.2.2.2.1 (Int.toNat s.2.1) (Ty.z an)=g_ e s.2.1 from rfl]
  unfold om.f om.t
  rw [G5 hk (by have:=ht.2;omega),aZ]
  cases nz (g_ e s.2.1).2.2.1 s.2.2.1 with
  | some p =>
   simp only [vk,fC,aK]
   cases hp:p.2.1 <;> rfl
  | none =>
   simp only [vk,u6,ac,aZ,aK]
   unfold Bu
   rw [G3 hk h.disk.sz (by omega),aZ]
   simp only []
   generalize nN e.2.1.2.1 e.2.2.1 s.2.2.1=p
   cases p.2==3 with
   | true=>rfl
   | false =>
    simp only [aK]
    unfold nE.f nE.t
    rw [BM hk ht hq,aZ]
    simp only []
    cases c:(mo (g_ e s.2.1) s.2.2.1 p.1.2.2.1).2 != 0 with
    | true =>
     simp only [ac,aZ]
     rw [I0 c]
     have e1:=AR h0 h1
     unfold zg at e1
     exact congrArg (fun x=>some (x,_)) e1
    | false=>rfl
theorem D6 {F:Prop} {k:Nat} (hk:2 ^ 50≤k) {e:Ty.d aV} (h:EV F e) {s:Ty.d az} (h0:LE.le (α:=Int) 0 s.2.1) (h1:LT.lt (α:=Int) s.2.1 (e.2.2.2.1.length:Int)) :
 ((kN.f k (List.getD e.2.2.2.1 (Int.toNat s.2.1) (Ty.z an)) s).bind fun r5=>(let l6:=(List.set e.2.2.2.1 (Int.toNat s.2.1) r5.1);(some ((e.1,(e.2.1,(e.2.2.1,(l6,())))),r5.2))):Option (Ty.d aV × Ty.d bz × Unit))=oE (zo e s):=by
 have ht:TV (g_ e s.2.1):=qx h.txn (Int.toNat s.2.1)
 have e1:=AR h0 h1
 unfold zg at e1
 unfold kN.f kN.t zo
 rw [show List.getD e.2.2.2.1 (Int.toNat s.2.1) (Ty.z an)=g_ e s.2.1 from rfl,show ((s.2.2.1,((s.1==4),(s.2.2.2.1,()))):Ty.d aY)=s8 s from rfl,zq hk ht,aZ,t_,aZ]
 simp only []
 cases c:(kR (g_ e s.2.1) (s8 s)).2 with
 | false =>
  rw [Ey c]
  cases fR [s8 s] with
  | false=>exact congrArg (fun x=>some (x,_)) e1
  | true=>exact congrArg (fun x=>some (x,_)) e1
 | true =>
  have hp:fR [s8 s]=true:=by
   unfold kR at c
   cases c1:!(g_ e s.2.1).1 with
   | true=>rw [c1] at c;cases c
   | false =>
    rw [c1] at c
    cases c2:fR [s8 s] with
    | true=>rfl
    | false=>rw [c2] at c;cases c
  rw [hp]
  rfl
theorem Dr {F:Prop} {k:Nat} (hk:2 ^ 50≤k) {e:Ty.d aV} (h:EV F e) (hu:UE e) {s:Ty.d az} (hc:s.1=5→(g_ e s.2.1).2.2.1=[]):dW.f k e s=oE (bif !F5 e s then (e,oU 4) else rW e s):=by
 have hlen:=h.len
 have hids:=h.ids
 have hdir:=h.dir
 unfold dW.f dW.t kK.f kK.t F5
 rw [mq,aZ]
 simp only []
 by_cases r:(1:Int)≤s.1∧s.1≤6
 · rw [aO r]
   simp only [ac,Bool.true_and]
   rw [mq,aZ]
   simp only []
   rw [aE (n:=(e.2.2.2.1.length:Int)-1) (by omega) (by omega)]
   by_cases q:0≤s.2.1∧s.2.1≤(e.2.2.2.1.length:Int)-1
   · have h0:LE.le (α:=Int) 0 s.2.1:=q.1
     have h1:LT.lt (α:=Int) s.2.1 (e.2.2.2.1.length:Int):=by have q2:LE.le (α:=Int) s.2.1 ((e.2.2.2.1.length:Int)-1):=q.2;omega
     have ht:TV (g_ e s.2.1):=qx h.txn (Int.toNat s.2.1)
     rw [aO q]
     simp only [ac,Bool.true_and]
     rw [aI h0 h1,aZ,aI h0 h1]
     simp only []
     have hf:((List.getD e.2.2.2.1 (Int.toNat s.2.1) (Ty.z an)).1==(s.1 != 1))=!((g_ e s.2.1).1==(s.1==1)):=by
      show ((g_ e s.2.1).1==!(s.1==1))=_
      cases (g_ e s.2.1).1 <;> cases s.1==1 <;> rfl
     rw [hf]
     cases (g_ e s.2.1).1==(s.1==1) with
     | true=>rfl
     | false =>
      simp only [u6,fC,aK]
      unfold rW
      rw [E_ hk h hu h0 h1]
      cases c1:s.1==1 with
      | true=>rfl
      | false =>
       cases c6:s.1==6 with
       | true=>rfl
       | false =>
        cases c2:s.1==2 with
        | true=>rfl
        | false =>
         simp only [aK]
         have hput:=D6 hk h h0 h1
         cases c5:s.1==5 with
         | true =>
          have e5:s.1=5:=Jq c5
          have hw:=hc e5
          rw [show (s.1==3)=false by rw [e5];rfl,show (s.1==4)=false by rw [e5];rfl]
          simp only [ac,aK]
          rw [show List.getD e.2.2.2.1 (Int.toNat s.2.1) (Ty.z an)=g_ e s.2.1 from rfl,Bm hk (by have:=ht.1;omega) hdir,aZ]
          simp only []
          unfold nV
          cases pm (g_ e s.2.1).2.1 e.2.1.2.1 with
          | false=>rfl
          | true =>
           simp only [fC,aK]
           rw [wE hk (by rw [hw];exact Nat.zero_le _),aZ]
           simp only []
           rw [hw,show o_ []=[] from rfl,vM hk h.disk.sz (by omega) (by omega)]
           rfl
         | false =>
          simp only [aK]
          cases c3:s.1==3 with
          | true =>
           simp only [ac]
           exact hput
          | false =>
           simp only [aK]
           cases c4:s.1==4 with
           | true =>
            simp only [ac]
            exact hput
           | false =>
            exfalso
            have n1:=beq_eq_false_iff_ne.1 c1
            have n2:=beq_eq_false_iff_ne.1 c2
            have n3:=beq_eq_false_iff_ne.1 c3
            have n4:=beq_eq_false_iff_ne.1 c4
            have n5:=beq_eq_false_iff_ne.1 c5
            have n6:=beq_eq_false_iff_ne.1 c6
            have key:∀ S:Int,1≤S→S≤6→S≠1→S≠2→S≠3→S≠4→S≠5→S≠6→False:=by omega
            exact key s.1 r.1 r.2 n1 n2 n3 n4 n5 n6
   · rw [aQ q]
     rfl
 · rw [aQ r]
   simp only [aK,aZ,u6,ac,Bool.false_and,Bool.and_false]
   rfl
theorem CF {F:Prop} {k:Nat} (hk:2 ^ 50≤k) {e:Ty.d aV} (h:EV F e) (hu:UE e) {s:Ty.d az} (hc:s.1=5→(g_ e s.2.1).2.2.1=[]) (h7:s.1≠7) (h9:s.1≠9) (h10:s.1≠10) (h11:s.1≠11):fU.f k e s=oE (rF e s):=by
 have hdir:=h.dir
 unfold fU.f fU.t
 rw [BV hk h,aZ]
 unfold gX.f gX.t rF
 rw [mT h7,mT h9,mT h10,mT h11]
 simp only [aK]
 cases e.1 with
 | false=>rfl
 | true =>
  simp only [fC,aK]
  cases s.1==8 with
  | true =>
   simp only [ac]
   rw [EF hk (by omega)]
   rfl
  | false =>
   simp only [aK]
   rw [Dr hk h hu hc]
   rfl
theorem KC (k:Nat) {c:ni} (h:CI c) {n:Int} (h0:0<n) (h1:n≤256):lj (b9.f k c n) (fun r=>CI r.1):=ov (lU k h h0 h1) fun _ q=>q.1
theorem Lp {k:Nat} (hk:2 ^ 50≤k) {c:ni} (h:CI c) {m:Int} (h0:0≤m) (h1:m≤200):lj (fP.f k c m) (fun r=>CI r.1):=ov (Jv hk h h0 h1) fun _ q=>q.1
theorem MZ (k:Nat) {c:ni} (h:CI c) {l:List ByteArray} (h0:0<l.length) (h1:l.length≤256):lj (cm.f k c l) (fun r=>CI r.1):=ov (D3 k h h0 h1) fun _ q=>q.1
theorem AH (k:Nat) {c:ni} (h:CI c) {l:List Int} (h0:0<l.length) (h1:l.length≤256):lj (aX.f k c l) (fun r=>CI r.1):=ov (wY k h h0 h1) fun _ q=>q.1
theorem Gm {α:Type} {P:α→Prop} {b:Nat} {n:Int} {x:Option α} (h0:0≤n) (h1:n≤1099511627776) (hb:b≤128) (h:lj x P):lj (vJ b n x) P:=by rw [yK h0 h1 hb];exact h
theorem AQ {k:Nat} (hk:2 ^ 50≤k) {c:ni} (h:CI c):lj (gz.f k c) (fun r=>CI r.1):=by
 unfold gz.f gz.t
 repeat' first
  | exact am (by assumption)
  | refine cW (KC k (by assumption) (by omega) (by omega)) fun _ _=>?_
  | refine cW (Kp k (by assumption)) fun _ _=>?_
  | refine cW (Lp hk (by assumption) (by omega) (by omega)) fun _ _=>?_
  | refine cW (AH k (by assumption) (by decide) (by decide)) fun _ _=>?_
  | refine cW (MZ k (by assumption) (by decide) (by decide)) fun _ _=>?_
  | refine bm (fun _=>?_) (fun _=>?_)
theorem HO {k:Nat} (hk:2 ^ 50≤k):∀ (m n:Nat) (c:ni) (out:List (Ty.d az)) (rows:List Bool),m<n→CI c→out.length+2*m≤1000→rows.length=3 →
 lj (eU.l0 k n (m:Int) c.1 c.2.1 c.2.2.1 out rows) (fun r=>CI r.1∧r.2.1.length≤1000):=by
 intro m
 induction m with
 | zero =>
  intro n c out rows hn hc ho hr
  obtain ⟨n,rfl⟩:∃ q,n=q+1:=⟨n-1,by omega⟩
  simp only [eU.l0,eU.b0]
  exact qw (aQ (by omega)) (am ⟨hc,by show out.length≤1000;omega⟩)
 | succ m ih =>
  intro n c out rows hn hc ho hr
  obtain ⟨n,rfl⟩:∃ q,n=q+1:=⟨n-1,by omega⟩
  have hw:aG (((m+1:Nat):Int)-1)=(m:Int):=by rw [aE (by omega) (by omega)];omega
  simp only [eU.l0,eU.b0,hw]
  refine m7 (aO (by omega)) (cW (AQ hk hc) fun r2 q2=>?_)
  repeat' first
   | exact ih n _ _ _ (by omega) (by assumption) (by simp only [zT,List.length_singleton];omega) (by first | exact hr | rfl | (simp only [List.length_set];exact hr))
   | refine cW (Iq k (by assumption) (by omega) (by omega)) fun _ _=>?_
   | refine vL (by first | omega | (simp only [zT,List.length_singleton];omega)) (by decide) ?_
   | refine Gm (by omega) (by omega) (by decide) ?_
   | refine cM (eM k _ _ _) (bm (fun hq=>?_) (fun _=>?_))
   | refine gR (by have hq':=of_decide_eq_true hq;exact hq'.1) (by have hq':=of_decide_eq_true hq;exact Int.lt_of_le_of_lt hq'.2 (by rw [hr];decide)) ?_
   | refine bm (fun _=>?_) (fun _=>?_)
theorem Ng {k:Nat} {code:List Int} (hl:code.length≤1048576) (hb:∀ x ∈ code,(0:Int)≤x∧x≤255) {i:Int} (h0:0≤i) (h1:i≤1000):lj (pM.f k code i) (fun r=>0≤r.1∧r.1≤255):=by
 unfold pM.f pM.t
 refine bm (fun hd=>?_) (fun hd=>?_)
 · have hd:=of_decide_eq_true hd
   have hx:=hb (code.getD i.toNat (Ty.z (.int .u8))) (iE (by omega))
   refine gR h0 hd (am ?_)
   show 0≤aG _∧aG _≤255
   rw [aE (by omega) (by omega)]
   exact hx
 · have hd:=of_decide_eq_false hd
   refine am ?_
   show 0≤Int.tmod _ 256∧Int.tmod _ 256≤255
   rw [aE (n:=i*37) (by omega) (by omega),aE (n:=(code.length:Int)*11) (by omega) (by omega),aE (n:=i*37+(code.length:Int)*11) (by omega) (by omega),Int.tmod_eq_emod_of_nonneg (by omega)]
   omega
theorem M0 {a n:Int} (h0:0≤a) (hn:0<n):0≤Int.tmod a n∧Int.tmod a n<n:=by
 rw [Int.tmod_eq_emod_of_nonneg h0]
 exact ⟨Int.emod_nonneg _ (by omega),Int.emod_lt_of_pos _ hn⟩
theorem y7 {k:Nat} (hk:2 ^ 50≤k) {st:Ty.d aF} (hi:st.1.2.1.length≤1048576) (hd:st.2.1.length≤1073741824):dF.f k st st=some (true,()):=by
 unfold dF.f dF.t
 simp only [bne_self_eq_false,aK]
 refine fa (L:=fun n i (_:Unit)=>dF.l0 k n i st.1.1 st.1.2.1 st.2.1 st.2.2.1 st.2.2.2.1 st.2.2.2.2.1 st.1.1 st.1.2.1 st.2.1 st.2.2.1 st.2.2.2.1 st.2.2.2.2.1) (R:=fun r _=>some (true,())) (Ty.z (.int .i64)) st.1.2.1 (fun _ _=>True) (fun n _ _=>?_) (fun n i _ x rest h0 h1 hx hr hp ih=>?_) (n:=k) (s:=()) (by omega) trivial
 · simp only [dF.l0,dF.b0]
   rw [aQ (by omega),aK,sF hk hd,sx.2 rfl]
   rfl
 · simp only [dF.l0,dF.b0]
   rw [aO h1,ac]
   repeat rw [aI h0 h1]
   rw [bne_self_eq_false,aK,aE (n:=i+1) (by omega) (by omega)]
   exact ih () trivial
theorem zx {k:Nat} (hk:2 ^ 50≤k) {d:Ty.d aB} (hl:d.1.length≤1048576):df.f k d d=some (true,()):=by
 unfold df.f df.t
 rw [bne_self_eq_false,bne_self_eq_false,bne_self_eq_false,beq_self_eq_true,fC]
 simp only [aK]
 refine fa (L:=fun n i (_:Unit)=>df.l0 k n i d.1 d.2.1 d.2.2.1 d.2.2.2.1 d.1 d.2.1 d.2.2.1 d.2.2.2.1) (R:=fun r _=>some (true,())) (Ty.z aD) d.1 (fun _ _=>True) (fun n _ _=>?_) (fun n i _ x rest h0 h1 hx hr hp ih=>?_) (n:=k) (s:=()) (by omega) trivial
 · simp only [df.l0,df.b0]
   rw [aQ (by omega),aK]
 · simp only [df.l0,df.b0]
   rw [aO h1,ac]
   repeat rw [aI h0 h1]
   rw [hx,aE (n:=i+1) (by omega) (by omega),bO,bO,beq_self_eq_true]
   exact ih () trivial
theorem BO {k:Nat} (hk:2 ^ 50≤k) {c:ni} (h:CI c):lj (eU.f k c 20) (fun r=>CI r.1∧r.2.1.length≤1000):=by
 unfold eU.f eU.t
 rw [show aG (20+1)=21 from by decide]
 refine Gm (by omega) (by omega) (by decide) (cW (lU k h (by omega) (by omega)) fun r q=>?_)
 obtain ⟨hc,a,b⟩:=q
 have:=HO hk r.2.1.toNat k r.1 [] (List.replicate (Int.toNat 3) (Ty.z .bool)) (by omega) hc (by simp only [List.length_nil];omega) rfl
 rw [show ((r.2.1.toNat:Nat):Int)=r.2.1 by omega] at this
 exact this
def EU (e:Ty.d aV):Prop:=EV False e∧UE e
theorem Nf {k:Nat} (hk:2 ^ 50≤k) {steps:List (Ty.d az)} (hs:steps.length≤1000) {c:ni} (hc:CI c) {a1:List Int} {a2:aS} {a3:c8} {a4:List (Ty.d an)} {b1 b8:Bool} {b2 b3 b4 b5 b6 b7:Int}:∀ (m n:Nat) (i:Int) (e:Ty.d aV),m<n→0≤i→i+(m:Int)=(steps.length:Int)→EU e →
 lj (dw.l0 k n i c.1 c.2.1 c.2.2.1 a1 a2 a3 a4 b1 b2 b3 b4 b5 b6 b7 b8 e.1 e.2.1.1.1 e.2.1.1.2.1 e.2.1.2.1 e.2.1.2.2.1 e.2.1.2.2.2.1 e.2.1.2.2.2.2.1 e.2.2.1.1 e.2.2.1.2.1 e.2.2.1.2.2.1 e.2.2.1.2.2.2.1 e.2.2.2.1 steps) (fun r=>CI r.1∧EU r.2.1):=by
 intro m
 induction m with
 | zero =>
  intro n i e hn h0 h1 he
  obtain ⟨n,rfl⟩:∃ q,n=q+1:=⟨n-1,by omega⟩
  simp only [dw.l0,dw.b0]
  exact qw (aQ (by omega)) (am ⟨hc,he⟩)
 | succ m ih =>
  intro n i e hn h0 h1 he
  obtain ⟨n,rfl⟩:∃ q,n=q+1:=⟨n-1,by omega⟩
  have hw:aG (i+1)=i+1:=aE (by omega) (by omega)
  simp only [dw.l0,dw.b0,hw]
  refine m7 (aO (by omega)) (gR h0 (by omega) ?_)
  obtain ⟨e1,e2,e3⟩:=Ka hk he.1 he.2 (List.getD steps (Int.toNat i) (Ty.z az))
  refine cM e1 ?_
  exact ih n (i+1) _ (by omega) (by omega) (by omega) ⟨e2,e3⟩
theorem EC {k:Nat} (hk:2 ^ 50≤k) {c:ni} (h:CI c):lj (dw.f k c) (fun r=>CI r.1∧EU r.2.1):=by
 unfold dw.f dw.t
 refine cW (P:=fun r=>CI r.1∧0≤r.2.1∧r.2.1≤100000) ?_ fun r1 q1=>?_
 · refine ov (wY k h (l:=[100000,100000,300]) (by decide) (by decide)) fun r q=>⟨q.1,?_⟩
   have hm:=q.2
   simp only [List.mem_cons,List.not_mem_nil,or_false] at hm
   rcases hm with w | w | w <;> rw [w] <;> exact ⟨by decide,by decide⟩
 obtain ⟨c1,g0,g1⟩:=q1
 have hnew:=KA (n:=r1.2.1) g0 g1
 refine cM (Dg k g0 g1) ?_
 refine cM (pf hk (d:=Ki r1.2.1) hnew.sz) ?_
 refine cW (BO hk c1) fun r4 q4=>?_
 have he:EU (Ed (kG (Ki r1.2.1))):=⟨GV hnew fun q=>q.elim,FW⟩
 exact Nf hk q4.2 q4.1 r4.2.1.length k 0 (Ed (kG (Ki r1.2.1))) (by have:=q4.2;omega) (Int.le_refl _) (by omega) he
theorem A8 {k:Nat} (hk:2 ^ 50≤k) {code:List Int} (hl:code.length≤1048576):lj (eZ.f k code) (fun r=>EU r.1):=by
 unfold eZ.f eZ.t
 refine cW (L4 hk hl) fun r1 q1=>?_
 refine cW (EC hk q1) fun r2 q2=>?_
 obtain ⟨c2,he⟩:=q2
 have h3:=he.1.len
 refine cW (AQ hk c2) fun r3 c3=>?_
 refine cW (lU k c3 (n:=14) (by omega) (by omega)) fun r4 q4=>?_
 refine bm (fun _=>cW (AH k q4.1 (by decide) (by decide)) fun r5 _=>am he) fun _=>?_
 refine bm (fun _=>cW (lU k q4.1 (n:=4) (by omega) (by omega)) fun r6 q6=>am ?_) fun _=>?_
 · obtain ⟨_,b0,b1⟩:=q6
   obtain ⟨he,hu⟩:=he
   have hd:=he.disk
   refine ⟨⟨he.ids,he.dir,⟨hd.len,hd.cap0,hd.cap1,?_,?_,hd.use,hd.all,hd.keys⟩,he.len,he.txn,fun up nd=>JR (he.mi up nd) ⟨hd.len,hd.cap0,hd.cap1,?_,?_,hd.use,hd.all,hd.keys⟩ rfl,fun q=>q.elim⟩,hu⟩
   · show LE.le (α:=Int) (-1) r6.2.1
     omega
   · show LE.le (α:=Int) r6.2.1 100000
     omega
   · show LE.le (α:=Int) (-1) r6.2.1
     omega
   · show LE.le (α:=Int) r6.2.1 100000
     omega
 refine bm (fun _=>?_) fun _=>am he
 rw [aE (n:=(r2.2.1.2.2.2.1.length:Int)+1) (by omega) (by omega)]
 refine cW (lU k q4.1 (n:=(r2.2.1.2.2.2.1.length:Int)+1) (by omega) (by omega)) fun r7 q7=>?_
 obtain ⟨_,b0,b1⟩:=q7
 refine Gj b0 (by omega) (am ?_)
 obtain ⟨he,hu⟩:=he
 exact ⟨⟨he.ids,he.dir,he.disk,by show (List.take _ _).length≤3;rw [List.length_take];omega,fun t ht=>he.txn t (List.mem_of_mem_take ht),he.mi,he.fu⟩,fun t ht=>hu t (List.mem_of_mem_take ht)⟩
theorem Lq {k:Nat} (hk:2 ^ 50≤k) {a:Ty.d bz} (ha:a.2.2.1.length≤1073741824):fY.f k a a=some (true,()):=by
 unfold fY.f fY.t
 rw [bne_self_eq_false,aK,bO]
 simp only [fC,aK,bne_self_eq_false]
 refine fa (L:=fun n i (_:Unit)=>fY.l0 k n i a.1 a.2.1 a.2.2.1 a.1 a.2.1 a.2.2.1) (R:=fun _ _=>some (true,())) (Ty.z .str) a.2.2.1 (fun _ _=>True) (fun n _ _=>?_) (fun n i _ x rest h0 h1 hx hr hp ih=>?_) (n:=k) (s:=()) (by omega) trivial
 · simp only [fY.l0,fY.b0]
   rw [aQ (by omega),aK]
 · simp only [fY.l0,fY.b0]
   rw [aO h1,ac,aI h0 h1,aI h0 h1,hx,bO,aE (n:=i+1) (by omega) (by omega)]
   exact ih () trivial
theorem Is {k:Nat} (hk:2 ^ 50≤k) {a:Ty.d bz} (ha:a.2.2.1.length≤1073741824):cZ.f k [a] [a]=some (true,()):=by
 obtain ⟨n,hn⟩:∃ q,k=q+2:=⟨k-2,by omega⟩
 unfold cZ.f cZ.t
 rw [bne_self_eq_false,aK]
 have e:cZ.l0 k k=cZ.l0 k (n+2):=by rw [← hn]
 rw [e]
 simp only [cZ.l0,cZ.b0]
 rw [aO (by show (0:Int)<((1:Nat):Int);decide),ac,aI (by decide) (by show (0:Int)<((1:Nat):Int);decide),aI (by decide) (by show (0:Int)<((1:Nat):Int);decide)]
 rw [show List.getD [a] (Int.toNat 0) (Ty.z bz)=a from rfl,Lq hk ha,aZ]
 simp only [fC,aK]
 rw [aE (n:=(0:Int)+1) (by omega) (by omega),aQ (by show ¬ (0+1:Int)<((1:Nat):Int);decide),aK]
theorem LD {F:Prop} {e:Ty.d aV} (h:EV F e) (s:Ty.d az) (h10:s.1≠10):(rF e s).2.2.2.1.length≤1073741824:=by
 have hd:=h.dir
 unfold rF
 rw [mT h10,aK]
 cases s.1==11 with
 | true =>
  show (Hh e s).2.2.2.1.length≤_
  unfold Hh
  cases !decide (0≤s.2.2.2.2.1∧s.2.2.2.2.1≤100000-(dl e.2.2.1.1:Int)) <;> exact Nat.zero_le _
 | false =>
  cases !e.1 with
  | true=>exact Nat.zero_le _
  | false =>
   cases s.1==7 with
   | true=>exact Nat.zero_le _
   | false =>
    cases s.1==8 with
    | true =>
     show (e.2.1.2.1.map (·.1)).length≤_
     rw [List.length_map]
     omega
    | false =>
     cases s.1==9 with
     | true=>exact Nat.zero_le _
     | false =>
      cases !F5 e s with
      | true=>exact Nat.zero_le _
      | false =>
       show (rW e s).2.2.2.1.length≤_
       unfold rW
       cases s.1==1 with
       | true=>exact Nat.zero_le _
       | false =>
        cases s.1==6 with
        | true=>exact Nat.zero_le _
        | false =>
         cases s.1==2 with
         | true =>
          show (yL e s).2.2.2.1.length≤_
          unfold yL
          cases !gF s.2.2.1 with
          | true=>exact Nat.zero_le _
          | false =>
           rw [aK]
           cases nz (g_ e s.2.1).2.2.1 s.2.2.1 with
           | some p =>
            show (bif p.2.1 then (e,oU 8) else (e,(0,(p.2.2.1,([],())))):vj).2.2.2.1.length≤_
            cases p.2.1 <;> exact Nat.zero_le _
           | none =>
            show (Bu e s (g_ e s.2.1) (nN e.2.1.2.1 e.2.2.1 s.2.2.1)).2.2.2.1.length≤_
            unfold Bu
            cases (nN e.2.1.2.1 e.2.2.1 s.2.2.1).2==3 with
            | true=>exact Nat.zero_le _
            | false =>
             rw [aK]
             cases (mo (g_ e s.2.1) s.2.2.1 (nN e.2.1.2.1 e.2.2.1 s.2.2.1).1.2.2.1).2 != 0 <;> exact Nat.zero_le _
         | false =>
          cases s.1==5 with
          | true =>
           show (nV e s).2.2.2.1.length≤_
           unfold nV
           cases !pm (g_ e s.2.1).2.1 e.2.1.2.1 <;> exact Nat.zero_le _
          | false =>
           show (zo e s).2.2.2.1.length≤_
           unfold zo
           cases !fR [s8 s] with
           | true=>exact Nat.zero_le _
           | false =>
            rw [aK]
            cases !(kR (g_ e s.2.1) (s8 s)).2 <;> exact Nat.zero_le _
theorem u_ {k:Nat} (hk:2 ^ 50≤k) {e:Ty.d aV} (h:EU e) {s:Ty.d az} (hc:s.1=5→(g_ e s.2.1).2.2.1=[]) (h7:s.1≠7) (h9:s.1≠9) (h10:s.1≠10) (h11:s.1≠11) :
 lj ((fU.f k e s).bind fun r9=>((bn.f k e s).bind fun r10=>((cZ.f k [r9.2.1] [r10.2.1]).bind fun r11=>(bif r11.1 then ((df.f k r9.1.2.2.1 e.2.2.1).bind fun r12=>(bif r12.1 then ((dF.f k r9.1.2.1 e.2.1).bind fun r13=>(bif r13.1 then (some ((r9.1.1==e.1),())) else (some (false,())))) else (some (false,())))) else (some (false,())))))) (fun r:Bool × Unit=>r=(true,())):=by
 obtain ⟨he,hu⟩:=h
 have hdir:=he.dir
 have hids:=he.ids
 have hl:=he.disk.sz.l
 have hlen:=he.disk.len
 obtain ⟨q1,q2,q3⟩:=Lx hc h7 h9 h10 h11
 refine cM (CF hk he hu hc h7 h9 h10 h11) ?_
 refine cM (wN hk he s) ?_
 refine cM (Is hk (LD he s h10)) (m7 rfl ?_)
 rw [show ((rF e s).1,(rF e s).2,()).1.2.2.1=e.2.2.1 from q3,show ((rF e s).1,(rF e s).2,()).1.2.1=e.2.1 from q2,show ((rF e s).1,(rF e s).2,()).1.1=e.1 from q1]
 refine cM (zx hk (by omega)) (m7 rfl ?_)
 refine cM (y7 hk (by omega) (by omega)) (m7 rfl ?_)
 exact am (by rw [beq_self_eq_true])
theorem Eh {k:Nat} (hk:2 ^ 50≤k) {code:List Int} (hb:∀ x ∈ code,(0:Int)≤x∧x≤255):dc.f k code=some (true,()):=by
 refine Lw ?_
 unfold dc.f dc.t
 have hbig:po.f k code=some (decide ((code.length:Int) > 1048576),()):=rfl
 refine cM hbig ?_
 refine bm (fun _=>am rfl) fun hbg=>?_
 have hl:code.length≤1048576:=by have:=of_decide_eq_false hbg;omega
 refine cW (A8 hk hl) fun r2 he=>?_
 refine cW (Ng hl hb (Int.le_refl 0) (by omega)) fun r3 q3=>?_
 obtain ⟨g0,g1⟩:=M0 (a:=r3.1) (n:=7) q3.1 (by omega)
 refine gR g0 g1 ?_
 obtain ⟨m,hm⟩:∃ m:Nat,m=(Int.tmod r3.1 7).toNat:=⟨_,rfl⟩
 have hm7:m<7:=by omega
 rw [← hm]
 obtain ⟨K,hK⟩:∃ K:Int,K=List.getD [6,1,2,8,3,4,5] m (Ty.z (.int .i64)):=⟨_,rfl⟩
 have hKn:K≠7∧K≠9∧K≠10∧K≠11:=by
  rw [hK]
  have:∀ m:Nat,m<7→(List.getD [6,1,2,8,3,4,5] m (0:Int))≠7∧(List.getD [6,1,2,8,3,4,5] m (0:Int))≠9∧(List.getD [6,1,2,8,3,4,5] m (0:Int))≠10∧(List.getD [6,1,2,8,3,4,5] m (0:Int))≠11:=by decide
  exact this m hm7
 rw [← hK]
 obtain ⟨n7,n9,n10,n11⟩:=hKn
 refine bm (fun c5=>?_) fun c5=>?_
 · refine bm (fun _=>am rfl) fun c0=>bm (fun _=>am rfl) fun c1=>?_
   have c0:=of_decide_eq_false c0
   have c1:=of_decide_eq_false c1
   have i0:LE.le (α:=Int) 0 r2.2.1.2.1:=Int.not_lt.1 c0
   have i1:LT.lt (α:=Int) r2.2.1.2.1 (r2.1.2.2.2.1.length:Int):=Int.not_le.1 c1
   refine gR i0 i1 (bm (fun _=>am rfl) fun c2=>?_)
   have c2:=of_decide_eq_false c2
   refine u_ hk he (s:=(K,r2.2.1.2)) (fun _=>?_) n7 n9 n10 n11
   exact List.length_eq_zero_iff.1 (by
    show (List.getD r2.1.2.2.2.1 (Int.toNat r2.2.1.2.1) (Ty.z an)).2.2.1.length=0
    omega)
 · exact u_ hk he (s:=(K,r2.2.1.2)) (fun q=>absurd q (beq_eq_false_iff_ne.1 c5)) n7 n9 n10 n11
theorem fnNothingDone_pure:∀ x,Wf (tup [.slice (.int .u8)]) x→∃ k r,dc.f k x.1=some r∧oW (B:=[.bool]) (gh ([.val (.slice (.int .u8))])) r=(true,()):=by
 rintro ⟨a0,_⟩ ⟨f0,_⟩
 suffices Ev (fun k=>dc.f k a0) (true,()) by
  obtain ⟨k,h⟩:=this.some
  exact ⟨k,(true,()),h,rfl⟩
 have hb:∀ x ∈ a0,(0:Int)≤x∧x≤255:=fun x hx=>by
  have h1:(Lit.int .u8 x).wf=true:=f0.2 x hx
  have h2:(0:Int)≤x∧x≤(255:Int):=by simpa [Lit.wf,IntKind.min,IntKind.max,IntKind.bits,IntKind.signed] using h1
  exact h2
 exact Md fun k hk=>Eh hk hb
end Go.Proofs.YthjppgafienaoaaGreatDoor.G
